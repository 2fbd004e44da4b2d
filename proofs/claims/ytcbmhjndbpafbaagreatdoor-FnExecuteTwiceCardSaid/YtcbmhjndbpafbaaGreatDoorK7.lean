import Derived.Test.YtcbmhjndbpafbaaGreatDoorJ2
import Derived.Test.YtcbmhjndbpafbaaGreatDoorJ4
set_option linter.all false
set_option maxRecDepth 20000
namespace Go.SW
def ni (l : List Nat) : List Int := l.map fun n : Nat => (n : Int)
theorem ni_len (l : List Nat) : (ni l).length = l.length := by simp [ni]
theorem ni_get (l : List Nat) {i : Nat} (h : i < l.length) : (ni l).getD i 0 = ((l.getD i 0 : Nat) : Int) := by simp [ni, h]
theorem vi_ni_snoc (l : List Nat) (x : Nat) (y : Int) (h : y = (x : Int)) : vi (ni l) ++ [.int .i64 y] = vi (ni (l ++ [x])) := by subst h; simp [vi, ni]
def nearN (R C i : Nat) : List Nat :=
 ((([] ++ if C ≤ i then [i - C] else []) ++ if i % C + 1 < C then [i + 1] else []) ++ if i + C < R * C then [i + C] else []) ++ if 0 < i % C then [i - 1] else []
theorem nearN_mem {R C i j : Nat} : j ∈ nearN R C i ↔ (C ≤ i ∧ j = i - C) ∨ (i % C + 1 < C ∧ j = i + 1) ∨ (i + C < R * C ∧ j = i + C) ∨ (0 < i % C ∧ j = i - 1) := by
 unfold nearN
 by_cases h1 : C ≤ i <;> by_cases h2 : i % C + 1 < C <;> by_cases h3 : i + C < R * C <;> by_cases h4 : 0 < i % C <;> simp [h1, h2, h3, h4, or_assoc]
theorem nearN_len (R C i : Nat) : (nearN R C i).length ≤ 4 := by
 unfold nearN
 by_cases h1 : C ≤ i <;> by_cases h2 : i % C + 1 < C <;> by_cases h3 : i + C < R * C <;> by_cases h4 : 0 < i % C <;> simp [h1, h2, h3, h4]
theorem east_lt {R C i : Nat} (hi : i < R * C) (h : i % C + 1 < C) : i + 1 < R * C := by
 have hC : 0 < C := om
 have hq : i / C < R := Nat.div_lt_of_lt_mul (by rw [Nat.mul_comm]; exact hi)
 have h1 := Nat.div_add_mod i C
 have h2 := Nat.mul_le_mul_left C (show i / C + 1 ≤ R from om)
 rw [Nat.mul_add, Nat.mul_one] at h2
 rw [Nat.mul_comm R C]; omega
theorem nearN_lt {R C i : Nat} (hi : i < R * C) : ∀ j ∈ nearN R C i, j < R * C := by
 intro j hj
 rcases nearN_mem.1 hj with ⟨_, rfl⟩ | ⟨h, rfl⟩ | ⟨h, rfl⟩ | ⟨h, rfl⟩
 ·omega
 ·exact east_lt hi h
 ·exact h
 ·omega
structure Gd (R C : Nat) (h : Nat → Int) : Prop where
 r1 : 1 ≤ R
 r7 : R ≤ 7
 c1 : 1 ≤ C
 c7 : C ≤ 7
 hh : ∀ i, i < R * C → 0 ≤ h i ∧ h i ≤ 99
theorem Gd.le {R C : Nat} {h : Nat → Int} (g : Gd R C h) : R * C ≤ 49 := Nat.mul_le_mul g.r7 g.c7
theorem Gd.pos {R C : Nat} {h : Nat → Int} (g : Gd R C h) : 0 < R * C := Nat.mul_pos g.r1 g.c1
theorem Valid.gd {rows : List (List Int)} (v : Valid rows) : Gd rows.length (rowLen rows) (Go.SW.hgt rows) :=
 ⟨v.r1, v.r7, v.c1, v.c7, fun i hi => by
  have hC : 0 < rowLen rows := v.c1
  have hq : i / rowLen rows < rows.length := Nat.div_lt_of_lt_mul (by rw [Nat.mul_comm]; exact hi)
  exact v.cell _ _ hq (Nat.mod_lt _ hC)⟩
def lowL (h : Nat → Int) (l : List Nat) (b : Nat) : Nat := l.foldl (fun b j => if h j < h b then j else b) b
theorem lowL_take (h : Nat → Int) (l : List Nat) (b : Nat) {k : Nat} (hk : k < l.length) :
  lowL h (l.take (k + 1)) b = if h (l.getD k 0) < h (lowL h (l.take k) b) then l.getD k 0 else lowL h (l.take k) b := by
 rw [List.take_succ_eq_append_getElem hk]
 simp only [lowL, List.foldl_append, List.foldl_cons, List.foldl_nil]
 rw [getD_at l 0 hk]
 rfl
theorem lowL_mem (h : Nat → Int) : ∀ (l : List Nat) (b : Nat), lowL h l b = b ∨ lowL h l b ∈ l
 | [], b => .inl rfl
 | j :: l, b => by
  simp only [lowL, List.foldl_cons]
  by_cases e : h j < h b
  ·rw [if_pos e]
   rcases lowL_mem h l j with h1 | h1
   ·right; simp only [lowL] at h1; rw [h1]; exact List.mem_cons_self ..
   ·right; exact List.mem_cons_of_mem _ h1
  ·rw [if_neg e]
   rcases lowL_mem h l b with h1 | h1
   ·left; exact h1
   ·right; exact List.mem_cons_of_mem _ h1
theorem lowL_le (h : Nat → Int) : ∀ (l : List Nat) (b : Nat), h (lowL h l b) ≤ h b ∧ ∀ j ∈ l, h (lowL h l b) ≤ h j
 | [], b => ⟨Int.le_refl _, fun _ hj => by simp at hj⟩
 | j :: l, b => by
  simp only [lowL, List.foldl_cons]
  by_cases e : h j < h b
  ·rw [if_pos e]
   have := lowL_le h l j
   simp only [lowL] at this
   refine ⟨om, fun x hx => ?_⟩
   rcases List.mem_cons.1 hx with rfl | hx
   ·exact this.1
   ·exact this.2 x hx
  ·rw [if_neg e]
   have := lowL_le h l b
   simp only [lowL] at this
   refine ⟨this.1, fun x hx => ?_⟩
   rcases List.mem_cons.1 hx with rfl | hx
   ·omega
   ·exact this.2 x hx
theorem lowL_ne (h : Nat → Int) : ∀ (l : List Nat) (b : Nat), lowL h l b = b ∨ h (lowL h l b) < h b
 | [], b => .inl rfl
 | j :: l, b => by
  simp only [lowL, List.foldl_cons]
  by_cases e : h j < h b
  ·rw [if_pos e]
   have := (lowL_le h l j).1
   simp only [lowL] at this
   right; omega
  ·rw [if_neg e]; exact lowL_ne h l b
theorem lowL_lt {h : Nat → Int} {l : List Nat} {b n : Nat} (hl : ∀ j ∈ l, j < n) (hb : b < n) : lowL h l b < n := by
 rcases lowL_mem h l b with e | e
 ·rw [e]; exact hb
 ·exact hl _ e
def nextN (R C : Nat) (h : Nat → Int) (i : Nat) : Nat := lowL h (nearN R C i) i
section
variable {R C : Nat} {h : Nat → Int}
theorem nextN_mem (i : Nat) : nextN R C h i = i ∨ nextN R C h i ∈ nearN R C i := lowL_mem h _ _
theorem nextN_lt {i : Nat} (hi : i < R * C) : nextN R C h i < R * C := by
 rcases nextN_mem (R := R) (C := C) (h := h) i with e | e
 ·rw [e]; exact hi
 ·exact nearN_lt hi _ e
theorem nextN_ne (i : Nat) : nextN R C h i = i ∨ h (nextN R C h i) < h i := lowL_ne h _ _
def runF (R C : Nat) (h : Nat → Int) : Nat → Nat → List Nat
 | 0, i => [i]
 | k + 1, i => if nextN R C h i = i then [i] else i :: runF R C h k (nextN R C h i)
def waterN (R C : Nat) (h : Nat → Int) (i : Nat) : List Nat := runF R C h (h i).toNat i
theorem runF_any (g : Gd R C h) : ∀ (k m i : Nat), i < R * C → (h i).toNat ≤ k → (h i).toNat ≤ m → runF R C h k i = runF R C h m i
 | 0, m, i, hi, h1, h2 => by
  have hn := g.hh _ (nextN_lt (h := h) hi)
  have hs : nextN R C h i = i := by
   rcases nextN_ne (R := R) (C := C) (h := h) i with e | e
   ·exact e
   ·omega
  cases m with
  | zero => rfl
  | succ m => simp only [runF]; rw [if_pos hs]
 | k + 1, m, i, hi, h1, h2 => by
  have hn := g.hh _ (nextN_lt (h := h) hi)
  by_cases hs : nextN R C h i = i
  ·cases m with
   | zero => simp only [runF]; rw [if_pos hs]
   | succ m => simp only [runF]; rw [if_pos hs, if_pos hs]
  ·have hlt : h (nextN R C h i) < h i := (nextN_ne i).resolve_left hs
   cases m with
   | zero => omega
   | succ m =>
    simp only [runF]
    rw [if_neg hs, if_neg hs, runF_any g k m _ (nextN_lt hi) om om]
theorem waterN_eq (g : Gd R C h) {i : Nat} (hi : i < R * C) : waterN R C h i = if nextN R C h i = i then [i] else i :: waterN R C h (nextN R C h i) := by
 have := runF_any g (h i).toNat ((h i).toNat + 1) i hi (Nat.le_refl _) (Nat.le_succ _)
 unfold waterN
 rw [this]
 simp only [runF]
 by_cases hs : nextN R C h i = i
 ·rw [if_pos hs, if_pos hs]
 ·have hlt : h (nextN R C h i) < h i := (nextN_ne i).resolve_left hs
  have hn := g.hh _ (nextN_lt (h := h) hi)
  rw [if_neg hs, if_neg hs, runF_any g _ _ _ (nextN_lt hi) om (Nat.le_refl _)]
theorem waterN_sink (g : Gd R C h) {i : Nat} (hi : i < R * C) (hs : nextN R C h i = i) : waterN R C h i = [i] := by rw [waterN_eq g hi, if_pos hs]
theorem waterN_step (g : Gd R C h) {i : Nat} (hi : i < R * C) (hs : nextN R C h i ≠ i) : waterN R C h i = i :: waterN R C h (nextN R C h i) := by rw [waterN_eq g hi, if_neg hs]
theorem flow_ind {p : Nat → Prop} (g : Gd R C h) (h1 : ∀ i, i < R * C → nextN R C h i = i → p i) (h2 : ∀ i, i < R * C → nextN R C h i ≠ i → p (nextN R C h i) → p i) : ∀ i, i < R * C → p i := by
 have key : ∀ (k i : Nat), i < R * C → (h i).toNat ≤ k → p i := by
  intro k
  induction k with
  | zero =>
   intro i hi hk
   refine h1 i hi ?_
   have hn := g.hh _ (nextN_lt (h := h) hi)
   rcases nextN_ne (R := R) (C := C) (h := h) i with e | e
   ·exact e
   ·omega
  | succ k ih =>
   intro i hi hk
   by_cases hs : nextN R C h i = i
   ·exact h1 i hi hs
   ·have hlt : h (nextN R C h i) < h i := (nextN_ne i).resolve_left hs
    have hn := g.hh _ (nextN_lt (h := h) hi)
    exact h2 i hi hs (ih _ (nextN_lt hi) om)
 exact fun i hi => key _ i hi (Nat.le_refl _)
theorem waterN_lt (g : Gd R C h) : ∀ i, i < R * C → ∀ j ∈ waterN R C h i, j < R * C := by
 refine flow_ind g (fun i hi hs j hj => ?_) fun i hi hs ih j hj => ?_
 ·rw [waterN_sink g hi hs] at hj; simp at hj; omega
 ·rw [waterN_step g hi hs] at hj
  rcases List.mem_cons.1 hj with rfl | hj
  ·exact hi
  ·exact ih j hj
theorem waterN_len (g : Gd R C h) : ∀ i, i < R * C → ((waterN R C h i).length : Int) ≤ h i + 1 := by
 refine flow_ind g (fun i hi hs => ?_) fun i hi hs ih => ?_
 ·rw [waterN_sink g hi hs]; have := g.hh i hi; simp; omega
 ·rw [waterN_step g hi hs]
  have hlt : h (nextN R C h i) < h i := (nextN_ne i).resolve_left hs
  simp only [List.length_cons]; omega
theorem waterN_ne (g : Gd R C h) {i : Nat} (hi : i < R * C) : waterN R C h i ≠ [] := by
 rw [waterN_eq g hi]; split <;> simp
end
end Go.SW
namespace Go.Proofs.YtcbmhjndbpafbaaGreatDoor
open Go.RowKit Go.SW
theorem q_south {R C i : Nat} (hC : 0 < C) : i / C + 1 < R ↔ i + C < R * C := by
 rw [← Nat.add_div_right i hC, Nat.div_lt_iff_lt_mul hC]
theorem neighbors_c (R C i : Nat) (sl : Value) (w : World) (hR7 : R ≤ 7) (hC7 : C ≤ 7) (hi : i < R * C) :
  Ret Tryz.prog 76 #[.agg #[.int .i64 R, .int .i64 C, sl], .int .i64 i] w fun v w' => ∃ a c, v = .slice a (nearN R C i).length c ∧ OwnS w' 3 1 a (nearN R C i).length c (vi (ni (nearN R C i))) ∧ (∀ b, blk a = some b → w.heap.size ≤ b) ∧ Ext w w' := by
 have hC : 0 < C := Nat.pos_of_ne_zero fun e => by subst e; simp at hi
 have hRC : R * C ≤ 7 * 7 := Nat.mul_le_mul hR7 hC7
 have hm : i % C < C := Nat.mod_lt _ hC
 have hq : i / C < R := Nat.div_lt_of_lt_mul (by rw [Nat.mul_comm]; exact hi)
 have z1 : (0 : Int) ≤ ((i / C : Nat) : Int) := Int.natCast_nonneg _
 have z2 : (0 : Int) ≤ ((i % C : Nat) : Int) := Int.natCast_nonneg _
 have m1 : (i : Int) / (C : Int) = ((i / C : Nat) : Int) := rfl
 have m2 : (i : Int) % (C : Int) = ((i % C : Nat) : Int) := rfl
 have q0 : (0 : Int) < ((i / C : Nat) : Int) ↔ C ≤ i := by have := @Nat.div_pos_iff i C; omega
 have q1 : ((i % C : Nat) : Int) + 1 < (C : Int) ↔ i % C + 1 < C := om
 have q2 : ((i / C : Nat) : Int) + 1 < (R : Int) ↔ i + C < R * C := by have := @q_south R C i hC; omega
 have q3 : (0 : Int) < ((i % C : Nat) : Int) ↔ 0 < i % C := om
 refine enter2 Tryz.func76 rfl fun f a0 a1 => ?_
 simp only [go_sem, a0]
 refine boxK_of fun w0 fb eb x0 k0 _ => ?_
 have s0 := x0.size
 simp (disch := omega) only [go_sem, a1]
 refine QR_of ke ke ?_
 simp (disch := omega) only [go_sem, a1, k0.cell, Value.cells, m1, m2]
 intro w00 x00
 refine mksK_of elt_i 0 4 _ _ _ _ rfl rfl om om (by simp [maxLen]) fun w1 b1 eb1 x1 o1 _ => ?_
 have o0 : OwnS w1 3 1 (some ⟨b1, 0, none⟩) 0 4 (vi (ni [])) := by simpa [vi, ni] using o1
 have hb0 : ∀ b, blk (some ⟨b1, 0, none⟩) = some b → w0.heap.size ≤ b := fun b hb => by have := x00.size; simp [blk] at hb; omega
 have x00 := x00.trans x1
 have kb : Blk w1 fb #[.int .i64 R, .int .i64 C, sl] 70 := k0.ext x00
 simp (disch := omega) only [go_sem, a1]
 let J : Nat → List Nat → F → World → Prop := fun k l f wk => l.length ≤ k ∧ f 1 = .int .i64 i ∧ f 2 = .pointer (some ⟨fb, 0, none⟩) ∧ f 5 = .int .i64 (i / C : Nat) ∧ f 6 = .int .i64 (i % C : Nat) ∧ (∃ a c, f 7 = .slice a l.length c ∧ OwnS wk 3 1 a l.length c (vi (ni l)) ∧ (∀ b, blk a = some b → w0.heap.size ≤ b)) ∧ Ext w0 wk
 have grow : ∀ {k : Nat} {l : List Nat} {x : Nat} {y : Int} {wa wb wc : World} {a a' : Option Addr} {c' : Nat} {f : F}, y = (x : Int) → (∀ b, blk a = some b → w0.heap.size ≤ b) → Ext w0 wa → Ext wa wb →
   OwnS wc 3 1 a' (l.length + 1) c' (vi (ni l) ++ [.int .i64 y]) → Grow (blk a) wb wc → (∀ b, blk a' = some b → blk a = some b ∨ wb.heap.size ≤ b) →
   f 1 = .int .i64 i → f 2 = .pointer (some ⟨fb, 0, none⟩) → f 5 = .int .i64 (i / C : Nat) → f 6 = .int .i64 (i % C : Nat) →  f 7 = .slice a' (l.length + 1) c' → l.length ≤ k → J (k + 1) (l ++ [x]) f wc := by
  intro k l x y wa wb wc a a' c' f hy hb x1 x2 o g hb' a1 a2 a5 a6 aS hk
  refine ⟨by simp; omega, a1, a2, a5, a6, ⟨a', c', by rw [aS]; simp, by rw [← vi_ni_snoc l x y hy]; simpa using o, fun b hb2 => ?_⟩, g.ext (x1.trans x2) hb⟩
  rcases hb' b hb2 with h | h
  ·exact hb b h
  ·have := (x1.trans x2).size; omega
 skip
 refine cd_cut (J 1 (([] : List Nat) ++ if C ≤ i then [i - C] else [])) ?_ (cd_dec (fun h => ?_) fun h => ?_)
 ·generalize hl0 : (([] : List Nat) ++ if C ≤ i then [i - C] else []) = l0
  clear o0 hb0 x00 a1 kb
  intro f wk ⟨hk, a1, a2, a5, a6, ⟨a, c, aS, o, hb⟩, xw⟩
  have kb : Blk _ fb #[.int .i64 R, .int .i64 C, sl] 70 := k0.ext xw
  simp (disch := omega) only [go_sem, a1, a2, a5, a6, aS, kb.cell, List.getElem?_toArray, List.getElem?_cons_succ, List.getElem?_cons_zero]
  refine cd_cut (J 2 (l0 ++ if i % C + 1 < C then [i + 1] else [])) ?_ (cd_dec (fun h => ?_) fun h => ?_)
  ·generalize hl1 : (l0 ++ if i % C + 1 < C then [i + 1] else []) = l1
   clear o hb xw aS hk a1 a2 a5 a6
   intro f wk ⟨hk, a1, a2, a5, a6, ⟨a, c, aS, o, hb⟩, xw⟩
   have kb : Blk _ fb #[.int .i64 R, .int .i64 C, sl] 70 := k0.ext xw
   simp (disch := omega) only [go_sem, a1, a2, a5, a6, aS, kb.cell, List.getElem?_toArray, List.getElem?_cons_succ, List.getElem?_cons_zero]
   refine cd_cut (J 3 (l1 ++ if i + C < R * C then [i + C] else [])) ?_ (cd_dec (fun h => ?_) fun h => ?_)
   ·generalize hl2 : (l1 ++ if i + C < R * C then [i + C] else []) = l2
    clear o hb xw aS hk a1 a2 a5 a6
    intro f wk ⟨hk, a1, a2, a5, a6, ⟨a, c, aS, o, hb⟩, xw⟩
    have kb : Blk _ fb #[.int .i64 R, .int .i64 C, sl] 70 := k0.ext xw
    simp (disch := omega) only [go_sem, a1, a2, a5, a6, aS, kb.cell, List.getElem?_toArray, List.getElem?_cons_succ, List.getElem?_cons_zero]
    refine cd_cut (J 4 (l2 ++ if 0 < i % C then [i - 1] else [])) ?_ (cd_dec (fun h => ?_) fun h => ?_)
    ·generalize hl3 : (l2 ++ if 0 < i % C then [i - 1] else []) = l3
     clear o hb xw aS hk a1 a2 a5 a6
     intro f wk ⟨hk, a1, a2, a5, a6, ⟨a, c, aS, o, hb⟩, xw⟩
     simp only [go_sem, aS, Tryz.results76]
     refine ⟨a, c, ?_, ?_, fun b h => Nat.le_trans s0 (hb b h), x0.trans xw⟩
     ·simp only [nearN, hl0, hl1, hl2, hl3]
     ·simp only [nearN, hl0, hl1, hl2, hl3]; exact o
    ·have kb : Blk _ fb #[.int .i64 R, .int .i64 C, sl] 70 := k0.ext xw
     simp (disch := omega) only [go_sem, a1, a2, a5, a6, aS, kb.cell, List.getElem?_toArray, List.getElem?_cons_succ, List.getElem?_cons_zero]
     refine bslK_1 elt_i rfl fun w2 b2 _ x2 k2 _ => ?_
     simp only [go_sem]
     refine appK_1 elt_i (o.ext x2) k2 rfl om (.inl dc) fun w3 a3 c3 o3 g3 h3 => ?_
     simp only [go_sem]
     rw [if_pos (q3.1 h)]
     refine grow (by have := q3.1 h; have := Nat.mod_le i C; omega) hb xw x2 o3 g3 h3 ?_ ?_ ?_ ?_ ?_ hk <;> simp only [upd_apply, Nat.reduceEqDiff, ↓reduceIte, Nat.reduceAdd, a1, a2, a5, a6]
    ·simp only [go_sem]
     rw [if_neg (fun e => h (q3.2 e)), List.append_nil]
     exact ⟨om, by simp only [upd_apply, Nat.reduceEqDiff, ↓reduceIte, Nat.reduceAdd, a1], by simp only [upd_apply, Nat.reduceEqDiff, ↓reduceIte, Nat.reduceAdd, a2], by simp only [upd_apply, Nat.reduceEqDiff, ↓reduceIte, Nat.reduceAdd, a5], by simp only [upd_apply, Nat.reduceEqDiff, ↓reduceIte, Nat.reduceAdd, a6], ⟨_, _, by simp only [upd_apply, Nat.reduceEqDiff, ↓reduceIte, Nat.reduceAdd, aS], o, hb⟩, xw⟩
   ·have kb : Blk _ fb #[.int .i64 R, .int .i64 C, sl] 70 := k0.ext xw
    simp (disch := omega) only [go_sem, a1, a2, a5, a6, aS, kb.cell, List.getElem?_toArray, List.getElem?_cons_succ, List.getElem?_cons_zero]
    refine bslK_1 elt_i rfl fun w2 b2 _ x2 k2 _ => ?_
    simp only [go_sem]
    refine appK_1 elt_i (o.ext x2) k2 rfl om (.inl dc) fun w3 a3 c3 o3 g3 h3 => ?_
    simp only [go_sem]
    rw [if_pos (q2.1 h)]
    refine grow om hb xw x2 o3 g3 h3 ?_ ?_ ?_ ?_ ?_ hk <;> simp only [upd_apply, Nat.reduceEqDiff, ↓reduceIte, Nat.reduceAdd, a1, a2, a5, a6]
   ·simp only [go_sem]
    rw [if_neg (fun e => h (q2.2 e)), List.append_nil]
    exact ⟨om, by simp only [upd_apply, Nat.reduceEqDiff, ↓reduceIte, Nat.reduceAdd, a1], by simp only [upd_apply, Nat.reduceEqDiff, ↓reduceIte, Nat.reduceAdd, a2], by simp only [upd_apply, Nat.reduceEqDiff, ↓reduceIte, Nat.reduceAdd, a5], by simp only [upd_apply, Nat.reduceEqDiff, ↓reduceIte, Nat.reduceAdd, a6], ⟨_, _, by simp only [upd_apply, Nat.reduceEqDiff, ↓reduceIte, Nat.reduceAdd, aS], o, hb⟩, xw⟩
  ·have kb : Blk _ fb #[.int .i64 R, .int .i64 C, sl] 70 := k0.ext xw
   simp (disch := omega) only [go_sem, a1, a2, a5, a6, aS, kb.cell, List.getElem?_toArray, List.getElem?_cons_succ, List.getElem?_cons_zero]
   refine bslK_1 elt_i rfl fun w2 b2 _ x2 k2 _ => ?_
   simp only [go_sem]
   refine appK_1 elt_i (o.ext x2) k2 rfl om (.inl dc) fun w3 a3 c3 o3 g3 h3 => ?_
   simp only [go_sem]
   rw [if_pos (q1.1 h)]
   refine grow om hb xw x2 o3 g3 h3 ?_ ?_ ?_ ?_ ?_ hk <;> simp only [upd_apply, Nat.reduceEqDiff, ↓reduceIte, Nat.reduceAdd, a1, a2, a5, a6]
  ·simp only [go_sem]
   rw [if_neg (fun e => h (q1.2 e)), List.append_nil]
   exact ⟨om, by simp only [upd_apply, Nat.reduceEqDiff, ↓reduceIte, Nat.reduceAdd, a1], by simp only [upd_apply, Nat.reduceEqDiff, ↓reduceIte, Nat.reduceAdd, a2], by simp only [upd_apply, Nat.reduceEqDiff, ↓reduceIte, Nat.reduceAdd, a5], by simp only [upd_apply, Nat.reduceEqDiff, ↓reduceIte, Nat.reduceAdd, a6], ⟨_, _, by simp only [upd_apply, Nat.reduceEqDiff, ↓reduceIte, Nat.reduceAdd, aS], o, hb⟩, xw⟩
 ·have kb : Blk _ fb #[.int .i64 R, .int .i64 C, sl] 70 := k0.ext x00
  simp (disch := omega) only [go_sem, a1, kb.cell, List.getElem?_toArray, List.getElem?_cons_succ, List.getElem?_cons_zero]
  refine bslK_1 elt_i rfl fun w2 b2 _ x2 k2 _ => ?_
  simp only [go_sem]
  refine appK_1 elt_i (o0.ext x2) k2 rfl om (.inl dc) fun w3 a3 c3 o3 g3 h3 => ?_
  simp only [go_sem]
  rw [if_pos (q0.1 h)]
  refine grow (l := []) (by have := q0.1 h; omega) hb0 x00 x2 o3 g3 h3 ?_ ?_ ?_ ?_ ?_ (Nat.le_refl _) <;> simp only [upd_apply, Nat.reduceEqDiff, ↓reduceIte, Nat.reduceAdd, a1, List.length_nil]
 ·simp only [go_sem]
  rw [if_neg (fun e => h (q0.2 e)), List.append_nil]
  exact ⟨by simp, by simp only [upd_apply, Nat.reduceEqDiff, ↓reduceIte, Nat.reduceAdd, a1], by simp only [upd_apply, Nat.reduceEqDiff, ↓reduceIte, Nat.reduceAdd], by simp only [upd_apply, Nat.reduceEqDiff, ↓reduceIte, Nat.reduceAdd], by simp only [upd_apply, Nat.reduceEqDiff, ↓reduceIte, Nat.reduceAdd], ⟨_, _, by simp only [upd_apply, Nat.reduceEqDiff, ↓reduceIte, Nat.reduceAdd]; rfl, o0, hb0⟩, x00⟩
theorem l2Near_c (gb go gc : Nat) (rb ro rc : Nat → Nat) (R C : Nat) (h : Nat → Int) (w : World) (hg : GridAt w gb go rb ro rc R C h) (hR7 : R ≤ 7) (hC7 : C ≤ 7) (i : Nat) (hi : i < R * C) :
  Ret Tryz.prog 81 #[.slice (some ⟨gb, go, none⟩) R gc, .int .i64 i] w fun v w' => ∃ a c, v = .slice a (nearN R C i).length c ∧ OwnS w' 3 1 a (nearN R C i).length c (vi (ni (nearN R C i))) ∧ (∀ b, blk a = some b → w.heap.size ≤ b) ∧ Ext w w' := by
 have hC : 0 < C := Nat.pos_of_ne_zero fun e => by subst e; simp at hi
 have hR : 0 < R := Nat.pos_of_ne_zero fun e => by subst e; simp at hi
 have hRC : R * C ≤ 7 * 7 := Nat.mul_le_mul hR7 hC7
 have hm : i % C < C := Nat.mod_lt _ hC
 have m2 : (i : Int) % (C : Int) = ((i % C : Nat) : Int) := rfl
 have z2 : (0 : Int) ≤ ((i % C : Nat) : Int) := Int.natCast_nonneg _
 have m3 : (C : Int) * ((R : Int) - 1) = ((R * C : Nat) : Int) - (C : Int) := by rw [Int.mul_sub, Int.mul_one, Int.natCast_mul, Int.mul_comm]
 have hcr : C ≤ R * C := Nat.le_mul_of_pos_left C hR
 have q0 : (C : Int) ≤ (i : Int) ↔ C ≤ i := om
 have q1 : ((i % C : Nat) : Int) < (C : Int) - 1 ↔ i % C + 1 < C := om
 have q2 : (i : Int) < ((R * C : Nat) : Int) - (C : Int) ↔ i + C < R * C := om
 have q3 : (0 : Int) < ((i % C : Nat) : Int) ↔ 0 < i % C := om
 refine enter2 Tryz.func81 rfl fun f a0 a1 => ?_
 simp only [go_sem, a0, a1]
 refine bslK_0 elt_i fun w1 b1 eb x00 o1 _ => ?_
 have g0 := (hg.ext x00).row 0 om
 simp only [Nat.add_zero] at g0
 have o0 : OwnS w1 3 1 (some ⟨b1, 0, none⟩) 0 0 (vi (ni [])) := by simpa [vi, ni] using o1
 have hb0 : ∀ b, blk (some ⟨b1, 0, none⟩) = some b → w.heap.size ≤ b := fun b hb => by simp [blk] at hb; omega
 simp (disch := omega) only [go_sem, a0, a1, g0]
 let J : Nat → List Nat → F → World → Prop := fun k l f wk => l.length ≤ k ∧ f 0 = .slice (some ⟨gb, go, none⟩) R gc ∧ f 1 = .int .i64 i ∧ f 6 = .int .i64 C ∧ (∃ a c, f 5 = .slice a l.length c ∧ OwnS wk 3 1 a l.length c (vi (ni l)) ∧ (∀ b, blk a = some b → w.heap.size ≤ b)) ∧ Ext w wk
 have grow : ∀ {k : Nat} {l : List Nat} {x : Nat} {y : Int} {wa wb wc : World} {a a' : Option Addr} {c' : Nat} {f : F}, y = (x : Int) → (∀ b, blk a = some b → w.heap.size ≤ b) → Ext w wa → Ext wa wb →
   OwnS wc 3 1 a' (l.length + 1) c' (vi (ni l) ++ [.int .i64 y]) → Grow (blk a) wb wc → (∀ b, blk a' = some b → blk a = some b ∨ wb.heap.size ≤ b) →
   f 0 = .slice (some ⟨gb, go, none⟩) R gc → f 1 = .int .i64 i → f 6 = .int .i64 C →  f 5 = .slice a' (l.length + 1) c' → l.length ≤ k → J (k + 1) (l ++ [x]) f wc := by
  intro k l x y wa wb wc a a' c' f hy hb x1 x2 o g hb' a0 a1 a6 aS hk
  refine ⟨by simp; omega, a0, a1, a6, ⟨a', c', by rw [aS]; simp, by rw [← vi_ni_snoc l x y hy]; simpa using o, fun b hb2 => ?_⟩, g.ext (x1.trans x2) hb⟩
  rcases hb' b hb2 with h | h
  ·exact hb b h
  ·have := (x1.trans x2).size; omega
 skip
 refine cd_cut (J 1 (([] : List Nat) ++ if C ≤ i then [i - C] else [])) ?_ (cd_dec (fun h => ?_) fun h => ?_)
 ·generalize hl0 : (([] : List Nat) ++ if C ≤ i then [i - C] else []) = l0
  clear o0 hb0 x00 g0 a0 a1
  intro f wk ⟨hk, a0, a1, a6, ⟨a, c, aS, o, hb⟩, xw⟩
  simp (disch := omega) only [go_sem, a0, a1, a6, aS, m2, m3]
  refine cd_cut (J 2 (l0 ++ if i % C + 1 < C then [i + 1] else [])) ?_ (cd_dec (fun h => ?_) fun h => ?_)
  ·generalize hl1 : (l0 ++ if i % C + 1 < C then [i + 1] else []) = l1
   clear o hb xw aS hk a0 a1 a6
   intro f wk ⟨hk, a0, a1, a6, ⟨a, c, aS, o, hb⟩, xw⟩
   simp (disch := omega) only [go_sem, a0, a1, a6, aS, m2, m3]
   refine cd_cut (J 3 (l1 ++ if i + C < R * C then [i + C] else [])) ?_ (cd_dec (fun h => ?_) fun h => ?_)
   ·generalize hl2 : (l1 ++ if i + C < R * C then [i + C] else []) = l2
    clear o hb xw aS hk a0 a1 a6
    intro f wk ⟨hk, a0, a1, a6, ⟨a, c, aS, o, hb⟩, xw⟩
    simp (disch := omega) only [go_sem, a0, a1, a6, aS, m2, m3]
    refine cd_cut (J 4 (l2 ++ if 0 < i % C then [i - 1] else [])) ?_ (cd_dec (fun h => ?_) fun h => ?_)
    ·generalize hl3 : (l2 ++ if 0 < i % C then [i - 1] else []) = l3
     clear o hb xw aS hk a0 a1 a6
     intro f wk ⟨hk, a0, a1, a6, ⟨a, c, aS, o, hb⟩, xw⟩
     simp only [go_sem, aS, Tryz.results81]
     refine ⟨a, c, ?_, ?_, fun b h => Nat.le_trans (Nat.le_refl _) (hb b h), xw⟩
     ·simp only [nearN, hl0, hl1, hl2, hl3]
     ·simp only [nearN, hl0, hl1, hl2, hl3]; exact o
    ·simp (disch := omega) only [go_sem, a0, a1, a6, aS, m2, m3]
     refine bslK_1 elt_i rfl fun w2 b2 _ x2 k2 _ => ?_
     simp only [go_sem]
     refine appK_1 elt_i (o.ext x2) k2 rfl om (.inl dc) fun w3 a3 c3 o3 g3 h3 => ?_
     simp only [go_sem]
     rw [if_pos (q3.1 h)]
     refine grow (by have := q3.1 h; have := Nat.mod_le i C; omega) hb xw x2 o3 g3 h3 ?_ ?_ ?_ ?_ hk <;> simp only [upd_apply, Nat.reduceEqDiff, ↓reduceIte, Nat.reduceAdd, a0, a1, a6]
    ·simp only [go_sem]
     rw [if_neg (fun e => h (q3.2 e)), List.append_nil]
     exact ⟨om, by simp only [upd_apply, Nat.reduceEqDiff, ↓reduceIte, Nat.reduceAdd, a0], by simp only [upd_apply, Nat.reduceEqDiff, ↓reduceIte, Nat.reduceAdd, a1], by simp only [upd_apply, Nat.reduceEqDiff, ↓reduceIte, Nat.reduceAdd, a6], ⟨_, _, by simp only [upd_apply, Nat.reduceEqDiff, ↓reduceIte, Nat.reduceAdd, aS], o, hb⟩, xw⟩
   ·simp (disch := omega) only [go_sem, a0, a1, a6, aS, m2, m3]
    refine bslK_1 elt_i rfl fun w2 b2 _ x2 k2 _ => ?_
    simp only [go_sem]
    refine appK_1 elt_i (o.ext x2) k2 rfl om (.inl dc) fun w3 a3 c3 o3 g3 h3 => ?_
    simp only [go_sem]
    rw [if_pos (q2.1 h)]
    refine grow om hb xw x2 o3 g3 h3 ?_ ?_ ?_ ?_ hk <;> simp only [upd_apply, Nat.reduceEqDiff, ↓reduceIte, Nat.reduceAdd, a0, a1, a6]
   ·simp only [go_sem]
    rw [if_neg (fun e => h (q2.2 e)), List.append_nil]
    exact ⟨om, by simp only [upd_apply, Nat.reduceEqDiff, ↓reduceIte, Nat.reduceAdd, a0], by simp only [upd_apply, Nat.reduceEqDiff, ↓reduceIte, Nat.reduceAdd, a1], by simp only [upd_apply, Nat.reduceEqDiff, ↓reduceIte, Nat.reduceAdd, a6], ⟨_, _, by simp only [upd_apply, Nat.reduceEqDiff, ↓reduceIte, Nat.reduceAdd, aS], o, hb⟩, xw⟩
  ·simp (disch := omega) only [go_sem, a0, a1, a6, aS, m2, m3]
   refine bslK_1 elt_i rfl fun w2 b2 _ x2 k2 _ => ?_
   simp only [go_sem]
   refine appK_1 elt_i (o.ext x2) k2 rfl om (.inl dc) fun w3 a3 c3 o3 g3 h3 => ?_
   simp only [go_sem]
   rw [if_pos (q1.1 h)]
   refine grow om hb xw x2 o3 g3 h3 ?_ ?_ ?_ ?_ hk <;> simp only [upd_apply, Nat.reduceEqDiff, ↓reduceIte, Nat.reduceAdd, a0, a1, a6]
  ·simp only [go_sem]
   rw [if_neg (fun e => h (q1.2 e)), List.append_nil]
   exact ⟨om, by simp only [upd_apply, Nat.reduceEqDiff, ↓reduceIte, Nat.reduceAdd, a0], by simp only [upd_apply, Nat.reduceEqDiff, ↓reduceIte, Nat.reduceAdd, a1], by simp only [upd_apply, Nat.reduceEqDiff, ↓reduceIte, Nat.reduceAdd, a6], ⟨_, _, by simp only [upd_apply, Nat.reduceEqDiff, ↓reduceIte, Nat.reduceAdd, aS], o, hb⟩, xw⟩
 ·simp (disch := omega) only [go_sem, a0, a1, m2, m3]
  refine bslK_1 elt_i rfl fun w2 b2 _ x2 k2 _ => ?_
  simp only [go_sem]
  refine appK_1 elt_i (o0.ext x2) k2 rfl om (.inl dc) fun w3 a3 c3 o3 g3 h3 => ?_
  simp only [go_sem]
  rw [if_pos (q0.1 h)]
  refine grow (l := []) (by have := q0.1 h; omega) hb0 x00 x2 o3 g3 h3 ?_ ?_ ?_ ?_ (Nat.le_refl _) <;> simp only [upd_apply, Nat.reduceEqDiff, ↓reduceIte, Nat.reduceAdd, a0, a1, List.length_nil]
 ·simp only [go_sem]
  rw [if_neg (fun e => h (q0.2 e)), List.append_nil]
  exact ⟨by simp, by simp only [upd_apply, Nat.reduceEqDiff, ↓reduceIte, Nat.reduceAdd, a0], by simp only [upd_apply, Nat.reduceEqDiff, ↓reduceIte, Nat.reduceAdd, a1], by simp only [upd_apply, Nat.reduceEqDiff, ↓reduceIte, Nat.reduceAdd], ⟨_, _, by simp only [upd_apply, Nat.reduceEqDiff, ↓reduceIte, Nat.reduceAdd]; rfl, o0, hb0⟩, x00⟩
theorem zero_int : zeroC Tryz.prog 3 = some #[.int .i64 0] := ke
theorem zero_i : zeroC Tryz.prog 35 = some #[.slice none 0 0] := ke
theorem next_c (R C cb i : Nat) (h : Nat → Int) (w : World) (hR7 : R ≤ 7) (hC7 : C ≤ 7) (hc : CellsAt w cb (R * C) h) (hi : i < R * C) :
  Ret Tryz.prog 210 #[.agg #[.int .i64 R, .int .i64 C, .slice (some ⟨cb, 0, none⟩) (R * C) (R * C)], .int .i64 i] w fun v w' => v = .int .i64 (nextN R C h i : Nat) ∧ Ext w w' := by
 have hRC : R * C ≤ 7 * 7 := Nat.mul_le_mul hR7 hC7
 refine enter2 Tryz.func210 rfl fun f a0 a1 => ?_
 simp only [go_sem, a0]
 refine boxK_of fun w0 fb _ x0 k0 _ => ?_
 simp only [go_sem, a1, readCells_blk k0 (n := 3) (by simp [Value.cells]), Value.cells]
 refine callK_of ke (neighbors_c R C i _ _ hR7 hC7 hi) ?_
 rintro _ w1 ⟨a, c, rfl, o, hf, x1⟩
 have hn4 := nearN_len R C i
 simp only [go_sem]
 refine loopN (nearN R C i).length (fun k f w' => f 2 = .pointer (some ⟨fb, 0, none⟩) ∧ f 5 = .int .i64 (lowL h ((nearN R C i).take k) i : Nat) ∧ f 11 = .slice a (nearN R C i).length c ∧ f 12 = .int .i64 (nearN R C i).length ∧ f 13 = .int .i64 k ∧ Ext w1 w') ?_ fun k f w' hk ⟨a2, a5, a11, a12, a13, xw⟩ => ?_
 ·exact ⟨by simp [upd_apply], by simp [upd_apply, a1, lowL], by simp [upd_apply], by simp [upd_apply], by simp [upd_apply], Ext.refl _⟩
 ·by_cases hlt : (k : Int) < (nearN R C i).length
  ·obtain ⟨b, rfl⟩ := o.some om
   have hjk : (nearN R C i).getD k 0 < R * C := nearN_lt hi _ (getD_mem om)
   have hlow : lowL h ((nearN R C i).take k) i < R * C := lowL_lt (fun j hj => nearN_lt hi _ (List.mem_of_mem_take hj)) hi
   have g0 : w'.cell? ⟨b, k, none⟩ = some (.int .i64 ((nearN R C i).getD k 0 : Nat)) := by rw [(o.ext xw).cell om, vi_get _ _ (by rw [ni_len]; omega), ni_get _ om]
   have kb : Blk w' fb _ _ := k0.ext (x1.trans xw)
   have hc' := ((hc.ext x0).ext x1).ext xw
   have c1 := hc' _ hjk
   have c2 := hc' _ hlow
   have hstep := lowL_take h (nearN R C i) i (k := k) om
   generalize (nearN R C i).getD k 0 = j at *
   generalize lowL h ((nearN R C i).take k) i = m at *
   simp (disch := omega) only [go_sem, a2, a5, a11, a12, a13, hlt, g0]
   refine QR_of ke ke ?_
   by_cases hh : h j < h m
   ·rw [if_pos hh] at hstep
    simp (disch := omega) only [go_sem, a2, a5, a13, kb.cell, Value.cells, c1, c2, hh]
    exact fun w2 x2 => ⟨om, by simp [upd_apply, a2], by simp [upd_apply, hstep], by simp [upd_apply, a11], by simp [upd_apply, a12], by simp [upd_apply], xw.trans x2⟩
   ·rw [if_neg hh] at hstep
    simp (disch := omega) only [go_sem, a2, a5, a13, kb.cell, Value.cells, c1, c2, hh]
    exact fun w2 x2 => ⟨om, by simp [upd_apply, a2], by simp [upd_apply, hstep, a5], by simp [upd_apply, a11], by simp [upd_apply, a12], by simp [upd_apply], xw.trans x2⟩
  ·obtain rfl : k = (nearN R C i).length := om
   simp (disch := omega) only [go_sem, a5, a12, a13, hlt, List.take_length, Tryz.results210]
   exact ⟨rfl, (x0.trans x1).trans xw⟩
theorem run_c (R C cb i : Nat) (w : World) :
  Ret Tryz.prog 189 #[.agg #[.int .i64 R, .int .i64 C, .slice (some ⟨cb, 0, none⟩) (R * C) (R * C)], .int .i64 i] w fun v w' => ∃ ib fb, v = .func (.func 209) #[] #[.pointer (some ⟨ib, 0, none⟩), .pointer (some ⟨fb, 0, none⟩)] ∧
   Blk w' ib #[.int .i64 i] 3 ∧ Blk w' fb #[.int .i64 R, .int .i64 C, .slice (some ⟨cb, 0, none⟩) (R * C) (R * C)] 70 ∧ w.heap.size ≤ ib ∧ w.heap.size ≤ fb ∧ Ext w w' := by
 refine enter2 Tryz.func189 rfl fun f a0 a1 => ?_
 simp only [go_sem, a0]
 refine boxK_of fun w0 fb _ x0 k0 _ => ?_
 have s0 := x0.size
 simp only [go_sem, a1]
 refine boxK_of fun w1 ib _ x1 k1 _ => ?_
 simp only [go_sem, Tryz.results189]
 exact ⟨ib, fb, rfl, k1, k0.ext x1, om, om, x0.trans x1⟩
def RunIn (W : World) (R C cb ib fb i : Nat) (h : Nat → Int) : Prop :=
 Blk W ib #[.int .i64 i] 3 ∧ Blk W fb #[.int .i64 R, .int .i64 C, .slice (some ⟨cb, 0, none⟩) (R * C) (R * C)] 70 ∧ CellsAt W cb (R * C) h
theorem run1_c (R C cb ib fb i : Nat) (h : Nat → Int) (g : Gd R C h) (hi : i < R * C) :
  IterC Tryz.prog 209 #[.pointer (some ⟨ib, 0, none⟩), .pointer (some ⟨fb, 0, none⟩)] (ni (waterN R C h i)) fun W => RunIn W R C cb ib fb i h := by
 intro l J W hJe hKp hy h0
 have hRC := g.le
 have key : Ret Tryz.prog 209 #[.func (.yield l) #[] #[], .pointer (some ⟨ib, 0, none⟩), .pointer (some ⟨fb, 0, none⟩)] W fun _ W' => J (ni (waterN R C h i)) W' := by
  refine enterD3 (y := true) Tryz.func209 rfl ke df fun f a0 a1 a2 => ?_
  obtain ⟨kI, kF, kC⟩ := hKp _ _ h0
  simp only [go_sem]
  refine regD openF_wide ?_
  simp (disch := omega) only [go_sem, a1, kI.cell]
  refine loopD (y := true) openF_wide (fun n ds f W => ds = [] ∧ ∃ (pre : List Nat) (cur : Nat), n = (waterN R C h cur).length ∧ cur < R * C ∧ pre ++ waterN R C h cur = waterN R C h i ∧ f 0 = .func (.yield l) #[] #[] ∧ f 2 = .pointer (some ⟨fb, 0, none⟩) ∧ f 4 = .int .i64 cur ∧ J (ni pre) W)
   (waterN R C h i).length ⟨rfl, [], i, rfl, hi, rfl, by simp [upd_apply, a0], by simp [upd_apply, a2], by simp [upd_apply], h0⟩ ?_
  clear a0 a1 a2 kI kF kC h0
  rintro n ds f W ⟨rfl, pre, cur, rfl, hcur, hrun, a0, a2, a4, hJ⟩
  have hcons : ∃ t, waterN R C h cur = cur :: t := by
   rw [waterN_eq g hcur]; split <;> exact ⟨_, rfl⟩
  obtain ⟨t, ht⟩ := hcons
  have hpre : ni pre ++ [(cur : Int)] <+: ni (waterN R C h i) := ⟨ni t, by rw [← hrun, ht]; simp [ni]⟩
  have hsn : ni pre ++ [(cur : Int)] = ni (pre ++ [cur]) := by simp [ni]
  obtain ⟨fn, tmps, assign, body, hyr, hrd⟩ := hy (ni pre) cur W hJ hpre
  simp only [go_sem]
  refine yieldN openF_wide 2 rfl rfl rfl ?_
  simp only [go_sem, a0, a4]
  refine ⟨l, fn, tmps, assign, body, rfl, hyr, RoundIn.mono hrd ?_⟩
  rintro e W1 ⟨rfl, hJ1⟩
  rw [hsn] at hJ1
  refine ⟨_, rfl, ?_⟩
  obtain ⟨kI, kF, kC⟩ := hKp _ _ hJ1
  simp only [updO_some, go_sem, Nat.reduceEqDiff, ↓reduceIte]
  refine regD openF_wide ?_
  simp only [go_sem, a2, a4, readCells_blk kF (n := 3) sm]
  refine callK_pure ke (next_c R C cb cur h _ g.r7 g.c7 kC hcur) fun W2 x2 => ?_
  have hJ2 := hJe _ _ _ hJ1 x2
  have hnl := nextN_lt (h := h) hcur
  simp only [go_sem]
  refine regD openF_wide ?_
  by_cases hs : nextN R C h cur = cur
  ·have hb : (((nextN R C h cur : Nat) : Int) == (cur : Int)) = true := by simp [hs]
   simp only [go_sem, a4, hb]
   refine ⟨trivial, fun w' hw _ => ?_⟩
   rw [hw rfl]
   have e : pre ++ [cur] = waterN R C h i := by rw [← hrun, waterN_sink g hcur hs]
   rw [e] at hJ2
   simp only [go_sem, Tryz.results209]
   exact hJ2
  ·have hb : (((nextN R C h cur : Nat) : Int) == (cur : Int)) = false := by simp; omega
   simp only [go_sem, a4, hb]
   refine regD openF_wide ?_
   simp only [go_sem]
   have hst := waterN_step g hcur hs
   refine ⟨(waterN R C h (nextN R C h cur)).length, by rw [hst]; simp, trivial, pre ++ [cur], nextN R C h cur, rfl, hnl, by rw [← hrun, hst]; simp, by simp [upd_apply, a0], by simp [upd_apply, a2], by simp [upd_apply], hJ2⟩
 exact Calls.mono key fun e W' ⟨v, he, hv⟩ => ⟨⟨v, he⟩, hv⟩
end Go.Proofs.YtcbmhjndbpafbaaGreatDoor
namespace Go.SW
def cellok (rows : List (List Int)) (r c : Int) : Bool := gvalid rows && decide (0 ≤ r ∧ r < rows.length ∧ 0 ≤ c ∧ c < rowLen rows)
theorem cell_idx {rows : List (List Int)} {r c : Int} (h : cellok rows r c = true) : ∃ rn cn : Nat, r = (rn : Int) ∧ c = (cn : Int) ∧ rn < rows.length ∧ cn < rowLen rows ∧ rn * rowLen rows + cn < rows.length * rowLen rows := by
 simp only [cellok, Bool.and_eq_true, decide_eq_true_eq] at h
 refine ⟨r.toNat, c.toNat, om, om, om, om, ?_⟩
 have := Nat.mul_le_mul_right (rowLen rows) (show r.toNat + 1 ≤ rows.length from om)
 rw [Nat.add_mul, Nat.one_mul] at this; omega
end Go.SW
namespace Go.Proofs.YtcbmhjndbpafbaaGreatDoor
open Go.RowKit Go.SW
def Got1 (w w' : World) (l : List Int) (v : Value) : Prop := ∃ a c, v = .slice a l.length c ∧ OwnS w' 3 1 a l.length c (vi l) ∧ (∀ b, blk a = some b → w.heap.size ≤ b) ∧ Ext w w'
def Got (w w' : World) (l : List Int) (ok : Bool) (v : Value) : Prop := ∃ a c, v = .tuple #[.slice a l.length c, .bool ok] ∧ OwnS w' 3 1 a l.length c (vi l) ∧ (∀ b, blk a = some b → w.heap.size ≤ b) ∧ Ext w w'
theorem has_c (R C : Nat) (sl : Value) (r c : Int) (w : World) :
  Ret Tryz.prog 184 #[.agg #[.int .i64 R, .int .i64 C, sl], .int .i64 r, .int .i64 c] w fun v w' => v = .bool (decide (0 ≤ r ∧ r < R ∧ 0 ≤ c ∧ c < C)) ∧ Ext w w' := by
 refine enter3 Tryz.func184 rfl fun f a0 a1 a2 => ?_
 simp only [go_sem, a0]
 refine boxK_of fun w1 b _ x1 k1 _ => ?_
 by_cases h1 : 0 ≤ r <;> by_cases h2 : r < R <;> by_cases h3 : 0 ≤ c <;> by_cases h4 : c < C <;>
  (simp (disch := omega) only [go_sem, a1, a2, k1.cell, Value.cells, h1, h2, h3, h4, Tryz.results184]; exact ⟨by first | trivial | simp [h1, h2, h3, h4], x1⟩)
end Go.Proofs.YtcbmhjndbpafbaaGreatDoor
namespace Go.SW
theorem vi_range_set {n x : Nat} {f g : Nat → Nat} {y : Int} (hx : x < n) (hy : y = (g x : Int)) (hg : ∀ j, j < n → j ≠ x → g j = f j) :
  (vi (ni ((List.range n).map f))).set x (.int .i64 y) = vi (ni ((List.range n).map g)) := by
 apply List.ext_getElem?
 intro j
 rw [List.getElem?_set]
 by_cases e : x = j
 ·subst e; simp [vi, ni, hx, hy]
 ·rw [if_neg e]
  by_cases hj : j < n
  ·simp [vi, ni, hj, hg j hj (Ne.symm e)]
  ·simp [vi, ni, hj]
theorem vi_range_get {n x : Nat} (f : Nat → Nat) (hx : x < n) : (vi (ni ((List.range n).map f)))[x]? = some (.int .i64 (f x : Nat)) := by simp [vi, ni, hx]
section
variable (R C : Nat) (h : Nat → Int)
end
def runOf (rows : List (List Int)) (r c : Int) : List Nat := if cellok rows r c = true then waterN rows.length (rowLen rows) (hgt rows) (r.toNat * rowLen rows + c.toNat) else []
end Go.SW
namespace Go.Proofs.YtcbmhjndbpafbaaGreatDoor
open Go.RowKit Go.SW
theorem got_bad (w w' : World) (x : Ext w w') : Got w w' (ni []) false (.tuple #[.slice none 0 0, .bool false]) := ⟨none, 0, rfl, OwnS.nil _ _ _, fun b hb => (by cases hb), x⟩
theorem waterRun_c (a : Option Addr) (rows : List (List Int)) (A : Nat → Option Addr) (Cp : Nat → Nat) (gc : Nat) (r c : Int) (w : World) (hr : RowsAt w a rows A Cp) :
  Ret Tryz.prog 157 #[.slice a rows.length gc, .int .i64 r, .int .i64 c] w fun v w' => Got w w' (ni (runOf rows r c)) (cellok rows r c) v := by
 refine enterD3 (y := false) Tryz.func157 rfl ke df fun f a0 a1 a2 => ?_
 simp (disch := omega) only [go_sem, a0]
 refine callK_of ke (fieldOf_c _ _ _ _ _ _ hr) ?_
 rintro _ w2 ⟨x2, (⟨hvt, cb, rfl, hcb, o⟩ | ⟨hv', rfl⟩)⟩
 rotate_left
 ·simp (disch := omega) only [go_sem]
  refine allocK_of zero_f fun w3 fb _ x3 k3 _ => ?_
  simp (disch := omega) only [go_sem]
  refine stK_agg siz_f sm oi k3 sm fun w4 k4 g4 => ?_
  have x4 : Ext w w4 := g4.ext (x2.trans x3) (by have := x2.size; omega)
  have hv : gvalid rows = false := hv'
  simp (disch := omega) only [go_sem]
  refine ⟨trivial, fun w' hw _ => ?_⟩
  rw [hw rfl]
  simp (disch := omega) only [go_sem, Tryz.results157]
  have hok : cellok rows r c = false := by simp [cellok, hv]
  simpa [runOf, hok] using got_bad w w4 x4
 have hv : gvalid rows = true := hvt
 have v := (gvalid_iff rows).1 hv
 have g := v.gd
 have hn49 := g.le
 simp (disch := omega) only [go_sem]
 refine allocK_of zero_f fun w3 fb _ x3 k3 _ => ?_
 simp (disch := omega) only [go_sem]
 refine stK_agg siz_f sm oi k3 sm fun w4 kb g4 => ?_
 have s2 := x2.size
 have s3 := x3.size
 have x4 : Ext w w4 := g4.ext (x2.trans x3) om
 have s4 := x4.size
 have hc : CellsAt w4 cb (rows.length * rowLen rows) (hgt rows) := fun i hi => by
  have := ((o.cellsAt.ext x3).grow g4.grow (by have := o.cellsAt.lt g.pos; simp; omega)) i hi
  simpa only [hs_get rows i hi] using this
 simp (disch := omega) only [go_sem, a1, a2, readCells_blk kb (n := 3) sm]
 refine callK_pure ke (has_c _ _ _ _ _ _) fun w5 x5 => ?_
 have kb := kb.ext x5
 have hc := hc.ext x5
 by_cases hh : 0 ≤ r ∧ r < (rows.length : Int) ∧ 0 ≤ c ∧ c < (rowLen rows : Int)
 case neg =>
  have hok : cellok rows r c = false := by simp only [cellok, hv, decide_eq_false hh, Bool.true_and]
  simp (disch := omega) only [go_sem, hh]
  refine ⟨trivial, fun w' hw _ => ?_⟩
  rw [hw rfl]
  simp (disch := omega) only [go_sem, Tryz.results157]
  simpa [runOf, hok] using got_bad w w5 (x4.trans x5)
 have hok : cellok rows r c = true := by simp [cellok, hv, hh]
 obtain ⟨rn, cn, rfl, rfl, h1, h2, h3⟩ := cell_idx hok
 have hr7 := g.r7
 have hc7 := g.c7
 have s5 := x5.size
 simp only [go_sem, hh, and_self]
 refine bslK_0 elt_i fun w6 b6 e6 x6 o6 _ => ?_
 have s6 := x6.size
 simp (disch := omega) only [go_sem]
 refine allocK_of zero_i fun w7 lb e7 x7 k7 _ => ?_
 have s7 := x7.size
 simp (disch := omega) only [go_sem]
 refine stK_blk siz_i rf rf k7 sm fun w8 k8 g8 => ?_
 have k8 : Blk w8 lb #[.slice (some ⟨b6, 0, none⟩) 0 0] 35 := by simpa using k8
 have hfb := kb.lt
 have kb8 := g8.grow.blk ((kb.ext x6).ext x7) sq
 have hc8 : CellsAt w8 cb _ _ := fun i hi => g8.grow.cell (((hc.ext x6).ext x7) i hi) (by have := hc.lt g.pos; simp; omega)
 have x8 : Ext w w8 := g8.ext (((x4.trans x5).trans x6).trans x7) om
 have o8 := (o6.ext x7).grow g8.grow (by simp [blk]; omega)
 simp (disch := omega) only [go_sem, a1, a2]
 refine drawD ?_ df
 refine QR_tail 5 ke ke ?_
 simp (disch := omega) only [go_sem, a1, a2, readCells_blk kb8 (n := 3) sm]
 refine callK_q ke (fun w' e => index_c _ _ _ _ _ rn cn _ om om om) ?_
 simp (disch := omega) only [go_sem]
 intro w9 x9
 refine callK_of ke (run_c rows.length (rowLen rows) cb _ _) ?_
 rintro _ w10 ⟨ib, rb, rfl, kI, kF, hib, hrb, x10⟩
 have xw := (x8.trans x9).trans x10
 have s9 := x9.size
 have s10 := x10.size
 have s8 := x8.size
 have h8 := k8.lt
 have k10 := (k8.ext x9).ext x10
 have o10 := (o8.ext x9).ext x10
 simp (disch := omega) only [go_sem]
 have hcbl := hc.lt g.pos
 have hcb10 : cb < w10.heap.size := om
 have hc10 : CellsAt w10 cb _ _ := (hc8.ext x9).ext x10
 refine rangeD1 dc (by simp [ev, upd_apply]) ke
  (fun pre W => Ext w W ∧ (∃ a c, Blk W lb #[.slice a pre.length c] 35 ∧ OwnS W 3 1 a pre.length c (vi pre) ∧ (∀ b, blk a = some b → w.heap.size ≤ b ∧ b ≠ lb ∧ b ≠ ib ∧ b ≠ rb ∧ b ≠ cb)) ∧ RunIn W rows.length (rowLen rows) cb ib rb (rn * rowLen rows + cn) (hgt rows) ∧ w10.heap.size ≤ W.heap.size)
  (fun x f' => f' 10 = .pointer (some ⟨lb, 0, none⟩) ∧ f' 11 = .int .i64 x) _ (run1_c rows.length (rowLen rows) cb ib rb _ (hgt rows) g h3)
  (fun pre W ⟨e, _, k, _⟩ => k)
  (fun pre ob A B ⟨e, ⟨a, c, j1, j2, j3⟩, ⟨j4, j5, j6⟩, j7⟩ gg r => ⟨r.ext gg e xw.size, ⟨a, c, r.blk gg j1, r.own gg j2, j3⟩, ⟨r.blk gg j4, r.blk gg j5, fun i hi => r.cell gg (j6 i hi)⟩, Nat.le_trans j7 gg.size⟩)
  ⟨xw, ⟨_, _, k10, by simpa [vi] using o10, fun b hb => by simp [blk] at hb; omega⟩, ⟨kI, kF, hc10⟩, Nat.le_refl _⟩ ?_ ?_ ?_
 ·intro Fc hF x W K hK
  simp (disch := omega) only [go_sem]
  exact ⟨trivial, hK _ ⟨uu, uu⟩⟩
 ·rintro Fc hF pre x f' W ⟨a10, a11⟩ ⟨e, ⟨a, c, j1, j2, j3⟩, ⟨j4, j5, j6⟩, j7⟩ hp
  have hpl := hp.length_le
  have hwl := waterN_len g _ h3
  have hhi := g.hh _ h3
  rw [ni_len] at hpl
  simp only [List.length_append, List.length_singleton] at hpl
  have l1 := j1.lt
  have l4 := j4.lt
  have l5 := j5.lt
  simp (disch := omega) only [go_sem, a10, a11, j1.cell]
  refine bslK_1 elt_i rfl fun W1 b1 e1 y1 q1 _ => ?_
  simp (disch := omega) only [go_sem]
  refine appK_1 elt_i (j2.ext y1) q1 rfl om (.inl dc) fun W2 a2 c2 o2 g2 h2 => ?_
  have t1 := y1.size
  have t2 := g2.size
  have n1 := g2.blk (j1.ext y1) (fun e => (j3 _ e).2.1 rfl)
  simp (disch := omega) only [go_sem, a10]
  refine stK_blk siz_i rf rf n1 sm fun W3 q3 g3 => ?_
  have x3 : Ext w W3 := g3.ext (g2.ext (e.trans y1) fun b hb => (j3 b hb).1) om
  simp (disch := omega) only [go_sem]
  refine ⟨⟨x3, ⟨a2, c2, by simpa using q3, ?_, fun b hb => ?_⟩, ⟨g3.grow.blk (g2.blk (j4.ext y1) fun e => (j3 _ e).2.2.1 rfl) sq, g3.grow.blk (g2.blk (j5.ext y1) fun e => (j3 _ e).2.2.2.1 rfl) sq, fun i hi => g3.grow.cell (g2.cell (j6.ext y1 i hi) fun e => (j3 _ e).2.2.2.2 rfl) (by have := hc.lt g.pos; simp; omega)⟩, ?_⟩, ?_⟩
  ·have := o2.grow g3.grow (fun b hb e => by
    simp only [Option.some.injEq] at e; subst e
    rcases h2 _ hb with h | h
    ·exact (j3 _ h).2.1 rfl
    ·omega)
   rw [vi_snoc] at this
   simpa using this
  ·rcases h2 b hb with h | h
   ·exact j3 b h
   ·have := e.size; exact ⟨om, om, om, om, om⟩
  ·have := g3.grow.size; omega
  ·exact (y1.nk.trans (g2.nk (j2.ext y1).cells)).trans (g3.grow.nk fun b hb => by cases hb; exact n1.cells)
 ·rintro W ⟨e, ⟨a, c, j1, j2, j3⟩, -, j7⟩ hd hlt
  simp (disch := omega) only [go_sem, j1.cell]
  refine ⟨Marks.cons trivial trivial xw.size hd, fun w' _ off => ?_⟩
  simp (disch := omega) only [go_sem, Tryz.results157]
  have er : runOf rows rn cn = waterN rows.length (rowLen rows) (hgt rows) (rn * rowLen rows + cn) := by simp [runOf, hok]
  rw [er, hok]
  exact ⟨a, c, rfl, off.own j2, fun b hb => (j3 b hb).1, off.ext e (Nat.le_refl _)⟩
end Go.Proofs.YtcbmhjndbpafbaaGreatDoor
namespace Go.SW
end Go.SW
namespace Go.Proofs.YtcbmhjndbpafbaaGreatDoor
open Go.RowKit Go.SW
theorem l2Next_c (gb go gc : Nat) (rb ro rc : Nat → Nat) (R C : Nat) (h : Nat → Int) (w : World) (hg : GridAt w gb go rb ro rc R C h) (hR7 : R ≤ 7) (hC7 : C ≤ 7) (i : Nat) (hi : i < R * C) :
  Ret Tryz.prog 177 #[.slice (some ⟨gb, go, none⟩) R gc, .int .i64 i] w fun v w' => v = .int .i64 (nextN R C h i : Nat) ∧ Ext w w' := by
 have hRC : R * C ≤ 7 * 7 := Nat.mul_le_mul hR7 hC7
 refine enter2 Tryz.func177 rfl fun f a0 a1 => ?_
 simp (disch := omega) only [go_sem, a0, a1]
 refine callK_of ke (l2Near_c gb go gc rb ro rc R C h _ hg hR7 hC7 i hi) ?_
 rintro _ w1 ⟨a, c, rfl, o, -, x1⟩
 have hn4 := nearN_len R C i
 simp (disch := omega) only [go_sem]
 refine loopN (nearN R C i).length (fun k f w' => f 0 = .slice (some ⟨gb, go, none⟩) R gc ∧ f 5 = .int .i64 (lowL h ((nearN R C i).take k) i : Nat) ∧ f 6 = .slice a (nearN R C i).length c ∧ f 7 = .int .i64 k ∧ Ext w1 w') ⟨uu, by simp [upd_apply, a1, lowL], uu, uu, Ext.refl _⟩ fun k f w' hk ⟨a0, a5, a6, a7, xw⟩ => ?_
 by_cases hlt : (k : Int) < (nearN R C i).length
 ·obtain ⟨b, rfl⟩ := o.some om
  have hjk : (nearN R C i).getD k 0 < R * C := nearN_lt hi _ (getD_mem om)
  have hlow : lowL h ((nearN R C i).take k) i < R * C := lowL_lt (fun j hj => nearN_lt hi _ (List.mem_of_mem_take hj)) hi
  have g0 : w'.cell? ⟨b, k, none⟩ = some (.int .i64 ((nearN R C i).getD k 0 : Nat)) := by rw [(o.ext xw).cell om, vi_get _ _ (by rw [ni_len]; omega), ni_get _ om]
  have hstep := lowL_take h (nearN R C i) i (k := k) om
  generalize (nearN R C i).getD k 0 = j at *
  generalize lowL h ((nearN R C i).take k) i = m at *
  have hgw := (hg.ext x1).ext xw
  simp (disch := omega) only [go_sem, a0, a6, a7, hlt, g0]
  refine callK_pure ke (l2Height_c gb go gc rb ro rc R C h _ hgw hR7 hC7 j om om) fun w2 x2 => ?_
  simp (disch := omega) only [go_sem, a0, a5]
  refine callK_pure ke (l2Height_c gb go gc rb ro rc R C h _ (hgw.ext x2) hR7 hC7 m om om) fun w3 x3 => ?_
  have g3 := (Ext.cell (x2.trans x3)) g0
  by_cases hh : h j < h m
  ·rw [if_pos hh] at hstep
   simp (disch := omega) only [go_sem, a6, a7, hh, g3]
   exact ⟨om, uu, by simp [upd_apply, hstep], uu, uu, (xw.trans x2).trans x3⟩
  ·rw [if_neg hh] at hstep
   simp (disch := omega) only [go_sem, a6, a7, hh]
   exact ⟨om, uu, by simp [upd_apply, hstep, a5], uu, uu, (xw.trans x2).trans x3⟩
 ·obtain rfl : k = (nearN R C i).length := om
  simp (disch := omega) only [go_sem, a5, a6, a7, hlt, List.take_length, Tryz.results177]
  exact ⟨rfl, x1.trans xw⟩
theorem l2Run_c (gb go gc : Nat) (rb ro rc : Nat → Nat) (R C : Nat) (h : Nat → Int) (w : World) (hg : GridAt w gb go rb ro rc R C h) (g : Gd R C h) (i : Nat) (hi : i < R * C) :
  Ret Tryz.prog 139 #[.slice (some ⟨gb, go, none⟩) R gc, .int .i64 i] w fun v w' => Got1 w w' (ni (waterN R C h i)) v := by
 have hRC := g.le
 refine enter2 Tryz.func139 rfl fun f a0 a1 => ?_
 simp (disch := omega) only [go_sem, a1]
 refine bslK_1 elt_i rfl fun w1 b1 e1 x1 k1 _ => ?_
 simp (disch := omega) only [go_sem]
 refine loopX (fun n f W => ∃ (pre : List Nat) (cur : Nat), n = (waterN R C h cur).length ∧ cur < R * C ∧ pre ++ waterN R C h cur = waterN R C h i ∧ f 0 = .slice (some ⟨gb, go, none⟩) R gc ∧ f 1 = .int .i64 cur ∧
  (∃ a c, f 5 = .slice a (pre ++ [cur]).length c ∧ OwnS W 3 1 a (pre ++ [cur]).length c (vi (ni (pre ++ [cur]))) ∧ (∀ b, blk a = some b → w.heap.size ≤ b)) ∧ Ext w W) (waterN R C h i).length ?_ ?_
 ·refine ⟨[], i, rfl, hi, rfl, uu, uu, ⟨some ⟨b1, 0, none⟩, 1, by simp [upd_apply], ?_, fun b hb => by simp [blk] at hb; omega⟩, x1⟩
  have := OwnS.of_blk (e := 3) (n := 1) (s := 1) k1 sm (by simp [maxLen])
  simpa [vi, ni] using this
 ·rintro n f W ⟨pre, cur, rfl, hcur, hrun, a0, a1, ⟨a, c, a5, o, hb⟩, xw⟩
  have hgw := hg.ext xw
  have hlen : (pre ++ [cur]).length ≤ 100 := by
   have h1 := waterN_len g i hi
   have h2 := g.hh i hi
   have h3 := waterN_ne g hcur
   have h4 := List.length_pos_iff.2 h3
   rw [← hrun, List.length_append] at h1
   simp only [List.length_append, List.length_singleton]; omega
  simp (disch := omega) only [go_sem, a0, a1]
  refine callK_pure ke (l2Next_c gb go gc rb ro rc R C h _ hgw g.r7 g.c7 cur hcur) fun w2 x2 => ?_
  by_cases hs : nextN R C h cur = cur
  ·have hbq : (((nextN R C h cur : Nat) : Int) != (cur : Int)) = false := by simp [hs]
   simp (disch := omega) only [go_sem, a1, a5, hbq, Tryz.results139]
   have e : pre ++ [cur] = waterN R C h i := by rw [← hrun, waterN_sink g hcur hs]
   rw [e] at o
   refine ⟨a, c, by rw [e, ni_len], by rw [ni_len]; exact o.ext x2, hb, xw.trans x2⟩
  ·have hbq : (((nextN R C h cur : Nat) : Int) != (cur : Int)) = true := by simp; omega
   simp (disch := omega) only [go_sem, a0, a1, hbq]
   refine callK_pure ke (l2Next_c gb go gc rb ro rc R C h _ (hgw.ext x2) g.r7 g.c7 cur hcur) fun w3 x3 => ?_
   simp (disch := omega) only [go_sem, a5]
   refine bslK_1 elt_i rfl fun w4 b4 e4 x4 k4 _ => ?_
   simp (disch := omega) only [go_sem]
   have xx := ((xw.trans x2).trans x3).trans x4
   refine appK_1 elt_i (((o.ext x2).ext x3).ext x4) k4 rfl om (.inl dc) fun w5 a5' c5 o5 g5 h5 => ?_
   simp (disch := omega) only [go_sem]
   have hst := waterN_step g hcur hs
   refine ⟨(waterN R C h (nextN R C h cur)).length, by rw [hst]; simp, pre ++ [cur], nextN R C h cur, rfl, nextN_lt hcur, by rw [← hrun, hst]; simp, uu, uu, ⟨a5', c5, by simp [upd_apply], ?_, fun b hb2 => ?_⟩, g5.ext xx hb⟩
   ·rw [← vi_ni_snoc (pre ++ [cur]) _ _ rfl]; simpa using o5
   ·rcases h5 b hb2 with h | h
    ·exact hb b h
    ·have := xx.size; omega
theorem l1Cell_c (a : Option Addr) (rows : List (List Int)) (A : Nat → Option Addr) (Cp : Nat → Nat) (gc : Nat) (r c : Int) (w : World) (hr : RowsAt w a rows A Cp) :
  Ret Tryz.prog 98 #[.slice a rows.length gc, .int .i64 r, .int .i64 c] w fun v w' => v = .bool (cellok rows r c) ∧ Ext w w' := by
 refine enter3 Tryz.func98 rfl fun f a0 a1 a2 => ?_
 simp (disch := omega) only [go_sem, a0]
 refine callK_pure ke (gridValid_c _ _ _ _ _ _ hr) fun w1 x1 => ?_
 cases hv : gvalid rows with
 | false =>
  simp (disch := omega) only [go_sem, Tryz.results98]
  exact ⟨by simp [cellok, hv], x1⟩
 | true =>
  have v := (gvalid_iff rows).1 hv
  have hr7 := v.r7
  have hr1 := v.r1
  have hc7 := v.c7
  simp (disch := omega) only [go_sem, a0, a1]
  refine callK_pure ke (l6In_c _ _ _ _) fun w2 x2 => ?_
  by_cases h1 : 0 ≤ r ∧ r ≤ (rows.length : Int) - 1
  case neg =>
   simp (disch := omega) only [go_sem, h1, Tryz.results98]
   exact ⟨by simp [cellok, hv]; omega, x1.trans x2⟩
  obtain ⟨gb, go, rb, ro, rfl, -, hg⟩ := hr.grid v
  have g0 := ((hg.ext x1).ext x2).row 0 om
  simp only [Nat.add_zero] at g0
  simp (disch := omega) only [go_sem, a0, a2, h1, g0, and_self]
  refine callK_pure ke (l6In_c _ _ _ _) fun w3 x3 => ?_
  simp (disch := omega) only [go_sem, Tryz.results98]
  refine ⟨?_, (x1.trans x2).trans x3⟩
  simp only [cellok, hv, Bool.true_and]
  congr 1
  exact decide_eq_decide.2 om
theorem specWaterRun_c (a : Option Addr) (rows : List (List Int)) (A : Nat → Option Addr) (Cp : Nat → Nat) (gc : Nat) (r c : Int) (w : World) (hr : RowsAt w a rows A Cp) :
  Ret Tryz.prog 105 #[.slice a rows.length gc, .int .i64 r, .int .i64 c] w fun v w' => Got w w' (ni (runOf rows r c)) (cellok rows r c) v := by
 refine enter3 Tryz.func105 rfl fun f a0 a1 a2 => ?_
 simp (disch := omega) only [go_sem, a0, a1, a2]
 refine callK_pure ke (l1Cell_c _ _ _ _ _ _ _ _ hr) fun w1 x1 => ?_
 cases hok : cellok rows r c with
 | false =>
  simp (disch := omega) only [go_sem]
  refine bslK_0 elt_i fun w2 b2 e2 x2 o2 _ => ?_
  simp (disch := omega) only [go_sem, Tryz.results105]
  have s1 := x1.size
  exact ⟨_, _, by simp [runOf, hok, ni]; exact ⟨rfl, rfl⟩, by simpa [runOf, hok, ni, vi] using o2, fun b hb => by simp [blk] at hb; omega, x1.trans x2⟩
 | true =>
  obtain ⟨rn, cn, rfl, rfl, h1, h2, h3⟩ := cell_idx hok
  have hv : gvalid rows = true := by simp only [cellok, Bool.and_eq_true] at hok; exact hok.1
  have v := (gvalid_iff rows).1 hv
  have g := v.gd
  have hr7 := v.r7
  have hc7 := v.c7
  have hn49 := g.le
  obtain ⟨gb, go, rb, ro, rfl, -, hg⟩ := hr.grid v
  have g0 := (hg.ext x1).row 0 om
  simp only [Nat.add_zero] at g0
  have e1 : (rn : Int) * (rowLen rows : Int) + (cn : Int) = ((rn * rowLen rows + cn : Nat) : Int) := by simp
  have e2 : (rn : Int) * (rowLen rows : Int) = ((rn * rowLen rows : Nat) : Int) := by simp
  have e3 : ((rn * rowLen rows : Nat) : Int) + (cn : Int) = ((rn * rowLen rows + cn : Nat) : Int) := by simp
  simp (disch := omega) only [go_sem, a0, a1, a2, g0, e2, e3]
  refine callK_of ke (l2Run_c gb go gc rb ro Cp _ _ _ _ (hg.ext x1) g _ h3) ?_
  rintro _ w2 ⟨ra, rc, rfl, o, hb, x2⟩
  simp (disch := omega) only [go_sem, Tryz.results105]
  exact ⟨ra, rc, by simp [runOf, hok], by simpa [runOf, hok] using o, fun b h => Nat.le_trans x1.size (hb b h), x1.trans x2⟩
end Go.Proofs.YtcbmhjndbpafbaaGreatDoor
namespace Go.SW
end Go.SW
namespace Go.Proofs.YtcbmhjndbpafbaaGreatDoor
open Go.RowKit Go.SW
end Go.Proofs.YtcbmhjndbpafbaaGreatDoor
