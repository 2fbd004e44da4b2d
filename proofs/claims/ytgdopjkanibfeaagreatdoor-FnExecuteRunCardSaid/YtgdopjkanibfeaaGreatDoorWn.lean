/- The neighbors of a cell, both sides. Printed by a program of ours (gnear.py). -/
import Derived.Test.YtgdopjkanibfeaaGreatDoorJ2
import Derived.Test.YtgdopjkanibfeaaGreatDoorM1
import Derived.Test.YtgdopjkanibfeaaGreatDoorJ4
set_option linter.all false
set_option maxRecDepth 20000
namespace Go.Proofs.YtgdopjkanibfeaaGreatDoor
open Go.RowKit Go.SW

theorem q_south {R C i : Nat} (hC : 0 < C) : i / C + 1 < R ↔ i + C < R * C := by
  rw [← Nat.add_div_right i hC, Nat.div_lt_iff_lt_mul hC]

theorem neighbors_c (R C i : Nat) (sl : Value) (w : World) (hR7 : R ≤ 7) (hC7 : C ≤ 7) (hi : i < R * C) :
    Ret Tryz.prog 74 #[.agg #[.int .i64 R, .int .i64 C, sl], .int .i64 i] w fun v w' => ∃ a c, v = .slice a (nearN R C i).length c ∧ OwnS w' 3 1 a (nearN R C i).length c (vi (ni (nearN R C i))) ∧ (∀ b, blk a = some b → w.heap.size ≤ b) ∧ Ext w w' := by
  have hC : 0 < C := Nat.pos_of_ne_zero fun e => by subst e; simp at hi
  have hRC : R * C ≤ 7 * 7 := Nat.mul_le_mul hR7 hC7
  have hm : i % C < C := Nat.mod_lt _ hC
  have hq : i / C < R := Nat.div_lt_of_lt_mul (by rw [Nat.mul_comm]; exact hi)
  have z1 : (0 : Int) ≤ ((i / C : Nat) : Int) := Int.natCast_nonneg _
  have z2 : (0 : Int) ≤ ((i % C : Nat) : Int) := Int.natCast_nonneg _
  have m1 : (i : Int) / (C : Int) = ((i / C : Nat) : Int) := rfl
  have m2 : (i : Int) % (C : Int) = ((i % C : Nat) : Int) := rfl
  have q0 : (0 : Int) < ((i / C : Nat) : Int) ↔ C ≤ i := by have := @Nat.div_pos_iff i C; omega
  have q1 : ((i % C : Nat) : Int) + 1 < (C : Int) ↔ i % C + 1 < C := by omega
  have q2 : ((i / C : Nat) : Int) + 1 < (R : Int) ↔ i + C < R * C := by have := @q_south R C i hC; omega
  have q3 : (0 : Int) < ((i % C : Nat) : Int) ↔ 0 < i % C := by omega
  refine enter2 Tryz.func74 rfl (by kernel_rfl) (of_decide_eq_true (by kernel_rfl)) fun f a0 a1 => ?_
  simp only [go_sem, Nat.reduceEqDiff, ↓reduceIte, a0]
  refine boxK_of fun w0 fb eb x0 k0 _ => ?_
  have s0 := x0.size
  simp (disch := omega) only [go_sem, Nat.reduceEqDiff, ↓reduceIte, a1]
  refine QR_of (by kernel_rfl) (by kernel_rfl) ?_
  simp (disch := omega) only [go_sem, Nat.reduceEqDiff, ↓reduceIte, Nat.reduceAdd, a1, k0.cell, Value.cells, m1, m2]
  intro w00 x00
  refine mksK_of elt_i 0 4 _ _ _ _ rfl rfl (by omega) (by omega) (by simp [maxLen]) fun w1 b1 eb1 x1 o1 _ => ?_
  have o0 : OwnS w1 3 1 (some ⟨b1, 0, none⟩) 0 4 (vi (ni [])) := by simpa [vi, ni] using o1
  have hb0 : ∀ b, blk (some ⟨b1, 0, none⟩) = some b → w0.heap.size ≤ b := fun b hb => by have := x00.size; simp [blk] at hb; omega
  have x00 := x00.trans x1
  have kb : Blk w1 fb #[.int .i64 R, .int .i64 C, sl] 48 := k0.ext x00
  simp (disch := omega) only [go_sem, Nat.reduceEqDiff, ↓reduceIte, Nat.reduceAdd, a1]
  let J : Nat → List Nat → F → World → Prop := fun k l f wk => l.length ≤ k ∧ f 1 = .int .i64 i ∧ f 2 = .pointer (some ⟨fb, 0, none⟩) ∧ f 5 = .int .i64 (i / C : Nat) ∧ f 6 = .int .i64 (i % C : Nat) ∧ (∃ a c, f 7 = .slice a l.length c ∧ OwnS wk 3 1 a l.length c (vi (ni l)) ∧ (∀ b, blk a = some b → w0.heap.size ≤ b)) ∧ Ext w0 wk
  have grow : ∀ {k : Nat} {l : List Nat} {x : Nat} {y : Int} {wa wb wc : World} {a a' : Option Addr} {c' : Nat} {f : F}, y = (x : Int) → (∀ b, blk a = some b → w0.heap.size ≤ b) → Ext w0 wa → Ext wa wb →
      OwnS wc 3 1 a' (l.length + 1) c' (vi (ni l) ++ [.int .i64 y]) → Grow (blk a) wb wc → (∀ b, blk a' = some b → blk a = some b ∨ wb.heap.size ≤ b) →
      f 1 = .int .i64 i → f 2 = .pointer (some ⟨fb, 0, none⟩) → f 5 = .int .i64 (i / C : Nat) → f 6 = .int .i64 (i % C : Nat) →  f 7 = .slice a' (l.length + 1) c' → l.length ≤ k → J (k + 1) (l ++ [x]) f wc := by
    intro k l x y wa wb wc a a' c' f hy hb x1 x2 o g hb' a1 a2 a5 a6 aS hk
    refine ⟨by simp; omega, a1, a2, a5, a6, ⟨a', c', by rw [aS]; simp, by rw [← vi_ni_snoc l x y hy]; simpa using o, fun b hb2 => ?_⟩, g.ext (x1.trans x2) hb⟩
    rcases hb' b hb2 with h | h
    · exact hb b h
    · have := (x1.trans x2).size; omega
  skip
  refine cd_cut (J 1 (([] : List Nat) ++ if C ≤ i then [i - C] else [])) ?_ (cd_dec (fun h => ?_) fun h => ?_)
  · generalize hl0 : (([] : List Nat) ++ if C ≤ i then [i - C] else []) = l0
    clear o0 hb0 x00 a1 kb
    intro f wk ⟨hk, a1, a2, a5, a6, ⟨a, c, aS, o, hb⟩, xw⟩
    have kb : Blk _ fb #[.int .i64 R, .int .i64 C, sl] 48 := k0.ext xw
    simp (disch := omega) only [go_sem, Nat.reduceEqDiff, ↓reduceIte, Nat.reduceAdd, a1, a2, a5, a6, aS, kb.cell, List.getElem?_toArray, List.getElem?_cons_succ, List.getElem?_cons_zero]
    refine cd_cut (J 2 (l0 ++ if i % C + 1 < C then [i + 1] else [])) ?_ (cd_dec (fun h => ?_) fun h => ?_)
    · generalize hl1 : (l0 ++ if i % C + 1 < C then [i + 1] else []) = l1
      clear o hb xw aS hk a1 a2 a5 a6
      intro f wk ⟨hk, a1, a2, a5, a6, ⟨a, c, aS, o, hb⟩, xw⟩
      have kb : Blk _ fb #[.int .i64 R, .int .i64 C, sl] 48 := k0.ext xw
      simp (disch := omega) only [go_sem, Nat.reduceEqDiff, ↓reduceIte, Nat.reduceAdd, a1, a2, a5, a6, aS, kb.cell, List.getElem?_toArray, List.getElem?_cons_succ, List.getElem?_cons_zero]
      refine cd_cut (J 3 (l1 ++ if i + C < R * C then [i + C] else [])) ?_ (cd_dec (fun h => ?_) fun h => ?_)
      · generalize hl2 : (l1 ++ if i + C < R * C then [i + C] else []) = l2
        clear o hb xw aS hk a1 a2 a5 a6
        intro f wk ⟨hk, a1, a2, a5, a6, ⟨a, c, aS, o, hb⟩, xw⟩
        have kb : Blk _ fb #[.int .i64 R, .int .i64 C, sl] 48 := k0.ext xw
        simp (disch := omega) only [go_sem, Nat.reduceEqDiff, ↓reduceIte, Nat.reduceAdd, a1, a2, a5, a6, aS, kb.cell, List.getElem?_toArray, List.getElem?_cons_succ, List.getElem?_cons_zero]
        refine cd_cut (J 4 (l2 ++ if 0 < i % C then [i - 1] else [])) ?_ (cd_dec (fun h => ?_) fun h => ?_)
        · generalize hl3 : (l2 ++ if 0 < i % C then [i - 1] else []) = l3
          clear o hb xw aS hk a1 a2 a5 a6
          intro f wk ⟨hk, a1, a2, a5, a6, ⟨a, c, aS, o, hb⟩, xw⟩
          simp only [go_sem, Nat.reduceEqDiff, ↓reduceIte, Nat.reduceAdd, aS, Tryz.results74]
          refine ⟨a, c, ?_, ?_, fun b h => Nat.le_trans s0 (hb b h), x0.trans xw⟩
          · simp only [nearN, hl0, hl1, hl2, hl3]
          · simp only [nearN, hl0, hl1, hl2, hl3]; exact o
        · have kb : Blk _ fb #[.int .i64 R, .int .i64 C, sl] 48 := k0.ext xw
          simp (disch := omega) only [go_sem, Nat.reduceEqDiff, ↓reduceIte, Nat.reduceAdd, a1, a2, a5, a6, aS, kb.cell, List.getElem?_toArray, List.getElem?_cons_succ, List.getElem?_cons_zero]
          refine bslK_1 elt_i rfl fun w2 b2 _ x2 k2 _ => ?_
          simp only [go_sem, Nat.reduceEqDiff, ↓reduceIte, Nat.reduceAdd]
          refine appK_1 elt_i (o.ext x2) k2 rfl (by omega) (.inl (by decide)) fun w3 a3 c3 o3 g3 h3 => ?_
          simp only [go_sem, Nat.reduceEqDiff, ↓reduceIte, Nat.reduceAdd]
          rw [if_pos (q3.1 h)]
          refine grow (by have := q3.1 h; have := Nat.mod_le i C; omega) hb xw x2 o3 g3 h3 ?_ ?_ ?_ ?_ ?_ hk <;> simp only [upd_apply, Nat.reduceEqDiff, ↓reduceIte, Nat.reduceAdd, a1, a2, a5, a6]
        · simp only [go_sem, Nat.reduceEqDiff, ↓reduceIte, Nat.reduceAdd]
          rw [if_neg (fun e => h (q3.2 e)), List.append_nil]
          exact ⟨by omega, by simp only [upd_apply, Nat.reduceEqDiff, ↓reduceIte, Nat.reduceAdd, a1], by simp only [upd_apply, Nat.reduceEqDiff, ↓reduceIte, Nat.reduceAdd, a2], by simp only [upd_apply, Nat.reduceEqDiff, ↓reduceIte, Nat.reduceAdd, a5], by simp only [upd_apply, Nat.reduceEqDiff, ↓reduceIte, Nat.reduceAdd, a6], ⟨_, _, by simp only [upd_apply, Nat.reduceEqDiff, ↓reduceIte, Nat.reduceAdd, aS], o, hb⟩, xw⟩
      · have kb : Blk _ fb #[.int .i64 R, .int .i64 C, sl] 48 := k0.ext xw
        simp (disch := omega) only [go_sem, Nat.reduceEqDiff, ↓reduceIte, Nat.reduceAdd, a1, a2, a5, a6, aS, kb.cell, List.getElem?_toArray, List.getElem?_cons_succ, List.getElem?_cons_zero]
        refine bslK_1 elt_i rfl fun w2 b2 _ x2 k2 _ => ?_
        simp only [go_sem, Nat.reduceEqDiff, ↓reduceIte, Nat.reduceAdd]
        refine appK_1 elt_i (o.ext x2) k2 rfl (by omega) (.inl (by decide)) fun w3 a3 c3 o3 g3 h3 => ?_
        simp only [go_sem, Nat.reduceEqDiff, ↓reduceIte, Nat.reduceAdd]
        rw [if_pos (q2.1 h)]
        refine grow (by omega) hb xw x2 o3 g3 h3 ?_ ?_ ?_ ?_ ?_ hk <;> simp only [upd_apply, Nat.reduceEqDiff, ↓reduceIte, Nat.reduceAdd, a1, a2, a5, a6]
      · simp only [go_sem, Nat.reduceEqDiff, ↓reduceIte, Nat.reduceAdd]
        rw [if_neg (fun e => h (q2.2 e)), List.append_nil]
        exact ⟨by omega, by simp only [upd_apply, Nat.reduceEqDiff, ↓reduceIte, Nat.reduceAdd, a1], by simp only [upd_apply, Nat.reduceEqDiff, ↓reduceIte, Nat.reduceAdd, a2], by simp only [upd_apply, Nat.reduceEqDiff, ↓reduceIte, Nat.reduceAdd, a5], by simp only [upd_apply, Nat.reduceEqDiff, ↓reduceIte, Nat.reduceAdd, a6], ⟨_, _, by simp only [upd_apply, Nat.reduceEqDiff, ↓reduceIte, Nat.reduceAdd, aS], o, hb⟩, xw⟩
    · have kb : Blk _ fb #[.int .i64 R, .int .i64 C, sl] 48 := k0.ext xw
      simp (disch := omega) only [go_sem, Nat.reduceEqDiff, ↓reduceIte, Nat.reduceAdd, a1, a2, a5, a6, aS, kb.cell, List.getElem?_toArray, List.getElem?_cons_succ, List.getElem?_cons_zero]
      refine bslK_1 elt_i rfl fun w2 b2 _ x2 k2 _ => ?_
      simp only [go_sem, Nat.reduceEqDiff, ↓reduceIte, Nat.reduceAdd]
      refine appK_1 elt_i (o.ext x2) k2 rfl (by omega) (.inl (by decide)) fun w3 a3 c3 o3 g3 h3 => ?_
      simp only [go_sem, Nat.reduceEqDiff, ↓reduceIte, Nat.reduceAdd]
      rw [if_pos (q1.1 h)]
      refine grow (by omega) hb xw x2 o3 g3 h3 ?_ ?_ ?_ ?_ ?_ hk <;> simp only [upd_apply, Nat.reduceEqDiff, ↓reduceIte, Nat.reduceAdd, a1, a2, a5, a6]
    · simp only [go_sem, Nat.reduceEqDiff, ↓reduceIte, Nat.reduceAdd]
      rw [if_neg (fun e => h (q1.2 e)), List.append_nil]
      exact ⟨by omega, by simp only [upd_apply, Nat.reduceEqDiff, ↓reduceIte, Nat.reduceAdd, a1], by simp only [upd_apply, Nat.reduceEqDiff, ↓reduceIte, Nat.reduceAdd, a2], by simp only [upd_apply, Nat.reduceEqDiff, ↓reduceIte, Nat.reduceAdd, a5], by simp only [upd_apply, Nat.reduceEqDiff, ↓reduceIte, Nat.reduceAdd, a6], ⟨_, _, by simp only [upd_apply, Nat.reduceEqDiff, ↓reduceIte, Nat.reduceAdd, aS], o, hb⟩, xw⟩
  · have kb : Blk _ fb #[.int .i64 R, .int .i64 C, sl] 48 := k0.ext x00
    simp (disch := omega) only [go_sem, Nat.reduceEqDiff, ↓reduceIte, Nat.reduceAdd, a1, kb.cell, List.getElem?_toArray, List.getElem?_cons_succ, List.getElem?_cons_zero]
    refine bslK_1 elt_i rfl fun w2 b2 _ x2 k2 _ => ?_
    simp only [go_sem, Nat.reduceEqDiff, ↓reduceIte, Nat.reduceAdd]
    refine appK_1 elt_i (o0.ext x2) k2 rfl (by omega) (.inl (by decide)) fun w3 a3 c3 o3 g3 h3 => ?_
    simp only [go_sem, Nat.reduceEqDiff, ↓reduceIte, Nat.reduceAdd]
    rw [if_pos (q0.1 h)]
    refine grow (l := []) (by have := q0.1 h; omega) hb0 x00 x2 o3 g3 h3 ?_ ?_ ?_ ?_ ?_ (Nat.le_refl _) <;> simp only [upd_apply, Nat.reduceEqDiff, ↓reduceIte, Nat.reduceAdd, a1, List.length_nil]
  · simp only [go_sem, Nat.reduceEqDiff, ↓reduceIte, Nat.reduceAdd]
    rw [if_neg (fun e => h (q0.2 e)), List.append_nil]
    exact ⟨by simp, by simp only [upd_apply, Nat.reduceEqDiff, ↓reduceIte, Nat.reduceAdd, a1], by simp only [upd_apply, Nat.reduceEqDiff, ↓reduceIte, Nat.reduceAdd], by simp only [upd_apply, Nat.reduceEqDiff, ↓reduceIte, Nat.reduceAdd], by simp only [upd_apply, Nat.reduceEqDiff, ↓reduceIte, Nat.reduceAdd], ⟨_, _, by simp only [upd_apply, Nat.reduceEqDiff, ↓reduceIte, Nat.reduceAdd]; rfl, o0, hb0⟩, x00⟩

theorem l2Near_c (gb go gc : Nat) (rb ro rc : Nat → Nat) (R C : Nat) (h : Nat → Int) (w : World) (hg : GridAt w gb go rb ro rc R C h) (hR7 : R ≤ 7) (hC7 : C ≤ 7) (i : Nat) (hi : i < R * C) :
    Ret Tryz.prog 72 #[.slice (some ⟨gb, go, none⟩) R gc, .int .i64 i] w fun v w' => ∃ a c, v = .slice a (nearN R C i).length c ∧ OwnS w' 3 1 a (nearN R C i).length c (vi (ni (nearN R C i))) ∧ (∀ b, blk a = some b → w.heap.size ≤ b) ∧ Ext w w' := by
  have hC : 0 < C := Nat.pos_of_ne_zero fun e => by subst e; simp at hi
  have hR : 0 < R := Nat.pos_of_ne_zero fun e => by subst e; simp at hi
  have hRC : R * C ≤ 7 * 7 := Nat.mul_le_mul hR7 hC7
  have hm : i % C < C := Nat.mod_lt _ hC
  have m2 : (i : Int) % (C : Int) = ((i % C : Nat) : Int) := rfl
  have z2 : (0 : Int) ≤ ((i % C : Nat) : Int) := Int.natCast_nonneg _
  have m3 : (C : Int) * ((R : Int) - 1) = ((R * C : Nat) : Int) - (C : Int) := by rw [Int.mul_sub, Int.mul_one, Int.natCast_mul, Int.mul_comm]
  have hcr : C ≤ R * C := Nat.le_mul_of_pos_left C hR
  have q0 : (C : Int) ≤ (i : Int) ↔ C ≤ i := by omega
  have q1 : ((i % C : Nat) : Int) < (C : Int) - 1 ↔ i % C + 1 < C := by omega
  have q2 : (i : Int) < ((R * C : Nat) : Int) - (C : Int) ↔ i + C < R * C := by omega
  have q3 : (0 : Int) < ((i % C : Nat) : Int) ↔ 0 < i % C := by omega
  refine enter2 Tryz.func72 rfl (by kernel_rfl) (of_decide_eq_true (by kernel_rfl)) fun f a0 a1 => ?_
  simp only [go_sem, Nat.reduceEqDiff, ↓reduceIte, a0, a1]
  refine bslK_0 elt_i fun w1 b1 eb x00 o1 _ => ?_
  have g0 := (hg.ext x00).row 0 (by omega)
  simp only [Nat.add_zero] at g0
  have o0 : OwnS w1 3 1 (some ⟨b1, 0, none⟩) 0 0 (vi (ni [])) := by simpa [vi, ni] using o1
  have hb0 : ∀ b, blk (some ⟨b1, 0, none⟩) = some b → w.heap.size ≤ b := fun b hb => by simp [blk] at hb; omega
  simp (disch := omega) only [go_sem, Nat.reduceEqDiff, ↓reduceIte, Nat.reduceAdd, a0, a1, g0]
  let J : Nat → List Nat → F → World → Prop := fun k l f wk => l.length ≤ k ∧ f 0 = .slice (some ⟨gb, go, none⟩) R gc ∧ f 1 = .int .i64 i ∧ f 6 = .int .i64 C ∧ (∃ a c, f 5 = .slice a l.length c ∧ OwnS wk 3 1 a l.length c (vi (ni l)) ∧ (∀ b, blk a = some b → w.heap.size ≤ b)) ∧ Ext w wk
  have grow : ∀ {k : Nat} {l : List Nat} {x : Nat} {y : Int} {wa wb wc : World} {a a' : Option Addr} {c' : Nat} {f : F}, y = (x : Int) → (∀ b, blk a = some b → w.heap.size ≤ b) → Ext w wa → Ext wa wb →
      OwnS wc 3 1 a' (l.length + 1) c' (vi (ni l) ++ [.int .i64 y]) → Grow (blk a) wb wc → (∀ b, blk a' = some b → blk a = some b ∨ wb.heap.size ≤ b) →
      f 0 = .slice (some ⟨gb, go, none⟩) R gc → f 1 = .int .i64 i → f 6 = .int .i64 C →  f 5 = .slice a' (l.length + 1) c' → l.length ≤ k → J (k + 1) (l ++ [x]) f wc := by
    intro k l x y wa wb wc a a' c' f hy hb x1 x2 o g hb' a0 a1 a6 aS hk
    refine ⟨by simp; omega, a0, a1, a6, ⟨a', c', by rw [aS]; simp, by rw [← vi_ni_snoc l x y hy]; simpa using o, fun b hb2 => ?_⟩, g.ext (x1.trans x2) hb⟩
    rcases hb' b hb2 with h | h
    · exact hb b h
    · have := (x1.trans x2).size; omega
  skip
  refine cd_cut (J 1 (([] : List Nat) ++ if C ≤ i then [i - C] else [])) ?_ (cd_dec (fun h => ?_) fun h => ?_)
  · generalize hl0 : (([] : List Nat) ++ if C ≤ i then [i - C] else []) = l0
    clear o0 hb0 x00 g0 a0 a1
    intro f wk ⟨hk, a0, a1, a6, ⟨a, c, aS, o, hb⟩, xw⟩
    simp (disch := omega) only [go_sem, Nat.reduceEqDiff, ↓reduceIte, Nat.reduceAdd, a0, a1, a6, aS, m2, m3]
    refine cd_cut (J 2 (l0 ++ if i % C + 1 < C then [i + 1] else [])) ?_ (cd_dec (fun h => ?_) fun h => ?_)
    · generalize hl1 : (l0 ++ if i % C + 1 < C then [i + 1] else []) = l1
      clear o hb xw aS hk a0 a1 a6
      intro f wk ⟨hk, a0, a1, a6, ⟨a, c, aS, o, hb⟩, xw⟩
      simp (disch := omega) only [go_sem, Nat.reduceEqDiff, ↓reduceIte, Nat.reduceAdd, a0, a1, a6, aS, m2, m3]
      refine cd_cut (J 3 (l1 ++ if i + C < R * C then [i + C] else [])) ?_ (cd_dec (fun h => ?_) fun h => ?_)
      · generalize hl2 : (l1 ++ if i + C < R * C then [i + C] else []) = l2
        clear o hb xw aS hk a0 a1 a6
        intro f wk ⟨hk, a0, a1, a6, ⟨a, c, aS, o, hb⟩, xw⟩
        simp (disch := omega) only [go_sem, Nat.reduceEqDiff, ↓reduceIte, Nat.reduceAdd, a0, a1, a6, aS, m2, m3]
        refine cd_cut (J 4 (l2 ++ if 0 < i % C then [i - 1] else [])) ?_ (cd_dec (fun h => ?_) fun h => ?_)
        · generalize hl3 : (l2 ++ if 0 < i % C then [i - 1] else []) = l3
          clear o hb xw aS hk a0 a1 a6
          intro f wk ⟨hk, a0, a1, a6, ⟨a, c, aS, o, hb⟩, xw⟩
          simp only [go_sem, Nat.reduceEqDiff, ↓reduceIte, Nat.reduceAdd, aS, Tryz.results72]
          refine ⟨a, c, ?_, ?_, fun b h => Nat.le_trans (Nat.le_refl _) (hb b h), xw⟩
          · simp only [nearN, hl0, hl1, hl2, hl3]
          · simp only [nearN, hl0, hl1, hl2, hl3]; exact o
        · simp (disch := omega) only [go_sem, Nat.reduceEqDiff, ↓reduceIte, Nat.reduceAdd, a0, a1, a6, aS, m2, m3]
          refine bslK_1 elt_i rfl fun w2 b2 _ x2 k2 _ => ?_
          simp only [go_sem, Nat.reduceEqDiff, ↓reduceIte, Nat.reduceAdd]
          refine appK_1 elt_i (o.ext x2) k2 rfl (by omega) (.inl (by decide)) fun w3 a3 c3 o3 g3 h3 => ?_
          simp only [go_sem, Nat.reduceEqDiff, ↓reduceIte, Nat.reduceAdd]
          rw [if_pos (q3.1 h)]
          refine grow (by have := q3.1 h; have := Nat.mod_le i C; omega) hb xw x2 o3 g3 h3 ?_ ?_ ?_ ?_ hk <;> simp only [upd_apply, Nat.reduceEqDiff, ↓reduceIte, Nat.reduceAdd, a0, a1, a6]
        · simp only [go_sem, Nat.reduceEqDiff, ↓reduceIte, Nat.reduceAdd]
          rw [if_neg (fun e => h (q3.2 e)), List.append_nil]
          exact ⟨by omega, by simp only [upd_apply, Nat.reduceEqDiff, ↓reduceIte, Nat.reduceAdd, a0], by simp only [upd_apply, Nat.reduceEqDiff, ↓reduceIte, Nat.reduceAdd, a1], by simp only [upd_apply, Nat.reduceEqDiff, ↓reduceIte, Nat.reduceAdd, a6], ⟨_, _, by simp only [upd_apply, Nat.reduceEqDiff, ↓reduceIte, Nat.reduceAdd, aS], o, hb⟩, xw⟩
      · simp (disch := omega) only [go_sem, Nat.reduceEqDiff, ↓reduceIte, Nat.reduceAdd, a0, a1, a6, aS, m2, m3]
        refine bslK_1 elt_i rfl fun w2 b2 _ x2 k2 _ => ?_
        simp only [go_sem, Nat.reduceEqDiff, ↓reduceIte, Nat.reduceAdd]
        refine appK_1 elt_i (o.ext x2) k2 rfl (by omega) (.inl (by decide)) fun w3 a3 c3 o3 g3 h3 => ?_
        simp only [go_sem, Nat.reduceEqDiff, ↓reduceIte, Nat.reduceAdd]
        rw [if_pos (q2.1 h)]
        refine grow (by omega) hb xw x2 o3 g3 h3 ?_ ?_ ?_ ?_ hk <;> simp only [upd_apply, Nat.reduceEqDiff, ↓reduceIte, Nat.reduceAdd, a0, a1, a6]
      · simp only [go_sem, Nat.reduceEqDiff, ↓reduceIte, Nat.reduceAdd]
        rw [if_neg (fun e => h (q2.2 e)), List.append_nil]
        exact ⟨by omega, by simp only [upd_apply, Nat.reduceEqDiff, ↓reduceIte, Nat.reduceAdd, a0], by simp only [upd_apply, Nat.reduceEqDiff, ↓reduceIte, Nat.reduceAdd, a1], by simp only [upd_apply, Nat.reduceEqDiff, ↓reduceIte, Nat.reduceAdd, a6], ⟨_, _, by simp only [upd_apply, Nat.reduceEqDiff, ↓reduceIte, Nat.reduceAdd, aS], o, hb⟩, xw⟩
    · simp (disch := omega) only [go_sem, Nat.reduceEqDiff, ↓reduceIte, Nat.reduceAdd, a0, a1, a6, aS, m2, m3]
      refine bslK_1 elt_i rfl fun w2 b2 _ x2 k2 _ => ?_
      simp only [go_sem, Nat.reduceEqDiff, ↓reduceIte, Nat.reduceAdd]
      refine appK_1 elt_i (o.ext x2) k2 rfl (by omega) (.inl (by decide)) fun w3 a3 c3 o3 g3 h3 => ?_
      simp only [go_sem, Nat.reduceEqDiff, ↓reduceIte, Nat.reduceAdd]
      rw [if_pos (q1.1 h)]
      refine grow (by omega) hb xw x2 o3 g3 h3 ?_ ?_ ?_ ?_ hk <;> simp only [upd_apply, Nat.reduceEqDiff, ↓reduceIte, Nat.reduceAdd, a0, a1, a6]
    · simp only [go_sem, Nat.reduceEqDiff, ↓reduceIte, Nat.reduceAdd]
      rw [if_neg (fun e => h (q1.2 e)), List.append_nil]
      exact ⟨by omega, by simp only [upd_apply, Nat.reduceEqDiff, ↓reduceIte, Nat.reduceAdd, a0], by simp only [upd_apply, Nat.reduceEqDiff, ↓reduceIte, Nat.reduceAdd, a1], by simp only [upd_apply, Nat.reduceEqDiff, ↓reduceIte, Nat.reduceAdd, a6], ⟨_, _, by simp only [upd_apply, Nat.reduceEqDiff, ↓reduceIte, Nat.reduceAdd, aS], o, hb⟩, xw⟩
  · simp (disch := omega) only [go_sem, Nat.reduceEqDiff, ↓reduceIte, Nat.reduceAdd, a0, a1, m2, m3]
    refine bslK_1 elt_i rfl fun w2 b2 _ x2 k2 _ => ?_
    simp only [go_sem, Nat.reduceEqDiff, ↓reduceIte, Nat.reduceAdd]
    refine appK_1 elt_i (o0.ext x2) k2 rfl (by omega) (.inl (by decide)) fun w3 a3 c3 o3 g3 h3 => ?_
    simp only [go_sem, Nat.reduceEqDiff, ↓reduceIte, Nat.reduceAdd]
    rw [if_pos (q0.1 h)]
    refine grow (l := []) (by have := q0.1 h; omega) hb0 x00 x2 o3 g3 h3 ?_ ?_ ?_ ?_ (Nat.le_refl _) <;> simp only [upd_apply, Nat.reduceEqDiff, ↓reduceIte, Nat.reduceAdd, a0, a1, List.length_nil]
  · simp only [go_sem, Nat.reduceEqDiff, ↓reduceIte, Nat.reduceAdd]
    rw [if_neg (fun e => h (q0.2 e)), List.append_nil]
    exact ⟨by simp, by simp only [upd_apply, Nat.reduceEqDiff, ↓reduceIte, Nat.reduceAdd, a0], by simp only [upd_apply, Nat.reduceEqDiff, ↓reduceIte, Nat.reduceAdd, a1], by simp only [upd_apply, Nat.reduceEqDiff, ↓reduceIte, Nat.reduceAdd], ⟨_, _, by simp only [upd_apply, Nat.reduceEqDiff, ↓reduceIte, Nat.reduceAdd]; rfl, o0, hb0⟩, x00⟩

end Go.Proofs.YtgdopjkanibfeaaGreatDoor
