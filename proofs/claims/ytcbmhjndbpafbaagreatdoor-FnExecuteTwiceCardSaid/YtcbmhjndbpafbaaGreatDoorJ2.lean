import Derived.Test.YtcbmhjndbpafbaaGreatDoorChecked
import Derived.Test.YtcbmhjndbpafbaaGreatDoorSwi
set_option linter.all false
set_option maxRecDepth 20000
namespace Go.SW
open Go Go.RowKit
def vi (l : List Int) : List Value := l.map (Value.int .i64)
theorem vi_snoc (l : List Int) (x : Int) : vi l ++ [.int .i64 x] = vi (l ++ [x]) := by simp [vi]
theorem vi_len (l : List Int) : (vi l).length = l.length := by simp [vi]
theorem vi_get (l : List Int) (i : Nat) (h : i < l.length) : (vi l)[i]? = some (.int .i64 (l.getD i 0)) := by simp [vi, h]
theorem vi_ext {xs : List Value} {l : List Int} (hn : xs.length = l.length) (h : ∀ j, j < l.length → xs[j]? = some (.int .i64 (l.getD j 0))) : xs = vi l := by
 apply List.ext_getElem?
 intro j
 by_cases hj : j < l.length
 ·rw [h j hj, vi_get l j hj]
 ·rw [List.getElem?_eq_none om, List.getElem?_eq_none (by rw [vi_len]; omega)]
theorem set_get {xs : List Value} {k : Nat} {v : Value} (P : Nat → Value) (hk : k < xs.length) (hv : v = P k) (h : ∀ j, j < k → xs[j]? = some (P j)) : ∀ j, j < k + 1 → (xs.set k v)[j]? = some (P j) := by
 intro j hj
 rw [List.getElem?_set]
 by_cases e : k = j
 ·subst e; simp [hk, hv]
 ·rw [if_neg e]; exact h j om
theorem maxLen_le {n : Nat} (h : n ≤ maxLen) : (n : Int) ≤ 9223372036854775807 := by simp [maxLen] at h; omega
def I64 (x : Int) : Prop := -9223372036854775808 ≤ x ∧ x ≤ 9223372036854775807
structure IntS (w : World) (a : Option Addr) (l : List Int) : Prop where
 head : l ≠ [] → ∃ b o, a = some ⟨b, o, none⟩
 cell : ∀ b o, a = some ⟨b, o, none⟩ → ∀ i : Nat, i < l.length → w.cell? ⟨b, o + i, none⟩ = some (.int .i64 (l.getD i 0))
theorem IntS.kept {w w' : World} {a : Option Addr} {l : List Int} (h : IntS w a l) (hk : ∀ b, blk a = some b → b < w.heap.size → w'.heap[b]? = w.heap[b]?) : IntS w' a l :=
 ⟨h.head, fun b o ha i h1 => by
  have hc := h.cell b o ha i h1
  rw [World.cell?_of_block (w := w) (hk b (by rw [ha]; rfl) (World.block_lt_of_cell? w _ hc)), hc]⟩
theorem IntS.ext {w w' : World} {a : Option Addr} {l : List Int} (h : IntS w a l) (e : Ext w w') : IntS w' a l := h.kept fun b _ hb => Below.block e b hb
theorem IntS.grow {ob : Option Nat} {w w' : World} {a : Option Addr} {l : List Int} (h : IntS w a l) (g : Grow ob w w') (hne : ∀ b, blk a = some b → ob ≠ some b) : IntS w' a l :=
 h.kept fun b hb hlt => g.other b hlt (hne b hb)
theorem IntS.nil (w : World) (a : Option Addr) : IntS w a [] := ⟨fun h => absurd rfl h, fun _ _ _ i h1 => by simp at h1⟩
theorem OwnS.ints {w : World} {e n c : Nat} {a : Option Addr} {l : List Int} (h : OwnS w e 1 a n c (vi l)) : IntS w a l := by
 have hn : l.length = n := by have := h.1; rw [vi_len] at this; omega
 refine ⟨fun hne => ?_, fun b o ha i h1 => ?_⟩
 ·obtain ⟨b, rfl⟩ := h.some (by rw [← hn]; exact List.length_pos_iff.2 hne)
  exact ⟨b, 0, rfl⟩
 ·obtain ⟨b', rfl⟩ := h.some om
  simp only [Option.some.injEq, Addr.mk.injEq] at ha
  obtain ⟨rfl, rfl, _⟩ := ha
  rw [Nat.zero_add, h.cell om, vi_get l i h1]
structure RowsAt (w : World) (a : Option Addr) (rows : List (List Int)) (A : Nat → Option Addr) (Cp : Nat → Nat) : Prop where
 head : rows ≠ [] → ∃ b o, a = some ⟨b, o, none⟩
 row : ∀ b o, a = some ⟨b, o, none⟩ → ∀ r : Nat, r < rows.length → w.cell? ⟨b, o + r, none⟩ = some (.slice (A r) (rows.getD r []).length (Cp r))
 ints : ∀ r, r < rows.length → IntS w (A r) (rows.getD r [])
 i64 : ∀ l ∈ rows, ∀ x ∈ l, I64 x
 len : ∀ l ∈ rows, l.length ≤ maxLen
 lens : rows.length ≤ maxLen
theorem RowsAt.ext {w w' : World} {a : Option Addr} {rows : List (List Int)} {A : Nat → Option Addr} {Cp : Nat → Nat} (h : RowsAt w a rows A Cp) (e : Ext w w') : RowsAt w' a rows A Cp :=
 ⟨h.head, fun b o ha r h1 => e.cell (h.row b o ha r h1), fun r hr => (h.ints r hr).ext e, h.i64, h.len, h.lens⟩
structure OwnRows (w : World) (eo ei B b : Nat) (rows : List (List Int)) (A : Nat → Option Addr) : Prop where
 top : ∃ xs, OwnS w eo 1 (some ⟨b, 0, none⟩) rows.length rows.length xs ∧ ∀ r, r < rows.length → xs[r]? = some (.slice (A r) (rows.getD r []).length (rows.getD r []).length)
 hb : B ≤ b
 row : ∀ r, r < rows.length → ∃ br, A r = some ⟨br, 0, none⟩ ∧ B ≤ br ∧ br ≠ b ∧ OwnS w ei 1 (A r) (rows.getD r []).length (rows.getD r []).length (vi (rows.getD r []))
 inj : ∀ r s, r < rows.length → s < rows.length → blk (A r) = blk (A s) → r = s
theorem OwnRows.ext {w w' : World} {eo ei B b : Nat} {rows : List (List Int)} {A : Nat → Option Addr} (h : OwnRows w eo ei B b rows A) (e : Ext w w') : OwnRows w' eo ei B b rows A :=
 ⟨let ⟨xs, o, hx⟩ := h.top; ⟨xs, o.ext e, hx⟩, h.hb, fun r hr => let ⟨br, h1, h2, h3, o⟩ := h.row r hr; ⟨br, h1, h2, h3, o.ext e⟩, h.inj⟩
theorem OwnRows.at {w : World} {eo ei B b : Nat} {rows : List (List Int)} {A : Nat → Option Addr} (h : OwnRows w eo ei B b rows A) (hi : ∀ l ∈ rows, ∀ x ∈ l, I64 x) (hn : rows.length ≤ maxLen)
  (hl : ∀ l ∈ rows, l.length ≤ maxLen) : RowsAt w (some ⟨b, 0, none⟩) rows A (fun r => (rows.getD r []).length) := by
 obtain ⟨xs, o, hx⟩ := h.top
 refine ⟨fun _ => ⟨b, 0, rfl⟩, fun b' o' ha r hr => ?_, fun r hr => ?_, hi, hl, hn⟩
 ·simp only [Option.some.injEq, Addr.mk.injEq] at ha
  obtain ⟨rfl, rfl, _⟩ := ha
  rw [Nat.zero_add, o.cell om, hx r hr]
 ·obtain ⟨br, _, _, _, o'⟩ := h.row r hr
  exact o'.ints
structure GridAt (w : World) (gb go : Nat) (rb ro rc : Nat → Nat) (R C : Nat) (h : Nat → Int) : Prop where
 row : ∀ r : Nat, r < R → w.cell? ⟨gb, go + r, none⟩ = some (.slice (some ⟨rb r, ro r, none⟩) C (rc r))
 cell : ∀ r c : Nat, r < R → c < C → w.cell? ⟨rb r, ro r + c, none⟩ = some (.int .i64 (h (r * C + c)))
theorem GridAt.ext {w w' : World} {gb go : Nat} {rb ro rc : Nat → Nat} {R C : Nat} {h : Nat → Int} (g : GridAt w gb go rb ro rc R C h) (e : Ext w w') : GridAt w' gb go rb ro rc R C h :=
 ⟨fun r h1 => e.cell (g.row r h1), fun r c h1 h3 => e.cell (g.cell r c h1 h3)⟩
def rowLen (rows : List (List Int)) : Nat := (rows.getD 0 []).length
def gvalid (rows : List (List Int)) : Bool :=
 decide (1 ≤ rows.length ∧ rows.length ≤ 7 ∧ 1 ≤ rowLen rows ∧ rowLen rows ≤ 7) && rows.all fun l => decide (l.length = rowLen rows) && l.all fun x => decide (0 ≤ x ∧ x ≤ 99)
def hgt (rows : List (List Int)) (i : Nat) : Int := (rows.getD (i / rowLen rows) []).getD (i % rowLen rows) 0
structure Valid (rows : List (List Int)) : Prop where
 r1 : 1 ≤ rows.length
 r7 : rows.length ≤ 7
 c1 : 1 ≤ rowLen rows
 c7 : rowLen rows ≤ 7
 len : ∀ r, r < rows.length → (rows.getD r []).length = rowLen rows
 cell : ∀ r c, r < rows.length → c < rowLen rows → 0 ≤ (rows.getD r []).getD c 0 ∧ (rows.getD r []).getD c 0 ≤ 99
theorem getD_at {α : Type} (l : List α) (d : α) {i : Nat} (h : i < l.length) : l.getD i d = l[i] := by simp [h]
theorem getD_mem {α : Type} {l : List α} {i : Nat} {d : α} (h : i < l.length) : l.getD i d ∈ l := by
 rw [getD_at l d h]; exact List.getElem_mem h
theorem gvalid_iff (rows : List (List Int)) : gvalid rows = true ↔ Valid rows := by
 simp only [gvalid, Bool.and_eq_true, decide_eq_true_eq, List.all_eq_true]
 constructor
 ·intro ⟨⟨a, b, c, d⟩, h⟩
  refine ⟨a, b, c, d, fun r hr => (h _ (getD_mem hr)).1, fun r c hr hc => ?_⟩
  have h2 := h _ (getD_mem (d := []) hr)
  exact h2.2 _ (getD_mem (by rw [h2.1]; exact hc))
 ·intro v
  refine ⟨⟨v.r1, v.r7, v.c1, v.c7⟩, fun l hl => ?_⟩
  obtain ⟨r, hr, rfl⟩ := List.getElem_of_mem hl
  have e : rows.getD r [] = rows[r] := getD_at rows [] hr
  refine ⟨by rw [← e]; exact v.len r hr, fun x hx => ?_⟩
  obtain ⟨c, hc, rfl⟩ := List.getElem_of_mem hx
  have := v.cell r c hr (by rw [← v.len r hr, e]; exact hc)
  rw [e, getD_at _ _ hc] at this
  exact this
theorem div_row (C r c : Nat) (h1 : c < C) : (r * C + c) / C = r ∧ (r * C + c) % C = c := by
 have hC : 0 < C := om
 constructor
 ·rw [Nat.mul_comm, Nat.mul_add_div hC, Nat.div_eq_of_lt h1, Nat.add_zero]
 ·rw [Nat.mul_comm, Nat.mul_add_mod, Nat.mod_eq_of_lt h1]
theorem RowsAt.grid {w : World} {a : Option Addr} {rows : List (List Int)} {A : Nat → Option Addr} {Cp : Nat → Nat} (h : RowsAt w a rows A Cp) (v : Valid rows) :
  ∃ gb go rb ro, a = some ⟨gb, go, none⟩ ∧ (∀ r, r < rows.length → A r = some ⟨rb r, ro r, none⟩) ∧ GridAt w gb go rb ro Cp rows.length (rowLen rows) (hgt rows) := by
 obtain ⟨gb, go, rfl⟩ := h.head (by intro e; have := v.r1; rw [e] at this; simp at this)
 have hA : ∀ r, r < rows.length → ∃ b o, A r = some ⟨b, o, none⟩ := fun r hr => (h.ints r hr).head (by
  intro e; have := v.len r hr; have := v.c1; rw [e] at *; simp at *; omega)
 let rb : Nat → Nat := fun r => ((A r).map (·.block)).getD 0
 let ro : Nat → Nat := fun r => ((A r).map (·.off)).getD 0
 have hA' : ∀ r, r < rows.length → A r = some ⟨rb r, ro r, none⟩ := fun r hr => by
  obtain ⟨b, o, e⟩ := hA r hr; simp only [rb, ro, e, Option.map_some, Option.getD_some]
 refine ⟨gb, go, rb, ro, rfl, hA', fun r h1 => ?_, fun r c h1 h3 => ?_⟩
 ·rw [h.row gb go rfl r h1, hA' r h1, v.len r h1]
 ·have := (h.ints r h1).cell _ _ (hA' r h1) c (by rw [v.len _ h1]; exact h3)
  rw [this]
  obtain ⟨e1, e2⟩ := div_row (rowLen rows) r c h3
  simp only [hgt, e1, e2]
theorem idx_div {i : Int} {R C : Nat} (h0 : 0 ≤ i) (h : i < (R * C : Nat)) : i / C < R ∧ 0 ≤ i / C ∧ i % C < C ∧ 0 ≤ i % C ∧ 0 < C ∧ 0 < R ∧ (i / C).toNat * C + (i % C).toNat = i.toNat := by
 obtain ⟨n, rfl⟩ := Int.eq_ofNat_of_zero_le h0
 have h' : n < R * C := om
 have hC : 0 < C := Nat.pos_of_ne_zero fun e => by subst e; simp at h'
 have hR : 0 < R := Nat.pos_of_ne_zero fun e => by subst e; simp at h'
 have hq : n / C < R := Nat.div_lt_of_lt_mul (by rw [Nat.mul_comm]; exact h')
 have hm : n % C < C := Nat.mod_lt _ hC
 have e1 : (n : Int) / C = ((n / C : Nat) : Int) := rfl
 have e2 : (n : Int) % C = ((n % C : Nat) : Int) := rfl
 rw [e1, e2]
 refine ⟨Int.ofNat_lt.2 hq, Int.natCast_nonneg _, Int.ofNat_lt.2 hm, Int.natCast_nonneg _, hC, hR, ?_⟩
 simp only [Int.toNat_natCast]
 rw [Nat.mul_comm]; exact Nat.div_add_mod n C
structure ByteS (w : World) (a : Option Addr) (l : List Int) : Prop where
 head : l ≠ [] → ∃ b o, a = Option.some ⟨b, o, none⟩
 cell : ∀ b o, a = Option.some ⟨b, o, none⟩ → ∀ i : Nat, i < l.length → w.cell? ⟨b, o + i, none⟩ = Option.some (.int .u8 (l.getD i 0))
 rng : ∀ x ∈ l, 0 ≤ x ∧ x ≤ 255
theorem ByteS.ext {w w' : World} {a : Option Addr} {l : List Int} (h : ByteS w a l) (e : Ext w w') : ByteS w' a l :=
 ⟨h.head, fun b o ha i hi => e.cell (h.cell b o ha i hi), h.rng⟩
theorem ByteS.grow {ob : Option Nat} {w w' : World} {a : Option Addr} {l : List Int} (h : ByteS w a l) (g : Grow ob w w') (hne : l ≠ [] → ∀ b, blk a = Option.some b → ob ≠ Option.some b) : ByteS w' a l :=
 ⟨h.head, fun b o ha i hi => g.cell (h.cell b o ha i hi) (by subst ha; exact hne (by intro e; subst e; simp at hi) b rfl), h.rng⟩
theorem ByteS.old {w : World} {a : Option Addr} {l : List Int} (h : ByteS w a l) (hne : l ≠ []) : ∀ b, blk a = Option.some b → b < w.heap.size := by
 intro b hb
 obtain ⟨b', o, rfl⟩ := h.head hne
 simp only [blk_some, Option.some.injEq] at hb
 subst hb
 exact World.block_lt_of_cell? w _ (h.cell _ _ rfl 0 (List.length_pos_iff.2 hne))
theorem ByteS.take {w : World} {a : Option Addr} {l : List Int} (h : ByteS w a l) (n : Nat) : ByteS w a (l.take n) :=
 ⟨fun hne => h.head (by intro e; subst e; simp at hne), fun b o ha i hi => by
  rw [List.length_take] at hi
  rw [h.cell b o ha i om]
  simp [List.getD_eq_getElem?_getD, List.getElem?_take, show i < n from om], fun x hx => h.rng x (List.mem_of_mem_take hx)⟩
def cntp (p : Nat → Prop) [DecidablePred p] : Nat → Nat
 | 0 => 0
 | n + 1 => cntp p n + if p n then 1 else 0
theorem cntp_le (p : Nat → Prop) [DecidablePred p] (n : Nat) : cntp p n ≤ n := by
 induction n with
 | zero => exact Nat.le_refl 0
 | succ n ih => simp only [cntp]; split <;> omega
def CellsAt (w : World) (cb n : Nat) (h : Nat → Int) : Prop := ∀ i, i < n → w.cell? ⟨cb, i, none⟩ = some (.int .i64 (h i))
theorem CellsAt.ext {w w' : World} {cb n : Nat} {h : Nat → Int} (c : CellsAt w cb n h) (e : Ext w w') : CellsAt w' cb n h := fun i hi => e.cell (c i hi)
theorem OwnS.cellsAt {w : World} {e n c cb : Nat} {l : List Int} (o : OwnS w e 1 (.some ⟨cb, 0, none⟩) n c (vi l)) : CellsAt w cb n fun i => l.getD i 0 := fun i hi => by
 have hn := o.1
 rw [vi_len] at hn
 rw [o.cell om, vi_get l i om]
theorem CellsAt.grow {ob : Option Nat} {w w' : World} {cb n : Nat} {h : Nat → Int} (c : CellsAt w cb n h) (g : Grow ob w w') (hne : ob ≠ some cb) : CellsAt w' cb n h := fun i hi => g.cell (c i hi) hne
theorem CellsAt.lt {w : World} {cb n : Nat} {h : Nat → Int} (c : CellsAt w cb n h) (hn : 0 < n) : cb < w.heap.size := World.block_lt_of_cell? w _ (c 0 hn)
def lvok (rows : List (List Int)) (lv : Int) : Bool := gvalid rows && decide (0 ≤ lv ∧ lv ≤ 99)
end Go.SW
namespace Go.Proofs.YtcbmhjndbpafbaaGreatDoor
open Go.RowKit Go.SW
theorem esz_ii : esz Tryz.prog 26 = some 1 := ke
theorem isl_ii : isSl Tryz.prog 26 = true := ke
theorem elt_ii : elt Tryz.prog 26 = some (35, 1, .slice none 0 0, 24) := ke
attribute [go_sem] esz_ii isl_ii
theorem esz_i : esz Tryz.prog 35 = some 1 := ke
theorem isl_i : isSl Tryz.prog 35 = true := ke
theorem elt_i : elt Tryz.prog 35 = some (3, 1, .int .i64 0, 8) := ke
attribute [go_sem] esz_i isl_i
theorem esz_b : esz Tryz.prog 22 = some 1 := ke
theorem isl_b : isSl Tryz.prog 22 = true := ke
theorem elt_b : elt Tryz.prog 22 = some (5, 1, .int .u8 0, 1) := ke
attribute [go_sem] esz_b isl_b
theorem esz_s : esz Tryz.prog 52 = some 1 := ke
theorem isl_s : isSl Tryz.prog 52 = true := ke
attribute [go_sem] esz_s isl_s
theorem esz_o : esz Tryz.prog 160 = some 1 := ke
theorem isl_o : isSl Tryz.prog 160 = true := ke
theorem elt_o : elt Tryz.prog 160 = some (4, 1, .bool false, 1) := ke
attribute [go_sem] esz_o isl_o
theorem esz_lab : esz Tryz.prog 33 = some 4 := ke
theorem isl_lab : isSl Tryz.prog 33 = true := ke
attribute [go_sem] esz_lab isl_lab
theorem esz_st : esz Tryz.prog 222 = some 2 := ke
theorem isl_st : isSl Tryz.prog 222 = true := ke
attribute [go_sem] esz_st isl_st
theorem scal_int : scal Tryz.prog 3 = true := ke
theorem siz_int : (Tryz.prog.info? 3).map (·.size) = some 1 := ke
attribute [go_sem] scal_int
theorem scal_u8 : scal Tryz.prog 5 = true := ke
theorem siz_u8 : (Tryz.prog.info? 5).map (·.size) = some 1 := ke
attribute [go_sem] scal_u8
theorem scal_bool : scal Tryz.prog 4 = true := ke
theorem siz_bool : (Tryz.prog.info? 4).map (·.size) = some 1 := ke
attribute [go_sem] scal_bool
theorem scal_str : scal Tryz.prog 9 = true := ke
theorem siz_str : (Tryz.prog.info? 9).map (·.size) = some 1 := ke
attribute [go_sem] scal_str
theorem scal_i : scal Tryz.prog 35 = true := ke
theorem siz_i : (Tryz.prog.info? 35).map (·.size) = some 1 := ke
attribute [go_sem] scal_i
theorem scal_ii : scal Tryz.prog 26 = true := ke
theorem siz_ii : (Tryz.prog.info? 26).map (·.size) = some 1 := ke
attribute [go_sem] scal_ii
theorem scal_b : scal Tryz.prog 22 = true := ke
theorem siz_b : (Tryz.prog.info? 22).map (·.size) = some 1 := ke
attribute [go_sem] scal_b
theorem scal_s : scal Tryz.prog 52 = true := ke
attribute [go_sem] scal_s
theorem aggN_f : aggN Tryz.prog 70 = some 3 := ke
theorem scal_f : scal Tryz.prog 70 = false := ke
theorem siz_f : (Tryz.prog.info? 70).map (·.size) = some 3 := ke
theorem foff_f0 : foff Tryz.prog 70 0 = some 0 := ke
theorem foff_f1 : foff Tryz.prog 70 1 = some 1 := ke
theorem foff_f2 : foff Tryz.prog 70 2 = some 2 := ke
theorem zero_f : zeroC Tryz.prog 70 = some #[.int .i64 0, .int .i64 0, .slice none 0 0] := ke
theorem bld_f0 : buildV Tryz.prog 70 [] = some (.agg #[.int .i64 0, .int .i64 0, .slice none 0 0]) := ke
theorem bld_f3 (a b : Int) (x : Option Addr) (n c : Nat) : buildV Tryz.prog 70 [(0, .int .i64 a), (1, .int .i64 b), (2, .slice x n c)] = some (.agg #[.int .i64 a, .int .i64 b, .slice x n c]) := ke
attribute [go_sem] aggN_f scal_f foff_f0 foff_f1 foff_f2 bld_f0 bld_f3
theorem aggN_rd : aggN Tryz.prog 95 = some 2 := ke
theorem scal_rd : scal Tryz.prog 95 = false := ke
theorem foff_rd0 : foff Tryz.prog 95 0 = some 0 := ke
theorem foff_rd1 : foff Tryz.prog 95 1 = some 1 := ke
theorem bld_rd (x : Option Addr) (n c : Nat) : buildV Tryz.prog 95 [(0, .slice x n c)] = some (.agg #[.slice x n c, .int .i64 0]) := ke
theorem cv_u8 (x : Int) : cvV Tryz.prog 5 3 (.int .u8 x) = some (.int .i64 (IntKind.i64.wrap x)) := ke
attribute [go_sem] aggN_rd scal_rd foff_rd0 foff_rd1 bld_rd cv_u8
end Go.Proofs.YtcbmhjndbpafbaaGreatDoor
namespace Go.SW
open Go Go.RowKit
theorem Grow.fresh {ob oc : Option Nat} {w w1 w2 : World} (h : Grow ob w w1) (k : Grow oc w1 w2) (hb : ∀ b, oc = some b → w.heap.size ≤ b) : Grow ob w w2 :=
 ⟨k.os.trans h.os, k.tape.trans h.tape, k.output.trans h.output, Nat.le_trans h.size k.size, fun i hi ho =>
  (k.other i (Nat.lt_of_lt_of_le hi h.size) (fun e => by have := hb i e; omega)).trans (h.other i hi ho)⟩
theorem Ext.fresh {ob : Option Nat} {w w1 w2 : World} (h : Grow ob w w1) (k : Ext w1 w2) : Grow ob w w2 := h.trans (k.grow ob)
structure BRows (w : World) (eo ei B : Nat) (a : Option Addr) (c : Nat) (rows : List (List Int)) (A : Nat → Option Addr) (Cp : Nat → Nat) : Prop where
 top : ∃ xs, OwnS w eo 1 a rows.length c xs ∧ ∀ r, r < rows.length → xs[r]? = some (.slice (A r) (rows.getD r []).length (Cp r))
 ha : ∀ b, blk a = some b → B ≤ b
 row : ∀ r, r < rows.length → OwnS w ei 1 (A r) (rows.getD r []).length (Cp r) (vi (rows.getD r []))
 far : ∀ r, r < rows.length → ∀ b, blk (A r) = some b → B ≤ b ∧ blk a ≠ some b
 inj : ∀ r s, r < rows.length → s < rows.length → ∀ b, blk (A r) = some b → blk (A s) = some b → r = s
variable {w w' : World} {eo ei B c : Nat} {a : Option Addr} {rows : List (List Int)} {A : Nat → Option Addr} {Cp : Nat → Nat}
theorem BRows.ext (h : BRows w eo ei B a c rows A Cp) (e : Ext w w') : BRows w' eo ei B a c rows A Cp :=
 ⟨let ⟨xs, o, hx⟩ := h.top; ⟨xs, o.ext e, hx⟩, h.ha, fun r hr => (h.row r hr).ext e, h.far, h.inj⟩
theorem BRows.other {ob : Option Nat} (h : BRows w eo ei B a c rows A Cp) (g : Grow ob w w') (hne : ∀ b, B ≤ b → (blk a = some b ∨ ∃ r, r < rows.length ∧ blk (A r) = some b) → ob ≠ some b) : BRows w' eo ei B a c rows A Cp :=
 ⟨let ⟨xs, o, hx⟩ := h.top; ⟨xs, o.grow g (fun b hb => hne b (h.ha b hb) (.inl hb)), hx⟩, h.ha, fun r hr => (h.row r hr).grow g (fun b hb => hne b (h.far r hr b hb).1 (.inr ⟨r, hr, hb⟩)), h.far, h.inj⟩
theorem BRows.low {rb : Nat} (h : BRows w eo ei B a c rows A Cp) (g : Grow (some rb) w w') (hrb : rb < B) : BRows w' eo ei B a c rows A Cp :=
 h.other g fun b hb _ e => by simp only [Option.some.injEq] at e; omega
theorem BRows.up {B' : Nat} (h : BRows w eo ei B a c rows A Cp) (hB : B' ≤ B) : BRows w eo ei B' a c rows A Cp :=
 ⟨h.top, fun b hb => Nat.le_trans hB (h.ha b hb), h.row, fun r hr b hb => ⟨Nat.le_trans hB (h.far r hr b hb).1, (h.far r hr b hb).2⟩, h.inj⟩
theorem vi_set (l : List Int) (i : Nat) (x : Int) : (vi l).set i (.int .i64 x) = vi (l.set i x) := by simp [vi]
theorem BRows.lt (h : BRows w eo ei B a c rows A Cp) {b : Nat} (hb : blk a = some b ∨ ∃ r, r < rows.length ∧ blk (A r) = some b) : b < w.heap.size := by
 rcases hb with hb | ⟨r, hr, hb⟩
 ·obtain ⟨xs, o, _⟩ := h.top; exact o.blk_lt hb
 ·exact (h.row r hr).blk_lt hb
theorem BRows.nil (o : OwnS w eo 1 a 0 c []) (ha : ∀ b, blk a = some b → B ≤ b) (A : Nat → Option Addr) (Cp : Nat → Nat) : BRows w eo ei B a c [] A Cp :=
 ⟨⟨[], by simpa using o, fun r hr => by simp at hr⟩, ha, fun r hr => by simp at hr, fun r hr => by simp at hr, fun r s hr => by simp at hr⟩
theorem BRows.push (h : BRows w eo ei B a c rows A Cp) {aN : Option Addr} {cN : Nat} {l : List Int} (hN : OwnS w ei 1 aN l.length cN (vi l)) (fN : ∀ b, blk aN = some b → B ≤ b ∧ blk a ≠ some b ∧ ∀ r, r < rows.length → blk (A r) ≠ some b)
  {xs : List Value} (hx : OwnS w eo 1 a rows.length c xs) (hxs : ∀ r, r < rows.length → xs[r]? = some (.slice (A r) (rows.getD r []).length (Cp r)))
  {a' : Option Addr} {c' : Nat} (o : OwnS w' eo 1 a' (rows.length + 1) c' (xs ++ [.slice aN l.length cN])) (g : Grow (blk a) w w') (hf : ∀ b, blk a' = some b → blk a = some b ∨ w.heap.size ≤ b) (hB : B ≤ w.heap.size) :
  BRows w' eo ei B a' c' (rows ++ [l]) (fun r => if r = rows.length then aN else A r) (fun r => if r = rows.length then cN else Cp r) := by
 have hxl : xs.length = rows.length := by rw [hx.1]; omega
 have lt : ∀ r, r < (rows ++ [l]).length → r = rows.length ∨ r < rows.length := fun r hr => by simp at hr; omega
 have g1 : ∀ r, r < rows.length → (rows ++ [l]).getD r [] = rows.getD r [] := fun r hr => by simp [List.getElem?_append_left hr]
 have g2 : (rows ++ [l]).getD rows.length [] = l := by simp
 refine ⟨⟨_, by simpa using o, fun r hr => ?_⟩, fun b hb => ?_, fun r hr => ?_, fun r hr b hb => ?_, fun r s hr hs b h1 h2 => ?_⟩
 ·rcases lt r hr with rfl | hr
  ·simp only [if_true, g2]
   rw [List.getElem?_append_right om, hxl]; simp
  ·rw [if_neg om, if_neg om, g1 r hr, List.getElem?_append_left om]
   exact hxs r hr
 ·rcases hf b hb with h1 | h1
  ·exact h.ha b h1
  ·omega
 ·rcases lt r hr with rfl | hr
  ·simp only [if_true, g2]
   exact hN.grow g fun b hb e => (fN b hb).2.1 e
  ·rw [if_neg om, if_neg om, g1 r hr]
   exact (h.row r hr).grow g fun b hb e => (h.far r hr b hb).2 e
 ·rcases lt r hr with rfl | hr
  ·simp only [if_true] at hb
   refine ⟨(fN b hb).1, fun e => ?_⟩
   rcases hf b e with h1 | h1
   ·exact (fN b hb).2.1 h1
   ·have := hN.blk_lt hb; omega
  ·rw [if_neg om] at hb
   refine ⟨(h.far r hr b hb).1, fun e => ?_⟩
   rcases hf b e with h1 | h1
   ·exact (h.far r hr b hb).2 h1
   ·have := (h.row r hr).blk_lt hb; omega
 ·rcases lt r hr with rfl | hr <;> rcases lt s hs with rfl | hs
  ·rfl
  ·simp only [if_true] at h1
   rw [if_neg om] at h2
   exact absurd h2 ((fN b h1).2.2 s hs)
  ·simp only [if_true] at h2
   rw [if_neg om] at h1
   exact absurd h1 ((fN b h2).2.2 r hr)
  ·rw [if_neg om] at h1 h2
   exact h.inj r s hr hs b h1 h2
theorem BRows.at (h : BRows w eo ei B a c rows A Cp) (hi : ∀ l ∈ rows, ∀ x ∈ l, I64 x) (hn : rows.length ≤ maxLen) (hl : ∀ l ∈ rows, l.length ≤ maxLen) : RowsAt w a rows A Cp := by
 obtain ⟨xs, o, hx⟩ := h.top
 refine ⟨fun hne => ?_, fun b' o' ha r hr => ?_, fun r hr => (h.row r hr).ints, hi, hl, hn⟩
 ·obtain ⟨b, rfl⟩ := o.some (List.length_pos_iff.2 hne)
  exact ⟨b, 0, rfl⟩
 ·obtain ⟨b, rfl⟩ := o.some om
  simp only [Option.some.injEq, Addr.mk.injEq] at ha
  obtain ⟨rfl, rfl, _⟩ := ha
  rw [Nat.zero_add, o.cell om, hx r hr]
theorem BRows.setRow (h : BRows w eo ei B a c rows A Cp) {r : Nat} (hr : r < rows.length) {l : List Int} (hlen : l.length = (rows.getD r []).length) (hN : OwnS w' ei 1 (A r) l.length (Cp r) (vi l)) (g : Grow (blk (A r)) w w') :
  BRows w' eo ei B a c (rows.set r l) A Cp := by
 have e1 : ∀ s, s < rows.length → (rows.set r l).getD s [] = if s = r then l else rows.getD s [] := fun s hs => by
  by_cases e : s = r
  ·subst e; simp [hs]
  ·rw [if_neg e]; simp only [List.getD_eq_getElem?_getD]; rw [List.getElem?_set_ne (Ne.symm e)]
 obtain ⟨xs, o, hx⟩ := h.top
 refine ⟨⟨xs, by rw [List.length_set]; exact o.grow g fun b hb e => (h.far r hr b e).2 hb, fun s hs => ?_⟩, h.ha, fun s hs => ?_, fun s hs => h.far s (by simpa using hs), fun s t hs ht => h.inj s t (by simpa using hs) (by simpa using ht)⟩
 ·rw [List.length_set] at hs
  rw [hx s hs, e1 s hs]
  by_cases e : s = r
  ·subst e; simp [hlen]
  ·simp [e]
 ·rw [List.length_set] at hs
  rw [e1 s hs]
  by_cases e : s = r
  ·subst e; simpa using hN
  ·rw [if_neg e]
   exact (h.row s hs).grow g fun b hb e' => e (h.inj s r hs hr b hb e')
theorem BRows.put {w1 w2 : World} (h : BRows w eo ei B a c rows A Cp) {r : Nat} (hr : r < rows.length) {aN : Option Addr} {cN : Nat} {l : List Int} (hN : OwnS w1 ei 1 aN l.length cN (vi l)) (g1 : Grow (blk (A r)) w w1)
  (hf : ∀ b, blk aN = some b → blk (A r) = some b ∨ w.heap.size ≤ b) (hB : B ≤ w.heap.size) {xs : List Value} (hxs : ∀ r, r < rows.length → xs[r]? = some (.slice (A r) (rows.getD r []).length (Cp r))) (hx : OwnS w eo 1 a rows.length c xs)
  (o2 : OwnS w2 eo 1 a rows.length c (xs.set r (.slice aN l.length cN))) (g2 : Grow (blk a) w1 w2) :
  BRows w2 eo ei B a c (rows.set r l) (fun s => if s = r then aN else A s) (fun s => if s = r then cN else Cp s) := by
 have hxl : xs.length = rows.length := by rw [hx.1]; omega
 have e1 : ∀ s, s < rows.length → (rows.set r l).getD s [] = if s = r then l else rows.getD s [] := fun s hs => by
  by_cases e : s = r
  ·subst e; simp [hs]
  ·rw [if_neg e]; simp only [List.getD_eq_getElem?_getD]; rw [List.getElem?_set_ne (Ne.symm e)]
 have fN : ∀ b, blk aN = some b → B ≤ b ∧ blk a ≠ some b ∧ ∀ s, s < rows.length → s ≠ r → blk (A s) ≠ some b := fun b hb => by
  rcases hf b hb with h1 | h1
  ·exact ⟨(h.far r hr b h1).1, (h.far r hr b h1).2, fun s hs hne e => hne (h.inj s r hs hr b e h1)⟩
  ·exact ⟨om, fun e => by have := h.lt (.inl e); omega, fun s hs _ e => by have := h.lt (.inr ⟨s, hs, e⟩); omega⟩
 refine ⟨⟨_, by rw [List.length_set]; exact o2, fun s hs => ?_⟩, h.ha, fun s hs => ?_, fun s hs b hb => ?_, fun s t hs ht b h1 h2 => ?_⟩
 ·rw [List.length_set] at hs
  rw [e1 s hs]
  by_cases e : s = r
  ·subst e; simp [show s < xs.length from om]
  ·simp only [e, if_false]
   rw [List.getElem?_set_ne (Ne.symm e)]; exact hxs s hs
 ·rw [List.length_set] at hs
  rw [e1 s hs]
  by_cases e : s = r
  ·subst e
   simp only [if_true]
   exact hN.grow g2 fun b hb e => (fN b hb).2.1 e
  ·simp only [e, if_false]
   exact ((h.row s hs).grow g1 fun b hb e' => e (h.inj s r hs hr b hb e')).grow g2 fun b hb e' => (h.far s hs b hb).2 e'
 ·rw [List.length_set] at hs
  by_cases e : s = r
  ·simp only [e, if_true] at hb; exact ⟨(fN b hb).1, (fN b hb).2.1⟩
  ·simp only [e, if_false] at hb; exact h.far s hs b hb
 ·rw [List.length_set] at hs ht
  by_cases e : s = r <;> by_cases e' : t = r
  ·rw [e, e']
  ·simp only [e, e', if_true, if_false] at h1 h2
   exact absurd h2 ((fN b h1).2.2 t ht e')
  ·simp only [e, e', if_true, if_false] at h1 h2
   exact absurd h1 ((fN b h2).2.2 s hs e)
  ·simp only [e, e', if_false] at h1 h2
   exact h.inj s t hs ht b h1 h2
theorem set_row (rows : List (List Int)) (j r : Nat) (x : List Int) (hr : r < rows.length) : (rows.set j x).getD r [] = if r = j then x else rows.getD r [] := by
 by_cases e : r = j
 ·subst e; simp [hr]
 ·rw [if_neg e]; simp only [List.getD_eq_getElem?_getD]; rw [List.getElem?_set_ne (Ne.symm e)]
end Go.SW
namespace Go.Proofs.YtcbmhjndbpafbaaGreatDoor
open Go.RowKit Go.SW
end Go.Proofs.YtcbmhjndbpafbaaGreatDoor
namespace Go.SW
theorem gv_false {rows : List (List Int)} (h : ¬ Valid rows) : gvalid rows = false := by
 cases hg : gvalid rows with
 | false => rfl
 | true => exact absurd ((gvalid_iff rows).1 hg) h
def hs (rows : List (List Int)) : List Int := (List.range (rows.length * rowLen rows)).map (hgt rows)
theorem hs_len (rows : List (List Int)) : (hs rows).length = rows.length * rowLen rows := by simp [hs]
theorem hs_get (rows : List (List Int)) (i : Nat) (h : i < rows.length * rowLen rows) : (hs rows).getD i 0 = hgt rows i := by simp [hs, h]
end Go.SW
namespace Go.Proofs.YtcbmhjndbpafbaaGreatDoor
open Go.RowKit Go.SW
theorem isHeight_c (x : Int) (w : World) :
  Ret Tryz.prog 73 #[.int .i64 x] w fun v w' => v = .bool (decide (0 ≤ x ∧ x ≤ 99)) ∧ Ext w w' := by
 refine enter1 Tryz.func73 rfl fun f a0 => ?_
 by_cases h : 0 ≤ x <;>
  simp only [go_sem, a0, h, Tryz.results73, Ext.refl, and_true, true_and, false_and]
theorem l6In_c (n lo hi : Int) (w : World) :
  Ret Tryz.prog 77 #[.int .i64 n, .int .i64 lo, .int .i64 hi] w fun v w' => v = .bool (decide (lo ≤ n ∧ n ≤ hi)) ∧ Ext w w' := by
 refine enter3 Tryz.func77 rfl fun f a0 a1 a2 => ?_
 by_cases h : lo ≤ n <;>
  simp only [go_sem, a0, a1, a2, h, Tryz.results77, Ext.refl, and_true, true_and, false_and]
theorem index_c (a : Int) (C : Nat) (x : Option Addr) (n cc : Nat) (r c : Nat) (w : World) (hC : C ≤ 1000) (hr : r ≤ 1000) (hc : c ≤ 1000) :
  Ret Tryz.prog 74 #[.agg #[.int .i64 a, .int .i64 C, .slice x n cc], .int .i64 r, .int .i64 c] w fun v w' => v = .int .i64 (r * C + c : Nat) ∧ Ext w w' := by
 have h1 : r * C ≤ 1000 * 1000 := Nat.mul_le_mul hr hC
 have h2 : (r : Int) * C = ((r * C : Nat) : Int) := by simp
 refine enter3 Tryz.func74 rfl fun f a0 a1 a2 => ?_
 simp only [go_sem, a0]
 refine boxK_of fun w1 b _ x1 k1 _ => ?_
 simp (disch := omega) only [go_sem, a0, a1, a2, k1.cell, Value.cells, h2, Tryz.results74]
 exact ⟨by simp, x1⟩
theorem blank_c (R C : Nat) (w : World) (hR : R ≤ 1000) (hC : C ≤ 1000) :
  Ret Tryz.prog 72 #[.int .i64 R, .int .i64 C] w fun v w' => ∃ b, v = .agg #[.int .i64 R, .int .i64 C, .slice (some ⟨b, 0, none⟩) (R * C) (R * C)] ∧ Ext w w' ∧ w.heap.size ≤ b ∧
   OwnS w' 3 1 (some ⟨b, 0, none⟩) (R * C) (R * C) (List.replicate (R * C) (.int .i64 0)) := by
 have h1 : R * C ≤ 1000 * 1000 := Nat.mul_le_mul hR hC
 have h2 : (R : Int) * C = ((R * C : Nat) : Int) := by simp
 refine enter2 Tryz.func72 rfl fun f a0 a1 => ?_
 simp only [go_sem]
 refine allocK_of zero_f fun w1 b1 e1 x1 k1 _ => ?_
 simp (disch := omega) only [go_sem, a0, a1, h2]
 refine mksK_of elt_i (R * C) (R * C) _ _ _ _ rfl rfl (Nat.le_refl _) om (by simp [maxLen]; omega) fun w2 b eb x2 o2 _ => ?_
 simp only [go_sem]
 have hl := k1.lt
 refine stK_agg siz_f sm oi (k1.ext x2) sm fun w3 k3 g3 => ?_
 simp only [go_sem, Tryz.results72, readCells_blk k3 (n := 3) sm]
 refine ⟨b, rfl, g3.ext (x1.trans x2) om, by have := x1.size; omega, ?_⟩
 rw [← made_int]
 exact o2.grow g3.grow (by simp [blk]; omega)
def FieldOf (w : World) (rows : List (List Int)) (v : Value) (w' : World) : Prop :=
 Ext w w' ∧ ((gvalid rows = true ∧ ∃ cb, v = .tuple #[.agg #[.int .i64 rows.length, .int .i64 (rowLen rows), .slice (some ⟨cb, 0, none⟩) (rows.length * rowLen rows) (rows.length * rowLen rows)], .bool true] ∧ w.heap.size ≤ cb ∧
   OwnS w' 3 1 (some ⟨cb, 0, none⟩) (rows.length * rowLen rows) (rows.length * rowLen rows) (vi (hs rows))) ∨
  (gvalid rows = false ∧ v = .tuple #[.agg #[.int .i64 0, .int .i64 0, .slice none 0 0], .bool false]))
theorem fieldOf_c (a : Option Addr) (rows : List (List Int)) (A : Nat → Option Addr) (Cp : Nat → Nat) (gc : Nat) (w : World) (hr : RowsAt w a rows A Cp) :
  Ret Tryz.prog 39 #[.slice a rows.length gc] w (FieldOf w rows) := by
 refine enter1 Tryz.func39 rfl fun f a0 => ?_
 simp only [go_sem]
 refine allocK_of zero_f fun w1 b2 e1 x1 k1 _ => ?_
 have hb2 := k1.lt
 -- any way out with false
 have out : ∀ (w' : World), Ext w1 w' → ∀ {K : Value → World → Prop}, (∀ w'', Ext w w'' → Blk w'' b2 #[.int .i64 0, .int .i64 0, .slice none 0 0] 70 → K undef w'') →
   stK Tryz.prog 70 (.pointer (some ⟨b2, 0, none⟩)) (.agg #[.int .i64 0, .int .i64 0, .slice none 0 0]) K w' := by
  intro w' x K hK
  exact stK_agg siz_f sm oi (k1.ext x) sm fun w3 k3 g3 => hK w3 (g3.ext (x1.trans x) om) k3
 have fin : ∀ {w'' : World}, Ext w w'' → gvalid rows = false → FieldOf w rows (.tuple #[.agg #[.int .i64 0, .int .i64 0, .slice none 0 0], .bool false]) w'' := fun x hv => ⟨x, .inr ⟨hv, rfl⟩⟩
 by_cases hR1 : rows.length < 1
 ·have hv := gv_false (rows := rows) (fun v => by have := v.r1; omega)
  have hR1' : (rows.length : Int) < 1 := om
  simp only [go_sem, a0, hR1']
  refine out w1 (Ext.refl _) fun w3 x3 k3 => ?_
  simp only [go_sem, Tryz.results39, readCells_blk k3 (n := 3) sm]
  exact fin x3 hv
 by_cases hR7 : 7 < rows.length
 ·have hv := gv_false (rows := rows) (fun v => by have := v.r7; omega)
  have hR1' : ¬ (rows.length : Int) < 1 := om
  have hR7' : (7 : Int) < rows.length := om
  simp only [go_sem, a0, hR1', hR7']
  refine out w1 (Ext.refl _) fun w3 x3 k3 => ?_
  simp only [go_sem, Tryz.results39, readCells_blk k3 (n := 3) sm]
  exact fin x3 hv
 obtain ⟨gb, go, rfl⟩ := hr.head (by intro e; rw [e] at hR1; simp at hR1)
 have hR1' : ¬ (rows.length : Int) < 1 := om
 have hR7' : ¬ (7 : Int) < rows.length := om
 have g0 := (hr.ext x1).row gb go rfl 0 om
 simp only [Nat.add_zero] at g0
 rw [show (rows.getD 0 []).length = rowLen rows from rfl] at g0
 by_cases hC1 : rowLen rows < 1
 ·have hv := gv_false (rows := rows) (fun v => by have := v.c1; omega)
  have hC1' : (rowLen rows : Int) < 1 := om
  simp (disch := omega) only [go_sem, a0, hR1', hR7', g0, hC1']
  refine out w1 (Ext.refl _) fun w3 x3 k3 => ?_
  simp only [go_sem, Tryz.results39, readCells_blk k3 (n := 3) sm]
  exact fin x3 hv
 by_cases hC7 : 7 < rowLen rows
 ·have hv := gv_false (rows := rows) (fun v => by have := v.c7; omega)
  have hC1' : ¬ (rowLen rows : Int) < 1 := om
  have hC7' : (7 : Int) < rowLen rows := om
  simp (disch := omega) only [go_sem, a0, hR1', hR7', g0, hC1', hC7']
  refine out w1 (Ext.refl _) fun w3 x3 k3 => ?_
  simp only [go_sem, Tryz.results39, readCells_blk k3 (n := 3) sm]
  exact fin x3 hv
 have hC1' : ¬ (rowLen rows : Int) < 1 := om
 have hC7' : ¬ (7 : Int) < rowLen rows := om
 simp (disch := omega) only [go_sem, a0, hR1', hR7', g0, hC1', hC7']
 refine callK_of ke (blank_c rows.length (rowLen rows) _ om om) ?_
 rintro _ w2 ⟨cb, rfl, x2, hcb, o2⟩
 simp only [go_sem]
 refine allocK_of zero_f fun w3 b6 e6 x3 k3 _ => ?_
 simp only [go_sem]
 have hcb2 : cb < w2.heap.size := o2.blk_lt rfl
 refine stK_agg siz_f sm oi k3 sm fun w4 k4 g4 => ?_
 have o4 := (o2.ext x3).grow g4.grow (by simp [blk]; omega)
 have k14 := g4.blk ((k1.ext x2).ext x3) om
 have x4 : Ext w w4 := g4.ext ((x1.trans x2).trans x3) (by have := x1.size; have := x2.size; omega)
 simp only [go_sem, a0]
 have hC : rowLen rows ≤ 7 := om
 have hR : rows.length ≤ 7 := om
 have hne6 : cb ≠ b6 := om
 have hne2 : cb ≠ b2 := by have := x1.size; omega
 have hne26 : b2 ≠ b6 := by have := x2.size; omega
 clear k3 g4 k1 o2 x1 x2 x3 a0 g0 out
 have hRC : rows.length * rowLen rows ≤ 7 * 7 := Nat.mul_le_mul hR hC
 -- the state that both loops keep
 let S : F → World → Nat → Prop := fun f w' m => f 2 = .pointer (some ⟨b2, 0, none⟩) ∧ f 5 = .int .i64 (rowLen rows) ∧ f 6 = .pointer (some ⟨b6, 0, none⟩) ∧ f 34 = .slice (some ⟨gb, go, none⟩) rows.length gc ∧ f 35 = .int .i64 rows.length ∧
  Ext w w' ∧ Blk w' b2 #[.int .i64 0, .int .i64 0, .slice none 0 0] 70 ∧
  Blk w' b6 #[.int .i64 rows.length, .int .i64 (rowLen rows), .slice (some ⟨cb, 0, none⟩) (rows.length * rowLen rows) (rows.length * rowLen rows)] 70 ∧
  ∃ xs, OwnS w' 3 1 (some ⟨cb, 0, none⟩) (rows.length * rowLen rows) (rows.length * rowLen rows) xs ∧ ∀ j, j < m → xs[j]? = some (.int .i64 (hgt rows j))
 let V : Nat → Prop := fun k => ∀ r, r < k → (rows.getD r []).length = rowLen rows ∧ ∀ c, c < rowLen rows → 0 ≤ (rows.getD r []).getD c 0 ∧ (rows.getD r []).getD c 0 ≤ 99
 have out : ∀ {w' : World} {K : Value → World → Prop}, Ext w w' → Blk w' b2 #[.int .i64 0, .int .i64 0, .slice none 0 0] 70 → (∀ w'', Ext w w'' → Blk w'' b2 #[.int .i64 0, .int .i64 0, .slice none 0 0] 70 → K undef w'') →
   stK Tryz.prog 70 (.pointer (some ⟨b2, 0, none⟩)) (.agg #[.int .i64 0, .int .i64 0, .slice none 0 0]) K w' := by
  intro w' K x k hK
  exact stK_agg siz_f sm oi k sm fun w3 k3 g3 => hK w3 (g3.ext x om) k3
 refine loopX (fun m f w' => ∃ k : Nat, m = rows.length - k ∧ k ≤ rows.length ∧ f 36 = .int .i64 k ∧ S f w' (k * rowLen rows) ∧ V k) rows.length ?_ fun m f w' ⟨k, hm, hk, a36, ⟨a2, a5, a6, a34, a35, xw, k2, k6, xs, o, hx⟩, hV⟩ => ?_
 ·refine ⟨0, om, om, by simp [upd_apply], ⟨by simp [upd_apply], by simp [upd_apply], by simp [upd_apply], by simp [upd_apply, *], by simp [upd_apply], x4, k14, k4, _, o4, fun j hj => ?_⟩, fun r hr => om⟩
  simp at hj
 ·by_cases hlt : (k : Int) < rows.length
  ·have hr' := hr.ext xw
   have g0 := hr'.row gb go rfl k om
   by_cases hlen : (rows.getD k []).length = rowLen rows
   ·have hne : (((rows.getD k []).length : Int) != (rowLen rows : Int)) = false := bne_eq_false_iff_eq.2 (by rw [hlen])
    simp (disch := omega) only [go_sem, a5, a34, a35, a36, hlt, g0, hne]
    refine loopX (fun m f w' => ∃ c : Nat, m = rowLen rows - c ∧ c ≤ rowLen rows ∧ f 36 = .int .i64 k ∧ f 7 = .int .i64 k ∧ f 46 = .slice (A k) (rows.getD k []).length (Cp k) ∧ f 47 = .int .i64 (rows.getD k []).length ∧ f 48 = .int .i64 c ∧ S f w' (k * rowLen rows + c) ∧
     ∀ c', c' < c → 0 ≤ (rows.getD k []).getD c' 0 ∧ (rows.getD k []).getD c' 0 ≤ 99) (rowLen rows) ?_ fun m' f w' ⟨c, hm', hc, a36, a7, a46, a47, a48, ⟨a2, a5, a6, a34, a35, xw, k2, k6, xs, o, hx⟩, hVc⟩ => ?_
    ·exact ⟨0, om, om, by simp [upd_apply, a36], by simp [upd_apply], by simp [upd_apply], by simp [upd_apply], by simp [upd_apply], ⟨by simp [upd_apply, a2], by simp [upd_apply, a5], by simp [upd_apply, a6], by simp [upd_apply, a34], by simp [upd_apply, a35], xw, k2, k6, xs, o, hx⟩, fun c' hc' => om⟩
    ·by_cases hltc : (c : Int) < (rows.getD k []).length
     ·obtain ⟨rb, ro, hA⟩ := (hr'.ints k om).head (by intro e; rw [e] at hltc; simp at hltc; omega)
      have g1 := ((hr.ext xw).ints k om).cell rb ro hA c om
      simp (disch := omega) only [go_sem, a46, a47, a48, hltc, hA, g1]
      refine callK_of ke (isHeight_c _ _) ?_
      rintro _ w5 ⟨rfl, x5⟩
      by_cases hh : 0 ≤ (rows.getD k []).getD c 0 ∧ (rows.getD k []).getD c 0 ≤ 99
      ·simp only [go_sem, hh, and_self]
       refine QR_tail 8 ke ke ?_
       have k65 := k6.ext x5
       simp (disch := omega) only [go_sem, a6, a7, k65.cell, readCells_blk k65 (n := 3) sm]
       refine callK_q ke (fun w' e => index_c _ _ _ _ _ _ _ _ om om om) ?_
       have hlt2 : k * rowLen rows + c < rows.length * rowLen rows := by
        have := Nat.mul_le_mul_right (rowLen rows) (show k + 1 ≤ rows.length from om)
        rw [Nat.add_mul, Nat.one_mul] at this; omega
       simp (disch := omega) only [go_sem]
       intro w6 x6
       refine stK_own siz_int rf rf ((o.ext x5).ext x6) om fun w7 o7 g7 => ?_
       simp (disch := omega) only [go_sem, a48]
       obtain ⟨e1, e2⟩ := div_row (rowLen rows) k c om
       refine ⟨rowLen rows - (c + 1), om, c + 1, rfl, om, by simp [upd_apply, a36], by simp [upd_apply, a7], by simp [upd_apply, a46, hA], by simp [upd_apply, a47], by simp [upd_apply],
        ⟨by simp [upd_apply, a2], by simp [upd_apply, a5], by simp [upd_apply, a6], by simp [upd_apply, a34], by simp [upd_apply, a35], g7.ext ((xw.trans x5).trans x6) om,
         g7.blk ((k2.ext x5).ext x6) om, g7.blk ((k6.ext x5).ext x6) om, _, o7, ?_⟩, fun c' hc' => ?_⟩
       ·rw [← Nat.add_assoc]
        exact set_get (fun j => .int .i64 (hgt rows j)) (by rw [o.1]; omega) (by simp only [hgt, e1, e2]) hx
       ·by_cases e : c' = c
        ·subst e; exact hh
        ·exact hVc c' om
      ·simp only [go_sem, hh, a2]
       refine out (xw.trans x5) (k2.ext x5) fun w6 x6 k => ?_
       simp only [go_sem, Tryz.results39, readCells_blk k (n := 3) sm, a2]
       exact fin x6 (gv_false fun v => hh (v.cell _ _ om om))
     ·simp (disch := omega) only [go_sem, a36, a46, a47, a48, hltc]
      have e : c = rowLen rows := om
      refine ⟨rows.length - (k + 1), om, k + 1, rfl, om, by simp [upd_apply], ⟨by simp [upd_apply, a2], by simp [upd_apply, a5], by simp [upd_apply, a6], by simp [upd_apply, a34], by simp [upd_apply, a35], xw, k2, k6, xs, o, fun j hj => hx j (by rw [Nat.add_mul, Nat.one_mul] at hj; omega)⟩, fun r hr2 => ?_⟩
      by_cases e2 : r = k
      ·subst e2; exact ⟨hlen, fun c' hc' => hVc c' om⟩
      ·exact hV r om
   ·have hne : (((rows.getD k []).length : Int) != (rowLen rows : Int)) = true := bne_iff_ne.2 om
    simp (disch := omega) only [go_sem, a2, a5, a34, a35, a36, hlt, g0, hne]
    refine out xw k2 fun w6 x6 k => ?_
    simp only [go_sem, Tryz.results39, readCells_blk k (n := 3) sm, a2]
    exact fin x6 (gv_false fun v => hlen (v.len _ om))
  ·simp only [go_sem, a2, a5, a6, a34, a35, a36, hlt, readCells_blk k6 (n := 3) sm]
   have e : k = rows.length := om
   subst e
   refine stK_agg siz_f sm oi k2 sm fun w6 k26 g6 => ?_
   simp only [go_sem, Tryz.results39, readCells_blk k26 (n := 3) sm, a2]
   refine ⟨g6.ext xw om, .inl ⟨(gvalid_iff rows).2 ⟨om, hR, om, hC, fun r hr => (hV r hr).1, fun r c hr hc => (hV r hr).2 c hc⟩, cb, rfl, om, ?_⟩⟩
   have : xs = vi (hs rows) := vi_ext (by rw [o.1, hs_len]; omega) (fun j hj => by rw [hs_len] at hj; rw [hx j hj, hs_get rows j hj])
   rw [← this]
   exact o.grow g6.grow (by simp [blk]; omega)
theorem gridValid_c (a : Option Addr) (rows : List (List Int)) (A : Nat → Option Addr) (Cp : Nat → Nat) (gc : Nat) (w : World) (hr : RowsAt w a rows A Cp) :
  Ret Tryz.prog 42 #[.slice a rows.length gc] w fun v w' => v = .bool (gvalid rows) ∧ Ext w w' := by
 refine enter1 Tryz.func42 rfl fun f a0 => ?_
 have hmax := maxLen_le hr.lens
 simp only [go_sem, a0]
 refine callK_of ke (l6In_c _ _ _ _) ?_
 rintro _ w1 ⟨rfl, x1⟩
 by_cases hR : (1 : Int) ≤ rows.length ∧ (rows.length : Int) ≤ 7
 case neg =>
  simp only [go_sem, a0, hR, Tryz.results42]
  exact ⟨by rw [gv_false fun v => hR ⟨by have := v.r1; omega, by have := v.r7; omega⟩], x1⟩
 obtain ⟨gb, go, rfl⟩ := hr.head (by intro e; rw [e] at hR; simp at hR)
 have g0 := (hr.ext x1).row gb go rfl 0 om
 simp only [Nat.add_zero] at g0
 rw [show (rows.getD 0 []).length = rowLen rows from rfl] at g0
 simp (disch := omega) only [go_sem, a0, hR, g0, and_self]
 refine callK_of ke (l6In_c _ _ _ _) ?_
 rintro _ w2 ⟨rfl, x2⟩
 by_cases hC : (1 : Int) ≤ rowLen rows ∧ (rowLen rows : Int) ≤ 7
 case neg =>
  simp only [go_sem, a0, hC, Tryz.results42]
  exact ⟨by rw [gv_false fun v => hC ⟨by have := v.c1; omega, by have := v.c7; omega⟩], x1.trans x2⟩
 simp (disch := omega) only [go_sem, a0, hC, and_self]
 refine loopX (fun m f w' => ∃ k : Nat, m = rows.length - k ∧ k ≤ rows.length ∧ f 0 = .slice (some ⟨gb, go, none⟩) rows.length gc ∧ f 3 = .int .i64 k ∧ Ext w w' ∧
   ∀ r, r < k → (rows.getD r []).length = rowLen rows ∧ ∀ c, c < rowLen rows → 0 ≤ (rows.getD r []).getD c 0 ∧ (rows.getD r []).getD c 0 ≤ 99) rows.length ?_ fun m f w' ⟨k, hm, hk, a0, a3, xw, hV⟩ => ?_
 ·exact ⟨0, om, om, by simp [upd_apply, a0], by simp [upd_apply], x1.trans x2, fun r hr => om⟩
 ·by_cases hlt : (k : Int) < rows.length
  ·have hr' := hr.ext xw
   have g0 := hr'.row gb go rfl 0 om
   have gk := hr'.row gb go rfl k om
   simp only [Nat.add_zero] at g0
   rw [show (rows.getD 0 []).length = rowLen rows from rfl] at g0
   have hmk := maxLen_le (hr.len _ (getD_mem (d := []) (show k < rows.length from om)))
   simp (disch := omega) only [go_sem, a0, a3, hlt]
   refine QR_of ke ke ?_
   by_cases hlen : (rows.getD k []).length = rowLen rows
   ·have hne : (((rows.getD k []).length : Int) != (rowLen rows : Int)) = false := bne_eq_false_iff_eq.2 (by rw [hlen])
    simp (disch := omega) only [go_sem, a0, a3, g0, gk, hne]
    intro w3 x3
    refine loopX (fun m f w' => ∃ c : Nat, m = rowLen rows - c ∧ c ≤ rowLen rows ∧ f 0 = .slice (some ⟨gb, go, none⟩) rows.length gc ∧ f 3 = .int .i64 k ∧ f 4 = .int .i64 c ∧ Ext w w' ∧
     ∀ c', c' < c → 0 ≤ (rows.getD k []).getD c' 0 ∧ (rows.getD k []).getD c' 0 ≤ 99) (rowLen rows) ?_ fun m' f w' ⟨c, hm', hc, a0, a3, a4, xw, hVc⟩ => ?_
    ·exact ⟨0, om, om, by simp [upd_apply, a0], by simp [upd_apply, a3], by simp [upd_apply], xw.trans x3, fun c' hc' => om⟩
    ·have hr' := hr.ext xw
     have gk := hr'.row gb go rfl k om
     by_cases hltc : (c : Int) < (rows.getD k []).length
     ·obtain ⟨rb, ro, hA⟩ := (hr'.ints k om).head (by intro e; rw [e] at hltc; simp at hltc; omega)
      have g1 := (hr'.ints k om).cell rb ro hA c om
      rw [hA] at gk
      simp (disch := omega) only [go_sem, a0, a3, a4, gk, hltc, g1]
      refine callK_of ke (l6In_c _ _ _ _) ?_
      rintro _ w5 ⟨rfl, x5⟩
      by_cases hh : 0 ≤ (rows.getD k []).getD c 0 ∧ (rows.getD k []).getD c 0 ≤ 99
      ·simp (disch := omega) only [go_sem, hh, and_self, a4]
       refine ⟨rowLen rows - (c + 1), om, c + 1, rfl, om, by simp [upd_apply, a0], by simp [upd_apply, a3], by simp [upd_apply], xw.trans x5, fun c' hc' => ?_⟩
       by_cases e : c' = c
       ·subst e; exact hh
       ·exact hVc c' om
      ·simp only [go_sem, hh, Tryz.results42]
       exact ⟨by rw [gv_false fun v => hh (v.cell _ _ om om)], xw.trans x5⟩
     ·simp (disch := omega) only [go_sem, a0, a3, a4, gk, hltc]
      refine ⟨rows.length - (k + 1), om, k + 1, rfl, om, by simp [upd_apply, a0], by simp [upd_apply], xw, fun r hr2 => ?_⟩
      by_cases e2 : r = k
      ·subst e2; exact ⟨hlen, fun c' hc' => hVc c' om⟩
      ·exact hV r om
   ·have hne : (((rows.getD k []).length : Int) != (rowLen rows : Int)) = true := bne_iff_ne.2 om
    simp (disch := omega) only [go_sem, a0, a3, g0, gk, hne, Tryz.results42]
    exact fun w3 x3 => ⟨by rw [gv_false fun v => hlen (v.len _ om)], xw.trans x3⟩
  ·simp (disch := omega) only [go_sem, a0, a3, hlt, Tryz.results42]
   exact ⟨by rw [(gvalid_iff rows).2 ⟨om, om, om, om, fun r hr => (hV r om).1, fun r c hr hc => (hV r om).2 c hc⟩], xw⟩
theorem l2Cells_c (gb go gc : Nat) (rb ro rc : Nat → Nat) (R C : Nat) (h : Nat → Int) (w : World) (hg : GridAt w gb go rb ro rc R C h) (hR : 1 ≤ R) (hR7 : R ≤ 7) (hC7 : C ≤ 7) :
  Ret Tryz.prog 78 #[.slice (some ⟨gb, go, none⟩) R gc] w fun v w' => v = .int .i64 (R * C : Nat) ∧ Ext w w' := by
 have h1 : R * C ≤ 7 * 7 := Nat.mul_le_mul hR7 hC7
 have h2 : (R : Int) * C = ((R * C : Nat) : Int) := by simp
 have g0 := hg.row 0 om
 simp only [Nat.add_zero] at g0
 refine enter1 Tryz.func78 rfl fun f a0 => ?_
 simp (disch := omega) only [go_sem, a0, g0, h2, Tryz.results78]
 exact ⟨trivial, Ext.refl _⟩
theorem l2Height_c (gb go gc : Nat) (rb ro rc : Nat → Nat) (R C : Nat) (h : Nat → Int) (w : World) (hg : GridAt w gb go rb ro rc R C h) (hR7 : R ≤ 7) (hC7 : C ≤ 7) (i : Int) (h0 : 0 ≤ i) (h1 : i < (R * C : Nat)) :
  Ret Tryz.prog 80 #[.slice (some ⟨gb, go, none⟩) R gc, .int .i64 i] w fun v w' => v = .int .i64 (h i.toNat) ∧ Ext w w' := by
 obtain ⟨q1, q0, m1, m0, hC, hR, hdm⟩ := idx_div h0 h1
 have h3 : R * C ≤ 7 * 7 := Nat.mul_le_mul hR7 hC7
 have g0 := hg.row 0 om
 simp only [Nat.add_zero] at g0
 refine enter2 Tryz.func80 rfl fun f a0 a1 => ?_
 simp only [go_sem, a0, a1]
 refine QR_of ke ke ?_
 simp (disch := omega) only [go_sem, a0, a1, g0, hg.row, hg.cell, hdm, Tryz.results80]
 exact fun w' e => ⟨trivial, e⟩
def Leveled (w : World) (rows : List (List Int)) (lv : Int) (v : Value) (w' : World) : Prop :=
 Ext w w' ∧ ((lvok rows lv = true ∧ ∃ cb, v = .tuple #[.agg #[.int .i64 rows.length, .int .i64 (rowLen rows), .slice (some ⟨cb, 0, none⟩) (rows.length * rowLen rows) (rows.length * rowLen rows)], .bool true] ∧ w.heap.size ≤ cb ∧
   CellsAt w' cb (rows.length * rowLen rows) (hgt rows)) ∨
  (lvok rows lv = false ∧ v = .tuple #[.agg #[.int .i64 0, .int .i64 0, .slice none 0 0], .bool false]))
theorem leveled_c (a : Option Addr) (rows : List (List Int)) (A : Nat → Option Addr) (Cp : Nat → Nat) (gc : Nat) (lv : Int) (w : World) (hr : RowsAt w a rows A Cp) :
  Ret Tryz.prog 190 #[.slice a rows.length gc, .int .i64 lv] w (Leveled w rows lv) := by
 refine enter2 Tryz.func190 rfl fun f a0 a1 => ?_
 simp only [go_sem]
 refine allocK_of zero_f fun w1 b4 e4 x1 k4 _ => ?_
 have hb4 := k4.lt
 simp only [go_sem, a0]
 refine callK_of ke (fieldOf_c _ _ _ _ _ _ (hr.ext x1)) ?_
 rintro _ w2 ⟨x2, (⟨hv, cb, rfl, hcb, o⟩ | ⟨hv, rfl⟩)⟩
 ·simp only [go_sem]
  refine allocK_of zero_f fun w3 b6 e6 x3 k6 _ => ?_
  simp only [go_sem]
  have hcb2 : cb < w2.heap.size := o.blk_lt rfl
  refine stK_agg siz_f sm oi k6 sm fun w4 k6 g4 => ?_
  have o4 := (o.ext x3).grow g4.grow (by simp [blk]; omega)
  have k4 := g4.blk ((k4.ext x2).ext x3) (by have := x2.size; omega)
  have x4 : Ext w w4 := g4.ext ((x1.trans x2).trans x3) (by have := x1.size; have := x2.size; omega)
  simp only [go_sem, a1]
  refine callK_of ke (isHeight_c _ _) ?_
  rintro _ w5 ⟨rfl, x5⟩
  have o5 := o4.ext x5
  by_cases hh : 0 ≤ lv ∧ lv ≤ 99
  ·simp only [go_sem, hh, and_self, readCells_blk (k6.ext x5) (n := 3) sm]
   refine stK_agg siz_f sm oi (k4.ext x5) sm fun w6 k4 g6 => ?_
   simp only [go_sem, Tryz.results190, readCells_blk k4 (n := 3) sm]
   have o6 := o5.grow g6.grow (by simp [blk]; omega)
   refine ⟨g6.ext (x4.trans x5) (by have := x1.size; omega), .inl ⟨by simp [lvok, hv, hh], cb, rfl, by have := x1.size; omega, fun i hi => ?_⟩⟩
   have := o6.cellsAt i hi
   simp only [hs_get rows i hi] at this
   exact this
  ·simp only [go_sem, hh]
   refine stK_agg siz_f sm oi (k4.ext x5) sm fun w6 k4 g6 => ?_
   simp only [go_sem, Tryz.results190, readCells_blk k4 (n := 3) sm]
   exact ⟨g6.ext (x4.trans x5) (by have := x1.size; omega), .inr ⟨by simp [lvok, hh], rfl⟩⟩
 ·simp only [go_sem]
  refine allocK_of zero_f fun w3 b6 e6 x3 k6 _ => ?_
  simp only [go_sem]
  refine stK_agg siz_f sm oi k6 sm fun w4 k6 g4 => ?_
  have k4 := g4.blk ((k4.ext x2).ext x3) (by have := x2.size; omega)
  have x4 : Ext w w4 := g4.ext ((x1.trans x2).trans x3) (by have := x1.size; have := x2.size; omega)
  simp only [go_sem]
  refine stK_agg siz_f sm oi k4 sm fun w6 k4 g6 => ?_
  simp only [go_sem, Tryz.results190, readCells_blk k4 (n := 3) sm]
  exact ⟨g6.ext x4 (by have := x1.size; omega), .inr ⟨by simp [lvok, hv], rfl⟩⟩
theorem land_c (R C : Int) (cb n : Nat) (h : Nat → Int) (lv : Int) (w : World) (hc : CellsAt w cb n h) (hn : n ≤ 1000) :
  Ret Tryz.prog 191 #[.agg #[.int .i64 R, .int .i64 C, .slice (some ⟨cb, 0, none⟩) n n], .int .i64 lv] w fun v w' => v = .int .i64 (cntp (fun i => lv ≤ h i) n) ∧ Ext w w' := by
 refine enter2 Tryz.func191 rfl fun f a0 a1 => ?_
 simp only [go_sem, a0]
 refine boxK_of fun w1 b _ x1 k1 _ => ?_
 simp (disch := omega) only [go_sem, k1.cell, Value.cells]
 refine loopX (fun m f w' => ∃ k : Nat, m = n - k ∧ k ≤ n ∧ f 1 = .int .i64 lv ∧ f 5 = .int .i64 (cntp (fun i => lv ≤ h i) k) ∧ f 9 = .slice (some ⟨cb, 0, none⟩) n n ∧ f 10 = .int .i64 n ∧ f 11 = .int .i64 k ∧ Ext w w') n ?_ fun m f w' ⟨k, hm, hk, a1, a5, a9, a10, a11, xw⟩ => ?_
 ·exact ⟨0, om, om, by simp [upd_apply, a1], by simp [upd_apply, cntp], by simp [upd_apply], by simp [upd_apply], by simp [upd_apply], x1⟩
 ·by_cases hlt : (k : Int) < n
  ·have g0 := (hc.ext xw) k om
   have hcl := cntp_le (fun i => lv ≤ h i) k
   by_cases hh : lv ≤ h k
   all_goals
    simp (disch := omega) only [go_sem, a1, a5, a9, a10, a11, hlt, Nat.zero_add, g0, hh]
    exact ⟨n - (k + 1), om, k + 1, rfl, om, by simp [upd_apply, a1], by simp [upd_apply, cntp, hh, a5], by simp [upd_apply, a9], by simp [upd_apply, a10], by simp [upd_apply], xw⟩
  ·simp (disch := omega) only [go_sem, a5, a10, a11, hlt, Tryz.results191]
   exact ⟨by rw [show k = n from om], xw⟩
def landOf (rows : List (List Int)) (lv : Int) : Int := if lvok rows lv = true then (cntp (fun i => lv ≤ hgt rows i) (rows.length * rowLen rows) : Nat) else -1
theorem lv_le {rows : List (List Int)} {lv : Int} (h : lvok rows lv = true) : rows.length * rowLen rows ≤ 49 := by
 simp only [lvok, Bool.and_eq_true] at h
 have v := (gvalid_iff rows).1 h.1
 exact Nat.mul_le_mul v.r7 v.c7
theorem implLevelLand_c (a : Option Addr) (rows : List (List Int)) (A : Nat → Option Addr) (Cp : Nat → Nat) (gc : Nat) (lv : Int) (w : World) (hr : RowsAt w a rows A Cp) :
  Ret Tryz.prog 159 #[.slice a rows.length gc, .int .i64 lv] w fun v w' => v = .int .i64 (landOf rows lv) ∧ Ext w w' := by
 refine enter2 Tryz.func159 rfl fun f a0 a1 => ?_
 simp only [go_sem, a0, a1]
 refine callK_of ke (leveled_c _ _ _ _ _ _ _ hr) ?_
 rintro _ w2 ⟨x2, (⟨hv, cb, rfl, hcb, o⟩ | ⟨hv, rfl⟩)⟩
 all_goals
  simp only [go_sem]
  refine allocK_of zero_f fun w3 b6 e6 x3 k6 _ => ?_
  simp only [go_sem]
  refine stK_agg siz_f sm oi k6 sm fun w4 k6 g4 => ?_
  have x4 : Ext w w4 := g4.ext (x2.trans x3) (by have := x2.size; omega)
 ·have o4 : CellsAt w4 cb _ _ := fun i hi => (o.ext x3).grow g4.grow (by have := o.lt om; simp; omega) i hi
  simp only [go_sem, readCells_blk k6 (n := 3) sm, a1]
  have := lv_le hv
  refine callK_of ke (land_c _ _ _ _ _ _ _ o4 om) ?_
  rintro _ w5 ⟨rfl, x5⟩
  simp only [go_sem, Tryz.results159]
  exact ⟨by simp [landOf, hv], x4.trans x5⟩
 ·simp only [go_sem, Tryz.results159]
  exact ⟨by simp [landOf, hv], x4⟩
theorem l3Ok_c (a : Option Addr) (rows : List (List Int)) (A : Nat → Option Addr) (Cp : Nat → Nat) (gc : Nat) (lv : Int) (w : World) (hr : RowsAt w a rows A Cp) :
  Ret Tryz.prog 140 #[.slice a rows.length gc, .int .i64 lv] w fun v w' => v = .bool (lvok rows lv) ∧ Ext w w' := by
 refine enter2 Tryz.func140 rfl fun f a0 a1 => ?_
 simp only [go_sem, a0, a1]
 refine callK_of ke (gridValid_c _ _ _ _ _ _ hr) ?_
 rintro _ w1 ⟨rfl, x1⟩
 cases hv : gvalid rows with
 | false =>
  simp only [go_sem, a1, Tryz.results140, lvok, hv, Bool.false_and, true_and]
  exact x1
 | true =>
  simp only [go_sem, a1]
  refine callK_of ke (l6In_c _ _ _ _) ?_
  rintro _ w2 ⟨rfl, x2⟩
  simp only [go_sem, Tryz.results140, lvok, hv, Bool.true_and, true_and]
  exact x1.trans x2
theorem specLevelLand_c (a : Option Addr) (rows : List (List Int)) (A : Nat → Option Addr) (Cp : Nat → Nat) (gc : Nat) (lv : Int) (w : World) (hr : RowsAt w a rows A Cp) :
  Ret Tryz.prog 106 #[.slice a rows.length gc, .int .i64 lv] w fun v w' => v = .int .i64 (landOf rows lv) ∧ Ext w w' := by
 refine enter2 Tryz.func106 rfl fun f a0 a1 => ?_
 simp only [go_sem, a0, a1]
 refine callK_of ke (l3Ok_c _ _ _ _ _ _ _ hr) ?_
 rintro _ w1 ⟨rfl, x1⟩
 cases hv : lvok rows lv with
 | false =>
  simp only [go_sem, Tryz.results106, landOf, hv]
  exact ⟨by simp, x1⟩
 | true =>
  have v := (gvalid_iff rows).1 (by simp only [lvok, Bool.and_eq_true] at hv; exact hv.1)
  have hn := lv_le hv
  simp only [go_sem]
  obtain ⟨gb, go, rb, ro, rfl, -, hg⟩ := hr.grid v
  refine loopX (fun m f w' => ∃ k : Nat, m = rows.length * rowLen rows - k ∧ k ≤ rows.length * rowLen rows ∧ f 0 = .slice (some ⟨gb, go, none⟩) rows.length gc ∧ f 1 = .int .i64 lv ∧ f 5 = .int .i64 (cntp (fun i => lv ≤ hgt rows i) k) ∧ f 6 = .int .i64 k ∧ Ext w w') (rows.length * rowLen rows) ?_ fun m f w' ⟨k, hm, hk, a0, a1, a5, a6, xw⟩ => ?_
  ·exact ⟨0, om, om, by simp [upd_apply, a0], by simp [upd_apply, a1], by simp [upd_apply, cntp], by simp [upd_apply], x1⟩
  ·simp only [go_sem, a0, a6]
   refine callK_of ke (l2Cells_c _ _ _ _ _ _ _ _ _ _ (hg.ext xw) v.r1 v.r7 v.c7) ?_
   rintro _ w2 ⟨rfl, x2⟩
   have hcl := cntp_le (fun i => lv ≤ hgt rows i) k
   by_cases hlt : (k : Int) < (rows.length * rowLen rows : Nat)
   ·simp only [go_sem, a0, a6, hlt]
    refine callK_of ke (l2Height_c _ _ _ _ _ _ _ _ _ _ ((hg.ext xw).ext x2) v.r7 v.c7 _ om hlt) ?_
    rintro _ w3 ⟨rfl, x3⟩
    by_cases hh : lv ≤ hgt rows k
    all_goals
     simp (disch := omega) only [go_sem, a1, a5, a6, hh]
     exact ⟨rows.length * rowLen rows - (k + 1), om, k + 1, rfl, om, by simp [upd_apply, a0], by simp [upd_apply, a1], by simp [upd_apply, cntp, hh, a5], by simp [upd_apply], (xw.trans x2).trans x3⟩
   ·simp (disch := omega) only [go_sem, a5, hlt, Tryz.results106]
    exact ⟨by rw [show k = rows.length * rowLen rows from om]; simp [landOf, hv], xw.trans x2⟩
end Go.Proofs.YtcbmhjndbpafbaaGreatDoor
namespace Go.SW
def mnN (h : Nat → Int) : Nat → Int
 | 0 => h 0
 | n + 1 => min (mnN h n) (h n)
def mxN (h : Nat → Int) : Nat → Int
 | 0 => h 0
 | n + 1 => max (mxN h n) (h n)
theorem mxN_ge (h : Nat → Int) : ∀ (n i : Nat), i < n → h i ≤ mxN h n
 | n + 1, i, hi => by
  simp only [mxN]
  by_cases e : i = n
  ·subst e; omega
  ·have := mxN_ge h n i om; omega
theorem cntp_pos (p : Nat → Prop) [DecidablePred p] : ∀ (n i : Nat), i < n → p i → 1 ≤ cntp p n
 | n + 1, i, hi, hp => by
  simp only [cntp]
  by_cases e : i = n
  ·subst e; simp [hp]
  ·have := cntp_pos p n i om hp; omega
theorem Valid.hgt {rows : List (List Int)} (v : Valid rows) (i : Nat) (hi : i < rows.length * rowLen rows) : 0 ≤ hgt rows i ∧ hgt rows i ≤ 99 := by
 have hc := v.c1
 exact v.cell _ _ (Nat.div_lt_of_lt_mul (by rw [Nat.mul_comm]; exact hi)) (Nat.mod_lt _ om)
end Go.SW
namespace Go.Proofs.YtcbmhjndbpafbaaGreatDoor
open Go.RowKit Go.SW
def rangeOf (rows : List (List Int)) : Value :=
 if gvalid rows = true then .tuple #[.int .i64 (mnN (hgt rows) (rows.length * rowLen rows)), .int .i64 (mxN (hgt rows) (rows.length * rowLen rows)), .bool true] else .tuple #[.int .i64 0, .int .i64 0, .bool false]
theorem specGridRange_c (a : Option Addr) (rows : List (List Int)) (A : Nat → Option Addr) (Cp : Nat → Nat) (gc : Nat) (w : World) (hr : RowsAt w a rows A Cp) :
  Ret Tryz.prog 230 #[.slice a rows.length gc] w fun v w' => v = rangeOf rows ∧ Ext w w' := by
 refine enter1 Tryz.func230 rfl fun f a0 => ?_
 simp (disch := omega) only [go_sem, a0]
 refine callK_of ke (gridValid_c _ _ _ _ _ _ hr) ?_
 rintro _ w1 ⟨rfl, x1⟩
 cases hv : gvalid rows with
 | false =>
  simp only [go_sem, Tryz.results230]
  exact ⟨by simp [rangeOf, hv], x1⟩
 | true =>
  have v := (gvalid_iff rows).1 hv
  obtain ⟨gb, go, rb, ro, rfl, -, hg⟩ := (hr.ext x1).grid v
  have hr1 := v.r1
  have hc1 := v.c1
  have hr7 := v.r7
  have hc7 := v.c7
  have g0 := hg.row 0 om
  have gc0 := hg.cell 0 0 om om
  simp only [Nat.add_zero, Nat.zero_mul] at g0 gc0
  have hRC : rows.length * rowLen rows ≤ 7 * 7 := Nat.mul_le_mul hr7 hc7
  simp (disch := omega) only [go_sem, a0, g0, gc0]
  let h := hgt rows
  refine loopX (fun m f w' => ∃ r : Nat, m = rows.length - r ∧ r ≤ rows.length ∧ f 0 = .slice (some ⟨gb, go, none⟩) rows.length gc ∧ f 5 = .int .i64 (mnN h (r * rowLen rows)) ∧ f 6 = .int .i64 (mxN h (r * rowLen rows)) ∧ f 7 = .int .i64 r ∧ Ext w1 w') rows.length ?_ fun m f w' ⟨r, hm, hrl, a0, a5, a6, a7, xw⟩ => ?_
  ·exact ⟨0, om, om, by simp [upd_apply, a0], by simp [upd_apply, mnN, h], by simp [upd_apply, mxN, h], by simp [upd_apply], Ext.refl _⟩
  ·by_cases hlt : (r : Int) < rows.length
   ·simp (disch := omega) only [go_sem, a0, a7, hlt]
    refine loopX (fun m f w' => ∃ c : Nat, m = rowLen rows - c ∧ c ≤ rowLen rows ∧ f 0 = .slice (some ⟨gb, go, none⟩) rows.length gc ∧ f 5 = .int .i64 (mnN h (r * rowLen rows + c)) ∧ f 6 = .int .i64 (mxN h (r * rowLen rows + c)) ∧ f 7 = .int .i64 r ∧ f 8 = .int .i64 c ∧ Ext w1 w') (rowLen rows) ?_ fun m f w' ⟨c, hm, hcl, a0, a5, a6, a7, a8, xw⟩ => ?_
    ·exact ⟨0, om, om, by simp [upd_apply, a0], by simp [upd_apply, a5], by simp [upd_apply, a6], by simp [upd_apply, a7], by simp [upd_apply], xw⟩
    ·have hg' := hg.ext xw
     have gr := hg'.row r om
     by_cases hlt2 : (c : Int) < rowLen rows
     ·have gcc := hg'.cell r c om om
      simp (disch := omega) only [go_sem, a0, a5, a6, a7, a8, gr, hlt2, gcc]
      exact ⟨rowLen rows - (c + 1), om, c + 1, rfl, om, by simp [upd_apply, a0], by simp [upd_apply, ← Nat.add_assoc, mnN, h], by simp [upd_apply, ← Nat.add_assoc, mxN, h], by simp [upd_apply, a7], by simp [upd_apply], xw⟩
     ·simp (disch := omega) only [go_sem, a0, a5, a6, a7, a8, gr, hlt2]
      have e : (r + 1) * rowLen rows = r * rowLen rows + c := by rw [Nat.add_mul, Nat.one_mul]; omega
      exact ⟨rows.length - (r + 1), om, r + 1, rfl, om, by simp [upd_apply, a0], by simp [upd_apply, a5, e], by simp [upd_apply, a6, e], by simp [upd_apply], xw⟩
   ·simp (disch := omega) only [go_sem, a0, a5, a6, a7, hlt, Tryz.results230]
    exact ⟨by rw [show r = rows.length from om]; simp [rangeOf, hv, h], x1.trans xw⟩
theorem at_c (a : Int) (C cb n cc : Nat) (h : Nat → Int) (r c : Nat) (w : World) (hc : CellsAt w cb n h) (hC : C ≤ 1000) (hr : r ≤ 1000) (hcl : c ≤ 1000) (hlt : r * C + c < n) :
  Ret Tryz.prog 45 #[.agg #[.int .i64 a, .int .i64 C, .slice (some ⟨cb, 0, none⟩) n cc], .int .i64 r, .int .i64 c] w fun v w' => v = .int .i64 (h (r * C + c)) ∧ Ext w w' := by
 refine enter3 Tryz.func45 rfl fun f a0 a1 a2 => ?_
 simp only [go_sem, a0]
 refine boxK_of fun w1 b _ x1 k1 _ => ?_
 have c1 := (hc.ext x1) _ hlt
 simp (disch := omega) only [go_sem]
 refine QR_of ke ke ?_
 simp (disch := omega) only [go_sem, a1, a2, k1.cell, Value.cells, readCells_blk k1 (n := 3) (by simp [Value.cells]), List.getElem?_toArray, List.getElem?_cons_succ, List.getElem?_cons_zero]
 refine callK_q ke (fun w' e => index_c _ _ _ _ _ _ _ _ hC hr hcl) ?_
 simp (disch := omega) only [go_sem, c1, Tryz.results45]
 exact fun w' e => ⟨trivial, x1.trans e⟩
theorem invert1_c (fb : Nat) (R : Int) (C cb n : Nat) (h : Nat → Int) (r c : Nat) (w : World) (k : Blk w fb #[.int .i64 R, .int .i64 C, .slice (some ⟨cb, 0, none⟩) n n] 70) (hc : CellsAt w cb n h) (hC : C ≤ 1000) (hr : r ≤ 1000) (hcl : c ≤ 1000) (hlt : r * C + c < n) (hh : 0 ≤ h (r * C + c) ∧ h (r * C + c) ≤ 99) :
  Ret Tryz.prog 188 #[.int .i64 r, .int .i64 c, .pointer (some ⟨fb, 0, none⟩)] w fun v w' => v = .int .i64 (99 - h (r * C + c)) ∧ Ext w w' := by
 refine enter3 Tryz.func188 rfl fun f a0 a1 a2 => ?_
 simp only [go_sem, a0, a1, a2, readCells_blk k (n := 3) sm]
 refine callK_of ke (at_c _ _ _ _ _ _ _ _ _ hc hC hr hcl hlt) ?_
 rintro _ w1 ⟨rfl, x1⟩
 simp (disch := omega) only [go_sem, Tryz.results188]
 exact ⟨trivial, x1⟩
def mkRows (R C : Nat) (h : Nat → Int) : List (List Int) := (List.range R).map fun r => (List.range C).map fun c => h (r * C + c)
theorem mkRows_len (R C : Nat) (h : Nat → Int) : (mkRows R C h).length = R := by simp [mkRows]
theorem mkRows_get {R C : Nat} {h : Nat → Int} {r : Nat} (hr : r < R) : (mkRows R C h).getD r [] = (List.range C).map fun c => h (r * C + c) := by simp [mkRows, hr]
theorem lists_c (R C cb : Nat) (h : Nat → Int) (w : World) (hc : CellsAt w cb (R * C) h) (hR : R ≤ 1000) (hC1 : 1 ≤ C) (hC : C ≤ 1000) :
  Ret Tryz.prog 41 #[.agg #[.int .i64 R, .int .i64 C, .slice (some ⟨cb, 0, none⟩) (R * C) (R * C)]] w fun v w' => ∃ b A', v = .slice (some ⟨b, 0, none⟩) R R ∧ Ext w w' ∧ OwnRows w' 35 3 w.heap.size b (mkRows R C h) A' := by
 have hRC : R * C ≤ 1000 * 1000 := Nat.mul_le_mul hR hC
 refine enter1 Tryz.func41 rfl fun f a0 => ?_
 simp only [go_sem, a0]
 refine boxK_of fun w0 fb _ x0 k0 _ => ?_
 simp (disch := omega) only [go_sem, k0.cell, Value.cells]
 refine mksK_of elt_ii R R _ _ _ _ rfl rfl (Nat.le_refl _) om (by simp [maxLen]; omega) fun w1 b eb x1 o1 _ => ?_
 simp (disch := omega) only [go_sem]
 have k1 : Blk w1 fb #[.int .i64 R, .int .i64 C, .slice (some ⟨cb, 0, none⟩) (R * C) (R * C)] 70 := k0.ext x1
 have s0 := x0.size
 have s1 := x1.size
 have hfb := k0.lt
 refine loopX (fun m f w' => ∃ (k : Nat) (xs : List Value) (A' : Nat → Option Addr), m = R - k ∧ k ≤ R ∧ f 1 = .pointer (some ⟨fb, 0, none⟩) ∧ f 3 = .slice (some ⟨b, 0, none⟩) R R ∧ f 9 = .int .i64 R ∧ f 10 = .int .i64 k ∧ Ext w w' ∧ Ext w0 w' ∧
   OwnS w' 35 1 (some ⟨b, 0, none⟩) R R xs ∧ (∀ j, j < k → xs[j]? = some (.slice (A' j) C C)) ∧
   (∀ r, r < k → ∃ br, A' r = some ⟨br, 0, none⟩ ∧ w.heap.size ≤ br ∧ br ≠ b ∧ OwnS w' 3 1 (A' r) C C (vi ((List.range C).map fun c => h (r * C + c)))) ∧
   (∀ r s, r < k → s < k → blk (A' r) = blk (A' s) → r = s)) R ?_ fun m f w' ⟨k, xs, A', hm, hk, a1, a3, a9, a10, xw, xw0, o, hx, hrow, hinj⟩ => ?_
 ·exact ⟨0, _, fun _ => none, om, om, by simp [upd_apply], by simp [upd_apply], by simp [upd_apply], by simp [upd_apply], x0.trans x1, x1, o1, fun j hj => om, fun j hj => om, fun j _ hj => om⟩
 ·by_cases hlt : (k : Int) < R
  ·have kf : Blk w' fb #[.int .i64 R, .int .i64 C, .slice (some ⟨cb, 0, none⟩) (R * C) (R * C)] 70 := k0.ext xw0
   simp (disch := omega) only [go_sem, a1, a3, a9, a10, hlt, kf.cell, List.getElem?_toArray, List.getElem?_cons_succ, List.getElem?_cons_zero]
   refine mksK_of elt_i C C _ _ _ _ rfl rfl (Nat.le_refl _) om (by simp [maxLen]; omega) fun w2 bk ebk x2 ok _ => ?_
   have hbw : b < w'.heap.size := o.blk_lt rfl
   have s2 := x2.size
   have sw := xw.size
   have sw0 := xw0.size
   simp (disch := omega) only [go_sem]
   refine stK_own siz_i rf rf (o.ext x2) om fun w3 o3 g3 => ?_
   have kf3 := g3.grow.blk (kf.ext x2) sq
   have c3 : w3.cell? ⟨b, k, none⟩ = some (.slice (some ⟨bk, 0, none⟩) C C) := by rw [o3.cell om, List.getElem?_set_self (by rw [o.1]; omega)]
   have hq : k * C + C ≤ R * C := by
    have := Nat.mul_le_mul_right C (show k + 1 ≤ R from om)
    rw [Nat.add_mul, Nat.one_mul] at this; exact this
   have m1 : (k : Int) * (C : Int) = ((k * C : Nat) : Int) := by simp
   have m2 : ((k : Int) + 1) * (C : Int) = ((k * C + C : Nat) : Int) := by rw [Int.add_mul]; simp
   simp (disch := omega) only [go_sem]
   refine QR_tail 16 ke ke ?_
   simp (disch := omega) only [go_sem, a1, a3, kf3.cell, c3, List.getElem?_toArray, List.getElem?_cons_succ, List.getElem?_cons_zero, m1, m2]
   intro w4 x4
   have hc4 : CellsAt w4 cb (R * C) h := (((hc.ext xw).ext x2).grow g3.grow (by have := hc.lt (Nat.mul_pos (show 0 < R from om) hC1); simp; omega)).ext x4
   obtain ⟨cs, kb, hcs, -⟩ := ((ok.grow g3.grow (by simp [blk]; omega)).ext x4).toBlk
   refine cpyK_all elt_i kb hcs om ((vi ((List.range C).map fun c => h (k * C + c)))) (by simp [vi]) (fun j u hu => ?_) (by simp [vi, Value.oneCell']) fun w5 k5 g5 => ?_
   ·have hj : j < C := by
     have := (List.getElem?_eq_some_iff.1 hu).1
     simpa [vi] using this
    rw [vi_get _ _ (by simpa using hj)] at hu
    simp only [Option.some.injEq] at hu
    subst hu
    rw [add_mk, hc4 _ om]
    simp [hj]
   ·simp (disch := omega) only [go_sem, a10]
    have s4 := x4.size
    have s3 := g3.grow.size
    have lt : ∀ j, j < k → ∀ bj, blk (A' j) = some bj → bj < bk := fun j hj bj hbj => by
     obtain ⟨br, h1, h2, h3, oo⟩ := hrow j hj
     have := oo.blk_lt hbj; omega
    refine ⟨R - (k + 1), om, k + 1, _, fun j => if j = k then some ⟨bk, 0, none⟩ else A' j, rfl, om, by simp [upd_apply, a1], by simp [upd_apply, a3], by simp [upd_apply, a9], by simp [upd_apply],
     g5.ext ((g3.ext (xw.trans x2) om).trans x4) om, g5.ext ((g3.ext (xw0.trans x2) om).trans x4) om, (o3.ext x4).grow g5.grow (by simp [blk]; omega), ?_, ?_, ?_⟩
    ·refine set_get (fun j => .slice (if j = k then some ⟨bk, 0, none⟩ else A' j) C C) (by rw [o.1]; omega) sm fun j hj => ?_
     rw [if_neg om]; exact hx j hj
    ·intro r hr2
     by_cases e : r = k
     ·subst e
      exact ⟨bk, by simp, om, om, by
       have := OwnS.of_blk (e := 3) (n := C) (s := 1) k5 (by simp [vi]) (by simp [maxLen]; omega)
       simpa using this⟩
     ·obtain ⟨br, h1, h2, h3, oo⟩ := hrow r om
      refine ⟨br, by simp [e, h1], h2, h3, ?_⟩
      have o5 := ((((oo.ext x2).grow g3.grow (by rw [h1]; simp [blk]; omega)).ext x4).grow g5.grow (by
       have := lt r om br (by rw [h1]; rfl)
       rw [h1]; simp [blk]; omega))
      simpa [e] using o5
    ·intro r s hr2 hs2 he
     by_cases e1 : r = k <;> by_cases e2 : s = k
     ·omega
     ·simp only [e1, e2, if_true, if_false, blk_some] at he
      have := lt s om bk he.symm; omega
     ·simp only [e1, e2, if_true, if_false, blk_some] at he
      have := lt r om bk he; omega
     ·simp only [e1, e2, if_false] at he
      exact hinj r s om om he
  ·simp (disch := omega) only [go_sem, a3, a9, a10, hlt, Tryz.results41]
   have e : k = R := om
   subst e
   have hl : ∀ r, r < k → ((mkRows k C h).getD r []).length = C := fun r hr => by rw [mkRows_get hr]; simp
   refine ⟨b, A', rfl, xw, ⟨xs, by rw [mkRows_len]; exact o, fun r hr => ?_⟩, om, fun r hr => ?_, fun r s hr hs => hinj r s (by simpa [mkRows_len] using hr) (by simpa [mkRows_len] using hs)⟩
   ·rw [mkRows_len] at hr; rw [hx r hr, hl r hr]
   ·rw [mkRows_len] at hr
    obtain ⟨br, h1, h2, h3, oo⟩ := hrow r hr
    exact ⟨br, h1, h2, h3, by rw [hl r hr, mkRows_get hr]; exact oo⟩
theorem made_c (R C fb cb : Nat) (h : Nat → Int) (w : World) (k : Blk w fb #[.int .i64 R, .int .i64 C, .slice (some ⟨cb, 0, none⟩) (R * C) (R * C)] 70) (hc : CellsAt w cb (R * C) h) (hR1 : 1 ≤ R) (hR : R ≤ 7) (hC1 : 1 ≤ C) (hC : C ≤ 7) (hh : ∀ i, i < R * C → 0 ≤ h i ∧ h i ≤ 99) :
  Ret Tryz.prog 185 #[.int .i64 R, .int .i64 C, .func (.func 188) #[] #[.pointer (some ⟨fb, 0, none⟩)]] w fun v w' =>
   ∃ b A', v = .tuple #[.slice (some ⟨b, 0, none⟩) R R, .bool true] ∧ Ext w w' ∧ OwnRows w' 35 3 w.heap.size b (mkRows R C fun i => 99 - h i) A' := by
 have hRC : R * C ≤ 7 * 7 := Nat.mul_le_mul hR hC
 have hfb := k.lt
 have hcb := hc.lt (Nat.mul_pos (show 0 < R from om) hC1)
 refine enter3 Tryz.func185 rfl fun f a0 a1 a2 => ?_
 have q1 : ¬ (R : Int) < 1 := om
 have q2 : ¬ (7 : Int) < R := om
 have q3 : ¬ (C : Int) < 1 := om
 have q4 : ¬ (7 : Int) < C := om
 simp only [go_sem, a0, a1, q1, q2, q3, q4]
 refine callK_of ke (blank_c R C _ om om) ?_
 rintro _ w1 ⟨nb, rfl, x1, hnb, o1⟩
 simp only [go_sem]
 refine allocK_of zero_f fun w2 b8 e8 x2 k8 _ => ?_
 simp only [go_sem]
 have hn1 : nb < w1.heap.size := o1.blk_lt rfl
 refine stK_agg siz_f sm oi k8 sm fun w3 k3 g3 => ?_
 have o3 := (o1.ext x2).grow g3.grow (by simp [blk]; omega)
 have s1 := x1.size
 have s2 := x2.size
 have x3 : Ext w w3 := g3.ext (x1.trans x2) om
 have s3 := x3.size
 have hn3 : nb ≠ b8 := om
 simp only [go_sem, a0]
 clear k8 g3 x1 x2
 let V : Nat → Value := fun j => .int .i64 (99 - h j)
 let S : F → World → Nat → Prop := fun f w' m => f 1 = .int .i64 C ∧ f 2 = .func (.func 188) #[] #[.pointer (some ⟨fb, 0, none⟩)] ∧ f 8 = .pointer (some ⟨b8, 0, none⟩) ∧ f 29 = .int .i64 R ∧
  Ext w w' ∧ Blk w' b8 #[.int .i64 R, .int .i64 C, .slice (some ⟨nb, 0, none⟩) (R * C) (R * C)] 70 ∧
  ∃ xs, OwnS w' 3 1 (some ⟨nb, 0, none⟩) (R * C) (R * C) xs ∧ ∀ j, j < m → xs[j]? = some (V j)
 refine loopX (fun m f w' => ∃ r : Nat, m = R - r ∧ r ≤ R ∧ f 30 = .int .i64 r ∧ S f w' (r * C)) R ?_ fun m f w' ⟨r, hm, hr, a30, ⟨a1, a2, a8, a29, xw, kf, xs, o, hx⟩⟩ => ?_
 ·exact ⟨0, om, om, by simp [upd_apply], ⟨by simp [upd_apply, a1], by simp [upd_apply, a2], by simp [upd_apply], by simp [upd_apply], x3, k3, _, o3, fun j hj => by simp at hj⟩⟩
 ·by_cases hlt : (r : Int) < R
  ·simp (disch := omega) only [go_sem, a1, a29, a30, hlt]
   have hq : r * C + C ≤ R * C := by
    have := Nat.mul_le_mul_right C (show r + 1 ≤ R from om)
    rw [Nat.add_mul, Nat.one_mul] at this; exact this
   refine loopX (fun m f w' => ∃ c : Nat, m = C - c ∧ c ≤ C ∧ f 30 = .int .i64 r ∧ f 9 = .int .i64 r ∧ f 33 = .int .i64 C ∧ f 34 = .int .i64 c ∧ S f w' (r * C + c)) C ?_ fun m f w' ⟨c, hm, hcc, a30, a9, a33, a34, ⟨a1, a2, a8, a29, xw, kf, xs, o, hx⟩⟩ => ?_
   ·exact ⟨0, om, om, by simp [upd_apply, a30], by simp [upd_apply], by simp [upd_apply], by simp [upd_apply], ⟨by simp [upd_apply, a1], by simp [upd_apply, a2], by simp [upd_apply, a8], by simp [upd_apply, a29], xw, kf, xs, o, hx⟩⟩
   ·by_cases hltc : (c : Int) < C
    ·simp (disch := omega) only [go_sem, a2, a9, a33, a34, hltc, Array.append_empty, Array.empty_append, List.append_toArray, List.cons_append, List.nil_append]
     have hhj := hh (r * C + c) om
     refine callK_of ke (invert1_c fb R C cb (R * C) h r c _ (k.ext xw) (hc.ext xw) om om om om hhj) ?_
     rintro _ w4 ⟨rfl, x4⟩
     simp (disch := omega) only [go_sem]
     refine callK_of ke (isHeight_c _ _) ?_
     rintro _ w5 ⟨rfl, x5⟩
     have hd : (0 ≤ 99 - h (r * C + c) ∧ 99 - h (r * C + c) ≤ 99) := om
     simp (disch := omega) only [go_sem, hd, and_self]
     refine QR_tail 7 ke ke ?_
     have kf5 := (kf.ext x4).ext x5
     simp (disch := omega) only [go_sem, a8, a9, kf5.cell, readCells_blk kf5 (n := 3) sm, List.getElem?_toArray, List.getElem?_cons_succ, List.getElem?_cons_zero]
     refine callK_q ke (fun w' e => index_c _ _ _ _ _ _ _ _ om om om) ?_
     simp (disch := omega) only [go_sem]
     intro w6 x6
     refine stK_own siz_int rf rf (((o.ext x4).ext x5).ext x6) om fun w7 o7 g7 => ?_
     simp (disch := omega) only [go_sem, a34]
     refine ⟨C - (c + 1), om, c + 1, rfl, om, by simp [upd_apply, a30], by simp [upd_apply, a9], by simp [upd_apply, a33], by simp [upd_apply],
      ⟨by simp [upd_apply, a1], by simp [upd_apply, a2], by simp [upd_apply, a8], by simp [upd_apply, a29], g7.ext (((xw.trans x4).trans x5).trans x6) om, g7.grow.blk (kf5.ext x6) sq, _, o7, ?_⟩⟩
     rw [← Nat.add_assoc]
     exact set_get V (by rw [o.1]; omega) rfl hx
    ·simp (disch := omega) only [go_sem, a30, a33, a34, hltc]
     exact ⟨R - (r + 1), om, r + 1, rfl, om, by simp [upd_apply], ⟨by simp [upd_apply, a1], by simp [upd_apply, a2], by simp [upd_apply, a8], by simp [upd_apply, a29], xw, kf, xs, o, fun j hj => hx j (by rw [Nat.add_mul, Nat.one_mul] at hj; omega)⟩⟩
  ·simp (disch := omega) only [go_sem, a29, a30, a8, hlt, readCells_blk kf (n := 3) sm]
   obtain rfl : r = R := om
   refine callK_of ke (lists_c r C nb (fun i => 99 - h i) _ (fun i hi => by rw [o.cell om, hx i hi]) om hC1 om) ?_
   rintro _ w4 ⟨b, A', rfl, x4, or⟩
   simp (disch := omega) only [go_sem, Tryz.results185]
   exact ⟨b, A', rfl, xw.trans x4, ⟨or.top, Nat.le_trans xw.size or.hb, fun r hr => let ⟨br, h1, h2, h3, oo⟩ := or.row r hr; ⟨br, h1, Nat.le_trans xw.size h2, h3, oo⟩, or.inj⟩⟩
def Rdr (w : World) (rb B lim : Nat) : Prop :=
 ∃ (a : Option Addr) (l : List Int) (c p : Nat), Blk w rb #[.slice a l.length c, .int .i64 p] 95 ∧ ByteS w a l ∧ (l ≠ [] → ∀ b, blk a = some b → b < B ∧ b ≠ rb) ∧ l.length ≤ 2000 ∧ p ≤ lim ∧ rb < B
theorem Rdr.le {w : World} {rb B lim lim' : Nat} (h : Rdr w rb B lim) (hl : lim ≤ lim') : Rdr w rb B lim' := by
 obtain ⟨a, l, c, p, h1, h2, h3, h4, h5, h6⟩ := h; exact ⟨a, l, c, p, h1, h2, h3, h4, om, h6⟩
theorem Rdr.up {w : World} {rb B B' lim : Nat} (h : Rdr w rb B lim) (hl : B ≤ B') : Rdr w rb B' lim := by
 obtain ⟨a, l, c, p, h1, h2, h3, h4, h5, h6⟩ := h; exact ⟨a, l, c, p, h1, h2, fun hn b hb => by have := h3 hn b hb; omega, h4, om, om⟩
theorem Rdr.ext {w w' : World} {rb B lim : Nat} (h : Rdr w rb B lim) (e : Ext w w') : Rdr w' rb B lim := by
 obtain ⟨a, l, c, p, h1, h2, h3, h4, h5, h6⟩ := h; exact ⟨a, l, c, p, h1.ext e, h2.ext e, h3, h4, h5, h6⟩
theorem Rdr.below {w : World} {rb B lim : Nat} (h : Rdr w rb B lim) : rb < B := by
 obtain ⟨a, l, c, p, h1, h2, h3, h4, h5, h6⟩ := h; exact h6
theorem Rdr.fresh {ob : Option Nat} {w w' : World} {rb B lim : Nat} (h : Rdr w rb B lim) (g : Grow ob w w') (hB : ∀ b, ob = some b → B ≤ b) : Rdr w' rb B lim := by
 obtain ⟨a, l, c, p, h1, h2, h3, h4, h5, h6⟩ := h
 exact ⟨a, l, c, p, g.blk h1 (fun e => by have := hB _ e; omega), h2.grow g (fun hn b hb e => by have := hB _ e; have := h3 hn b hb; omega), h3, h4, h5, h6⟩
theorem pick_c (rb B lim : Nat) (n : Int) (w : World) (hr : Rdr w rb B lim) (hl : lim ≤ 1000000000) (hn : n ≤ 1000000000) :
  Ret Tryz.prog 27 #[.pointer (some ⟨rb, 0, none⟩), .int .i64 n] w fun v w' => ∃ k : Nat, v = .int .i64 k ∧ (k = 0 ∨ (k : Int) < n) ∧ Grow (some rb) w w' ∧ Rdr w' rb B (lim + 1) := by
 obtain ⟨a, l, c, p, hb, hs, hne, hlen, hp, hlow⟩ := hr
 refine enter2 Tryz.func27 rfl fun f a0 a1 => ?_
 simp (disch := omega) only [go_sem, a0, hb.cell]
 refine stK_blk siz_int rf rf hb sm fun w1 b1 g1 => ?_
 have g := g1.grow
 have hs1 := hs.grow g fun hn b hb e => (hne hn b hb).2 (by simpa using e.symm)
 have hr1 : Rdr w1 rb B (lim + 1) := ⟨a, l, c, p + 1, by simpa using b1, hs1, hne, hlen, om, hlow⟩
 have b1 : Blk w1 rb #[.slice a l.length c, .int .i64 (p + 1 : Nat)] 95 := by simpa using b1
 clear hb hs
 by_cases hn1 : n < 1
 ·simp (disch := omega) only [go_sem, a1, hn1, Tryz.results27]
  exact ⟨0, rfl, .inl rfl, g, hr1⟩
 have e1 : (((p + 1 : Nat) : Int) - 1) = (p : Nat) := om
 have hlr : ∀ k : Nat, k < l.length → 0 ≤ l.getD k 0 ∧ l.getD k 0 ≤ 255 := fun k hk => hs1.rng _ (getD_mem hk)
 by_cases h0 : l.length = 0
 ·have e0 : ((l.length : Int) == 0) = true := by simp [h0]
  simp (disch := omega) only [go_sem, a0, a1, hn1, b1.cell, e0, List.getElem?_toArray, List.getElem?_cons_zero, Tryz.results27]
  exact ⟨0, rfl, .inl rfl, g, hr1⟩
 have e0 : ((l.length : Int) == 0) = false := by simp [h0]
 obtain ⟨b, o, rfl⟩ := hs1.head (by intro e; rw [e] at h0; simp at h0)
 simp (disch := omega) only [go_sem, a0, a1, hn1, b1.cell, e0, List.getElem?_toArray, List.getElem?_cons_zero, e1]
 by_cases hlt : (p : Int) < l.length
 ·have hc := hs1.cell b o rfl p om
  have hr2 := hlr p om
  simp (disch := omega) only [go_sem, a0, a1, b1.cell, hlt, List.getElem?_toArray, List.getElem?_cons_zero, hc, Tryz.results27]
  refine ⟨(l.getD p 0 % n).toNat, ?_, .inr ?_, g, hr1⟩
  ·rw [Int.toNat_of_nonneg (Int.emod_nonneg _ om)]
  ·rw [Int.toNat_of_nonneg (Int.emod_nonneg _ om)]; exact Int.emod_lt_of_pos _ om
 ·simp (disch := omega) only [go_sem, a0, a1, b1.cell, hlt]
  have q1 : p % l.length < l.length := Nat.mod_lt _ om
  have q2 : (p * 7 + 3) % l.length < l.length := Nat.mod_lt _ om
  have q3 : p / l.length ≤ p := Nat.div_le_self _ _
  have c1 := hs1.cell b o rfl _ q1
  have c2 := hs1.cell b o rfl _ q2
  have r1 := hlr _ q1
  have r2 := hlr _ q2
  have m1 : (p : Int) % (l.length : Int) = ((p % l.length : Nat) : Int) := rfl
  have m2 : ((p : Int) * 7 + 3) % (l.length : Int) = (((p * 7 + 3) % l.length : Nat) : Int) := rfl
  have m3 : (p : Int) / (l.length : Int) = ((p / l.length : Nat) : Int) := rfl
  generalize p / l.length = D at m3 q3
  generalize hA : l.getD (p % l.length) 0 = A at r1 c1
  generalize hB : l.getD ((p * 7 + 3) % l.length) 0 = B at r2 c2
  refine QR_of ke ke ?_
  simp (disch := omega) only [go_sem, a0, a1, b1.cell, List.getElem?_toArray, List.getElem?_cons_zero, m1, m2, m3, c1, c2]
  obtain ⟨X, hX⟩ : ∃ X : Nat, A * 131 + B * 1117 + (p : Int) * 29 + (D : Int) * 53 = (X : Int) := ⟨(A * 131 + B * 1117 + (p : Int) * 29 + (D : Int) * 53).toNat, om⟩
  have hX' : X < 1000000000000 := om
  have m4 : (X : Int) / 64 = ((X / 64 : Nat) : Int) := rfl
  have q4 : X / 64 ≤ X := Nat.div_le_self _ _
  intro w2 x2
  simp (disch := omega) only [hX, go_sem, Nat.reduceEqDiff, ↓reduceIte, Nat.reduceAdd, a1, m4, Tryz.results27]
  refine ⟨(((X ^^^ X / 64 : Nat) : Int) % n).toNat, ?_, .inr ?_, g.trans (x2.grow _), hr1.ext x2⟩
  ·rw [Int.toNat_of_nonneg (Int.emod_nonneg _ om)]
  ·rw [Int.toNat_of_nonneg (Int.emod_nonneg _ om)]; exact Int.emod_lt_of_pos _ om
theorem l6Open_c (a : Option Addr) (l : List Int) (c : Nat) (w : World) (hl : l.length ≤ c) (hc : c ≤ maxLen) (hs : ByteS w a l) :
  Ret Tryz.prog 26 #[.slice a l.length c] w fun v w' => ∃ rb, v = .pointer (some ⟨rb, 0, none⟩) ∧ Ext w w' ∧ w.heap.size ≤ rb ∧ Rdr w' rb (rb + 1) 0 ∧ w'.heap.size = rb + 1 := by
 have hl' := maxLen_le (Nat.le_trans hl hc)
 have hc' := maxLen_le hc
 refine enter1 Tryz.func26 rfl fun f a0 => ?_
 have fin : ∀ (l' : List Int), ByteS w a l' → l'.length ≤ 2000 → ∀ (w' : World) (b : Nat), b = w.heap.size → Ext w w' → Blk w' b #[.slice a l'.length c, .int .i64 0] 95 → w'.heap.size = b + 1 →
   Ext w w' ∧ w.heap.size ≤ b ∧ Rdr w' b (b + 1) 0 ∧ w'.heap.size = b + 1 := fun l' hs' h2 w' b eb x k e =>
  ⟨x, om, ⟨a, l', c, 0, k, hs'.ext x, fun hne b' hb' => by have := hs'.old hne b' hb'; omega, h2, om, om⟩, e⟩
 by_cases h : (2000 : Int) < l.length
 ·simp (disch := omega) only [go_sem, a0, h]
  refine boxK_of fun w1 b eb x1 k1 e1 => ?_
  simp (disch := omega) only [go_sem, Tryz.results26]
  have hl2 : (l.take 2000).length = 2000 := by rw [List.length_take]; omega
  exact ⟨b, rfl, fin _ (hs.take 2000) om w1 b eb x1 (by rw [hl2]; exact k1) e1⟩
 ·simp (disch := omega) only [go_sem, a0, h]
  refine boxK_of fun w1 b eb x1 k1 e1 => ?_
  simp (disch := omega) only [go_sem, Tryz.results26]
  exact ⟨b, rfl, fin l hs om w1 b eb x1 k1 e1⟩
structure Drawn (w : World) (B R : Nat) (a : Option Addr) (c : Nat) (rows : List (List Int)) (A : Nat → Option Addr) (Cp : Nat → Nat) : Prop where
 b : BRows w 35 3 B a c rows A Cp
 len : rows.length = R
 row : ∀ l ∈ rows, 1 ≤ l.length ∧ l.length ≤ 1001 ∧ ∀ x ∈ l, -1 ≤ x ∧ x ≤ 100
 wide : ∀ r, r < rows.length → (rows.getD 0 []).length ≤ (rows.getD r []).length
theorem l91Rough_c (rb B lim R C : Nat) (w : World) (hr : Rdr w rb B lim) (hB : B ≤ w.heap.size) (hl : lim ≤ 100000000) (hR1 : 1 ≤ R) (hR : R ≤ 1000) (hC1 : 1 ≤ C) (hC : C ≤ 1000) :
  Ret Tryz.prog 60 #[.pointer (some ⟨rb, 0, none⟩), .int .i64 R, .int .i64 C] w fun v w' => ∃ a c rows A Cp, v = .slice a rows.length c ∧ Drawn w' w.heap.size R a c rows A Cp ∧ Grow (some rb) w w' ∧ Rdr w' rb B (lim + R * C + 3) := by
 have hRC : R * C ≤ 1000 * 1000 := Nat.mul_le_mul hR hC
 have hrb := hr.below
 refine enter3 Tryz.func60 rfl fun f a0 a1 a2 => ?_
 simp (disch := omega) only [go_sem, a0]
 refine bslK_n [.int .i64 1, .int .i64 2, .int .i64 3, .int .i64 4, .int .i64 6, .int .i64 9, .int .i64 5, .int .i64 2] elt_i (by simp [Value.cells]) rfl om om rfl fun w1 h1 eh1 x1 k1 _ => ?_
 simp (disch := omega) only [go_sem, a0]
 refine callK_of ke (pick_c rb B lim 4 _ (hr.ext x1) om om) ?_
 rintro _ w2 ⟨k, rfl, hk, g2, r2⟩
 simp (disch := omega) only [go_sem, a0]
 let J : F → World → Prop := fun f w' => f 0 = .pointer (some ⟨rb, 0, none⟩) ∧ f 1 = .int .i64 R ∧ f 2 = .int .i64 C ∧ ∃ (hb : Nat) (h : Nat → Int), f 7 = .slice (some ⟨hb, 0, none⟩) 8 8 ∧ w.heap.size ≤ hb ∧ CellsAt w' hb 8 h ∧ (∀ i, i < 8 → 0 ≤ h i ∧ h i ≤ 99) ∧ Grow (some rb) w w' ∧ Rdr w' rb B (lim + 1)
 refine cd_cut J (fun f w3 ⟨a0, a1, a2, hb, h, a7, hhb, hc, hh, g3, r3⟩ => ?_) ?_
 ·clear k1 g2 r2
  simp (disch := omega) only [go_sem, a0]
  refine bslK_0 elt_ii fun w4 b4 e4 x4 o4 _ => ?_
  have hhlt : hb < w3.heap.size := hc.lt om
  have hB4 : B ≤ w3.heap.size := Nat.le_trans hB g3.size
  simp (disch := omega) only [go_sem, a0]
  -- what both loops keep
  let S : F → World → Nat → Prop := fun f w' q => f 0 = .pointer (some ⟨rb, 0, none⟩) ∧ f 1 = .int .i64 R ∧ f 2 = .int .i64 C ∧ f 7 = .slice (some ⟨hb, 0, none⟩) 8 8 ∧ CellsAt w' hb 8 h ∧ Grow (some rb) w w' ∧ Rdr w' rb B (lim + 1 + q) ∧ w3.heap.size ≤ w'.heap.size
  let T : F → World → Nat → Prop := fun f w' i => ∃ a c rows A Cp, f 8 = .slice a rows.length c ∧ BRows w' 35 3 w3.heap.size a c rows A Cp ∧ rows.length = i ∧ ∀ l ∈ rows, l.length = C ∧ ∀ x ∈ l, 0 ≤ x ∧ x ≤ 99
  refine loopX (fun m f w' => ∃ i : Nat, m = R - i ∧ i ≤ R ∧ f 9 = .int .i64 i ∧ S f w' (i * C) ∧ T f w' i) R ?_ fun m f w' ⟨i, hm, hi, a9, ⟨a0, a1, a2, a7, hc, gw, rw', hsz⟩, ⟨a, c, rows, A, Cp, a8, br, hrl, hrow⟩⟩ => ?_
  ·refine ⟨0, om, om, by simp [upd_apply], ⟨by simp [upd_apply, a0], by simp [upd_apply, a1], by simp [upd_apply, a2], by simp [upd_apply, a7], hc.ext x4, Ext.fresh g3 x4, (r3.ext x4).le om, x4.size⟩,
    ⟨_, _, [], fun _ => none, fun _ => 0, by simp [upd_apply], BRows.nil o4 (fun b hb => by simp [blk] at hb; omega) _ _, rfl, fun l hl => by simp at hl⟩⟩
  ·by_cases hlt : (i : Int) < R
   ·have hq : i * C + C ≤ R * C := by
     have := Nat.mul_le_mul_right C (show i + 1 ≤ R from om)
     rw [Nat.add_mul, Nat.one_mul] at this; exact this
    simp (disch := omega) only [go_sem, a1, a9, hlt]
    refine bslK_0 elt_i fun w5 b5 e5 x5 o5 _ => ?_
    simp (disch := omega) only [go_sem]
    have hBw : B ≤ w'.heap.size := om
    have br0 := br
    have hhb' : hb < w'.heap.size := om
    have hrb' : rb < w.heap.size := om
    let I : F → World → Nat → Prop := fun f w'' j => f 9 = .int .i64 i ∧ f 8 = .slice a rows.length c ∧ f 11 = .int .i64 j ∧ S f w'' (i * C + j) ∧ w'.heap.size ≤ w''.heap.size ∧ BRows w'' 35 3 w3.heap.size a c rows A Cp ∧
     ∃ (l : List Int) (ra : Option Addr) (rc : Nat), f 10 = .slice ra j rc ∧ l.length = j ∧ OwnS w'' 3 1 ra j rc (vi l) ∧ (∀ b, blk ra = some b → w'.heap.size ≤ b) ∧ ∀ x ∈ l, 0 ≤ x ∧ x ≤ 99
    refine loopX (fun m f w'' => ∃ j : Nat, m = C - j ∧ j ≤ C ∧ I f w'' j) C ?_ fun m f w'' ⟨j, hm, hj, a9, a8, a11, ⟨a0, a1, a2, a7, hc, gw, rw', hsz⟩, hsz2, br, l, ra, rc, a10, hll, o, hfr, hx⟩ => ?_
    ·exact ⟨0, om, om, by simp [upd_apply, a9], by simp [upd_apply, a8], by simp [upd_apply], ⟨by simp [upd_apply, a0], by simp [upd_apply, a1], by simp [upd_apply, a2], by simp [upd_apply, a7], hc.ext x5, Ext.fresh gw x5, (rw'.ext x5).le om, Nat.le_trans hsz x5.size⟩, x5.size, br.ext x5,
      [], _, _, by simp [upd_apply], rfl, o5, fun b hb => by simp [blk] at hb; omega, fun x hx => by simp at hx⟩
    ·by_cases hlt2 : (j : Int) < C
     ·simp (disch := omega) only [go_sem, a2, a11, hlt2, a10, a7, a0]
      refine callK_of ke (pick_c rb B _ 8 _ rw' om om) ?_
      rintro _ w6 ⟨k, rfl, hk, g6, r6⟩
      have hk8 : k < 8 := om
      have hc6 := hc.grow g6 sq
      have ck := hc6 k hk8
      have hhk := hh k hk8
      simp (disch := omega) only [go_sem, ck]
      refine bslK_1 elt_i rfl fun w7 b7 e7 x7 k7 _ => ?_
      have o6 := o.grow g6 fun b hb e => by have := hfr b hb; simp at e; omega
      simp (disch := omega) only [go_sem]
      refine appK_1 elt_i (o6.ext x7) k7 rfl om (.inl dc) fun w8 a' c' o8 g8 hf8 => ?_
      simp (disch := omega) only [go_sem, a11]
      have s6 := g6.size
      have s7 := x7.size
      have s8 := g8.size
      refine ⟨C - (j + 1), om, j + 1, rfl, om, by simp [upd_apply, a9], by simp [upd_apply, a8], by simp [upd_apply], ⟨by simp [upd_apply, a0], by simp [upd_apply, a1], by simp [upd_apply, a2], by simp [upd_apply, a7], ?_, ?_, ?_, om⟩, om, ?_, l ++ [h k], a', c', by simp [upd_apply], by simp [hll], by rw [← vi_snoc]; exact o8, ?_, ?_⟩
      ·exact (hc6.ext x7).grow g8 fun e => by have := hfr _ e; omega
      ·exact ((gw.trans g6).trans (x7.grow _)).fresh g8 fun b hb => by have := hfr b hb; have := gw.size; omega
      ·exact ((r6.ext x7).fresh g8 fun b hb => by have := hfr b hb; omega).le om
      ·exact ((br.low g6 om).ext x7).other g8 fun b _ hb e => by
        have := hfr b e
        have := br0.lt hb
        omega
      ·intro b hb
       rcases hf8 b hb with h1 | h1
       ·exact hfr b h1
       ·omega
      ·intro x hx'
       rcases List.mem_append.1 hx' with h1 | h1
       ·exact hx x h1
       ·simp at h1; subst h1; exact hhk
     ·obtain rfl : j = C := om
      simp (disch := omega) only [go_sem, a2, a11, hlt2, a10, a8]
      refine bslK_1 elt_ii rfl fun w6 b6 e6 x6 k6 _ => ?_
      obtain ⟨xs, ox, hxs⟩ := (br.ext x6).top
      simp (disch := omega) only [go_sem]
      refine appK_1 elt_ii ox k6 rfl om (.inr ⟨om, by decide⟩) fun w7 a' c' o7 g7 hf7 => ?_
      simp (disch := omega) only [go_sem, a9]
      have s6 := x6.size
      have s7 := g7.size
      have ha7 : ∀ b, blk a = some b → w3.heap.size ≤ b := br.ha
      have far : ∀ b, blk ra = some b → w3.heap.size ≤ b ∧ blk a ≠ some b ∧ ∀ r, r < rows.length → blk (A r) ≠ some b := fun b hb =>
       ⟨by have := hfr b hb; omega, fun e => by have := hfr b hb; have := br0.lt (.inl e); omega, fun r hr e => by have := hfr b hb; have := br0.lt (.inr ⟨r, hr, e⟩); omega⟩
      have hN := o.ext x6
      rw [← hll] at hN o7
      refine ⟨R - (i + 1), om, i + 1, rfl, om, by simp [upd_apply], ⟨by simp [upd_apply, a0], by simp [upd_apply, a1], by simp [upd_apply, a2], by simp [upd_apply, a7], ?_, ?_, ?_, om⟩,
       a', c', rows ++ [l], _, _, ?_, (br.ext x6).push hN far ox hxs o7 g7 hf7 om, by simp [hrl], ?_⟩
      ·exact (hc.ext x6).grow g7 fun e => by have := ha7 _ e; omega
      ·exact (Ext.fresh gw x6).fresh g7 fun b hb => by have := ha7 b hb; have := g3.size; omega
      ·exact ((rw'.ext x6).fresh g7 fun b hb => by have := ha7 b hb; omega).le (by rw [Nat.add_mul, Nat.one_mul]; omega)
      ·simp [upd_apply]
      ·intro l' hl'
       rcases List.mem_append.1 hl' with h1 | h1
       ·exact hrow l' h1
       ·simp at h1; subst h1; exact ⟨hll, hx⟩
   ·obtain rfl : i = R := om
    simp (disch := omega) only [go_sem, a0, a1, a9, hlt]
    refine callK_of ke (pick_c rb B _ 60 _ rw' om om) ?_
    rintro _ w6 ⟨k, rfl, hk, g6, r6⟩
    have br6 := br.low g6 om
    have s6 := g6.size
    have gw6 := gw.trans g6
    obtain ⟨xs, ox, hxs⟩ := br6.top
    obtain ⟨ob, rfl⟩ := ox.some om
    have h0 : 0 < rows.length := om
    have hl0 := hrow _ (getD_mem (d := []) h0)
    obtain ⟨b0, hA0⟩ := (br6.row 0 h0).some om
    have hob := br6.ha ob rfl
    have hb0 := (br6.far 0 h0 b0 (by rw [hA0]; rfl)).1
    have hrange : ∀ l ∈ rows, 1 ≤ l.length ∧ l.length ≤ 1001 ∧ ∀ x ∈ l, -1 ≤ x ∧ x ≤ 100 := fun l hl => by
     obtain ⟨h1, h2⟩ := hrow l hl
     exact ⟨om, om, fun x hx => by have := h2 x hx; omega⟩
    by_cases hk0 : k = 0
    ·subst hk0
     simp (disch := omega) only [go_sem, Int.natCast_zero, beq_self_eq_true]
     refine QR_sch (some rb) (.st 0 (.st 1 (.st 2 (.st 4 (.alt (.ef 3 (.ef 5 (.st 6 (.st 7 (.st 8 (.fin 9 (.done))))))) (.ef 5 (.ef 3 (.st 6 (.st 7 (.st 8 (.fin 9 (.done)))))))))))) ke ke fun w7 x7 => ?_
     have c0 : w7.cell? ⟨ob, 0, none⟩ = some (.slice (some ⟨b0, 0, none⟩) (rows.getD 0 []).length (Cp 0)) := by rw [(ox.ext x7).cell om, hxs 0 h0, hA0]
     simp (disch := omega) only [go_sem, a0, a8, c0]
     refine RLT_alt ?_ ?_
     ·simp (disch := omega) only [go_sem]
      refine bslK_n [.int .i64 (-1), .int .i64 100, .int .i64 99] elt_i (by simp [Value.cells]) rfl om om rfl fun w8 b8 e8 x8 k8 _ => nxE_of (x8.grow _) ?_
      simp (disch := omega) only [go_sem, a0]
      refine callK_of ke (pick_c rb B _ 3 _ ((r6.ext x7).ext x8) om om) ?_
      rintro _ w9 ⟨k', rfl, hk', g9, r9⟩
      refine nxE_of g9 ?_
      have s7 := x7.size
      have br9 := (((br6.ext x7).ext x8).low g9 om)
      have k9 := g9.blk k8 sq
      have gw9 := ((gw6.trans (x7.grow _)).trans (x8.grow _)).trans g9
      obtain ⟨y, hy, hy1, hy2⟩ : ∃ y : Int, w9.cell? ⟨b8, k', none⟩ = some (.int .i64 y) ∧ -1 ≤ y ∧ y ≤ 100 := by
       have : k' = 0 ∨ k' = 1 ∨ k' = 2 := om
       rcases this with rfl | rfl | rfl <;> exact ⟨_, by rw [k9.cell]; rfl, om, om⟩
      simp (disch := omega) only [go_sem, hy]
      have o9 := br9.row 0 h0
      rw [hA0] at o9
      refine stK_own siz_int rf rf o9 om fun w10 o10 g10 => ?_
      simp (disch := omega) only [go_sem, a8, Tryz.results60]
      have hB0 := g3.size
      rw [vi_set] at o10
      refine ⟨_, _, rows.set 0 ((rows.getD 0 []).set 0 y), A, Cp, by rw [List.length_set], ⟨(br9.setRow h0 sm (by rw [hA0, List.length_set]; exact o10) (by rw [hA0]; exact g10.grow)).up om, by rw [List.length_set]; exact hrl, fun l hl => ?_, fun r hr => ?_⟩,
       gw9.fresh g10.grow (fun b hb => by simp at hb; omega), (r9.fresh g10.grow (fun b hb => by simp at hb; omega)).le om⟩
      rcases List.mem_or_eq_of_mem_set hl with h1 | rfl
      ·exact hrange l h1
      ·refine ⟨by rw [List.length_set]; omega, by rw [List.length_set]; omega, fun x hx' => ?_⟩
       rcases List.mem_or_eq_of_mem_set hx' with h1 | rfl
       ·have := hl0.2 x h1; omega
       ·omega
      ·rw [List.length_set] at hr
       rw [set_row _ _ _ _ hr, set_row _ _ _ _ h0, if_pos rfl]
       have := (hrow _ (getD_mem (d := []) hr)).1
       split <;> rw [List.length_set] <;> omega
     ·simp (disch := omega) only [go_sem, a0]
      refine callK_of ke (pick_c rb B _ 3 _ (r6.ext x7) om om) ?_
      rintro _ w8 ⟨k', rfl, hk', g9, r9⟩
      refine nxE_of g9 ?_
      simp (disch := omega) only [go_sem]
      refine bslK_n [.int .i64 (-1), .int .i64 100, .int .i64 99] elt_i (by simp [Value.cells]) rfl om om rfl fun w9 b8 e8 x8 k9 _ => nxE_of (x8.grow _) ?_
      have s7 := x7.size
      have s9 := g9.size
      have br9 := (((br6.ext x7).low g9 om).ext x8)
      have gw9 := ((gw6.trans (x7.grow _)).trans g9).trans (x8.grow _)
      have r9 := r9.ext x8
      obtain ⟨y, hy, hy1, hy2⟩ : ∃ y : Int, w9.cell? ⟨b8, k', none⟩ = some (.int .i64 y) ∧ -1 ≤ y ∧ y ≤ 100 := by
       have : k' = 0 ∨ k' = 1 ∨ k' = 2 := om
       rcases this with rfl | rfl | rfl <;> exact ⟨_, by rw [k9.cell]; rfl, om, om⟩
      simp (disch := omega) only [go_sem, hy]
      have o9 := br9.row 0 h0
      rw [hA0] at o9
      refine stK_own siz_int rf rf o9 om fun w10 o10 g10 => ?_
      simp (disch := omega) only [go_sem, a8, Tryz.results60]
      have hB0 := g3.size
      rw [vi_set] at o10
      refine ⟨_, _, rows.set 0 ((rows.getD 0 []).set 0 y), A, Cp, by rw [List.length_set], ⟨(br9.setRow h0 sm (by rw [hA0, List.length_set]; exact o10) (by rw [hA0]; exact g10.grow)).up om, by rw [List.length_set]; exact hrl, fun l hl => ?_, fun r hr => ?_⟩,
       gw9.fresh g10.grow (fun b hb => by simp at hb; omega), (r9.fresh g10.grow (fun b hb => by simp at hb; omega)).le om⟩
      rcases List.mem_or_eq_of_mem_set hl with h1 | rfl
      ·exact hrange l h1
      ·refine ⟨by rw [List.length_set]; omega, by rw [List.length_set]; omega, fun x hx' => ?_⟩
       rcases List.mem_or_eq_of_mem_set hx' with h1 | rfl
       ·have := hl0.2 x h1; omega
       ·omega
      ·rw [List.length_set] at hr
       rw [set_row _ _ _ _ hr, set_row _ _ _ _ h0, if_pos rfl]
       have := (hrow _ (getD_mem (d := []) hr)).1
       split <;> rw [List.length_set] <;> omega
    ·have ne0 : ((k : Int) == 0) = false := by simp [hk0]
     by_cases hk1 : k = 1
     ·subst hk1
      have e1 : ((1 : Nat) : Int) == 1 := rfl
      have eq1 : ((i : Int) - 1) = ((i - 1 : Nat) : Int) := om
      have hq : i - 1 < rows.length := om
      have hlq := hrow _ (getD_mem (d := []) hq)
      obtain ⟨bq, hAq⟩ := (br6.row (i - 1) hq).some om
      have cq : w6.cell? ⟨ob, i - 1, none⟩ = some (.slice (some ⟨bq, 0, none⟩) (rows.getD (i - 1) []).length (Cp (i - 1))) := by rw [ox.cell om, hxs _ hq, hAq]
      simp (disch := omega) only [go_sem, ne0, e1, a8, a1, eq1, cq]
      refine bslK_1 elt_i rfl fun w7 b7 e7 x7 k7 _ => ?_
      have s7 := x7.size
      have br7 := br6.ext x7
      have oq := br7.row (i - 1) hq
      rw [hAq] at oq
      simp (disch := omega) only [go_sem]
      refine appK_1 elt_i oq k7 rfl om (.inl dc) fun w8 a' c' o8 g8 hf8 => ?_
      simp (disch := omega) only [go_sem]
      have hbq := br6.far (i - 1) hq bq (by rw [hAq]; rfl)
      have ox7 := ox.ext x7
      have s8 := g8.size
      refine stK_own siz_i rf rf (ox7.grow g8 (fun b hb e => hbq.2 (by simp [blk] at e hb ⊢; omega))) om fun w9 o9 g9 => ?_
      simp (disch := omega) only [go_sem, a8, Tryz.results60]
      have hB0 := g3.size
      have hlen : (rows.getD (i - 1) [] ++ [(3 : Int)]).length = (rows.getD (i - 1) []).length + 1 := by simp
      rw [vi_snoc, ← hlen] at o8
      rw [← hlen] at o9
      refine ⟨_, _, rows.set (i - 1) (rows.getD (i - 1) [] ++ [3]), _, _, by rw [List.length_set], ⟨(br7.put hq o8 (by rw [hAq]; exact g8) (by rw [hAq]; exact hf8) om hxs ox7 o9 g9.grow).up om, by rw [List.length_set]; exact hrl, fun l hl => ?_, fun r hr => ?_⟩,
       ((gw6.trans (x7.grow _)).fresh g8 (fun b hb => by simp [blk] at hb; omega)).fresh g9.grow (fun b hb => by simp at hb; omega),
       (((r6.ext x7).fresh g8 (fun b hb => by simp [blk] at hb; omega)).fresh g9.grow (fun b hb => by simp at hb; omega)).le om⟩
      rcases List.mem_or_eq_of_mem_set hl with h1 | rfl
      ·exact hrange l h1
      ·refine ⟨by simp, by rw [hlen]; omega, fun x hx' => ?_⟩
       rcases List.mem_append.1 hx' with h1 | h1
       ·have := hlq.2 x h1; omega
       ·simp at h1; omega
      ·rw [List.length_set] at hr
       rw [set_row _ _ _ _ hr, set_row _ _ _ _ h0]
       have := (hrow _ (getD_mem (d := []) hr)).1
       by_cases er : r = i - 1
       ·rw [if_pos er, hlen]; split
        ·rw [hlen]; omega
        ·omega
       ·rw [if_neg er, if_neg om]; omega
     ·have ne1 : ((k : Int) == 1) = false := by simp; omega
      simp (disch := omega) only [go_sem, ne0, ne1, a8, Tryz.results60]
      exact ⟨_, _, rows, A, Cp, rfl, ⟨br6.up g3.size, hrl, hrange, fun r hr => by have := (hrow _ (getD_mem (d := []) hr)).1; omega⟩, gw6, r6.le om⟩
 ·refine cd_of (fun he => ?_) fun he => ?_
  ·simp (disch := omega) only [go_sem]
   refine bslK_n [.int .i64 0, .int .i64 10, .int .i64 25, .int .i64 40, .int .i64 55, .int .i64 70, .int .i64 99, .int .i64 12] elt_i (by simp [Value.cells]) rfl om om rfl fun w3 h3 eh3 x3 k3 _ => ?_
   simp (disch := omega) only [go_sem]
   refine ⟨by simp [upd_apply, a0], by simp [upd_apply, a1], by simp [upd_apply, a2], h3, fun i => [0, 10, 25, 40, 55, 70, 99, 12].getD i 0, by simp [upd_apply], by have := g2.size; have := x1.size; omega, ?_, ?_, Ext.fresh ((x1.grow _).trans g2) x3, r2.ext x3⟩
   ·intro i hi
    rw [k3.cell]
    have : i = 0 ∨ i = 1 ∨ i = 2 ∨ i = 3 ∨ i = 4 ∨ i = 5 ∨ i = 6 ∨ i = 7 := om
    rcases this with rfl | rfl | rfl | rfl | rfl | rfl | rfl | rfl <;> rfl
   ·intro i hi
    have : i = 0 ∨ i = 1 ∨ i = 2 ∨ i = 3 ∨ i = 4 ∨ i = 5 ∨ i = 6 ∨ i = 7 := om
    rcases this with rfl | rfl | rfl | rfl | rfl | rfl | rfl | rfl <;> decide
  ·simp (disch := omega) only [go_sem]
   refine ⟨by simp [upd_apply, a0], by simp [upd_apply, a1], by simp [upd_apply, a2], h1, fun i => [1, 2, 3, 4, 6, 9, 5, 2].getD i 0, by simp [upd_apply], om, ?_, ?_, (x1.grow _).trans g2, r2⟩
   ·intro i hi
    rw [(g2.blk k1 sq).cell]
    have : i = 0 ∨ i = 1 ∨ i = 2 ∨ i = 3 ∨ i = 4 ∨ i = 5 ∨ i = 6 ∨ i = 7 := om
    rcases this with rfl | rfl | rfl | rfl | rfl | rfl | rfl | rfl <;> rfl
   ·intro i hi
    have : i = 0 ∨ i = 1 ∨ i = 2 ∨ i = 3 ∨ i = 4 ∨ i = 5 ∨ i = 6 ∨ i = 7 := om
    rcases this with rfl | rfl | rfl | rfl | rfl | rfl | rfl | rfl <;> decide
theorem Drawn.other {ob : Option Nat} {w w' : World} {B R c : Nat} {a : Option Addr} {rows : List (List Int)} {A : Nat → Option Addr} {Cp : Nat → Nat} (h : Drawn w B R a c rows A Cp) (g : Grow ob w w') (hb : ∀ b, ob = some b → b < B) : Drawn w' B R a c rows A Cp :=
 ⟨h.b.other g fun b hB _ e => by have := hb b e; omega, h.len, h.row, h.wide⟩
theorem Drawn.ext {w w' : World} {B R c : Nat} {a : Option Addr} {rows : List (List Int)} {A : Nat → Option Addr} {Cp : Nat → Nat} (h : Drawn w B R a c rows A Cp) (e : Ext w w') : Drawn w' B R a c rows A Cp := ⟨h.b.ext e, h.len, h.row, h.wide⟩
theorem Drawn.at {w : World} {B R c : Nat} {a : Option Addr} {rows : List (List Int)} {A : Nat → Option Addr} {Cp : Nat → Nat} (h : Drawn w B R a c rows A Cp) (hR : R ≤ 1000) : RowsAt w a rows A Cp :=
 h.b.at (fun l hl x hx => by have := (h.row l hl).2.2 x hx; simp [I64]; omega) (by rw [h.len]; simp [maxLen]; omega) (fun l hl => by have := (h.row l hl).2.1; simp [maxLen]; omega)
end Go.Proofs.YtcbmhjndbpafbaaGreatDoor
