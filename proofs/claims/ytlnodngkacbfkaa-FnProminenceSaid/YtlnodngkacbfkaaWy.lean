/- Contracts: the water functions of the program, and the helpers. -/
import Derived.Test.YtlnodngkacbfkaaWx
import Derived.Test.YtlnodngkacbfkaaJ2
set_option linter.all false
set_option maxRecDepth 20000
namespace Go.SW
/-- There is such a cell. -/
def cellok (rows : List (List Int)) (r c : Int) : Bool := gvalid rows && decide (0 ≤ r ∧ r < rows.length ∧ 0 ≤ c ∧ c < rowLen rows)
def sinksTo (R C : Nat) (h : Nat → Int) : Nat → List Nat
  | 0 => []
  | k + 1 => sinksTo R C h k ++ if nextN R C h k = k then [k] else []
theorem sinksTo_len (R C : Nat) (h : Nat → Int) : ∀ k, (sinksTo R C h k).length ≤ k
  | 0 => Nat.le_refl _
  | k + 1 => by
    have := sinksTo_len R C h k
    simp only [sinksTo, List.length_append]
    split <;> simp <;> omega
theorem sinksTo_mem (R C : Nat) (h : Nat → Int) (i : Nat) : ∀ k, i ∈ sinksTo R C h k ↔ i < k ∧ nextN R C h i = i
  | 0 => by simp [sinksTo]
  | k + 1 => by
    simp only [sinksTo, List.mem_append, sinksTo_mem R C h i k]
    by_cases e : nextN R C h k = k
    · rw [if_pos e]
      simp only [List.mem_singleton]
      constructor
      · rintro (⟨h1, h2⟩ | rfl)
        · exact ⟨by omega, h2⟩
        · exact ⟨by omega, e⟩
      · rintro ⟨h1, h2⟩
        by_cases e2 : i = k
        · exact .inr e2
        · exact .inl ⟨by omega, h2⟩
    · rw [if_neg e]
      simp only [List.not_mem_nil, or_false]
      constructor
      · rintro ⟨h1, h2⟩; exact ⟨by omega, h2⟩
      · rintro ⟨h1, h2⟩
        refine ⟨?_, h2⟩
        have : i ≠ k := fun e2 => by subst e2; exact e h2
        omega
def sinksOf (rows : List (List Int)) : List Nat := if gvalid rows = true then sinksTo rows.length (rowLen rows) (hgt rows) (rows.length * rowLen rows) else []
theorem cell_idx {rows : List (List Int)} {r c : Int} (h : cellok rows r c = true) : ∃ rn cn : Nat, r = (rn : Int) ∧ c = (cn : Int) ∧ rn < rows.length ∧ cn < rowLen rows ∧ rn * rowLen rows + cn < rows.length * rowLen rows := by
  simp only [cellok, Bool.and_eq_true, decide_eq_true_eq] at h
  refine ⟨r.toNat, c.toNat, by omega, by omega, by omega, by omega, ?_⟩
  have := Nat.mul_le_mul_right (rowLen rows) (show r.toNat + 1 ≤ rows.length by omega)
  rw [Nat.add_mul, Nat.one_mul] at this; omega
end Go.SW
namespace Go.Proofs.Ytlnodngkacbfkaa
open Go.RowKit Go.SW

/-- A new slice of integers that reads as l. -/
def Got1 (w w' : World) (l : List Int) (v : Value) : Prop := ∃ a c, v = .slice a l.length c ∧ OwnS w' 3 1 a l.length c (vi l) ∧ (∀ b, blk a = some b → w.heap.size ≤ b) ∧ Ext w w'
def Got (w w' : World) (l : List Int) (ok : Bool) (v : Value) : Prop := ∃ a c, v = .tuple #[.slice a l.length c, .bool ok] ∧ OwnS w' 3 1 a l.length c (vi l) ∧ (∀ b, blk a = some b → w.heap.size ≤ b) ∧ Ext w w'

theorem has_c (R C : Nat) (sl : Value) (r c : Int) (w : World) :
    Ret Try.prog 73 #[.agg #[.int .i64 R, .int .i64 C, sl], .int .i64 r, .int .i64 c] w fun v w' => v = .bool (decide (0 ≤ r ∧ r < R ∧ 0 ≤ c ∧ c < C)) ∧ Ext w w' := by
  refine enter3 Try.func73 rfl (by kernel_rfl) (of_decide_eq_true (by kernel_rfl)) fun f a0 a1 a2 => ?_
  simp only [go_sem, Nat.reduceEqDiff, ↓reduceIte, a0]
  refine boxK_of fun w1 b _ x1 k1 _ => ?_
  by_cases h1 : 0 ≤ r <;> by_cases h2 : r < R <;> by_cases h3 : 0 ≤ c <;> by_cases h4 : c < C <;>
    (simp (disch := omega) only [go_sem, Nat.reduceEqDiff, ↓reduceIte, Nat.reduceAdd, a1, a2, k1.cell, Value.cells, h1, h2, h3, h4, Try.results73]; exact ⟨by first | trivial | simp [h1, h2, h3, h4], x1⟩)

theorem waterSinks_c (a : Option Addr) (rows : List (List Int)) (A : Nat → Option Addr) (Cp : Nat → Nat) (gc : Nat) (w : World) (hr : RowsAt w a rows A Cp) :
    Ret Try.prog 46 #[.slice a rows.length gc] w fun v w' => Got1 w w' (ni (sinksOf rows)) v := by
  refine enter1 Try.func46 rfl (by kernel_rfl) (of_decide_eq_true (by kernel_rfl)) fun f a0 => ?_
  simp (disch := omega) only [go_sem, Nat.reduceEqDiff, ↓reduceIte, Nat.reduceAdd, a0]
  refine callK_of (by kernel_rfl) (fieldOf_c _ _ _ _ _ _ hr) ?_
  rintro _ w2 ⟨x2, (⟨hvt, cb, rfl, hcb, o⟩ | ⟨hv', rfl⟩)⟩
  rotate_left
  · simp (disch := omega) only [go_sem, Nat.reduceEqDiff, ↓reduceIte, Nat.reduceAdd]
    refine allocK_of zero_f fun w3 fb _ x3 k3 _ => ?_
    simp (disch := omega) only [go_sem, Nat.reduceEqDiff, ↓reduceIte, Nat.reduceAdd]
    refine stK_agg siz_f (by simp) (by simp [Value.oneCell']) k3 (by simp) fun w4 k4 g4 => ?_
    have x4 : Ext w w4 := g4.ext (x2.trans x3) (by have := x2.size; omega)
    have hv : gvalid rows = false := hv'
    simp (disch := omega) only [go_sem, Nat.reduceEqDiff, ↓reduceIte, Nat.reduceAdd, Try.results46]
    exact ⟨none, 0, by simp [sinksOf, hv, ni], by simpa [sinksOf, hv, ni, vi] using OwnS.nil _ _ _, fun b hb => (by cases hb), x4⟩
  have hv : gvalid rows = true := hvt
  have v := (gvalid_iff rows).1 hv
  have g := v.gd
  have hn49 := g.le
  simp (disch := omega) only [go_sem, Nat.reduceEqDiff, ↓reduceIte, Nat.reduceAdd]
  refine allocK_of zero_f fun w3 fb _ x3 k3 _ => ?_
  simp (disch := omega) only [go_sem, Nat.reduceEqDiff, ↓reduceIte, Nat.reduceAdd]
  refine stK_agg siz_f (by simp) (by simp [Value.oneCell']) k3 (by simp) fun w4 kb g4 => ?_
  have s2 := x2.size
  have s3 := x3.size
  have x4 : Ext w w4 := g4.ext (x2.trans x3) (by omega)
  have s4 := x4.size
  have hc : CellsAt w4 cb (rows.length * rowLen rows) (hgt rows) := fun i hi => by
    have := ((o.cellsAt.ext x3).grow g4.grow (by have := o.cellsAt.lt g.pos; simp; omega)) i hi
    simpa only [hs_get rows i hi] using this
  simp (disch := omega) only [go_sem, Nat.reduceEqDiff, ↓reduceIte, Nat.reduceAdd]
  refine bslK_0 elt_i fun w5 b5 e5 x5 o5 _ => ?_
  have kb5 := kb.ext x5
  simp (disch := omega) only [go_sem, Nat.reduceEqDiff, ↓reduceIte, Nat.reduceAdd, kb5.cell]
  let S := sinksTo rows.length (rowLen rows) (hgt rows)
  refine loopN (rows.length * rowLen rows) (fun k f w' => f 3 = .pointer (some ⟨fb, 0, none⟩) ∧ f 17 = .int .i64 (rows.length * rowLen rows : Nat) ∧ f 18 = .int .i64 k ∧ (∃ a c, f 5 = .slice a (S k).length c ∧ OwnS w' 3 1 a (S k).length c (vi (ni (S k))) ∧ (∀ b, blk a = some b → w4.heap.size ≤ b)) ∧ Ext w4 w') ?_ fun k f w' hk ⟨a3, a17, a18, ⟨a, c, a5, o, hb⟩, xw⟩ => ?_
  · exact ⟨(by first | assumption | (simp only [upd_apply, Nat.reduceEqDiff, ↓reduceIte] <;> first | rfl | assumption) | simp [upd_apply, *]), (by first | assumption | (simp only [upd_apply, Nat.reduceEqDiff, ↓reduceIte] <;> first | rfl | assumption) | simp [upd_apply, *]), (by first | assumption | (simp only [upd_apply, Nat.reduceEqDiff, ↓reduceIte] <;> first | rfl | assumption) | simp [upd_apply, *]), ⟨_, _, by simp [upd_apply, S, sinksTo]; exact ⟨rfl, rfl⟩, by simpa [S, sinksTo, vi, ni] using o5, fun b hb => by simp [blk] at hb; omega⟩, x5⟩
  · by_cases hlt : (k : Int) < (rows.length * rowLen rows : Nat)
    · have kbw := kb.ext xw
      have hkn : k < rows.length * rowLen rows := by omega
      have hlen : (S k).length ≤ k := sinksTo_len rows.length (rowLen rows) (hgt rows) k
      simp (disch := omega) only [go_sem, Nat.reduceEqDiff, ↓reduceIte, Nat.reduceAdd, a3, a17, a18, hlt, readCells_blk kbw (n := 3) (by simp)]
      refine callK_pure (by kernel_rfl) (next_c _ _ cb k (hgt rows) _ g.r7 g.c7 (hc.ext xw) hkn) fun w6 x6 => ?_
      by_cases hs : nextN rows.length (rowLen rows) (hgt rows) k = k
      · have hbq : (((nextN rows.length (rowLen rows) (hgt rows) k : Nat) : Int) == (k : Int)) = true := by simp [hs]
        simp (disch := omega) only [go_sem, Nat.reduceEqDiff, ↓reduceIte, Nat.reduceAdd, a5, hbq]
        refine bslK_1 elt_i rfl fun w7 b7 _ x7 k7 _ => ?_
        simp (disch := omega) only [go_sem, Nat.reduceEqDiff, ↓reduceIte, Nat.reduceAdd]
        refine appK_1 elt_i ((o.ext x6).ext x7) k7 rfl (by omega) (.inl (by decide)) fun w8 a8 c8 o8 g8 h8 => ?_
        simp (disch := omega) only [go_sem, Nat.reduceEqDiff, ↓reduceIte, Nat.reduceAdd, a18]
        have xx := (xw.trans x6).trans x7
        have e : S (k + 1) = S k ++ [k] := by simp only [S, sinksTo]; rw [if_pos hs]
        refine ⟨hkn, (by first | assumption | (simp only [upd_apply, Nat.reduceEqDiff, ↓reduceIte] <;> first | rfl | assumption) | simp [upd_apply, *]), (by first | assumption | (simp only [upd_apply, Nat.reduceEqDiff, ↓reduceIte] <;> first | rfl | assumption) | simp [upd_apply, *]), (by first | assumption | (simp only [upd_apply, Nat.reduceEqDiff, ↓reduceIte] <;> first | rfl | assumption) | simp [upd_apply, *]), ⟨a8, c8, by rw [e]; simp [upd_apply], by rw [e, ← vi_ni_snoc (S k) k _ rfl]; simpa using o8, fun b hb2 => ?_⟩, g8.ext xx hb⟩
        rcases h8 b hb2 with h | h
        · exact hb b h
        · have := xx.size; omega
      · have hbq : (((nextN rows.length (rowLen rows) (hgt rows) k : Nat) : Int) == (k : Int)) = false := by simp; omega
        have e : S (k + 1) = S k := by simp only [S, sinksTo]; rw [if_neg hs, List.append_nil]
        simp (disch := omega) only [go_sem, Nat.reduceEqDiff, ↓reduceIte, Nat.reduceAdd, a18, hbq]
        exact ⟨hkn, (by first | assumption | (simp only [upd_apply, Nat.reduceEqDiff, ↓reduceIte] <;> first | rfl | assumption) | simp [upd_apply, *]), (by first | assumption | (simp only [upd_apply, Nat.reduceEqDiff, ↓reduceIte] <;> first | rfl | assumption) | simp [upd_apply, *]), (by first | assumption | (simp only [upd_apply, Nat.reduceEqDiff, ↓reduceIte] <;> first | rfl | assumption) | simp [upd_apply, *]), ⟨a, c, by rw [e]; simp [upd_apply, a5], by rw [e]; exact o.ext x6, hb⟩, xw.trans x6⟩
    · obtain rfl : k = rows.length * rowLen rows := by omega
      simp (disch := omega) only [go_sem, Nat.reduceEqDiff, ↓reduceIte, Nat.reduceAdd, a5, a17, a18, hlt, Try.results46]
      have e : sinksOf rows = S (rows.length * rowLen rows) := by simp [sinksOf, hv, S]
      exact ⟨a, c, by rw [e, ni_len], by rw [e, ni_len]; exact o, fun b h => Nat.le_trans s4 (hb b h), x4.trans xw⟩

end Go.Proofs.Ytlnodngkacbfkaa
