/- Contracts: the water functions of the program, and the helpers. -/
import Derived.Test.YtgdopjkanibfeaaGreatDoorWx
import Derived.Test.YtgdopjkanibfeaaGreatDoorJ2
set_option linter.all false
set_option maxRecDepth 20000
namespace Go.SW
/-- There is such a cell. -/
def cellok (rows : List (List Int)) (r c : Int) : Bool := gvalid rows && decide (0 ≤ r ∧ r < rows.length ∧ 0 ≤ c ∧ c < rowLen rows)
def sinksTo (R C : Nat) (h : Nat → Int) : Nat → List Nat
  | 0 => []
  | k + 1 => sinksTo R C h k ++ if nextN R C h k = k then [k] else []
theorem sinksTo_len (R C : Nat) (h : Nat → Int) : ∀ k, (sinksTo R C h k).length ≤ k
  | 0 => Nat.le_refl _
  | k + 1 => by
    have := sinksTo_len R C h k
    simp only [sinksTo, List.length_append]
    split <;> simp <;> omega
theorem sinksTo_mem (R C : Nat) (h : Nat → Int) (i : Nat) : ∀ k, i ∈ sinksTo R C h k ↔ i < k ∧ nextN R C h i = i
  | 0 => by simp [sinksTo]
  | k + 1 => by
    simp only [sinksTo, List.mem_append, sinksTo_mem R C h i k]
    by_cases e : nextN R C h k = k
    · rw [if_pos e]
      simp only [List.mem_singleton]
      constructor
      · rintro (⟨h1, h2⟩ | rfl)
        · exact ⟨by omega, h2⟩
        · exact ⟨by omega, e⟩
      · rintro ⟨h1, h2⟩
        by_cases e2 : i = k
        · exact .inr e2
        · exact .inl ⟨by omega, h2⟩
    · rw [if_neg e]
      simp only [List.not_mem_nil, or_false]
      constructor
      · rintro ⟨h1, h2⟩; exact ⟨by omega, h2⟩
      · rintro ⟨h1, h2⟩
        refine ⟨?_, h2⟩
        have : i ≠ k := fun e2 => by subst e2; exact e h2
        omega
def sinksOf (rows : List (List Int)) : List Nat := if gvalid rows = true then sinksTo rows.length (rowLen rows) (hgt rows) (rows.length * rowLen rows) else []
theorem cell_idx {rows : List (List Int)} {r c : Int} (h : cellok rows r c = true) : ∃ rn cn : Nat, r = (rn : Int) ∧ c = (cn : Int) ∧ rn < rows.length ∧ cn < rowLen rows ∧ rn * rowLen rows + cn < rows.length * rowLen rows := by
  simp only [cellok, Bool.and_eq_true, decide_eq_true_eq] at h
  refine ⟨r.toNat, c.toNat, by omega, by omega, by omega, by omega, ?_⟩
  have := Nat.mul_le_mul_right (rowLen rows) (show r.toNat + 1 ≤ rows.length by omega)
  rw [Nat.add_mul, Nat.one_mul] at this; omega
end Go.SW
namespace Go.Proofs.YtgdopjkanibfeaaGreatDoor
open Go.RowKit Go.SW

/-- A new slice of integers that reads as l. -/
def Got1 (w w' : World) (l : List Int) (v : Value) : Prop := ∃ a c, v = .slice a l.length c ∧ OwnS w' 3 1 a l.length c (vi l) ∧ (∀ b, blk a = some b → w.heap.size ≤ b) ∧ Ext w w'
def Got (w w' : World) (l : List Int) (ok : Bool) (v : Value) : Prop := ∃ a c, v = .tuple #[.slice a l.length c, .bool ok] ∧ OwnS w' 3 1 a l.length c (vi l) ∧ (∀ b, blk a = some b → w.heap.size ≤ b) ∧ Ext w w'

theorem has_c (R C : Nat) (sl : Value) (r c : Int) (w : World) :
    Ret Tryz.prog 47 #[.agg #[.int .i64 R, .int .i64 C, sl], .int .i64 r, .int .i64 c] w fun v w' => v = .bool (decide (0 ≤ r ∧ r < R ∧ 0 ≤ c ∧ c < C)) ∧ Ext w w' := by
  refine enter3 Tryz.func47 rfl (by kernel_rfl) (of_decide_eq_true (by kernel_rfl)) fun f a0 a1 a2 => ?_
  simp only [go_sem, Nat.reduceEqDiff, ↓reduceIte, a0]
  refine boxK_of fun w1 b _ x1 k1 _ => ?_
  by_cases h1 : 0 ≤ r <;> by_cases h2 : r < R <;> by_cases h3 : 0 ≤ c <;> by_cases h4 : c < C <;>
    (simp (disch := omega) only [go_sem, Nat.reduceEqDiff, ↓reduceIte, Nat.reduceAdd, a1, a2, k1.cell, Value.cells, h1, h2, h3, h4, Tryz.results47]; exact ⟨by first | trivial | simp [h1, h2, h3, h4], x1⟩)

end Go.Proofs.YtgdopjkanibfeaaGreatDoor
