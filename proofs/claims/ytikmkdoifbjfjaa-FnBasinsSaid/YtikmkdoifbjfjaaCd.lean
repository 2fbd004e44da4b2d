/- Contracts: levels and land, both sides; the law FnExactLevelLand. -/
import Derived.Test.YtikmkdoifbjfjaaCa
import Derived.Test.YtikmkdoifbjfjaaCc
set_option linter.all false
namespace Go.Proofs.Ytikmkdoifbjfjaa
open Go.RowKit Go.SW

/-- What leveled hands back. -/
def Leveled (w : World) (rows : List (List Int)) (lv : Int) (v : Value) (w' : World) : Prop :=
  Ext w w' ∧ ((lvok rows lv = true ∧ ∃ cb, v = .tuple #[.agg #[.int .i64 rows.length, .int .i64 (rowLen rows), .slice (some ⟨cb, 0, none⟩) (rows.length * rowLen rows) (rows.length * rowLen rows)], .bool true] ∧ w.heap.size ≤ cb ∧
      CellsAt w' cb (rows.length * rowLen rows) (hgt rows)) ∨
    (lvok rows lv = false ∧ v = .tuple #[.agg #[.int .i64 0, .int .i64 0, .slice none 0 0], .bool false]))

/-- What LevelLand answers. -/
def landOf (rows : List (List Int)) (lv : Int) : Int := if lvok rows lv = true then (cntp (fun i => lv ≤ hgt rows i) (rows.length * rowLen rows) : Nat) else -1

theorem lv_le {rows : List (List Int)} {lv : Int} (h : lvok rows lv = true) : rows.length * rowLen rows ≤ 49 := by
  simp only [lvok, Bool.and_eq_true] at h
  have v := (gvalid_iff rows).1 h.1
  exact Nat.mul_le_mul v.r7 v.c7

end Go.Proofs.Ytikmkdoifbjfjaa
