/- Contracts: the next cell and the run of a cell, both sides. -/
import Derived.Test.YtdlepfeckiahdaaWn
set_option linter.all false
namespace Go.Proofs.Ytdlepfeckiahdaa
open Go.RowKit Go.SW

theorem zero_int : zeroC Try.prog 3 = some #[.int .i64 0] := by kernel_rfl
theorem zero_i : zeroC Try.prog 40 = some #[.slice none 0 0] := by kernel_rfl

/-- What the iterator reads. -/
def RunIn (W : World) (R C cb ib fb i : Nat) (h : Nat → Int) : Prop :=
  Blk W ib #[.int .i64 i] 3 ∧ Blk W fb #[.int .i64 R, .int .i64 C, .slice (some ⟨cb, 0, none⟩) (R * C) (R * C)] 45 ∧ CellsAt W cb (R * C) h

end Go.Proofs.Ytdlepfeckiahdaa
