/- Contracts: the water functions of the program, second part. -/
import Derived.Test.YtdlepfeckiahdaaWy
import Derived.Test.YtdlepfeckiahdaaM2
set_option linter.all false
namespace Go.SW
def runOf (rows : List (List Int)) (r c : Int) : List Nat := if cellok rows r c = true then waterN rows.length (rowLen rows) (hgt rows) (r.toNat * rowLen rows + c.toNat) else []
end Go.SW
namespace Go.Proofs.Ytdlepfeckiahdaa
open Go.RowKit Go.SW

theorem got_bad (w w' : World) (x : Ext w w') : Got w w' (ni []) false (.tuple #[.slice none 0 0, .bool false]) := ⟨none, 0, rfl, OwnS.nil _ _ _, fun b hb => (by cases hb), x⟩

end Go.Proofs.Ytdlepfeckiahdaa
