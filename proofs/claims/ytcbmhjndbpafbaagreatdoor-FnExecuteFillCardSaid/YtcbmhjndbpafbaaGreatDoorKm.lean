/- Km: the texts D4 as one. -/
import Derived.Test.YtcbmhjndbpafbaaGreatDoorK0
set_option linter.all false
set_option maxRecDepth 20000
/- The draw functions of the water laws; the helpers of the laws. -/
namespace Go.Proofs.YtcbmhjndbpafbaaGreatDoor
open Go.RowKit Go.SW

/-- A grid has been drawn. -/
def DrawnG (w w' : World) (v : Value) : Prop := ∃ a c rows A Cp, v = .slice a rows.length c ∧ RowsAt w' a rows A Cp ∧ Ext w w'

end Go.Proofs.YtcbmhjndbpafbaaGreatDoor

