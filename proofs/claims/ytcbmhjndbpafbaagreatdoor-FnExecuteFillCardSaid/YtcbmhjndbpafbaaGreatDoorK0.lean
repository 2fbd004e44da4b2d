/- K0: the texts D3 as one. -/
import Derived.Test.YtcbmhjndbpafbaaGreatDoorJ2
import Derived.Test.YtcbmhjndbpafbaaGreatDoorK7
set_option linter.all false
set_option maxRecDepth 20000
/- The draw functions for cells, and those of the water laws. -/
namespace Go.Proofs.YtcbmhjndbpafbaaGreatDoor
open Go.RowKit Go.SW
attribute [local irreducible] Go.SW.callK Go.SW.bslK Go.SW.RLT Go.SW.nxE Go.SW.nxT

end Go.Proofs.YtcbmhjndbpafbaaGreatDoor

