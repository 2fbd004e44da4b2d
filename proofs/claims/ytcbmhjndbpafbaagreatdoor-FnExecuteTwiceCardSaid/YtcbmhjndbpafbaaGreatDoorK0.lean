import Derived.Test.YtcbmhjndbpafbaaGreatDoorK7
set_option linter.all false
set_option maxRecDepth 20000
namespace Go.Proofs.YtcbmhjndbpafbaaGreatDoor
open Go.RowKit Go.SW
attribute [local irreducible] Go.SW.callK Go.SW.bslK Go.SW.RLT Go.SW.nxE Go.SW.nxT
end Go.Proofs.YtcbmhjndbpafbaaGreatDoor
