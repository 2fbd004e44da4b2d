import Derived.Test.YtcbmhjndbpafbaaGreatDoorKc
set_option linter.all false
set_option maxRecDepth 20000
namespace Go.Proofs.YtcbmhjndbpafbaaGreatDoor
open Go.RowKit Go.SW
end Go.Proofs.YtcbmhjndbpafbaaGreatDoor
