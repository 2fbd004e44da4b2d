import Derived.Test.YtcbmhjndbpafbaaGreatDoorKc
import Derived.Test.YtcbmhjndbpafbaaGreatDoorKb
import Derived.Test.YtcbmhjndbpafbaaGreatDoorJ2
set_option linter.all false
set_option maxRecDepth 20000
namespace Go.Proofs.YtcbmhjndbpafbaaGreatDoor
open Go.RowKit Go.SW
end Go.Proofs.YtcbmhjndbpafbaaGreatDoor
namespace Go.Proofs.YtcbmhjndbpafbaaGreatDoor
open Go.RowKit Go.SW
end Go.Proofs.YtcbmhjndbpafbaaGreatDoor
