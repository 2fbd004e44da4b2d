/- The draw functions for cells, and those of the water laws. -/
import Derived.Test.YtdlepfeckiahdaaJ2
import Derived.Test.YtdlepfeckiahdaaWs2
set_option linter.all false
namespace Go.Proofs.Ytdlepfeckiahdaa
open Go.RowKit Go.SW
attribute [local irreducible] Go.SW.callK Go.SW.bslK Go.SW.RLT Go.SW.nxE Go.SW.nxT

end Go.Proofs.Ytdlepfeckiahdaa
