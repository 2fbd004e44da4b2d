import Derived.Test.YtcbmhjndbpafbaaGreatDoorZ7
import Derived.Test.YtcbmhjndbpafbaaGreatDoorZ3
set_option linter.all false
set_option maxRecDepth 20000
namespace Go.SW
open Go Go.RowKit
end Go.SW
namespace Go.Proofs.YtcbmhjndbpafbaaGreatDoor
open Go.RowKit Go.SW
def endE (d : Dk) : List UInt8 := [114, 111, 119, 115, 32] ++ dec d.rows.length ++ [32, 99, 111, 108, 117, 109, 110, 115, 32] ++ dec (rowLen d.rows) ++ [32, 108, 97, 98, 101, 108, 115, 32] ++ dec d.labs.length
theorem endE_noline {d : Dk} (h : d.Good) : (10 : UInt8) ∉ endE d := by
 have h1 := h.1.r7
 have h2 := h.1.c7
 have h3 := h.2.1
 have n1 := dec_noline (n := d.rows.length) (by omega)
 have n2 := dec_noline (n := rowLen d.rows) (by omega)
 have n3 := dec_noline (n := d.labs.length) (by omega)
 simp [endE, n1, n2, n3]
theorem endL_len {d : Dk} (h : d.Good) : 1 ≤ (endL d).length ∧ (endL d).length ≤ 100 := by
 have h1 := h.1.r7
 have h2 := h.1.c7
 have h3 := h.2.1
 have n1 := dec_len2 (n := d.rows.length) (by omega)
 have n2 := dec_len2 (n := rowLen d.rows) (by omega)
 have n3 := dec_len2 (n := d.labs.length) (by omega)
 simp [endL]; omega
end Go.Proofs.YtcbmhjndbpafbaaGreatDoor
