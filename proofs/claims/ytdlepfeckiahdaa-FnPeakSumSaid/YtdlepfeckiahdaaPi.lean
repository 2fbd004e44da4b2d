/- The exact law on PitList: contract. Printed by a program of ours (gpx.py, gexact.py). -/
import Derived.Test.YtdlepfeckiahdaaPh
set_option linter.all false
namespace Go.SW
theorem pitsOf_short (rows : List (List Int)) : (ni (Go.Proofs.Ytdlepfeckiahdaa.pitsOf rows)).length ≤ 1000000 := by
  rw [ni_len, Go.Proofs.Ytdlepfeckiahdaa.pitsOf]
  split
  · rename_i hv
    have g := ((gvalid_iff rows).1 hv).gd
    have h1 := peaksTo_len rows.length (rowLen rows) (fun i => 99 - hgt rows i) (rows.length * rowLen rows)
    have h2 := g.le
    rw [peaksL]; omega
  · simp
end Go.SW
namespace Go.Proofs.Ytdlepfeckiahdaa
open Go.RowKit Go.SW

end Go.Proofs.Ytdlepfeckiahdaa
