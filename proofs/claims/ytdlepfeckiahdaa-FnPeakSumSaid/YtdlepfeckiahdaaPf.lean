/- The exact law on PeakList: contract. Printed by a program of ours (gpx.py, gexact.py). -/
import Derived.Test.YtdlepfeckiahdaaPe
import Derived.Test.YtdlepfeckiahdaaEx
set_option linter.all false
namespace Go.SW
theorem peakListOf_len (rows : List (List Int)) : (peakListOf rows).length ≤ 49 := by
  rw [peakListOf]
  split
  · rename_i hv
    have g := ((gvalid_iff rows).1 hv).gd
    have h1 := peaksTo_len rows.length (rowLen rows) (hgt rows) (rows.length * rowLen rows)
    have h2 := g.le
    rw [peaksL]; omega
  · simp
theorem peakListOf_short (rows : List (List Int)) : (ni (peakListOf rows)).length ≤ 1000000 := by
  have := peakListOf_len rows
  rw [ni_len]; omega
end Go.SW
namespace Go.Proofs.Ytdlepfeckiahdaa
open Go.RowKit Go.SW

end Go.Proofs.Ytdlepfeckiahdaa
