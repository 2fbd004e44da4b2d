/- Contracts: the water functions of the reference, second part. -/
import Derived.Test.YtgdopjkanibfeaaGreatDoorWs
set_option linter.all false
set_option maxRecDepth 20000
namespace Go.SW
theorem runOf_short (rows : List (List Int)) (r c : Int) : (ni (runOf rows r c)).length ≤ 1000000 := by
  rw [ni_len, runOf]
  split
  · rename_i hok
    obtain ⟨rn, cn, rfl, rfl, h1, h2, h3⟩ := cell_idx hok
    have hv : gvalid rows = true := by simp only [cellok, Bool.and_eq_true] at hok; exact hok.1
    have g := ((gvalid_iff rows).1 hv).gd
    have := waterN_len g _ h3
    have := g.hh _ h3
    simp only [Int.toNat_natCast]; omega
  · simp
theorem flowL_short (rows : List (List Int)) : (ni (flowL rows)).length ≤ 1000000 := by
  rw [ni_len, flowL]
  split
  · rename_i hv; have := ((gvalid_iff rows).1 hv).gd.le; simp; omega
  · simp
theorem basinsL_short (rows : List (List Int)) : (ni (basinsL rows)).length ≤ 1000000 := by
  rw [ni_len, basinsL]
  split
  · rename_i hv; have := ((gvalid_iff rows).1 hv).gd.le; simp; omega
  · simp
end Go.SW
namespace Go.Proofs.YtgdopjkanibfeaaGreatDoor
open Go.RowKit Go.SW

end Go.Proofs.YtgdopjkanibfeaaGreatDoor
