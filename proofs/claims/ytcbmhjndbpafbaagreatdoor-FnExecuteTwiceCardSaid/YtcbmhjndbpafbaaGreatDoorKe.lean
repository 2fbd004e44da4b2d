import Derived.Test.YtcbmhjndbpafbaaGreatDoorK9
import Derived.Test.YtcbmhjndbpafbaaGreatDoorKd
set_option linter.all false
set_option maxRecDepth 20000
namespace Go.Proofs.YtcbmhjndbpafbaaGreatDoor
open Go.RowKit Go.SW
theorem blk_ints {w : World} {b : Nat} {L : List Int} {T : TypeId} (k : Blk w b (vi L).toArray T) : IntS w (some ⟨b, 0, none⟩) L := by
 refine ⟨fun _ => ⟨b, 0, rfl⟩, fun b' o' h i hi => ?_⟩
 simp only [Option.some.injEq, Addr.mk.injEq] at h
 obtain ⟨rfl, rfl, _⟩ := h
 rw [Nat.zero_add]
 exact vi_cell k hi
def land3 (rows : List (List Int)) (lv : Int) : List Int := [landOf rows lv, regionsOf rows lv, lakesOf rows lv]
theorem land3_rng {rows : List (List Int)} {lv : Int} (h : lvok rows lv = true) : ∀ x ∈ land3 rows lv, 0 ≤ x ∧ x ≤ 99 := by
 obtain ⟨hv, -⟩ := lv_parts h
 have hn := ((gvalid_iff rows).1 hv).gd.le
 have h1 := cntp_le (fun i => lv ≤ hgt rows i) (rows.length * rowLen rows)
 have h2 : compOf rows lv ≤ rows.length * rowLen rows := cntp_le _ _
 have h3 : lakeN rows.length (rowLen rows) (watB (hgt rows) lv) ≤ rows.length * rowLen rows := cntp_le _ _
 intro x hx
 simp only [land3, landOf, regionsOf, lakesOf, if_pos h, List.mem_cons, List.not_mem_nil, or_false] at hx
 rcases hx with rfl | rfl | rfl <;> omega
end Go.Proofs.YtcbmhjndbpafbaaGreatDoor
