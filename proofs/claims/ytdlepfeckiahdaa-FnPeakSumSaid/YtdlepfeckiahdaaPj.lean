/- The law FnPits: contract. -/
import Derived.Test.YtdlepfeckiahdaaPi
set_option linter.all false
namespace Go.Proofs.Ytdlepfeckiahdaa
open Go.RowKit Go.SW
theorem sink_iff {R C : Nat} {h : Nat → Int} {i : Nat} : nextN R C h i = i ↔ ∀ j ∈ nearN R C i, h i ≤ h j := by
  constructor
  · intro e j hj
    have := nextN_le (h := h) hj
    rw [e] at this; exact this
  · intro hj
    rcases nextN_ne (R := R) (C := C) (h := h) i with e | e
    · exact e
    · rcases nextN_mem (R := R) (C := C) (h := h) i with e2 | e2
      · exact e2
      · have := hj _ e2; omega
theorem mem_pitsOf {rows : List (List Int)} (hv : gvalid rows = true) {i : Nat} : i ∈ pitsOf rows ↔ i < rows.length * rowLen rows ∧ peakB rows.length (rowLen rows) (fun i => 99 - hgt rows i) i = true := by
  rw [pitsOf, if_pos hv, peaksL, mem_peaksTo]
theorem pit_sink {rows : List (List Int)} (hv : gvalid rows = true) {i : Nat} (hi : i ∈ pitsOf rows) : i ∈ sinksOf rows := by
  obtain ⟨h1, h2⟩ := (mem_pitsOf hv).1 hi
  simp only [sinksOf, hv, if_true]
  refine (sinksTo_mem _ _ _ _ _).2 ⟨h1, sink_iff.2 fun j hj => ?_⟩
  rw [peakB, List.all_eq_true] at h2
  have := h2 j hj
  simp only [hiB, Bool.not_eq_true', decide_eq_false_iff_not] at this
  omega
theorem alone_pit {rows : List (List Int)} (hv : gvalid rows = true) {i : Nat} (hi : i ∈ sinksOf rows) (ha : ∀ j ∈ nearN rows.length (rowLen rows) i, hgt rows j ≠ hgt rows i) : i ∈ pitsOf rows := by
  simp only [sinksOf, hv, if_true] at hi
  obtain ⟨h1, h2⟩ := (sinksTo_mem _ _ _ _ _).1 hi
  refine (mem_pitsOf hv).2 ⟨h1, ?_⟩
  rw [peakB, List.all_eq_true]
  intro j hj
  have h3 := sink_iff.1 h2 j hj
  have h4 := ha j hj
  simp only [hiB, Bool.not_eq_true', decide_eq_false_iff_not]
  omega
theorem sinks_lt {rows : List (List Int)} (hv : gvalid rows = true) {i : Nat} (hi : i ∈ sinksOf rows) : i < rows.length * rowLen rows := by
  simp only [sinksOf, hv, if_true] at hi
  exact ((sinksTo_mem _ _ _ _ _).1 hi).1

end Go.Proofs.Ytdlepfeckiahdaa
