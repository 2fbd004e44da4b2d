/- The law FnPeakList: contract. -/
import Derived.Test.YtdlepfeckiahdaaPf
import Derived.Test.YtdlepfeckiahdaaD3
import Derived.Test.YtdlepfeckiahdaaJ2
import Derived.Test.YtdlepfeckiahdaaHl
set_option linter.all false
namespace Go.SW
open Go Go.RowKit
theorem top_ex (h : Nat → Int) : ∀ n, 0 < n → ∃ x, x < n ∧ ∀ j, j < n → hiB h j x = false
  | n + 1, _ => by
    by_cases h0 : n = 0
    · subst h0
      refine ⟨0, by omega, fun j hj => ?_⟩
      have e : j = 0 := by omega
      rw [e]; exact hiB_irr h 0
    · obtain ⟨x, hx, hj⟩ := top_ex h n (by omega)
      cases e : hiB h n x with
      | false => exact ⟨x, by omega, fun j hjn => by
          by_cases e2 : j = n
          · subst e2; exact e
          · exact hj j (by omega)⟩
      | true => exact ⟨n, by omega, fun j hjn => by
          by_cases e2 : j = n
          · subst e2; exact hiB_irr h j
          · have h1 := hj j (by omega)
            exact (hiB_ahead h).tr _ _ _ h1 ((hiB_ahead h).asy _ _ e)⟩
/-- The first of the peaks is the highest cell. -/
theorem peaks_top {R C : Nat} {h : Nat → Int} (g : Gd R C h) : ∃ x l, peaksL R C h = x :: l ∧ x < R * C ∧ h x = mxN h (R * C) ∧ ∀ j, j < R * C → hiB h j x = false := by
  obtain ⟨x, hx, hj⟩ := top_ex h (R * C) g.pos
  have hp : peakB R C h x = true := by
    rw [peakB, List.all_eq_true]
    intro j hjn
    rw [hj j (nearN_lt hx j hjn)]; rfl
  have hm : x ∈ peaksL R C h := mem_peaksTo.2 ⟨hx, hp⟩
  have hr := rank_peaksTo R C h (R * C)
  have hmx : h x = mxN h (R * C) := by
    obtain ⟨i, hi, e⟩ := mxN_at h (R * C) g.pos
    have h1 := hj i hi
    have h2 := mxN_ge h (R * C) x hx
    simp only [hiB, decide_eq_false_iff_not] at h1
    omega
  cases hl : peaksL R C h with
  | nil => rw [hl] at hm; simp at hm
  | cons p l =>
    rw [hl] at hm
    rw [peaksL] at hl
    rw [hl] at hr
    rcases List.mem_cons.1 hm with e | e
    · subst e; exact ⟨x, l, rfl, hx, hmx, hj⟩
    · have h1 := (List.pairwise_cons.1 hr).1 x e
      have h2 : p < R * C := (mem_peaksTo.1 (show p ∈ peaksTo R C h (R * C) by rw [hl]; exact List.mem_cons_self)).1
      rw [hj p h2] at h1; cases h1
theorem rank_next {h : Nat → Int} {l : List Nat} (hr : Rank h l) {j : Nat} (hj : j + 1 < l.length) : hiB h (l.getD j 0) (l.getD (j + 1) 0) = true := by
  rw [getD_at l 0 (by omega), getD_at l 0 hj]
  exact List.pairwise_iff_getElem.1 hr j (j + 1) (by omega) hj (by omega)
/-- What PeakIs answers. -/
def pkOf (rows : List (List Int)) (i : Int) : Bool := gvalid rows && (decide (0 ≤ i ∧ i < (rows.length * rowLen rows : Nat)) && peakB rows.length (rowLen rows) (hgt rows) i.toNat)
theorem mem_ni {l : List Nat} {i : Nat} : (i : Int) ∈ ni l ↔ i ∈ l := by
  simp only [ni, List.mem_map]
  constructor
  · rintro ⟨a, h1, h2⟩
    have : a = i := by omega
    subst this; exact h1
  · intro h; exact ⟨i, h, rfl⟩
theorem mem_peakListOf {rows : List (List Int)} {i : Nat} : i ∈ peakListOf rows ↔ pkOf rows i = true := by
  simp only [peakListOf, pkOf, Bool.and_eq_true, decide_eq_true_eq, Int.toNat_natCast]
  split
  · rename_i hv
    rw [peaksL, mem_peaksTo]
    constructor
    · rintro ⟨h1, h2⟩; exact ⟨hv, ⟨by omega, by omega⟩, h2⟩
    · rintro ⟨-, ⟨h1, h2⟩, h3⟩; exact ⟨by omega, h3⟩
  · rename_i hv
    simp [hv]
theorem hasPk (rows : List (List Int)) (i : Nat) : decide ((i : Int) ∈ ni (peakListOf rows)) = pkOf rows i := by
  rw [Bool.eq_iff_iff, decide_eq_true_eq, mem_ni, mem_peakListOf]
end Go.SW
namespace Go.Proofs.Ytdlepfeckiahdaa
open Go.RowKit Go.SW
theorem binb_neq2 (a b : Bool) : binV Try.prog .neq 4 (.bool a) (.bool b) = some (.bool (!(a == b))) := by kernel_rfl
theorem binb_eql2 (a b : Bool) : binV Try.prog .eql 4 (.bool a) (.bool b) = some (.bool (a == b)) := by kernel_rfl
attribute [go_sem] binb_neq2 binb_eql2

/-- A grid has been drawn. -/
def DrawnG (w w' : World) (v : Value) : Prop := ∃ a c rows A Cp, v = .slice a rows.length c ∧ RowsAt w' a rows A Cp ∧ Ext w w'
end Go.Proofs.Ytdlepfeckiahdaa
