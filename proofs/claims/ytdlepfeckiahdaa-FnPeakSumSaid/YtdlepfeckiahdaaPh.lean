/- The reference's GridInvert; PitList: both sides. -/
import Derived.Test.YtdlepfeckiahdaaPg
import Derived.Test.YtdlepfeckiahdaaJ2
import Derived.Test.YtdlepfeckiahdaaLl
set_option linter.all false
namespace Go.Proofs.Ytdlepfeckiahdaa
open Go.RowKit Go.SW
def mkRow (C : Nat) (h : Nat → Int) (r : Nat) : List Int := (List.range C).map fun c => h (r * C + c)
theorem mkRow_len (C : Nat) (h : Nat → Int) (r : Nat) : (mkRow C h r).length = C := by simp [mkRow]
theorem mkRow_get {C : Nat} {h : Nat → Int} {r c : Nat} (hc : c < C) : (mkRow C h r).getD c 0 = h (r * C + c) := by simp [mkRow, hc]
theorem mkRows_eq (R C : Nat) (h : Nat → Int) : mkRows R C h = (List.range R).map (mkRow C h) := rfl
theorem mkRows_row {R C : Nat} {h : Nat → Int} {r : Nat} (hr : r < R) : (mkRows R C h).getD r [] = mkRow C h r := mkRows_get hr
theorem mkRows_i64 {R C : Nat} {h : Nat → Int} (hh : ∀ i, i < R * C → I64 (h i)) : ∀ l ∈ mkRows R C h, ∀ x ∈ l, I64 x := fun l hl x hx => by
  obtain ⟨r, hr, rfl⟩ := List.mem_map.1 hl
  obtain ⟨c, hc, rfl⟩ := List.mem_map.1 hx
  have h1 := List.mem_range.1 hr
  have h2 := List.mem_range.1 hc
  refine hh _ ?_
  have := Nat.mul_le_mul_right C (show r + 1 ≤ R by omega)
  rw [Nat.add_mul, Nat.one_mul] at this; omega
theorem mkRows_lens {R C : Nat} {h : Nat → Int} (hC : C ≤ maxLen) : ∀ l ∈ mkRows R C h, l.length ≤ maxLen := fun l hl => by
  obtain ⟨r, hr, rfl⟩ := List.mem_map.1 hl
  simpa using hC
theorem mkRows_set {R C : Nat} {H G : Nat → Int} {r c : Nat} (hr : r < R) (hc : c < C) (hg : ∀ i, i < R * C → i ≠ r * C + c → G i = H i) :
    (mkRows R C H).set r ((mkRow C H r).set c (G (r * C + c))) = mkRows R C G := by
  apply List.ext_getElem?; intro s
  rw [List.getElem?_set]
  have bound : ∀ s d, s < R → d < C → s * C + d < R * C := fun s d h1 h2 => by
    have := Nat.mul_le_mul_right C (show s + 1 ≤ R by omega)
    rw [Nat.add_mul, Nat.one_mul] at this; omega
  by_cases hs : s < R
  · by_cases e : r = s
    · subst e
      simp only [if_true, mkRows_len, hs]
      simp only [mkRows_eq, List.getElem?_map, List.getElem?_range hs, Option.map_some, Option.some.injEq]
      apply List.ext_getElem?; intro d
      rw [List.getElem?_set]
      by_cases hd : d < C
      · by_cases e2 : c = d
        · subst e2; simp [mkRow, hc]
        · have h1 := hg (r * C + d) (bound r d hs hd) (by omega)
          simp [mkRow, hd, e2, h1]
      · have : c ≠ d := by omega
        simp [mkRow, hd, this]
    · rw [if_neg e]
      simp only [mkRows_eq, List.getElem?_map, List.getElem?_range hs, Option.map_some, Option.some.injEq]
      apply List.map_congr_left
      intro d hd
      have hd := List.mem_range.1 hd
      refine (hg _ (bound s d hs hd) fun e2 => e ?_).symm
      have h1 : (s * C + d) / C = s := by rw [Nat.mul_comm, Nat.mul_add_div (by omega), Nat.div_eq_of_lt hd]; rfl
      have h2 : (r * C + c) / C = r := by rw [Nat.mul_comm, Nat.mul_add_div (by omega), Nat.div_eq_of_lt hc]; rfl
      rw [← h1, ← h2, e2]
  · have : r ≠ s := by omega
    simp [mkRows, hs, this]
theorem valid_mk {rows : List (List Int)} (v : Valid rows) : mkRows rows.length (rowLen rows) (hgt rows) = rows := by
  have hC := v.c1
  apply List.ext_getElem?; intro r
  by_cases hr : r < rows.length
  · simp only [mkRows_eq, List.getElem?_map, List.getElem?_range hr, Option.map_some]
    rw [List.getElem?_eq_getElem hr]
    congr 1
    have hl : rows[r].length = rowLen rows := by
      have := v.len r hr
      rwa [getD_at rows [] hr] at this
    apply List.ext_getElem (by rw [mkRow_len, hl])
    intro c h1 h2
    have hc : c < rowLen rows := by rw [mkRow_len] at h1; exact h1
    simp only [mkRow, List.getElem_map, List.getElem_range, hgt]
    have e1 : (r * rowLen rows + c) / rowLen rows = r := by rw [Nat.mul_comm, Nat.mul_add_div (by omega), Nat.div_eq_of_lt hc]; rfl
    have e2 : (r * rowLen rows + c) % rowLen rows = c := by rw [Nat.mul_comm, Nat.mul_add_mod, Nat.mod_eq_of_lt hc]
    rw [e1, e2, getD_at rows [] hr, getD_at _ 0 h2]
  · simp [mkRows, hr]
/-- What PitList answers. -/
def pitsOf (rows : List (List Int)) : List Nat := if gvalid rows = true then peaksL rows.length (rowLen rows) (fun i => 99 - hgt rows i) else []
theorem peaksL_congr {R C : Nat} {h h' : Nat → Int} (e : ∀ i, i < R * C → h i = h' i) : peaksL R C h = peaksL R C h' := by
  have hb : ∀ i j, i < R * C → j < R * C → hiB h i j = hiB h' i j := fun i j hi hj => by simp only [hiB, e i hi, e j hj]
  refine peaksL_eq ?_ fun x => ?_
  · have h1 := rank_peaksTo R C h (R * C)
    refine List.Pairwise.imp_of_mem ?_ h1
    intro a b ha hb' hab
    rw [← hb a b (mem_peaksTo.1 ha).1 (mem_peaksTo.1 hb').1]; exact hab
  · rw [peaksL, mem_peaksTo]
    constructor
    · rintro ⟨h1, h2⟩
      refine ⟨h1, ?_⟩
      rw [peakB, List.all_eq_true] at h2 ⊢
      intro j hj
      rw [← hb j x (nearN_lt h1 j hj) h1]; exact h2 j hj
    · rintro ⟨h1, h2⟩
      refine ⟨h1, ?_⟩
      rw [peakB, List.all_eq_true] at h2 ⊢
      intro j hj
      rw [hb j x (nearN_lt h1 j hj) h1]; exact h2 j hj
theorem inv_gvalid {rows : List (List Int)} (v : Valid rows) : gvalid (mkRows rows.length (rowLen rows) fun i => 99 - hgt rows i) = true := (gvalid_iff _).2 (mkRows_valid v.r1 v.r7 v.c1 v.c7 fun i hi => by have := v.hgt i hi; omega)
theorem inv_peaks {rows : List (List Int)} (hv : gvalid rows = true) : peakListOf (mkRows rows.length (rowLen rows) fun i => 99 - hgt rows i) = pitsOf rows := by
  have v := (gvalid_iff rows).1 hv
  rw [peakListOf, if_pos (inv_gvalid v), pitsOf, if_pos hv, mkRows_len, mkRows_rowLen v.r1]
  exact peaksL_congr fun i hi => mkRows_hgt v.r1 hi

end Go.Proofs.Ytdlepfeckiahdaa
