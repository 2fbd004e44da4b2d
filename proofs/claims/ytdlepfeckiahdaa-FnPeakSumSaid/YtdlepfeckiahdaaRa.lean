/- Maths: regions above a level are peaks whose keys are lower. -/
import Derived.Test.YtdlepfeckiahdaaQg
import Derived.Test.YtdlepfeckiahdaaLu
set_option linter.all false
namespace Go.SW
open Go Go.RowKit
theorem top_in3 (h : Nat → Int) (p : Nat → Prop) : ∀ n, (∃ i, i < n ∧ p i) → ∃ x, x < n ∧ p x ∧ ∀ j, j < n → p j → hiB h j x = false
  | 0, ⟨i, hi, _⟩ => by omega
  | n + 1, ⟨i, hi, hp⟩ => by
    rcases Classical.em (∃ i, i < n ∧ p i) with he | he
    · obtain ⟨x, hx, hpx, hj⟩ := top_in3 h p n he
      rcases Classical.em (p n ∧ hiB h n x = true) with ⟨h1, h2⟩ | h1
      · refine ⟨n, by omega, h1, fun j hjn hpj => ?_⟩
        by_cases e : j = n
        · subst e; exact hiB_irr h j
        · exact (hiB_ahead h).tr _ _ _ (hj j (by omega) hpj) ((hiB_ahead h).asy _ _ h2)
      · refine ⟨x, by omega, hpx, fun j hjn hpj => ?_⟩
        by_cases e : j = n
        · subst e
          cases e2 : hiB h j x with
          | false => rfl
          | true => exact absurd ⟨hpj, e2⟩ h1
        · exact hj j (by omega) hpj
    · have e : i = n := by
        rcases Classical.em (i = n) with e | e
        · exact e
        · exact absurd ⟨i, by omega, hp⟩ he
      subst e
      refine ⟨i, by omega, hp, fun j hjn hpj => ?_⟩
      by_cases e : j = i
      · subst e; exact hiB_irr h j
      · exact absurd ⟨j, by omega, hpj⟩ he
theorem reg_sum (rows : List (List Int)) (lv : Int) (q : Nat → Bool) : sumN (fun k => cntp (fun i => decide (landN rows lv i = (k : Int)) = true ∧ q i = true) (rows.length * rowLen rows)) (compOf rows lv) = cntp (fun i => landB (hgt rows) lv i = true ∧ q i = true) (rows.length * rowLen rows) := by
  have e : sumN (fun k => cntp (fun i => decide (landN rows lv i = (k : Int)) = true ∧ q i = true) (rows.length * rowLen rows)) (compOf rows lv) = sumN (fun k => sumN (fun i => if (decide (landN rows lv i = (k : Int)) = true ∧ q i = true) then 1 else 0) (rows.length * rowLen rows)) (compOf rows lv) := sumN_congr fun k _ => (sumN_cntp _ _).symm
  rw [e, sumN_swap, ← sumN_cntp]
  refine sumN_congr fun i hi => ?_
  cases hp : q i with
  | false =>
    simp only [Bool.false_eq_true, and_false, if_false]
    exact sumN_zero _
  | true =>
    simp only [and_true]
    by_cases ha : landB (hgt rows) lv i = true
    · rw [if_pos ha]
      obtain ⟨h1, h2⟩ := numOf_lt (nb := nearN rows.length (rowLen rows)) near_ok hi ha
      have hl : landN rows lv i = numOf (nearN rows.length (rowLen rows)) (landB (hgt rows) lv) (rows.length * rowLen rows) i := rfl
      refine (sumN_congr fun k _ => ?_).trans (sumN_single (n := compOf rows lv) (a := (landN rows lv i).toNat) (by simp only [compOf]; omega) 1)
      by_cases hk : k = (landN rows lv i).toNat
      · rw [if_pos hk, if_pos (decide_eq_true (by omega))]
      · rw [if_neg hk, if_neg (by simp only [decide_eq_true_eq]; omega)]
    · rw [if_neg ha]
      have h1 : landN rows lv i = -1 := numOf_none (by simpa using ha)
      exact (sumN_congr (g := fun _ => 0) fun k _ => by rw [h1, if_neg (by simp only [decide_eq_true_eq]; omega)]).trans (sumN_zero _)
section
variable {R C : Nat} {h : Nat → Int}
theorem num_rch {lv : Int} {i j : Nat} (hi : i < R * C) (hj : j < R * C) (ai : landB h lv i = true) (aj : landB h lv j = true) (e : numOf (nearN R C) (landB h lv) (R * C) i = numOf (nearN R C) (landB h lv) (R * C) j) : Rch R C h i lv j := by
  refine ⟨ai, aj, ?_⟩
  simp only [numOf, ai, aj, if_true] at e
  obtain ⟨h1, h2⟩ := rep_root (nb := nearN R C) nb_lt hi ai
  obtain ⟨h3, h4⟩ := rep_root (nb := nearN R C) nb_lt hj aj
  rcases Nat.lt_trichotomy (repF (nearN R C) (landB h lv) (R * C) i) (repF (nearN R C) (landB h lv) (R * C) j) with h' | h' | h'
  · have := cntp_lt _ h' h2; omega
  · exact h'
  · have := cntp_lt _ h' h4; omega
theorem rch_num {lv : Int} {i j : Nat} (r : Rch R C h i lv j) : numOf (nearN R C) (landB h lv) (R * C) i = numOf (nearN R C) (landB h lv) (R * C) j := by
  simp only [numOf, r.1, r.2.1, r.2.2]
theorem bestGe (i : Nat) : ∀ k, ∀ j, j < k → hiB h j i = true → passN R C h i j ≤ bestTo R C h i k
  | k + 1, j, hj, hh => by
    simp only [bestTo]
    by_cases e : j = k
    · subst e; rw [if_pos hh]; omega
    · have := bestGe i k j (by omega) hh
      split <;> omega
theorem bestAt (i : Nat) : ∀ k, bestTo R C h i k = -1 ∨ ∃ j, j < k ∧ hiB h j i = true ∧ bestTo R C h i k = passN R C h i j
  | 0 => .inl rfl
  | k + 1 => by
    simp only [bestTo]
    by_cases hh : hiB h k i = true
    · rw [if_pos hh]
      have hp := pass_ge R C h i k
      by_cases hm : bestTo R C h i k ≤ passN R C h i k
      · exact .inr ⟨k, by omega, hh, by omega⟩
      · rcases bestAt i k with e | ⟨j, hj, h1, h2⟩
        · omega
        · exact .inr ⟨j, by omega, h1, by omega⟩
    · rw [if_neg hh]
      rcases bestAt i k with e | ⟨j, hj, h1, h2⟩
      · exact .inl e
      · exact .inr ⟨j, by omega, h1, h2⟩
/-- Where all is land, there is a way from each cell to each. -/
theorem rchZero {lv : Int} (hall : ∀ j, j < R * C → lv ≤ h j) : ∀ x, x < R * C → Rch R C h 0 lv x := by
  intro x
  induction x using Nat.strongRecOn with
  | _ x ih =>
    intro hx
    have hC : 0 < C := Nat.pos_of_ne_zero fun e => by subst e; simp at hx
    by_cases h0 : x = 0
    · subst h0; exact Rch.self (hall 0 hx)
    · by_cases hc : C ≤ x
      · have hy : x - C < R * C := by omega
        have hj : x - C ∈ nearN R C x := nearN_mem.2 (.inl ⟨hc, rfl⟩)
        exact (ih (x - C) (by omega) hy).edge hy ((near_sym hx hy).1 hj) (hall x hx)
      · have hy : x - 1 < R * C := by omega
        have hm : x % C = x := Nat.mod_eq_of_lt (by omega)
        have hj : x - 1 ∈ nearN R C x := nearN_mem.2 (.inr (.inr (.inr ⟨by omega, rfl⟩)))
        exact (ih (x - 1) (by omega) hy).edge hy ((near_sym hx hy).1 hj) (hall x hx)
theorem rchAll {lv : Int} (hall : ∀ j, j < R * C → lv ≤ h j) {a x : Nat} (ha : a < R * C) (hx : x < R * C) : Rch R C h a lv x := by
  have r1 := rchZero hall a ha
  have r2 := rchZero hall x hx
  exact ⟨r1.2.1, r2.2.1, r1.2.2.symm.trans r2.2.2⟩
theorem passMin (g : Gd R C h) {a x : Nat} (ha : a < R * C) (hx : x < R * C) : mnN h (R * C) ≤ passN R C h a x := by
  obtain ⟨j, hj, e⟩ := mnN_at2 h (R * C) g.pos
  have h1 := g.hh j hj
  exact (pass_ok g ha hx (by omega)).2 (rchAll (fun i hi => mnN_le2 h _ i hi) ha hx)
theorem passLea (g : Gd R C h) {a x : Nat} (ha : a < R * C) (hx : x < R * C) : passN R C h a x ≤ h a ∧ passN R C h a x ≤ h x := by
  obtain ⟨j, hj, e⟩ := mnN_at2 h (R * C) g.pos
  have h1 := g.hh j hj
  have h2 := passMin g ha hx
  have r := (pass_ok g ha hx (by omega : 0 ≤ passN R C h a x)).1 (Int.le_refl _)
  exact ⟨r.lea, r.lex⟩
theorem kGe (g : Gd R C h) {i : Nat} (hi : i < R * C) : mnN h (R * C) ≤ keyN R C h i := by
  rw [keyN]
  split
  · rename_i hb
    rcases bestAt (R := R) (C := C) (h := h) i (R * C) with e | ⟨j, hj, h1, h2⟩
    · omega
    · rw [h2]; exact passMin g hi hj
  · omega
theorem kLe (g : Gd R C h) {i : Nat} (hi : i < R * C) : keyN R C h i ≤ h i := by
  rw [keyN]
  split
  · rename_i hb
    rcases bestAt (R := R) (C := C) (h := h) i (R * C) with e | ⟨j, hj, h1, h2⟩
    · omega
    · rw [h2]; exact (passLea g hi hj).1
  · exact mnN_le2 h _ i hi
theorem top_iff (g : Gd R C h) {lv : Int} (hlv : mnN h (R * C) < lv) {x : Nat} (hx : x < R * C) : (peakB R C h x = true ∧ lv ≤ h x ∧ keyN R C h x < lv) ↔ (lv ≤ h x ∧ ∀ y, y < R * C → Rch R C h x lv y → hiB h y x = false) := by
  obtain ⟨j0, hj0, e0⟩ := mnN_at2 h (R * C) g.pos
  have hh0 := g.hh j0 hj0
  constructor
  · rintro ⟨hp, hl, hk⟩
    refine ⟨hl, fun y hy r => ?_⟩
    cases e : hiB h y x with
    | false => rfl
    | true =>
      have h1 := bestGe (R := R) (C := C) x (R * C) y hy e
      have h2 := (pass_ok g hx hy (by omega : 0 ≤ lv)).2 r
      rw [keyN, if_pos (by omega)] at hk
      omega
  · rintro ⟨hl, ht⟩
    refine ⟨?_, hl, ?_⟩
    · rw [peakB, List.all_eq_true]
      intro y hy
      have hyn := nearN_lt hx y hy
      cases e : hiB h y x with
      | false => rfl
      | true =>
        have : lv ≤ h y := by simp only [hiB, decide_eq_true_eq] at e; omega
        have h2 := ht y hyn ((Rch.self hl).edge hx hy this)
        rw [e] at h2; cases h2
    · rw [keyN]
      rcases bestAt (R := R) (C := C) (h := h) x (R * C) with e | ⟨j, hj, h1, h2⟩
      · rw [if_neg (by omega)]; exact hlv
      · split
        · rename_i hb
          rcases Int.lt_or_le (bestTo R C h x (R * C)) lv with h3 | h3
          · exact h3
          · have r := (pass_ok g hx hj (by omega : 0 ≤ lv)).1 (by omega)
            have h4 := ht j hj r
            rw [h1] at h4; cases h4
        · exact hlv
end
theorem sumN_one' : ∀ m, sumN (fun _ => 1) m = m
  | 0 => rfl
  | m + 1 => by simp only [sumN, sumN_one' m]
def pkLv (rows : List (List Int)) (lv : Int) (x : Nat) : Prop := peakB rows.length (rowLen rows) (hgt rows) x = true ∧ lv ≤ hgt rows x ∧ keyN rows.length (rowLen rows) (hgt rows) x < lv
instance (rows : List (List Int)) (lv : Int) : DecidablePred (pkLv rows lv) := fun x => inferInstanceAs (Decidable (_ ∧ _ ∧ _))
/-- Regions above a level are peaks whose keys are lower. -/
theorem comp_peaks {rows : List (List Int)} (hv : gvalid rows = true) {lv : Int} (hlv : mnN (hgt rows) (rows.length * rowLen rows) < lv) : cntp (pkLv rows lv) (rows.length * rowLen rows) = compOf rows lv := by
  have g := ((gvalid_iff rows).1 hv).gd
  have h1 := reg_sum rows lv (fun x => decide (peakB rows.length (rowLen rows) (hgt rows) x = true ∧ keyN rows.length (rowLen rows) (hgt rows) x < lv))
  have h2 : cntp (pkLv rows lv) (rows.length * rowLen rows) = cntp (fun i => landB (hgt rows) lv i = true ∧ decide (peakB rows.length (rowLen rows) (hgt rows) i = true ∧ keyN rows.length (rowLen rows) (hgt rows) i < lv) = true) (rows.length * rowLen rows) := cntp_congr fun i _ => by
    simp only [pkLv, landB, decide_eq_true_eq]
    exact ⟨fun ⟨a, b, c⟩ => ⟨b, a, c⟩, fun ⟨b, a, c⟩ => ⟨a, b, c⟩⟩
  rw [h2, ← h1]
  refine (sumN_congr fun k hk => ?_).trans (sumN_one' _)
  obtain ⟨r, hr, ha, hn⟩ := numOf_at (nb := nearN rows.length (rowLen rows)) (act := landB (hgt rows) lv) (n := rows.length * rowLen rows) hk
  obtain ⟨x, hx, hpx, htop⟩ := top_in3 (hgt rows) (fun i => landN rows lv i = (k : Int)) (rows.length * rowLen rows) ⟨r, hr, hn⟩
  have land : ∀ i, landN rows lv i = (k : Int) → landB (hgt rows) lv i = true := fun i hi => numOf_ge (nb := nearN rows.length (rowLen rows)) (n := rows.length * rowLen rows) (by
    have : numOf (nearN rows.length (rowLen rows)) (landB (hgt rows) lv) (rows.length * rowLen rows) i = (k : Int) := hi
    omega)
  have lle : ∀ i, landB (hgt rows) lv i = true → lv ≤ hgt rows i := fun i hi => by simpa [landB] using hi
  have tx := (top_iff g hlv hx).2 ⟨lle x (land x hpx), fun y hy ry => htop y hy ((rch_num ry).symm.trans hpx)⟩
  refine cntp_one _ (e := x) hx ⟨decide_eq_true hpx, decide_eq_true ⟨tx.1, tx.2.2⟩⟩ fun i hi ⟨q1, q2⟩ => ?_
  have q1 := of_decide_eq_true q1
  have q2 := of_decide_eq_true q2
  have li := land i q1
  have ti := (top_iff g hlv hi).1 ⟨q2.1, lle i li, q2.2⟩
  have r1 := num_rch (R := rows.length) (C := rowLen rows) hi hx li (land x hpx) (by
    have e1 : numOf (nearN rows.length (rowLen rows)) (landB (hgt rows) lv) (rows.length * rowLen rows) i = (k : Int) := q1
    have e2 : numOf (nearN rows.length (rowLen rows)) (landB (hgt rows) lv) (rows.length * rowLen rows) x = (k : Int) := hpx
    rw [e1, e2])
  have h3 := ti.2 x hx r1
  have h4 := htop i hi q1
  rcases Classical.em (i = x) with e | e
  · exact e
  · have := hiB_tot e h4
    rw [h3] at this; cases this
/-! ## the sum of the prominences -/
theorem insL_sum {h : Nat → Int} {i : Nat} (f : Nat → Int) : ∀ l : List Nat, sumL ((insL h i l).map f) = f i + sumL (l.map f)
  | [] => by simp [insL, sumL]
  | a :: l => by
    simp only [insL]
    split
    · have := insL_sum (h := h) (i := i) f l
      simp only [List.map_cons, sumL, List.foldr_cons] at this ⊢
      omega
    · simp only [List.map_cons, sumL, List.foldr_cons]
theorem peaksTo_sum (R C : Nat) (h : Nat → Int) (f : Nat → Int) (hf : ∀ x, x < R * C → 0 ≤ f x) : ∀ k, k ≤ R * C → sumL ((peaksTo R C h k).map f) = (sumN (fun x => if peakB R C h x = true then (f x).toNat else 0) k : Nat)
  | 0, _ => by simp [peaksTo, sumL, sumN]
  | k + 1, hk => by
    have ih := peaksTo_sum R C h f hf k (by omega)
    have h0 := hf k (by omega)
    simp only [peaksTo, sumN]
    by_cases hb : peakB R C h k = true
    · rw [if_pos hb, if_pos hb, insL_sum, ih]; omega
    · rw [if_neg hb, if_neg hb, ih]; omega
theorem cntp_span (a b : Nat) (hab : a ≤ b) : ∀ D, b ≤ D → cntp (fun d => a ≤ d ∧ d < b) D = b - a
  | 0, h => by simp [cntp]; omega
  | D + 1, h => by
    simp only [cntp]
    by_cases e : b ≤ D
    · rw [cntp_span a b hab D e, if_neg (by omega)]; omega
    · have eb : b = D + 1 := by omega
      subst eb
      by_cases e2 : a ≤ D
      · have h1 : cntp (fun d => a ≤ d ∧ d < D + 1) D = cntp (fun d => a ≤ d ∧ d < D) D := cntp_congr fun i hi => ⟨fun h => ⟨h.1, hi⟩, fun h => ⟨h.1, by omega⟩⟩
        rw [h1, cntp_span a D e2 D (Nat.le_refl _), if_pos ⟨e2, by omega⟩]; omega
      · rw [if_neg (by omega), cntp_zero _ _ (fun i hi h => by omega)]; omega
theorem psum_regions {rows : List (List Int)} (hv : gvalid rows = true) {D : Nat} (hD : mxN (hgt rows) (rows.length * rowLen rows) - mnN (hgt rows) (rows.length * rowLen rows) = (D : Int)) :
    (sumN (fun d => compOf rows (mnN (hgt rows) (rows.length * rowLen rows) + 1 + (d : Int))) D : Nat) = psumOf rows := by
  have g := ((gvalid_iff rows).1 hv).gd
  have hk : ∀ x, x < rows.length * rowLen rows → mnN (hgt rows) (rows.length * rowLen rows) ≤ keyN rows.length (rowLen rows) (hgt rows) x ∧ keyN rows.length (rowLen rows) (hgt rows) x ≤ hgt rows x := fun x hx => ⟨kGe g hx, kLe g hx⟩
  rw [psumOf, if_pos hv, peaksL, peaksTo_sum _ _ _ _ (fun x hx => by have := (hk x hx).2; rw [promN]; omega) _ (Nat.le_refl _)]
  congr 1
  have e1 : sumN (fun d => compOf rows (mnN (hgt rows) (rows.length * rowLen rows) + 1 + (d : Int))) D = sumN (fun d => sumN (fun x => if pkLv rows (mnN (hgt rows) (rows.length * rowLen rows) + 1 + (d : Int)) x then 1 else 0) (rows.length * rowLen rows)) D := sumN_congr fun d _ => by
    rw [← comp_peaks hv (by omega), sumN_cntp]
  rw [e1, sumN_swap]
  refine sumN_congr fun x hx => ?_
  have h1 := hk x hx
  have h2 := mxN_ge (hgt rows) _ x hx
  by_cases hb : peakB rows.length (rowLen rows) (hgt rows) x = true
  · rw [if_pos hb, sumN_cntp]
    have := cntp_span (keyN rows.length (rowLen rows) (hgt rows) x - mnN (hgt rows) (rows.length * rowLen rows)).toNat (hgt rows x - mnN (hgt rows) (rows.length * rowLen rows)).toNat (by omega) D (by omega)
    rw [cntp_congr (q := fun d => (keyN rows.length (rowLen rows) (hgt rows) x - mnN (hgt rows) (rows.length * rowLen rows)).toNat ≤ d ∧ d < (hgt rows x - mnN (hgt rows) (rows.length * rowLen rows)).toNat) (fun d _ => ⟨fun ⟨_, a, b⟩ => by omega, fun ⟨a, b⟩ => ⟨hb, by omega, by omega⟩⟩), this, promN]
    omega
  · rw [if_neg hb]
    exact (sumN_congr (g := fun _ => 0) fun d _ => if_neg fun h => hb h.1).trans (sumN_zero _)
end Go.SW
