/- Maths of Euler's law: cracks around cells. If the cells in the west and in the north are not connected, the cell in the north-west is not enclosed. -/
import Derived.Test.YtdlepfeckiahdaaEa
set_option linter.all false
namespace Go.SW
section
variable {R C : Nat}
def crH (K D : Nat → Nat → Bool) (q c : Nat) : Bool := (K q c && D q (c + 1)) ^^ (D q c && K q (c + 1))
def crV (K D : Nat → Nat → Bool) (q c : Nat) : Bool := (K q c && D (q + 1) c) ^^ (D q c && K (q + 1) c)
def crB (K D : Nat → Nat → Bool) (q c : Nat) : Bool := (crH K D q c ^^ crH K D (q + 1) c) ^^ (crV K D q c ^^ crV K D q (c + 1))
/-- All cracks have two ends. -/
theorem cracks_even {K D : Nat → Nat → Bool} (hR : 1 ≤ R) (hC : 1 ≤ C) (h0 : ∀ c, c < C → D 0 c = false) (h1 : ∀ c, c < C → D (R - 1) c = false) (h2 : ∀ q, q < R → D q 0 = false) (h3 : ∀ q, q < R → D q (C - 1) = false) :
    X (fun q => X (fun c => crB K D q c) (C - 1)) (R - 1) = false := by
  have e1 : ∀ q, X (fun c => crB K D q c) (C - 1) = ((X (crH K D q) (C - 1) ^^ X (crH K D (q + 1)) (C - 1)) ^^ (crV K D q 0 ^^ crV K D q (C - 1))) := fun q => by
    simp only [crB]
    rw [X_add (fun c => crH K D q c ^^ crH K D (q + 1) c) (fun c => crV K D q c ^^ crV K D q (c + 1)), X_add, X_tel]
  have e2 : ∀ q, q < R - 1 → (crV K D q 0 ^^ crV K D q (C - 1)) = false := fun q hq => by
    simp only [crV, h2 q (by omega), h2 (q + 1) (by omega), h3 q (by omega), h3 (q + 1) (by omega), Bool.and_false, Bool.false_and, Bool.xor_false]
  rw [X_congr (g := fun q => X (crH K D q) (C - 1) ^^ X (crH K D (q + 1)) (C - 1)) (R - 1) (fun q hq => by rw [e1 q, e2 q hq, Bool.xor_false]), X_tel (fun q => X (crH K D q) (C - 1))]
  have e3 : X (crH K D 0) (C - 1) = false := by
    rw [X_congr (g := fun _ => false) _ (fun c hc => by simp only [crH, h0 c (by omega), h0 (c + 1) (by omega), Bool.and_false, Bool.false_and, Bool.xor_false])]; exact X_zero _
  have e4 : X (crH K D (R - 1)) (C - 1) = false := by
    rw [X_congr (g := fun _ => false) _ (fun c hc => by simp only [crH, h1 c (by omega), h1 (c + 1) (by omega), Bool.and_false, Bool.false_and, Bool.xor_false])]; exact X_zero _
  rw [e3, e4]; rfl
/-- Around a corner of four cells: land runs are all of K or not at all, all water is of D or none is. -/
theorem corner_even : ∀ (a b d e ka kb kd ke t : Bool), (ka = true → a = true) → (kb = true → b = true) → (kd = true → d = true) → (ke = true → e = true) → (a = true → b = true → ka = kb) → (a = true → d = true → ka = kd) → (b = true → e = true → kb = ke) → (d = true → e = true → kd = ke) →
    ((((ka && (t && !b)) ^^ ((t && !a) && kb)) ^^ ((kd && (t && !e)) ^^ ((t && !d) && ke))) ^^ (((ka && (t && !d)) ^^ ((t && !a) && kd)) ^^ ((kb && (t && !e)) ^^ ((t && !b) && ke)))) = false := by decide
variable {A : Nat → Bool}
/-- A cell behind which there is no land reaches the border. -/
theorem later_open {x : Nat} (hl : ∀ i, A i = true → i ≤ x) {q : Nat} (hq : q < R) : ∀ m c, c + m + 1 = C → x < q * C + c → ∃ j, j < R * C ∧ A j = false ∧ bordB R C j = true ∧ EqvC (Edg (aroundN R C) (fun i => !A i) (R * C)) (q * C + c) j
  | 0, c, hc, hx => ⟨q * C + c, corner_ltN hq (by omega), by
      cases e : A (q * C + c) with
      | false => rfl
      | true => have := hl _ e; omega, by rw [bord_rc (by omega)]; simp; omega, .refl _⟩
  | m + 1, c, hc, hx => by
    obtain ⟨j, h1, h2, h3, h4⟩ := later_open hl hq m (c + 1) (by omega) (by omega)
    have w : ∀ i, x < i → A i = false := fun i hi => by
      cases e : A i with
      | false => rfl
      | true => have := hl _ e; omega
    refine ⟨j, h1, h2, h3, .trans (.base ⟨corner_ltN hq (by omega), ?_, by simp [w _ hx], by simp [w (q * C + (c + 1)) (by omega)]⟩) h4⟩
    exact (aro_rc (by omega) hq (by omega)).2 (by simp only [AroC]; omega)
/-- The second half. -/
theorem not_encl {q c : Nat} (hq : q + 1 < R) (hc : c + 1 < C) (hx : A ((q + 1) * C + (c + 1)) = true) (hl : ∀ i, A i = true → i ≤ (q + 1) * C + (c + 1)) (hN : A (q * C + (c + 1)) = true) (hW : A ((q + 1) * C + c) = true) (hw : A (q * C + c) = false)
    (hd : repF (nearN R C) (fun i => A i && decide (i ≠ (q + 1) * C + (c + 1))) (R * C) ((q + 1) * C + c) ≠ repF (nearN R C) (fun i => A i && decide (i ≠ (q + 1) * C + (c + 1))) (R * C) (q * C + (c + 1))) :
    ∃ j, j < R * C ∧ A j = false ∧ bordB R C j = true ∧ repF (aroundN R C) (fun i => !A i) (R * C) j = repF (aroundN R C) (fun i => !A i) (R * C) (q * C + c) := by
  refine Classical.byContradiction fun hno => ?_
  have hs : (q + 1) * C = q * C + C := by rw [Nat.add_mul, Nat.one_mul]
  generalize hxx : (q + 1) * C + (c + 1) = x at *
  generalize hA' : (fun i => A i && decide (i ≠ x)) = A' at *
  generalize hWt : (fun i => !A i) = Wt at *
  have a' : ∀ i, A' i = (A i && decide (i ≠ x)) := fun i => by rw [← hA']
  have wt : ∀ i, Wt i = !A i := fun i => by rw [← hWt]
  obtain ⟨K, hK⟩ : ∃ K : Nat → Nat → Bool, ∀ r s, K r s = (A' (r * C + s) && decide (repF (nearN R C) A' (R * C) (r * C + s) = repF (nearN R C) A' (R * C) ((q + 1) * C + c))) := ⟨_, fun _ _ => rfl⟩
  obtain ⟨D, hD⟩ : ∃ D : Nat → Nat → Bool, ∀ r s, D r s = (!A (r * C + s) && decide (repF (aroundN R C) Wt (R * C) (r * C + s) = repF (aroundN R C) Wt (R * C) (q * C + c))) := ⟨_, fun _ _ => rfl⟩
  have nobord : ∀ r s, r < R → s < C → bordB R C (r * C + s) = true → D r s = false := fun r s hr hs' hb => by
    cases e : D r s with
    | false => rfl
    | true =>
      rw [hD] at e
      simp only [Bool.and_eq_true, Bool.not_eq_true', decide_eq_true_eq] at e
      exact absurd ⟨_, corner_ltN hr hs', e.1, hb, e.2⟩ hno
  have D8 : ∀ r s r' s', r < R → s < C → r' < R → s' < C → AroC r s r' s' → D r s = true → A (r' * C + s') = false → D r' s' = true := fun r s r' s' hr hs1 hr' hs' ad e w' => by
    rw [hD] at e ⊢
    simp only [Bool.and_eq_true, Bool.not_eq_true', decide_eq_true_eq] at e ⊢
    refine ⟨w', ?_⟩
    rw [← e.2]
    exact (rep_eqv aro_lt (.base ⟨corner_ltN hr hs1, (aro_rc hs1 hr' hs').2 ad, by rw [wt, e.1]; rfl, by rw [wt, w']; rfl⟩)).symm
  have Dlater : ∀ r s, r < R → s < C → x < r * C + s → D r s = false := fun r s hr hs' hxl => by
    cases e : D r s with
    | false => rfl
    | true =>
      obtain ⟨j, h1, h2, h3, h4⟩ := later_open (R := R) (C := C) hl hr (C - 1 - s) s (by omega) hxl
      rw [hWt] at h4
      have h5 := rep_eqv aro_lt h4
      rw [hD] at e
      simp only [Bool.and_eq_true, Bool.not_eq_true', decide_eq_true_eq] at e
      exact absurd ⟨j, h1, h2, h3, h5.symm.trans e.2⟩ hno
  have wlater : ∀ i, x < i → A i = false := fun i hi => by
    cases e : A i with
    | false => rfl
    | true => have := hl _ e; omega
  have Kadj : ∀ r s r' s', r < R → s < C → r' < R → s' < C → AdjC r s r' s' → A' (r * C + s) = true → A' (r' * C + s') = true → K r s = K r' s' := fun r s r' s' hr hs1 hr' hs' ad e e' => by
    rw [hK, hK, e, e']
    have := rep_eqv (nb := nearN R C) (act := A') (n := R * C) (fun i hi => nearN_lt hi) (.base ⟨corner_ltN hr hs1, (near_rc hs1 hr' hs').2 ad, e, e'⟩)
    rw [this]
  have cell : ∀ r s, r + 1 < R → s + 1 < C → crB K D r s = (decide (r = q) && decide (s = c)) := fun r s hr hs' => by
    have hrs : (r + 1) * C = r * C + C := by rw [Nat.add_mul, Nat.one_mul]
    by_cases hqc : r = q ∧ s = c
    · obtain ⟨rfl, rfl⟩ := hqc
      have k1 : K r s = false := by rw [hK, a', hw]; rfl
      have d1 : D r s = true := by rw [hD, hw]; simp
      have k2 : K r (s + 1) = false := by
        rw [hK, decide_eq_false (fun e => hd e.symm), Bool.and_false]
      have d2 : D r (s + 1) = false := by rw [hD, hN]; rfl
      have k3 : K (r + 1) s = true := by
        rw [hK, a', hW]
        have : (r + 1) * C + s ≠ x := by omega
        simp [this]
      have d3 : D (r + 1) s = false := by rw [hD, hW]; rfl
      have k4 : K (r + 1) (s + 1) = false := by rw [hK, a', hxx]; simp
      have d4 : D (r + 1) (s + 1) = false := by rw [hD, hxx, hx]; rfl
      simp [crB, crH, crV, k1, k2, k3, k4, d1, d2, d3, d4]
    · have hrhs : (decide (r = q) && decide (s = c)) = false := by
        by_cases e1 : r = q
        · have : ¬ s = c := fun e2 => hqc ⟨e1, e2⟩
          simp [this]
        · simp [e1]
      rw [hrhs]
      by_cases hlat : x < (r + 1) * C + (s + 1)
      · -- a cell behind x lies in the corner: no cell of it is of D
        have hd0 := Dlater (r + 1) (s + 1) hr hs' hlat
        have none : ∀ r' s', r' < R → s' < C → AroC r' s' (r + 1) (s + 1) → D r' s' = false := fun r' s' h1 h2 ad => by
          cases e : D r' s' with
          | false => rfl
          | true =>
            have := D8 r' s' (r + 1) (s + 1) h1 h2 hr hs' ad e (wlater _ hlat)
            rw [hd0] at this; cases this
        have d1 := none r s (by omega) (by omega) (by simp only [AroC]; omega)
        have d2 := none r (s + 1) (by omega) hs' (by simp only [AroC]; omega)
        have d3 := none (r + 1) s hr (by omega) (by simp only [AroC]; omega)
        simp [crB, crH, crV, d1, d2, d3, hd0]
      · have hne : (r + 1) * C + (s + 1) ≠ x := fun e => by
          rw [← hxx] at e
          obtain ⟨e1, e2⟩ := rc_inj hs' hc e
          exact hqc ⟨by omega, by omega⟩
        have aa : ∀ i, i ≤ (r + 1) * C + (s + 1) → A' i = A i := fun i hi => by
          rw [a']
          have : i ≠ x := by omega
          simp [this]
        have kA : ∀ r' s', K r' s' = true → A' (r' * C + s') = true := fun r' s' e => by
          rw [hK] at e
          simp only [Bool.and_eq_true] at e; exact e.1
        -- all water of the corner is of D, or none is
        obtain ⟨t, t1, t2, t3, t4⟩ : ∃ t, D r s = (t && !A (r * C + s)) ∧ D r (s + 1) = (t && !A (r * C + (s + 1))) ∧ D (r + 1) s = (t && !A ((r + 1) * C + s)) ∧ D (r + 1) (s + 1) = (t && !A ((r + 1) * C + (s + 1))) := by
          have dA : ∀ r' s', D r' s' = true → A (r' * C + s') = false := fun r' s' e => by
            rw [hD] at e
            simp only [Bool.and_eq_true, Bool.not_eq_true'] at e; exact e.1
          have imp : ∀ r' s', r' < R → s' < C → D r' s' = true → (r' = r ∨ r' = r + 1) → (s' = s ∨ s' = s + 1) → ∀ r2 s2, (r2 = r ∨ r2 = r + 1) → (s2 = s ∨ s2 = s + 1) → D r2 s2 = (true && !A (r2 * C + s2)) := fun r' s' h1 h2 e h3 h4 r2 s2 h5 h6 => by
            rw [Bool.true_and]
            cases w : A (r2 * C + s2) with
            | true =>
              cases e2 : D r2 s2 with
              | false => rfl
              | true => rw [dA _ _ e2] at w; cases w
            | false =>
              by_cases same : r' = r2 ∧ s' = s2
              · obtain ⟨rfl, rfl⟩ := same; rw [e]; rfl
              · have := D8 r' s' r2 s2 h1 h2 (by omega) (by omega) (by simp only [AroC]; omega) e w
                rw [this]; rfl
          by_cases e1 : D r s = true
          · exact ⟨true, imp r s (by omega) (by omega) e1 (.inl rfl) (.inl rfl) r s (.inl rfl) (.inl rfl), imp r s (by omega) (by omega) e1 (.inl rfl) (.inl rfl) r (s + 1) (.inl rfl) (.inr rfl), imp r s (by omega) (by omega) e1 (.inl rfl) (.inl rfl) (r + 1) s (.inr rfl) (.inl rfl), imp r s (by omega) (by omega) e1 (.inl rfl) (.inl rfl) (r + 1) (s + 1) (.inr rfl) (.inr rfl)⟩
          · by_cases e2 : D r (s + 1) = true
            · exact ⟨true, imp r (s + 1) (by omega) (by omega) e2 (.inl rfl) (.inr rfl) r s (.inl rfl) (.inl rfl), imp r (s + 1) (by omega) (by omega) e2 (.inl rfl) (.inr rfl) r (s + 1) (.inl rfl) (.inr rfl), imp r (s + 1) (by omega) (by omega) e2 (.inl rfl) (.inr rfl) (r + 1) s (.inr rfl) (.inl rfl), imp r (s + 1) (by omega) (by omega) e2 (.inl rfl) (.inr rfl) (r + 1) (s + 1) (.inr rfl) (.inr rfl)⟩
            · by_cases e3 : D (r + 1) s = true
              · exact ⟨true, imp (r + 1) s (by omega) (by omega) e3 (.inr rfl) (.inl rfl) r s (.inl rfl) (.inl rfl), imp (r + 1) s (by omega) (by omega) e3 (.inr rfl) (.inl rfl) r (s + 1) (.inl rfl) (.inr rfl), imp (r + 1) s (by omega) (by omega) e3 (.inr rfl) (.inl rfl) (r + 1) s (.inr rfl) (.inl rfl), imp (r + 1) s (by omega) (by omega) e3 (.inr rfl) (.inl rfl) (r + 1) (s + 1) (.inr rfl) (.inr rfl)⟩
              · by_cases e4 : D (r + 1) (s + 1) = true
                · exact ⟨true, imp (r + 1) (s + 1) (by omega) (by omega) e4 (.inr rfl) (.inr rfl) r s (.inl rfl) (.inl rfl), imp (r + 1) (s + 1) (by omega) (by omega) e4 (.inr rfl) (.inr rfl) r (s + 1) (.inl rfl) (.inr rfl), imp (r + 1) (s + 1) (by omega) (by omega) e4 (.inr rfl) (.inr rfl) (r + 1) s (.inr rfl) (.inl rfl), imp (r + 1) (s + 1) (by omega) (by omega) e4 (.inr rfl) (.inr rfl) (r + 1) (s + 1) (.inr rfl) (.inr rfl)⟩
                · exact ⟨false, by simpa using e1, by simpa using e2, by simpa using e3, by simpa using e4⟩
        have ce := corner_even (A (r * C + s)) (A (r * C + (s + 1))) (A ((r + 1) * C + s)) (A ((r + 1) * C + (s + 1))) (K r s) (K r (s + 1)) (K (r + 1) s) (K (r + 1) (s + 1)) t
          (fun e => by rw [← aa _ (by omega)]; exact kA _ _ e) (fun e => by rw [← aa _ (by omega)]; exact kA _ _ e) (fun e => by rw [← aa _ (by omega)]; exact kA _ _ e) (fun e => by rw [← aa _ (by omega)]; exact kA _ _ e)
          (fun e1 e2 => Kadj r s r (s + 1) (by omega) (by omega) (by omega) hs' (.inl ⟨rfl, .inl rfl⟩) (by rw [aa _ (by omega)]; exact e1) (by rw [aa _ (by omega)]; exact e2))
          (fun e1 e2 => Kadj r s (r + 1) s (by omega) (by omega) hr (by omega) (.inr ⟨rfl, .inl rfl⟩) (by rw [aa _ (by omega)]; exact e1) (by rw [aa _ (by omega)]; exact e2))
          (fun e1 e2 => Kadj r (s + 1) (r + 1) (s + 1) (by omega) hs' hr hs' (.inr ⟨rfl, .inl rfl⟩) (by rw [aa _ (by omega)]; exact e1) (by rw [aa _ (by omega)]; exact e2))
          (fun e1 e2 => Kadj (r + 1) s (r + 1) (s + 1) hr (by omega) hr hs' (.inl ⟨rfl, .inl rfl⟩) (by rw [aa _ (by omega)]; exact e1) (by rw [aa _ (by omega)]; exact e2))
        simp only [crB, crH, crV, t1, t2, t3, t4]
        exact ce
  have even := cracks_even (R := R) (C := C) (K := K) (D := D) (by omega) (by omega) (fun s hs' => nobord 0 s (by omega) hs' (by rw [bord_rc hs']; simp)) (fun s hs' => nobord (R - 1) s (by omega) hs' (by rw [bord_rc hs']; simp; omega))
    (fun r hr => nobord r 0 hr (by omega) (by rw [bord_rc (by omega)]; simp)) (fun r hr => nobord r (C - 1) hr (by omega) (by rw [bord_rc (by omega)]; simp; omega))
  rw [X_congr (g := fun r => decide (r = q) && true) (R - 1) (fun r hr => by
    rw [X_congr (g := fun s => decide (s = c) && decide (r = q)) (C - 1) (fun s hs' => by rw [cell r s (by omega) (by omega), Bool.and_comm]), X_one (by omega), Bool.and_true]), X_one (by omega)] at even
  cases even
end
end Go.SW
