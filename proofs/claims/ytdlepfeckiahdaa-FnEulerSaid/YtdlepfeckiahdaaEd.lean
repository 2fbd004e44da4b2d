/- Maths of Euler's law: lakes when a cell is added. -/
import Derived.Test.YtdlepfeckiahdaaEc
set_option linter.all false
namespace Go.SW
section
variable {R C : Nat}
/-- A cell from which on there is no land reaches the border. -/
theorem open_from {A : Nat → Bool} {q : Nat} (hq : q < R) : ∀ m c, c + m + 1 = C → (∀ i, q * C + c ≤ i → A i = false) → ∃ j, j < R * C ∧ bordB R C j = true ∧ EqvC (Edg (aroundN R C) (fun i => !A i) (R * C)) (q * C + c) j
  | 0, c, hc, hl => ⟨q * C + c, corner_ltN hq (by omega), by rw [bord_rc (by omega)]; simp; omega, .refl _⟩
  | m + 1, c, hc, hl => by
    obtain ⟨j, h1, h3, h4⟩ := open_from hq m (c + 1) (by omega) (fun i hi => hl i (by omega))
    refine ⟨j, h1, h3, .trans (.base ⟨corner_ltN hq (by omega), ?_, by simp [hl (q * C + c) (by omega)], by simp [hl (q * C + (c + 1)) (by omega)]⟩) h4⟩
    exact (aro_rc (by omega) hq (by omega)).2 (by simp only [AroC]; omega)
theorem lake_iff {act : Nat → Bool} {r : Nat} : lakeP R C act r ↔ act r = true ∧ repF (aroundN R C) act (R * C) r = r ∧ ∀ i, i < R * C → bordB R C i = true → repF (aroundN R C) act (R * C) i ≠ r := by
  simp only [lakeP, rootB]
  rw [op_false]
  exact ⟨fun ⟨⟨a, b⟩, c⟩ => ⟨a, b, c⟩, fun ⟨a, b, c⟩ => ⟨⟨a, b⟩, c⟩⟩
variable {A A' : Nat → Bool} {q c : Nat}
/-- Every water cell around x but that in the north-west, with land in the west and in the north, reaches the border. -/
theorem nbr_open (hq : q < R) (hc : c < C) (hl : ∀ i, A i = true → i ≤ q * C + c) {q' c' : Nat} (hq' : q' < R) (hc' : c' < C) (ad : AroC q c q' c') (hw : A (q' * C + c') = false)
    (hs : ¬ (q' + 1 = q ∧ c' + 1 = c ∧ A (q * C + (c - 1)) = true ∧ A ((q - 1) * C + c) = true)) : ∃ j, j < R * C ∧ bordB R C j = true ∧ EqvC (Edg (aroundN R C) (fun i => !A i) (R * C)) (q' * C + c') j := by
  have step : ∀ r s r2 s2, r < R → s < C → r2 < R → s2 < C → AroC r s r2 s2 → A (r * C + s) = false → A (r2 * C + s2) = false → EqvC (Edg (aroundN R C) (fun i => !A i) (R * C)) (r * C + s) (r2 * C + s2) := fun r s r2 s2 h1 h2 h3 h4 h5 h6 h7 =>
    .base ⟨corner_ltN h1 h2, (aro_rc h2 h3 h4).2 h5, by simp [h6], by simp [h7]⟩
  have later : ∀ r s, r < R → s < C → q * C + c < r * C + s → ∃ j, j < R * C ∧ bordB R C j = true ∧ EqvC (Edg (aroundN R C) (fun i => !A i) (R * C)) (r * C + s) j := fun r s hr hs' hlt => open_from hr (C - 1 - s) s (by omega) fun i hi => by
    cases e : A i with
    | false => rfl
    | true => have := hl i e; omega
  have wl : ∀ i, q * C + c < i → A i = false := fun i hi => by
    cases e : A i with
    | false => rfl
    | true => have := hl i e; omega
  have hrow : ∀ m, (m + 1) * C = m * C + C := fun m => by rw [Nat.add_mul, Nat.one_mul]
  -- west
  have west : ∀ s, s + 1 = c → A (q * C + s) = false → ∃ j, j < R * C ∧ bordB R C j = true ∧ EqvC (Edg (aroundN R C) (fun i => !A i) (R * C)) (q * C + s) j := fun s hs' hw => by
    by_cases hb : q + 1 = R
    · exact ⟨q * C + s, corner_ltN hq (by omega), by rw [bord_rc (by omega)]; simp; omega, .refl _⟩
    · have h1 := hrow q
      obtain ⟨j, a, b, d⟩ := later (q + 1) c (by omega) hc (by omega)
      exact ⟨j, a, b, .trans (step q s (q + 1) c hq (by omega) (by omega) hc (by simp only [AroC]; omega) hw (wl _ (by omega))) d⟩
  have north : ∀ r s, r + 1 = q → (s = c ∨ s = c + 1) → s < C → A (r * C + s) = false → ∃ j, j < R * C ∧ bordB R C j = true ∧ EqvC (Edg (aroundN R C) (fun i => !A i) (R * C)) (r * C + s) j := fun r s hr hs' hsC hw => by
    by_cases hb : c + 1 = C
    · exact ⟨r * C + s, corner_ltN (by omega) hsC, by rw [bord_rc hsC]; simp; omega, .refl _⟩
    · obtain ⟨j, a, b, d⟩ := later q (c + 1) hq (by omega) (by omega)
      exact ⟨j, a, b, .trans (step r s q (c + 1) (by omega) hsC hq (by omega) (by simp only [AroC]; omega) hw (wl _ (by omega))) d⟩
  obtain ⟨a1, a2, a3, a4, a5⟩ := ad
  rcases (by omega : q' = q + 1 ∨ q' = q ∨ q' + 1 = q) with e | e | e
  · subst e
    have h1 := hrow q
    exact later (q + 1) c' hq' hc' (by omega)
  · subst e
    rcases (by omega : c' + 1 = c ∨ c' = c + 1) with e2 | e2
    · exact west c' e2 hw
    · exact later q' c' hq' hc' (by omega)
  · rcases (by omega : c' + 1 = c ∨ c' = c ∨ c' = c + 1) with e2 | e2 | e2
    · have hqq : q - 1 = q' := by omega
      have hcc : c - 1 = c' := by omega
      rw [hqq, hcc] at hs
      by_cases hW : A (q * C + c') = true
      · have hN : A (q' * C + c) = false := by
          cases e3 : A (q' * C + c) with
          | false => rfl
          | true => exact absurd ⟨e, e2, hW, e3⟩ hs
        obtain ⟨j, a, b, d⟩ := north q' c e (.inl rfl) hc hN
        exact ⟨j, a, b, .trans (step q' c' q' c hq' hc' hq' hc (by simp only [AroC]; omega) hw hN) d⟩
      · have hW' : A (q * C + c') = false := by simpa using hW
        obtain ⟨j, a, b, d⟩ := west c' e2 hW'
        exact ⟨j, a, b, .trans (step q' c' q c' hq' hc' hq hc' (by simp only [AroC]; omega) hw hW') d⟩
    · exact north q' c' e (.inl e2) hc' hw
    · exact north q' c' e (.inr e2) hc' hw
/-- The lakes: one more, if the cell in the north-west is enclosed now. -/
theorem lake_step (hq : q < R) (hc : c < C) (hA : A (q * C + c) = true) (hl : ∀ i, A i = true → i ≤ q * C + c) (hA' : ∀ i, A' i = (A i && decide (i ≠ q * C + c))) :
    lakeN R C (fun i => !A i) = lakeN R C (fun i => !A' i) + (if (1 ≤ q ∧ 1 ≤ c ∧ A (q * C + (c - 1)) = true ∧ A ((q - 1) * C + c) = true ∧ A ((q - 1) * C + (c - 1)) = false) ∧ repF (nearN R C) A' (R * C) (q * C + (c - 1)) = repF (nearN R C) A' (R * C) ((q - 1) * C + c) then 1 else 0) := by
  have hx := corner_ltN hq hc
  have sub : ∀ i, A' i = true → A i = true ∧ i ≠ q * C + c := fun i e => by rw [hA'] at e; simpa using e
  generalize hxx : q * C + c = x at *
  have a'x : A' x = false := by rw [hA']; simp
  obtain ⟨w, hw⟩ : ∃ w : Nat → Bool, w = fun i => !A i := ⟨_, rfl⟩
  obtain ⟨w', hw'⟩ : ∃ w' : Nat → Bool, w' = fun i => !A' i := ⟨_, rfl⟩
  rw [← hw, ← hw']
  have wi : ∀ i, w i = !A i := fun i => by rw [hw]
  have wi' : ∀ i, w' i = !A' i := fun i => by rw [hw']
  have wx : w x = false := by rw [wi, hA]; rfl
  have wx' : w' x = true := by rw [wi', a'x]; rfl
  have ww' : ∀ i, w i = true → w' i = true := fun i e => by
    rw [wi] at e; rw [wi']
    cases e2 : A' i with
    | false => rfl
    | true => rw [(sub i e2).1] at e; cases e
  have w'w : ∀ i, w' i = true → i ≠ x → w i = true := fun i e h => by
    rw [wi', hA'] at e
    rw [wi]
    cases e2 : A i with
    | false => rfl
    | true => rw [e2] at e; simp [h] at e
  have up : ∀ {i j}, EqvC (Edg (aroundN R C) w (R * C)) i j → EqvC (Edg (aroundN R C) w' (R * C)) i j := fun e => e.mono fun i j ed => ⟨ed.1, ed.2.1, ww' _ ed.2.2.1, ww' _ ed.2.2.2⟩
  have u := rep_ok (nb := aroundN R C) (act := w) (n := R * C) aro_lt
  have u' := rep_ok (nb := aroundN R C) (act := w') (n := R * C) aro_lt
  have act : ∀ {i j}, EqvC (Edg (aroundN R C) w (R * C)) i j → (w i = true ↔ w j = true) := fun e => EqvC.closed (p := fun i => w i = true) (fun i j ed => ⟨fun _ => ed.2.2.2, fun _ => ed.2.2.1⟩) e
  have rep' : ∀ {i j}, EqvC (Edg (aroundN R C) w' (R * C)) i j → repF (aroundN R C) w' (R * C) i = repF (aroundN R C) w' (R * C) j := fun e => rep_eqv aro_lt e
  have rep : ∀ {i j}, EqvC (Edg (aroundN R C) w (R * C)) i j → repF (aroundN R C) w (R * C) i = repF (aroundN R C) w (R * C) j := fun e => rep_eqv aro_lt e
  -- x reached the border
  obtain ⟨xb, xb1, xb2, xb3⟩ := open_from (A := A') (R := R) (C := C) hq (C - 1 - c) c (by omega) (fun i hi => by
    cases e : A' i with
    | false => rfl
    | true => have := sub i e; have := hl i this.1; omega)
  rw [hxx, ← hw'] at xb3
  have notx : ∀ r, lakeP R C w' r → ∀ y, EqvC (Edg (aroundN R C) w' (R * C)) y x → repF (aroundN R C) w' (R * C) y ≠ r := fun r hr y hy e => by
    obtain ⟨_, _, h3⟩ := lake_iff.1 hr
    exact h3 xb xb1 xb2 (by rw [← rep' xb3, ← rep' hy]; exact e)
  -- a lake remains
  have keep : ∀ r, r < R * C → lakeP R C w' r → lakeP R C w r := fun r hr hL => by
    obtain ⟨h1, h2, h3⟩ := lake_iff.1 hL
    have hrx : r ≠ x := fun e => notx r hL x (.refl x) (by rw [← e]; exact h2)
    have hwr := w'w r h1 hrx
    have down : ∀ y, EqvC (Edg (aroundN R C) w' (R * C)) r y → EqvC (Edg (aroundN R C) w (R * C)) r y := fun y e => by
      refine (EqvC.closed (p := fun y => EqvC (Edg (aroundN R C) w (R * C)) r y) (fun i j ed => ?_) e).1 (.refl r)
      by_cases ei : i = x
      · subst ei
        exact ⟨(fun h => by have := (act h).1 hwr; rw [wx] at this; cases this), fun h => absurd ((rep' (up h)).symm.trans h2) (notx r hL j (.symm (.base ed)))⟩
      · by_cases ej : j = x
        · subst ej
          exact ⟨fun h => absurd ((rep' (up h)).symm.trans h2) (notx r hL i (.base ed)), (fun h => by have := (act h).1 hwr; rw [wx] at this; cases this)⟩
        · have ed' : Edg (aroundN R C) w (R * C) i j := ⟨ed.1, ed.2.1, w'w _ ed.2.2.1 ei, w'w _ ed.2.2.2 ej⟩
          exact ⟨fun h => .trans h (.base ed'), fun h => .trans h (.symm (.base ed'))⟩
    have hle := u.le r hr
    have e1 := u.snd _ r (by omega) hr (u.idem r hr)
    have e2 := rep' (up e1)
    have hle2 := u'.le (repF (aroundN R C) w (R * C) r) (by omega)
    refine lake_iff.2 ⟨hwr, by rw [h2] at e2; omega, fun i hi hb e => ?_⟩
    have e3 := u.snd i r hi hr (by rw [e]; exact (by rw [h2] at e2; omega))
    exact h3 i hi hb ((rep' (up e3)).trans h2)
  -- a lake that is new
  have fresh : ∀ r, r < R * C → lakeP R C w r → ¬ lakeP R C w' r → (1 ≤ q ∧ 1 ≤ c ∧ A (q * C + (c - 1)) = true ∧ A ((q - 1) * C + c) = true ∧ A ((q - 1) * C + (c - 1)) = false) ∧ EqvC (Edg (aroundN R C) w (R * C)) ((q - 1) * C + (c - 1)) r := fun r hr hL hN => by
    obtain ⟨h1, h2, h3⟩ := lake_iff.1 hL
    rcases Classical.em (∃ q' c', q' < R ∧ c' < C ∧ AroC q c q' c' ∧ w (q' * C + c') = true ∧ EqvC (Edg (aroundN R C) w (R * C)) (q' * C + c') r) with ⟨q', c', hq', hc', ad, hwy, ey⟩ | hno
    · have hay : A (q' * C + c') = false := by rw [wi] at hwy; simpa using hwy
      by_cases hs : q' + 1 = q ∧ c' + 1 = c ∧ A (q * C + (c - 1)) = true ∧ A ((q - 1) * C + c) = true
      · obtain ⟨s1, s2, s3, s4⟩ := hs
        have e1 : q - 1 = q' := by omega
        have e2 : c - 1 = c' := by omega
        exact ⟨⟨by omega, by omega, s3, s4, by rw [e1, e2]; exact hay⟩, by rw [e1, e2]; exact ey⟩
      · obtain ⟨j, j1, j2, j3⟩ := nbr_open hq hc (by rw [hxx]; exact hl) hq' hc' ad hay hs
        rw [← hw] at j3
        exact absurd ((rep (.trans (.symm j3) ey)).trans h2) (h3 j j1 j2)
    · exfalso
      refine hN ?_
      have nx : ∀ y, EqvC (Edg (aroundN R C) w (R * C)) r y → ∀ i j, Edg (aroundN R C) w' (R * C) i j → (i = x → j ≠ y) ∧ (j = x → i ≠ y) := fun y e i j ed => by
        have hj := aro_lt i ed.1 j ed.2.1
        constructor
        · rintro rfl rfl
          obtain ⟨q', c', hq', hc', rfl⟩ := rc_ex hj
          have ad := ed.2.1
          rw [← hxx] at ad
          exact hno ⟨q', c', hq', hc', (aro_rc hc hq' hc').1 ad, (act e).1 h1, .symm e⟩
        · rintro rfl rfl
          have ad := aro_sym ed.1 hj ed.2.1
          obtain ⟨q', c', hq', hc', rfl⟩ := rc_ex ed.1
          rw [← hxx] at ad
          exact hno ⟨q', c', hq', hc', (aro_rc hc hq' hc').1 ad, (act e).1 h1, .symm e⟩
      have down : ∀ y, EqvC (Edg (aroundN R C) w' (R * C)) r y → EqvC (Edg (aroundN R C) w (R * C)) r y := fun y e => by
        refine (EqvC.closed (p := fun y => EqvC (Edg (aroundN R C) w (R * C)) r y) (fun i j ed => ?_) e).1 (.refl r)
        by_cases ei : i = x
        · exact ⟨(fun h => by have := (act h).1 h1; rw [ei, wx] at this; cases this), fun h => absurd rfl ((nx j h i j ed).1 ei)⟩
        · by_cases ej : j = x
          · exact ⟨fun h => absurd rfl ((nx i h i j ed).2 ej), (fun h => by have := (act h).1 h1; rw [ej, wx] at this; cases this)⟩
          · have ed' : Edg (aroundN R C) w (R * C) i j := ⟨ed.1, ed.2.1, w'w _ ed.2.2.1 ei, w'w _ ed.2.2.2 ej⟩
            exact ⟨fun h => .trans h (.base ed'), fun h => .trans h (.symm (.base ed'))⟩
      have hle := u'.le r hr
      have e1 := u'.snd _ r (by omega) hr (u'.idem r hr)
      have e2 := rep (down _ (.symm e1))
      have hle2 := u.le (repF (aroundN R C) w' (R * C) r) (by omega)
      have hr' : repF (aroundN R C) w' (R * C) r = r := by rw [h2] at e2; omega
      refine lake_iff.2 ⟨ww' r h1, hr', fun i hi hb e => ?_⟩
      have e3 := u'.snd i r hi hr (by rw [e, hr'])
      exact h3 i hi hb ((rep (down _ (.symm e3))).symm.trans h2)
  by_cases hsp : 1 ≤ q ∧ 1 ≤ c ∧ A (q * C + (c - 1)) = true ∧ A ((q - 1) * C + c) = true ∧ A ((q - 1) * C + (c - 1)) = false
  · obtain ⟨q0, c0, hW, hN, hNW⟩ := hsp
    obtain ⟨q, rfl⟩ : ∃ p, q = p + 1 := ⟨q - 1, by omega⟩
    obtain ⟨c, rfl⟩ : ∃ p, c = p + 1 := ⟨c - 1, by omega⟩
    simp only [Nat.add_sub_cancel] at *
    have hyn := corner_ltN (show q < R by omega) (show c < C by omega)
    have wy : w (q * C + c) = true := by rw [wi, hNW]; rfl
    have hA'f : A' = fun i => A i && decide (i ≠ (q + 1) * C + (c + 1)) := by funext i; rw [hA', hxx]
    -- it lay open before
    have hyx : EqvC (Edg (aroundN R C) w' (R * C)) (q * C + c) x := .base ⟨hyn, by rw [← hxx]; exact (aro_rc (by omega) hq hc).2 (by simp only [AroC]; omega), ww' _ wy, wx'⟩
    by_cases hcon : repF (nearN R C) A' (R * C) ((q + 1) * C + c) = repF (nearN R C) A' (R * C) (q * C + (c + 1))
    · rw [if_pos ⟨⟨q0, c0, hW, hN, hNW⟩, hcon⟩]
      have v := rep_ok (nb := nearN R C) (act := A') (n := R * C) (fun i hi => nearN_lt hi)
      have econ := v.snd _ _ (corner_ltN hq (by omega)) (corner_ltN (by omega) hc) hcon
      have hL : lakeP R C w (repF (aroundN R C) w (R * C) (q * C + c)) := by
        have hra := rep_act (nb := aroundN R C) (act := w) aro_lt hyn
        refine lake_iff.2 ⟨by rw [hra]; exact wy, u.idem _ hyn, fun i hi hb e => ?_⟩
        have e1 := u.snd i _ hi hyn e
        have hwi : A i = false := by
          have := (act e1).2 wy
          rw [wi] at this; simpa using this
        rw [hA'f] at econ
        have := encl_nw hq hc (by rw [hxx]; exact hA) (by rw [hxx]; exact hl) hN hW hNW econ (j := i) (by rw [← hw]; exact .symm e1) hi hwi
        rw [hb] at this; cases this
      have h1 := cntp_split (lakeP R C w') (fun r => r = repF (aroundN R C) w (R * C) (q * C + c)) (lakeP R C w) (R * C) fun r hr => by
        constructor
        · constructor
          · intro h
            rcases Classical.em (lakeP R C w' r) with h2 | h2
            · exact .inl h2
            · obtain ⟨_, e⟩ := fresh r hr h h2
              right
              rw [rep e]; exact (lake_iff.1 h).2.1.symm
          · rintro (h | h)
            · exact keep r hr h
            · subst h; exact hL
        · rintro ⟨h, e⟩
          have hle := u.le _ hyn
          have e1 := u.snd _ _ (by omega) hyn (u.idem _ hyn)
          have e2 : EqvC (Edg (aroundN R C) w' (R * C)) r x := by rw [e]; exact .trans (up e1) hyx
          exact notx r h r e2 (lake_iff.1 h).2.1
      have hle := u.le _ hyn
      simp only [lakeN]
      rw [h1, cntp_one (fun r => r = repF (aroundN R C) w (R * C) (q * C + c)) (show repF (aroundN R C) w (R * C) (q * C + c) < R * C by omega) rfl (fun i _ h => h)]
    · rw [if_neg (fun h => hcon h.2), Nat.add_zero]
      refine cntp_congr fun r hr => ⟨fun h => ?_, keep r hr⟩
      rcases Classical.em (lakeP R C w' r) with h2 | h2
      · exact h2
      · exfalso
        obtain ⟨_, e⟩ := fresh r hr h h2
        rw [hA'f] at hcon
        obtain ⟨j, j1, j2, j3, j4⟩ := not_encl hq hc (by rw [hxx]; exact hA) (by rw [hxx]; exact hl) hN hW hNW hcon
        rw [← hw] at j4
        obtain ⟨_, h3, h5⟩ := lake_iff.1 h
        exact h5 j j1 j3 (by rw [j4, rep e]; exact h3)
  · rw [if_neg (fun h => hsp h.1), Nat.add_zero]
    refine cntp_congr fun r hr => ⟨fun h => ?_, keep r hr⟩
    rcases Classical.em (lakeP R C w' r) with h2 | h2
    · exact h2
    · exact absurd (fresh r hr h h2).1 hsp
end
end Go.SW
