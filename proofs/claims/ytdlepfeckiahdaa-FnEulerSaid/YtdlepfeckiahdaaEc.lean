/- Maths of Euler's law: regions when a cell is added. -/
import Derived.Test.YtdlepfeckiahdaaEb
import Derived.Test.YtdlepfeckiahdaaM7
set_option linter.all false
namespace Go.SW
theorem EqvC.lift {E E' : Nat → Nat → Prop} (h1 : ∀ i j, E i j → EqvC E' i j) {x y : Nat} (h : EqvC E x y) : EqvC E' x y := by
  induction h with
  | refl i => exact .refl i
  | base e => exact h1 _ _ e
  | symm _ ih => exact .symm ih
  | trans _ _ ih1 ih2 => exact .trans ih1 ih2
theorem UF.eqv {n : Nat} {E E' : Nat → Nat → Prop} {ρ : Nat → Nat} (u : UF n E ρ) (h1 : ∀ i j, E i j → EqvC E' i j) (h2 : ∀ i j, E' i j → EqvC E i j) (hn : ∀ i j, E i j → i < n ∧ j < n) : UF n E' ρ := by
  refine ⟨u.le, u.idem, fun i j hi hj e => (u.snd i j hi hj e).lift h1, fun i j hi hj e => ?_⟩
  exact (EqvC.closed (p := fun x => ρ x = ρ j) (fun a b e => by
    obtain ⟨ha, hb⟩ := hn a b e
    rw [u.cmp a b ha hb e]) (h2 i j e)).2 rfl
theorem UF.uniq {n : Nat} {E : Nat → Nat → Prop} {ρ σ : Nat → Nat} (u : UF n E ρ) (v : UF n E σ) (hn : ∀ i j, E i j → i < n ∧ j < n) {i : Nat} (hi : i < n) : ρ i = σ i := by
  have key : ∀ {ρ σ : Nat → Nat}, UF n E ρ → UF n E σ → σ i ≤ ρ i := fun {ρ σ} u v => by
    have hl := u.le i hi
    have e := u.snd (ρ i) i (by omega) hi (u.idem i hi)
    have h1 := (EqvC.closed (p := fun x => σ x = σ i) (fun a b e => by
      obtain ⟨ha, hb⟩ := hn a b e
      rw [v.cmp a b ha hb e]) e).2 rfl
    have h2 := v.le (ρ i) (by omega)
    omega
  have h1 := key u v
  have h2 := key v u
  omega
theorem edg_lt {n : Nat} {nb : Nat → List Nat} {act : Nat → Bool} (hnb : ∀ i, i < n → ∀ j ∈ nb i, j < n) : ∀ i j, Edg nb act n i j → i < n ∧ j < n := fun i j e => ⟨e.1, hnb i e.1 j e.2.1⟩
/-- A join takes one root away, if it joins. -/
theorem join_cnt {n : Nat} {E : Nat → Nat → Prop} {ρ : Nat → Nat} (u : UF n E ρ) {a b : Nat} (ha : a < n) (hb : b < n) (A : Nat → Bool) (hA : A (ρ a) = true) (hB : A (ρ b) = true) :
    cntp (fun i => A i = true ∧ ρ i = i) n = cntp (fun i => A i = true ∧ joinF ρ a b i = i) n + if ρ a = ρ b then 0 else 1 := by
  have ia := u.idem a ha
  have ib := u.idem b hb
  have la := u.le a ha
  have lb := u.le b hb
  by_cases e : ρ a = ρ b
  · rw [if_pos e, Nat.add_zero]
    refine cntp_congr fun i hi => ?_
    simp only [joinF, e, Nat.lt_irrefl, if_false]
    by_cases h1 : ρ i = ρ b
    · rw [if_pos h1, h1]
    · rw [if_neg h1]
  · rw [if_neg e]
    obtain ⟨m, hm, hmn, hmA, hj⟩ : ∃ m, ρ m = m ∧ m < n ∧ A m = true ∧ ∀ i, i < n → (joinF ρ a b i = i ↔ ρ i = i ∧ i ≠ m) := by
      by_cases hlt : ρ a < ρ b
      · refine ⟨ρ b, ib, by omega, hB, fun i hi => ?_⟩
        simp only [joinF, if_pos hlt]
        by_cases h1 : ρ i = ρ b
        · rw [if_pos h1]
          constructor
          · intro h2; rw [← h2, ia] at h1; omega
          · rintro ⟨h2, h3⟩; omega
        · rw [if_neg h1]
          constructor
          · intro h2; exact ⟨h2, fun h3 => h1 (by rw [h3, ib])⟩
          · rintro ⟨h2, _⟩; exact h2
      · refine ⟨ρ a, ia, by omega, hA, fun i hi => ?_⟩
        simp only [joinF, if_neg hlt]
        by_cases h1 : ρ i = ρ a
        · rw [if_pos h1]
          constructor
          · intro h2; rw [← h2, ib] at h1; omega
          · rintro ⟨h2, h3⟩; omega
        · rw [if_neg h1]
          constructor
          · intro h2; exact ⟨h2, fun h3 => h1 (by rw [h3, ia])⟩
          · rintro ⟨h2, _⟩; exact h2
    have h1 := cntp_split (fun i => A i = true ∧ joinF ρ a b i = i) (fun i => i = m) (fun i => A i = true ∧ ρ i = i) n fun i hi => by
      constructor
      · constructor
        · rintro ⟨h1, h2⟩
          by_cases h3 : i = m
          · exact .inr h3
          · exact .inl ⟨h1, (hj i hi).2 ⟨h2, h3⟩⟩
        · rintro (⟨h1, h2⟩ | h1)
          · exact ⟨h1, ((hj i hi).1 h2).1⟩
          · subst h1; exact ⟨hmA, hm⟩
      · rintro ⟨⟨_, h2⟩, h3⟩
        exact ((hj i hi).1 h2).2 h3
    rw [h1, cntp_one (fun i => i = m) hmn rfl (fun i _ h => h)]
section
variable {R C : Nat} {A : Nat → Bool} {x : Nat}
/-- x is land, none behind it is; A' is without x. -/
theorem reg_step (hx : x < R * C) (hA : A x = true) (hl : ∀ i, A i = true → i ≤ x) {A' : Nat → Bool} (hA' : ∀ i, A' i = (A i && decide (i ≠ x))) :
    compN (nearN R C) A (R * C) + (if 0 < x % C ∧ A (x - 1) = true then 1 else 0) + (if C ≤ x ∧ A (x - C) = true then 1 else 0) =
      compN (nearN R C) A' (R * C) + 1 + (if (0 < x % C ∧ A (x - 1) = true) ∧ (C ≤ x ∧ A (x - C) = true) ∧ repF (nearN R C) A' (R * C) (x - 1) = repF (nearN R C) A' (R * C) (x - C) then 1 else 0) := by
  have hC : 0 < C := Nat.pos_of_ne_zero fun e => by subst e; simp at hx
  have hlt : ∀ i, i < R * C → ∀ j ∈ nearN R C i, j < R * C := fun i hi => nearN_lt hi
  have u' := rep_ok (nb := nearN R C) (act := A') hlt
  have u := rep_ok (nb := nearN R C) (act := A) hlt
  have sub : ∀ i, A' i = true → A i = true ∧ i ≠ x := fun i e => by rw [hA'] at e; simpa using e
  have a'x : A' x = false := by rw [hA']; simp
  have inA' : ∀ i, A i = true → i ≠ x → A' i = true := fun i h1 h2 => by rw [hA', h1]; simp [h2]
  generalize hρ' : repF (nearN R C) A' (R * C) = ρ' at *
  have hρx : ρ' x = x := by
    have e := u'.snd (ρ' x) x (by have := u'.le x hx; omega) hx (u'.idem x hx)
    have := (EqvC.closed (p := fun y => y = x) (fun i j ed => ⟨(fun h => by rw [h] at ed; have := ed.2.2.1; rw [a'x] at this; cases this), (fun h => by rw [h] at ed; have := ed.2.2.2; rw [a'x] at this; cases this)⟩) e).2 rfl
    exact this
  have hρA : ∀ i, i < R * C → i ≠ x → A i = true → A (ρ' i) = true := fun i hi h1 h2 => by
    have := rep_act (nb := nearN R C) (act := A') hlt hi
    rw [hρ', inA' i h2 h1] at this
    exact (sub _ this).1
  -- x alone
  have c0 : cntp (fun i => A i = true ∧ ρ' i = i) (R * C) = compN (nearN R C) A' (R * C) + 1 := by
    have h1 := cntp_split (rootB (nearN R C) A' (R * C)) (fun i => i = x) (fun i => A i = true ∧ ρ' i = i) (R * C) fun i hi => by
      simp only [rootB, hρ']
      constructor
      · constructor
        · rintro ⟨h1, h2⟩
          by_cases e : i = x
          · exact .inr e
          · exact .inl ⟨inA' i h1 e, h2⟩
        · rintro (⟨h1, h2⟩ | h1)
          · exact ⟨(sub i h1).1, h2⟩
          · subst h1; exact ⟨hA, hρx⟩
      · rintro ⟨⟨h1, _⟩, h2⟩; exact (sub i h1).2 h2
    rw [h1, cntp_one (fun i => i = x) hx rfl (fun i _ h => h), compN]
  -- neighbours of x that are land
  have nbx : ∀ j ∈ nearN R C x, A j = true → (0 < x % C ∧ j = x - 1) ∨ (C ≤ x ∧ j = x - C) := fun j hj ha => by
    have hlj := hl j ha
    rcases nearN_mem.1 hj with ⟨h1, h2⟩ | ⟨h1, h2⟩ | ⟨h1, h2⟩ | ⟨h1, h2⟩
    · exact .inr ⟨h1, h2⟩
    · omega
    · omega
    · exact .inl ⟨h1, h2⟩
  have hxm : 0 < x % C → 0 < x := fun h => by rcases Nat.eq_zero_or_pos x with e | e; subst e; simp at h; exact e
  have wIn : 0 < x % C → x - 1 ∈ nearN R C x := fun h => nearN_mem.2 (.inr (.inr (.inr ⟨h, rfl⟩)))
  have nIn : C ≤ x → x - C ∈ nearN R C x := fun h => nearN_mem.2 (.inl ⟨h, rfl⟩)
  -- join west
  obtain ⟨E1, ρ1, u1, sub1, sup1, lt1, c1, r1x, r1⟩ : ∃ (E1 : Nat → Nat → Prop) (ρ1 : Nat → Nat), UF (R * C) E1 ρ1 ∧ (∀ i j, E1 i j → Edg (nearN R C) A (R * C) i j) ∧ ((∀ i j, Edg (nearN R C) A' (R * C) i j → E1 i j) ∧ (0 < x % C ∧ A (x - 1) = true → E1 x (x - 1))) ∧ True ∧
      cntp (fun i => A i = true ∧ ρ' i = i) (R * C) = cntp (fun i => A i = true ∧ ρ1 i = i) (R * C) + (if 0 < x % C ∧ A (x - 1) = true then 1 else 0) ∧
      (A (ρ1 x) = true) ∧ (∀ i, i < R * C → i ≠ x → A i = true → A (ρ1 i) = true ∧ (ρ1 x = ρ1 i ↔ (0 < x % C ∧ A (x - 1) = true) ∧ ρ' (x - 1) = ρ' i)) := by
    by_cases hw : 0 < x % C ∧ A (x - 1) = true
    · have hx0 := hxm hw.1
      have hne : x - 1 ≠ x := by omega
      have hwn : x - 1 < R * C := by omega
      have haw := hρA (x - 1) hwn hne hw.2
      have hneq : ρ' x ≠ ρ' (x - 1) := by have := u'.le (x - 1) hwn; omega
      refine ⟨fun i j => Edg (nearN R C) A' (R * C) i j ∨ (i = x ∧ j = x - 1), joinF ρ' x (x - 1), u'.join hx hwn (fun i j e => .inl e) (.inr ⟨rfl, rfl⟩) (fun i j e => e), fun i j e => ?_, ⟨fun i j e => .inl e, fun _ => .inr ⟨rfl, rfl⟩⟩, trivial, ?_, ?_, fun i hi hix hai => ?_⟩
      · rcases e with e | ⟨rfl, rfl⟩
        · exact ⟨e.1, e.2.1, (sub _ e.2.2.1).1, (sub _ e.2.2.2).1⟩
        · exact ⟨hx, wIn hw.1, hA, hw.2⟩
      · rw [if_pos hw, join_cnt u' hx hwn A (by rw [hρx]; exact hA) haw, if_neg hneq]
      · have h1 : ρ' (x - 1) < ρ' x := by have := u'.le (x - 1) hwn; omega
        have h2 : ¬ ρ' x < ρ' (x - 1) := by omega
        simp only [joinF, if_neg h2, if_true]; exact haw
      · have h1 : ρ' (x - 1) < ρ' x := by have := u'.le (x - 1) hwn; omega
        have h2 : ¬ ρ' x < ρ' (x - 1) := by omega
        have h3 : ρ' i ≠ ρ' x := by have := u'.le i hi; have := hl i hai; omega
        simp only [joinF, if_neg h2, if_true, if_neg h3]
        exact ⟨hρA i hi hix hai, ⟨fun e => ⟨hw, e⟩, fun e => e.2⟩⟩
    · refine ⟨Edg (nearN R C) A' (R * C), ρ', u', fun i j e => ⟨e.1, e.2.1, (sub _ e.2.2.1).1, (sub _ e.2.2.2).1⟩, ⟨fun i j e => e, fun h => absurd h hw⟩, trivial, by rw [if_neg hw, Nat.add_zero], by rw [hρx]; exact hA, fun i hi hix hai => ⟨hρA i hi hix hai, ⟨fun e => ?_, fun e => absurd e.1 hw⟩⟩⟩
      have := u'.le i hi
      have := hl i hai
      omega
  -- join north
  obtain ⟨E2, ρ2, u2, sub2, sup2, c2⟩ : ∃ (E2 : Nat → Nat → Prop) (ρ2 : Nat → Nat), UF (R * C) E2 ρ2 ∧ (∀ i j, E2 i j → Edg (nearN R C) A (R * C) i j) ∧ ((∀ i j, E1 i j → E2 i j) ∧ (C ≤ x ∧ A (x - C) = true → E2 x (x - C))) ∧
      cntp (fun i => A i = true ∧ ρ1 i = i) (R * C) + (if (0 < x % C ∧ A (x - 1) = true) ∧ (C ≤ x ∧ A (x - C) = true) ∧ ρ' (x - 1) = ρ' (x - C) then 1 else 0) = cntp (fun i => A i = true ∧ ρ2 i = i) (R * C) + (if C ≤ x ∧ A (x - C) = true then 1 else 0) := by
    by_cases hn : C ≤ x ∧ A (x - C) = true
    · have hne : x - C ≠ x := by omega
      have hnn : x - C < R * C := by omega
      obtain ⟨q1, q2⟩ := r1 (x - C) hnn hne hn.2
      refine ⟨fun i j => E1 i j ∨ (i = x ∧ j = x - C), joinF ρ1 x (x - C), u1.join hx hnn (fun i j e => .inl e) (.inr ⟨rfl, rfl⟩) (fun i j e => e), fun i j e => ?_, ⟨fun i j e => .inl e, fun _ => .inr ⟨rfl, rfl⟩⟩, ?_⟩
      · rcases e with e | ⟨rfl, rfl⟩
        · exact sub1 i j e
        · exact ⟨hx, nIn hn.1, hA, hn.2⟩
      · rw [join_cnt u1 hx hnn A r1x q1, if_pos hn]
        by_cases e : ρ1 x = ρ1 (x - C)
        · obtain ⟨e1, e2⟩ := q2.1 e
          rw [if_pos e, if_pos ⟨e1, hn, e2⟩, Nat.add_zero]
        · rw [if_neg e, if_neg (fun h => e (q2.2 ⟨h.1, h.2.2⟩)), Nat.add_zero]
    · exact ⟨E1, ρ1, u1, sub1, ⟨fun i j e => e, fun h => absurd h hn⟩, by rw [if_neg hn, if_neg (fun h => hn h.2.1)]⟩
  have u2A : UF (R * C) (Edg (nearN R C) A (R * C)) ρ2 := u2.eqv (fun i j e => .base (sub2 i j e)) (fun i j e => by
    obtain ⟨h1, h2, h3, h4⟩ := e
    have hj := hlt i h1 j h2
    have tox : ∀ j, j ∈ nearN R C x → A j = true → EqvC E2 x j := fun j hj ha => by
      rcases nbx j hj ha with ⟨a, rfl⟩ | ⟨a, rfl⟩
      · exact .base (sup2.1 _ _ (sup1.2 ⟨a, ha⟩))
      · exact .base (sup2.2 ⟨a, ha⟩)
    by_cases ei : i = x
    · subst ei; exact tox j h2 h4
    · by_cases ej : j = x
      · subst ej; exact .symm (tox i ((near_sym h1 hj).1 h2) h3)
      · exact .base (sup2.1 _ _ (sup1.1 _ _ ⟨h1, h2, inA' i h3 ei, inA' j h4 ej⟩))) (fun i j e => edg_lt hlt i j (sub2 i j e))
  have cA : compN (nearN R C) A (R * C) = cntp (fun i => A i = true ∧ ρ2 i = i) (R * C) := cntp_congr fun i hi => by
    simp only [rootB]
    rw [u.uniq u2A (edg_lt hlt) hi]
  rw [cA]
  omega
end
end Go.SW
