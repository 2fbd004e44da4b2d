/- Maths of Euler's law: cell by cell. -/
import Derived.Test.YtdlepfeckiahdaaEd
import Derived.Test.YtdlepfeckiahdaaLt
import Derived.Test.YtdlepfeckiahdaaLo
set_option linter.all false
namespace Go.SW
section
variable (R C : Nat) (P : Nat → Bool)
def wN (i : Nat) : Nat := if 0 < i % C ∧ P (i - 1) = true then 1 else 0
def nN (i : Nat) : Nat := if C ≤ i ∧ P (i - C) = true then 1 else 0
def sideE : Nat → Nat
  | 0 => 0
  | k + 1 => sideE k + if P k = true then wN C P k + nN C P k else 0
def quadQ (i : Nat) : Prop := P i = true ∧ (0 < i % C ∧ P (i - 1) = true) ∧ (C ≤ i ∧ P (i - C) = true) ∧ P (i - C - 1) = true
instance : DecidablePred (quadQ C P) := fun i => inferInstanceAs (Decidable (_ ∧ _ ∧ _ ∧ _))
variable {R C P}
theorem cnt_nb (hC : 0 < C) (i : Nat) : (nearN R C i).countP (fun j => decide (j < i) && P j) = wN C P i + nN C P i := by
  have h0 : i % C ≤ i := Nat.mod_le _ _
  have e1 : decide (i + 1 < i) = false := decide_eq_false (by omega)
  have e2 : decide (i + C < i) = false := decide_eq_false (by omega)
  unfold nearN wN nN
  by_cases h1 : C ≤ i <;> by_cases h2 : i % C + 1 < C <;> by_cases h3 : i + C < R * C <;> by_cases h4 : 0 < i % C <;>
    by_cases p1 : P (i - C) = true <;> by_cases p2 : P (i - 1) = true <;>
      simp only [h1, h2, h3, h4, p1, p2, if_true, if_false, List.nil_append, List.append_nil, List.countP_append, List.countP_cons, List.countP_nil, e1, e2, Bool.false_and, true_and, and_true, false_and, and_false, Bool.false_eq_true, Bool.and_true, Bool.and_false, decide_eq_true_eq] <;>
      first | omega | (split <;> omega) | (split <;> split <;> omega)
theorem pair_side (hC : 0 < C) : pairN R C P = 2 * sideE C P (R * C) := by
  have h1 : pairN R C P = sumN (fun i => sumN (fun j => if j ∈ nearN R C i ∧ j < i ∧ P i = true ∧ P j = true then 1 else 0) (R * C)) (R * C) + sumN (fun i => sumN (fun j => if j ∈ nearN R C i ∧ i < j ∧ P i = true ∧ P j = true then 1 else 0) (R * C)) (R * C) := by
    rw [← sumN_add]
    refine sumN_congr fun i hi => ?_
    rw [← sumN_add]
    refine sumN_congr fun j hj => ?_
    by_cases hm : j ∈ nearN R C i
    · have hne : j ≠ i := fun e => near_ne hi (by rw [e] at hm; exact hm)
      rcases Nat.lt_or_ge j i with h | h
      · have h2 : ¬ i < j := by omega
        simp [hm, h, h2]
      · have h2 : ¬ j < i := by omega
        have h3 : i < j := by omega
        simp [hm, h2, h3]
    · simp [hm]
  have h2 : sumN (fun i => sumN (fun j => if j ∈ nearN R C i ∧ i < j ∧ P i = true ∧ P j = true then 1 else 0) (R * C)) (R * C) = sumN (fun i => sumN (fun j => if j ∈ nearN R C i ∧ j < i ∧ P i = true ∧ P j = true then 1 else 0) (R * C)) (R * C) := by
    rw [sumN_swap]
    refine sumN_congr fun j hj => sumN_congr fun i hi => ?_
    have := near_sym hi hj
    by_cases hm : j ∈ nearN R C i
    · have hm' := this.1 hm
      by_cases h : i < j <;> by_cases p : P i = true <;> by_cases r : P j = true <;> simp [hm, hm', h, p, r]
    · have hm' : i ∉ nearN R C j := fun h => hm (this.2 h)
      simp [hm, hm']
  have h3 : ∀ k, k ≤ R * C → sumN (fun i => sumN (fun j => if j ∈ nearN R C i ∧ j < i ∧ P i = true ∧ P j = true then 1 else 0) (R * C)) k = sideE C P k := fun k => by
    induction k with
    | zero => intro _; rfl
    | succ k ih =>
      intro hk
      simp only [sumN, sideE, ih (by omega)]
      congr 1
      by_cases p : P k = true
      · rw [if_pos p, ← cnt_nb (R := R) hC k, countP_sum (nearN_nodup k hC) (nearN_lt (show k < R * C by omega))]
        refine sumN_congr fun j hj => ?_
        by_cases hm : j ∈ nearN R C k <;> by_cases h : j < k <;> by_cases r : P j = true <;> simp [hm, h, p, r]
      · rw [if_neg p]
        exact (sumN_congr (g := fun _ => 0) fun j _ => by simp [p]).trans (sumN_zero _)
  rw [h1, h2, h3 _ (Nat.le_refl _)]; omega
theorem cntp_add (p : Nat → Prop) [DecidablePred p] (a : Nat) : ∀ b, cntp p (a + b) = cntp p a + cntp (fun i => p (a + i)) b
  | 0 => rfl
  | b + 1 => by
    have := cntp_add p a b
    show cntp p (a + b) + (if p (a + b) then 1 else 0) = cntp p a + (cntp (fun i => p (a + i)) b + (if p (a + b) then 1 else 0))
    omega
theorem ite_iff {p q : Prop} [Decidable p] [Decidable q] (h : p ↔ q) (a b : Nat) : (if p then a else b) = if q then a else b := by
  by_cases hp : p
  · rw [if_pos hp, if_pos (h.1 hp)]
  · rw [if_neg hp, if_neg (fun e => hp (h.2 e))]
theorem cntp_rows (p : Nat → Prop) [DecidablePred p] (C : Nat) : ∀ R, cntp p (R * C) = sumN (fun q => cntp (fun c => p (q * C + c)) C) R
  | 0 => by simp [cntp, sumN]
  | R + 1 => by rw [Nat.add_mul, Nat.one_mul, cntp_add, cntp_rows p C R]; rfl
theorem cntp_shift1 (p : Nat → Prop) [DecidablePred p] (h0 : ¬ p 0) : ∀ m, cntp p (m + 1) = cntp (fun i => p (i + 1)) m
  | 0 => by simp [cntp, h0]
  | m + 1 => by
    have := cntp_shift1 p h0 m
    simp only [cntp] at this ⊢
    omega
theorem corn_quad {h : Nat → Int} {lv : Int} (hR : 1 ≤ R) (hC : 1 ≤ C) : cornTo C h lv (R - 1) = cntp (quadQ C (landB h lv)) (R * C) := by
  obtain ⟨R, rfl⟩ : ∃ r, R = r + 1 := ⟨R - 1, by omega⟩
  obtain ⟨C, rfl⟩ : ∃ r, C = r + 1 := ⟨C - 1, by omega⟩
  rw [cntp_rows, ← sumN_shift]
  have h0 : cntp (fun c => quadQ (C + 1) (landB h lv) (0 * (C + 1) + c)) (C + 1) = 0 := cntp_zero _ _ fun i hi hq => by
    have := hq.2.2.1.1; omega
  rw [h0, Nat.add_zero, cornTo]
  refine sumN_congr fun r hr => ?_
  rw [cntp_shift1 _ (fun hq => by
    have h1 := hq.2.1.1
    rw [(rc_eq (C := C + 1) (q := r + 1) (c := 0) (by omega)).2] at h1; omega)]
  refine cntp_congr fun s hs => ?_
  have hrow : (r + 1) * (C + 1) = r * (C + 1) + (C + 1) := by rw [Nat.add_mul, Nat.one_mul]
  have e0 := (rc_eq (C := C + 1) (q := r + 1) (c := s + 1) (by omega)).2
  have e1 : (r + 1) * (C + 1) + (s + 1) - 1 = (r + 1) * (C + 1) + s := by omega
  have e2 : (r + 1) * (C + 1) + (s + 1) - (C + 1) = r * (C + 1) + (s + 1) := by omega
  have e3 : r * (C + 1) + (s + 1) - 1 = r * (C + 1) + s := by omega
  simp only [quadQ, quadP, landB, decide_eq_true_eq, e0, e1, e2, e3]
  constructor
  · rintro ⟨a, b, c, d⟩; exact ⟨d, ⟨by omega, c⟩, ⟨by omega, b⟩, a⟩
  · rintro ⟨d, ⟨_, c⟩, ⟨_, b⟩, a⟩; exact ⟨a, b, c, d⟩
/-- The law, for the cells before k. -/
theorem euler_to (hR : 1 ≤ R) (hC : 1 ≤ C) : ∀ k, k ≤ R * C → cntp (quadQ C P) k + cntp (fun i => P i = true) k + lakeN R C (fun i => !(P i && decide (i < k))) = compN (nearN R C) (fun i => P i && decide (i < k)) (R * C) + sideE C P k
  | 0, _ => by
    have h1 : compN (nearN R C) (fun i => P i && decide (i < 0)) (R * C) = 0 := cntp_zero _ _ fun i hi h => by
      have := h.1; simp at this
    have h2 : lakeN R C (fun i => !(P i && decide (i < 0))) = 0 := cntp_zero _ _ fun i hi h => by
      obtain ⟨a, b, d⟩ := lake_iff.1 h
      obtain ⟨q, c, hq, hc, rfl⟩ := rc_ex hi
      obtain ⟨j, j1, j2, j3⟩ := open_from (A := fun i => P i && decide (i < 0)) (R := R) (C := C) hq (C - 1 - c) c (by omega) (fun i _ => by simp)
      exact d j j1 j2 (by rw [← rep_eqv aro_lt j3]; exact b)
    rw [h1, h2]; rfl
  | k + 1, hk => by
    have ih := euler_to hR hC k (by omega)
    cases hp : P k with
    | false =>
      have e : (fun i => P i && decide (i < k + 1)) = fun i => P i && decide (i < k) := by
        funext i
        by_cases e : i = k
        · subst e; simp [hp]
        · have : i < k + 1 ↔ i < k := by omega
          simp [this]
      have e' : (fun i => !(P i && decide (i < k + 1))) = fun i => !(P i && decide (i < k)) := by
        funext i; exact congrArg (fun b => !b) (congrFun e i)
      have hq : ¬ quadQ C P k := fun h => by have := h.1; rw [hp] at this; cases this
      rw [e, e']
      simp only [cntp, sideE, if_neg hq, hp, Bool.false_eq_true, if_false, Nat.add_zero]
      exact ih
    | true =>
      have hkn : k < R * C := by omega
      obtain ⟨q, c, hq, hc, ek⟩ := rc_ex hkn
      obtain ⟨A, hA⟩ : ∃ A : Nat → Bool, A = fun i => P i && decide (i < k + 1) := ⟨_, rfl⟩
      obtain ⟨A', hA'⟩ : ∃ A' : Nat → Bool, A' = fun i => P i && decide (i < k) := ⟨_, rfl⟩
      have ai : ∀ i, A i = (P i && decide (i < k + 1)) := fun i => by rw [hA]
      have ai' : ∀ i, A' i = (P i && decide (i < k)) := fun i => by rw [hA']
      have eA : (fun i => !(P i && decide (i < k + 1))) = fun i => !A i := by rw [hA]
      have eA' : (fun i => !(P i && decide (i < k))) = fun i => !A' i := by rw [hA']
      rw [eA, ← hA]
      rw [eA', ← hA'] at ih
      have aP : ∀ i, i ≤ k → A i = P i := fun i hi => by rw [ai]; simp; omega
      have hAk : A k = true := by rw [aP k (Nat.le_refl _), hp]
      have hl : ∀ i, A i = true → i ≤ k := fun i h => by rw [ai] at h; simp at h; omega
      have hAA : ∀ i, A' i = (A i && decide (i ≠ k)) := fun i => by
        rw [ai, ai']
        by_cases e : i = k
        · subst e; simp
        · have : i < k + 1 ↔ i < k := by omega
          simp [this, e]
      have r := reg_step hkn hAk hl hAA
      have l := lake_step (A := A) (A' := A') hq hc (by rw [← ek]; exact hAk) (by rw [← ek]; exact hl) (by rw [← ek]; exact hAA)
      have hkm : k % C = c := by rw [ek]; exact (rc_eq hc).2
      have hk1 : A (k - 1) = P (k - 1) := aP _ (by omega)
      have hkC : A (k - C) = P (k - C) := aP _ (by omega)
      have hkC1 : A (k - C - 1) = P (k - C - 1) := aP _ (by omega)
      have hCk : C ≤ k ↔ 1 ≤ q := by
        rw [ek]
        constructor
        · intro h
          rcases Nat.eq_zero_or_pos q with e | e
          · subst e; omega
          · exact e
        · intro h
          have := Nat.mul_le_mul_right C h
          omega
      -- the cells by their index
      have lsp : (1 ≤ q ∧ 1 ≤ c ∧ A (q * C + (c - 1)) = true ∧ A ((q - 1) * C + c) = true ∧ A ((q - 1) * C + (c - 1)) = false) ∧ repF (nearN R C) A' (R * C) (q * C + (c - 1)) = repF (nearN R C) A' (R * C) ((q - 1) * C + c) ↔
          ((0 < k % C ∧ P (k - 1) = true) ∧ (C ≤ k ∧ P (k - C) = true)) ∧ P (k - C - 1) = false ∧ repF (nearN R C) A' (R * C) (k - 1) = repF (nearN R C) A' (R * C) (k - C) := by
        rw [hkm, hCk]
        by_cases h1 : 1 ≤ q ∧ 1 ≤ c
        · have hm : q * C = (q - 1) * C + C := by
            have : q = (q - 1) + 1 := by omega
            rw [this, Nat.add_mul, Nat.one_mul]; rfl
          have e1 : q * C + (c - 1) = k - 1 := by omega
          have e2 : (q - 1) * C + c = k - C := by omega
          have e3 : (q - 1) * C + (c - 1) = k - C - 1 := by omega
          rw [e1, e2, e3, hk1, hkC, hkC1]
          constructor
          · rintro ⟨⟨a, b, d, e, f⟩, g⟩; exact ⟨⟨⟨b, d⟩, a, e⟩, f, g⟩
          · rintro ⟨⟨⟨b, d⟩, a, e⟩, f, g⟩; exact ⟨⟨a, b, d, e, f⟩, g⟩
        · constructor
          · rintro ⟨⟨a, b, _⟩, _⟩; exact absurd ⟨a, b⟩ h1
          · rintro ⟨⟨⟨b, _⟩, a, _⟩, _⟩; exact absurd ⟨a, b⟩ h1
      rw [ite_iff lsp] at l
      rw [hk1, hkC] at r
      simp only [cntp, sideE, hp, if_true, wN, nN]
      have hquad : quadQ C P k ↔ ((0 < k % C ∧ P (k - 1) = true) ∧ (C ≤ k ∧ P (k - C) = true)) ∧ P (k - C - 1) = true := by
        simp only [quadQ, hp, true_and]
        exact ⟨fun ⟨a, b, d⟩ => ⟨⟨a, b⟩, d⟩, fun ⟨⟨a, b⟩, d⟩ => ⟨a, b, d⟩⟩
      -- with land in the north-west, west and north are connected
      have hsame : (0 < k % C ∧ P (k - 1) = true) → (C ≤ k ∧ P (k - C) = true) → P (k - C - 1) = true → repF (nearN R C) A' (R * C) (k - 1) = repF (nearN R C) A' (R * C) (k - C) := fun ⟨w1, w2⟩ ⟨n1, n2⟩ h3 => by
        rw [hkm] at w1
        rw [hCk] at n1
        have hm : q * C = (q - 1) * C + C := by
          have : q = (q - 1) + 1 := by omega
          rw [this, Nat.add_mul, Nat.one_mul]; rfl
        have e1 : k - 1 = q * C + (c - 1) := by omega
        have e2 : k - C = (q - 1) * C + c := by omega
        have e3 : k - C - 1 = (q - 1) * C + (c - 1) := by omega
        have p1 : A' (q * C + (c - 1)) = true := by rw [ai', ← e1, w2]; simp; omega
        have p2 : A' ((q - 1) * C + c) = true := by rw [ai', ← e2, n2]; simp; omega
        have p3 : A' ((q - 1) * C + (c - 1)) = true := by rw [ai', ← e3, h3]; simp; omega
        rw [e1, e2]
        have hlt : ∀ i, i < R * C → ∀ j ∈ nearN R C i, j < R * C := fun i hi => nearN_lt hi
        have s1 := rep_eqv (act := A') hlt (.base ⟨corner_ltN hq (show c - 1 < C by omega), (near_rc (by omega) (show q - 1 < R by omega) (show c - 1 < C by omega)).2 (.inr ⟨rfl, .inr (by omega)⟩), p1, p3⟩)
        have s2 := rep_eqv (act := A') hlt (.base ⟨corner_ltN (show q - 1 < R by omega) (show c - 1 < C by omega), (near_rc (by omega) (show q - 1 < R by omega) hc).2 (.inl ⟨rfl, .inl (by omega)⟩), p3, p2⟩)
        exact s1.trans s2
      have split : (if quadQ C P k then 1 else 0) + (if ((0 < k % C ∧ P (k - 1) = true) ∧ (C ≤ k ∧ P (k - C) = true)) ∧ P (k - C - 1) = false ∧ repF (nearN R C) A' (R * C) (k - 1) = repF (nearN R C) A' (R * C) (k - C) then 1 else 0) =
          (if (0 < k % C ∧ P (k - 1) = true) ∧ (C ≤ k ∧ P (k - C) = true) ∧ repF (nearN R C) A' (R * C) (k - 1) = repF (nearN R C) A' (R * C) (k - C) then 1 else 0) := by
        by_cases h1 : 0 < k % C ∧ P (k - 1) = true
        · by_cases h2 : C ≤ k ∧ P (k - C) = true
          · cases h3 : P (k - C - 1) with
            | true =>
              rw [if_pos (hquad.2 ⟨⟨h1, h2⟩, h3⟩), if_neg (fun h => by cases h.2.1), if_pos ⟨h1, h2, hsame h1 h2 h3⟩]
            | false =>
              rw [if_neg (fun h => by have := (hquad.1 h).2; rw [h3] at this; cases this), Nat.zero_add]
              by_cases h4 : repF (nearN R C) A' (R * C) (k - 1) = repF (nearN R C) A' (R * C) (k - C)
              · rw [if_pos ⟨⟨h1, h2⟩, rfl, h4⟩, if_pos ⟨h1, h2, h4⟩]
              · rw [if_neg (fun h => h4 h.2.2), if_neg (fun h => h4 h.2.2)]
          · rw [if_neg (fun h => h2 (hquad.1 h).1.2), if_neg (fun h => h2 h.1.2), if_neg (fun h => h2 h.2.1)]
        · rw [if_neg (fun h => h1 (hquad.1 h).1.1), if_neg (fun h => h1 h.1.1), if_neg (fun h => h1 h.1)]
      omega
theorem sym_id (R C : Nat) : Sym R C R C (fun i => i) (fun i => i) := ⟨fun i hi => ⟨hi, rfl⟩, fun j hj => ⟨hj, rfl⟩, fun _ _ _ _ => Iff.rfl⟩
end
theorem euler_all {R C : Nat} {h : Nat → Int} {lv : Int} (hR : 1 ≤ R) (hC : 1 ≤ C) :
    (cornTo C h lv (R - 1) : Int) - (sidesTo R C h lv (R * C) : Nat) + (cntp (fun i => lv ≤ h i) (R * C) : Nat) = (compN (nearN R C) (landB h lv) (R * C) : Nat) - (lakeN R C (watB h lv) : Nat) := by
  have h1 := euler_to (P := landB h lv) hR hC (R * C) (Nat.le_refl _)
  have h2 : compN (nearN R C) (fun i => landB h lv i && decide (i < R * C)) (R * C) = compN (nearN R C) (landB h lv) (R * C) := comp_sym (sym_id R C) fun i hi => by simp [hi]
  have h3 : lakeN R C (fun i => !(landB h lv i && decide (i < R * C))) = lakeN R C (watB h lv) := lake_sym (σ := fun i => i) (τ := fun i => i) ⟨fun i hi => ⟨hi, rfl⟩, fun j hj => ⟨hj, rfl⟩, fun _ _ _ _ => Iff.rfl, fun _ _ => rfl⟩ fun i hi => by
    by_cases e : lv ≤ h i
    · have : ¬ h i < lv := by omega
      simp [watB, landB, hi, e, this]
    · have : h i < lv := by omega
      simp [watB, landB, e, this]
  have h4 := sides_pair (R := R) (h := h) (lv := lv) (show 0 < C by omega)
  rw [pair_side (show 0 < C by omega)] at h4
  have h5 : cntp (fun i => landB h lv i = true) (R * C) = cntp (fun i => lv ≤ h i) (R * C) := cntp_congr fun i _ => by simp [landB]
  rw [← corn_quad hR hC, h2, h3, h5] at h1
  omega
end Go.SW
