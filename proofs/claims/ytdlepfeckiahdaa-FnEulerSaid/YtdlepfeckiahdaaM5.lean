/- Maths: neighbours by row and column, sums over pairs of neighbours, turned and mirrored grids. -/
import Derived.Test.YtdlepfeckiahdaaLa
import Derived.Test.YtdlepfeckiahdaaM4
set_option linter.all false
namespace Go.SW
theorem rc_eq {C q c : Nat} (hc : c < C) : (q * C + c) / C = q ∧ (q * C + c) % C = c := div_row C q c hc
theorem rc_inj {C q c q' c' : Nat} (hc : c < C) (hc' : c' < C) (e : q * C + c = q' * C + c') : q = q' ∧ c = c' := by
  have h1 := rc_eq (q := q) hc
  have h2 := rc_eq (q := q') hc'
  rw [e] at h1
  exact ⟨h1.1.symm.trans h2.1, h1.2.symm.trans h2.2⟩
theorem rc_lt {R C i : Nat} (hi : i < R * C) : 0 < C ∧ i / C < R ∧ i % C < C ∧ i = i / C * C + i % C := by
  have hC : 0 < C := Nat.pos_of_ne_zero fun e => by subst e; simp at hi
  exact ⟨hC, Nat.div_lt_of_lt_mul (by rw [Nat.mul_comm]; exact hi), Nat.mod_lt _ hC, by rw [Nat.mul_comm]; exact (Nat.div_add_mod i C).symm⟩
theorem corner_ltN {R C r c : Nat} (h1 : r < R) (h2 : c < C) : r * C + c < R * C := by
  have := Nat.mul_le_mul_right C (show r + 1 ≤ R by omega)
  rw [Nat.add_mul, Nat.one_mul] at this; omega
def AdjC (q c q' c' : Nat) : Prop := (q = q' ∧ (c + 1 = c' ∨ c' + 1 = c)) ∨ (c = c' ∧ (q + 1 = q' ∨ q' + 1 = q))
theorem near_rc {R C q c q' c' : Nat} (hc : c < C) (hq' : q' < R) (hc' : c' < C) : q' * C + c' ∈ nearN R C (q * C + c) ↔ AdjC q c q' c' := by
  rw [nearN_mem, (rc_eq (q := q) hc).2, AdjC]
  have hs : (q + 1) * C = q * C + C := by rw [Nat.add_mul, Nat.one_mul]
  have hs' : (q' + 1) * C = q' * C + C := by rw [Nat.add_mul, Nat.one_mul]
  constructor
  · rintro (⟨h1, h2⟩ | ⟨h1, h2⟩ | ⟨h1, h2⟩ | ⟨h1, h2⟩)
    · obtain ⟨e1, e2⟩ := rc_inj (q := q' + 1) (q' := q) hc' hc (by omega)
      exact .inr ⟨e2.symm, .inr e1⟩
    · obtain ⟨e1, e2⟩ := rc_inj (q := q') (q' := q) hc' (by omega : c + 1 < C) (by omega)
      exact .inl ⟨e1.symm, .inl e2.symm⟩
    · obtain ⟨e1, e2⟩ := rc_inj (q := q') (q' := q + 1) hc' hc (by omega)
      exact .inr ⟨e2.symm, .inl e1.symm⟩
    · obtain ⟨e1, e2⟩ := rc_inj (q := q') (q' := q) hc' (by omega : c - 1 < C) (by omega)
      exact .inl ⟨e1.symm, .inr (by omega)⟩
  · rintro (⟨rfl, (rfl | rfl)⟩ | ⟨rfl, (rfl | rfl)⟩)
    · exact .inr (.inl ⟨hc', by omega⟩)
    · exact .inr (.inr (.inr ⟨by omega, by omega⟩))
    · refine .inr (.inr (.inl ⟨?_, by omega⟩))
      have : (q + 1) * C + c < R * C := corner_ltN hq' hc
      omega
    · exact .inl ⟨by omega, by omega⟩
theorem near_iff {R C i j : Nat} (hi : i < R * C) (hj : j < R * C) : j ∈ nearN R C i ↔ AdjC (i / C) (i % C) (j / C) (j % C) := by
  obtain ⟨_, h1, h2, h3⟩ := rc_lt hi
  obtain ⟨_, h4, h5, h6⟩ := rc_lt hj
  have := near_rc (q := i / C) h2 h4 h5
  rw [← h3, ← h6] at this
  exact this
theorem near_sym {R C i j : Nat} (hi : i < R * C) (hj : j < R * C) : j ∈ nearN R C i ↔ i ∈ nearN R C j := by
  rw [near_iff hi hj, near_iff hj hi, AdjC, AdjC]; omega
theorem near_ne {R C i : Nat} (hi : i < R * C) : i ∉ nearN R C i := by
  rw [near_iff hi hi, AdjC]; omega
theorem nearN_nodup {R C : Nat} (i : Nat) (hC : 0 < C) : (nearN R C i).Nodup := by
  have h0 : i % C ≤ i := Nat.mod_le _ _
  have h5 : i % C < C := Nat.mod_lt _ hC
  unfold nearN
  by_cases h1 : C ≤ i <;> by_cases h2 : i % C + 1 < C <;> by_cases h3 : i + C < R * C <;> by_cases h4 : 0 < i % C <;> simp [h1, h2, h3, h4] <;> omega

/-! ## sums -/
theorem countP_sum {l : List Nat} {n : Nat} (hd : l.Nodup) (hl : ∀ x ∈ l, x < n) (p : Nat → Bool) : l.countP p = sumN (fun j => if j ∈ l ∧ p j = true then 1 else 0) n := by
  rw [List.countP_eq_length_filter, ← sumN_count (l := l.filter p) (n := n) fun x hx => hl x (List.mem_filter.1 hx).1]
  refine sumN_congr fun j _ => ?_
  have h1 : (l.filter p).count j ≤ 1 := List.nodup_iff_count.1 (hd.filter p) j
  by_cases h : j ∈ l ∧ p j = true
  · rw [if_pos h]
    have : 0 < (l.filter p).count j := List.count_pos_iff.2 (List.mem_filter.2 h)
    omega
  · rw [if_neg h]
    exact List.count_eq_zero.2 fun hm => h (List.mem_filter.1 hm)
theorem sumN_perm {n m : Nat} (σ τ : Nat → Nat) (h1 : ∀ i, i < n → σ i < m ∧ τ (σ i) = i) (h2 : ∀ j, j < m → τ j < n ∧ σ (τ j) = j) (f : Nat → Nat) : sumN f m = sumN (fun i => f (σ i)) n := by
  have e1 : sumN f m = sumN (fun j => sumN (fun i => if i = τ j then f j else 0) n) m := sumN_congr fun j hj => (sumN_single (h2 j hj).1 (f j)).symm
  have e2 : sumN (fun i => f (σ i)) n = sumN (fun i => sumN (fun j => if j = σ i then f (σ i) else 0) m) n := sumN_congr fun i hi => (sumN_single (h1 i hi).1 (f (σ i))).symm
  rw [e1, e2, sumN_swap]
  refine sumN_congr fun i hi => sumN_congr fun j hj => ?_
  by_cases h : i = τ j
  · subst h; rw [if_pos rfl, if_pos (h2 j hj).2.symm, (h2 j hj).2]
  · rw [if_neg h, if_neg fun e => h (by subst e; exact (h1 i hi).2.symm)]
theorem cntp_perm {n m : Nat} (σ τ : Nat → Nat) (h1 : ∀ i, i < n → σ i < m ∧ τ (σ i) = i) (h2 : ∀ j, j < m → τ j < n ∧ σ (τ j) = j) (p q : Nat → Prop) [DecidablePred p] [DecidablePred q] (h : ∀ i, i < n → (q i ↔ p (σ i))) : cntp q n = cntp p m := by
  rw [← sumN_cntp, ← sumN_cntp, sumN_perm σ τ h1 h2]
  exact sumN_congr fun i hi => by simp only [h i hi]
/-- As many: what p holds of goes one to one into what q holds of. -/
theorem cntp_inj {n m : Nat} {p q : Nat → Prop} [DecidablePred p] [DecidablePred q] (f : Nat → Nat) (h1 : ∀ i, i < n → p i → f i < m ∧ q (f i)) (h2 : ∀ i j, i < n → j < n → p i → p j → f i = f j → i = j) : cntp p n ≤ cntp q m := by
  rw [← sumN_cntp p, ← sumN_cntp q]
  have e1 : sumN (fun i => if p i then 1 else 0) n = sumN (fun i => sumN (fun j => if j = f i then (if p i then 1 else 0) else 0) m) n := sumN_congr fun i hi => by
    by_cases hp : p i
    · exact (sumN_single (h1 i hi hp).1 _).symm
    · simp only [if_neg hp, ite_self]; exact (sumN_zero m).symm
  rw [e1, sumN_swap]
  refine sumN_le fun j hj => ?_
  have hle : ∀ k, k ≤ n → sumN (fun i => if j = f i then (if p i then 1 else 0) else 0) k ≤ if q j then 1 else 0 := by
    intro k
    induction k with
    | zero => intro _; exact Nat.zero_le _
    | succ k ih =>
      intro hk
      simp only [sumN]
      by_cases hc : j = f k ∧ p k
      · have hz : sumN (fun i => if j = f i then (if p i then 1 else 0) else 0) k = 0 := by
          refine (sumN_congr (g := fun _ => 0) fun i hi => ?_).trans (sumN_zero k)
          by_cases hi' : j = f i ∧ p i
          · exact absurd (h2 i k (by omega) (by omega) hi'.2 hc.2 (hi'.1.symm.trans hc.1)) (by omega)
          · by_cases ha : j = f i
            · rw [if_pos ha, if_neg fun hp => hi' ⟨ha, hp⟩]
            · rw [if_neg ha]
        rw [hz, if_pos hc.1, if_pos hc.2, if_pos (hc.1 ▸ (h1 k (by omega) hc.2).2)]
        exact Nat.le_refl _
      · have : (if j = f k then (if p k then 1 else 0) else 0) = 0 := by
          by_cases ha : j = f k
          · rw [if_pos ha, if_neg fun hp => hc ⟨ha, hp⟩]
          · rw [if_neg ha]
        rw [this]
        exact ih (by omega)
  exact hle n (Nat.le_refl _)
theorem sumN_mul (c : Nat) (f : Nat → Nat) : ∀ n, sumN (fun i => c * f i) n = c * sumN f n
  | 0 => rfl
  | n + 1 => by simp only [sumN, sumN_mul c f n, Nat.mul_add]

/-! ## pairs of neighbours that both are P -/
section
variable (R C : Nat)
def pairN (P : Nat → Bool) : Nat := sumN (fun i => sumN (fun j => if j ∈ nearN R C i ∧ P i = true ∧ P j = true then 1 else 0) (R * C)) (R * C)
variable {R C}
theorem sidesTo_sum {h : Nat → Int} {lv : Int} : ∀ k, sidesTo R C h lv k = sumN (fun i => (nearN R C i).countP (sideP h lv i)) k
  | 0 => rfl
  | k + 1 => by simp only [sidesTo, sumN, sidesTo_sum k]
theorem sides_pair {h : Nat → Int} {lv : Int} (hC : 0 < C) : 2 * sidesTo R C h lv (R * C) = pairN R C (landB h lv) := by
  have e1 : sidesTo R C h lv (R * C) = sumN (fun i => sumN (fun j => if j ∈ nearN R C i ∧ sideP h lv i j = true then 1 else 0) (R * C)) (R * C) := by
    rw [sidesTo_sum]
    exact sumN_congr fun i hi => countP_sum (nearN_nodup i hC) (nearN_lt hi) _
  have e2 : sidesTo R C h lv (R * C) = sumN (fun i => sumN (fun j => if i ∈ nearN R C j ∧ sideP h lv j i = true then 1 else 0) (R * C)) (R * C) := by
    rw [e1, sumN_swap]
  have e3 : pairN R C (landB h lv) = sumN (fun i => sumN (fun j => if j ∈ nearN R C i ∧ sideP h lv i j = true then 1 else 0) (R * C) + sumN (fun j => if i ∈ nearN R C j ∧ sideP h lv j i = true then 1 else 0) (R * C)) (R * C) := by
    refine sumN_congr fun i hi => ?_
    rw [← sumN_add]
    refine sumN_congr fun j hj => ?_
    simp only [sideP, Bool.and_eq_true, decide_eq_true_eq, ← near_sym hi hj]
    by_cases ha : j ∈ nearN R C i
    · have hne : i ≠ j := fun e => by subst e; exact near_ne hi ha
      by_cases h1 : landB h lv i = true <;> by_cases h2 : landB h lv j = true <;> by_cases h3 : i < j <;> simp [ha, h1, h2, h3] <;> omega
    · simp [ha]
  rw [e3, sumN_add]
  omega
theorem pairN_mono {P Q : Nat → Bool} (h : ∀ i, P i = true → Q i = true) : pairN R C P ≤ pairN R C Q := by
  refine sumN_le fun i _ => sumN_le fun j _ => ?_
  by_cases hp : j ∈ nearN R C i ∧ P i = true ∧ P j = true
  · rw [if_pos hp, if_pos ⟨hp.1, h _ hp.2.1, h _ hp.2.2⟩]; exact Nat.le_refl _
  · rw [if_neg hp]; exact Nat.zero_le _
theorem pairN_row (hC : 0 < C) {P : Nat → Bool} {i : Nat} (hi : i < R * C) : sumN (fun j => if j ∈ nearN R C i ∧ P i = true ∧ P j = true then 1 else 0) (R * C) = if P i = true then (nearN R C i).countP P else 0 := by
  by_cases hp : P i = true
  · rw [if_pos hp, countP_sum (nearN_nodup i hC) (nearN_lt hi)]
    exact sumN_congr fun j _ => by simp [hp]
  · rw [if_neg hp]
    exact (sumN_congr (g := fun _ => 0) fun j _ => by simp [hp]).trans (sumN_zero _)
theorem pairN_le (hC : 0 < C) {P : Nat → Bool} : pairN R C P ≤ 4 * cntp (fun i => P i = true) (R * C) := by
  rw [← sumN_cntp, ← sumN_mul]
  refine sumN_le fun i hi => ?_
  rw [pairN_row hC hi]
  by_cases hp : P i = true
  · rw [if_pos hp, if_pos hp]
    have h2 : (nearN R C i).countP P ≤ (nearN R C i).length := List.countP_le_length
    have h3 := nearN_len R C i
    omega
  · rw [if_neg hp, if_neg hp]; exact Nat.le_refl _
theorem shoreTo_sum {h : Nat → Int} {lv : Int} : ∀ k, k ≤ R * C → shoreTo R C h lv k = 4 * (cntp (fun i => lv ≤ h i) k : Nat) - (sumN (fun i => if landB h lv i = true then (nearN R C i).countP (landB h lv) else 0) k : Nat)
  | 0, _ => rfl
  | k + 1, hk => by
    have ih := shoreTo_sum (h := h) (lv := lv) k (by omega)
    simp only [shoreTo, cntp, sumN, ih, landB, decide_eq_true_eq]
    by_cases hl : lv ≤ h k
    · simp only [if_pos hl]
      simp only [Int.natCast_add, landB]
      omega
    · simp only [if_neg hl]
      omega
theorem shore_sides {h : Nat → Int} {lv : Int} (hC : 0 < C) : shoreTo R C h lv (R * C) = 4 * (cntp (fun i => lv ≤ h i) (R * C) : Nat) - 2 * (sidesTo R C h lv (R * C) : Nat) := by
  rw [shoreTo_sum _ (Nat.le_refl _)]
  have e : sumN (fun i => if landB h lv i = true then (nearN R C i).countP (landB h lv) else 0) (R * C) = pairN R C (landB h lv) := sumN_congr fun i hi => (pairN_row hC hi).symm
  have := sides_pair (R := R) (h := h) (lv := lv) hC
  rw [e]; omega
end

/-! ## moved grids -/
structure Sym (R C R' C' : Nat) (σ τ : Nat → Nat) : Prop where
  f : ∀ i, i < R' * C' → σ i < R * C ∧ τ (σ i) = i
  b : ∀ j, j < R * C → τ j < R' * C' ∧ σ (τ j) = j
  adj : ∀ i j, i < R' * C' → j < R' * C' → (j ∈ nearN R' C' i ↔ σ j ∈ nearN R C (σ i))
theorem pairN_sym {R C R' C' : Nat} {σ τ : Nat → Nat} (s : Sym R C R' C' σ τ) {P Q : Nat → Bool} (h : ∀ i, i < R' * C' → Q i = P (σ i)) : pairN R' C' Q = pairN R C P := by
  unfold pairN
  rw [sumN_perm σ τ s.f s.b]
  refine sumN_congr fun i hi => ?_
  rw [sumN_perm σ τ s.f s.b (fun j => if j ∈ nearN R C (σ i) ∧ P (σ i) = true ∧ P j = true then 1 else 0)]
  refine sumN_congr fun j hj => ?_
  simp only [s.adj i j hi hj, h i hi, h j hj]
def turnS (R C i : Nat) : Nat := (R - 1 - i % R) * C + i / R
def turnT (R C j : Nat) : Nat := j % C * R + (R - 1 - j / C)
def mirS (C i : Nat) : Nat := i / C * C + (C - 1 - i % C)
theorem rc_ex {R C i : Nat} (hi : i < R * C) : ∃ q c, q < R ∧ c < C ∧ i = q * C + c := ⟨i / C, i % C, (rc_lt hi).2⟩
theorem turnS_rc {R C q c : Nat} (hc : c < R) : turnS R C (q * R + c) = (R - 1 - c) * C + q := by simp only [turnS, (rc_eq hc).1, (rc_eq hc).2]
theorem turnT_rc {R C q c : Nat} (hc : c < C) : turnT R C (q * C + c) = c * R + (R - 1 - q) := by simp only [turnT, (rc_eq hc).1, (rc_eq hc).2]
theorem mirS_rc {C q c : Nat} (hc : c < C) : mirS C (q * C + c) = q * C + (C - 1 - c) := by simp only [mirS, (rc_eq hc).1, (rc_eq hc).2]
theorem turn_sym (R C : Nat) : Sym R C C R (turnS R C) (turnT R C) := by
  refine ⟨fun i hi => ?_, fun j hj => ?_, fun i j hi hj => ?_⟩
  · obtain ⟨q, c, hq, hc, rfl⟩ := rc_ex hi
    rw [turnS_rc hc]
    refine ⟨corner_ltN (by omega) hq, ?_⟩
    rw [turnT_rc hq, show R - 1 - (R - 1 - c) = c by omega]
  · obtain ⟨q, c, hq, hc, rfl⟩ := rc_ex hj
    rw [turnT_rc hc]
    refine ⟨corner_ltN hc (by omega), ?_⟩
    rw [turnS_rc (by omega), show R - 1 - (R - 1 - q) = q by omega]
  · obtain ⟨q, c, hq, hc, rfl⟩ := rc_ex hi
    obtain ⟨q', c', hq', hc', rfl⟩ := rc_ex hj
    rw [turnS_rc hc, turnS_rc hc', near_rc hc hq' hc', near_rc hq (by omega) hq', AdjC, AdjC]
    omega
theorem mir_sym (R C : Nat) : Sym R C R C (mirS C) (mirS C) := by
  have hf : ∀ i, i < R * C → mirS C i < R * C ∧ mirS C (mirS C i) = i := fun i hi => by
    obtain ⟨q, c, hq, hc, rfl⟩ := rc_ex hi
    rw [mirS_rc hc]
    refine ⟨corner_ltN hq (by omega), ?_⟩
    rw [mirS_rc (by omega), show C - 1 - (C - 1 - c) = c by omega]
  refine ⟨hf, hf, fun i j hi hj => ?_⟩
  obtain ⟨q, c, hq, hc, rfl⟩ := rc_ex hi
  obtain ⟨q', c', hq', hc', rfl⟩ := rc_ex hj
  rw [mirS_rc hc, mirS_rc hc', near_rc hc hq' hc', near_rc (by omega) hq' (by omega), AdjC, AdjC]
  omega
theorem sides_sym {R C R' C' : Nat} {σ τ : Nat → Nat} (s : Sym R C R' C' σ τ) (hC : 0 < C) (hC' : 0 < C') {h h' : Nat → Int} {lv : Int} (e : ∀ i, i < R' * C' → h' i = h (σ i)) : sidesTo R' C' h' lv (R' * C') = sidesTo R C h lv (R * C) := by
  have h1 := sides_pair (R := R) (h := h) (lv := lv) hC
  have h2 := sides_pair (R := R') (h := h') (lv := lv) hC'
  have h3 := pairN_sym s (P := landB h lv) (Q := landB h' lv) fun i hi => by simp only [landB, e i hi]
  omega
theorem land_sym {R C R' C' : Nat} {σ τ : Nat → Nat} (s : Sym R C R' C' σ τ) {h h' : Nat → Int} {lv : Int} (e : ∀ i, i < R' * C' → h' i = h (σ i)) : cntp (fun i => lv ≤ h' i) (R' * C') = cntp (fun i => lv ≤ h i) (R * C) :=
  cntp_perm σ τ s.f s.b _ _ fun i hi => by rw [e i hi]
theorem shore_sym {R C R' C' : Nat} {σ τ : Nat → Nat} (s : Sym R C R' C' σ τ) (hC : 0 < C) (hC' : 0 < C') {h h' : Nat → Int} {lv : Int} (e : ∀ i, i < R' * C' → h' i = h (σ i)) : shoreTo R' C' h' lv (R' * C') = shoreTo R C h lv (R * C) := by
  rw [shore_sides hC, shore_sides hC', sides_sym s hC hC' e, land_sym s e]
end Go.SW
