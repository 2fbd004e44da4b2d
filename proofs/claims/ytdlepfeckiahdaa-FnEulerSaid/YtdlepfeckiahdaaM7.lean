/- Maths: how many components, how many cells in each; moved grids have as many. -/
import Derived.Test.YtdlepfeckiahdaaM6
set_option linter.all false
namespace Go.SW
theorem cntp_mono (p : Nat → Prop) [DecidablePred p] {a b : Nat} (h : a ≤ b) : cntp p a ≤ cntp p b := by
  induction b with
  | zero => obtain rfl : a = 0 := by omega
            exact Nat.le_refl _
  | succ b ih =>
    by_cases e : a = b + 1
    · subst e; exact Nat.le_refl _
    · have := ih (by omega); simp only [cntp]; omega
theorem cntp_at (p : Nat → Prop) [DecidablePred p] : ∀ {n k : Nat}, k < cntp p n → ∃ r, r < n ∧ p r ∧ cntp p r = k
  | 0, k, h => by simp [cntp] at h
  | n + 1, k, h => by
    by_cases hk : k < cntp p n
    · obtain ⟨r, h1, h2, h3⟩ := cntp_at p hk
      exact ⟨r, by omega, h2, h3⟩
    · simp only [cntp] at h
      by_cases hp : p n
      · rw [if_pos hp] at h; exact ⟨n, by omega, hp, by omega⟩
      · rw [if_neg hp] at h; omega
theorem cntp_lt (p : Nat → Prop) [DecidablePred p] {n r : Nat} (hr : r < n) (hp : p r) : cntp p r < cntp p n := by
  have h1 := cntp_mono p (show r + 1 ≤ n by omega)
  simp only [cntp, if_pos hp] at h1; omega
theorem cntp_posI (p : Nat → Prop) [DecidablePred p] {n : Nat} : 0 < cntp p n ↔ ∃ r, r < n ∧ p r := by
  constructor
  · intro h; obtain ⟨r, h1, h2, _⟩ := cntp_at p h; exact ⟨r, h1, h2⟩
  · rintro ⟨r, h1, h2⟩; have := cntp_lt p h1 h2; omega
theorem count_rangeI (f : Nat → Int) (x : Int) : ∀ n, ((List.range n).map f).count x = cntp (fun i => f i = x) n
  | 0 => rfl
  | n + 1 => by
    rw [List.range_succ, List.map_append, List.count_append, count_rangeI f x n]
    simp only [cntp, List.map_cons, List.map_nil, List.count_cons, List.count_nil, beq_iff_eq]
    by_cases h : f n = x <;> simp [h]
section
variable {nb : Nat → List Nat} {act : Nat → Bool} {n : Nat}
theorem rep_eqv (hnb : ∀ i, i < n → ∀ j ∈ nb i, j < n) {i j : Nat} (e : EqvC (Edg nb act n) i j) : repF nb act n i = repF nb act n j := by
  have u := rep_ok (act := act) hnb
  exact ((EqvC.closed (p := fun x => repF nb act n x = repF nb act n j) (fun a b h => by rw [u.cmp a b h.1 (hnb a h.1 b h.2.1) h]) e).2 rfl)
theorem rep_root (hnb : ∀ i, i < n → ∀ j ∈ nb i, j < n) {i : Nat} (hi : i < n) (ha : act i = true) : repF nb act n i < n ∧ rootB nb act n (repF nb act n i) := by
  have u := rep_ok (act := act) hnb
  have := u.le i hi
  exact ⟨by omega, by rw [rep_act (act := act) hnb hi]; exact ha, u.idem i hi⟩
theorem numOf_lt (hnb : ∀ i, i < n → ∀ j ∈ nb i, j < n) {i : Nat} (hi : i < n) (ha : act i = true) : 0 ≤ numOf nb act n i ∧ numOf nb act n i < (compN nb act n : Nat) := by
  obtain ⟨h1, h2⟩ := rep_root hnb hi ha
  have := cntp_lt (rootB nb act n) h1 h2
  simp only [numOf, if_pos ha, compN]; omega
theorem numOf_none {i : Nat} (h : act i = false) : numOf nb act n i = -1 := by simp [numOf, h]
theorem numOf_ge {i : Nat} (h : 0 ≤ numOf nb act n i) : act i = true := by
  cases e : act i with
  | true => rfl
  | false => rw [numOf_none e] at h; omega
theorem numOf_at {k : Nat} (hk : k < compN nb act n) : ∃ r, r < n ∧ act r = true ∧ numOf nb act n r = (k : Int) := by
  obtain ⟨r, h1, ⟨h2, h3⟩, h4⟩ := cntp_at _ hk
  exact ⟨r, h1, h2, by simp only [numOf, if_pos h2, h3, h4]⟩
/-- Cells of a component, by its number. -/
def areaN (nb : Nat → List Nat) (act : Nat → Bool) (n : Nat) (k : Int) : Nat := cntp (fun i => numOf nb act n i = k) n
theorem area_pos {k : Int} (h0 : 0 ≤ k) (hnb : ∀ i, i < n → ∀ j ∈ nb i, j < n) : 0 < areaN nb act n k ↔ k < (compN nb act n : Nat) := by
  rw [areaN, cntp_posI]
  constructor
  · rintro ⟨r, h1, h2⟩
    have ha : act r = true := numOf_ge (by rw [h2]; exact h0)
    have := (numOf_lt hnb h1 ha).2
    omega
  · intro h
    obtain ⟨r, h1, _, h3⟩ := numOf_at (nb := nb) (act := act) (n := n) (k := k.toNat) (by omega)
    exact ⟨r, h1, by rw [h3]; omega⟩
theorem area_sum (hnb : ∀ i, i < n → ∀ j ∈ nb i, j < n) : sumN (fun k => areaN nb act n (k : Int)) (compN nb act n) = cntp (fun i => act i = true) n := by
  have e : sumN (fun k => areaN nb act n (k : Int)) (compN nb act n) = sumN (fun k => sumN (fun i => if numOf nb act n i = (k : Int) then 1 else 0) n) (compN nb act n) := sumN_congr fun k _ => (sumN_cntp _ n).symm
  rw [e, sumN_swap, ← sumN_cntp]
  refine sumN_congr fun i hi => ?_
  by_cases ha : act i = true
  · rw [if_pos ha]
    obtain ⟨h1, h2⟩ := numOf_lt hnb hi ha
    refine (sumN_congr fun k _ => ?_).trans (sumN_single (n := compN nb act n) (a := (numOf nb act n i).toNat) (by omega) 1)
    by_cases hk : k = (numOf nb act n i).toNat
    · rw [if_pos hk, if_pos (by omega)]
    · rw [if_neg hk, if_neg (by omega)]
  · rw [if_neg ha]
    have h1 : numOf nb act n i = -1 := numOf_none (by simpa using ha)
    exact (sumN_congr (g := fun _ => 0) fun k _ => by rw [h1, if_neg (by omega)]).trans (sumN_zero _)
theorem comp_le (nb : Nat → List Nat) (act : Nat → Bool) (n : Nat) : compN nb act n ≤ cntp (fun i => act i = true) n := cntp_le_of _ _ (fun _ h => h.1) n
theorem comp_zero (hnb : ∀ i, i < n → ∀ j ∈ nb i, j < n) : compN nb act n = 0 ↔ cntp (fun i => act i = true) n = 0 := by
  constructor
  · intro h
    by_cases h0 : cntp (fun i => act i = true) n = 0
    · exact h0
    · obtain ⟨r, h1, h2⟩ := (cntp_posI _).1 (Nat.pos_of_ne_zero h0)
      obtain ⟨h3, h4⟩ := rep_root hnb h1 h2
      have := (cntp_posI (rootB nb act n)).2 ⟨_, h3, h4⟩
      simp only [compN] at h; omega
  · intro h; have := comp_le nb act n; omega
/-- Roots of one graph go one to one to roots of another. -/
theorem comp_inj {nb' : Nat → List Nat} {act' : Nat → Bool} {n' : Nat} (hnb : ∀ i, i < n → ∀ j ∈ nb i, j < n) (hnb' : ∀ i, i < n' → ∀ j ∈ nb' i, j < n') (σ τ : Nat → Nat) (h1 : ∀ i, i < n → τ i < n' ∧ σ (τ i) = i)
    (e : ∀ i j, Edg nb' act' n' i j → Edg nb act n (σ i) (σ j)) {p q : Nat → Prop} [DecidablePred p] [DecidablePred q] (hp : ∀ r, r < n → p r → rootB nb act n r) (hq : ∀ r, r < n → p r → q (repF nb' act' n' (τ r))) : cntp p n ≤ cntp q n' := by
  have u' := rep_ok (act := act') hnb'
  refine cntp_inj (fun r => repF nb' act' n' (τ r)) (fun r hr h => ⟨by have := u'.le (τ r) (h1 r hr).1; have := (h1 r hr).1; omega, hq r hr h⟩) fun i j hi hj pi pj he => ?_
  have ev := u'.snd (τ i) (τ j) (h1 i hi).1 (h1 j hj).1 he
  have map : ∀ {a b}, EqvC (Edg nb' act' n') a b → EqvC (Edg nb act n) (σ a) (σ b) := by
    intro a b h
    induction h with
    | refl i => exact .refl _
    | base h => exact .base (e _ _ h)
    | symm _ ih => exact .symm ih
    | trans _ _ ih1 ih2 => exact .trans ih1 ih2
  have := rep_eqv hnb (map ev)
  rw [(h1 i hi).2, (h1 j hj).2, (hp i hi pi).2, (hp j hj pj).2] at this
  exact this
end
theorem comp_sym {R C R' C' : Nat} {σ τ : Nat → Nat} (s : Sym R C R' C' σ τ) {P Q : Nat → Bool} (h : ∀ i, i < R' * C' → Q i = P (σ i)) : compN (nearN R' C') Q (R' * C') = compN (nearN R C) P (R * C) := by
  have hn1 : ∀ i, i < R * C → ∀ j ∈ nearN R C i, j < R * C := fun i hi => nearN_lt hi
  have hn2 : ∀ i, i < R' * C' → ∀ j ∈ nearN R' C' i, j < R' * C' := fun i hi => nearN_lt hi
  have hE1 : ∀ i j, Edg (nearN R' C') Q (R' * C') i j → Edg (nearN R C) P (R * C) (σ i) (σ j) := fun i j ⟨h1, h2, h3, h4⟩ => by
    have hj := hn2 i h1 j h2
    exact ⟨(s.f i h1).1, (s.adj i j h1 hj).1 h2, by rw [← h i h1]; exact h3, by rw [← h j hj]; exact h4⟩
  have hE2 : ∀ i j, Edg (nearN R C) P (R * C) i j → Edg (nearN R' C') Q (R' * C') (τ i) (τ j) := fun i j ⟨h1, h2, h3, h4⟩ => by
    have hj := hn1 i h1 j h2
    have b1 := s.b i h1
    have b2 := s.b j hj
    exact ⟨b1.1, (s.adj _ _ b1.1 b2.1).2 (by rw [b1.2, b2.2]; exact h2), by rw [h _ b1.1, b1.2]; exact h3, by rw [h _ b2.1, b2.2]; exact h4⟩
  refine Nat.le_antisymm (comp_inj hn2 hn1 τ σ s.f hE2 (fun _ _ h => h) fun r hr hrt => ?_) (comp_inj hn1 hn2 σ τ s.b hE1 (fun _ _ h => h) fun r hr hrt => ?_)
  · exact (rep_root hn1 (s.f r hr).1 (by rw [← h r hr]; exact hrt.1)).2
  · have b1 := s.b r hr
    exact (rep_root hn2 b1.1 (by rw [h _ b1.1, b1.2]; exact hrt.1)).2
end Go.SW
