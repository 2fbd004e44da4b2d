/- Maths: the cells around a cell, the border, lakes. -/
import Derived.Test.YtdlepfeckiahdaaM7
set_option linter.all false
namespace Go.SW
def arCell (R C q c t : Nat) : List Nat := if t ≠ 4 ∧ 1 ≤ q + t / 3 ∧ q + t / 3 ≤ R ∧ 1 ≤ c + t % 3 ∧ c + t % 3 ≤ C then [(q + t / 3 - 1) * C + (c + t % 3 - 1)] else []
def aroundTo (R C i : Nat) : Nat → List Nat
  | 0 => []
  | k + 1 => aroundTo R C i k ++ arCell R C (i / C) (i % C) k
def aroundN (R C i : Nat) : List Nat := aroundTo R C i 9
theorem aroundTo_len (R C i : Nat) : ∀ k, (aroundTo R C i k).length ≤ k
  | 0 => Nat.le_refl _
  | k + 1 => by
    have := aroundTo_len R C i k
    simp only [aroundTo, arCell, List.length_append]
    split <;> simp <;> omega
def AroC (q c q' c' : Nat) : Prop := ¬ (q = q' ∧ c = c') ∧ q ≤ q' + 1 ∧ q' ≤ q + 1 ∧ c ≤ c' + 1 ∧ c' ≤ c + 1
theorem aro_mem {R C i j : Nat} : ∀ {k}, j ∈ aroundTo R C i k ↔ ∃ t, t < k ∧ j ∈ arCell R C (i / C) (i % C) t
  | 0 => by simp [aroundTo]
  | k + 1 => by
    simp only [aroundTo, List.mem_append, aro_mem (k := k)]
    constructor
    · rintro (⟨t, h1, h2⟩ | h)
      · exact ⟨t, by omega, h2⟩
      · exact ⟨k, by omega, h⟩
    · rintro ⟨t, h1, h2⟩
      by_cases e : t = k
      · subst e; exact .inr h2
      · exact .inl ⟨t, by omega, h2⟩
theorem ar_mem {R C q c t j : Nat} : j ∈ arCell R C q c t ↔ (t ≠ 4 ∧ 1 ≤ q + t / 3 ∧ q + t / 3 ≤ R ∧ 1 ≤ c + t % 3 ∧ c + t % 3 ≤ C) ∧ j = (q + t / 3 - 1) * C + (c + t % 3 - 1) := by
  simp only [arCell]; split <;> rename_i h <;> simp [h]
theorem aro_rc {R C q c q' c' : Nat} (hc : c < C) (hq' : q' < R) (hc' : c' < C) : q' * C + c' ∈ aroundN R C (q * C + c) ↔ AroC q c q' c' := by
  rw [aroundN, aro_mem, (rc_eq (q := q) hc).1, (rc_eq (q := q) hc).2, AroC]
  constructor
  · rintro ⟨t, h1, h2⟩
    obtain ⟨h3, h4⟩ := ar_mem.1 h2
    obtain ⟨e1, e2⟩ := rc_inj (q := q') (q' := q + t / 3 - 1) hc' (by omega : c + t % 3 - 1 < C) h4
    omega
  · intro h
    refine ⟨3 * (q' + 1 - q) + (c' + 1 - c), by omega, ar_mem.2 ?_⟩
    have e1 : (3 * (q' + 1 - q) + (c' + 1 - c)) / 3 = q' + 1 - q := by omega
    have e2 : (3 * (q' + 1 - q) + (c' + 1 - c)) % 3 = c' + 1 - c := by omega
    rw [e1, e2]
    refine ⟨by omega, ?_⟩
    rw [show q + (q' + 1 - q) - 1 = q' by omega, show c + (c' + 1 - c) - 1 = c' by omega]
theorem aro_lt {R C : Nat} : ∀ i, i < R * C → ∀ j ∈ aroundN R C i, j < R * C := fun i hi j hj => by
  obtain ⟨t, h1, h2⟩ := aro_mem.1 hj
  obtain ⟨h3, h4⟩ := ar_mem.1 h2
  rw [h4]; exact corner_ltN (by omega) (by omega)
theorem aro_sym {R C i j : Nat} (hi : i < R * C) (hj : j < R * C) (h : j ∈ aroundN R C i) : i ∈ aroundN R C j := by
  obtain ⟨q, c, hq, hc, rfl⟩ := rc_ex hi
  obtain ⟨q', c', hq', hc', rfl⟩ := rc_ex hj
  rw [aro_rc hc hq' hc', AroC] at h
  rw [aro_rc hc' hq hc, AroC]; omega
def bordB (R C i : Nat) : Bool := decide (i / C = 0 ∨ i / C + 1 = R ∨ i % C = 0 ∨ i % C + 1 = C)
theorem bord_rc {R C q c : Nat} (hc : c < C) : bordB R C (q * C + c) = decide (q = 0 ∨ q + 1 = R ∨ c = 0 ∨ c + 1 = C) := by
  simp only [bordB, (rc_eq (q := q) hc).1, (rc_eq (q := q) hc).2]
structure Sym8 (R C R' C' : Nat) (σ τ : Nat → Nat) : Prop where
  f : ∀ i, i < R' * C' → σ i < R * C ∧ τ (σ i) = i
  b : ∀ j, j < R * C → τ j < R' * C' ∧ σ (τ j) = j
  adj : ∀ i j, i < R' * C' → j < R' * C' → (j ∈ aroundN R' C' i ↔ σ j ∈ aroundN R C (σ i))
  bor : ∀ i, i < R' * C' → bordB R' C' i = bordB R C (σ i)
theorem turn_sym8 (R C : Nat) : Sym8 R C C R (turnS R C) (turnT R C) := by
  have s := turn_sym R C
  refine ⟨s.f, s.b, fun i j hi hj => ?_, fun i hi => ?_⟩
  · obtain ⟨q, c, hq, hc, rfl⟩ := rc_ex hi
    obtain ⟨q', c', hq', hc', rfl⟩ := rc_ex hj
    rw [turnS_rc hc, turnS_rc hc', aro_rc hc hq' hc', aro_rc hq (by omega) hq', AroC, AroC]
    omega
  · obtain ⟨q, c, hq, hc, rfl⟩ := rc_ex hi
    rw [turnS_rc hc, bord_rc hc, bord_rc hq]
    rw [decide_eq_decide]; omega
theorem mir_sym8 (R C : Nat) : Sym8 R C R C (mirS C) (mirS C) := by
  have s := mir_sym R C
  refine ⟨s.f, s.b, fun i j hi hj => ?_, fun i hi => ?_⟩
  · obtain ⟨q, c, hq, hc, rfl⟩ := rc_ex hi
    obtain ⟨q', c', hq', hc', rfl⟩ := rc_ex hj
    rw [mirS_rc hc, mirS_rc hc', aro_rc hc hq' hc', aro_rc (by omega) hq' (by omega), AroC, AroC]
    omega
  · obtain ⟨q, c, hq, hc, rfl⟩ := rc_ex hi
    rw [mirS_rc hc, bord_rc hc, bord_rc (by omega)]
    rw [decide_eq_decide]; omega

/-! ## lakes -/
section
variable (R C : Nat) (act : Nat → Bool)
/-- Whether a border cell ahead of k has this root. -/
def opTo : Nat → Nat → Bool
  | 0, _ => false
  | k + 1, j => opTo k j || (bordB R C k && decide (repF (aroundN R C) act (R * C) k = j))
def lakeP (r : Nat) : Prop := rootB (aroundN R C) act (R * C) r ∧ opTo R C act (R * C) r = false
instance : DecidablePred (lakeP R C act) := fun r => inferInstanceAs (Decidable (rootB (aroundN R C) act (R * C) r ∧ opTo R C act (R * C) r = false))
def lakeN : Nat := cntp (lakeP R C act) (R * C)
variable {R C act}
theorem opTo_iff {j : Nat} : ∀ {k}, opTo R C act k j = true ↔ ∃ i, i < k ∧ bordB R C i = true ∧ repF (aroundN R C) act (R * C) i = j
  | 0 => by simp [opTo]
  | k + 1 => by
    simp only [opTo, Bool.or_eq_true, Bool.and_eq_true, decide_eq_true_eq, opTo_iff (k := k)]
    constructor
    · rintro (⟨i, h1, h2⟩ | h)
      · exact ⟨i, by omega, h2⟩
      · exact ⟨k, by omega, h⟩
    · rintro ⟨i, h1, h2⟩
      by_cases e : i = k
      · subst e; exact .inr h2
      · exact .inl ⟨i, by omega, h2⟩
theorem op_false {k j : Nat} : opTo R C act k j = false ↔ ∀ i, i < k → bordB R C i = true → repF (aroundN R C) act (R * C) i ≠ j := by
  constructor
  · intro h i h1 h2 h3
    have := opTo_iff.2 ⟨i, h1, h2, h3⟩
    rw [h] at this; cases this
  · intro h
    cases e : opTo R C act k j with
    | false => rfl
    | true => obtain ⟨i, h1, h2, h3⟩ := opTo_iff.1 e; exact absurd h3 (h i h1 h2)
end
theorem EqvC.map {E E' : Nat → Nat → Prop} (σ : Nat → Nat) (e : ∀ i j, E i j → E' (σ i) (σ j)) {a b : Nat} (h : EqvC E a b) : EqvC E' (σ a) (σ b) := by
  induction h with
  | refl i => exact .refl _
  | base h => exact .base (e _ _ h)
  | symm _ ih => exact .symm ih
  | trans _ _ ih1 ih2 => exact .trans ih1 ih2
theorem lake_le {R C R' C' : Nat} {σ τ : Nat → Nat} {P Q : Nat → Bool} (h1 : ∀ i, i < R * C → τ i < R' * C' ∧ σ (τ i) = i) (h2 : ∀ i, i < R' * C' → σ i < R * C) (e : ∀ i j, Edg (aroundN R' C') Q (R' * C') i j → Edg (aroundN R C) P (R * C) (σ i) (σ j)) (hb : ∀ i, i < R' * C' → bordB R' C' i = bordB R C (σ i)) (ha : ∀ i, i < R * C → P i = Q (τ i)) : lakeN R C P ≤ lakeN R' C' Q := by
  have u' := rep_ok (act := Q) (aro_lt (R := R') (C := C'))
  refine comp_inj aro_lt aro_lt σ τ h1 e (fun _ _ h => h.1) fun r hr ⟨hrt, hop⟩ => ?_
  have ht := h1 r hr
  obtain ⟨h3, h4⟩ := rep_root (nb := aroundN R' C') (act := Q) aro_lt ht.1 (by rw [← ha r hr]; exact hrt.1)
  refine ⟨h4, op_false.2 fun i hi hbi hri => ?_⟩
  have ev := u'.snd i (τ r) hi ht.1 hri
  have ev2 := rep_eqv aro_lt (EqvC.map σ e ev)
  rw [ht.2, hrt.2] at ev2
  exact op_false.1 hop (σ i) (h2 i hi) (by rw [← hb i hi]; exact hbi) ev2
theorem lake_sym {R C R' C' : Nat} {σ τ : Nat → Nat} (s : Sym8 R C R' C' σ τ) {P Q : Nat → Bool} (h : ∀ i, i < R' * C' → Q i = P (σ i)) : lakeN R' C' Q = lakeN R C P := by
  have hE1 : ∀ i j, Edg (aroundN R' C') Q (R' * C') i j → Edg (aroundN R C) P (R * C) (σ i) (σ j) := fun i j ⟨h1, h2, h3, h4⟩ => by
    have hj := aro_lt i h1 j h2
    exact ⟨(s.f i h1).1, (s.adj i j h1 hj).1 h2, by rw [← h i h1]; exact h3, by rw [← h j hj]; exact h4⟩
  have hE2 : ∀ i j, Edg (aroundN R C) P (R * C) i j → Edg (aroundN R' C') Q (R' * C') (τ i) (τ j) := fun i j ⟨h1, h2, h3, h4⟩ => by
    have hj := aro_lt i h1 j h2
    have b1 := s.b i h1
    have b2 := s.b j hj
    exact ⟨b1.1, (s.adj _ _ b1.1 b2.1).2 (by rw [b1.2, b2.2]; exact h2), by rw [h _ b1.1, b1.2]; exact h3, by rw [h _ b2.1, b2.2]; exact h4⟩
  refine Nat.le_antisymm (lake_le s.f (fun i hi => (s.b i hi).1) hE2 (fun i hi => ?_) h) (lake_le s.b (fun i hi => (s.f i hi).1) hE1 s.bor fun i hi => ?_)
  · have b1 := s.b i hi
    rw [s.bor _ b1.1, b1.2]
  · have b1 := s.b i hi
    rw [h _ b1.1, b1.2]

/-! ## a lake has land on four sides -/
theorem ex_max (f : Nat → Nat) (p : Nat → Prop) : ∀ n, (∃ i, i < n ∧ p i) → ∃ m, m < n ∧ p m ∧ ∀ i, i < n → p i → f i ≤ f m
  | 0, ⟨i, h, _⟩ => by omega
  | n + 1, ⟨i, hi, pi⟩ => by
    by_cases h : ∃ i, i < n ∧ p i
    · obtain ⟨m, h1, h2, h3⟩ := ex_max f p n h
      by_cases hn : p n ∧ f m ≤ f n
      · refine ⟨n, by omega, hn.1, fun j hj pj => ?_⟩
        by_cases e : j = n
        · subst e; exact Nat.le_refl _
        · have := h3 j (by omega) pj; omega
      · refine ⟨m, by omega, h2, fun j hj pj => ?_⟩
        by_cases e : j = n
        · subst e
          by_cases hle : f m ≤ f j
          · exact absurd ⟨pj, hle⟩ hn
          · omega
        · exact h3 j (by omega) pj
    · have e : i = n := by
        by_cases e : i = n
        · exact e
        · exact absurd ⟨i, by omega, pi⟩ h
      subst e
      refine ⟨i, hi, pi, fun j hj pj => ?_⟩
      by_cases e : j = i
      · subst e; exact Nat.le_refl _
      · exact absurd ⟨j, by omega, pj⟩ h
theorem cntp_four {p : Nat → Prop} [DecidablePred p] {n a b c d : Nat} (ha : a < n ∧ p a) (hb : b < n ∧ p b) (hc : c < n ∧ p c) (hd : d < n ∧ p d) (h : a ≠ b ∧ a ≠ c ∧ a ≠ d ∧ b ≠ c ∧ b ≠ d ∧ c ≠ d) : 4 ≤ cntp p n := by
  have := cntp_inj (n := 4) (m := n) (p := fun _ => True) (q := p) (fun k => if k = 0 then a else if k = 1 then b else if k = 2 then c else d) (fun i _ _ => by
    split
    · exact ha
    · split
      · exact hb
      · split
        · exact hc
        · exact hd) (fun i j hi hj _ _ e => by
    have h1 : i = 0 ∨ i = 1 ∨ i = 2 ∨ i = 3 := by omega
    have h2 : j = 0 ∨ j = 1 ∨ j = 2 ∨ j = 3 := by omega
    rcases h1 with rfl | rfl | rfl | rfl <;> rcases h2 with rfl | rfl | rfl | rfl <;> simp at e <;> omega)
  have e : cntp (fun _ : Nat => True) 4 = 4 := by simp [cntp]
  omega
theorem lake_land {R C : Nat} {act : Nat → Bool} (h : 0 < lakeN R C act) : 3 ≤ R ∧ 3 ≤ C ∧ 4 ≤ cntp (fun i => act i = false) (R * C) ∧ cntp (fun i => act i = false) (R * C) < R * C := by
  obtain ⟨r, hr, ⟨ha, hroot⟩, hop⟩ := (cntp_posI _).1 h
  have hop := op_false.1 hop
  have u := rep_ok (act := act) (aro_lt (R := R) (C := C))
  have pr : repF (aroundN R C) act (R * C) r = r := hroot
  have inn : ∀ i, i < R * C → repF (aroundN R C) act (R * C) i = r → ∃ q c, i = q * C + c ∧ 1 ≤ q ∧ q + 2 ≤ R ∧ 1 ≤ c ∧ c + 2 ≤ C := fun i hi hri => by
    obtain ⟨q, c, hq, hc, rfl⟩ := rc_ex hi
    have h1 : ¬ bordB R C (q * C + c) = true := fun hb => hop _ hi hb hri
    rw [bord_rc hc, decide_eq_true_eq] at h1
    exact ⟨q, c, rfl, by omega, by omega, by omega, by omega⟩
  have nbr : ∀ i j, i < R * C → repF (aroundN R C) act (R * C) i = r → j < R * C → j ∈ aroundN R C i → repF (aroundN R C) act (R * C) j ≠ r → act j = false := fun i j hi hri hj hm hrj => by
    cases e : act j with
    | false => rfl
    | true =>
      have hai : act i = true := by rw [← rep_act (nb := aroundN R C) (act := act) aro_lt hi, hri]; exact ha
      exact absurd ((u.cmp i j hi hj ⟨hi, hm, hai, e⟩).symm.trans hri) hrj
  obtain ⟨q0, c0, e0, g1, g2, g3, g4⟩ := inn r hr pr
  have hex : ∃ i, i < R * C ∧ repF (aroundN R C) act (R * C) i = r := ⟨r, hr, pr⟩
  obtain ⟨iN, n1, n2, n3⟩ := ex_max (fun i => R - i / C) _ _ hex
  obtain ⟨iS, s1, s2, s3⟩ := ex_max (fun i => i / C) _ _ hex
  obtain ⟨iW, w1, w2, w3⟩ := ex_max (fun i => C - i % C) _ _ hex
  obtain ⟨iE, t1, t2, t3⟩ := ex_max (fun i => i % C) _ _ hex
  obtain ⟨qN, cN, rfl, nq1, nq2, nc1, nc2⟩ := inn iN n1 n2
  obtain ⟨qS, cS, rfl, sq1, sq2, sc1, sc2⟩ := inn iS s1 s2
  obtain ⟨qW, cW, rfl, wq1, wq2, wc1, wc2⟩ := inn iW w1 w2
  obtain ⟨qE, cE, rfl, eq1, eq2, ec1, ec2⟩ := inn iE t1 t2
  have row : ∀ {q c}, c < C → (q * C + c) / C = q := fun hc => (rc_eq hc).1
  have col : ∀ {q c}, c < C → (q * C + c) % C = c := fun hc => (rc_eq hc).2
  have hN : (qN - 1) * C + cN < R * C ∧ act ((qN - 1) * C + cN) = false := by
    have hl := corner_ltN (R := R) (C := C) (r := qN - 1) (c := cN) (by omega) (by omega)
    refine ⟨hl, nbr _ _ n1 n2 hl ((aro_rc (by omega) (by omega) (by omega)).2 (by simp only [AroC]; omega)) fun e => ?_⟩
    have := n3 _ hl e
    simp only [row (show cN < C by omega)] at this; omega
  have hS : (qS + 1) * C + cS < R * C ∧ act ((qS + 1) * C + cS) = false := by
    have hl := corner_ltN (R := R) (C := C) (r := qS + 1) (c := cS) (by omega) (by omega)
    refine ⟨hl, nbr _ _ s1 s2 hl ((aro_rc (by omega) (by omega) (by omega)).2 (by simp only [AroC]; omega)) fun e => ?_⟩
    have := s3 _ hl e
    simp only [row (show cS < C by omega)] at this; omega
  have hW : qW * C + (cW - 1) < R * C ∧ act (qW * C + (cW - 1)) = false := by
    have hl := corner_ltN (R := R) (C := C) (r := qW) (c := cW - 1) (by omega) (by omega)
    refine ⟨hl, nbr _ _ w1 w2 hl ((aro_rc (by omega) (by omega) (by omega)).2 (by simp only [AroC]; omega)) fun e => ?_⟩
    have := w3 _ hl e
    simp only [col (show cW < C by omega), col (show cW - 1 < C by omega)] at this; omega
  have hE : qE * C + (cE + 1) < R * C ∧ act (qE * C + (cE + 1)) = false := by
    have hl := corner_ltN (R := R) (C := C) (r := qE) (c := cE + 1) (by omega) (by omega)
    refine ⟨hl, nbr _ _ t1 t2 hl ((aro_rc (by omega) (by omega) (by omega)).2 (by simp only [AroC]; omega)) fun e => ?_⟩
    have := t3 _ hl e
    simp only [col (show cE < C by omega), col (show cE + 1 < C by omega)] at this; omega
  have o1 := n3 _ w1 w2
  have o2 := n3 _ t1 t2
  have o3 := s3 _ w1 w2
  have o4 := s3 _ t1 t2
  have o5 := n3 _ s1 s2
  have o6 := w3 _ t1 t2
  simp only [row (show cN < C by omega), row (show cS < C by omega), row (show cW < C by omega), row (show cE < C by omega), col (show cW < C by omega), col (show cE < C by omega)] at o1 o2 o3 o4 o5 o6
  refine ⟨by omega, by omega, cntp_four hN hS hW hE ⟨fun e => ?_, fun e => ?_, fun e => ?_, fun e => ?_, fun e => ?_, fun e => ?_⟩, ?_⟩
  · have := (rc_inj (by omega) (by omega) e).1; omega
  · have := (rc_inj (by omega) (by omega) e).1; omega
  · have := (rc_inj (by omega) (by omega) e).1; omega
  · have := (rc_inj (by omega) (by omega) e).1; omega
  · have := (rc_inj (by omega) (by omega) e).1; omega
  · have := (rc_inj (by omega) (by omega) e).2; omega
  · have h1 : cntp (fun i => act i = false) (R * C) + cntp (fun i => act i = true) (R * C) = R * C := by
      have h2 : ∀ n, cntp (fun i => act i = false) n + cntp (fun i => act i = true) n = n := by
        intro n
        induction n with
        | zero => rfl
        | succ n ih => simp only [cntp]; by_cases e : act n = true <;> simp [e] <;> omega
      exact h2 _
    have h2 := (cntp_posI (fun i => act i = true)).2 ⟨r, hr, ha⟩
    omega
end Go.SW
