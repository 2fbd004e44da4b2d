/- Maths of Euler's law: chains modulo two. A land cycle through a cell encloses the cell in its north-west. -/
import Derived.Test.YtdlepfeckiahdaaM8
set_option linter.all false
namespace Go.SW
/-- Sums modulo two. -/
def X (f : Nat → Bool) : Nat → Bool
  | 0 => false
  | n + 1 => X f n ^^ f n
theorem X_congr {f g : Nat → Bool} : ∀ n, (∀ i, i < n → f i = g i) → X f n = X g n
  | 0, _ => rfl
  | n + 1, h => by simp only [X, X_congr n (fun i hi => h i (by omega)), h n (by omega)]
theorem X_zero : ∀ n, X (fun _ => false) n = false
  | 0 => rfl
  | n + 1 => by simp [X, X_zero n]
theorem X_add (f g : Nat → Bool) : ∀ n, X (fun i => f i ^^ g i) n = (X f n ^^ X g n)
  | 0 => rfl
  | n + 1 => by
    simp only [X, X_add f g n]
    cases X f n <;> cases X g n <;> cases f n <;> cases g n <;> rfl
theorem X_tel (g : Nat → Bool) : ∀ n, X (fun i => g i ^^ g (i + 1)) n = (g 0 ^^ g n)
  | 0 => by simp [X]
  | n + 1 => by
    simp only [X, X_tel g n]
    cases g 0 <;> cases g n <;> cases g (n + 1) <;> rfl
theorem X_one {n a : Nat} (ha : a < n) (b : Bool) : X (fun i => decide (i = a) && b) n = b := by
  have : ∀ m, X (fun i => decide (i = a) && b) m = (decide (a < m) && b) := fun m => by
    induction m with
    | zero => simp [X]
    | succ m ih =>
      simp only [X, ih]
      by_cases h1 : a < m
      · have h2 : ¬ m = a := by omega
        have h3 : a < m + 1 := by omega
        simp [h1, h2, h3]
      · by_cases h2 : m = a
        · have h3 : a < m + 1 := by omega
          simp [h1, h2]
        · have h3 : ¬ a < m + 1 := by omega
          simp [h1, h2, h3]
  rw [this, decide_eq_true ha, Bool.true_and]
theorem X_tail {f : Nat → Bool} {m : Nat} : ∀ n, m ≤ n → (∀ i, m ≤ i → i < n → f i = false) → X f n = X f m
  | 0, h, _ => by have : m = 0 := by omega
                  rw [this]
  | n + 1, h, hz => by
    by_cases e : m = n + 1
    · rw [e]
    · simp only [X, X_tail n (by omega) (fun i h1 h2 => hz i h1 (by omega)), hz n (by omega) (by omega), Bool.xor_false]
section
variable {R C : Nat}
/-- Edges of land: v q c leads from (q, c) down, h q c to the right. -/
structure Supp (R C : Nat) (A : Nat → Bool) (v h : Nat → Nat → Bool) : Prop where
  v : ∀ q c, v q c = true → q + 1 < R ∧ c < C ∧ A (q * C + c) = true ∧ A ((q + 1) * C + c) = true
  h : ∀ q c, h q c = true → q < R ∧ c + 1 < C ∧ A (q * C + c) = true ∧ A (q * C + (c + 1)) = true
def upE (v : Nat → Nat → Bool) (q c : Nat) : Bool := if q = 0 then false else v (q - 1) c
def leE (h : Nat → Nat → Bool) (q c : Nat) : Bool := if c = 0 then false else h q (c - 1)
def bdE (v h : Nat → Nat → Bool) (q c : Nat) : Bool := (upE v q c ^^ v q c) ^^ (leE h q c ^^ h q c)
theorem idx_dec {q c r s : Nat} (hc : c < C) (hs : s < C) : decide (q * C + c = r * C + s) = (decide (r = q) && decide (s = c)) := by
  rw [Bool.eq_iff_iff]
  simp only [decide_eq_true_eq, Bool.and_eq_true]
  constructor
  · intro e
    obtain ⟨h1, h2⟩ := rc_inj hc hs e
    exact ⟨h1.symm, h2.symm⟩
  · rintro ⟨rfl, rfl⟩; rfl
theorem ch_right {A : Nat → Bool} {q c : Nat} (hq : q < R) (hc : c + 1 < C) (h1 : A (q * C + c) = true) (h2 : A (q * C + (c + 1)) = true) :
    Supp R C A (fun _ _ => false) (fun r s => decide (r = q) && decide (s = c)) ∧ ∀ r s, s < C → bdE (fun _ _ => false) (fun r s => decide (r = q) && decide (s = c)) r s = (decide (q * C + c = r * C + s) ^^ decide (q * C + (c + 1) = r * C + s)) := by
  refine ⟨⟨fun r s e => by simp at e, fun r s e => ?_⟩, fun r s hs => ?_⟩
  · simp only [Bool.and_eq_true, decide_eq_true_eq] at e
    obtain ⟨rfl, rfl⟩ := e
    exact ⟨hq, hc, h1, h2⟩
  · rw [idx_dec (by omega) hs, idx_dec hc hs]
    simp only [bdE, upE, leE]
    by_cases e1 : r = q
    · by_cases e0 : s = 0
      · subst e0
        by_cases e2 : c = 0
        · simp [e1, e2]
        · have : ¬ (0 = c) := by omega
          simp [e1, this]
      · by_cases e2 : s = c
        · have : ¬ (s - 1 = c) := by omega
          have h3 : ¬ (s = c + 1) := by omega
          simp [e1, e0, e2, h3]
          omega
        · by_cases e3 : s = c + 1
          · have : s - 1 = c := by omega
            simp [e1, e0, e2, e3]
          · have : ¬ (s - 1 = c) := by omega
            simp [e1, e0, e2, e3, this]
    · simp [e1]
theorem ch_down {A : Nat → Bool} {q c : Nat} (hq : q + 1 < R) (hc : c < C) (h1 : A (q * C + c) = true) (h2 : A ((q + 1) * C + c) = true) :
    Supp R C A (fun r s => decide (r = q) && decide (s = c)) (fun _ _ => false) ∧ ∀ r s, s < C → bdE (fun r s => decide (r = q) && decide (s = c)) (fun _ _ => false) r s = (decide (q * C + c = r * C + s) ^^ decide ((q + 1) * C + c = r * C + s)) := by
  refine ⟨⟨fun r s e => ?_, fun r s e => by simp at e⟩, fun r s hs => ?_⟩
  · simp only [Bool.and_eq_true, decide_eq_true_eq] at e
    obtain ⟨rfl, rfl⟩ := e
    exact ⟨hq, hc, h1, h2⟩
  · rw [idx_dec hc hs, idx_dec hc hs]
    simp only [bdE, upE, leE]
    by_cases e1 : s = c
    · by_cases e0 : r = 0
      · subst e0
        by_cases e2 : q = 0
        · simp [e1, e2]
        · have : ¬ (0 = q) := by omega
          simp [e1, this]
      · by_cases e2 : r = q
        · have : ¬ (r - 1 = q) := by omega
          have h3 : ¬ (r = q + 1) := by omega
          simp [e1, e0, e2, h3]
          omega
        · by_cases e3 : r = q + 1
          · have : r - 1 = q := by omega
            simp [e1, e0, e2, e3]
          · have : ¬ (r - 1 = q) := by omega
            simp [e1, e0, e2, e3, this]
    · simp [e1]
theorem bdE_add (v h v' h' : Nat → Nat → Bool) (q c : Nat) : bdE (fun r s => v r s ^^ v' r s) (fun r s => h r s ^^ h' r s) q c = (bdE v h q c ^^ bdE v' h' q c) := by
  simp only [bdE, upE, leE]
  by_cases e1 : q = 0 <;> by_cases e2 : c = 0 <;> simp only [e1, e2, if_true, if_false]
  · cases v 0 0 <;> cases v' 0 0 <;> cases h 0 0 <;> cases h' 0 0 <;> rfl
  · cases v 0 c <;> cases v' 0 c <;> cases h 0 c <;> cases h' 0 c <;> cases h 0 (c - 1) <;> cases h' 0 (c - 1) <;> rfl
  · cases v q 0 <;> cases v' q 0 <;> cases h q 0 <;> cases h' q 0 <;> cases v (q - 1) 0 <;> cases v' (q - 1) 0 <;> rfl
  · cases v q c <;> cases v' q c <;> cases h q c <;> cases h' q c <;> cases v (q - 1) c <;> cases v' (q - 1) c <;> cases h q (c - 1) <;> cases h' q (c - 1) <;> rfl
theorem Supp.add {A : Nat → Bool} {v h v' h' : Nat → Nat → Bool} (s : Supp R C A v h) (s' : Supp R C A v' h') : Supp R C A (fun r s => v r s ^^ v' r s) (fun r s => h r s ^^ h' r s) := by
  refine ⟨fun q c e => ?_, fun q c e => ?_⟩
  · cases e1 : v q c with
    | true => exact s.v q c e1
    | false => rw [e1] at e; exact s'.v q c (by simpa using e)
  · cases e1 : h q c with
    | true => exact s.h q c e1
    | false => rw [e1] at e; exact s'.h q c (by simpa using e)
theorem Supp.mono {A B : Nat → Bool} {v h : Nat → Nat → Bool} (s : Supp R C A v h) (hab : ∀ i, A i = true → B i = true) : Supp R C B v h :=
  ⟨fun q c e => let ⟨a, b, c, d⟩ := s.v q c e; ⟨a, b, hab _ c, hab _ d⟩, fun q c e => let ⟨a, b, c, d⟩ := s.h q c e; ⟨a, b, hab _ c, hab _ d⟩⟩
/-- Connected cells bound a chain. -/
theorem chain_of {A : Nat → Bool} {a b : Nat} (e : EqvC (Edg (nearN R C) A (R * C)) a b) : ∃ v h, Supp R C A v h ∧ ∀ q c, c < C → bdE v h q c = (decide (a = q * C + c) ^^ decide (b = q * C + c)) := by
  induction e with
  | refl i => exact ⟨fun _ _ => false, fun _ _ => false, ⟨fun q c e => by simp at e, fun q c e => by simp at e⟩, fun q c _ => by simp [bdE, upE, leE]⟩
  | @base i j ed =>
    obtain ⟨h1, h2, h3, h4⟩ := ed
    have hj := nearN_lt h1 j h2
    obtain ⟨q, c, hq, hc, rfl⟩ := rc_ex h1
    obtain ⟨q', c', hq', hc', rfl⟩ := rc_ex hj
    rw [near_rc hc hq' hc', AdjC] at h2
    rcases h2 with ⟨rfl, (rfl | rfl)⟩ | ⟨rfl, (rfl | rfl)⟩
    · exact ⟨_, _, (ch_right hq hc' h3 h4).1, (ch_right hq hc' h3 h4).2⟩
    · refine ⟨_, _, (ch_right hq hc h4 h3).1, fun r s hs => ?_⟩
      rw [(ch_right hq hc h4 h3).2 r s hs, Bool.xor_comm]
    · exact ⟨_, _, (ch_down hq' hc h3 h4).1, (ch_down hq' hc h3 h4).2⟩
    · refine ⟨_, _, (ch_down hq hc h4 h3).1, fun r s hs => ?_⟩
      rw [(ch_down hq hc h4 h3).2 r s hs, Bool.xor_comm]
  | symm _ ih =>
    obtain ⟨v, h, s, e⟩ := ih
    exact ⟨v, h, s, fun q c hc => by rw [e q c hc, Bool.xor_comm]⟩
  | @trans i j k _ _ ih1 ih2 =>
    obtain ⟨v, h, s, e⟩ := ih1
    obtain ⟨v', h', s', e'⟩ := ih2
    refine ⟨_, _, s.add s', fun q c hc => ?_⟩
    rw [bdE_add, e q c hc, e' q c hc]
    cases decide (i = q * C + c) <;> cases decide (j = q * C + c) <;> cases decide (k = q * C + c) <;> rfl
/-- A cycle. -/
structure Cyc (R C : Nat) (A : Nat → Bool) (v h : Nat → Nat → Bool) : Prop where
  s : Supp R C A v h
  z : ∀ q c, q < R → c < C → bdE v h q c = false
variable {A : Nat → Bool} {v h : Nat → Nat → Bool}
theorem Cyc.row (y : Cyc R C A v h) {q : Nat} (hq : q < R) : ∀ m, m ≤ C → (X (upE v q) m ^^ X (v q) m) = leE h q m
  | 0, _ => by simp [X, leE]
  | m + 1, hm => by
    have ih := y.row hq m (by omega)
    have hz := y.z q m hq (by omega)
    simp only [bdE] at hz
    have e : leE h q (m + 1) = h q m := by simp [leE]
    simp only [X, e]
    rw [← ih] at hz
    revert hz
    cases X (upE v q) m <;> cases X (v q) m <;> cases upE v q m <;> cases v q m <;> cases h q m <;> simp
theorem Supp.hlast (s : Supp R C A v h) (q : Nat) : leE h q C = false := by
  simp only [leE]
  split
  · rfl
  · cases e : h q (C - 1) with
    | false => rfl
    | true => have := s.h q (C - 1) e; omega
theorem Cyc.tot (y : Cyc R C A v h) : ∀ q, q < R → X (v q) C = false
  | 0, hq => by
    have h1 := y.row hq C (Nat.le_refl _)
    rw [y.s.hlast] at h1
    have h2 : X (upE v 0) C = false := by
      rw [X_congr (g := fun _ => false) C (fun i _ => by simp [upE])]; exact X_zero C
    rw [h2] at h1; simpa using h1
  | q + 1, hq => by
    have h1 := y.row hq C (Nat.le_refl _)
    rw [y.s.hlast] at h1
    have h2 : X (upE v (q + 1)) C = false := by
      rw [X_congr (g := v q) C (fun i _ => by simp [upE])]; exact y.tot q (by omega)
    rw [h2] at h1; simpa using h1
theorem Supp.v0 (s : Supp R C A v h) {q c : Nat} (hw : A (q * C + c) = false) : v q c = false := by
  cases e : v q c with
  | false => rfl
  | true => have := (s.v q c e).2.2.1; rw [hw] at this; cases this
theorem Supp.v1 (s : Supp R C A v h) {q c : Nat} (hw : A ((q + 1) * C + c) = false) : v q c = false := by
  cases e : v q c with
  | false => rfl
  | true => have := (s.v q c e).2.2.2; rw [hw] at this; cases this
theorem Supp.h0 (s : Supp R C A v h) {q c : Nat} (hw : A (q * C + c) = false) : h q c = false := by
  cases e : h q c with
  | false => rfl
  | true => have := (s.h q c e).2.2.1; rw [hw] at this; cases this
/-- How often the ray to the left crosses a cycle. -/
def ray (v : Nat → Nat → Bool) (q c : Nat) : Bool := X (v q) (c + 1)
theorem Cyc.down (y : Cyc R C A v h) {q m : Nat} (hq : q + 1 < R) (hm : m + 1 ≤ C) (hh : h (q + 1) m = false) : X (v q) (m + 1) = X (v (q + 1)) (m + 1) := by
  have h1 := y.row hq (m + 1) hm
  have h2 : X (upE v (q + 1)) (m + 1) = X (v q) (m + 1) := X_congr _ fun i _ => by simp [upE]
  have h3 : leE h (q + 1) (m + 1) = h (q + 1) m := by simp [leE]
  rw [h2, h3, hh] at h1
  revert h1
  cases X (v q) (m + 1) <;> cases X (v (q + 1)) (m + 1) <;> simp
theorem Cyc.right (y : Cyc R C A v h) {q c : Nat} (hv : v q (c + 1) = false) : X (v q) (c + 1 + 1) = X (v q) (c + 1) := by
  show (X (v q) (c + 1) ^^ v q (c + 1)) = _
  rw [hv, Bool.xor_false]
theorem Cyc.below (y : Cyc R C A v h) {q c c' : Nat} (hq : q + 1 < R) (hc : c < C) (hc' : c' < C) (h1 : c ≤ c' + 1) (h2 : c' ≤ c + 1) (w : A (q * C + c) = false) (w' : A ((q + 1) * C + c') = false) : ray v q c = ray v (q + 1) c' := by
  have hh' := y.s.h0 w'
  have hd := y.down hq (show c' + 1 ≤ C by omega) hh'
  simp only [ray]
  rw [← hd]
  rcases (by omega : c' = c ∨ c' = c + 1 ∨ c = c' + 1) with e | e | e
  · rw [e]
  · subst e
    exact (y.right (y.s.v1 w')).symm
  · subst e
    exact y.right (y.s.v0 w)
theorem Cyc.beside (y : Cyc R C A v h) {q c : Nat} (w' : A (q * C + (c + 1)) = false) : ray v q c = ray v q (c + 1) := (y.right (y.s.v0 w')).symm
theorem Cyc.inv (y : Cyc R C A v h) {q c q' c' : Nat} (hq : q < R) (hq' : q' < R) (hc : c < C) (hc' : c' < C) (ad : AroC q c q' c') (w : A (q * C + c) = false) (w' : A (q' * C + c') = false) : ray v q c = ray v q' c' := by
  obtain ⟨h1, h2, h3, h4, h5⟩ := ad
  rcases (by omega : q' = q ∨ q' = q + 1 ∨ q = q' + 1) with e | e | e
  · subst e
    rcases (by omega : c' = c ∨ c' = c + 1 ∨ c = c' + 1) with e2 | e2 | e2
    · rw [e2]
    · subst e2; exact y.beside w'
    · subst e2; exact (y.beside w).symm
  · subst e; exact y.below hq' hc hc' h4 h5 w w'
  · subst e; exact (y.below hq hc' hc h5 h4 w' w).symm
theorem Cyc.bord (y : Cyc R C A v h) {q c : Nat} (hq : q < R) (hc : c < C) (w : A (q * C + c) = false) (hb : bordB R C (q * C + c) = true) : ray v q c = false := by
  rw [bord_rc hc, decide_eq_true_eq] at hb
  rcases hb with e | e | e | e
  · subst e
    have h1 := y.row hq (c + 1) (by omega)
    have h2 : X (upE v 0) (c + 1) = false := by
      rw [X_congr (g := fun _ => false) _ (fun i _ => by simp [upE])]; exact X_zero _
    have h3 : leE h 0 (c + 1) = h 0 c := by simp [leE]
    rw [h2, h3, y.s.h0 w] at h1
    simpa [ray] using h1
  · have : ∀ i, i < c + 1 → v q i = false := fun i _ => by
      cases e2 : v q i with
      | false => rfl
      | true => have := (y.s.v q i e2).1; omega
    rw [ray, X_congr (g := fun _ => false) _ this]; exact X_zero _
  · subst e
    simp [ray, X, y.s.v0 w]
  · have := y.tot q hq
    rw [ray, e]; exact this
/-- What is connected with a cell that a cycle encloses does not reach the border. -/
theorem Cyc.encl (y : Cyc R C A v h) {q c : Nat} (hq : q < R) (hc : c < C) (hr : ray v q c = true) {j : Nat} (e : EqvC (Edg (aroundN R C) (fun i => !A i) (R * C)) (q * C + c) j) (hw : A (q * C + c) = false) : bordB R C j = false ∨ A j = true ∨ R * C ≤ j := by
  have key := (EqvC.closed (p := fun i => i < R * C ∧ A i = false ∧ ray v (i / C) (i % C) = true) (fun i j ed => by
    obtain ⟨h1, h2, h3, h4⟩ := ed
    have hj := aro_lt i h1 j h2
    have w : A i = false := by simpa using h3
    have w' : A j = false := by simpa using h4
    obtain ⟨q, c, hq, hc, rfl⟩ := rc_ex h1
    obtain ⟨q', c', hq', hc', rfl⟩ := rc_ex hj
    have ad := (aro_rc hc hq' hc').1 h2
    have e := y.inv hq hq' hc hc' ad w w'
    rw [(rc_eq (q := q) hc).1, (rc_eq (q := q) hc).2, (rc_eq (q := q') hc').1, (rc_eq (q := q') hc').2, e]
    exact ⟨fun ⟨_, _, a⟩ => ⟨hj, w', a⟩, fun ⟨_, _, a⟩ => ⟨h1, w, a⟩⟩) e).1 ⟨corner_ltN hq hc, hw, by rw [(rc_eq (q := q) hc).1, (rc_eq (q := q) hc).2]; exact hr⟩
  obtain ⟨hj, w', hr'⟩ := key
  obtain ⟨q', c', hq', hc', rfl⟩ := rc_ex hj
  rw [(rc_eq (q := q') hc').1, (rc_eq (q := q') hc').2] at hr'
  cases hb : bordB R C (q' * C + c') with
  | false => exact .inl rfl
  | true => rw [y.bord hq' hc' w' hb] at hr'; cases hr'
/-- The first half: the cells in the west and in the north of x are connected without x, and none behind x is land; then the cell in the north-west is enclosed. -/
theorem encl_nw {q c : Nat} (hq : q + 1 < R) (hc : c + 1 < C) (hx : A ((q + 1) * C + (c + 1)) = true) (hl : ∀ i, A i = true → i ≤ (q + 1) * C + (c + 1)) (hN : A (q * C + (c + 1)) = true) (hW : A ((q + 1) * C + c) = true) (hw : A (q * C + c) = false)
    (e : EqvC (Edg (nearN R C) (fun i => A i && decide (i ≠ (q + 1) * C + (c + 1))) (R * C)) ((q + 1) * C + c) (q * C + (c + 1))) {j : Nat} (ej : EqvC (Edg (aroundN R C) (fun i => !A i) (R * C)) (q * C + c) j) (hj : j < R * C) (hjw : A j = false) : bordB R C j = false := by
  obtain ⟨v, h, s, bd⟩ := chain_of e
  have hvx : v q (c + 1) = false := by
    cases e2 : v q (c + 1) with
    | false => rfl
    | true => have := (s.v q (c + 1) e2).2.2.2; simp at this
  have sA : Supp R C A v h := s.mono fun i hi => by simp only [Bool.and_eq_true] at hi; exact hi.1
  obtain ⟨s1, b1⟩ := ch_right (R := R) (C := C) (A := A) hq hc hW hx
  obtain ⟨s2, b2⟩ := ch_down (R := R) (C := C) (A := A) hq hc hN hx
  have y : Cyc R C A _ _ := ⟨(sA.add s1).add s2, fun r t hr ht => by
    rw [bdE_add, bdE_add, bd r t ht, b1 r t ht, b2 r t ht]
    cases decide ((q + 1) * C + c = r * C + t) <;> cases decide (q * C + (c + 1) = r * C + t) <;> cases decide ((q + 1) * C + (c + 1) = r * C + t) <;> rfl⟩
  have htot := y.tot q (by omega)
  have htail := X_tail (f := fun t => (v q t ^^ false) ^^ (decide (q = q) && decide (t = c + 1))) (m := c + 1 + 1) C (by omega) (fun i h1 h2 => by
    have h3 : ¬ i = c + 1 := by omega
    have h4 : v q i = false := by
      cases e2 : v q i with
      | false => rfl
      | true =>
        have h5 := (sA.v q i e2).2.2.2
        have := hl _ h5
        omega
    simp [h3, h4])
  have hr : ray (fun r t => (v r t ^^ false) ^^ (decide (r = q) && decide (t = c + 1))) q c = true := by
    rw [ray]
    have h1 : X (fun t => (v q t ^^ false) ^^ (decide (q = q) && decide (t = c + 1))) (c + 1 + 1) = false := htail.symm.trans htot
    have h2 : X (fun t => (v q t ^^ false) ^^ (decide (q = q) && decide (t = c + 1))) (c + 1 + 1) = (X (fun t => (v q t ^^ false) ^^ (decide (q = q) && decide (t = c + 1))) (c + 1) ^^ ((v q (c + 1) ^^ false) ^^ (decide (q = q) && decide (c + 1 = c + 1)))) := rfl
    rw [h1, hvx] at h2
    cases e2 : X (fun t => (v q t ^^ false) ^^ (decide (q = q) && decide (t = c + 1))) (c + 1) with
    | true => rfl
    | false => rw [e2] at h2; simp at h2
  rcases y.encl (by omega) (by omega) hr ej hw with h1 | h1 | h1
  · exact h1
  · rw [hjw] at h1; cases h1
  · omega
end
end Go.SW
