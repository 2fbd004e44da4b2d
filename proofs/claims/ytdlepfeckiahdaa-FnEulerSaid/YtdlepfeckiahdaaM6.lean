/- Maths: a component found cell by cell, from its least cell on. -/
import Derived.Test.YtdlepfeckiahdaaM5
set_option linter.all false
namespace Go.SW
section
variable (nb : Nat → List Nat) (act : Nat → Bool) (n : Nat)
/-- What has been numbered when the cells ahead of i have been looked at. -/
def numTo (i j : Nat) : Int := if act j = true ∧ repF nb act n j < i then numOf nb act n j else -1
/-- Cells of the component of i. -/
structure Bfs (i : Nat) (l : List Nat) : Prop where
  nd : l.Nodup
  mem : ∀ x ∈ l, x < n ∧ act x = true ∧ repF nb act n x = i
  hd : i ∈ l
def numIn (i : Nat) (l : List Nat) (j : Nat) : Int := if j ∈ l then (cntp (rootB nb act n) i : Nat) else numTo nb act n i j
variable {nb act n}
theorem numTo_neg (i j : Nat) : numTo nb act n i j < 0 ↔ ¬ (act j = true ∧ repF nb act n j < i) := by
  simp only [numTo]
  by_cases h : act j = true ∧ repF nb act n j < i
  · rw [if_pos h]; simp only [numOf, if_pos h.1]; exact ⟨fun h' => by omega, fun h' => absurd h h'⟩
  · rw [if_neg h]; exact ⟨fun _ => h, fun _ => by omega⟩
theorem numTo_zero (j : Nat) : numTo nb act n 0 j = -1 := by simp [numTo]
theorem numTo_all (hnb : ∀ i, i < n → ∀ j ∈ nb i, j < n) {j : Nat} (hj : j < n) : numTo nb act n n j = numOf nb act n j := by
  have := (rep_ok (act := act) hnb).le j hj
  simp only [numTo, numOf]
  by_cases h : act j = true
  · rw [if_pos ⟨h, by omega⟩]
  · rw [if_neg fun h' => h h'.1, if_neg h]
theorem numTo_skip (hnb : ∀ i, i < n → ∀ j ∈ nb i, j < n) {i : Nat} (hi : i < n) (h : ¬ (act i = true ∧ repF nb act n i = i)) {j : Nat} (hj : j < n) : numTo nb act n (i + 1) j = numTo nb act n i j := by
  have u := rep_ok (act := act) hnb
  simp only [numTo]
  by_cases ha : act j = true
  · have hne : repF nb act n j ≠ i := fun e => h (by
      have h1 := rep_act (act := act) hnb hj
      have h2 := u.idem j hj
      rw [e] at h1 h2
      exact ⟨by rw [h1]; exact ha, h2⟩)
    by_cases hl : repF nb act n j < i
    · rw [if_pos ⟨ha, by omega⟩, if_pos ⟨ha, hl⟩]
    · rw [if_neg fun h' => by omega, if_neg fun h' => hl h'.2]
  · rw [if_neg fun h' => ha h'.1, if_neg fun h' => ha h'.1]
theorem Bfs.one {i : Nat} (hi : i < n) (h : act i = true ∧ repF nb act n i = i) : Bfs nb act n i [i] :=
  ⟨by simp, fun x hx => by rw [List.mem_singleton] at hx; subst hx; exact ⟨hi, h⟩, by simp⟩
theorem Bfs.near (hnb : ∀ i, i < n → ∀ j ∈ nb i, j < n) {i : Nat} {l : List Nat} (b : Bfs nb act n i l) {x j : Nat} (hx : x ∈ l) (hj : j ∈ nb x) (ha : act j = true) : j < n ∧ repF nb act n j = i := by
  obtain ⟨h1, h2, h3⟩ := b.mem x hx
  have hjn := hnb x h1 j hj
  exact ⟨hjn, by rw [← h3]; exact ((rep_ok (act := act) hnb).cmp x j h1 hjn ⟨h1, hj, h2, ha⟩).symm⟩
theorem Bfs.push (hnb : ∀ i, i < n → ∀ j ∈ nb i, j < n) {i : Nat} {l : List Nat} (b : Bfs nb act n i l) {x j : Nat} (hx : x ∈ l) (hj : j ∈ nb x) (ha : act j = true) (hn : j ∉ l) : Bfs nb act n i (l ++ [j]) := by
  obtain ⟨h1, h2⟩ := b.near hnb hx hj ha
  refine ⟨List.nodup_append.2 ⟨b.nd, by simp, fun a ha' c hc e => ?_⟩, fun y hy => ?_, by simp [b.hd]⟩
  · rw [List.mem_singleton] at hc; subst hc; subst e; exact hn ha'
  · rcases List.mem_append.1 hy with h | h
    · exact b.mem y h
    · rw [List.mem_singleton] at h; subst h; exact ⟨h1, ha, h2⟩
theorem Bfs.len {i : Nat} {l : List Nat} (b : Bfs nb act n i l) : l.length ≤ n := nodup_len b.nd fun x hx => (b.mem x hx).1
theorem numIn_neg (hnb : ∀ i, i < n → ∀ j ∈ nb i, j < n) {i : Nat} {l : List Nat} (b : Bfs nb act n i l) {x j : Nat} (hx : x ∈ l) (hj : j ∈ nb x) (ha : act j = true) : numIn nb act n i l j < 0 ↔ j ∉ l := by
  obtain ⟨h1, h2⟩ := b.near hnb hx hj ha
  simp only [numIn]
  by_cases h : j ∈ l
  · rw [if_pos h]; exact ⟨fun h' => by omega, fun h' => absurd h h'⟩
  · rw [if_neg h, numTo_neg]; exact ⟨fun _ => h, fun _ => by omega⟩
theorem Bfs.all (hnb : ∀ i, i < n → ∀ j ∈ nb i, j < n) (hsym : ∀ i j, i < n → j < n → j ∈ nb i → i ∈ nb j) {i : Nat} {l : List Nat} (b : Bfs nb act n i l) (cl : ∀ x ∈ l, ∀ j ∈ nb x, act j = true → j ∈ l) {j : Nat} (hj : j < n) (hr : repF nb act n j = i) : j ∈ l := by
  have u := rep_ok (act := act) hnb
  obtain ⟨h1, h2, h3⟩ := b.mem i b.hd
  have e := u.snd i j h1 hj (by rw [h3, hr])
  exact (EqvC.closed (p := fun x => x ∈ l) (fun a c h => ⟨fun ha => cl a ha c h.2.1 h.2.2.2, fun hc => cl c hc a (hsym a c h.1 (hnb a h.1 c h.2.1) h.2.1) h.2.2.1⟩) e).1 b.hd
theorem numIn_end (hnb : ∀ i, i < n → ∀ j ∈ nb i, j < n) (hsym : ∀ i j, i < n → j < n → j ∈ nb i → i ∈ nb j) {i : Nat} {l : List Nat} (b : Bfs nb act n i l) (cl : ∀ x ∈ l, ∀ j ∈ nb x, act j = true → j ∈ l) {j : Nat} (hj : j < n) : numIn nb act n i l j = numTo nb act n (i + 1) j := by
  simp only [numIn, numTo]
  by_cases h : j ∈ l
  · obtain ⟨h1, h2, h3⟩ := b.mem j h
    rw [if_pos h, if_pos ⟨h2, by omega⟩]
    simp only [numOf, if_pos h2, h3]
  · have hne : repF nb act n j ≠ i := fun e => h (b.all hnb hsym cl hj e)
    rw [if_neg h]
    by_cases ha : act j = true ∧ repF nb act n j < i
    · rw [if_pos ha, if_pos ⟨ha.1, by omega⟩]
    · rw [if_neg ha, if_neg fun h' => ha ⟨h'.1, by omega⟩]
theorem root_skip {i : Nat} (h : ¬ (act i = true ∧ repF nb act n i = i)) : cntp (rootB nb act n) (i + 1) = cntp (rootB nb act n) i := by
  simp only [cntp]
  rw [if_neg (show ¬ rootB nb act n i from h), Nat.add_zero]
theorem root_take {i : Nat} (h : act i = true ∧ repF nb act n i = i) : cntp (rootB nb act n) (i + 1) = cntp (rootB nb act n) i + 1 := by
  simp only [cntp]
  rw [if_pos (show rootB nb act n i from h)]
end
/-- What lies around the first k of a list lies in the list. -/
def ClosedTo (nb : Nat → List Nat) (act : Nat → Bool) (l : List Nat) (k : Nat) : Prop := ∀ k' x, k' < k → l[k']? = some x → ∀ j ∈ nb x, act j = true → j ∈ l
theorem ClosedTo.push {nb : Nat → List Nat} {act : Nat → Bool} {l : List Nat} {k : Nat} (h : ClosedTo nb act l k) (hk : k ≤ l.length) (j : Nat) : ClosedTo nb act (l ++ [j]) k := fun k' x h1 h2 y hy ha => by
  rw [List.getElem?_append_left (by omega)] at h2
  exact List.mem_append_left _ (h k' x h1 h2 y hy ha)
theorem ClosedTo.all {nb : Nat → List Nat} {act : Nat → Bool} {l : List Nat} (h : ClosedTo nb act l l.length) : ∀ x ∈ l, ∀ j ∈ nb x, act j = true → j ∈ l := fun x hx => by
  obtain ⟨k, hk, e⟩ := List.getElem_of_mem hx
  exact h k x hk (by rw [List.getElem?_eq_getElem hk, e])
theorem ClosedTo.step {nb : Nat → List Nat} {act : Nat → Bool} {l : List Nat} {k x : Nat} (h : ClosedTo nb act l k) (hx : l[k]? = some x) (hn : ∀ j ∈ nb x, act j = true → j ∈ l) : ClosedTo nb act l (k + 1) := fun k' y h1 h2 => by
  by_cases e : k' = k
  · subst e; rw [hx] at h2; cases h2; exact hn
  · exact h k' y (by omega) h2
end Go.SW
