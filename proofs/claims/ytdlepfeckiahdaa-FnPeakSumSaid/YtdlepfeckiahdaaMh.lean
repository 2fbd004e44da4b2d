/- Maths: heaps. -/
import Derived.Test.YtdlepfeckiahdaaM7
set_option linter.all false
namespace Go.SW
section
variable {α : Type} (ah : α → α → Bool)
/-- An order by which a pile is taken: of two at most one is ahead, and not being ahead is transitive. -/
structure Ahead : Prop where
  asy : ∀ a b, ah a b = true → ah b a = false
  tr : ∀ a b c, ah a b = false → ah b c = false → ah a c = false
def Heap (n : Nat) (L : Nat → α) : Prop := ∀ j, 0 < j → j < n → ah (L j) (L ((j - 1) / 2)) = false
def swp (L : Nat → α) (i b : Nat) : Nat → α := fun k => if k = i then L b else if k = b then L i else L k
structure UpInv (n : Nat) (L : Nat → α) (i : Nat) : Prop where
  ok : ∀ j, 0 < j → j < n → j ≠ i → ah (L j) (L ((j - 1) / 2)) = false
  ch : ∀ j, 0 < j → j < n → (j - 1) / 2 = i → 0 < i → ah (L j) (L ((i - 1) / 2)) = false
structure DnInv (n : Nat) (L : Nat → α) (i : Nat) : Prop where
  ok : ∀ j, 0 < j → j < n → (j - 1) / 2 ≠ i → ah (L j) (L ((j - 1) / 2)) = false
  ch : ∀ j, 0 < j → j < n → (j - 1) / 2 = i → 0 < i → ah (L j) (L ((i - 1) / 2)) = false
variable {ah}
theorem swp_at (L : Nat → α) (i b : Nat) : swp L i b i = L b ∧ swp L i b b = L i := by
  simp only [swp]
  refine ⟨by simp, ?_⟩
  by_cases e : b = i
  · subst e; simp
  · simp [e]
theorem swp_ne (L : Nat → α) {i b k : Nat} (h1 : k ≠ i) (h2 : k ≠ b) : swp L i b k = L k := by simp [swp, h1, h2]
theorem UpInv.step (o : Ahead ah) {n : Nat} {L : Nat → α} {i : Nat} (u : UpInv ah n L i) (h0 : 0 < i) (hi : i < n) (ha : ah (L i) (L ((i - 1) / 2)) = true) : UpInv ah n (swp L i ((i - 1) / 2)) ((i - 1) / 2) := by
  generalize hp : (i - 1) / 2 = p at *
  have hpi : p < i := by omega
  have e1 := (swp_at L i p).1
  have e2 := (swp_at L i p).2
  have hr := o.asy _ _ ha
  refine ⟨fun j j0 jn jp => ?_, fun j j0 jn jp p0 => ?_⟩
  · by_cases ji : j = i
    · subst ji; rw [hp, e1, e2]; exact hr
    · rw [swp_ne L ji jp]
      by_cases c1 : (j - 1) / 2 = i
      · rw [c1, e1, ← hp]; exact u.ch j j0 jn c1 h0
      · by_cases c2 : (j - 1) / 2 = p
        · rw [c2, e2]
          have := u.ok j j0 jn ji
          rw [c2] at this
          exact o.tr _ _ _ this hr
        · rw [swp_ne L c1 c2]; exact u.ok j j0 jn ji
  · have c3 : (p - 1) / 2 ≠ i := by omega
    have c4 : (p - 1) / 2 ≠ p := by omega
    rw [swp_ne L c3 c4]
    have hpp := u.ok p p0 (by omega) (by omega)
    by_cases ji : j = i
    · subst ji; rw [e1]; exact hpp
    · rw [swp_ne L ji (by omega)]
      have := u.ok j j0 jn ji
      rw [jp] at this
      exact o.tr _ _ _ this hpp
theorem UpInv.done {n : Nat} {L : Nat → α} {i : Nat} (u : UpInv ah n L i) (h : i = 0 ∨ ah (L i) (L ((i - 1) / 2)) = false) : Heap ah n L := fun j j0 jn => by
  by_cases e : j = i
  · subst e; rcases h with h | h
    · omega
    · exact h
  · exact u.ok j j0 jn e
theorem UpInv.start {n : Nat} {L : Nat → α} (h : Heap ah n L) (x : α) : UpInv ah (n + 1) (fun k => if k = n then x else L k) n := by
  refine ⟨fun j j0 jn je => ?_, fun j j0 jn jp _ => by omega⟩
  have c : (j - 1) / 2 ≠ n := by omega
  simp only [if_neg je, if_neg c]
  exact h j j0 (by omega)
theorem DnInv.step (o : Ahead ah) {n : Nat} {L : Nat → α} {i b : Nat} (d : DnInv ah n L i) (hb0 : 0 < b) (hbn : b < n) (hbi : (b - 1) / 2 = i) (ha : ah (L b) (L i) = true) (hs : ∀ s, 0 < s → s < n → (s - 1) / 2 = i → ah (L s) (L b) = false) : DnInv ah n (swp L i b) b := by
  have e1 := (swp_at L i b).1
  have e2 := (swp_at L i b).2
  have hib : i < b := by omega
  have hr := o.asy _ _ ha
  refine ⟨fun j j0 jn jp => ?_, fun j j0 jn jp b0 => ?_⟩
  · by_cases jb : j = b
    · subst jb; rw [hbi, e1, e2]; exact hr
    · by_cases ji : j = i
      · subst ji
        rw [e1, swp_ne L (by omega) (by omega)]
        exact d.ch b hb0 hbn hbi j0
      · rw [swp_ne L ji jb]
        by_cases c1 : (j - 1) / 2 = i
        · rw [c1, e1]; exact hs j j0 jn c1
        · rw [swp_ne L c1 jp]; exact d.ok j j0 jn c1
  · rw [hbi, e1, swp_ne L (by omega) (by omega)]
    have := d.ok j j0 jn (by omega)
    rw [jp] at this; exact this
theorem DnInv.done {n : Nat} {L : Nat → α} {i : Nat} (d : DnInv ah n L i) (h : ∀ s, 0 < s → s < n → (s - 1) / 2 = i → ah (L s) (L i) = false) : Heap ah n L := fun j j0 jn => by
  by_cases e : (j - 1) / 2 = i
  · rw [e]; exact h j j0 jn e
  · exact d.ok j j0 jn e
theorem DnInv.start {n : Nat} {L : Nat → α} (h : Heap ah (n + 1) L) : DnInv ah n (fun k => if k = 0 then L n else L k) 0 := by
  refine ⟨fun j j0 jn jp => ?_, fun j j0 jn jp h0 => by omega⟩
  have c : j ≠ 0 := by omega
  simp only [if_neg c, if_neg jp]
  exact h j j0 (by omega)
theorem Heap.top (o : Ahead ah) {n : Nat} {L : Nat → α} (h : Heap ah n L) : ∀ j, j < n → ah (L j) (L 0) = false := by
  have irr : ∀ a, ah a a = false := fun a => by
    cases e : ah a a with
    | false => rfl
    | true => have := o.asy _ _ e; rw [e] at this; exact this
  intro j
  induction j using Nat.strongRecOn with
  | _ j ih =>
    intro hj
    by_cases j0 : j = 0
    · subst j0; exact irr _
    · exact o.tr _ _ _ (h j (by omega) hj) (ih ((j - 1) / 2) (by omega) (by omega))
end
/-- How often x lies in a pile. -/
def bag {α : Type} [DecidableEq α] (n : Nat) (L : Nat → α) (x : α) : Nat := cntp (fun k => L k = x) n
section
variable {α : Type} [DecidableEq α]
theorem bag_swp {n i b : Nat} (L : Nat → α) (hi : i < n) (hb : b < n) (x : α) : bag n (swp L i b) x = bag n L x := by
  let σ : Nat → Nat := fun k => if k = i then b else if k = b then i else k
  have hσ : ∀ k, k < n → σ k < n ∧ σ (σ k) = k := fun k hk => by
    simp only [σ]
    by_cases h1 : k = i
    · subst h1
      by_cases h2 : b = k
      · subst h2; simp [hk]
      · simp [h2, hb]
    · by_cases h2 : k = b
      · subst h2; simp [h1, hi]
      · simp [h1, h2, hk]
  exact cntp_perm σ σ hσ hσ _ _ fun k hk => by
    simp only [swp, σ]
    by_cases h1 : k = i
    · simp [h1]
    · by_cases h2 : k = b
      · by_cases h3 : b = i <;> simp [h2, h3]
      · simp [h1, h2]
theorem bag_put (n : Nat) (L : Nat → α) (y x : α) : bag (n + 1) (fun k => if k = n then y else L k) x = bag n L x + if y = x then 1 else 0 := by
  simp only [bag, cntp, if_pos]
  congr 1
  exact cntp_congr fun k hk => by rw [if_neg (by omega)]
theorem bag_take (n : Nat) (L : Nat → α) (x : α) : bag n (fun k => if k = 0 then L n else L k) x + (if L 0 = x then 1 else 0) = bag (n + 1) L x := by
  have h := bag_swp (n := n + 1) L (i := 0) (b := n) (by omega) (by omega) x
  rw [← h]
  simp only [bag, cntp, (swp_at L 0 n).2]
  congr 1
  exact cntp_congr fun k hk => by
    by_cases h0 : k = 0
    · subst h0; simp [(swp_at L 0 n).1]
    · rw [if_neg h0, swp_ne L h0 (by omega)]
theorem bag_mem {n : Nat} {L : Nat → α} {x : α} : 0 < bag n L x ↔ ∃ k, k < n ∧ L k = x := cntp_posI _
end
end Go.SW
