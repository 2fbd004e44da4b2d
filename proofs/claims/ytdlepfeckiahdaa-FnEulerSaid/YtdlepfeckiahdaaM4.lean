/- Sets of cells joined by pairs: forests, their roots, and what the roots tell. Plain law: no program occurs here. -/
import Derived.Test.YtdlepfeckiahdaaM3
set_option linter.all false
namespace Go.SW

/-! ## a forest's roots -/
def UpOk (n : Nat) (up : Nat → Nat) : Prop := ∀ i, i < n → up i ≤ i
def rtF (up : Nat → Nat) : Nat → Nat → Nat
  | 0, i => i
  | k + 1, i => if up i = i then i else rtF up k (up i)
def rt (up : Nat → Nat) (i : Nat) : Nat := rtF up i i
section
variable {n : Nat} {up : Nat → Nat}
theorem rtF_any (h : UpOk n up) : ∀ (k m i : Nat), i < n → i ≤ k → i ≤ m → rtF up k i = rtF up m i
  | 0, m, i, hi, h1, _ => by
    have := h i hi
    cases m with
    | zero => rfl
    | succ m => simp only [rtF]; rw [if_pos (by omega)]; 
  | k + 1, m, i, hi, h1, h2 => by
    have := h i hi
    by_cases e : up i = i
    · cases m with
      | zero => simp only [rtF]; rw [if_pos e]
      | succ m => simp only [rtF]; rw [if_pos e, if_pos e]
    · cases m with
      | zero => omega
      | succ m =>
        simp only [rtF]
        rw [if_neg e, if_neg e]
        exact rtF_any h k m _ (by omega) (by omega) (by omega)
theorem rt_eq (h : UpOk n up) {i : Nat} (hi : i < n) : rt up i = if up i = i then i else rt up (up i) := by
  have h1 := rtF_any h i (i + 1) i hi (Nat.le_refl _) (Nat.le_succ _)
  have := h i hi
  unfold rt
  rw [h1]
  simp only [rtF]
  by_cases e : up i = i
  · rw [if_pos e, if_pos e]
  · rw [if_neg e, if_neg e, rtF_any h i (up i) (up i) (by omega) (by omega) (Nat.le_refl _)]
theorem rt_fix (h : UpOk n up) {i : Nat} (hi : i < n) (e : up i = i) : rt up i = i := by rw [rt_eq h hi, if_pos e]
theorem rt_step (h : UpOk n up) {i : Nat} (hi : i < n) : rt up i = rt up (up i) := by
  by_cases e : up i = i
  · rw [e]
  · rw [rt_eq h hi, if_neg e]
theorem rt_root (h : UpOk n up) : ∀ i, i < n → rt up i ≤ i ∧ up (rt up i) = rt up i := by
  intro i
  induction i using Nat.strongRecOn with
  | _ i ih =>
    intro hi
    have h1 := h i hi
    by_cases e : up i = i
    · rw [rt_fix h hi e]; exact ⟨Nat.le_refl _, e⟩
    · rw [rt_step h hi]
      have := ih (up i) (by omega) (by omega)
      exact ⟨by omega, this.2⟩
theorem rt_idem (h : UpOk n up) {i : Nat} (hi : i < n) : rt up (rt up i) = rt up i := by
  have := rt_root h i hi
  exact rt_fix h (by omega) this.2
theorem rt_halve (h : UpOk n up) {i : Nat} (hi : i < n) : UpOk n (fun k => if k = i then up (up i) else up k) ∧ ∀ j, j < n → rt (fun k => if k = i then up (up i) else up k) j = rt up j := by
  have hok : UpOk n (fun k => if k = i then up (up i) else up k) := fun k hk => by
    by_cases e : k = i
    · subst e
      have h1 := h k hk
      have h2 := h (up k) (by omega)
      simp only [if_true]; omega
    · simp only [if_neg e]; exact h k hk
  refine ⟨hok, fun j => ?_⟩
  induction j using Nat.strongRecOn with
  | _ j ih =>
    intro hj
    have h1 := h j hj
    by_cases ej : j = i
    · subst ej
      by_cases e1 : up j = j
      · rw [rt_fix h hj e1, rt_fix hok hj (by simp only [if_true]; rw [e1, e1])]
      · have h2 := h (up j) (by omega)
        rw [rt_step hok hj]
        simp only [if_true]
        rw [ih (up (up j)) (by omega) (by omega), rt_step h hj, rt_step h (by omega : up j < n)]
    · by_cases e1 : up j = j
      · rw [rt_fix h hj e1, rt_fix hok hj (by simp only [if_neg ej]; exact e1)]
      · rw [rt_step hok hj, rt_step h hj]
        simp only [if_neg ej]
        exact ih (up j) (by omega) (by omega)
theorem rt_join (h : UpOk n up) {a b : Nat} (hb : b < n) (ha' : up a = a) (hb' : up b = b) (hab : a < b) :
    UpOk n (fun k => if k = b then a else up k) ∧ ∀ j, j < n → rt (fun k => if k = b then a else up k) j = if rt up j = b then a else rt up j := by
  have hok : UpOk n (fun k => if k = b then a else up k) := fun k hk => by
    by_cases e : k = b
    · simp only [if_pos e]; omega
    · simp only [if_neg e]; exact h k hk
  refine ⟨hok, fun j => ?_⟩
  induction j using Nat.strongRecOn with
  | _ j ih =>
    intro hj
    have h1 := h j hj
    by_cases ej : j = b
    · subst ej
      rw [rt_step hok hj]
      simp only [if_true]
      rw [ih a hab (by omega), rt_fix h hj hb', if_pos rfl, rt_fix h (by omega : a < n) ha', if_neg (by omega)]
    · by_cases e1 : up j = j
      · rw [rt_fix h hj e1, rt_fix hok hj (by simp only [if_neg ej]; exact e1), if_neg ej]
      · rw [rt_step hok hj, rt_step h hj]
        simp only [if_neg ej]
        exact ih (up j) (by omega) (by omega)
end

/-! ## joining, as a function of the roots -/
def joinF (ρ : Nat → Nat) (a b : Nat) : Nat → Nat := fun k => if ρ a < ρ b then (if ρ k = ρ b then ρ a else ρ k) else (if ρ k = ρ a then ρ b else ρ k)
def ufRow (act : Nat → Bool) (i : Nat) (l : List Nat) (ρ : Nat → Nat) : Nat → Nat := l.foldl (fun ρ j => if act i && act j then joinF ρ i j else ρ) ρ
theorem ufRow_take (act : Nat → Bool) (i : Nat) {l : List Nat} (ρ : Nat → Nat) {m : Nat} (hm : m < l.length) :
    ufRow act i (l.take (m + 1)) ρ = if act i && act (l.getD m 0) then joinF (ufRow act i (l.take m) ρ) i (l.getD m 0) else ufRow act i (l.take m) ρ := by
  rw [List.take_succ_eq_append_getElem hm, getD_at l 0 hm]
  simp only [ufRow, List.foldl_append, List.foldl_cons, List.foldl_nil]
def ufTo (nb : Nat → List Nat) (act : Nat → Bool) : Nat → Nat → Nat
  | 0 => fun i => i
  | k + 1 => ufRow act k (nb k) (ufTo nb act k)

/-- What can be reached through pairs of E. -/
inductive EqvC (E : Nat → Nat → Prop) : Nat → Nat → Prop where
  | refl (i : Nat) : EqvC E i i
  | base {i j : Nat} : E i j → EqvC E i j
  | symm {i j : Nat} : EqvC E i j → EqvC E j i
  | trans {i j k : Nat} : EqvC E i j → EqvC E j k → EqvC E i k
theorem EqvC.mono {E E' : Nat → Nat → Prop} (h : ∀ i j, E i j → E' i j) {i j : Nat} (e : EqvC E i j) : EqvC E' i j := by
  induction e with
  | refl i => exact .refl i
  | base h' => exact .base (h _ _ h')
  | symm _ ih => exact .symm ih
  | trans _ _ ih1 ih2 => exact .trans ih1 ih2
theorem EqvC.closed {E : Nat → Nat → Prop} {p : Nat → Prop} (h : ∀ i j, E i j → (p i ↔ p j)) {i j : Nat} (e : EqvC E i j) : p i ↔ p j := by
  induction e with
  | refl i => exact Iff.rfl
  | base h' => exact h _ _ h'
  | symm _ ih => exact ih.symm
  | trans _ _ ih1 ih2 => exact ih1.trans ih2

structure UF (n : Nat) (E : Nat → Nat → Prop) (ρ : Nat → Nat) : Prop where
  le : ∀ i, i < n → ρ i ≤ i
  idem : ∀ i, i < n → ρ (ρ i) = ρ i
  snd : ∀ i j, i < n → j < n → ρ i = ρ j → EqvC E i j
  cmp : ∀ i j, i < n → j < n → E i j → ρ i = ρ j
theorem UF.join {n : Nat} {E E' : Nat → Nat → Prop} {ρ : Nat → Nat} (u : UF n E ρ) {a b : Nat} (ha : a < n) (hb : b < n) (h1 : ∀ i j, E i j → E' i j) (h2 : E' a b) (h3 : ∀ i j, E' i j → E i j ∨ (i = a ∧ j = b)) : UF n E' (joinF ρ a b) := by
  have la := u.le a ha
  have lb := u.le b hb
  have ia := u.idem a ha
  have ib := u.idem b hb
  have hra : EqvC E' a (ρ a) := (u.snd a (ρ a) ha (by omega) ia.symm).mono h1
  have hrb : EqvC E' b (ρ b) := (u.snd b (ρ b) hb (by omega) ib.symm).mono h1
  have hab : EqvC E' (ρ a) (ρ b) := (hra.symm.trans (.base h2)).trans hrb
  have hval : ∀ k, k < n → EqvC E' k (joinF ρ a b k) := fun k hk => by
    have hk' : EqvC E' k (ρ k) := (u.snd k (ρ k) hk (by have := u.le k hk; omega) (u.idem k hk).symm).mono h1
    unfold joinF
    split
    · split
      · rename_i e; rw [e] at hk'; exact hk'.trans hab.symm
      · exact hk'
    · split
      · rename_i e; rw [e] at hk'; exact hk'.trans hab
      · exact hk'
  refine ⟨fun i hi => ?_, fun i hi => ?_, fun i j hi hj e => ?_, fun i j hi hj e => ?_⟩
  · have := u.le i hi
    unfold joinF
    split
    · split <;> omega
    · split <;> omega
  · have hi' := u.idem i hi
    unfold joinF
    by_cases hlt : ρ a < ρ b
    · simp only [if_pos hlt]
      by_cases e : ρ i = ρ b
      · simp only [if_pos e, ia]; rw [if_neg (by omega)]
      · simp only [if_neg e, hi']
    · simp only [if_neg hlt]
      by_cases e : ρ i = ρ a
      · simp only [if_pos e, ib]
        split <;> rfl
      · simp only [if_neg e, hi']
  · have h4 := hval i hi
    have h5 := hval j hj
    rw [e] at h4
    exact h4.trans h5.symm
  · rcases h3 i j e with h | ⟨rfl, rfl⟩
    · unfold joinF; rw [u.cmp i j hi hj h]
    · unfold joinF
      by_cases hlt : ρ i < ρ j
      · simp only [if_pos hlt]; rw [if_neg (by omega)]; simp
      · simp only [if_neg hlt]; simp
theorem UF.same {n : Nat} {E E' : Nat → Nat → Prop} {ρ : Nat → Nat} (u : UF n E ρ) (h : ∀ i j, E i j ↔ E' i j) : UF n E' ρ :=
  ⟨u.le, u.idem, fun i j hi hj e => (u.snd i j hi hj e).mono fun i j => (h i j).1, fun i j hi hj e => u.cmp i j hi hj ((h i j).2 e)⟩

/-- The pairs of cells that act, of the first k cells. -/
def EdgT (nb : Nat → List Nat) (act : Nat → Bool) (k : Nat) (i j : Nat) : Prop := i < k ∧ j ∈ nb i ∧ act i = true ∧ act j = true
theorem ufTo_ok {n : Nat} {nb : Nat → List Nat} {act : Nat → Bool} (hnb : ∀ i, i < n → ∀ j ∈ nb i, j < n) : ∀ k, k ≤ n → UF n (EdgT nb act k) (ufTo nb act k)
  | 0, _ => ⟨fun _ _ => Nat.le_refl _, fun _ _ => rfl, fun i j _ _ e => by rw [show i = j from e]; exact .refl _, fun i j _ _ e => by have := e.1; omega⟩
  | k + 1, hk => by
    have ih := ufTo_ok (act := act) hnb k (by omega)
    have key : ∀ m, m ≤ (nb k).length → UF n (fun i j => EdgT nb act k i j ∨ (i = k ∧ j ∈ (nb k).take m ∧ act i = true ∧ act j = true)) (ufRow act k ((nb k).take m) (ufTo nb act k)) := by
      intro m
      induction m with
      | zero => intro _; simp only [List.take_zero, ufRow, List.foldl_nil]; exact ih.same fun i j => by simp
      | succ m ihm =>
        intro hm
        have u := ihm (by omega)
        have hmem : (nb k).getD m 0 ∈ nb k := getD_mem (by omega)
        have hj := hnb k (by omega) _ hmem
        have htk : ∀ j, j ∈ (nb k).take (m + 1) ↔ j ∈ (nb k).take m ∨ j = (nb k).getD m 0 := fun j => by
          rw [List.take_succ_eq_append_getElem (by omega), List.mem_append, List.mem_singleton, getD_at _ 0 (by omega)]
        rw [ufRow_take act k _ (by omega)]
        generalize (nb k).getD m 0 = y at *
        by_cases ha : (act k && act y) = true
        · rw [if_pos ha]
          simp only [Bool.and_eq_true] at ha
          refine u.join (by omega) hj (fun i j h => ?_) (.inr ⟨rfl, (htk y).2 (.inr rfl), ha.1, ha.2⟩) (fun i j h => ?_)
          · rcases h with h | ⟨h1, h2, h3, h4⟩
            · exact .inl h
            · exact .inr ⟨h1, (htk j).2 (.inl h2), h3, h4⟩
          · rcases h with h | ⟨h1, h2, h3, h4⟩
            · exact .inl (.inl h)
            · rcases (htk j).1 h2 with h | h
              · exact .inl (.inr ⟨h1, h, h3, h4⟩)
              · exact .inr ⟨h1, h⟩
        · rw [if_neg ha]
          refine u.same fun i j => ?_
          constructor
          · rintro (h | ⟨h1, h2, h3, h4⟩)
            · exact .inl h
            · exact .inr ⟨h1, (htk j).2 (.inl h2), h3, h4⟩
          · rintro (h | ⟨h1, h2, h3, h4⟩)
            · exact .inl h
            · rcases (htk j).1 h2 with h | h
              · exact .inr ⟨h1, h, h3, h4⟩
              · subst h; subst h1; exact absurd (by simp [h3, h4]) ha
    have u := key (nb k).length (Nat.le_refl _)
    rw [List.take_length] at u
    simp only [ufTo]
    refine u.same fun i j => ?_
    simp only [EdgT]
    constructor
    · rintro (⟨h1, h2⟩ | ⟨rfl, h2⟩)
      · exact ⟨by omega, h2⟩
      · exact ⟨by omega, h2⟩
    · rintro ⟨h1, h2⟩
      by_cases e : i = k
      · subst e; exact .inr ⟨rfl, h2⟩
      · exact .inl ⟨by omega, h2⟩
theorem ufRow_lt {n : Nat} {nb : Nat → List Nat} {act : Nat → Bool} (hnb : ∀ i, i < n → ∀ j ∈ nb i, j < n) {k m : Nat} (hk : k < n) (hm : m ≤ (nb k).length) : ∃ E, UF n E (ufRow act k ((nb k).take m) (ufTo nb act k)) := by
  induction m with
  | zero => exact ⟨_, by simp only [List.take_zero, ufRow, List.foldl_nil]; exact ufTo_ok (act := act) hnb k (by omega)⟩
  | succ m ih =>
    obtain ⟨E, u⟩ := ih (by omega)
    have hmem : (nb k).getD m 0 ∈ nb k := getD_mem (by omega)
    have hj := hnb k hk _ hmem
    rw [ufRow_take act k _ (by omega)]
    split
    · exact ⟨fun i j => E i j ∨ (i = k ∧ j = (nb k).getD m 0), u.join hk hj (fun i j h => .inl h) (.inr ⟨rfl, rfl⟩) fun i j h => h⟩
    · exact ⟨E, u⟩

/-! ## components -/
/-- The least cell of a cell's component. -/
def repF (nb : Nat → List Nat) (act : Nat → Bool) (n : Nat) : Nat → Nat := fun i => ufTo nb act n i
def Edg (nb : Nat → List Nat) (act : Nat → Bool) (n : Nat) (i j : Nat) : Prop := i < n ∧ j ∈ nb i ∧ act i = true ∧ act j = true
theorem rep_ok {n : Nat} {nb : Nat → List Nat} {act : Nat → Bool} (hnb : ∀ i, i < n → ∀ j ∈ nb i, j < n) : UF n (Edg nb act n) (repF nb act n) := ufTo_ok (act := act) hnb n (Nat.le_refl _)
theorem rep_act {n : Nat} {nb : Nat → List Nat} {act : Nat → Bool} (hnb : ∀ i, i < n → ∀ j ∈ nb i, j < n) {i : Nat} (hi : i < n) : act (repF nb act n i) = act i := by
  have u := rep_ok (act := act) hnb
  have h1 := u.snd i (repF nb act n i) hi (by have := u.le i hi; omega) (u.idem i hi).symm
  have := EqvC.closed (p := fun i => act i = true) (fun i j h => ⟨fun _ => h.2.2.2, fun _ => h.2.2.1⟩) h1
  cases e1 : act i <;> cases e2 : act (repF nb act n i) <;> simp_all
/-- The number of a cell's component: how many roots come ahead of its own. -/
def rootB (nb : Nat → List Nat) (act : Nat → Bool) (n : Nat) (r : Nat) : Prop := act r = true ∧ repF nb act n r = r
instance (nb : Nat → List Nat) (act : Nat → Bool) (n : Nat) : DecidablePred (rootB nb act n) := fun r => inferInstanceAs (Decidable (act r = true ∧ repF nb act n r = r))
def numOf (nb : Nat → List Nat) (act : Nat → Bool) (n : Nat) (i : Nat) : Int := if act i = true then (cntp (rootB nb act n) (repF nb act n i) : Nat) else -1
def compN (nb : Nat → List Nat) (act : Nat → Bool) (n : Nat) : Nat := cntp (rootB nb act n) n
theorem nodup_len {l : List Nat} {n : Nat} (hd : l.Nodup) (h : ∀ x ∈ l, x < n) : l.length ≤ n := by
  rw [← sumN_count h]
  have h1 : ∀ m, sumN (fun i => l.count i) m ≤ m := by
    intro m
    induction m with
    | zero => exact Nat.le_refl _
    | succ m ih =>
      have : l.count m ≤ 1 := List.nodup_iff_count.1 hd m
      simp only [sumN]; omega
  exact h1 n
end Go.SW
