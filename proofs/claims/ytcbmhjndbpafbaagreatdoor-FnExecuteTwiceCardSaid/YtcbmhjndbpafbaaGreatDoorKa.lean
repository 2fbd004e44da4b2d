import Derived.Test.YtcbmhjndbpafbaaGreatDoorK7
set_option linter.all false
set_option maxRecDepth 20000
namespace Go.SW
end Go.SW
namespace Go.Proofs.YtcbmhjndbpafbaaGreatDoor
open Go.RowKit Go.SW
end Go.Proofs.YtcbmhjndbpafbaaGreatDoor
namespace Go.SW
def sumN (f : Nat → Nat) : Nat → Nat
 | 0 => 0
 | k + 1 => sumN f k + f k
theorem sumN_congr {f g : Nat → Nat} : ∀ {n : Nat}, (∀ i, i < n → f i = g i) → sumN f n = sumN g n
 | 0, _ => rfl
 | n + 1, h => by simp only [sumN]; rw [sumN_congr fun i hi => h i om, h n om]
theorem sumN_add (f g : Nat → Nat) : ∀ n, sumN (fun i => f i + g i) n = sumN f n + sumN g n
 | 0 => rfl
 | n + 1 => by simp only [sumN]; rw [sumN_add f g n]; omega
theorem sumN_zero : ∀ n, sumN (fun _ => 0) n = 0
 | 0 => rfl
 | n + 1 => by simp only [sumN, sumN_zero n]
theorem sumN_swap (f : Nat → Nat → Nat) (m : Nat) : ∀ n, sumN (fun i => sumN (fun j => f i j) m) n = sumN (fun j => sumN (fun i => f i j) n) m
 | 0 => by simp only [sumN]; exact (sumN_zero m).symm
 | n + 1 => by
  simp only [sumN]
  rw [sumN_swap f m n, ← sumN_add]
theorem sumN_single {n a : Nat} (ha : a < n) (x : Nat) : sumN (fun i => if i = a then x else 0) n = x := by
 induction n with
 | zero => omega
 | succ n ih =>
  simp only [sumN]
  by_cases e : n = a
  ·subst e
   rw [if_pos rfl, sumN_congr (g := fun _ => 0) fun i hi => if_neg om, sumN_zero]; omega
  ·rw [if_neg e, ih om]; rfl
theorem sumN_cntp (p : Nat → Prop) [DecidablePred p] : ∀ n, sumN (fun i => if p i then 1 else 0) n = cntp p n
 | 0 => rfl
 | n + 1 => by simp only [sumN, cntp, sumN_cntp p n]
theorem sumN_count {l : List Nat} {n : Nat} (h : ∀ x ∈ l, x < n) : sumN (fun i => l.count i) n = l.length := by
 induction l with
 | nil => simp [sumN_zero]
 | cons a l ih =>
  have e : sumN (fun i => (a :: l).count i) n = sumN (fun i => l.count i) n + sumN (fun i => if i = a then 1 else 0) n := by
   rw [← sumN_add]
   refine sumN_congr fun i _ => ?_
   rw [List.count_cons]
   by_cases e : a = i
   ·subst e; simp
   ·have e' : ¬ i = a := fun h => e h.symm
    simp [e, e']
  rw [e, ih fun x hx => h x (List.mem_cons_of_mem _ hx), sumN_single (h a (List.mem_cons_self ..))]; rfl
theorem sumN_le {f g : Nat → Nat} : ∀ {n : Nat}, (∀ i, i < n → f i ≤ g i) → sumN f n ≤ sumN g n
 | 0, _ => Nat.le_refl _
 | n + 1, h => by simp only [sumN]; have := sumN_le (n := n) fun i hi => h i om; have := h n om; omega
theorem cntp_congr {p q : Nat → Prop} [DecidablePred p] [DecidablePred q] : ∀ {n : Nat}, (∀ i, i < n → (p i ↔ q i)) → cntp p n = cntp q n
 | 0, _ => rfl
 | n + 1, h => by
  have ih := cntp_congr (n := n) fun i hi => h i om
  have hn := h n om
  simp only [cntp, ih]
  by_cases e : p n
  ·rw [if_pos e, if_pos (hn.1 e)]
  ·rw [if_neg e, if_neg fun h => e (hn.2 h)]
theorem cntp_uniq (p : Nat → Prop) [DecidablePred p] : ∀ {n : Nat}, cntp p n = 1 → ∀ i j, i < n → j < n → p i → p j → i = j
 | 0, _, i, _, hi, _, _, _ => om
 | n + 1, h, i, j, hi, hj, pi, pj => by
  simp only [cntp] at h
  by_cases e : p n
  ·rw [if_pos e] at h
   have h0 : ∀ k, k < n → ¬ p k := fun k hk pk => by have := cntp_pos p n k hk pk; omega
   have h1 : i = n := by
    by_cases e' : i = n
    ·exact e'
    ·exact absurd pi (h0 i om)
   have h2 : j = n := by
    by_cases e' : j = n
    ·exact e'
    ·exact absurd pj (h0 j om)
   omega
  ·rw [if_neg e] at h
   have h1 : i ≠ n := fun e' => e (e' ▸ pi)
   have h2 : j ≠ n := fun e' => e (e' ▸ pj)
   exact cntp_uniq p om i j om om pi pj
section
variable {R C : Nat} {h : Nat → Int}
theorem cntp_split (p q r : Nat → Prop) [DecidablePred p] [DecidablePred q] [DecidablePred r] : ∀ n, (∀ i, i < n → (r i ↔ p i ∨ q i) ∧ ¬ (p i ∧ q i)) → cntp r n = cntp p n + cntp q n
 | 0, _ => rfl
 | n + 1, hh => by
  have ih := cntp_split p q r n fun i hi => hh i om
  have hn := hh n om
  simp only [cntp, ih]
  by_cases hp : p n
  ·have hq : ¬ q n := fun hq => hn.2 ⟨hp, hq⟩
   rw [if_pos hp, if_neg hq, if_pos (hn.1.2 (.inl hp))]; omega
  ·by_cases hq : q n
   ·rw [if_neg hp, if_pos hq, if_pos (hn.1.2 (.inr hq))]; omega
   ·rw [if_neg hp, if_neg hq, if_neg fun h => (hn.1.1 h).elim hp hq]; omega
end
def UpOk (n : Nat) (up : Nat → Nat) : Prop := ∀ i, i < n → up i ≤ i
def rtF (up : Nat → Nat) : Nat → Nat → Nat
 | 0, i => i
 | k + 1, i => if up i = i then i else rtF up k (up i)
def rt (up : Nat → Nat) (i : Nat) : Nat := rtF up i i
section
variable {n : Nat} {up : Nat → Nat}
theorem rtF_any (h : UpOk n up) : ∀ (k m i : Nat), i < n → i ≤ k → i ≤ m → rtF up k i = rtF up m i
 | 0, m, i, hi, h1, _ => by
  have := h i hi
  cases m with
  | zero => rfl
  | succ m => simp only [rtF]; rw [if_pos om];
 | k + 1, m, i, hi, h1, h2 => by
  have := h i hi
  by_cases e : up i = i
  ·cases m with
   | zero => simp only [rtF]; rw [if_pos e]
   | succ m => simp only [rtF]; rw [if_pos e, if_pos e]
  ·cases m with
   | zero => omega
   | succ m =>
    simp only [rtF]
    rw [if_neg e, if_neg e]
    exact rtF_any h k m _ om om om
theorem rt_eq (h : UpOk n up) {i : Nat} (hi : i < n) : rt up i = if up i = i then i else rt up (up i) := by
 have h1 := rtF_any h i (i + 1) i hi (Nat.le_refl _) (Nat.le_succ _)
 have := h i hi
 unfold rt
 rw [h1]
 simp only [rtF]
 by_cases e : up i = i
 ·rw [if_pos e, if_pos e]
 ·rw [if_neg e, if_neg e, rtF_any h i (up i) (up i) om om (Nat.le_refl _)]
theorem rt_fix (h : UpOk n up) {i : Nat} (hi : i < n) (e : up i = i) : rt up i = i := by rw [rt_eq h hi, if_pos e]
theorem rt_step (h : UpOk n up) {i : Nat} (hi : i < n) : rt up i = rt up (up i) := by
 by_cases e : up i = i
 ·rw [e]
 ·rw [rt_eq h hi, if_neg e]
theorem rt_root (h : UpOk n up) : ∀ i, i < n → rt up i ≤ i ∧ up (rt up i) = rt up i := by
 intro i
 induction i using Nat.strongRecOn with
 | _ i ih =>
  intro hi
  have h1 := h i hi
  by_cases e : up i = i
  ·rw [rt_fix h hi e]; exact ⟨Nat.le_refl _, e⟩
  ·rw [rt_step h hi]
   have := ih (up i) om om
   exact ⟨om, this.2⟩
theorem rt_halve (h : UpOk n up) {i : Nat} (hi : i < n) : UpOk n (fun k => if k = i then up (up i) else up k) ∧ ∀ j, j < n → rt (fun k => if k = i then up (up i) else up k) j = rt up j := by
 have hok : UpOk n (fun k => if k = i then up (up i) else up k) := fun k hk => by
  by_cases e : k = i
  ·subst e
   have h1 := h k hk
   have h2 := h (up k) om
   simp only [if_true]; omega
  ·simp only [if_neg e]; exact h k hk
 refine ⟨hok, fun j => ?_⟩
 induction j using Nat.strongRecOn with
 | _ j ih =>
  intro hj
  have h1 := h j hj
  by_cases ej : j = i
  ·subst ej
   by_cases e1 : up j = j
   ·rw [rt_fix h hj e1, rt_fix hok hj (by simp only [if_true]; rw [e1, e1])]
   ·have h2 := h (up j) om
    rw [rt_step hok hj]
    simp only [if_true]
    rw [ih (up (up j)) om om, rt_step h hj, rt_step h (by omega : up j < n)]
  ·by_cases e1 : up j = j
   ·rw [rt_fix h hj e1, rt_fix hok hj (by simp only [if_neg ej]; exact e1)]
   ·rw [rt_step hok hj, rt_step h hj]
    simp only [if_neg ej]
    exact ih (up j) om om
theorem rt_join (h : UpOk n up) {a b : Nat} (hb : b < n) (ha' : up a = a) (hb' : up b = b) (hab : a < b) :
  UpOk n (fun k => if k = b then a else up k) ∧ ∀ j, j < n → rt (fun k => if k = b then a else up k) j = if rt up j = b then a else rt up j := by
 have hok : UpOk n (fun k => if k = b then a else up k) := fun k hk => by
  by_cases e : k = b
  ·simp only [if_pos e]; omega
  ·simp only [if_neg e]; exact h k hk
 refine ⟨hok, fun j => ?_⟩
 induction j using Nat.strongRecOn with
 | _ j ih =>
  intro hj
  have h1 := h j hj
  by_cases ej : j = b
  ·subst ej
   rw [rt_step hok hj]
   simp only [if_true]
   rw [ih a hab om, rt_fix h hj hb', if_pos rfl, rt_fix h (by omega : a < n) ha', if_neg om]
  ·by_cases e1 : up j = j
   ·rw [rt_fix h hj e1, rt_fix hok hj (by simp only [if_neg ej]; exact e1), if_neg ej]
   ·rw [rt_step hok hj, rt_step h hj]
    simp only [if_neg ej]
    exact ih (up j) om om
end
def joinF (ρ : Nat → Nat) (a b : Nat) : Nat → Nat := fun k => if ρ a < ρ b then (if ρ k = ρ b then ρ a else ρ k) else (if ρ k = ρ a then ρ b else ρ k)
def ufRow (act : Nat → Bool) (i : Nat) (l : List Nat) (ρ : Nat → Nat) : Nat → Nat := l.foldl (fun ρ j => if act i && act j then joinF ρ i j else ρ) ρ
theorem ufRow_take (act : Nat → Bool) (i : Nat) {l : List Nat} (ρ : Nat → Nat) {m : Nat} (hm : m < l.length) :
  ufRow act i (l.take (m + 1)) ρ = if act i && act (l.getD m 0) then joinF (ufRow act i (l.take m) ρ) i (l.getD m 0) else ufRow act i (l.take m) ρ := by
 rw [List.take_succ_eq_append_getElem hm, getD_at l 0 hm]
 simp only [ufRow, List.foldl_append, List.foldl_cons, List.foldl_nil]
def ufTo (nb : Nat → List Nat) (act : Nat → Bool) : Nat → Nat → Nat
 | 0 => fun i => i
 | k + 1 => ufRow act k (nb k) (ufTo nb act k)
inductive EqvC (E : Nat → Nat → Prop) : Nat → Nat → Prop where
 | refl (i : Nat) : EqvC E i i
 | base {i j : Nat} : E i j → EqvC E i j
 | symm {i j : Nat} : EqvC E i j → EqvC E j i
 | trans {i j k : Nat} : EqvC E i j → EqvC E j k → EqvC E i k
theorem EqvC.mono {E E' : Nat → Nat → Prop} (h : ∀ i j, E i j → E' i j) {i j : Nat} (e : EqvC E i j) : EqvC E' i j := by
 induction e with
 | refl i => exact .refl i
 | base h' => exact .base (h _ _ h')
 | symm _ ih => exact .symm ih
 | trans _ _ ih1 ih2 => exact .trans ih1 ih2
theorem EqvC.closed {E : Nat → Nat → Prop} {p : Nat → Prop} (h : ∀ i j, E i j → (p i ↔ p j)) {i j : Nat} (e : EqvC E i j) : p i ↔ p j := by
 induction e with
 | refl i => exact Iff.rfl
 | base h' => exact h _ _ h'
 | symm _ ih => exact ih.symm
 | trans _ _ ih1 ih2 => exact ih1.trans ih2
structure UF (n : Nat) (E : Nat → Nat → Prop) (ρ : Nat → Nat) : Prop where
 le : ∀ i, i < n → ρ i ≤ i
 idem : ∀ i, i < n → ρ (ρ i) = ρ i
 snd : ∀ i j, i < n → j < n → ρ i = ρ j → EqvC E i j
 cmp : ∀ i j, i < n → j < n → E i j → ρ i = ρ j
theorem UF.join {n : Nat} {E E' : Nat → Nat → Prop} {ρ : Nat → Nat} (u : UF n E ρ) {a b : Nat} (ha : a < n) (hb : b < n) (h1 : ∀ i j, E i j → E' i j) (h2 : E' a b) (h3 : ∀ i j, E' i j → E i j ∨ (i = a ∧ j = b)) : UF n E' (joinF ρ a b) := by
 have la := u.le a ha
 have lb := u.le b hb
 have ia := u.idem a ha
 have ib := u.idem b hb
 have hra : EqvC E' a (ρ a) := (u.snd a (ρ a) ha om ia.symm).mono h1
 have hrb : EqvC E' b (ρ b) := (u.snd b (ρ b) hb om ib.symm).mono h1
 have hab : EqvC E' (ρ a) (ρ b) := (hra.symm.trans (.base h2)).trans hrb
 have hval : ∀ k, k < n → EqvC E' k (joinF ρ a b k) := fun k hk => by
  have hk' : EqvC E' k (ρ k) := (u.snd k (ρ k) hk (by have := u.le k hk; omega) (u.idem k hk).symm).mono h1
  unfold joinF
  split
  ·split
   ·rename_i e; rw [e] at hk'; exact hk'.trans hab.symm
   ·exact hk'
  ·split
   ·rename_i e; rw [e] at hk'; exact hk'.trans hab
   ·exact hk'
 refine ⟨fun i hi => ?_, fun i hi => ?_, fun i j hi hj e => ?_, fun i j hi hj e => ?_⟩
 ·have := u.le i hi
  unfold joinF
  split
  ·split <;> omega
  ·split <;> omega
 ·have hi' := u.idem i hi
  unfold joinF
  by_cases hlt : ρ a < ρ b
  ·simp only [if_pos hlt]
   by_cases e : ρ i = ρ b
   ·simp only [if_pos e, ia]; rw [if_neg om]
   ·simp only [if_neg e, hi']
  ·simp only [if_neg hlt]
   by_cases e : ρ i = ρ a
   ·simp only [if_pos e, ib]
    split <;> rfl
   ·simp only [if_neg e, hi']
 ·have h4 := hval i hi
  have h5 := hval j hj
  rw [e] at h4
  exact h4.trans h5.symm
 ·rcases h3 i j e with h | ⟨rfl, rfl⟩
  ·unfold joinF; rw [u.cmp i j hi hj h]
  ·unfold joinF
   by_cases hlt : ρ i < ρ j
   ·simp only [if_pos hlt]; rw [if_neg om]; simp
   ·simp only [if_neg hlt]; simp
theorem UF.same {n : Nat} {E E' : Nat → Nat → Prop} {ρ : Nat → Nat} (u : UF n E ρ) (h : ∀ i j, E i j ↔ E' i j) : UF n E' ρ :=
 ⟨u.le, u.idem, fun i j hi hj e => (u.snd i j hi hj e).mono fun i j => (h i j).1, fun i j hi hj e => u.cmp i j hi hj ((h i j).2 e)⟩
def EdgT (nb : Nat → List Nat) (act : Nat → Bool) (k : Nat) (i j : Nat) : Prop := i < k ∧ j ∈ nb i ∧ act i = true ∧ act j = true
theorem ufTo_ok {n : Nat} {nb : Nat → List Nat} {act : Nat → Bool} (hnb : ∀ i, i < n → ∀ j ∈ nb i, j < n) : ∀ k, k ≤ n → UF n (EdgT nb act k) (ufTo nb act k)
 | 0, _ => ⟨fun _ _ => Nat.le_refl _, fun _ _ => rfl, fun i j _ _ e => by rw [show i = j from e]; exact .refl _, fun i j _ _ e => by have := e.1; omega⟩
 | k + 1, hk => by
  have ih := ufTo_ok (act := act) hnb k om
  have key : ∀ m, m ≤ (nb k).length → UF n (fun i j => EdgT nb act k i j ∨ (i = k ∧ j ∈ (nb k).take m ∧ act i = true ∧ act j = true)) (ufRow act k ((nb k).take m) (ufTo nb act k)) := by
   intro m
   induction m with
   | zero => intro _; simp only [List.take_zero, ufRow, List.foldl_nil]; exact ih.same fun i j => by simp
   | succ m ihm =>
    intro hm
    have u := ihm om
    have hmem : (nb k).getD m 0 ∈ nb k := getD_mem om
    have hj := hnb k om _ hmem
    have htk : ∀ j, j ∈ (nb k).take (m + 1) ↔ j ∈ (nb k).take m ∨ j = (nb k).getD m 0 := fun j => by
     rw [List.take_succ_eq_append_getElem om, List.mem_append, List.mem_singleton, getD_at _ 0 om]
    rw [ufRow_take act k _ om]
    generalize (nb k).getD m 0 = y at *
    by_cases ha : (act k && act y) = true
    ·rw [if_pos ha]
     simp only [Bool.and_eq_true] at ha
     refine u.join om hj (fun i j h => ?_) (.inr ⟨rfl, (htk y).2 (.inr rfl), ha.1, ha.2⟩) (fun i j h => ?_)
     ·rcases h with h | ⟨h1, h2, h3, h4⟩
      ·exact .inl h
      ·exact .inr ⟨h1, (htk j).2 (.inl h2), h3, h4⟩
     ·rcases h with h | ⟨h1, h2, h3, h4⟩
      ·exact .inl (.inl h)
      ·rcases (htk j).1 h2 with h | h
       ·exact .inl (.inr ⟨h1, h, h3, h4⟩)
       ·exact .inr ⟨h1, h⟩
    ·rw [if_neg ha]
     refine u.same fun i j => ?_
     constructor
     ·rintro (h | ⟨h1, h2, h3, h4⟩)
      ·exact .inl h
      ·exact .inr ⟨h1, (htk j).2 (.inl h2), h3, h4⟩
     ·rintro (h | ⟨h1, h2, h3, h4⟩)
      ·exact .inl h
      ·rcases (htk j).1 h2 with h | h
       ·exact .inr ⟨h1, h, h3, h4⟩
       ·subst h; subst h1; exact absurd (by simp [h3, h4]) ha
  have u := key (nb k).length (Nat.le_refl _)
  rw [List.take_length] at u
  simp only [ufTo]
  refine u.same fun i j => ?_
  simp only [EdgT]
  constructor
  ·rintro (⟨h1, h2⟩ | ⟨rfl, h2⟩)
   ·exact ⟨om, h2⟩
   ·exact ⟨om, h2⟩
  ·rintro ⟨h1, h2⟩
   by_cases e : i = k
   ·subst e; exact .inr ⟨rfl, h2⟩
   ·exact .inl ⟨om, h2⟩
def repF (nb : Nat → List Nat) (act : Nat → Bool) (n : Nat) : Nat → Nat := fun i => ufTo nb act n i
def Edg (nb : Nat → List Nat) (act : Nat → Bool) (n : Nat) (i j : Nat) : Prop := i < n ∧ j ∈ nb i ∧ act i = true ∧ act j = true
theorem rep_ok {n : Nat} {nb : Nat → List Nat} {act : Nat → Bool} (hnb : ∀ i, i < n → ∀ j ∈ nb i, j < n) : UF n (Edg nb act n) (repF nb act n) := ufTo_ok (act := act) hnb n (Nat.le_refl _)
theorem rep_act {n : Nat} {nb : Nat → List Nat} {act : Nat → Bool} (hnb : ∀ i, i < n → ∀ j ∈ nb i, j < n) {i : Nat} (hi : i < n) : act (repF nb act n i) = act i := by
 have u := rep_ok (act := act) hnb
 have h1 := u.snd i (repF nb act n i) hi (by have := u.le i hi; omega) (u.idem i hi).symm
 have := EqvC.closed (p := fun i => act i = true) (fun i j h => ⟨fun _ => h.2.2.2, fun _ => h.2.2.1⟩) h1
 cases e1 : act i <;> cases e2 : act (repF nb act n i) <;> simp_all
def rootB (nb : Nat → List Nat) (act : Nat → Bool) (n : Nat) (r : Nat) : Prop := act r = true ∧ repF nb act n r = r
instance (nb : Nat → List Nat) (act : Nat → Bool) (n : Nat) : DecidablePred (rootB nb act n) := fun r => inferInstanceAs (Decidable (act r = true ∧ repF nb act n r = r))
def numOf (nb : Nat → List Nat) (act : Nat → Bool) (n : Nat) (i : Nat) : Int := if act i = true then (cntp (rootB nb act n) (repF nb act n i) : Nat) else -1
def compN (nb : Nat → List Nat) (act : Nat → Bool) (n : Nat) : Nat := cntp (rootB nb act n) n
theorem nodup_len {l : List Nat} {n : Nat} (hd : l.Nodup) (h : ∀ x ∈ l, x < n) : l.length ≤ n := by
 rw [← sumN_count h]
 have h1 : ∀ m, sumN (fun i => l.count i) m ≤ m := by
  intro m
  induction m with
  | zero => exact Nat.le_refl _
  | succ m ih =>
   have : l.count m ≤ 1 := List.nodup_iff_count.1 hd m
   simp only [sumN]; omega
 exact h1 n
section
variable (R C : Nat) (h : Nat → Int) (lv : Int)
def landB (i : Nat) : Bool := decide (lv ≤ h i)
def quadP (r c : Nat) : Prop := lv ≤ h (r * C + c) ∧ lv ≤ h (r * C + (c + 1)) ∧ lv ≤ h ((r + 1) * C + c) ∧ lv ≤ h ((r + 1) * C + (c + 1))
instance (r : Nat) : DecidablePred (quadP C h lv r) := fun c => inferInstanceAs (Decidable (lv ≤ h (r * C + c) ∧ lv ≤ h (r * C + (c + 1)) ∧ lv ≤ h ((r + 1) * C + c) ∧ lv ≤ h ((r + 1) * C + (c + 1))))
end
theorem lv_parts {rows : List (List Int)} {lv : Int} (h : lvok rows lv = true) : gvalid rows = true ∧ 0 ≤ lv ∧ lv ≤ 99 := by
 simp only [lvok, Bool.and_eq_true, decide_eq_true_eq] at h; exact h
end Go.SW
namespace Go.Proofs.YtcbmhjndbpafbaaGreatDoor
open Go.RowKit Go.SW
theorem corner_le {R C r c : Nat} (h1 : r < R) (h2 : c < C) : r * C + c < R * C := by
 have := Nat.mul_le_mul_right C (show r + 1 ≤ R from om)
 rw [Nat.add_mul, Nat.one_mul] at this; omega
end Go.Proofs.YtcbmhjndbpafbaaGreatDoor
namespace Go.SW
theorem rc_eq {C q c : Nat} (hc : c < C) : (q * C + c) / C = q ∧ (q * C + c) % C = c := div_row C q c hc
theorem rc_inj {C q c q' c' : Nat} (hc : c < C) (hc' : c' < C) (e : q * C + c = q' * C + c') : q = q' ∧ c = c' := by
 have h1 := rc_eq (q := q) hc
 have h2 := rc_eq (q := q') hc'
 rw [e] at h1
 exact ⟨h1.1.symm.trans h2.1, h1.2.symm.trans h2.2⟩
theorem rc_lt {R C i : Nat} (hi : i < R * C) : 0 < C ∧ i / C < R ∧ i % C < C ∧ i = i / C * C + i % C := by
 have hC : 0 < C := Nat.pos_of_ne_zero fun e => by subst e; simp at hi
 exact ⟨hC, Nat.div_lt_of_lt_mul (by rw [Nat.mul_comm]; exact hi), Nat.mod_lt _ hC, by rw [Nat.mul_comm]; exact (Nat.div_add_mod i C).symm⟩
theorem corner_ltN {R C r c : Nat} (h1 : r < R) (h2 : c < C) : r * C + c < R * C := by
 have := Nat.mul_le_mul_right C (show r + 1 ≤ R from om)
 rw [Nat.add_mul, Nat.one_mul] at this; omega
def AdjC (q c q' c' : Nat) : Prop := (q = q' ∧ (c + 1 = c' ∨ c' + 1 = c)) ∨ (c = c' ∧ (q + 1 = q' ∨ q' + 1 = q))
theorem near_rc {R C q c q' c' : Nat} (hc : c < C) (hq' : q' < R) (hc' : c' < C) : q' * C + c' ∈ nearN R C (q * C + c) ↔ AdjC q c q' c' := by
 rw [nearN_mem, (rc_eq (q := q) hc).2, AdjC]
 have hs : (q + 1) * C = q * C + C := by rw [Nat.add_mul, Nat.one_mul]
 have hs' : (q' + 1) * C = q' * C + C := by rw [Nat.add_mul, Nat.one_mul]
 constructor
 ·rintro (⟨h1, h2⟩ | ⟨h1, h2⟩ | ⟨h1, h2⟩ | ⟨h1, h2⟩)
  ·obtain ⟨e1, e2⟩ := rc_inj (q := q' + 1) (q' := q) hc' hc om
   exact .inr ⟨e2.symm, .inr e1⟩
  ·obtain ⟨e1, e2⟩ := rc_inj (q := q') (q' := q) hc' (by omega : c + 1 < C) om
   exact .inl ⟨e1.symm, .inl e2.symm⟩
  ·obtain ⟨e1, e2⟩ := rc_inj (q := q') (q' := q + 1) hc' hc om
   exact .inr ⟨e2.symm, .inl e1.symm⟩
  ·obtain ⟨e1, e2⟩ := rc_inj (q := q') (q' := q) hc' (by omega : c - 1 < C) om
   exact .inl ⟨e1.symm, .inr om⟩
 ·rintro (⟨rfl, (rfl | rfl)⟩ | ⟨rfl, (rfl | rfl)⟩)
  ·exact .inr (.inl ⟨hc', om⟩)
  ·exact .inr (.inr (.inr ⟨om, om⟩))
  ·refine .inr (.inr (.inl ⟨?_, om⟩))
   have : (q + 1) * C + c < R * C := corner_ltN hq' hc
   omega
  ·exact .inl ⟨om, om⟩
theorem near_iff {R C i j : Nat} (hi : i < R * C) (hj : j < R * C) : j ∈ nearN R C i ↔ AdjC (i / C) (i % C) (j / C) (j % C) := by
 obtain ⟨_, h1, h2, h3⟩ := rc_lt hi
 obtain ⟨_, h4, h5, h6⟩ := rc_lt hj
 have := near_rc (q := i / C) h2 h4 h5
 rw [← h3, ← h6] at this
 exact this
theorem near_sym {R C i j : Nat} (hi : i < R * C) (hj : j < R * C) : j ∈ nearN R C i ↔ i ∈ nearN R C j := by
 rw [near_iff hi hj, near_iff hj hi, AdjC, AdjC]; omega
theorem near_ne {R C i : Nat} (hi : i < R * C) : i ∉ nearN R C i := by
 rw [near_iff hi hi, AdjC]; omega
theorem sumN_perm {n m : Nat} (σ τ : Nat → Nat) (h1 : ∀ i, i < n → σ i < m ∧ τ (σ i) = i) (h2 : ∀ j, j < m → τ j < n ∧ σ (τ j) = j) (f : Nat → Nat) : sumN f m = sumN (fun i => f (σ i)) n := by
 have e1 : sumN f m = sumN (fun j => sumN (fun i => if i = τ j then f j else 0) n) m := sumN_congr fun j hj => (sumN_single (h2 j hj).1 (f j)).symm
 have e2 : sumN (fun i => f (σ i)) n = sumN (fun i => sumN (fun j => if j = σ i then f (σ i) else 0) m) n := sumN_congr fun i hi => (sumN_single (h1 i hi).1 (f (σ i))).symm
 rw [e1, e2, sumN_swap]
 refine sumN_congr fun i hi => sumN_congr fun j hj => ?_
 by_cases h : i = τ j
 ·subst h; rw [if_pos rfl, if_pos (h2 j hj).2.symm, (h2 j hj).2]
 ·rw [if_neg h, if_neg fun e => h (by subst e; exact (h1 i hi).2.symm)]
theorem cntp_perm {n m : Nat} (σ τ : Nat → Nat) (h1 : ∀ i, i < n → σ i < m ∧ τ (σ i) = i) (h2 : ∀ j, j < m → τ j < n ∧ σ (τ j) = j) (p q : Nat → Prop) [DecidablePred p] [DecidablePred q] (h : ∀ i, i < n → (q i ↔ p (σ i))) : cntp q n = cntp p m := by
 rw [← sumN_cntp, ← sumN_cntp, sumN_perm σ τ h1 h2]
 exact sumN_congr fun i hi => by simp only [h i hi]
theorem cntp_inj {n m : Nat} {p q : Nat → Prop} [DecidablePred p] [DecidablePred q] (f : Nat → Nat) (h1 : ∀ i, i < n → p i → f i < m ∧ q (f i)) (h2 : ∀ i j, i < n → j < n → p i → p j → f i = f j → i = j) : cntp p n ≤ cntp q m := by
 rw [← sumN_cntp p, ← sumN_cntp q]
 have e1 : sumN (fun i => if p i then 1 else 0) n = sumN (fun i => sumN (fun j => if j = f i then (if p i then 1 else 0) else 0) m) n := sumN_congr fun i hi => by
  by_cases hp : p i
  ·exact (sumN_single (h1 i hi hp).1 _).symm
  ·simp only [if_neg hp, ite_self]; exact (sumN_zero m).symm
 rw [e1, sumN_swap]
 refine sumN_le fun j hj => ?_
 have hle : ∀ k, k ≤ n → sumN (fun i => if j = f i then (if p i then 1 else 0) else 0) k ≤ if q j then 1 else 0 := by
  intro k
  induction k with
  | zero => intro _; exact Nat.zero_le _
  | succ k ih =>
   intro hk
   simp only [sumN]
   by_cases hc : j = f k ∧ p k
   ·have hz : sumN (fun i => if j = f i then (if p i then 1 else 0) else 0) k = 0 := by
     refine (sumN_congr (g := fun _ => 0) fun i hi => ?_).trans (sumN_zero k)
     by_cases hi' : j = f i ∧ p i
     ·exact absurd (h2 i k om om hi'.2 hc.2 (hi'.1.symm.trans hc.1)) om
     ·by_cases ha : j = f i
      ·rw [if_pos ha, if_neg fun hp => hi' ⟨ha, hp⟩]
      ·rw [if_neg ha]
    rw [hz, if_pos hc.1, if_pos hc.2, if_pos (hc.1 ▸ (h1 k om hc.2).2)]
    exact Nat.le_refl _
   ·have : (if j = f k then (if p k then 1 else 0) else 0) = 0 := by
     by_cases ha : j = f k
     ·rw [if_pos ha, if_neg fun hp => hc ⟨ha, hp⟩]
     ·rw [if_neg ha]
    rw [this]
    exact ih om
 exact hle n (Nat.le_refl _)
section
variable (R C : Nat)
variable {R C}
end
theorem rc_ex {R C i : Nat} (hi : i < R * C) : ∃ q c, q < R ∧ c < C ∧ i = q * C + c := ⟨i / C, i % C, (rc_lt hi).2⟩
section
variable (nb : Nat → List Nat) (act : Nat → Bool) (n : Nat)
def numTo (i j : Nat) : Int := if act j = true ∧ repF nb act n j < i then numOf nb act n j else -1
structure Bfs (i : Nat) (l : List Nat) : Prop where
 nd : l.Nodup
 mem : ∀ x ∈ l, x < n ∧ act x = true ∧ repF nb act n x = i
 hd : i ∈ l
def numIn (i : Nat) (l : List Nat) (j : Nat) : Int := if j ∈ l then (cntp (rootB nb act n) i : Nat) else numTo nb act n i j
variable {nb act n}
theorem numTo_neg (i j : Nat) : numTo nb act n i j < 0 ↔ ¬ (act j = true ∧ repF nb act n j < i) := by
 simp only [numTo]
 by_cases h : act j = true ∧ repF nb act n j < i
 ·rw [if_pos h]; simp only [numOf, if_pos h.1]; exact ⟨fun h' => om, fun h' => absurd h h'⟩
 ·rw [if_neg h]; exact ⟨fun _ => h, fun _ => om⟩
theorem numTo_zero (j : Nat) : numTo nb act n 0 j = -1 := by simp [numTo]
theorem numTo_all (hnb : ∀ i, i < n → ∀ j ∈ nb i, j < n) {j : Nat} (hj : j < n) : numTo nb act n n j = numOf nb act n j := by
 have := (rep_ok (act := act) hnb).le j hj
 simp only [numTo, numOf]
 by_cases h : act j = true
 ·rw [if_pos ⟨h, om⟩]
 ·rw [if_neg fun h' => h h'.1, if_neg h]
theorem numTo_skip (hnb : ∀ i, i < n → ∀ j ∈ nb i, j < n) {i : Nat} (hi : i < n) (h : ¬ (act i = true ∧ repF nb act n i = i)) {j : Nat} (hj : j < n) : numTo nb act n (i + 1) j = numTo nb act n i j := by
 have u := rep_ok (act := act) hnb
 simp only [numTo]
 by_cases ha : act j = true
 ·have hne : repF nb act n j ≠ i := fun e => h (by
   have h1 := rep_act (act := act) hnb hj
   have h2 := u.idem j hj
   rw [e] at h1 h2
   exact ⟨by rw [h1]; exact ha, h2⟩)
  by_cases hl : repF nb act n j < i
  ·rw [if_pos ⟨ha, om⟩, if_pos ⟨ha, hl⟩]
  ·rw [if_neg fun h' => om, if_neg fun h' => hl h'.2]
 ·rw [if_neg fun h' => ha h'.1, if_neg fun h' => ha h'.1]
theorem Bfs.one {i : Nat} (hi : i < n) (h : act i = true ∧ repF nb act n i = i) : Bfs nb act n i [i] :=
 ⟨by simp, fun x hx => by rw [List.mem_singleton] at hx; subst hx; exact ⟨hi, h⟩, by simp⟩
theorem Bfs.near (hnb : ∀ i, i < n → ∀ j ∈ nb i, j < n) {i : Nat} {l : List Nat} (b : Bfs nb act n i l) {x j : Nat} (hx : x ∈ l) (hj : j ∈ nb x) (ha : act j = true) : j < n ∧ repF nb act n j = i := by
 obtain ⟨h1, h2, h3⟩ := b.mem x hx
 have hjn := hnb x h1 j hj
 exact ⟨hjn, by rw [← h3]; exact ((rep_ok (act := act) hnb).cmp x j h1 hjn ⟨h1, hj, h2, ha⟩).symm⟩
theorem Bfs.push (hnb : ∀ i, i < n → ∀ j ∈ nb i, j < n) {i : Nat} {l : List Nat} (b : Bfs nb act n i l) {x j : Nat} (hx : x ∈ l) (hj : j ∈ nb x) (ha : act j = true) (hn : j ∉ l) : Bfs nb act n i (l ++ [j]) := by
 obtain ⟨h1, h2⟩ := b.near hnb hx hj ha
 refine ⟨List.nodup_append.2 ⟨b.nd, by simp, fun a ha' c hc e => ?_⟩, fun y hy => ?_, by simp [b.hd]⟩
 ·rw [List.mem_singleton] at hc; subst hc; subst e; exact hn ha'
 ·rcases List.mem_append.1 hy with h | h
  ·exact b.mem y h
  ·rw [List.mem_singleton] at h; subst h; exact ⟨h1, ha, h2⟩
theorem Bfs.len {i : Nat} {l : List Nat} (b : Bfs nb act n i l) : l.length ≤ n := nodup_len b.nd fun x hx => (b.mem x hx).1
theorem numIn_neg (hnb : ∀ i, i < n → ∀ j ∈ nb i, j < n) {i : Nat} {l : List Nat} (b : Bfs nb act n i l) {x j : Nat} (hx : x ∈ l) (hj : j ∈ nb x) (ha : act j = true) : numIn nb act n i l j < 0 ↔ j ∉ l := by
 obtain ⟨h1, h2⟩ := b.near hnb hx hj ha
 simp only [numIn]
 by_cases h : j ∈ l
 ·rw [if_pos h]; exact ⟨fun h' => om, fun h' => absurd h h'⟩
 ·rw [if_neg h, numTo_neg]; exact ⟨fun _ => h, fun _ => om⟩
theorem Bfs.all (hnb : ∀ i, i < n → ∀ j ∈ nb i, j < n) (hsym : ∀ i j, i < n → j < n → j ∈ nb i → i ∈ nb j) {i : Nat} {l : List Nat} (b : Bfs nb act n i l) (cl : ∀ x ∈ l, ∀ j ∈ nb x, act j = true → j ∈ l) {j : Nat} (hj : j < n) (hr : repF nb act n j = i) : j ∈ l := by
 have u := rep_ok (act := act) hnb
 obtain ⟨h1, h2, h3⟩ := b.mem i b.hd
 have e := u.snd i j h1 hj (by rw [h3, hr])
 exact (EqvC.closed (p := fun x => x ∈ l) (fun a c h => ⟨fun ha => cl a ha c h.2.1 h.2.2.2, fun hc => cl c hc a (hsym a c h.1 (hnb a h.1 c h.2.1) h.2.1) h.2.2.1⟩) e).1 b.hd
theorem numIn_end (hnb : ∀ i, i < n → ∀ j ∈ nb i, j < n) (hsym : ∀ i j, i < n → j < n → j ∈ nb i → i ∈ nb j) {i : Nat} {l : List Nat} (b : Bfs nb act n i l) (cl : ∀ x ∈ l, ∀ j ∈ nb x, act j = true → j ∈ l) {j : Nat} (hj : j < n) : numIn nb act n i l j = numTo nb act n (i + 1) j := by
 simp only [numIn, numTo]
 by_cases h : j ∈ l
 ·obtain ⟨h1, h2, h3⟩ := b.mem j h
  rw [if_pos h, if_pos ⟨h2, om⟩]
  simp only [numOf, if_pos h2, h3]
 ·have hne : repF nb act n j ≠ i := fun e => h (b.all hnb hsym cl hj e)
  rw [if_neg h]
  by_cases ha : act j = true ∧ repF nb act n j < i
  ·rw [if_pos ha, if_pos ⟨ha.1, om⟩]
  ·rw [if_neg ha, if_neg fun h' => ha ⟨h'.1, om⟩]
theorem root_skip {i : Nat} (h : ¬ (act i = true ∧ repF nb act n i = i)) : cntp (rootB nb act n) (i + 1) = cntp (rootB nb act n) i := by
 simp only [cntp]
 rw [if_neg (show ¬ rootB nb act n i from h), Nat.add_zero]
theorem root_take {i : Nat} (h : act i = true ∧ repF nb act n i = i) : cntp (rootB nb act n) (i + 1) = cntp (rootB nb act n) i + 1 := by
 simp only [cntp]
 rw [if_pos (show rootB nb act n i from h)]
end
def ClosedTo (nb : Nat → List Nat) (act : Nat → Bool) (l : List Nat) (k : Nat) : Prop := ∀ k' x, k' < k → l[k']? = some x → ∀ j ∈ nb x, act j = true → j ∈ l
theorem ClosedTo.push {nb : Nat → List Nat} {act : Nat → Bool} {l : List Nat} {k : Nat} (h : ClosedTo nb act l k) (hk : k ≤ l.length) (j : Nat) : ClosedTo nb act (l ++ [j]) k := fun k' x h1 h2 y hy ha => by
 rw [List.getElem?_append_left om] at h2
 exact List.mem_append_left _ (h k' x h1 h2 y hy ha)
theorem ClosedTo.all {nb : Nat → List Nat} {act : Nat → Bool} {l : List Nat} (h : ClosedTo nb act l l.length) : ∀ x ∈ l, ∀ j ∈ nb x, act j = true → j ∈ l := fun x hx => by
 obtain ⟨k, hk, e⟩ := List.getElem_of_mem hx
 exact h k x hk (by rw [List.getElem?_eq_getElem hk, e])
theorem ClosedTo.step {nb : Nat → List Nat} {act : Nat → Bool} {l : List Nat} {k x : Nat} (h : ClosedTo nb act l k) (hx : l[k]? = some x) (hn : ∀ j ∈ nb x, act j = true → j ∈ l) : ClosedTo nb act l (k + 1) := fun k' y h1 h2 => by
 by_cases e : k' = k
 ·subst e; rw [hx] at h2; cases h2; exact hn
 ·exact h k' y om h2
theorem cntp_mono (p : Nat → Prop) [DecidablePred p] {a b : Nat} (h : a ≤ b) : cntp p a ≤ cntp p b := by
 induction b with
 | zero =>
      obtain rfl : a = 0 := om
      exact Nat.le_refl _
 | succ b ih =>
  by_cases e : a = b + 1
  ·subst e; exact Nat.le_refl _
  ·have := ih om; simp only [cntp]; omega
theorem cntp_at (p : Nat → Prop) [DecidablePred p] : ∀ {n k : Nat}, k < cntp p n → ∃ r, r < n ∧ p r ∧ cntp p r = k
 | 0, k, h => by simp [cntp] at h
 | n + 1, k, h => by
  by_cases hk : k < cntp p n
  ·obtain ⟨r, h1, h2, h3⟩ := cntp_at p hk
   exact ⟨r, om, h2, h3⟩
  ·simp only [cntp] at h
   by_cases hp : p n
   ·rw [if_pos hp] at h; exact ⟨n, om, hp, om⟩
   ·rw [if_neg hp] at h; omega
theorem cntp_lt (p : Nat → Prop) [DecidablePred p] {n r : Nat} (hr : r < n) (hp : p r) : cntp p r < cntp p n := by
 have h1 := cntp_mono p (show r + 1 ≤ n from om)
 simp only [cntp, if_pos hp] at h1; omega
theorem cntp_posI (p : Nat → Prop) [DecidablePred p] {n : Nat} : 0 < cntp p n ↔ ∃ r, r < n ∧ p r := by
 constructor
 ·intro h; obtain ⟨r, h1, h2, _⟩ := cntp_at p h; exact ⟨r, h1, h2⟩
 ·rintro ⟨r, h1, h2⟩; have := cntp_lt p h1 h2; omega
section
variable {nb : Nat → List Nat} {act : Nat → Bool} {n : Nat}
theorem rep_eqv (hnb : ∀ i, i < n → ∀ j ∈ nb i, j < n) {i j : Nat} (e : EqvC (Edg nb act n) i j) : repF nb act n i = repF nb act n j := by
 have u := rep_ok (act := act) hnb
 exact ((EqvC.closed (p := fun x => repF nb act n x = repF nb act n j) (fun a b h => by rw [u.cmp a b h.1 (hnb a h.1 b h.2.1) h]) e).2 rfl)
end
def arCell (R C q c t : Nat) : List Nat := if t ≠ 4 ∧ 1 ≤ q + t / 3 ∧ q + t / 3 ≤ R ∧ 1 ≤ c + t % 3 ∧ c + t % 3 ≤ C then [(q + t / 3 - 1) * C + (c + t % 3 - 1)] else []
def aroundTo (R C i : Nat) : Nat → List Nat
 | 0 => []
 | k + 1 => aroundTo R C i k ++ arCell R C (i / C) (i % C) k
def aroundN (R C i : Nat) : List Nat := aroundTo R C i 9
theorem aroundTo_len (R C i : Nat) : ∀ k, (aroundTo R C i k).length ≤ k
 | 0 => Nat.le_refl _
 | k + 1 => by
  have := aroundTo_len R C i k
  simp only [aroundTo, arCell, List.length_append]
  split <;> simp <;> omega
def AroC (q c q' c' : Nat) : Prop := ¬ (q = q' ∧ c = c') ∧ q ≤ q' + 1 ∧ q' ≤ q + 1 ∧ c ≤ c' + 1 ∧ c' ≤ c + 1
theorem aro_mem {R C i j : Nat} : ∀ {k}, j ∈ aroundTo R C i k ↔ ∃ t, t < k ∧ j ∈ arCell R C (i / C) (i % C) t
 | 0 => by simp [aroundTo]
 | k + 1 => by
  simp only [aroundTo, List.mem_append, aro_mem (k := k)]
  constructor
  ·rintro (⟨t, h1, h2⟩ | h)
   ·exact ⟨t, om, h2⟩
   ·exact ⟨k, om, h⟩
  ·rintro ⟨t, h1, h2⟩
   by_cases e : t = k
   ·subst e; exact .inr h2
   ·exact .inl ⟨t, om, h2⟩
theorem ar_mem {R C q c t j : Nat} : j ∈ arCell R C q c t ↔ (t ≠ 4 ∧ 1 ≤ q + t / 3 ∧ q + t / 3 ≤ R ∧ 1 ≤ c + t % 3 ∧ c + t % 3 ≤ C) ∧ j = (q + t / 3 - 1) * C + (c + t % 3 - 1) := by
 simp only [arCell]; split <;> rename_i h <;> simp [h]
theorem aro_rc {R C q c q' c' : Nat} (hc : c < C) (hq' : q' < R) (hc' : c' < C) : q' * C + c' ∈ aroundN R C (q * C + c) ↔ AroC q c q' c' := by
 rw [aroundN, aro_mem, (rc_eq (q := q) hc).1, (rc_eq (q := q) hc).2, AroC]
 constructor
 ·rintro ⟨t, h1, h2⟩
  obtain ⟨h3, h4⟩ := ar_mem.1 h2
  obtain ⟨e1, e2⟩ := rc_inj (q := q') (q' := q + t / 3 - 1) hc' (by omega : c + t % 3 - 1 < C) h4
  omega
 ·intro h
  refine ⟨3 * (q' + 1 - q) + (c' + 1 - c), om, ar_mem.2 ?_⟩
  have e1 : (3 * (q' + 1 - q) + (c' + 1 - c)) / 3 = q' + 1 - q := om
  have e2 : (3 * (q' + 1 - q) + (c' + 1 - c)) % 3 = c' + 1 - c := om
  rw [e1, e2]
  refine ⟨om, ?_⟩
  rw [show q + (q' + 1 - q) - 1 = q' from om, show c + (c' + 1 - c) - 1 = c' from om]
theorem aro_lt {R C : Nat} : ∀ i, i < R * C → ∀ j ∈ aroundN R C i, j < R * C := fun i hi j hj => by
 obtain ⟨t, h1, h2⟩ := aro_mem.1 hj
 obtain ⟨h3, h4⟩ := ar_mem.1 h2
 rw [h4]; exact corner_ltN om om
theorem aro_sym {R C i j : Nat} (hi : i < R * C) (hj : j < R * C) (h : j ∈ aroundN R C i) : i ∈ aroundN R C j := by
 obtain ⟨q, c, hq, hc, rfl⟩ := rc_ex hi
 obtain ⟨q', c', hq', hc', rfl⟩ := rc_ex hj
 rw [aro_rc hc hq' hc', AroC] at h
 rw [aro_rc hc' hq hc, AroC]; omega
def bordB (R C i : Nat) : Bool := decide (i / C = 0 ∨ i / C + 1 = R ∨ i % C = 0 ∨ i % C + 1 = C)
section
variable (R C : Nat) (act : Nat → Bool)
def opTo : Nat → Nat → Bool
 | 0, _ => false
 | k + 1, j => opTo k j || (bordB R C k && decide (repF (aroundN R C) act (R * C) k = j))
def lakeP (r : Nat) : Prop := rootB (aroundN R C) act (R * C) r ∧ opTo R C act (R * C) r = false
instance : DecidablePred (lakeP R C act) := fun r => inferInstanceAs (Decidable (rootB (aroundN R C) act (R * C) r ∧ opTo R C act (R * C) r = false))
def lakeN : Nat := cntp (lakeP R C act) (R * C)
variable {R C act}
theorem opTo_iff {j : Nat} : ∀ {k}, opTo R C act k j = true ↔ ∃ i, i < k ∧ bordB R C i = true ∧ repF (aroundN R C) act (R * C) i = j
 | 0 => by simp [opTo]
 | k + 1 => by
  simp only [opTo, Bool.or_eq_true, Bool.and_eq_true, decide_eq_true_eq, opTo_iff (k := k)]
  constructor
  ·rintro (⟨i, h1, h2⟩ | h)
   ·exact ⟨i, om, h2⟩
   ·exact ⟨k, om, h⟩
  ·rintro ⟨i, h1, h2⟩
   by_cases e : i = k
   ·subst e; exact .inr h2
   ·exact .inl ⟨i, om, h2⟩
end
theorem EqvC.map {E E' : Nat → Nat → Prop} (σ : Nat → Nat) (e : ∀ i j, E i j → E' (σ i) (σ j)) {a b : Nat} (h : EqvC E a b) : EqvC E' (σ a) (σ b) := by
 induction h with
 | refl i => exact .refl _
 | base h => exact .base (e _ _ h)
 | symm _ ih => exact .symm ih
 | trans _ _ ih1 ih2 => exact .trans ih1 ih2
end Go.SW
