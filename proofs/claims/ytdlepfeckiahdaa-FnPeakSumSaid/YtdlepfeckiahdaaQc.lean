/- Maths: passes. -/
import Derived.Test.YtdlepfeckiahdaaQa
import Derived.Test.YtdlepfeckiahdaaLr
set_option linter.all false
namespace Go.SW
open Go Go.RowKit
/-- Over heights of at least a level there is a way from a to x. -/
def Rch (R C : Nat) (h : Nat → Int) (a : Nat) (lv : Int) (x : Nat) : Prop :=
  landB h lv a = true ∧ landB h lv x = true ∧ repF (nearN R C) (landB h lv) (R * C) a = repF (nearN R C) (landB h lv) (R * C) x
instance (R C : Nat) (h : Nat → Int) (a : Nat) (lv : Int) (x : Nat) : Decidable (Rch R C h a lv x) := inferInstanceAs (Decidable (_ ∧ _ ∧ _))
theorem nb_lt {R C : Nat} : ∀ i, i < R * C → ∀ j ∈ nearN R C i, j < R * C := fun _ hi => nearN_lt hi
section
variable {R C : Nat} {h : Nat → Int} {a : Nat}
theorem Rch.self {lv : Int} (hl : lv ≤ h a) : Rch R C h a lv a := ⟨by simp [landB, hl], by simp [landB, hl], rfl⟩
theorem Rch.lea {lv : Int} {x : Nat} (r : Rch R C h a lv x) : lv ≤ h a := by have := r.1; simpa [landB] using this
theorem Rch.lex {lv : Int} {x : Nat} (r : Rch R C h a lv x) : lv ≤ h x := by have := r.2.1; simpa [landB] using this
theorem Rch.edge {lv : Int} {x j : Nat} (r : Rch R C h a lv x) (hx : x < R * C) (hj : j ∈ nearN R C x) (hl : lv ≤ h j) : Rch R C h a lv j := by
  have aj : landB h lv j = true := by simp [landB, hl]
  refine ⟨r.1, aj, r.2.2.trans ?_⟩
  exact rep_eqv (nb := nearN R C) (act := landB h lv) (n := R * C) nb_lt (.base (⟨hx, hj, r.2.1, aj⟩ : Edg (nearN R C) (landB h lv) (R * C) x j))
theorem Rch.closed {lv : Int} {x : Nat} (r : Rch R C h a lv x) (ha : a < R * C) (hx : x < R * C) {p : Nat → Prop} (hp : ∀ i, i < R * C → ∀ j ∈ nearN R C i, lv ≤ h i → lv ≤ h j → p i → p j) (pa : p a) : p x := by
  have u := rep_ok (nb := nearN R C) (act := landB h lv) (n := R * C) nb_lt
  have e := u.snd a x ha hx r.2.2
  refine (EqvC.closed (p := p) (fun i j ed => ?_) e).1 pa
  obtain ⟨h1, h2, h3, h4⟩ := ed
  have l1 : lv ≤ h i := by simpa [landB] using h3
  have l2 : lv ≤ h j := by simpa [landB] using h4
  have hjn := nb_lt i h1 j h2
  exact ⟨hp i h1 j h2 l1 l2, hp j hjn i ((near_sym h1 hjn).1 h2) l2 l1⟩
theorem Rch.mono {lv lv' : Int} {x : Nat} (r : Rch R C h a lv x) (ha : a < R * C) (hx : x < R * C) (hl : lv' ≤ lv) : Rch R C h a lv' x := by
  have := r.lea
  exact r.closed ha hx (p := fun y => Rch R C h a lv' y) (fun i hi j hj h1 h2 q => q.edge hi hj (by omega)) (Rch.self (by omega))
/-- The pass: the greatest level with a way, or -1. -/
def passN (R C : Nat) (h : Nat → Int) (a x : Nat) : Int := (cntp (fun lv => Rch R C h a (lv : Int) x) 100 : Nat) - 1
theorem cntp_le' (p : Nat → Prop) [DecidablePred p] : ∀ n, cntp p n ≤ n
  | 0 => Nat.le_refl _
  | n + 1 => by have := cntp_le' p n; simp only [cntp]; split <;> omega
theorem cntp_down (p : Nat → Prop) [DecidablePred p] (hd : ∀ i j, i ≤ j → p j → p i) : ∀ N k, k < N → (k < cntp p N ↔ p k)
  | N + 1, k, hk => by
    have hle := cntp_le' p N
    simp only [cntp]
    by_cases hN : p N
    · have hall : cntp p N = N := by
        have : ∀ m, m ≤ N → cntp p m = m := fun m => by
          induction m with
          | zero => intro _; rfl
          | succ m ih => intro hm; simp only [cntp, ih (by omega), if_pos (hd m N (by omega) hN)]
        exact this N (Nat.le_refl _)
      rw [if_pos hN, hall]
      exact ⟨fun _ => hd k N (by omega) hN, fun _ => by omega⟩
    · rw [if_neg hN, Nat.add_zero]
      by_cases e : k = N
      · subst e; exact ⟨fun h' => by omega, fun h' => absurd h' hN⟩
      · exact cntp_down p hd N k (by omega)
theorem pass_ok (g : Gd R C h) {x : Nat} (ha : a < R * C) (hx : x < R * C) {lv : Int} (h0 : 0 ≤ lv) : lv ≤ passN R C h a x ↔ Rch R C h a lv x := by
  obtain ⟨k, rfl⟩ := Int.eq_ofNat_of_zero_le h0
  have hd := cntp_down (fun lv : Nat => Rch R C h a (lv : Int) x) (fun i j hij r => r.mono ha hx (by omega)) 100
  by_cases hk : k < 100
  · rw [← hd k hk, passN]; omega
  · have hc := cntp_le' (fun lv : Nat => Rch R C h a (lv : Int) x) 100
    constructor
    · intro h'; rw [passN] at h'; omega
    · intro r; have := r.lea; have := g.hh a ha; omega
theorem pass_ge (R C : Nat) (h : Nat → Int) (a x : Nat) : -1 ≤ passN R C h a x := by rw [passN]; omega
theorem pass_le (R C : Nat) (h : Nat → Int) (a x : Nat) : passN R C h a x ≤ 99 := by
  have hc := cntp_le' (fun lv : Nat => Rch R C h a (lv : Int) x) 100
  rw [passN]; omega
theorem pass_uniq (g : Gd R C h) {x : Nat} (ha : a < R * C) (hx : x < R * C) {v : Int} (h1 : -1 ≤ v) (h2 : ∀ lv, 0 ≤ lv → (lv ≤ v ↔ Rch R C h a lv x)) : v = passN R C h a x := by
  have hp := pass_ge R C h a x
  have e1 : v ≤ passN R C h a x := by
    by_cases h0 : 0 ≤ v
    · exact (pass_ok g ha hx h0).2 ((h2 v h0).1 (by omega))
    · omega
  have e2 : passN R C h a x ≤ v := by
    by_cases h0 : 0 ≤ passN R C h a x
    · exact (h2 _ h0).2 ((pass_ok g ha hx h0).1 (by omega))
    · omega
  omega
end
/-! ## the reference's rounds -/
def stp (h : Nat → Int) (o : Nat → Int) (i j : Nat) : Nat → Int := fun x => if x = i then max (o i) (min (h i) (o j)) else o x
def relRow (h : Nat → Int) (i : Nat) (l : List Nat) (o : Nat → Int) : Nat → Int := l.foldl (fun o j => stp h o i j) o
def relTo (R C : Nat) (h : Nat → Int) (o : Nat → Int) : Nat → Nat → Int
  | 0 => o
  | k + 1 => relRow h k (nearN R C k) (relTo R C h o k)
def pasTo (R C : Nat) (h : Nat → Int) (a : Nat) : Nat → Nat → Int
  | 0 => fun x => if x = a then h a else -1
  | r + 1 => relTo R C h (pasTo R C h a r) (R * C)
theorem relRow_take (h : Nat → Int) (i : Nat) {l : List Nat} (o : Nat → Int) {m : Nat} (hm : m < l.length) : relRow h i (l.take (m + 1)) o = stp h (relRow h i (l.take m) o) i (l.getD m 0) := by
  rw [List.take_succ_eq_append_getElem hm, getD_at l 0 hm]
  simp only [relRow, List.foldl_append, List.foldl_cons, List.foldl_nil]
theorem relRow_other (h : Nat → Int) (i : Nat) : ∀ (l : List Nat) (o : Nat → Int) (x : Nat), x ≠ i → relRow h i l o x = o x
  | [], _, _, _ => rfl
  | b :: l, o, x, hx => by
    have := relRow_other h i l (stp h o i b) x hx
    simp only [relRow, List.foldl_cons] at this ⊢
    rw [this]; simp [stp, hx]
theorem stp_ge (h : Nat → Int) (o : Nat → Int) (i j x : Nat) : o x ≤ stp h o i j x := by
  simp only [stp]
  split
  · rename_i e; subst e; omega
  · omega
theorem relRow_ge (h : Nat → Int) (i : Nat) : ∀ (l : List Nat) (o : Nat → Int) (x : Nat), o x ≤ relRow h i l o x
  | [], _, _ => Int.le_refl _
  | b :: l, o, x => by
    have h1 := relRow_ge h i l (stp h o i b) x
    have h2 := stp_ge h o i b x
    simp only [relRow, List.foldl_cons] at h1 ⊢
    omega
theorem relRow_in (h : Nat → Int) (i : Nat) : ∀ (l : List Nat) (o : Nat → Int) (j : Nat), j ∈ l → j ≠ i → min (h i) (o j) ≤ relRow h i l o i
  | b :: l, o, j, hj, hne => by
    rcases List.mem_cons.1 hj with e | e
    · subst e
      have h1 := relRow_ge h i l (stp h o i j) i
      have h2 : stp h o i j i = max (o i) (min (h i) (o j)) := by simp [stp]
      simp only [relRow, List.foldl_cons] at h1 ⊢
      omega
    · have h1 := relRow_in h i l (stp h o i b) j e hne
      have h2 : stp h o i b j = o j := by simp [stp, hne]
      rw [h2] at h1
      simpa only [relRow, List.foldl_cons] using h1
def Snd (R C : Nat) (h : Nat → Int) (a : Nat) (o : Nat → Int) : Prop := ∀ x, x < R * C → (-1 ≤ o x ∧ o x ≤ 99) ∧ ∀ lv, 0 ≤ lv → lv ≤ o x → Rch R C h a lv x
section
variable {R C : Nat} {h : Nat → Int} {a : Nat}
theorem Snd.stp (g : Gd R C h) {o : Nat → Int} (s : Snd R C h a o) {i j : Nat} (hi : i < R * C) (hj : j ∈ nearN R C i) : Snd R C h a (stp h o i j) := fun x hx => by
  have hjn := nearN_lt hi j hj
  have sx := s x hx
  have sj := s j hjn
  have hhi := g.hh i hi
  simp only [Go.SW.stp]
  split
  · rename_i e
    subst e
    refine ⟨by omega, fun lv h0 hl => ?_⟩
    by_cases h1 : lv ≤ o x
    · exact sx.2 lv h0 h1
    · exact (sj.2 lv h0 (by omega)).edge hjn ((near_sym hx hjn).1 hj) (by omega)
  · exact sx
theorem Snd.row (g : Gd R C h) {i : Nat} (hi : i < R * C) : ∀ (l : List Nat), (∀ j ∈ l, j ∈ nearN R C i) → ∀ {o : Nat → Int}, Snd R C h a o → Snd R C h a (relRow h i l o)
  | [], _, _, s => s
  | b :: l, hl, o, s => by
    have := Snd.row g hi l (fun j hj => hl j (List.mem_cons_of_mem _ hj)) (s.stp g hi (hl b List.mem_cons_self))
    simpa only [relRow, List.foldl_cons] using this
theorem Snd.to (g : Gd R C h) {o : Nat → Int} (s : Snd R C h a o) : ∀ k, k ≤ R * C → Snd R C h a (relTo R C h o k)
  | 0, _ => s
  | k + 1, hk => (Snd.to g s k (by omega)).row g (by omega) _ fun _ hj => hj
theorem Snd.pas (g : Gd R C h) (ha : a < R * C) : ∀ r, Snd R C h a (pasTo R C h a r)
  | 0 => fun x hx => by
    have := g.hh a ha
    simp only [pasTo]
    split
    · rename_i e; subst e
      exact ⟨by omega, fun lv h0 hl => Rch.self hl⟩
    · exact ⟨by omega, fun lv h0 hl => by omega⟩
  | r + 1 => (Snd.pas g ha r).to g _ (Nat.le_refl _)
theorem relTo_ge (o : Nat → Int) (x : Nat) : ∀ k, o x ≤ relTo R C h o k x
  | 0 => Int.le_refl _
  | k + 1 => by
    have h1 := relTo_ge o x k
    have h2 := relRow_ge h k (nearN R C k) (relTo R C h o k) x
    simp only [relTo]; omega
theorem relTo_in (o : Nat → Int) {i j : Nat} (hi : i < R * C) (hj : j ∈ nearN R C i) : ∀ k, i < k → min (h i) (o j) ≤ relTo R C h o k i
  | k + 1, hk => by
    simp only [relTo]
    by_cases e : i = k
    · subst e
      have h1 := relRow_in h i (nearN R C i) (relTo R C h o i) j hj (by
        rcases nearN_mem.1 hj with ⟨h1, h2⟩ | ⟨h1, h2⟩ | ⟨h1, h2⟩ | ⟨h1, h2⟩
        · have : 0 < C := Nat.pos_of_ne_zero fun e => by subst e; simp at hi
          omega
        · omega
        · have : 0 < C := Nat.pos_of_ne_zero fun e => by subst e; simp at hi
          omega
        · have : i ≠ 0 := fun e => by subst e; simp at h1
          omega)
      have h2 := relTo_ge (R := R) (C := C) (h := h) o j i
      omega
    · have h1 := relTo_in o hi hj k (by omega)
      have h2 := relRow_ge h k (nearN R C k) (relTo R C h o k) i
      omega
theorem cntp_more (p q : Nat → Prop) [DecidablePred p] [DecidablePred q] : ∀ n, (∀ i, i < n → p i → q i) → cntp p n ≤ cntp q n ∧ ((∃ j, j < n ∧ q j ∧ ¬ p j) → cntp p n + 1 ≤ cntp q n)
  | 0, _ => ⟨Nat.le_refl _, fun ⟨j, hj, _⟩ => by omega⟩
  | n + 1, hpq => by
    obtain ⟨h1, h2⟩ := cntp_more p q n fun i hi => hpq i (by omega)
    have hn := hpq n (by omega)
    simp only [cntp]
    refine ⟨by split <;> split <;> first | omega | (rename_i a b; exact absurd (hn a) b), fun ⟨j, hj, hq, hnp⟩ => ?_⟩
    by_cases e : j = n
    · subst e; rw [if_neg hnp, if_pos hq]; omega
    · have := h2 ⟨j, by omega, hq, hnp⟩
      split <;> split <;> first | omega | (rename_i a b; exact absurd (hn a) b)
theorem pas_round (g : Gd R C h) (ha : a < R * C) {lv : Int} (h0 : 0 ≤ lv) (hl : lv ≤ h a) : ∀ r, (∀ x, x < R * C → Rch R C h a lv x → lv ≤ pasTo R C h a r x) ∨ r + 1 ≤ cntp (fun x => lv ≤ pasTo R C h a r x) (R * C)
  | 0 => .inr (by
      have := cntp_pos (fun x => lv ≤ pasTo R C h a 0 x) (R * C) a ha (by simp [pasTo, hl])
      omega)
  | r + 1 => by
    have hge : ∀ x, pasTo R C h a r x ≤ pasTo R C h a (r + 1) x := fun x => relTo_ge _ x _
    rcases pas_round g ha h0 hl r with hf | hc
    · exact .inl fun x hx rx => Int.le_trans (hf x hx rx) (hge x)
    · rcases Classical.em (∀ i, i < R * C → ∀ j ∈ nearN R C i, lv ≤ h i → lv ≤ h j → lv ≤ pasTo R C h a r i → lv ≤ pasTo R C h a r j) with hcl | hcl
      · exact .inl fun x hx rx => Int.le_trans (rx.closed ha hx (p := fun y => lv ≤ pasTo R C h a r y) hcl (by
          have : ∀ r, h a ≤ pasTo R C h a r a := fun r => by
            induction r with
            | zero => simp [pasTo]
            | succ r ih => exact Int.le_trans ih (relTo_ge _ a _)
          exact Int.le_trans hl (this r))) (hge x)
      · refine .inr ?_
        have : ∃ i j, i < R * C ∧ j ∈ nearN R C i ∧ lv ≤ h j ∧ lv ≤ pasTo R C h a r i ∧ ¬ lv ≤ pasTo R C h a r j := by
          rcases Classical.em (∃ i j, i < R * C ∧ j ∈ nearN R C i ∧ lv ≤ h j ∧ lv ≤ pasTo R C h a r i ∧ ¬ lv ≤ pasTo R C h a r j) with h' | h'
          · exact h'
          · exact absurd (fun i hi j hj _ h2 h3 => Classical.byContradiction fun h4 => h' ⟨i, j, hi, hj, h2, h3, h4⟩) hcl
        obtain ⟨i, j, hi, hj, h2, h3, h4⟩ := this
        have hjn := nearN_lt hi j hj
        have hin := relTo_in (h := h) (pasTo R C h a r) hjn ((near_sym hi hjn).1 hj) (R * C) hjn
        have := (cntp_more (fun x => lv ≤ pasTo R C h a r x) (fun x => lv ≤ pasTo R C h a (r + 1) x) (R * C) fun x _ hx => Int.le_trans hx (hge x)).2 ⟨j, hjn, by
          show lv ≤ relTo R C h (pasTo R C h a r) (R * C) j
          omega, h4⟩
        omega
theorem pas_end (g : Gd R C h) (ha : a < R * C) {x : Nat} (hx : x < R * C) : pasTo R C h a (R * C) x = passN R C h a x := by
  have s := Snd.pas g ha (R * C) x hx
  refine pass_uniq g ha hx s.1.1 fun lv h0 => ⟨s.2 lv h0, fun r => ?_⟩
  rcases pas_round g ha h0 r.lea (R * C) with hf | hc
  · exact hf x hx r
  · have := cntp_le' (fun x => lv ≤ pasTo R C h a (R * C) x) (R * C)
    omega
end
/-! ## the program's way: the widest first -/
structure PInv (R C : Nat) (h : Nat → Int) (a : Nat) (Nx : Nat → List Nat) (kn : Nat → Int) (n : Nat) (L : Nat → Nat × Int) : Prop where
  ok : ∀ x, x < R * C → kn x = -1 ∨ ((0 ≤ kn x ∧ kn x ≤ 99) ∧ ∀ lv, 0 ≤ lv → (lv ≤ kn x ↔ Rch R C h a lv x))
  items : ∀ k, k < n → (L k).1 < R * C ∧ 0 ≤ (L k).2 ∧ (L k).2 ≤ 99 ∧ Rch R C h a (L k).2 (L k).1
  start : kn a = -1 → ∃ k, k < n ∧ (L k).1 = a ∧ h a ≤ (L k).2
  next : ∀ x, x < R * C → 0 ≤ kn x → ∀ j ∈ Nx x, kn j = -1 → ∃ k, k < n ∧ (L k).1 = j ∧ min (kn x) (h j) ≤ (L k).2
section
variable {R C : Nat} {h : Nat → Int} {a : Nat} {kn : Nat → Int} {n : Nat} {L L' : Nat → Nat × Int}
theorem PInv.begin (g : Gd R C h) (ha : a < R * C) (hL : L 0 = (a, h a)) : PInv R C h a (nearN R C) (fun _ => -1) 1 L := by
  have := g.hh a ha
  refine ⟨fun x _ => .inl rfl, fun k hk => ?_, fun _ => ⟨0, by omega, by rw [hL], by rw [hL]; exact Int.le_refl _⟩, fun x _ h' => by omega⟩
  have : k = 0 := by omega
  subst this
  rw [hL]
  exact ⟨ha, by omega, by omega, Rch.self (Int.le_refl _)⟩
theorem PInv.out (p : PInv R C h a (nearN R C) kn n L) (ha : a < R * C) {x : Nat} (hx : x < R * C) (hk : kn x = -1) {lv : Int} (h0 : 0 ≤ lv) (r : Rch R C h a lv x) : ∃ k, k < n ∧ lv ≤ (L k).2 := by
  rcases Classical.em (∃ k, k < n ∧ lv ≤ (L k).2) with h' | h'
  · exact h'
  · have hno : ∀ k, k < n → ¬ lv ≤ (L k).2 := fun k hk hl => h' ⟨k, hk, hl⟩
    have la := r.lea
    have ka : lv ≤ kn a := by
      rcases p.ok a ha with e | ⟨_, e⟩
      · obtain ⟨k, hk, _, hl⟩ := p.start e
        exact absurd (by omega) (hno k hk)
      · exact (e lv h0).2 (Rch.self la)
    have := r.closed ha hx (p := fun y => lv ≤ kn y) (fun i hi j hj h1 h2 hp => by
      have hjn := nearN_lt hi j hj
      rcases p.ok i hi with e | ⟨e0, e⟩
      · omega
      · have ri := (e lv h0).1 hp
        rcases p.ok j hjn with f | ⟨_, f⟩
        · obtain ⟨k, hk, _, hl⟩ := p.next i hi e0.1 j hj f
          exact absurd (by omega) (hno k hk)
        · exact (f lv h0).2 (ri.edge hi hj h2)) ka
    omega
theorem bag_in {n : Nat} {L L' : Nat → Nat × Int} {y : Nat × Int} (hb : ∀ y, bag n L' y + (if L 0 = y then 1 else 0) = bag (n + 1) L y) {k : Nat} (hk : k < n + 1) (hne : L k ≠ L 0) : ∃ k', k' < n ∧ L' k' = L k := by
  have h1 : 0 < bag (n + 1) L (L k) := bag_mem.2 ⟨k, hk, rfl⟩
  have h2 := hb (L k)
  rw [if_neg (fun e => hne e.symm)] at h2
  exact bag_mem.1 (by omega)
theorem bag_of {n : Nat} {L L' : Nat → Nat × Int} (hb : ∀ y, bag n L' y + (if L 0 = y then 1 else 0) = bag (n + 1) L y) {k : Nat} (hk : k < n) : ∃ k', k' < n + 1 ∧ L k' = L' k := by
  have h1 : 0 < bag n L' (L' k) := bag_mem.2 ⟨k, hk, rfl⟩
  have h2 := hb (L' k)
  exact bag_mem.1 (by omega)
theorem PInv.skip (p : PInv R C h a (nearN R C) kn (n + 1) L) (hb : ∀ y, bag n L' y + (if L 0 = y then 1 else 0) = bag (n + 1) L y) (hc : 0 ≤ kn (L 0).1) : PInv R C h a (nearN R C) kn n L' := by
  refine ⟨p.ok, fun k hk => ?_, fun e => ?_, fun x hx h0 j hj e => ?_⟩
  · obtain ⟨k', h1, h2⟩ := bag_of hb hk
    rw [← h2]; exact p.items k' h1
  · obtain ⟨k, hk, h1, h2⟩ := p.start e
    obtain ⟨k', h3, h4⟩ := bag_in (y := L k) hb hk (fun e2 => by rw [e2] at h1; rw [h1] at hc; omega)
    exact ⟨k', h3, by rw [h4]; exact h1, by rw [h4]; exact h2⟩
  · obtain ⟨k, hk, h1, h2⟩ := p.next x hx h0 j hj e
    obtain ⟨k', h3, h4⟩ := bag_in (y := L k) hb hk (fun e2 => by rw [e2] at h1; rw [h1] at hc; omega)
    exact ⟨k', h3, by rw [h4]; exact h1, by rw [h4]; exact h2⟩
theorem PInv.know (p : PInv R C h a (nearN R C) kn (n + 1) L) (hp : Heap stB (n + 1) L) (ha : a < R * C) (hb : ∀ y, bag n L' y + (if L 0 = y then 1 else 0) = bag (n + 1) L y) (hc : kn (L 0).1 = -1) :
    PInv R C h a (fun x => if x = (L 0).1 then [] else nearN R C x) (fun x => if x = (L 0).1 then (L 0).2 else kn x) n L' := by
  obtain ⟨i1, i2, i3, i4⟩ := p.items 0 (by omega)
  have htop : ∀ k, k < n + 1 → (L k).2 ≤ (L 0).2 := fun k hk => by
    have := hp.top stB_ahead k hk
    simp only [stB, decide_eq_false_iff_not] at this
    omega
  refine ⟨fun x hx => ?_, fun k hk => ?_, fun e => ?_, fun x hx h0 j hj e => ?_⟩
  · by_cases ex : x = (L 0).1
    · simp only [ex, if_true]
      refine .inr ⟨⟨i2, i3⟩, fun lv h0 => ⟨fun hl => i4.mono ha i1 hl, fun r => ?_⟩⟩
      obtain ⟨k, hk, hl⟩ := p.out ha i1 hc h0 r
      have := htop k hk; omega
    · simp only [if_neg ex]; exact p.ok x hx
  · obtain ⟨k', h1, h2⟩ := bag_of hb hk
    rw [← h2]; exact p.items k' h1
  · by_cases ea : a = (L 0).1
    · simp only [← ea, if_true] at e
      omega
    · simp only [if_neg ea] at e
      obtain ⟨k, hk, h1, h2⟩ := p.start e
      obtain ⟨k', h3, h4⟩ := bag_in (y := L k) hb hk (fun e2 => by rw [e2] at h1; exact ea h1.symm)
      exact ⟨k', h3, by rw [h4]; exact h1, by rw [h4]; exact h2⟩
  · by_cases ex : x = (L 0).1
    · simp only [ex, if_true] at hj; simp at hj
    · simp only [if_neg ex] at hj h0 ⊢
      by_cases ej : j = (L 0).1
      · simp only [ej, if_true] at e; omega
      · simp only [if_neg ej] at e
        obtain ⟨k, hk, h1, h2⟩ := p.next x hx h0 j hj e
        obtain ⟨k', h3, h4⟩ := bag_in (y := L k) hb hk (fun e2 => by rw [e2] at h1; exact ej h1.symm)
        exact ⟨k', h3, by rw [h4]; exact h1, by rw [h4]; exact h2⟩
/-- The neighbour j of c is known, or its item has been put. -/
theorem PInv.near {c m : Nat} (p : PInv R C h a (fun x => if x = c then (nearN R C c).take m else nearN R C x) kn n L) (hm : m < (nearN R C c).length) (hk : kn ((nearN R C c).getD m 0) ≠ -1) :
    PInv R C h a (fun x => if x = c then (nearN R C c).take (m + 1) else nearN R C x) kn n L := by
  refine ⟨p.ok, p.items, p.start, fun x hx h0 j hj e => ?_⟩
  by_cases ex : x = c
  · simp only [ex, if_true] at hj
    rw [List.take_succ_eq_append_getElem hm] at hj
    rcases List.mem_append.1 hj with h' | h'
    · exact p.next x hx h0 j (by simp only [ex, if_true]; exact h') e
    · have : j = (nearN R C c).getD m 0 := by rw [getD_at _ 0 hm]; simpa using h'
      rw [this] at e; exact absurd e hk
  · simp only [if_neg ex] at hj
    exact p.next x hx h0 j (by simp only [if_neg ex]; exact hj) e
theorem PInv.put {c m : Nat} (g : Gd R C h) (hcn : c < R * C) (hkc : 0 ≤ kn c) (p : PInv R C h a (fun x => if x = c then (nearN R C c).take m else nearN R C x) kn n L) (hm : m < (nearN R C c).length)
    (hb : ∀ y, bag (n + 1) L' y = bag n L y + if ((nearN R C c).getD m 0, min (kn c) (h ((nearN R C c).getD m 0))) = y then 1 else 0) :
    PInv R C h a (fun x => if x = c then (nearN R C c).take (m + 1) else nearN R C x) kn (n + 1) L' := by
  have hjm := getD_mem (d := 0) hm
  have hjn := nearN_lt hcn _ hjm
  have hjh := g.hh _ hjn
  have htk : (nearN R C c).take (m + 1) = (nearN R C c).take m ++ [(nearN R C c).getD m 0] := by rw [List.take_succ_eq_append_getElem hm, getD_at _ 0 hm]
  generalize (nearN R C c).getD m 0 = j at *
  have hcx := p.ok c hcn
  have old : ∀ k, k < n → ∃ k', k' < n + 1 ∧ L' k' = L k := fun k hk => by
    have h1 : 0 < bag n L (L k) := bag_mem.2 ⟨k, hk, rfl⟩
    have h2 := hb (L k)
    exact bag_mem.1 (by omega)
  obtain ⟨kj, hkj, ekj⟩ : ∃ k', k' < n + 1 ∧ L' k' = (j, min (kn c) (h j)) := bag_mem.1 (by rw [hb, if_pos rfl]; omega)
  refine ⟨p.ok, fun k hk => ?_, fun e => ?_, fun x hx h0 i hi e => ?_⟩
  · have h1 : 0 < bag (n + 1) L' (L' k) := bag_mem.2 ⟨k, hk, rfl⟩
    rw [hb] at h1
    by_cases e : (j, min (kn c) (h j)) = L' k
    · rw [← e]
      rcases hcx with f | ⟨f0, f⟩
      · omega
      · refine ⟨hjn, ?_, ?_, ?_⟩
        · show 0 ≤ min (kn c) (h j); omega
        · show min (kn c) (h j) ≤ 99; omega
        · show Rch R C h a (min (kn c) (h j)) j
          exact ((f (min (kn c) (h j)) (by omega)).1 (by omega)).edge hcn hjm (by omega)
    · rw [if_neg e] at h1
      obtain ⟨k', h2, h3⟩ := bag_mem.1 (show 0 < bag n L (L' k) by omega)
      rw [← h3]; exact p.items k' h2
  · obtain ⟨k, hk, h1, h2⟩ := p.start e
    obtain ⟨k', h3, h4⟩ := old k hk
    exact ⟨k', h3, by rw [h4]; exact h1, by rw [h4]; exact h2⟩
  · have base : i ∈ (if x = c then (nearN R C c).take m else nearN R C x) → ∃ k, k < n + 1 ∧ (L' k).1 = i ∧ min (kn x) (h i) ≤ (L' k).2 := fun hi' => by
      obtain ⟨k, hk, h1, h2⟩ := p.next x hx h0 i hi' e
      obtain ⟨k', h3, h4⟩ := old k hk
      exact ⟨k', h3, by rw [h4]; exact h1, by rw [h4]; exact h2⟩
    by_cases ex : x = c
    · simp only [ex, if_true] at hi
      rw [htk] at hi
      rcases List.mem_append.1 hi with h' | h'
      · exact base (by simp only [ex, if_true]; exact h')
      · have : i = j := by simpa using h'
        subst this
        exact ⟨kj, hkj, by rw [ekj], by rw [ekj, ex]; exact Int.le_refl _⟩
    · simp only [if_neg ex] at hi
      exact base (by simp only [if_neg ex]; exact hi)
theorem PInv.full {c : Nat} (p : PInv R C h a (fun x => if x = c then (nearN R C c).take (nearN R C c).length else nearN R C x) kn n L) : PInv R C h a (nearN R C) kn n L := by
  refine ⟨p.ok, p.items, p.start, fun x hx h0 j hj e => p.next x hx h0 j ?_ e⟩
  by_cases ex : x = c
  · simp only [ex, if_true, List.take_length]; rw [← ex]; exact hj
  · simp only [if_neg ex]; exact hj
theorem PInv.done (g : Gd R C h) (ha : a < R * C) (p : PInv R C h a (nearN R C) kn 0 L) {x : Nat} (hx : x < R * C) : kn x = passN R C h a x := by
  rcases p.ok x hx with e | ⟨e0, e⟩
  · rw [e]
    refine pass_uniq g ha hx (by omega) fun lv h0 => ⟨fun h' => by omega, fun r => ?_⟩
    obtain ⟨k, hk, _⟩ := p.out ha hx e h0 r
    omega
  · exact pass_uniq g ha hx (by omega) e
end
end Go.SW
