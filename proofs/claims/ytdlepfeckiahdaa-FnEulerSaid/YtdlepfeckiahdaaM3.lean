/- The water laws in plain Lean: no program occurs here. -/
import Derived.Test.YtdlepfeckiahdaaWs2
import Derived.Test.YtdlepfeckiahdaaHl
set_option linter.all false
namespace Go.SW

/-! ## sums -/
def sumN (f : Nat → Nat) : Nat → Nat
  | 0 => 0
  | k + 1 => sumN f k + f k
theorem sumN_congr {f g : Nat → Nat} : ∀ {n : Nat}, (∀ i, i < n → f i = g i) → sumN f n = sumN g n
  | 0, _ => rfl
  | n + 1, h => by simp only [sumN]; rw [sumN_congr fun i hi => h i (by omega), h n (by omega)]
theorem sumN_add (f g : Nat → Nat) : ∀ n, sumN (fun i => f i + g i) n = sumN f n + sumN g n
  | 0 => rfl
  | n + 1 => by simp only [sumN]; rw [sumN_add f g n]; omega
theorem sumN_zero : ∀ n, sumN (fun _ => 0) n = 0
  | 0 => rfl
  | n + 1 => by simp only [sumN, sumN_zero n]
theorem sumN_swap (f : Nat → Nat → Nat) (m : Nat) : ∀ n, sumN (fun i => sumN (fun j => f i j) m) n = sumN (fun j => sumN (fun i => f i j) n) m
  | 0 => by simp only [sumN]; exact (sumN_zero m).symm
  | n + 1 => by
    simp only [sumN]
    rw [sumN_swap f m n, ← sumN_add]
theorem sumN_single {n a : Nat} (ha : a < n) (x : Nat) : sumN (fun i => if i = a then x else 0) n = x := by
  induction n with
  | zero => omega
  | succ n ih =>
    simp only [sumN]
    by_cases e : n = a
    · subst e
      rw [if_pos rfl, sumN_congr (g := fun _ => 0) fun i hi => if_neg (by omega), sumN_zero]; omega
    · rw [if_neg e, ih (by omega)]; rfl
theorem sumN_cntp (p : Nat → Prop) [DecidablePred p] : ∀ n, sumN (fun i => if p i then 1 else 0) n = cntp p n
  | 0 => rfl
  | n + 1 => by simp only [sumN, cntp, sumN_cntp p n]
theorem sumN_count {l : List Nat} {n : Nat} (h : ∀ x ∈ l, x < n) : sumN (fun i => l.count i) n = l.length := by
  induction l with
  | nil => simp [sumN_zero]
  | cons a l ih =>
    have e : sumN (fun i => (a :: l).count i) n = sumN (fun i => l.count i) n + sumN (fun i => if i = a then 1 else 0) n := by
      rw [← sumN_add]
      refine sumN_congr fun i _ => ?_
      rw [List.count_cons]
      by_cases e : a = i
      · subst e; simp
      · have e' : ¬ i = a := fun h => e h.symm
        simp [e, e']
    rw [e, ih fun x hx => h x (List.mem_cons_of_mem _ hx), sumN_single (h a (List.mem_cons_self ..))]; rfl
theorem sumN_le {f g : Nat → Nat} : ∀ {n : Nat}, (∀ i, i < n → f i ≤ g i) → sumN f n ≤ sumN g n
  | 0, _ => Nat.le_refl _
  | n + 1, h => by simp only [sumN]; have := sumN_le (n := n) fun i hi => h i (by omega); have := h n (by omega); omega
theorem sumN_shift (f : Nat → Nat) : ∀ n, sumN (fun i => f (i + 1)) n + f 0 = sumN f (n + 1)
  | 0 => by simp [sumN]
  | n + 1 => by
    have := sumN_shift f n
    simp only [sumN] at this ⊢; omega
theorem cntp_congr {p q : Nat → Prop} [DecidablePred p] [DecidablePred q] : ∀ {n : Nat}, (∀ i, i < n → (p i ↔ q i)) → cntp p n = cntp q n
  | 0, _ => rfl
  | n + 1, h => by
    have ih := cntp_congr (n := n) fun i hi => h i (by omega)
    have hn := h n (by omega)
    simp only [cntp, ih]
    by_cases e : p n
    · rw [if_pos e, if_pos (hn.1 e)]
    · rw [if_neg e, if_neg fun h => e (hn.2 h)]
theorem cntp_uniq (p : Nat → Prop) [DecidablePred p] : ∀ {n : Nat}, cntp p n = 1 → ∀ i j, i < n → j < n → p i → p j → i = j
  | 0, _, i, _, hi, _, _, _ => by omega
  | n + 1, h, i, j, hi, hj, pi, pj => by
    simp only [cntp] at h
    by_cases e : p n
    · rw [if_pos e] at h
      have h0 : ∀ k, k < n → ¬ p k := fun k hk pk => by have := cntp_pos p n k hk pk; omega
      have h1 : i = n := by
        by_cases e' : i = n
        · exact e'
        · exact absurd pi (h0 i (by omega))
      have h2 : j = n := by
        by_cases e' : j = n
        · exact e'
        · exact absurd pj (h0 j (by omega))
      omega
    · rw [if_neg e] at h
      have h1 : i ≠ n := fun e' => e (e' ▸ pi)
      have h2 : j ≠ n := fun e' => e (e' ▸ pj)
      exact cntp_uniq p (by omega) i j (by omega) (by omega) pi pj
theorem cntp_one (p : Nat → Prop) [DecidablePred p] : ∀ {n e : Nat}, e < n → p e → (∀ i, i < n → p i → i = e) → cntp p n = 1
  | 0, e, h, _, _ => by omega
  | n + 1, e, h, pe, hu => by
    simp only [cntp]
    by_cases en : e = n
    · subst en
      rw [if_pos pe, cntp_zero p e fun i hi pi => by have := hu i (by omega) pi; omega]
    · rw [if_neg fun pn => en (hu n (by omega) pn).symm, cntp_one p (by omega) pe fun i hi pi => hu i (by omega) pi]

section
variable {R C : Nat} {h : Nat → Int}

theorem waterN_len_low (g : Gd R C h) (m : Int) (hm : ∀ i, i < R * C → m ≤ h i) : ∀ i, i < R * C → ((waterN R C h i).length : Int) ≤ h i - m + 1 := by
  refine flow_ind g (fun i hi hs => ?_) fun i hi hs ih => ?_
  · rw [waterN_sink g hi hs]; have := hm i hi; simp; omega
  · rw [waterN_step g hi hs]
    have hlt : h (nextN R C h i) < h i := (nextN_ne i).resolve_left hs
    simp only [List.length_cons]; omega
theorem longTo_low (g : Gd R C h) {m M : Int} (h1 : ∀ i, i < R * C → m ≤ h i ∧ h i ≤ M) (hmM : m ≤ M + 1) : ∀ k, k ≤ R * C → (longTo R C h k : Int) ≤ M - m + 1
  | 0, _ => by simp [longTo]; omega
  | k + 1, hk => by
    have ih := longTo_low g h1 hmM k (by omega)
    have h2 := waterN_len_low g m (fun i hi => (h1 i hi).1) k (by omega)
    have h3 := h1 k (by omega)
    simp only [longTo]; omega

/-! ## runs, cell by cell -/
theorem waterN_get (g : Gd R C h) : ∀ i, i < R * C → ∀ k, k + 1 < (waterN R C h i).length →
    (waterN R C h i).getD (k + 1) 0 = nextN R C h ((waterN R C h i).getD k 0) ∧ h ((waterN R C h i).getD (k + 1) 0) < h ((waterN R C h i).getD k 0) := by
  refine flow_ind g (fun i hi hs k hk => ?_) fun i hi hs ih k hk => ?_
  · rw [waterN_sink g hi hs] at hk; simp at hk
  · rw [waterN_step g hi hs] at hk ⊢
    simp only [List.length_cons] at hk
    cases k with
    | zero =>
      have hne : waterN R C h (nextN R C h i) ≠ [] := waterN_ne g (nextN_lt hi)
      have e : (waterN R C h (nextN R C h i)).getD 0 0 = nextN R C h i := by
        rw [waterN_eq g (nextN_lt hi)]; split <;> simp
      simp only [List.getD_cons_succ, List.getD_cons_zero, e]
      exact ⟨trivial, (nextN_ne i).resolve_left hs⟩
    | succ k =>
      simp only [List.getD_cons_succ]
      exact ih k (by omega)
theorem waterN_head (g : Gd R C h) {i : Nat} (hi : i < R * C) : (waterN R C h i).getD 0 0 = i := by
  rw [waterN_eq g hi]; split <;> simp
theorem waterN_last (g : Gd R C h) {i : Nat} (hi : i < R * C) : (waterN R C h i).getD ((waterN R C h i).length - 1) 0 = endN R C h i := by
  have hl := List.length_pos_iff.2 (waterN_ne g hi)
  simp only [endN, List.getLastD_eq_getLast?, List.getLast?_eq_getElem?, List.getD_eq_getElem?_getD]
  rw [List.getElem?_eq_getElem (by omega)]; simp
theorem waterN_tail (g : Gd R C h) {i : Nat} (hi : i < R * C) (hl : (waterN R C h i).length ≠ 1) : waterN R C h ((waterN R C h i).getD 1 0) = (waterN R C h i).drop 1 := by
  by_cases hs : nextN R C h i = i
  · rw [waterN_sink g hi hs] at hl; simp at hl
  · rw [waterN_step g hi hs]
    have e : (waterN R C h (nextN R C h i)).getD 0 0 = nextN R C h i := waterN_head g (nextN_lt hi)
    show waterN R C h ((i :: waterN R C h (nextN R C h i)).getD (0 + 1) 0) = _
    rw [List.getD_cons_succ, e]; rfl

/-! ## how often a cell stands in a run -/
theorem count_sink (g : Gd R C h) {s : Nat} (hs : nextN R C h s = s) : ∀ i, i < R * C → (waterN R C h i).count s = if endN R C h i = s then 1 else 0 := by
  refine flow_ind g (fun i hi hi' => ?_) fun i hi hn ih => ?_
  · rw [waterN_sink g hi hi', endN_sink g hi hi', List.count_cons]; simp
  · rw [waterN_step g hi hn, List.count_cons, ih, endN_step g hi]
    have : i ≠ s := fun e => hn (by rw [e]; exact hs)
    simp [this]
theorem flow_sink (g : Gd R C h) {s : Nat} (hs : nextN R C h s = s) : ∀ k, k ≤ R * C → flowTo R C h k s = cntp (fun i => ((endN R C h i : Nat) : Int) = (s : Int)) k
  | 0, _ => rfl
  | k + 1, hk => by
    simp only [flowTo, cntp]
    rw [flow_sink g hs k (by omega), count_sink g hs k (by omega)]
    by_cases e : endN R C h k = s
    · rw [if_pos e, if_pos (by omega)]
    · rw [if_neg e, if_neg (by omega)]
theorem flowTo_sumN (j : Nat) : ∀ k, flowTo R C h k j = sumN (fun i => (waterN R C h i).count j) k
  | 0 => rfl
  | k + 1 => by simp only [flowTo, sumN, flowTo_sumN j k]

/-- The cells whose water comes to i from elsewhere. -/
def feeds (R C : Nat) (h : Nat → Int) (i k : Nat) : Bool := decide (k ≠ i) && decide (nextN R C h k = i)
theorem count_step (g : Gd R C h) (i : Nat) (hi : i < R * C) : ∀ j, j < R * C → (waterN R C h j).count i = (if j = i then 1 else 0) + sumN (fun k => if feeds R C h i k then (waterN R C h j).count k else 0) (R * C) := by
  refine flow_ind g (fun j hj hs => ?_) fun j hj hs ih => ?_
  · rw [waterN_sink g hj hs]
    have e : sumN (fun k => if feeds R C h i k then ([j] : List Nat).count k else 0) (R * C) = sumN (fun _ => 0) (R * C) := sumN_congr fun k _ => by
      by_cases hf : feeds R C h i k = true
      · rw [if_pos hf]
        simp only [feeds, Bool.and_eq_true, decide_eq_true_eq] at hf
        have : j ≠ k := fun e => by subst e; rw [hs] at hf; exact hf.1 hf.2
        simp [List.count_cons, this]
      · rw [if_neg hf]
    rw [e, sumN_zero, List.count_cons]
    by_cases e2 : j = i <;> simp [e2]
  · rw [waterN_step g hj hs]
    have e : sumN (fun k => if feeds R C h i k then (j :: waterN R C h (nextN R C h j)).count k else 0) (R * C) =
        sumN (fun k => if feeds R C h i k then (waterN R C h (nextN R C h j)).count k else 0) (R * C) + sumN (fun k => if k = j then (if feeds R C h i j then 1 else 0) else 0) (R * C) := by
      rw [← sumN_add]
      refine sumN_congr fun k _ => ?_
      rw [List.count_cons]
      by_cases ek : k = j
      · subst ek; by_cases hf : feeds R C h i k = true <;> simp [hf]
      · have : ¬ j = k := fun e => ek e.symm
        by_cases hf : feeds R C h i k = true <;> simp [hf, ek, this]
    rw [e, sumN_single hj, List.count_cons, ih]
    have ef : (if feeds R C h i j = true then 1 else 0) = if nextN R C h j = i then 1 else 0 := by
      by_cases en : nextN R C h j = i
      · have hne : j ≠ i := fun e => hs (by rw [e] at en ⊢; exact en)
        simp [feeds, en, hne]
      · simp [feeds, en]
    rw [ef]
    by_cases e2 : j = i
    · subst e2; simp; omega
    · simp [e2]; omega
theorem flow_step (g : Gd R C h) (i : Nat) (hi : i < R * C) : flowTo R C h (R * C) i = 1 + sumN (fun k => if feeds R C h i k then flowTo R C h (R * C) k else 0) (R * C) := by
  rw [flowTo_sumN, sumN_congr (g := fun j => (if j = i then 1 else 0) + sumN (fun k => if feeds R C h i k then (waterN R C h j).count k else 0) (R * C)) (fun j hj => count_step g i hi j hj), sumN_add, sumN_single hi, sumN_swap]
  congr 1
  refine sumN_congr fun k _ => ?_
  by_cases hf : feeds R C h i k = true
  · simp only [hf, if_true]; rw [flowTo_sumN]
  · simp only [hf, if_false, Bool.false_eq_true]; exact sumN_zero _
theorem flow_sum (g : Gd R C h) : sumN (flowTo R C h (R * C)) (R * C) = sumN (fun j => (waterN R C h j).length) (R * C) := by
  rw [sumN_congr (g := fun i => sumN (fun j => (waterN R C h j).count i) (R * C)) (fun i _ => flowTo_sumN i _), sumN_swap]
  exact sumN_congr fun j hj => sumN_count (waterN_lt g j hj)

/-! ## basins -/
def sumSinks (f : Nat → Nat) (l : List Nat) : Nat := l.foldr (fun s a => f s + a) 0
theorem sumSinks_append (f : Nat → Nat) (a b : List Nat) : sumSinks f (a ++ b) = sumSinks f a + sumSinks f b := by
  induction a with
  | nil => simp [sumSinks]
  | cons x a ih => simp only [sumSinks, List.cons_append, List.foldr_cons] at ih ⊢; omega
theorem sumSinks_take (f : Nat → Nat) {l : List Nat} {k : Nat} (hk : k < l.length) : sumSinks f (l.take (k + 1)) = sumSinks f (l.take k) + f (l.getD k 0) := by
  rw [List.take_succ_eq_append_getElem hk, sumSinks_append, getD_at l 0 hk]; simp [sumSinks]
theorem sumSinks_le (f : Nat → Nat) (m : Nat) (hf : ∀ s, f s ≤ m) : ∀ l : List Nat, sumSinks f l ≤ l.length * m
  | [] => by simp [sumSinks]
  | a :: l => by
    have := sumSinks_le f m hf l
    have := hf a
    simp only [sumSinks, List.foldr_cons, List.length_cons] at this ⊢
    rw [Nat.add_mul, Nat.one_mul]
    have h2 := sumSinks_le f m hf l
    simp only [sumSinks] at h2
    omega
theorem cntp_split (p q r : Nat → Prop) [DecidablePred p] [DecidablePred q] [DecidablePred r] : ∀ n, (∀ i, i < n → (r i ↔ p i ∨ q i) ∧ ¬ (p i ∧ q i)) → cntp r n = cntp p n + cntp q n
  | 0, _ => rfl
  | n + 1, hh => by
    have ih := cntp_split p q r n fun i hi => hh i (by omega)
    have hn := hh n (by omega)
    simp only [cntp, ih]
    by_cases hp : p n
    · have hq : ¬ q n := fun hq => hn.2 ⟨hp, hq⟩
      rw [if_pos hp, if_neg hq, if_pos (hn.1.2 (.inl hp))]; omega
    · by_cases hq : q n
      · rw [if_neg hp, if_pos hq, if_pos (hn.1.2 (.inr hq))]; omega
      · rw [if_neg hp, if_neg hq, if_neg fun h => (hn.1.1 h).elim hp hq]; omega
theorem basins_sum (g : Gd R C h) : ∀ k, k ≤ R * C → sumSinks (fun s => cntp (fun i => ((endN R C h i : Nat) : Int) = (s : Int)) (R * C)) (sinksTo R C h k) = cntp (fun i => endN R C h i < k) (R * C)
  | 0, _ => by simp only [sinksTo, sumSinks, List.foldr_nil]; exact (cntp_zero _ _ fun i _ => by omega).symm
  | k + 1, hk => by
    simp only [sinksTo]
    rw [sumSinks_append, basins_sum g k (by omega)]
    by_cases hs : nextN R C h k = k
    · rw [if_pos hs, cntp_split (fun i => endN R C h i < k) (fun i => ((endN R C h i : Nat) : Int) = (k : Int)) (fun i => endN R C h i < k + 1) _ fun i _ => ⟨by omega, by omega⟩]
      simp [sumSinks]
    · rw [if_neg hs]
      simp only [sumSinks, List.foldr_nil, Nat.add_zero]
      refine cntp_congr fun i hi => ?_
      have := endN_lt g i hi
      have : endN R C h i ≠ k := fun e => hs (by rw [← e]; exact this.2)
      omega
theorem basins_all (g : Gd R C h) : sumSinks (fun s => cntp (fun i => ((endN R C h i : Nat) : Int) = (s : Int)) (R * C)) (sinksTo R C h (R * C)) = R * C := by
  rw [basins_sum g _ (Nat.le_refl _)]
  exact cntp_all _ _ fun i hi => (endN_lt g i hi).1

/-! ## divides -/
theorem sinksTo_count (R C : Nat) (h : Nat → Int) : ∀ k, (sinksTo R C h k).length = cntp (fun i => nextN R C h i = i) k
  | 0 => rfl
  | k + 1 => by
    simp only [sinksTo, List.length_append, cntp, sinksTo_count R C h k]
    by_cases e : nextN R C h k = k <;> simp [e]
theorem near_west {i : Nat} (h0 : 0 < C) (hi : 0 < i % C) : i - 1 ∈ nearN R C i ∧ i ∈ nearN R C (i - 1) ∧ 0 < i := by
  have h1 : i % C ≤ i := Nat.mod_le _ _
  have h2 : i % C < C := Nat.mod_lt _ h0
  refine ⟨nearN_mem.2 (.inr (.inr (.inr ⟨hi, rfl⟩))), nearN_mem.2 (.inr (.inl ⟨?_, by omega⟩)), by omega⟩
  have e : (i - 1) % C = i % C - 1 := by
    have h3 := Nat.div_add_mod i C
    have h4 : i - 1 = C * (i / C) + (i % C - 1) := by omega
    rw [h4, Nat.mul_add_mod, Nat.mod_eq_of_lt (by omega)]
  omega
theorem near_north {i : Nat} (hi : C ≤ i) (hn : i < R * C) : i - C ∈ nearN R C i ∧ i ∈ nearN R C (i - C) := by
  refine ⟨nearN_mem.2 (.inl ⟨hi, rfl⟩), nearN_mem.2 (.inr (.inr (.inl ⟨by omega, by omega⟩)))⟩
theorem divTo_zero : ∀ {k : Nat}, divTo R C h k = 0 → ∀ i, i < k → ∀ j ∈ nearN R C i, i < j → endN R C h i = endN R C h j
  | 0, _, i, hi, _, _, _ => by omega
  | k + 1, hz, i, hi, j, hj, hij => by
    simp only [divTo] at hz
    by_cases e : i = k
    · subst e
      have h0 : (nearN R C i).countP (divP R C h i) = 0 := by omega
      have := List.countP_eq_zero.1 h0 j hj
      simp only [divP, Bool.and_eq_true, decide_eq_true_eq] at this
      by_cases he : endN R C h i = endN R C h j
      · exact he
      · exact absurd ⟨hij, he⟩ this
    · exact divTo_zero (k := k) (by omega) i (by omega) j hj hij
theorem divTo_nil : ∀ {k : Nat}, (∀ i, i < k → ∀ j ∈ nearN R C i, endN R C h i = endN R C h j) → divTo R C h k = 0
  | 0, _ => rfl
  | k + 1, hh => by
    simp only [divTo]
    rw [divTo_nil fun i hi => hh i (by omega)]
    have : (nearN R C k).countP (divP R C h k) = 0 := List.countP_eq_zero.2 fun j hj => by
      simp [divP, hh k (by omega) j hj]
    omega
theorem div_one (g : Gd R C h) : divTo R C h (R * C) = 0 ↔ (sinksTo R C h (R * C)).length = 1 := by
  rw [sinksTo_count]
  constructor
  · intro hz
    have hd := divTo_zero hz
    have hend : ∀ i, i < R * C → endN R C h i = endN R C h 0 := by
      intro i
      induction i using Nat.strongRecOn with
      | _ i ih =>
        intro hi
        by_cases h0 : i = 0
        · rw [h0]
        · by_cases hw : 0 < i % C
          · have := near_west (R := R) g.c1 hw
            rw [← hd (i - 1) (by omega) i this.2.1 (by omega)]
            exact ih (i - 1) (by omega) (by omega)
          · have hC := g.c1
            have hge : C ≤ i := by
              have h3 := Nat.div_add_mod i C
              have h4 : 1 ≤ i / C := by
                rcases Nat.eq_zero_or_pos (i / C) with e | e
                · rw [e, Nat.mul_zero] at h3; omega
                · exact e
              have := Nat.mul_le_mul_left C h4
              omega
            have := near_north (R := R) hge hi
            rw [← hd (i - C) (by omega) i this.2 (by omega)]
            exact ih (i - C) (by omega) (by omega)
    have h0 := endN_lt g 0 g.pos
    refine cntp_one _ h0.1 h0.2 fun i hi hs => ?_
    rw [← hend i hi, endN_sink g hi hs]
  · intro h1
    refine divTo_nil fun i hi j hj => ?_
    have hi' := endN_lt g i hi
    have hj' := endN_lt g j (nearN_lt hi j hj)
    exact cntp_uniq _ h1 _ _ hi'.1 hj'.1 hi'.2 hj'.2

theorem near_gt (i : Nat) (hC : 0 < C) : (nearN R C i).countP (fun j => decide (i < j)) = (if i % C + 1 < C then 1 else 0) + (if i + C < R * C then 1 else 0) := by
  unfold nearN
  by_cases h1 : C ≤ i <;> by_cases h2 : i % C + 1 < C <;> by_cases h3 : i + C < R * C <;> by_cases h4 : 0 < i % C <;> simp [h1, h2, h3, h4, List.countP_cons] <;> (repeat' split) <;> omega
theorem near_lt' (i : Nat) (hC : 0 < C) : (nearN R C i).countP (fun j => decide (j < i)) = (if 0 < i % C then 1 else 0) + (if C ≤ i then 1 else 0) := by
  have hm : 0 < i % C → 0 < i := fun h => Nat.lt_of_lt_of_le h (Nat.mod_le _ _)
  unfold nearN
  by_cases h1 : C ≤ i <;> by_cases h2 : i % C + 1 < C <;> by_cases h3 : i + C < R * C <;> by_cases h4 : 0 < i % C <;> simp [h1, h2, h3, h4, List.countP_cons] <;> (repeat' split) <;> omega
theorem sum_south (R C : Nat) : ∀ n, sumN (fun i => if i + C < n then 1 else 0) n = sumN (fun i => if C ≤ i then 1 else 0) n := by
  intro n
  have h1 : ∀ n, sumN (fun i => if C ≤ i then 1 else 0) n = n - C := by
    intro n
    induction n with
    | zero => simp [sumN]
    | succ n ih =>
      simp only [sumN, ih]
      split <;> omega
  have h2 : ∀ m, m ≤ n → sumN (fun i => if i + C < n then 1 else 0) m = min m (n - C) := by
    intro m
    induction m with
    | zero => intro _; simp [sumN]
    | succ m ih =>
      intro hm
      simp only [sumN, ih (by omega)]
      split <;> omega
  rw [h1, h2 n (Nat.le_refl _)]; omega
theorem sum_east (R C : Nat) (hC : 0 < C) : sumN (fun i => if i % C + 1 < C then 1 else 0) (R * C) = sumN (fun i => if 0 < i % C then 1 else 0) (R * C) := by
  have h1 := sumN_shift (fun i => if 0 < i % C then 1 else 0) (R * C)
  have h0 : (if 0 < 0 % C then 1 else 0) = 0 := by simp
  have hn : (if 0 < (R * C) % C then 1 else 0) = 0 := by simp
  simp only [sumN, h0, hn, Nat.add_zero] at h1
  rw [← h1]
  refine sumN_congr fun i _ => ?_
  have hm := Nat.mod_lt i hC
  by_cases e : i % C + 1 < C
  · have : (i + 1) % C = i % C + 1 := by
      have h3 := Nat.div_add_mod i C
      have h4 : i + 1 = C * (i / C) + (i % C + 1) := by omega
      rw [h4, Nat.mul_add_mod, Nat.mod_eq_of_lt e]
    rw [if_pos e, if_pos (by omega)]
  · have : (i + 1) % C = 0 := by
      have h3 := Nat.div_add_mod i C
      have h4 : i + 1 = C * (i / C + 1) := by rw [Nat.mul_add]; omega
      rw [h4, Nat.mul_mod_right]
    rw [if_neg e, if_neg (by omega)]
theorem pairs_even (g : Gd R C h) : 2 * divTo R C h (R * C) ≤ sumN (fun i => (nearN R C i).length) (R * C) := by
  have hC := g.c1
  have h1 : ∀ k, divTo R C h k ≤ sumN (fun i => (nearN R C i).countP (fun j => decide (i < j))) k := by
    intro k
    induction k with
    | zero => exact Nat.le_refl _
    | succ k ih =>
      have : (nearN R C k).countP (divP R C h k) ≤ (nearN R C k).countP (fun j => decide (k < j)) := List.countP_mono_left fun j _ hj => by
        simp only [divP, Bool.and_eq_true] at hj; exact hj.1
      simp only [divTo, sumN]; omega
  have h2 : sumN (fun i => (nearN R C i).countP (fun j => decide (i < j))) (R * C) = sumN (fun i => (nearN R C i).countP (fun j => decide (j < i))) (R * C) := by
    rw [sumN_congr (g := fun i => (if i % C + 1 < C then 1 else 0) + (if i + C < R * C then 1 else 0)) (fun i _ => near_gt i hC), sumN_congr (f := fun i => (nearN R C i).countP (fun j => decide (j < i))) (g := fun i => (if 0 < i % C then 1 else 0) + (if C ≤ i then 1 else 0)) (fun i _ => near_lt' i hC), sumN_add, sumN_add, sum_east R C hC, sum_south R C (R * C)]
  have h3 : sumN (fun i => (nearN R C i).countP (fun j => decide (i < j)) + (nearN R C i).countP (fun j => decide (j < i))) (R * C) ≤ sumN (fun i => (nearN R C i).length) (R * C) := by
    refine sumN_le fun i _ => ?_
    have : ∀ l : List Nat, l.countP (fun j => decide (i < j)) + l.countP (fun j => decide (j < i)) ≤ l.length := by
      intro l
      induction l with
      | nil => simp
      | cons a l ih =>
        simp only [List.countP_cons, List.length_cons, decide_eq_true_eq]
        split <;> split <;> omega
    exact this _
  rw [sumN_add] at h3
  have := h1 (R * C)
  omega
end
end Go.SW
