/- Ka: the texts Hl M3 M4 La M5 M6 M7 M8 as one. -/
import Derived.Test.YtcbmhjndbpafbaaGreatDoorJ2
import Derived.Test.YtcbmhjndbpafbaaGreatDoorJ4
import Derived.Test.YtcbmhjndbpafbaaGreatDoorK7
set_option linter.all false
set_option maxRecDepth 20000
/- Contracts of the laws' helpers that only read. -/
namespace Go.SW
def sumL (l : List Int) : Int := l.foldr (· + ·) 0
theorem sumL_append (a b : List Int) : sumL (a ++ b) = sumL a + sumL b := by
  induction a with
  | nil => simp [sumL]
  | cons x a ih => simp only [sumL, List.cons_append, List.foldr_cons] at ih ⊢; omega
theorem sumL_take {l : List Int} {k : Nat} (hk : k < l.length) : sumL (l.take (k + 1)) = sumL (l.take k) + l.getD k 0 := by
  rw [List.take_succ_eq_append_getElem hk, sumL_append, getD_at l 0 hk]; simp [sumL]
theorem sumL_bnd {l : List Int} {m : Int} (hm : 0 ≤ m) (h : ∀ x ∈ l, 0 ≤ x ∧ x ≤ m) : ∀ k, k ≤ l.length → 0 ≤ sumL (l.take k) ∧ sumL (l.take k) ≤ k * m
  | 0, _ => by simp [sumL]
  | k + 1, hk => by
    have ih := sumL_bnd hm h k (by omega)
    rw [sumL_take (by omega)]
    have := h _ (getD_mem (d := 0) (show k < l.length by omega))
    have e : ((k + 1 : Nat) : Int) * m = (k : Int) * m + m := by rw [Int.natCast_add, Int.add_mul]; simp
    omega
end Go.SW
namespace Go.Proofs.YtcbmhjndbpafbaaGreatDoor
open Go.RowKit Go.SW

theorem sameInts_c (a b : Option Addr) (l m : List Int) (c d : Nat) (w : World) (hl : IntS w a l) (hm : IntS w b m) (hn : l.length ≤ maxLen) :
    Ret Tryz.prog 23 #[.slice a l.length c, .slice b m.length d] w fun v w' => v = .bool (decide (l = m)) ∧ Ext w w' := by
  have hn' := maxLen_le hn
  refine enter2 Tryz.func23 rfl (by kernel_rfl) (of_decide_eq_true (by kernel_rfl)) fun f a0 a1 => ?_
  by_cases hlen : l.length = m.length
  · have hne : ((l.length : Int) != (m.length : Int)) = false := by simp [hlen]
    simp (disch := omega) only [go_sem, Nat.reduceEqDiff, ↓reduceIte, Nat.reduceAdd, a0, a1, hne]
    refine loopN l.length (fun k f w' => f 0 = .slice a l.length c ∧ f 1 = .slice b m.length d ∧ f 5 = .int .i64 k ∧ Ext w w' ∧ ∀ j, j < k → l.getD j 0 = m.getD j 0) ⟨(by first | assumption | (simp only [upd_apply, Nat.reduceEqDiff, ↓reduceIte] <;> first | rfl | assumption) | simp [upd_apply, *]), (by first | assumption | (simp only [upd_apply, Nat.reduceEqDiff, ↓reduceIte] <;> first | rfl | assumption) | simp [upd_apply, *]), (by first | assumption | (simp only [upd_apply, Nat.reduceEqDiff, ↓reduceIte] <;> first | rfl | assumption) | simp [upd_apply, *]), Ext.refl _, fun j hj => by omega⟩ fun k f w' hk ⟨a0, a1, a5, xw, he⟩ => ?_
    by_cases hlt : (k : Int) < l.length
    · obtain ⟨b1, o1, rfl⟩ := hl.head (by intro e; rw [e] at hlt; simp at hlt; omega)
      obtain ⟨b2, o2, rfl⟩ := hm.head (by intro e; rw [e] at hlen; rw [hlen] at hlt; simp at hlt; omega)
      have g1 := (hl.ext xw).cell b1 o1 rfl k (by omega)
      have g2 := (hm.ext xw).cell b2 o2 rfl k (by omega)
      simp (disch := omega) only [go_sem, Nat.reduceEqDiff, ↓reduceIte, Nat.reduceAdd, a0, a1, a5, hlt]
      refine QR_of (by kernel_rfl) (by kernel_rfl) ?_
      by_cases hx : l.getD k 0 = m.getD k 0
      · have hne : (l.getD k 0 != m.getD k 0) = false := bne_eq_false_iff_eq.2 hx
        simp (disch := omega) only [go_sem, Nat.reduceEqDiff, ↓reduceIte, Nat.reduceAdd, a0, a1, a5, g1, g2, hne]
        refine fun w2 x2 => ⟨by omega, (by first | assumption | (simp only [upd_apply, Nat.reduceEqDiff, ↓reduceIte] <;> first | rfl | assumption) | simp [upd_apply, *]), (by first | assumption | (simp only [upd_apply, Nat.reduceEqDiff, ↓reduceIte] <;> first | rfl | assumption) | simp [upd_apply, *]), (by first | assumption | (simp only [upd_apply, Nat.reduceEqDiff, ↓reduceIte] <;> first | rfl | assumption) | simp [upd_apply, *]), xw.trans x2, fun j hj => ?_⟩
        by_cases e : j = k
        · subst e; exact hx
        · exact he j (by omega)
      · have hne : (l.getD k 0 != m.getD k 0) = true := bne_iff_ne.2 hx
        simp (disch := omega) only [go_sem, Nat.reduceEqDiff, ↓reduceIte, Nat.reduceAdd, a0, a1, a5, g1, g2, hne, Tryz.results23]
        refine fun w2 x2 => ⟨?_, xw.trans x2⟩
        rw [decide_eq_false (fun e => hx (by rw [e]))]
    · simp (disch := omega) only [go_sem, Nat.reduceEqDiff, ↓reduceIte, Nat.reduceAdd, a0, a1, a5, hlt, Tryz.results23]
      refine ⟨?_, xw⟩
      rw [decide_eq_true]
      refine List.ext_getElem hlen fun j h1 h2 => ?_
      have := he j (by omega)
      rwa [getD_at _ _ h1, getD_at _ _ h2] at this
  · have hne : ((l.length : Int) != (m.length : Int)) = true := by simp; omega
    simp (disch := omega) only [go_sem, Nat.reduceEqDiff, ↓reduceIte, Nat.reduceAdd, a0, a1, hne, Tryz.results23]
    exact ⟨by rw [decide_eq_false (fun e => hlen (by rw [e]))], Ext.refl _⟩

end Go.Proofs.YtcbmhjndbpafbaaGreatDoor

/- The water laws in plain Lean: no program occurs here. -/
namespace Go.SW

/-! ## sums -/
def sumN (f : Nat → Nat) : Nat → Nat
  | 0 => 0
  | k + 1 => sumN f k + f k
theorem sumN_congr {f g : Nat → Nat} : ∀ {n : Nat}, (∀ i, i < n → f i = g i) → sumN f n = sumN g n
  | 0, _ => rfl
  | n + 1, h => by simp only [sumN]; rw [sumN_congr fun i hi => h i (by omega), h n (by omega)]
theorem sumN_add (f g : Nat → Nat) : ∀ n, sumN (fun i => f i + g i) n = sumN f n + sumN g n
  | 0 => rfl
  | n + 1 => by simp only [sumN]; rw [sumN_add f g n]; omega
theorem sumN_zero : ∀ n, sumN (fun _ => 0) n = 0
  | 0 => rfl
  | n + 1 => by simp only [sumN, sumN_zero n]
theorem sumN_swap (f : Nat → Nat → Nat) (m : Nat) : ∀ n, sumN (fun i => sumN (fun j => f i j) m) n = sumN (fun j => sumN (fun i => f i j) n) m
  | 0 => by simp only [sumN]; exact (sumN_zero m).symm
  | n + 1 => by
    simp only [sumN]
    rw [sumN_swap f m n, ← sumN_add]
theorem sumN_single {n a : Nat} (ha : a < n) (x : Nat) : sumN (fun i => if i = a then x else 0) n = x := by
  induction n with
  | zero => omega
  | succ n ih =>
    simp only [sumN]
    by_cases e : n = a
    · subst e
      rw [if_pos rfl, sumN_congr (g := fun _ => 0) fun i hi => if_neg (by omega), sumN_zero]; omega
    · rw [if_neg e, ih (by omega)]; rfl
theorem sumN_cntp (p : Nat → Prop) [DecidablePred p] : ∀ n, sumN (fun i => if p i then 1 else 0) n = cntp p n
  | 0 => rfl
  | n + 1 => by simp only [sumN, cntp, sumN_cntp p n]
theorem sumN_count {l : List Nat} {n : Nat} (h : ∀ x ∈ l, x < n) : sumN (fun i => l.count i) n = l.length := by
  induction l with
  | nil => simp [sumN_zero]
  | cons a l ih =>
    have e : sumN (fun i => (a :: l).count i) n = sumN (fun i => l.count i) n + sumN (fun i => if i = a then 1 else 0) n := by
      rw [← sumN_add]
      refine sumN_congr fun i _ => ?_
      rw [List.count_cons]
      by_cases e : a = i
      · subst e; simp
      · have e' : ¬ i = a := fun h => e h.symm
        simp [e, e']
    rw [e, ih fun x hx => h x (List.mem_cons_of_mem _ hx), sumN_single (h a (List.mem_cons_self ..))]; rfl
theorem sumN_le {f g : Nat → Nat} : ∀ {n : Nat}, (∀ i, i < n → f i ≤ g i) → sumN f n ≤ sumN g n
  | 0, _ => Nat.le_refl _
  | n + 1, h => by simp only [sumN]; have := sumN_le (n := n) fun i hi => h i (by omega); have := h n (by omega); omega
theorem sumN_shift (f : Nat → Nat) : ∀ n, sumN (fun i => f (i + 1)) n + f 0 = sumN f (n + 1)
  | 0 => by simp [sumN]
  | n + 1 => by
    have := sumN_shift f n
    simp only [sumN] at this ⊢; omega
theorem cntp_congr {p q : Nat → Prop} [DecidablePred p] [DecidablePred q] : ∀ {n : Nat}, (∀ i, i < n → (p i ↔ q i)) → cntp p n = cntp q n
  | 0, _ => rfl
  | n + 1, h => by
    have ih := cntp_congr (n := n) fun i hi => h i (by omega)
    have hn := h n (by omega)
    simp only [cntp, ih]
    by_cases e : p n
    · rw [if_pos e, if_pos (hn.1 e)]
    · rw [if_neg e, if_neg fun h => e (hn.2 h)]
theorem cntp_uniq (p : Nat → Prop) [DecidablePred p] : ∀ {n : Nat}, cntp p n = 1 → ∀ i j, i < n → j < n → p i → p j → i = j
  | 0, _, i, _, hi, _, _, _ => by omega
  | n + 1, h, i, j, hi, hj, pi, pj => by
    simp only [cntp] at h
    by_cases e : p n
    · rw [if_pos e] at h
      have h0 : ∀ k, k < n → ¬ p k := fun k hk pk => by have := cntp_pos p n k hk pk; omega
      have h1 : i = n := by
        by_cases e' : i = n
        · exact e'
        · exact absurd pi (h0 i (by omega))
      have h2 : j = n := by
        by_cases e' : j = n
        · exact e'
        · exact absurd pj (h0 j (by omega))
      omega
    · rw [if_neg e] at h
      have h1 : i ≠ n := fun e' => e (e' ▸ pi)
      have h2 : j ≠ n := fun e' => e (e' ▸ pj)
      exact cntp_uniq p (by omega) i j (by omega) (by omega) pi pj
theorem cntp_one (p : Nat → Prop) [DecidablePred p] : ∀ {n e : Nat}, e < n → p e → (∀ i, i < n → p i → i = e) → cntp p n = 1
  | 0, e, h, _, _ => by omega
  | n + 1, e, h, pe, hu => by
    simp only [cntp]
    by_cases en : e = n
    · subst en
      rw [if_pos pe, cntp_zero p e fun i hi pi => by have := hu i (by omega) pi; omega]
    · rw [if_neg fun pn => en (hu n (by omega) pn).symm, cntp_one p (by omega) pe fun i hi pi => hu i (by omega) pi]

section
variable {R C : Nat} {h : Nat → Int}

theorem waterN_len_low (g : Gd R C h) (m : Int) (hm : ∀ i, i < R * C → m ≤ h i) : ∀ i, i < R * C → ((waterN R C h i).length : Int) ≤ h i - m + 1 := by
  refine flow_ind g (fun i hi hs => ?_) fun i hi hs ih => ?_
  · rw [waterN_sink g hi hs]; have := hm i hi; simp; omega
  · rw [waterN_step g hi hs]
    have hlt : h (nextN R C h i) < h i := (nextN_ne i).resolve_left hs
    simp only [List.length_cons]; omega
theorem longTo_low (g : Gd R C h) {m M : Int} (h1 : ∀ i, i < R * C → m ≤ h i ∧ h i ≤ M) (hmM : m ≤ M + 1) : ∀ k, k ≤ R * C → (longTo R C h k : Int) ≤ M - m + 1
  | 0, _ => by simp [longTo]; omega
  | k + 1, hk => by
    have ih := longTo_low g h1 hmM k (by omega)
    have h2 := waterN_len_low g m (fun i hi => (h1 i hi).1) k (by omega)
    have h3 := h1 k (by omega)
    simp only [longTo]; omega

/-! ## runs, cell by cell -/
theorem waterN_get (g : Gd R C h) : ∀ i, i < R * C → ∀ k, k + 1 < (waterN R C h i).length →
    (waterN R C h i).getD (k + 1) 0 = nextN R C h ((waterN R C h i).getD k 0) ∧ h ((waterN R C h i).getD (k + 1) 0) < h ((waterN R C h i).getD k 0) := by
  refine flow_ind g (fun i hi hs k hk => ?_) fun i hi hs ih k hk => ?_
  · rw [waterN_sink g hi hs] at hk; simp at hk
  · rw [waterN_step g hi hs] at hk ⊢
    simp only [List.length_cons] at hk
    cases k with
    | zero =>
      have hne : waterN R C h (nextN R C h i) ≠ [] := waterN_ne g (nextN_lt hi)
      have e : (waterN R C h (nextN R C h i)).getD 0 0 = nextN R C h i := by
        rw [waterN_eq g (nextN_lt hi)]; split <;> simp
      simp only [List.getD_cons_succ, List.getD_cons_zero, e]
      exact ⟨trivial, (nextN_ne i).resolve_left hs⟩
    | succ k =>
      simp only [List.getD_cons_succ]
      exact ih k (by omega)
theorem waterN_head (g : Gd R C h) {i : Nat} (hi : i < R * C) : (waterN R C h i).getD 0 0 = i := by
  rw [waterN_eq g hi]; split <;> simp
theorem waterN_last (g : Gd R C h) {i : Nat} (hi : i < R * C) : (waterN R C h i).getD ((waterN R C h i).length - 1) 0 = endN R C h i := by
  have hl := List.length_pos_iff.2 (waterN_ne g hi)
  simp only [endN, List.getLastD_eq_getLast?, List.getLast?_eq_getElem?, List.getD_eq_getElem?_getD]
  rw [List.getElem?_eq_getElem (by omega)]; simp
theorem waterN_tail (g : Gd R C h) {i : Nat} (hi : i < R * C) (hl : (waterN R C h i).length ≠ 1) : waterN R C h ((waterN R C h i).getD 1 0) = (waterN R C h i).drop 1 := by
  by_cases hs : nextN R C h i = i
  · rw [waterN_sink g hi hs] at hl; simp at hl
  · rw [waterN_step g hi hs]
    have e : (waterN R C h (nextN R C h i)).getD 0 0 = nextN R C h i := waterN_head g (nextN_lt hi)
    show waterN R C h ((i :: waterN R C h (nextN R C h i)).getD (0 + 1) 0) = _
    rw [List.getD_cons_succ, e]; rfl

/-! ## how often a cell stands in a run -/
theorem count_sink (g : Gd R C h) {s : Nat} (hs : nextN R C h s = s) : ∀ i, i < R * C → (waterN R C h i).count s = if endN R C h i = s then 1 else 0 := by
  refine flow_ind g (fun i hi hi' => ?_) fun i hi hn ih => ?_
  · rw [waterN_sink g hi hi', endN_sink g hi hi', List.count_cons]; simp
  · rw [waterN_step g hi hn, List.count_cons, ih, endN_step g hi]
    have : i ≠ s := fun e => hn (by rw [e]; exact hs)
    simp [this]
theorem flow_sink (g : Gd R C h) {s : Nat} (hs : nextN R C h s = s) : ∀ k, k ≤ R * C → flowTo R C h k s = cntp (fun i => ((endN R C h i : Nat) : Int) = (s : Int)) k
  | 0, _ => rfl
  | k + 1, hk => by
    simp only [flowTo, cntp]
    rw [flow_sink g hs k (by omega), count_sink g hs k (by omega)]
    by_cases e : endN R C h k = s
    · rw [if_pos e, if_pos (by omega)]
    · rw [if_neg e, if_neg (by omega)]
theorem flowTo_sumN (j : Nat) : ∀ k, flowTo R C h k j = sumN (fun i => (waterN R C h i).count j) k
  | 0 => rfl
  | k + 1 => by simp only [flowTo, sumN, flowTo_sumN j k]

/-- The cells whose water comes to i from elsewhere. -/
def feeds (R C : Nat) (h : Nat → Int) (i k : Nat) : Bool := decide (k ≠ i) && decide (nextN R C h k = i)
theorem count_step (g : Gd R C h) (i : Nat) (hi : i < R * C) : ∀ j, j < R * C → (waterN R C h j).count i = (if j = i then 1 else 0) + sumN (fun k => if feeds R C h i k then (waterN R C h j).count k else 0) (R * C) := by
  refine flow_ind g (fun j hj hs => ?_) fun j hj hs ih => ?_
  · rw [waterN_sink g hj hs]
    have e : sumN (fun k => if feeds R C h i k then ([j] : List Nat).count k else 0) (R * C) = sumN (fun _ => 0) (R * C) := sumN_congr fun k _ => by
      by_cases hf : feeds R C h i k = true
      · rw [if_pos hf]
        simp only [feeds, Bool.and_eq_true, decide_eq_true_eq] at hf
        have : j ≠ k := fun e => by subst e; rw [hs] at hf; exact hf.1 hf.2
        simp [List.count_cons, this]
      · rw [if_neg hf]
    rw [e, sumN_zero, List.count_cons]
    by_cases e2 : j = i <;> simp [e2]
  · rw [waterN_step g hj hs]
    have e : sumN (fun k => if feeds R C h i k then (j :: waterN R C h (nextN R C h j)).count k else 0) (R * C) =
        sumN (fun k => if feeds R C h i k then (waterN R C h (nextN R C h j)).count k else 0) (R * C) + sumN (fun k => if k = j then (if feeds R C h i j then 1 else 0) else 0) (R * C) := by
      rw [← sumN_add]
      refine sumN_congr fun k _ => ?_
      rw [List.count_cons]
      by_cases ek : k = j
      · subst ek; by_cases hf : feeds R C h i k = true <;> simp [hf]
      · have : ¬ j = k := fun e => ek e.symm
        by_cases hf : feeds R C h i k = true <;> simp [hf, ek, this]
    rw [e, sumN_single hj, List.count_cons, ih]
    have ef : (if feeds R C h i j = true then 1 else 0) = if nextN R C h j = i then 1 else 0 := by
      by_cases en : nextN R C h j = i
      · have hne : j ≠ i := fun e => hs (by rw [e] at en ⊢; exact en)
        simp [feeds, en, hne]
      · simp [feeds, en]
    rw [ef]
    by_cases e2 : j = i
    · subst e2; simp; omega
    · simp [e2]; omega
theorem flow_step (g : Gd R C h) (i : Nat) (hi : i < R * C) : flowTo R C h (R * C) i = 1 + sumN (fun k => if feeds R C h i k then flowTo R C h (R * C) k else 0) (R * C) := by
  rw [flowTo_sumN, sumN_congr (g := fun j => (if j = i then 1 else 0) + sumN (fun k => if feeds R C h i k then (waterN R C h j).count k else 0) (R * C)) (fun j hj => count_step g i hi j hj), sumN_add, sumN_single hi, sumN_swap]
  congr 1
  refine sumN_congr fun k _ => ?_
  by_cases hf : feeds R C h i k = true
  · simp only [hf, if_true]; rw [flowTo_sumN]
  · simp only [hf, if_false, Bool.false_eq_true]; exact sumN_zero _
theorem flow_sum (g : Gd R C h) : sumN (flowTo R C h (R * C)) (R * C) = sumN (fun j => (waterN R C h j).length) (R * C) := by
  rw [sumN_congr (g := fun i => sumN (fun j => (waterN R C h j).count i) (R * C)) (fun i _ => flowTo_sumN i _), sumN_swap]
  exact sumN_congr fun j hj => sumN_count (waterN_lt g j hj)

/-! ## basins -/
def sumSinks (f : Nat → Nat) (l : List Nat) : Nat := l.foldr (fun s a => f s + a) 0
theorem sumSinks_append (f : Nat → Nat) (a b : List Nat) : sumSinks f (a ++ b) = sumSinks f a + sumSinks f b := by
  induction a with
  | nil => simp [sumSinks]
  | cons x a ih => simp only [sumSinks, List.cons_append, List.foldr_cons] at ih ⊢; omega
theorem sumSinks_take (f : Nat → Nat) {l : List Nat} {k : Nat} (hk : k < l.length) : sumSinks f (l.take (k + 1)) = sumSinks f (l.take k) + f (l.getD k 0) := by
  rw [List.take_succ_eq_append_getElem hk, sumSinks_append, getD_at l 0 hk]; simp [sumSinks]
theorem sumSinks_le (f : Nat → Nat) (m : Nat) (hf : ∀ s, f s ≤ m) : ∀ l : List Nat, sumSinks f l ≤ l.length * m
  | [] => by simp [sumSinks]
  | a :: l => by
    have := sumSinks_le f m hf l
    have := hf a
    simp only [sumSinks, List.foldr_cons, List.length_cons] at this ⊢
    rw [Nat.add_mul, Nat.one_mul]
    have h2 := sumSinks_le f m hf l
    simp only [sumSinks] at h2
    omega
theorem cntp_split (p q r : Nat → Prop) [DecidablePred p] [DecidablePred q] [DecidablePred r] : ∀ n, (∀ i, i < n → (r i ↔ p i ∨ q i) ∧ ¬ (p i ∧ q i)) → cntp r n = cntp p n + cntp q n
  | 0, _ => rfl
  | n + 1, hh => by
    have ih := cntp_split p q r n fun i hi => hh i (by omega)
    have hn := hh n (by omega)
    simp only [cntp, ih]
    by_cases hp : p n
    · have hq : ¬ q n := fun hq => hn.2 ⟨hp, hq⟩
      rw [if_pos hp, if_neg hq, if_pos (hn.1.2 (.inl hp))]; omega
    · by_cases hq : q n
      · rw [if_neg hp, if_pos hq, if_pos (hn.1.2 (.inr hq))]; omega
      · rw [if_neg hp, if_neg hq, if_neg fun h => (hn.1.1 h).elim hp hq]; omega
theorem basins_sum (g : Gd R C h) : ∀ k, k ≤ R * C → sumSinks (fun s => cntp (fun i => ((endN R C h i : Nat) : Int) = (s : Int)) (R * C)) (sinksTo R C h k) = cntp (fun i => endN R C h i < k) (R * C)
  | 0, _ => by simp only [sinksTo, sumSinks, List.foldr_nil]; exact (cntp_zero _ _ fun i _ => by omega).symm
  | k + 1, hk => by
    simp only [sinksTo]
    rw [sumSinks_append, basins_sum g k (by omega)]
    by_cases hs : nextN R C h k = k
    · rw [if_pos hs, cntp_split (fun i => endN R C h i < k) (fun i => ((endN R C h i : Nat) : Int) = (k : Int)) (fun i => endN R C h i < k + 1) _ fun i _ => ⟨by omega, by omega⟩]
      simp [sumSinks]
    · rw [if_neg hs]
      simp only [sumSinks, List.foldr_nil, Nat.add_zero]
      refine cntp_congr fun i hi => ?_
      have := endN_lt g i hi
      have : endN R C h i ≠ k := fun e => hs (by rw [← e]; exact this.2)
      omega
theorem basins_all (g : Gd R C h) : sumSinks (fun s => cntp (fun i => ((endN R C h i : Nat) : Int) = (s : Int)) (R * C)) (sinksTo R C h (R * C)) = R * C := by
  rw [basins_sum g _ (Nat.le_refl _)]
  exact cntp_all _ _ fun i hi => (endN_lt g i hi).1

/-! ## divides -/
theorem sinksTo_count (R C : Nat) (h : Nat → Int) : ∀ k, (sinksTo R C h k).length = cntp (fun i => nextN R C h i = i) k
  | 0 => rfl
  | k + 1 => by
    simp only [sinksTo, List.length_append, cntp, sinksTo_count R C h k]
    by_cases e : nextN R C h k = k <;> simp [e]
theorem near_west {i : Nat} (h0 : 0 < C) (hi : 0 < i % C) : i - 1 ∈ nearN R C i ∧ i ∈ nearN R C (i - 1) ∧ 0 < i := by
  have h1 : i % C ≤ i := Nat.mod_le _ _
  have h2 : i % C < C := Nat.mod_lt _ h0
  refine ⟨nearN_mem.2 (.inr (.inr (.inr ⟨hi, rfl⟩))), nearN_mem.2 (.inr (.inl ⟨?_, by omega⟩)), by omega⟩
  have e : (i - 1) % C = i % C - 1 := by
    have h3 := Nat.div_add_mod i C
    have h4 : i - 1 = C * (i / C) + (i % C - 1) := by omega
    rw [h4, Nat.mul_add_mod, Nat.mod_eq_of_lt (by omega)]
  omega
theorem near_north {i : Nat} (hi : C ≤ i) (hn : i < R * C) : i - C ∈ nearN R C i ∧ i ∈ nearN R C (i - C) := by
  refine ⟨nearN_mem.2 (.inl ⟨hi, rfl⟩), nearN_mem.2 (.inr (.inr (.inl ⟨by omega, by omega⟩)))⟩
theorem divTo_zero : ∀ {k : Nat}, divTo R C h k = 0 → ∀ i, i < k → ∀ j ∈ nearN R C i, i < j → endN R C h i = endN R C h j
  | 0, _, i, hi, _, _, _ => by omega
  | k + 1, hz, i, hi, j, hj, hij => by
    simp only [divTo] at hz
    by_cases e : i = k
    · subst e
      have h0 : (nearN R C i).countP (divP R C h i) = 0 := by omega
      have := List.countP_eq_zero.1 h0 j hj
      simp only [divP, Bool.and_eq_true, decide_eq_true_eq] at this
      by_cases he : endN R C h i = endN R C h j
      · exact he
      · exact absurd ⟨hij, he⟩ this
    · exact divTo_zero (k := k) (by omega) i (by omega) j hj hij
theorem divTo_nil : ∀ {k : Nat}, (∀ i, i < k → ∀ j ∈ nearN R C i, endN R C h i = endN R C h j) → divTo R C h k = 0
  | 0, _ => rfl
  | k + 1, hh => by
    simp only [divTo]
    rw [divTo_nil fun i hi => hh i (by omega)]
    have : (nearN R C k).countP (divP R C h k) = 0 := List.countP_eq_zero.2 fun j hj => by
      simp [divP, hh k (by omega) j hj]
    omega
theorem div_one (g : Gd R C h) : divTo R C h (R * C) = 0 ↔ (sinksTo R C h (R * C)).length = 1 := by
  rw [sinksTo_count]
  constructor
  · intro hz
    have hd := divTo_zero hz
    have hend : ∀ i, i < R * C → endN R C h i = endN R C h 0 := by
      intro i
      induction i using Nat.strongRecOn with
      | _ i ih =>
        intro hi
        by_cases h0 : i = 0
        · rw [h0]
        · by_cases hw : 0 < i % C
          · have := near_west (R := R) g.c1 hw
            rw [← hd (i - 1) (by omega) i this.2.1 (by omega)]
            exact ih (i - 1) (by omega) (by omega)
          · have hC := g.c1
            have hge : C ≤ i := by
              have h3 := Nat.div_add_mod i C
              have h4 : 1 ≤ i / C := by
                rcases Nat.eq_zero_or_pos (i / C) with e | e
                · rw [e, Nat.mul_zero] at h3; omega
                · exact e
              have := Nat.mul_le_mul_left C h4
              omega
            have := near_north (R := R) hge hi
            rw [← hd (i - C) (by omega) i this.2 (by omega)]
            exact ih (i - C) (by omega) (by omega)
    have h0 := endN_lt g 0 g.pos
    refine cntp_one _ h0.1 h0.2 fun i hi hs => ?_
    rw [← hend i hi, endN_sink g hi hs]
  · intro h1
    refine divTo_nil fun i hi j hj => ?_
    have hi' := endN_lt g i hi
    have hj' := endN_lt g j (nearN_lt hi j hj)
    exact cntp_uniq _ h1 _ _ hi'.1 hj'.1 hi'.2 hj'.2

theorem near_gt (i : Nat) (hC : 0 < C) : (nearN R C i).countP (fun j => decide (i < j)) = (if i % C + 1 < C then 1 else 0) + (if i + C < R * C then 1 else 0) := by
  unfold nearN
  by_cases h1 : C ≤ i <;> by_cases h2 : i % C + 1 < C <;> by_cases h3 : i + C < R * C <;> by_cases h4 : 0 < i % C <;> simp [h1, h2, h3, h4, List.countP_cons] <;> (repeat' split) <;> omega
theorem near_lt' (i : Nat) (hC : 0 < C) : (nearN R C i).countP (fun j => decide (j < i)) = (if 0 < i % C then 1 else 0) + (if C ≤ i then 1 else 0) := by
  have hm : 0 < i % C → 0 < i := fun h => Nat.lt_of_lt_of_le h (Nat.mod_le _ _)
  unfold nearN
  by_cases h1 : C ≤ i <;> by_cases h2 : i % C + 1 < C <;> by_cases h3 : i + C < R * C <;> by_cases h4 : 0 < i % C <;> simp [h1, h2, h3, h4, List.countP_cons] <;> (repeat' split) <;> omega
theorem sum_south (R C : Nat) : ∀ n, sumN (fun i => if i + C < n then 1 else 0) n = sumN (fun i => if C ≤ i then 1 else 0) n := by
  intro n
  have h1 : ∀ n, sumN (fun i => if C ≤ i then 1 else 0) n = n - C := by
    intro n
    induction n with
    | zero => simp [sumN]
    | succ n ih =>
      simp only [sumN, ih]
      split <;> omega
  have h2 : ∀ m, m ≤ n → sumN (fun i => if i + C < n then 1 else 0) m = min m (n - C) := by
    intro m
    induction m with
    | zero => intro _; simp [sumN]
    | succ m ih =>
      intro hm
      simp only [sumN, ih (by omega)]
      split <;> omega
  rw [h1, h2 n (Nat.le_refl _)]; omega
theorem sum_east (R C : Nat) (hC : 0 < C) : sumN (fun i => if i % C + 1 < C then 1 else 0) (R * C) = sumN (fun i => if 0 < i % C then 1 else 0) (R * C) := by
  have h1 := sumN_shift (fun i => if 0 < i % C then 1 else 0) (R * C)
  have h0 : (if 0 < 0 % C then 1 else 0) = 0 := by simp
  have hn : (if 0 < (R * C) % C then 1 else 0) = 0 := by simp
  simp only [sumN, h0, hn, Nat.add_zero] at h1
  rw [← h1]
  refine sumN_congr fun i _ => ?_
  have hm := Nat.mod_lt i hC
  by_cases e : i % C + 1 < C
  · have : (i + 1) % C = i % C + 1 := by
      have h3 := Nat.div_add_mod i C
      have h4 : i + 1 = C * (i / C) + (i % C + 1) := by omega
      rw [h4, Nat.mul_add_mod, Nat.mod_eq_of_lt e]
    rw [if_pos e, if_pos (by omega)]
  · have : (i + 1) % C = 0 := by
      have h3 := Nat.div_add_mod i C
      have h4 : i + 1 = C * (i / C + 1) := by rw [Nat.mul_add]; omega
      rw [h4, Nat.mul_mod_right]
    rw [if_neg e, if_neg (by omega)]
theorem pairs_even (g : Gd R C h) : 2 * divTo R C h (R * C) ≤ sumN (fun i => (nearN R C i).length) (R * C) := by
  have hC := g.c1
  have h1 : ∀ k, divTo R C h k ≤ sumN (fun i => (nearN R C i).countP (fun j => decide (i < j))) k := by
    intro k
    induction k with
    | zero => exact Nat.le_refl _
    | succ k ih =>
      have : (nearN R C k).countP (divP R C h k) ≤ (nearN R C k).countP (fun j => decide (k < j)) := List.countP_mono_left fun j _ hj => by
        simp only [divP, Bool.and_eq_true] at hj; exact hj.1
      simp only [divTo, sumN]; omega
  have h2 : sumN (fun i => (nearN R C i).countP (fun j => decide (i < j))) (R * C) = sumN (fun i => (nearN R C i).countP (fun j => decide (j < i))) (R * C) := by
    rw [sumN_congr (g := fun i => (if i % C + 1 < C then 1 else 0) + (if i + C < R * C then 1 else 0)) (fun i _ => near_gt i hC), sumN_congr (f := fun i => (nearN R C i).countP (fun j => decide (j < i))) (g := fun i => (if 0 < i % C then 1 else 0) + (if C ≤ i then 1 else 0)) (fun i _ => near_lt' i hC), sumN_add, sumN_add, sum_east R C hC, sum_south R C (R * C)]
  have h3 : sumN (fun i => (nearN R C i).countP (fun j => decide (i < j)) + (nearN R C i).countP (fun j => decide (j < i))) (R * C) ≤ sumN (fun i => (nearN R C i).length) (R * C) := by
    refine sumN_le fun i _ => ?_
    have : ∀ l : List Nat, l.countP (fun j => decide (i < j)) + l.countP (fun j => decide (j < i)) ≤ l.length := by
      intro l
      induction l with
      | nil => simp
      | cons a l ih =>
        simp only [List.countP_cons, List.length_cons, decide_eq_true_eq]
        split <;> split <;> omega
    exact this _
  rw [sumN_add] at h3
  have := h1 (R * C)
  omega
end
end Go.SW

/- Sets of cells joined by pairs: forests, their roots, and what the roots tell. Plain law: no program occurs here. -/
namespace Go.SW

/-! ## a forest's roots -/
def UpOk (n : Nat) (up : Nat → Nat) : Prop := ∀ i, i < n → up i ≤ i
def rtF (up : Nat → Nat) : Nat → Nat → Nat
  | 0, i => i
  | k + 1, i => if up i = i then i else rtF up k (up i)
def rt (up : Nat → Nat) (i : Nat) : Nat := rtF up i i
section
variable {n : Nat} {up : Nat → Nat}
theorem rtF_any (h : UpOk n up) : ∀ (k m i : Nat), i < n → i ≤ k → i ≤ m → rtF up k i = rtF up m i
  | 0, m, i, hi, h1, _ => by
    have := h i hi
    cases m with
    | zero => rfl
    | succ m => simp only [rtF]; rw [if_pos (by omega)]; 
  | k + 1, m, i, hi, h1, h2 => by
    have := h i hi
    by_cases e : up i = i
    · cases m with
      | zero => simp only [rtF]; rw [if_pos e]
      | succ m => simp only [rtF]; rw [if_pos e, if_pos e]
    · cases m with
      | zero => omega
      | succ m =>
        simp only [rtF]
        rw [if_neg e, if_neg e]
        exact rtF_any h k m _ (by omega) (by omega) (by omega)
theorem rt_eq (h : UpOk n up) {i : Nat} (hi : i < n) : rt up i = if up i = i then i else rt up (up i) := by
  have h1 := rtF_any h i (i + 1) i hi (Nat.le_refl _) (Nat.le_succ _)
  have := h i hi
  unfold rt
  rw [h1]
  simp only [rtF]
  by_cases e : up i = i
  · rw [if_pos e, if_pos e]
  · rw [if_neg e, if_neg e, rtF_any h i (up i) (up i) (by omega) (by omega) (Nat.le_refl _)]
theorem rt_fix (h : UpOk n up) {i : Nat} (hi : i < n) (e : up i = i) : rt up i = i := by rw [rt_eq h hi, if_pos e]
theorem rt_step (h : UpOk n up) {i : Nat} (hi : i < n) : rt up i = rt up (up i) := by
  by_cases e : up i = i
  · rw [e]
  · rw [rt_eq h hi, if_neg e]
theorem rt_root (h : UpOk n up) : ∀ i, i < n → rt up i ≤ i ∧ up (rt up i) = rt up i := by
  intro i
  induction i using Nat.strongRecOn with
  | _ i ih =>
    intro hi
    have h1 := h i hi
    by_cases e : up i = i
    · rw [rt_fix h hi e]; exact ⟨Nat.le_refl _, e⟩
    · rw [rt_step h hi]
      have := ih (up i) (by omega) (by omega)
      exact ⟨by omega, this.2⟩
theorem rt_idem (h : UpOk n up) {i : Nat} (hi : i < n) : rt up (rt up i) = rt up i := by
  have := rt_root h i hi
  exact rt_fix h (by omega) this.2
theorem rt_halve (h : UpOk n up) {i : Nat} (hi : i < n) : UpOk n (fun k => if k = i then up (up i) else up k) ∧ ∀ j, j < n → rt (fun k => if k = i then up (up i) else up k) j = rt up j := by
  have hok : UpOk n (fun k => if k = i then up (up i) else up k) := fun k hk => by
    by_cases e : k = i
    · subst e
      have h1 := h k hk
      have h2 := h (up k) (by omega)
      simp only [if_true]; omega
    · simp only [if_neg e]; exact h k hk
  refine ⟨hok, fun j => ?_⟩
  induction j using Nat.strongRecOn with
  | _ j ih =>
    intro hj
    have h1 := h j hj
    by_cases ej : j = i
    · subst ej
      by_cases e1 : up j = j
      · rw [rt_fix h hj e1, rt_fix hok hj (by simp only [if_true]; rw [e1, e1])]
      · have h2 := h (up j) (by omega)
        rw [rt_step hok hj]
        simp only [if_true]
        rw [ih (up (up j)) (by omega) (by omega), rt_step h hj, rt_step h (by omega : up j < n)]
    · by_cases e1 : up j = j
      · rw [rt_fix h hj e1, rt_fix hok hj (by simp only [if_neg ej]; exact e1)]
      · rw [rt_step hok hj, rt_step h hj]
        simp only [if_neg ej]
        exact ih (up j) (by omega) (by omega)
theorem rt_join (h : UpOk n up) {a b : Nat} (hb : b < n) (ha' : up a = a) (hb' : up b = b) (hab : a < b) :
    UpOk n (fun k => if k = b then a else up k) ∧ ∀ j, j < n → rt (fun k => if k = b then a else up k) j = if rt up j = b then a else rt up j := by
  have hok : UpOk n (fun k => if k = b then a else up k) := fun k hk => by
    by_cases e : k = b
    · simp only [if_pos e]; omega
    · simp only [if_neg e]; exact h k hk
  refine ⟨hok, fun j => ?_⟩
  induction j using Nat.strongRecOn with
  | _ j ih =>
    intro hj
    have h1 := h j hj
    by_cases ej : j = b
    · subst ej
      rw [rt_step hok hj]
      simp only [if_true]
      rw [ih a hab (by omega), rt_fix h hj hb', if_pos rfl, rt_fix h (by omega : a < n) ha', if_neg (by omega)]
    · by_cases e1 : up j = j
      · rw [rt_fix h hj e1, rt_fix hok hj (by simp only [if_neg ej]; exact e1), if_neg ej]
      · rw [rt_step hok hj, rt_step h hj]
        simp only [if_neg ej]
        exact ih (up j) (by omega) (by omega)
end

/-! ## joining, as a function of the roots -/
def joinF (ρ : Nat → Nat) (a b : Nat) : Nat → Nat := fun k => if ρ a < ρ b then (if ρ k = ρ b then ρ a else ρ k) else (if ρ k = ρ a then ρ b else ρ k)
def ufRow (act : Nat → Bool) (i : Nat) (l : List Nat) (ρ : Nat → Nat) : Nat → Nat := l.foldl (fun ρ j => if act i && act j then joinF ρ i j else ρ) ρ
theorem ufRow_take (act : Nat → Bool) (i : Nat) {l : List Nat} (ρ : Nat → Nat) {m : Nat} (hm : m < l.length) :
    ufRow act i (l.take (m + 1)) ρ = if act i && act (l.getD m 0) then joinF (ufRow act i (l.take m) ρ) i (l.getD m 0) else ufRow act i (l.take m) ρ := by
  rw [List.take_succ_eq_append_getElem hm, getD_at l 0 hm]
  simp only [ufRow, List.foldl_append, List.foldl_cons, List.foldl_nil]
def ufTo (nb : Nat → List Nat) (act : Nat → Bool) : Nat → Nat → Nat
  | 0 => fun i => i
  | k + 1 => ufRow act k (nb k) (ufTo nb act k)

/-- What can be reached through pairs of E. -/
inductive EqvC (E : Nat → Nat → Prop) : Nat → Nat → Prop where
  | refl (i : Nat) : EqvC E i i
  | base {i j : Nat} : E i j → EqvC E i j
  | symm {i j : Nat} : EqvC E i j → EqvC E j i
  | trans {i j k : Nat} : EqvC E i j → EqvC E j k → EqvC E i k
theorem EqvC.mono {E E' : Nat → Nat → Prop} (h : ∀ i j, E i j → E' i j) {i j : Nat} (e : EqvC E i j) : EqvC E' i j := by
  induction e with
  | refl i => exact .refl i
  | base h' => exact .base (h _ _ h')
  | symm _ ih => exact .symm ih
  | trans _ _ ih1 ih2 => exact .trans ih1 ih2
theorem EqvC.closed {E : Nat → Nat → Prop} {p : Nat → Prop} (h : ∀ i j, E i j → (p i ↔ p j)) {i j : Nat} (e : EqvC E i j) : p i ↔ p j := by
  induction e with
  | refl i => exact Iff.rfl
  | base h' => exact h _ _ h'
  | symm _ ih => exact ih.symm
  | trans _ _ ih1 ih2 => exact ih1.trans ih2

structure UF (n : Nat) (E : Nat → Nat → Prop) (ρ : Nat → Nat) : Prop where
  le : ∀ i, i < n → ρ i ≤ i
  idem : ∀ i, i < n → ρ (ρ i) = ρ i
  snd : ∀ i j, i < n → j < n → ρ i = ρ j → EqvC E i j
  cmp : ∀ i j, i < n → j < n → E i j → ρ i = ρ j
theorem UF.join {n : Nat} {E E' : Nat → Nat → Prop} {ρ : Nat → Nat} (u : UF n E ρ) {a b : Nat} (ha : a < n) (hb : b < n) (h1 : ∀ i j, E i j → E' i j) (h2 : E' a b) (h3 : ∀ i j, E' i j → E i j ∨ (i = a ∧ j = b)) : UF n E' (joinF ρ a b) := by
  have la := u.le a ha
  have lb := u.le b hb
  have ia := u.idem a ha
  have ib := u.idem b hb
  have hra : EqvC E' a (ρ a) := (u.snd a (ρ a) ha (by omega) ia.symm).mono h1
  have hrb : EqvC E' b (ρ b) := (u.snd b (ρ b) hb (by omega) ib.symm).mono h1
  have hab : EqvC E' (ρ a) (ρ b) := (hra.symm.trans (.base h2)).trans hrb
  have hval : ∀ k, k < n → EqvC E' k (joinF ρ a b k) := fun k hk => by
    have hk' : EqvC E' k (ρ k) := (u.snd k (ρ k) hk (by have := u.le k hk; omega) (u.idem k hk).symm).mono h1
    unfold joinF
    split
    · split
      · rename_i e; rw [e] at hk'; exact hk'.trans hab.symm
      · exact hk'
    · split
      · rename_i e; rw [e] at hk'; exact hk'.trans hab
      · exact hk'
  refine ⟨fun i hi => ?_, fun i hi => ?_, fun i j hi hj e => ?_, fun i j hi hj e => ?_⟩
  · have := u.le i hi
    unfold joinF
    split
    · split <;> omega
    · split <;> omega
  · have hi' := u.idem i hi
    unfold joinF
    by_cases hlt : ρ a < ρ b
    · simp only [if_pos hlt]
      by_cases e : ρ i = ρ b
      · simp only [if_pos e, ia]; rw [if_neg (by omega)]
      · simp only [if_neg e, hi']
    · simp only [if_neg hlt]
      by_cases e : ρ i = ρ a
      · simp only [if_pos e, ib]
        split <;> rfl
      · simp only [if_neg e, hi']
  · have h4 := hval i hi
    have h5 := hval j hj
    rw [e] at h4
    exact h4.trans h5.symm
  · rcases h3 i j e with h | ⟨rfl, rfl⟩
    · unfold joinF; rw [u.cmp i j hi hj h]
    · unfold joinF
      by_cases hlt : ρ i < ρ j
      · simp only [if_pos hlt]; rw [if_neg (by omega)]; simp
      · simp only [if_neg hlt]; simp
theorem UF.same {n : Nat} {E E' : Nat → Nat → Prop} {ρ : Nat → Nat} (u : UF n E ρ) (h : ∀ i j, E i j ↔ E' i j) : UF n E' ρ :=
  ⟨u.le, u.idem, fun i j hi hj e => (u.snd i j hi hj e).mono fun i j => (h i j).1, fun i j hi hj e => u.cmp i j hi hj ((h i j).2 e)⟩

/-- The pairs of cells that act, of the first k cells. -/
def EdgT (nb : Nat → List Nat) (act : Nat → Bool) (k : Nat) (i j : Nat) : Prop := i < k ∧ j ∈ nb i ∧ act i = true ∧ act j = true
theorem ufTo_ok {n : Nat} {nb : Nat → List Nat} {act : Nat → Bool} (hnb : ∀ i, i < n → ∀ j ∈ nb i, j < n) : ∀ k, k ≤ n → UF n (EdgT nb act k) (ufTo nb act k)
  | 0, _ => ⟨fun _ _ => Nat.le_refl _, fun _ _ => rfl, fun i j _ _ e => by rw [show i = j from e]; exact .refl _, fun i j _ _ e => by have := e.1; omega⟩
  | k + 1, hk => by
    have ih := ufTo_ok (act := act) hnb k (by omega)
    have key : ∀ m, m ≤ (nb k).length → UF n (fun i j => EdgT nb act k i j ∨ (i = k ∧ j ∈ (nb k).take m ∧ act i = true ∧ act j = true)) (ufRow act k ((nb k).take m) (ufTo nb act k)) := by
      intro m
      induction m with
      | zero => intro _; simp only [List.take_zero, ufRow, List.foldl_nil]; exact ih.same fun i j => by simp
      | succ m ihm =>
        intro hm
        have u := ihm (by omega)
        have hmem : (nb k).getD m 0 ∈ nb k := getD_mem (by omega)
        have hj := hnb k (by omega) _ hmem
        have htk : ∀ j, j ∈ (nb k).take (m + 1) ↔ j ∈ (nb k).take m ∨ j = (nb k).getD m 0 := fun j => by
          rw [List.take_succ_eq_append_getElem (by omega), List.mem_append, List.mem_singleton, getD_at _ 0 (by omega)]
        rw [ufRow_take act k _ (by omega)]
        generalize (nb k).getD m 0 = y at *
        by_cases ha : (act k && act y) = true
        · rw [if_pos ha]
          simp only [Bool.and_eq_true] at ha
          refine u.join (by omega) hj (fun i j h => ?_) (.inr ⟨rfl, (htk y).2 (.inr rfl), ha.1, ha.2⟩) (fun i j h => ?_)
          · rcases h with h | ⟨h1, h2, h3, h4⟩
            · exact .inl h
            · exact .inr ⟨h1, (htk j).2 (.inl h2), h3, h4⟩
          · rcases h with h | ⟨h1, h2, h3, h4⟩
            · exact .inl (.inl h)
            · rcases (htk j).1 h2 with h | h
              · exact .inl (.inr ⟨h1, h, h3, h4⟩)
              · exact .inr ⟨h1, h⟩
        · rw [if_neg ha]
          refine u.same fun i j => ?_
          constructor
          · rintro (h | ⟨h1, h2, h3, h4⟩)
            · exact .inl h
            · exact .inr ⟨h1, (htk j).2 (.inl h2), h3, h4⟩
          · rintro (h | ⟨h1, h2, h3, h4⟩)
            · exact .inl h
            · rcases (htk j).1 h2 with h | h
              · exact .inr ⟨h1, h, h3, h4⟩
              · subst h; subst h1; exact absurd (by simp [h3, h4]) ha
    have u := key (nb k).length (Nat.le_refl _)
    rw [List.take_length] at u
    simp only [ufTo]
    refine u.same fun i j => ?_
    simp only [EdgT]
    constructor
    · rintro (⟨h1, h2⟩ | ⟨rfl, h2⟩)
      · exact ⟨by omega, h2⟩
      · exact ⟨by omega, h2⟩
    · rintro ⟨h1, h2⟩
      by_cases e : i = k
      · subst e; exact .inr ⟨rfl, h2⟩
      · exact .inl ⟨by omega, h2⟩
theorem ufRow_lt {n : Nat} {nb : Nat → List Nat} {act : Nat → Bool} (hnb : ∀ i, i < n → ∀ j ∈ nb i, j < n) {k m : Nat} (hk : k < n) (hm : m ≤ (nb k).length) : ∃ E, UF n E (ufRow act k ((nb k).take m) (ufTo nb act k)) := by
  induction m with
  | zero => exact ⟨_, by simp only [List.take_zero, ufRow, List.foldl_nil]; exact ufTo_ok (act := act) hnb k (by omega)⟩
  | succ m ih =>
    obtain ⟨E, u⟩ := ih (by omega)
    have hmem : (nb k).getD m 0 ∈ nb k := getD_mem (by omega)
    have hj := hnb k hk _ hmem
    rw [ufRow_take act k _ (by omega)]
    split
    · exact ⟨fun i j => E i j ∨ (i = k ∧ j = (nb k).getD m 0), u.join hk hj (fun i j h => .inl h) (.inr ⟨rfl, rfl⟩) fun i j h => h⟩
    · exact ⟨E, u⟩

/-! ## components -/
/-- The least cell of a cell's component. -/
def repF (nb : Nat → List Nat) (act : Nat → Bool) (n : Nat) : Nat → Nat := fun i => ufTo nb act n i
def Edg (nb : Nat → List Nat) (act : Nat → Bool) (n : Nat) (i j : Nat) : Prop := i < n ∧ j ∈ nb i ∧ act i = true ∧ act j = true
theorem rep_ok {n : Nat} {nb : Nat → List Nat} {act : Nat → Bool} (hnb : ∀ i, i < n → ∀ j ∈ nb i, j < n) : UF n (Edg nb act n) (repF nb act n) := ufTo_ok (act := act) hnb n (Nat.le_refl _)
theorem rep_act {n : Nat} {nb : Nat → List Nat} {act : Nat → Bool} (hnb : ∀ i, i < n → ∀ j ∈ nb i, j < n) {i : Nat} (hi : i < n) : act (repF nb act n i) = act i := by
  have u := rep_ok (act := act) hnb
  have h1 := u.snd i (repF nb act n i) hi (by have := u.le i hi; omega) (u.idem i hi).symm
  have := EqvC.closed (p := fun i => act i = true) (fun i j h => ⟨fun _ => h.2.2.2, fun _ => h.2.2.1⟩) h1
  cases e1 : act i <;> cases e2 : act (repF nb act n i) <;> simp_all
/-- The number of a cell's component: how many roots come ahead of its own. -/
def rootB (nb : Nat → List Nat) (act : Nat → Bool) (n : Nat) (r : Nat) : Prop := act r = true ∧ repF nb act n r = r
instance (nb : Nat → List Nat) (act : Nat → Bool) (n : Nat) : DecidablePred (rootB nb act n) := fun r => inferInstanceAs (Decidable (act r = true ∧ repF nb act n r = r))
def numOf (nb : Nat → List Nat) (act : Nat → Bool) (n : Nat) (i : Nat) : Int := if act i = true then (cntp (rootB nb act n) (repF nb act n i) : Nat) else -1
def compN (nb : Nat → List Nat) (act : Nat → Bool) (n : Nat) : Nat := cntp (rootB nb act n) n
theorem nodup_len {l : List Nat} {n : Nat} (hd : l.Nodup) (h : ∀ x ∈ l, x < n) : l.length ≤ n := by
  rw [← sumN_count h]
  have h1 : ∀ m, sumN (fun i => l.count i) m ≤ m := by
    intro m
    induction m with
    | zero => exact Nat.le_refl _
    | succ m ih =>
      have : l.count m ≤ 1 := List.nodup_iff_count.1 hd m
      simp only [sumN]; omega
  exact h1 n
end Go.SW

/- Contracts: sides, corners, shore and Euler number of a level, both sides. -/
namespace Go.SW
section
variable (R C : Nat) (h : Nat → Int) (lv : Int)
def landB (i : Nat) : Bool := decide (lv ≤ h i)
def sideP (i j : Nat) : Bool := decide (i < j) && (landB h lv i && landB h lv j)
def sidesTo : Nat → Nat
  | 0 => 0
  | k + 1 => sidesTo k + (nearN R C k).countP (sideP h lv k)
def quadP (r c : Nat) : Prop := lv ≤ h (r * C + c) ∧ lv ≤ h (r * C + (c + 1)) ∧ lv ≤ h ((r + 1) * C + c) ∧ lv ≤ h ((r + 1) * C + (c + 1))
instance (r : Nat) : DecidablePred (quadP C h lv r) := fun c => inferInstanceAs (Decidable (lv ≤ h (r * C + c) ∧ lv ≤ h (r * C + (c + 1)) ∧ lv ≤ h ((r + 1) * C + c) ∧ lv ≤ h ((r + 1) * C + (c + 1))))
def cornTo (k : Nat) : Nat := sumN (fun r => cntp (quadP C h lv r) (C - 1)) k
def shoreTo : Nat → Int
  | 0 => 0
  | k + 1 => shoreTo k + (if lv ≤ h k then (4 : Int) - (((nearN R C k).countP (landB h lv) : Nat) : Int) else (0 : Int))
theorem sidesTo_le : ∀ k, sidesTo R C h lv k ≤ 4 * k
  | 0 => Nat.zero_le _
  | k + 1 => by
    have h1 := sidesTo_le k
    have h2 : (nearN R C k).countP (sideP h lv k) ≤ (nearN R C k).length := List.countP_le_length
    have h3 := nearN_len R C k
    simp only [sidesTo]; omega
theorem shoreTo_le : ∀ k, 0 ≤ shoreTo R C h lv k ∧ shoreTo R C h lv k ≤ 4 * k
  | 0 => by simp [shoreTo]
  | k + 1 => by
    have h1 := shoreTo_le k
    have h2 : (nearN R C k).countP (landB h lv) ≤ (nearN R C k).length := List.countP_le_length
    have h3 := nearN_len R C k
    simp only [shoreTo]; split <;> omega
theorem cornTo_le : ∀ k, cornTo C h lv k ≤ C * k
  | 0 => Nat.zero_le _
  | k + 1 => by
    have h1 := cornTo_le k
    have h2 := cntp_le (quadP C h lv k) (C - 1)
    simp only [cornTo, sumN] at h1 ⊢
    rw [Nat.mul_add]; omega
end
def sidesOf (rows : List (List Int)) (lv : Int) : Int := if lvok rows lv = true then (sidesTo rows.length (rowLen rows) (hgt rows) lv (rows.length * rowLen rows) : Nat) else -1
def cornersOf (rows : List (List Int)) (lv : Int) : Int := if lvok rows lv = true then (cornTo (rowLen rows) (hgt rows) lv (rows.length - 1) : Nat) else -1
def shoreOf (rows : List (List Int)) (lv : Int) : Int := if lvok rows lv = true then shoreTo rows.length (rowLen rows) (hgt rows) lv (rows.length * rowLen rows) else -1
theorem lv_parts {rows : List (List Int)} {lv : Int} (h : lvok rows lv = true) : gvalid rows = true ∧ 0 ≤ lv ∧ lv ≤ 99 := by
  simp only [lvok, Bool.and_eq_true, decide_eq_true_eq] at h; exact h
end Go.SW
namespace Go.Proofs.YtcbmhjndbpafbaaGreatDoor
open Go.RowKit Go.SW

def eulerOf (rows : List (List Int)) (lv : Int) : Int := if lvok rows lv = true then cornersOf rows lv - sidesOf rows lv + landOf rows lv else -1000

theorem corner_le {R C r c : Nat} (h1 : r < R) (h2 : c < C) : r * C + c < R * C := by
  have := Nat.mul_le_mul_right C (show r + 1 ≤ R by omega)
  rw [Nat.add_mul, Nat.one_mul] at this; omega

end Go.Proofs.YtcbmhjndbpafbaaGreatDoor

/- Maths: neighbours by row and column, sums over pairs of neighbours, turned and mirrored grids. -/
namespace Go.SW
theorem rc_eq {C q c : Nat} (hc : c < C) : (q * C + c) / C = q ∧ (q * C + c) % C = c := div_row C q c hc
theorem rc_inj {C q c q' c' : Nat} (hc : c < C) (hc' : c' < C) (e : q * C + c = q' * C + c') : q = q' ∧ c = c' := by
  have h1 := rc_eq (q := q) hc
  have h2 := rc_eq (q := q') hc'
  rw [e] at h1
  exact ⟨h1.1.symm.trans h2.1, h1.2.symm.trans h2.2⟩
theorem rc_lt {R C i : Nat} (hi : i < R * C) : 0 < C ∧ i / C < R ∧ i % C < C ∧ i = i / C * C + i % C := by
  have hC : 0 < C := Nat.pos_of_ne_zero fun e => by subst e; simp at hi
  exact ⟨hC, Nat.div_lt_of_lt_mul (by rw [Nat.mul_comm]; exact hi), Nat.mod_lt _ hC, by rw [Nat.mul_comm]; exact (Nat.div_add_mod i C).symm⟩
theorem corner_ltN {R C r c : Nat} (h1 : r < R) (h2 : c < C) : r * C + c < R * C := by
  have := Nat.mul_le_mul_right C (show r + 1 ≤ R by omega)
  rw [Nat.add_mul, Nat.one_mul] at this; omega
def AdjC (q c q' c' : Nat) : Prop := (q = q' ∧ (c + 1 = c' ∨ c' + 1 = c)) ∨ (c = c' ∧ (q + 1 = q' ∨ q' + 1 = q))
theorem near_rc {R C q c q' c' : Nat} (hc : c < C) (hq' : q' < R) (hc' : c' < C) : q' * C + c' ∈ nearN R C (q * C + c) ↔ AdjC q c q' c' := by
  rw [nearN_mem, (rc_eq (q := q) hc).2, AdjC]
  have hs : (q + 1) * C = q * C + C := by rw [Nat.add_mul, Nat.one_mul]
  have hs' : (q' + 1) * C = q' * C + C := by rw [Nat.add_mul, Nat.one_mul]
  constructor
  · rintro (⟨h1, h2⟩ | ⟨h1, h2⟩ | ⟨h1, h2⟩ | ⟨h1, h2⟩)
    · obtain ⟨e1, e2⟩ := rc_inj (q := q' + 1) (q' := q) hc' hc (by omega)
      exact .inr ⟨e2.symm, .inr e1⟩
    · obtain ⟨e1, e2⟩ := rc_inj (q := q') (q' := q) hc' (by omega : c + 1 < C) (by omega)
      exact .inl ⟨e1.symm, .inl e2.symm⟩
    · obtain ⟨e1, e2⟩ := rc_inj (q := q') (q' := q + 1) hc' hc (by omega)
      exact .inr ⟨e2.symm, .inl e1.symm⟩
    · obtain ⟨e1, e2⟩ := rc_inj (q := q') (q' := q) hc' (by omega : c - 1 < C) (by omega)
      exact .inl ⟨e1.symm, .inr (by omega)⟩
  · rintro (⟨rfl, (rfl | rfl)⟩ | ⟨rfl, (rfl | rfl)⟩)
    · exact .inr (.inl ⟨hc', by omega⟩)
    · exact .inr (.inr (.inr ⟨by omega, by omega⟩))
    · refine .inr (.inr (.inl ⟨?_, by omega⟩))
      have : (q + 1) * C + c < R * C := corner_ltN hq' hc
      omega
    · exact .inl ⟨by omega, by omega⟩
theorem near_iff {R C i j : Nat} (hi : i < R * C) (hj : j < R * C) : j ∈ nearN R C i ↔ AdjC (i / C) (i % C) (j / C) (j % C) := by
  obtain ⟨_, h1, h2, h3⟩ := rc_lt hi
  obtain ⟨_, h4, h5, h6⟩ := rc_lt hj
  have := near_rc (q := i / C) h2 h4 h5
  rw [← h3, ← h6] at this
  exact this
theorem near_sym {R C i j : Nat} (hi : i < R * C) (hj : j < R * C) : j ∈ nearN R C i ↔ i ∈ nearN R C j := by
  rw [near_iff hi hj, near_iff hj hi, AdjC, AdjC]; omega
theorem near_ne {R C i : Nat} (hi : i < R * C) : i ∉ nearN R C i := by
  rw [near_iff hi hi, AdjC]; omega
theorem nearN_nodup {R C : Nat} (i : Nat) (hC : 0 < C) : (nearN R C i).Nodup := by
  have h0 : i % C ≤ i := Nat.mod_le _ _
  have h5 : i % C < C := Nat.mod_lt _ hC
  unfold nearN
  by_cases h1 : C ≤ i <;> by_cases h2 : i % C + 1 < C <;> by_cases h3 : i + C < R * C <;> by_cases h4 : 0 < i % C <;> simp [h1, h2, h3, h4] <;> omega

/-! ## sums -/
theorem countP_sum {l : List Nat} {n : Nat} (hd : l.Nodup) (hl : ∀ x ∈ l, x < n) (p : Nat → Bool) : l.countP p = sumN (fun j => if j ∈ l ∧ p j = true then 1 else 0) n := by
  rw [List.countP_eq_length_filter, ← sumN_count (l := l.filter p) (n := n) fun x hx => hl x (List.mem_filter.1 hx).1]
  refine sumN_congr fun j _ => ?_
  have h1 : (l.filter p).count j ≤ 1 := List.nodup_iff_count.1 (hd.filter p) j
  by_cases h : j ∈ l ∧ p j = true
  · rw [if_pos h]
    have : 0 < (l.filter p).count j := List.count_pos_iff.2 (List.mem_filter.2 h)
    omega
  · rw [if_neg h]
    exact List.count_eq_zero.2 fun hm => h (List.mem_filter.1 hm)
theorem sumN_perm {n m : Nat} (σ τ : Nat → Nat) (h1 : ∀ i, i < n → σ i < m ∧ τ (σ i) = i) (h2 : ∀ j, j < m → τ j < n ∧ σ (τ j) = j) (f : Nat → Nat) : sumN f m = sumN (fun i => f (σ i)) n := by
  have e1 : sumN f m = sumN (fun j => sumN (fun i => if i = τ j then f j else 0) n) m := sumN_congr fun j hj => (sumN_single (h2 j hj).1 (f j)).symm
  have e2 : sumN (fun i => f (σ i)) n = sumN (fun i => sumN (fun j => if j = σ i then f (σ i) else 0) m) n := sumN_congr fun i hi => (sumN_single (h1 i hi).1 (f (σ i))).symm
  rw [e1, e2, sumN_swap]
  refine sumN_congr fun i hi => sumN_congr fun j hj => ?_
  by_cases h : i = τ j
  · subst h; rw [if_pos rfl, if_pos (h2 j hj).2.symm, (h2 j hj).2]
  · rw [if_neg h, if_neg fun e => h (by subst e; exact (h1 i hi).2.symm)]
theorem cntp_perm {n m : Nat} (σ τ : Nat → Nat) (h1 : ∀ i, i < n → σ i < m ∧ τ (σ i) = i) (h2 : ∀ j, j < m → τ j < n ∧ σ (τ j) = j) (p q : Nat → Prop) [DecidablePred p] [DecidablePred q] (h : ∀ i, i < n → (q i ↔ p (σ i))) : cntp q n = cntp p m := by
  rw [← sumN_cntp, ← sumN_cntp, sumN_perm σ τ h1 h2]
  exact sumN_congr fun i hi => by simp only [h i hi]
/-- As many: what p holds of goes one to one into what q holds of. -/
theorem cntp_inj {n m : Nat} {p q : Nat → Prop} [DecidablePred p] [DecidablePred q] (f : Nat → Nat) (h1 : ∀ i, i < n → p i → f i < m ∧ q (f i)) (h2 : ∀ i j, i < n → j < n → p i → p j → f i = f j → i = j) : cntp p n ≤ cntp q m := by
  rw [← sumN_cntp p, ← sumN_cntp q]
  have e1 : sumN (fun i => if p i then 1 else 0) n = sumN (fun i => sumN (fun j => if j = f i then (if p i then 1 else 0) else 0) m) n := sumN_congr fun i hi => by
    by_cases hp : p i
    · exact (sumN_single (h1 i hi hp).1 _).symm
    · simp only [if_neg hp, ite_self]; exact (sumN_zero m).symm
  rw [e1, sumN_swap]
  refine sumN_le fun j hj => ?_
  have hle : ∀ k, k ≤ n → sumN (fun i => if j = f i then (if p i then 1 else 0) else 0) k ≤ if q j then 1 else 0 := by
    intro k
    induction k with
    | zero => intro _; exact Nat.zero_le _
    | succ k ih =>
      intro hk
      simp only [sumN]
      by_cases hc : j = f k ∧ p k
      · have hz : sumN (fun i => if j = f i then (if p i then 1 else 0) else 0) k = 0 := by
          refine (sumN_congr (g := fun _ => 0) fun i hi => ?_).trans (sumN_zero k)
          by_cases hi' : j = f i ∧ p i
          · exact absurd (h2 i k (by omega) (by omega) hi'.2 hc.2 (hi'.1.symm.trans hc.1)) (by omega)
          · by_cases ha : j = f i
            · rw [if_pos ha, if_neg fun hp => hi' ⟨ha, hp⟩]
            · rw [if_neg ha]
        rw [hz, if_pos hc.1, if_pos hc.2, if_pos (hc.1 ▸ (h1 k (by omega) hc.2).2)]
        exact Nat.le_refl _
      · have : (if j = f k then (if p k then 1 else 0) else 0) = 0 := by
          by_cases ha : j = f k
          · rw [if_pos ha, if_neg fun hp => hc ⟨ha, hp⟩]
          · rw [if_neg ha]
        rw [this]
        exact ih (by omega)
  exact hle n (Nat.le_refl _)
theorem sumN_mul (c : Nat) (f : Nat → Nat) : ∀ n, sumN (fun i => c * f i) n = c * sumN f n
  | 0 => rfl
  | n + 1 => by simp only [sumN, sumN_mul c f n, Nat.mul_add]

/-! ## pairs of neighbours that both are P -/
section
variable (R C : Nat)
def pairN (P : Nat → Bool) : Nat := sumN (fun i => sumN (fun j => if j ∈ nearN R C i ∧ P i = true ∧ P j = true then 1 else 0) (R * C)) (R * C)
variable {R C}
theorem sidesTo_sum {h : Nat → Int} {lv : Int} : ∀ k, sidesTo R C h lv k = sumN (fun i => (nearN R C i).countP (sideP h lv i)) k
  | 0 => rfl
  | k + 1 => by simp only [sidesTo, sumN, sidesTo_sum k]
theorem sides_pair {h : Nat → Int} {lv : Int} (hC : 0 < C) : 2 * sidesTo R C h lv (R * C) = pairN R C (landB h lv) := by
  have e1 : sidesTo R C h lv (R * C) = sumN (fun i => sumN (fun j => if j ∈ nearN R C i ∧ sideP h lv i j = true then 1 else 0) (R * C)) (R * C) := by
    rw [sidesTo_sum]
    exact sumN_congr fun i hi => countP_sum (nearN_nodup i hC) (nearN_lt hi) _
  have e2 : sidesTo R C h lv (R * C) = sumN (fun i => sumN (fun j => if i ∈ nearN R C j ∧ sideP h lv j i = true then 1 else 0) (R * C)) (R * C) := by
    rw [e1, sumN_swap]
  have e3 : pairN R C (landB h lv) = sumN (fun i => sumN (fun j => if j ∈ nearN R C i ∧ sideP h lv i j = true then 1 else 0) (R * C) + sumN (fun j => if i ∈ nearN R C j ∧ sideP h lv j i = true then 1 else 0) (R * C)) (R * C) := by
    refine sumN_congr fun i hi => ?_
    rw [← sumN_add]
    refine sumN_congr fun j hj => ?_
    simp only [sideP, Bool.and_eq_true, decide_eq_true_eq, ← near_sym hi hj]
    by_cases ha : j ∈ nearN R C i
    · have hne : i ≠ j := fun e => by subst e; exact near_ne hi ha
      by_cases h1 : landB h lv i = true <;> by_cases h2 : landB h lv j = true <;> by_cases h3 : i < j <;> simp [ha, h1, h2, h3] <;> omega
    · simp [ha]
  rw [e3, sumN_add]
  omega
theorem pairN_mono {P Q : Nat → Bool} (h : ∀ i, P i = true → Q i = true) : pairN R C P ≤ pairN R C Q := by
  refine sumN_le fun i _ => sumN_le fun j _ => ?_
  by_cases hp : j ∈ nearN R C i ∧ P i = true ∧ P j = true
  · rw [if_pos hp, if_pos ⟨hp.1, h _ hp.2.1, h _ hp.2.2⟩]; exact Nat.le_refl _
  · rw [if_neg hp]; exact Nat.zero_le _
theorem pairN_row (hC : 0 < C) {P : Nat → Bool} {i : Nat} (hi : i < R * C) : sumN (fun j => if j ∈ nearN R C i ∧ P i = true ∧ P j = true then 1 else 0) (R * C) = if P i = true then (nearN R C i).countP P else 0 := by
  by_cases hp : P i = true
  · rw [if_pos hp, countP_sum (nearN_nodup i hC) (nearN_lt hi)]
    exact sumN_congr fun j _ => by simp [hp]
  · rw [if_neg hp]
    exact (sumN_congr (g := fun _ => 0) fun j _ => by simp [hp]).trans (sumN_zero _)
theorem pairN_le (hC : 0 < C) {P : Nat → Bool} : pairN R C P ≤ 4 * cntp (fun i => P i = true) (R * C) := by
  rw [← sumN_cntp, ← sumN_mul]
  refine sumN_le fun i hi => ?_
  rw [pairN_row hC hi]
  by_cases hp : P i = true
  · rw [if_pos hp, if_pos hp]
    have h2 : (nearN R C i).countP P ≤ (nearN R C i).length := List.countP_le_length
    have h3 := nearN_len R C i
    omega
  · rw [if_neg hp, if_neg hp]; exact Nat.le_refl _
theorem shoreTo_sum {h : Nat → Int} {lv : Int} : ∀ k, k ≤ R * C → shoreTo R C h lv k = 4 * (cntp (fun i => lv ≤ h i) k : Nat) - (sumN (fun i => if landB h lv i = true then (nearN R C i).countP (landB h lv) else 0) k : Nat)
  | 0, _ => rfl
  | k + 1, hk => by
    have ih := shoreTo_sum (h := h) (lv := lv) k (by omega)
    simp only [shoreTo, cntp, sumN, ih, landB, decide_eq_true_eq]
    by_cases hl : lv ≤ h k
    · simp only [if_pos hl]
      simp only [Int.natCast_add, landB]
      omega
    · simp only [if_neg hl]
      omega
theorem shore_sides {h : Nat → Int} {lv : Int} (hC : 0 < C) : shoreTo R C h lv (R * C) = 4 * (cntp (fun i => lv ≤ h i) (R * C) : Nat) - 2 * (sidesTo R C h lv (R * C) : Nat) := by
  rw [shoreTo_sum _ (Nat.le_refl _)]
  have e : sumN (fun i => if landB h lv i = true then (nearN R C i).countP (landB h lv) else 0) (R * C) = pairN R C (landB h lv) := sumN_congr fun i hi => (pairN_row hC hi).symm
  have := sides_pair (R := R) (h := h) (lv := lv) hC
  rw [e]; omega
end

/-! ## moved grids -/
structure Sym (R C R' C' : Nat) (σ τ : Nat → Nat) : Prop where
  f : ∀ i, i < R' * C' → σ i < R * C ∧ τ (σ i) = i
  b : ∀ j, j < R * C → τ j < R' * C' ∧ σ (τ j) = j
  adj : ∀ i j, i < R' * C' → j < R' * C' → (j ∈ nearN R' C' i ↔ σ j ∈ nearN R C (σ i))
theorem pairN_sym {R C R' C' : Nat} {σ τ : Nat → Nat} (s : Sym R C R' C' σ τ) {P Q : Nat → Bool} (h : ∀ i, i < R' * C' → Q i = P (σ i)) : pairN R' C' Q = pairN R C P := by
  unfold pairN
  rw [sumN_perm σ τ s.f s.b]
  refine sumN_congr fun i hi => ?_
  rw [sumN_perm σ τ s.f s.b (fun j => if j ∈ nearN R C (σ i) ∧ P (σ i) = true ∧ P j = true then 1 else 0)]
  refine sumN_congr fun j hj => ?_
  simp only [s.adj i j hi hj, h i hi, h j hj]
def turnS (R C i : Nat) : Nat := (R - 1 - i % R) * C + i / R
def turnT (R C j : Nat) : Nat := j % C * R + (R - 1 - j / C)
def mirS (C i : Nat) : Nat := i / C * C + (C - 1 - i % C)
theorem rc_ex {R C i : Nat} (hi : i < R * C) : ∃ q c, q < R ∧ c < C ∧ i = q * C + c := ⟨i / C, i % C, (rc_lt hi).2⟩
theorem turnS_rc {R C q c : Nat} (hc : c < R) : turnS R C (q * R + c) = (R - 1 - c) * C + q := by simp only [turnS, (rc_eq hc).1, (rc_eq hc).2]
theorem turnT_rc {R C q c : Nat} (hc : c < C) : turnT R C (q * C + c) = c * R + (R - 1 - q) := by simp only [turnT, (rc_eq hc).1, (rc_eq hc).2]
theorem mirS_rc {C q c : Nat} (hc : c < C) : mirS C (q * C + c) = q * C + (C - 1 - c) := by simp only [mirS, (rc_eq hc).1, (rc_eq hc).2]
theorem turn_sym (R C : Nat) : Sym R C C R (turnS R C) (turnT R C) := by
  refine ⟨fun i hi => ?_, fun j hj => ?_, fun i j hi hj => ?_⟩
  · obtain ⟨q, c, hq, hc, rfl⟩ := rc_ex hi
    rw [turnS_rc hc]
    refine ⟨corner_ltN (by omega) hq, ?_⟩
    rw [turnT_rc hq, show R - 1 - (R - 1 - c) = c by omega]
  · obtain ⟨q, c, hq, hc, rfl⟩ := rc_ex hj
    rw [turnT_rc hc]
    refine ⟨corner_ltN hc (by omega), ?_⟩
    rw [turnS_rc (by omega), show R - 1 - (R - 1 - q) = q by omega]
  · obtain ⟨q, c, hq, hc, rfl⟩ := rc_ex hi
    obtain ⟨q', c', hq', hc', rfl⟩ := rc_ex hj
    rw [turnS_rc hc, turnS_rc hc', near_rc hc hq' hc', near_rc hq (by omega) hq', AdjC, AdjC]
    omega
theorem mir_sym (R C : Nat) : Sym R C R C (mirS C) (mirS C) := by
  have hf : ∀ i, i < R * C → mirS C i < R * C ∧ mirS C (mirS C i) = i := fun i hi => by
    obtain ⟨q, c, hq, hc, rfl⟩ := rc_ex hi
    rw [mirS_rc hc]
    refine ⟨corner_ltN hq (by omega), ?_⟩
    rw [mirS_rc (by omega), show C - 1 - (C - 1 - c) = c by omega]
  refine ⟨hf, hf, fun i j hi hj => ?_⟩
  obtain ⟨q, c, hq, hc, rfl⟩ := rc_ex hi
  obtain ⟨q', c', hq', hc', rfl⟩ := rc_ex hj
  rw [mirS_rc hc, mirS_rc hc', near_rc hc hq' hc', near_rc (by omega) hq' (by omega), AdjC, AdjC]
  omega
theorem sides_sym {R C R' C' : Nat} {σ τ : Nat → Nat} (s : Sym R C R' C' σ τ) (hC : 0 < C) (hC' : 0 < C') {h h' : Nat → Int} {lv : Int} (e : ∀ i, i < R' * C' → h' i = h (σ i)) : sidesTo R' C' h' lv (R' * C') = sidesTo R C h lv (R * C) := by
  have h1 := sides_pair (R := R) (h := h) (lv := lv) hC
  have h2 := sides_pair (R := R') (h := h') (lv := lv) hC'
  have h3 := pairN_sym s (P := landB h lv) (Q := landB h' lv) fun i hi => by simp only [landB, e i hi]
  omega
theorem land_sym {R C R' C' : Nat} {σ τ : Nat → Nat} (s : Sym R C R' C' σ τ) {h h' : Nat → Int} {lv : Int} (e : ∀ i, i < R' * C' → h' i = h (σ i)) : cntp (fun i => lv ≤ h' i) (R' * C') = cntp (fun i => lv ≤ h i) (R * C) :=
  cntp_perm σ τ s.f s.b _ _ fun i hi => by rw [e i hi]
theorem shore_sym {R C R' C' : Nat} {σ τ : Nat → Nat} (s : Sym R C R' C' σ τ) (hC : 0 < C) (hC' : 0 < C') {h h' : Nat → Int} {lv : Int} (e : ∀ i, i < R' * C' → h' i = h (σ i)) : shoreTo R' C' h' lv (R' * C') = shoreTo R C h lv (R * C) := by
  rw [shore_sides hC, shore_sides hC', sides_sym s hC hC' e, land_sym s e]
end Go.SW

/- Maths: a component found cell by cell, from its least cell on. -/
namespace Go.SW
section
variable (nb : Nat → List Nat) (act : Nat → Bool) (n : Nat)
/-- What has been numbered when the cells ahead of i have been looked at. -/
def numTo (i j : Nat) : Int := if act j = true ∧ repF nb act n j < i then numOf nb act n j else -1
/-- Cells of the component of i. -/
structure Bfs (i : Nat) (l : List Nat) : Prop where
  nd : l.Nodup
  mem : ∀ x ∈ l, x < n ∧ act x = true ∧ repF nb act n x = i
  hd : i ∈ l
def numIn (i : Nat) (l : List Nat) (j : Nat) : Int := if j ∈ l then (cntp (rootB nb act n) i : Nat) else numTo nb act n i j
variable {nb act n}
theorem numTo_neg (i j : Nat) : numTo nb act n i j < 0 ↔ ¬ (act j = true ∧ repF nb act n j < i) := by
  simp only [numTo]
  by_cases h : act j = true ∧ repF nb act n j < i
  · rw [if_pos h]; simp only [numOf, if_pos h.1]; exact ⟨fun h' => by omega, fun h' => absurd h h'⟩
  · rw [if_neg h]; exact ⟨fun _ => h, fun _ => by omega⟩
theorem numTo_zero (j : Nat) : numTo nb act n 0 j = -1 := by simp [numTo]
theorem numTo_all (hnb : ∀ i, i < n → ∀ j ∈ nb i, j < n) {j : Nat} (hj : j < n) : numTo nb act n n j = numOf nb act n j := by
  have := (rep_ok (act := act) hnb).le j hj
  simp only [numTo, numOf]
  by_cases h : act j = true
  · rw [if_pos ⟨h, by omega⟩]
  · rw [if_neg fun h' => h h'.1, if_neg h]
theorem numTo_skip (hnb : ∀ i, i < n → ∀ j ∈ nb i, j < n) {i : Nat} (hi : i < n) (h : ¬ (act i = true ∧ repF nb act n i = i)) {j : Nat} (hj : j < n) : numTo nb act n (i + 1) j = numTo nb act n i j := by
  have u := rep_ok (act := act) hnb
  simp only [numTo]
  by_cases ha : act j = true
  · have hne : repF nb act n j ≠ i := fun e => h (by
      have h1 := rep_act (act := act) hnb hj
      have h2 := u.idem j hj
      rw [e] at h1 h2
      exact ⟨by rw [h1]; exact ha, h2⟩)
    by_cases hl : repF nb act n j < i
    · rw [if_pos ⟨ha, by omega⟩, if_pos ⟨ha, hl⟩]
    · rw [if_neg fun h' => by omega, if_neg fun h' => hl h'.2]
  · rw [if_neg fun h' => ha h'.1, if_neg fun h' => ha h'.1]
theorem Bfs.one {i : Nat} (hi : i < n) (h : act i = true ∧ repF nb act n i = i) : Bfs nb act n i [i] :=
  ⟨by simp, fun x hx => by rw [List.mem_singleton] at hx; subst hx; exact ⟨hi, h⟩, by simp⟩
theorem Bfs.near (hnb : ∀ i, i < n → ∀ j ∈ nb i, j < n) {i : Nat} {l : List Nat} (b : Bfs nb act n i l) {x j : Nat} (hx : x ∈ l) (hj : j ∈ nb x) (ha : act j = true) : j < n ∧ repF nb act n j = i := by
  obtain ⟨h1, h2, h3⟩ := b.mem x hx
  have hjn := hnb x h1 j hj
  exact ⟨hjn, by rw [← h3]; exact ((rep_ok (act := act) hnb).cmp x j h1 hjn ⟨h1, hj, h2, ha⟩).symm⟩
theorem Bfs.push (hnb : ∀ i, i < n → ∀ j ∈ nb i, j < n) {i : Nat} {l : List Nat} (b : Bfs nb act n i l) {x j : Nat} (hx : x ∈ l) (hj : j ∈ nb x) (ha : act j = true) (hn : j ∉ l) : Bfs nb act n i (l ++ [j]) := by
  obtain ⟨h1, h2⟩ := b.near hnb hx hj ha
  refine ⟨List.nodup_append.2 ⟨b.nd, by simp, fun a ha' c hc e => ?_⟩, fun y hy => ?_, by simp [b.hd]⟩
  · rw [List.mem_singleton] at hc; subst hc; subst e; exact hn ha'
  · rcases List.mem_append.1 hy with h | h
    · exact b.mem y h
    · rw [List.mem_singleton] at h; subst h; exact ⟨h1, ha, h2⟩
theorem Bfs.len {i : Nat} {l : List Nat} (b : Bfs nb act n i l) : l.length ≤ n := nodup_len b.nd fun x hx => (b.mem x hx).1
theorem numIn_neg (hnb : ∀ i, i < n → ∀ j ∈ nb i, j < n) {i : Nat} {l : List Nat} (b : Bfs nb act n i l) {x j : Nat} (hx : x ∈ l) (hj : j ∈ nb x) (ha : act j = true) : numIn nb act n i l j < 0 ↔ j ∉ l := by
  obtain ⟨h1, h2⟩ := b.near hnb hx hj ha
  simp only [numIn]
  by_cases h : j ∈ l
  · rw [if_pos h]; exact ⟨fun h' => by omega, fun h' => absurd h h'⟩
  · rw [if_neg h, numTo_neg]; exact ⟨fun _ => h, fun _ => by omega⟩
theorem Bfs.all (hnb : ∀ i, i < n → ∀ j ∈ nb i, j < n) (hsym : ∀ i j, i < n → j < n → j ∈ nb i → i ∈ nb j) {i : Nat} {l : List Nat} (b : Bfs nb act n i l) (cl : ∀ x ∈ l, ∀ j ∈ nb x, act j = true → j ∈ l) {j : Nat} (hj : j < n) (hr : repF nb act n j = i) : j ∈ l := by
  have u := rep_ok (act := act) hnb
  obtain ⟨h1, h2, h3⟩ := b.mem i b.hd
  have e := u.snd i j h1 hj (by rw [h3, hr])
  exact (EqvC.closed (p := fun x => x ∈ l) (fun a c h => ⟨fun ha => cl a ha c h.2.1 h.2.2.2, fun hc => cl c hc a (hsym a c h.1 (hnb a h.1 c h.2.1) h.2.1) h.2.2.1⟩) e).1 b.hd
theorem numIn_end (hnb : ∀ i, i < n → ∀ j ∈ nb i, j < n) (hsym : ∀ i j, i < n → j < n → j ∈ nb i → i ∈ nb j) {i : Nat} {l : List Nat} (b : Bfs nb act n i l) (cl : ∀ x ∈ l, ∀ j ∈ nb x, act j = true → j ∈ l) {j : Nat} (hj : j < n) : numIn nb act n i l j = numTo nb act n (i + 1) j := by
  simp only [numIn, numTo]
  by_cases h : j ∈ l
  · obtain ⟨h1, h2, h3⟩ := b.mem j h
    rw [if_pos h, if_pos ⟨h2, by omega⟩]
    simp only [numOf, if_pos h2, h3]
  · have hne : repF nb act n j ≠ i := fun e => h (b.all hnb hsym cl hj e)
    rw [if_neg h]
    by_cases ha : act j = true ∧ repF nb act n j < i
    · rw [if_pos ha, if_pos ⟨ha.1, by omega⟩]
    · rw [if_neg ha, if_neg fun h' => ha ⟨h'.1, by omega⟩]
theorem root_skip {i : Nat} (h : ¬ (act i = true ∧ repF nb act n i = i)) : cntp (rootB nb act n) (i + 1) = cntp (rootB nb act n) i := by
  simp only [cntp]
  rw [if_neg (show ¬ rootB nb act n i from h), Nat.add_zero]
theorem root_take {i : Nat} (h : act i = true ∧ repF nb act n i = i) : cntp (rootB nb act n) (i + 1) = cntp (rootB nb act n) i + 1 := by
  simp only [cntp]
  rw [if_pos (show rootB nb act n i from h)]
end
/-- What lies around the first k of a list lies in the list. -/
def ClosedTo (nb : Nat → List Nat) (act : Nat → Bool) (l : List Nat) (k : Nat) : Prop := ∀ k' x, k' < k → l[k']? = some x → ∀ j ∈ nb x, act j = true → j ∈ l
theorem ClosedTo.push {nb : Nat → List Nat} {act : Nat → Bool} {l : List Nat} {k : Nat} (h : ClosedTo nb act l k) (hk : k ≤ l.length) (j : Nat) : ClosedTo nb act (l ++ [j]) k := fun k' x h1 h2 y hy ha => by
  rw [List.getElem?_append_left (by omega)] at h2
  exact List.mem_append_left _ (h k' x h1 h2 y hy ha)
theorem ClosedTo.all {nb : Nat → List Nat} {act : Nat → Bool} {l : List Nat} (h : ClosedTo nb act l l.length) : ∀ x ∈ l, ∀ j ∈ nb x, act j = true → j ∈ l := fun x hx => by
  obtain ⟨k, hk, e⟩ := List.getElem_of_mem hx
  exact h k x hk (by rw [List.getElem?_eq_getElem hk, e])
theorem ClosedTo.step {nb : Nat → List Nat} {act : Nat → Bool} {l : List Nat} {k x : Nat} (h : ClosedTo nb act l k) (hx : l[k]? = some x) (hn : ∀ j ∈ nb x, act j = true → j ∈ l) : ClosedTo nb act l (k + 1) := fun k' y h1 h2 => by
  by_cases e : k' = k
  · subst e; rw [hx] at h2; cases h2; exact hn
  · exact h k' y (by omega) h2
end Go.SW

/- Maths: how many components, how many cells in each; moved grids have as many. -/
namespace Go.SW
theorem cntp_mono (p : Nat → Prop) [DecidablePred p] {a b : Nat} (h : a ≤ b) : cntp p a ≤ cntp p b := by
  induction b with
  | zero => obtain rfl : a = 0 := by omega
            exact Nat.le_refl _
  | succ b ih =>
    by_cases e : a = b + 1
    · subst e; exact Nat.le_refl _
    · have := ih (by omega); simp only [cntp]; omega
theorem cntp_at (p : Nat → Prop) [DecidablePred p] : ∀ {n k : Nat}, k < cntp p n → ∃ r, r < n ∧ p r ∧ cntp p r = k
  | 0, k, h => by simp [cntp] at h
  | n + 1, k, h => by
    by_cases hk : k < cntp p n
    · obtain ⟨r, h1, h2, h3⟩ := cntp_at p hk
      exact ⟨r, by omega, h2, h3⟩
    · simp only [cntp] at h
      by_cases hp : p n
      · rw [if_pos hp] at h; exact ⟨n, by omega, hp, by omega⟩
      · rw [if_neg hp] at h; omega
theorem cntp_lt (p : Nat → Prop) [DecidablePred p] {n r : Nat} (hr : r < n) (hp : p r) : cntp p r < cntp p n := by
  have h1 := cntp_mono p (show r + 1 ≤ n by omega)
  simp only [cntp, if_pos hp] at h1; omega
theorem cntp_posI (p : Nat → Prop) [DecidablePred p] {n : Nat} : 0 < cntp p n ↔ ∃ r, r < n ∧ p r := by
  constructor
  · intro h; obtain ⟨r, h1, h2, _⟩ := cntp_at p h; exact ⟨r, h1, h2⟩
  · rintro ⟨r, h1, h2⟩; have := cntp_lt p h1 h2; omega
theorem count_rangeI (f : Nat → Int) (x : Int) : ∀ n, ((List.range n).map f).count x = cntp (fun i => f i = x) n
  | 0 => rfl
  | n + 1 => by
    rw [List.range_succ, List.map_append, List.count_append, count_rangeI f x n]
    simp only [cntp, List.map_cons, List.map_nil, List.count_cons, List.count_nil, beq_iff_eq]
    by_cases h : f n = x <;> simp [h]
section
variable {nb : Nat → List Nat} {act : Nat → Bool} {n : Nat}
theorem rep_eqv (hnb : ∀ i, i < n → ∀ j ∈ nb i, j < n) {i j : Nat} (e : EqvC (Edg nb act n) i j) : repF nb act n i = repF nb act n j := by
  have u := rep_ok (act := act) hnb
  exact ((EqvC.closed (p := fun x => repF nb act n x = repF nb act n j) (fun a b h => by rw [u.cmp a b h.1 (hnb a h.1 b h.2.1) h]) e).2 rfl)
theorem rep_root (hnb : ∀ i, i < n → ∀ j ∈ nb i, j < n) {i : Nat} (hi : i < n) (ha : act i = true) : repF nb act n i < n ∧ rootB nb act n (repF nb act n i) := by
  have u := rep_ok (act := act) hnb
  have := u.le i hi
  exact ⟨by omega, by rw [rep_act (act := act) hnb hi]; exact ha, u.idem i hi⟩
theorem numOf_lt (hnb : ∀ i, i < n → ∀ j ∈ nb i, j < n) {i : Nat} (hi : i < n) (ha : act i = true) : 0 ≤ numOf nb act n i ∧ numOf nb act n i < (compN nb act n : Nat) := by
  obtain ⟨h1, h2⟩ := rep_root hnb hi ha
  have := cntp_lt (rootB nb act n) h1 h2
  simp only [numOf, if_pos ha, compN]; omega
theorem numOf_none {i : Nat} (h : act i = false) : numOf nb act n i = -1 := by simp [numOf, h]
theorem numOf_ge {i : Nat} (h : 0 ≤ numOf nb act n i) : act i = true := by
  cases e : act i with
  | true => rfl
  | false => rw [numOf_none e] at h; omega
theorem numOf_at {k : Nat} (hk : k < compN nb act n) : ∃ r, r < n ∧ act r = true ∧ numOf nb act n r = (k : Int) := by
  obtain ⟨r, h1, ⟨h2, h3⟩, h4⟩ := cntp_at _ hk
  exact ⟨r, h1, h2, by simp only [numOf, if_pos h2, h3, h4]⟩
/-- Cells of a component, by its number. -/
def areaN (nb : Nat → List Nat) (act : Nat → Bool) (n : Nat) (k : Int) : Nat := cntp (fun i => numOf nb act n i = k) n
theorem area_pos {k : Int} (h0 : 0 ≤ k) (hnb : ∀ i, i < n → ∀ j ∈ nb i, j < n) : 0 < areaN nb act n k ↔ k < (compN nb act n : Nat) := by
  rw [areaN, cntp_posI]
  constructor
  · rintro ⟨r, h1, h2⟩
    have ha : act r = true := numOf_ge (by rw [h2]; exact h0)
    have := (numOf_lt hnb h1 ha).2
    omega
  · intro h
    obtain ⟨r, h1, _, h3⟩ := numOf_at (nb := nb) (act := act) (n := n) (k := k.toNat) (by omega)
    exact ⟨r, h1, by rw [h3]; omega⟩
theorem area_sum (hnb : ∀ i, i < n → ∀ j ∈ nb i, j < n) : sumN (fun k => areaN nb act n (k : Int)) (compN nb act n) = cntp (fun i => act i = true) n := by
  have e : sumN (fun k => areaN nb act n (k : Int)) (compN nb act n) = sumN (fun k => sumN (fun i => if numOf nb act n i = (k : Int) then 1 else 0) n) (compN nb act n) := sumN_congr fun k _ => (sumN_cntp _ n).symm
  rw [e, sumN_swap, ← sumN_cntp]
  refine sumN_congr fun i hi => ?_
  by_cases ha : act i = true
  · rw [if_pos ha]
    obtain ⟨h1, h2⟩ := numOf_lt hnb hi ha
    refine (sumN_congr fun k _ => ?_).trans (sumN_single (n := compN nb act n) (a := (numOf nb act n i).toNat) (by omega) 1)
    by_cases hk : k = (numOf nb act n i).toNat
    · rw [if_pos hk, if_pos (by omega)]
    · rw [if_neg hk, if_neg (by omega)]
  · rw [if_neg ha]
    have h1 : numOf nb act n i = -1 := numOf_none (by simpa using ha)
    exact (sumN_congr (g := fun _ => 0) fun k _ => by rw [h1, if_neg (by omega)]).trans (sumN_zero _)
theorem comp_le (nb : Nat → List Nat) (act : Nat → Bool) (n : Nat) : compN nb act n ≤ cntp (fun i => act i = true) n := cntp_le_of _ _ (fun _ h => h.1) n
theorem comp_zero (hnb : ∀ i, i < n → ∀ j ∈ nb i, j < n) : compN nb act n = 0 ↔ cntp (fun i => act i = true) n = 0 := by
  constructor
  · intro h
    by_cases h0 : cntp (fun i => act i = true) n = 0
    · exact h0
    · obtain ⟨r, h1, h2⟩ := (cntp_posI _).1 (Nat.pos_of_ne_zero h0)
      obtain ⟨h3, h4⟩ := rep_root hnb h1 h2
      have := (cntp_posI (rootB nb act n)).2 ⟨_, h3, h4⟩
      simp only [compN] at h; omega
  · intro h; have := comp_le nb act n; omega
/-- Roots of one graph go one to one to roots of another. -/
theorem comp_inj {nb' : Nat → List Nat} {act' : Nat → Bool} {n' : Nat} (hnb : ∀ i, i < n → ∀ j ∈ nb i, j < n) (hnb' : ∀ i, i < n' → ∀ j ∈ nb' i, j < n') (σ τ : Nat → Nat) (h1 : ∀ i, i < n → τ i < n' ∧ σ (τ i) = i)
    (e : ∀ i j, Edg nb' act' n' i j → Edg nb act n (σ i) (σ j)) {p q : Nat → Prop} [DecidablePred p] [DecidablePred q] (hp : ∀ r, r < n → p r → rootB nb act n r) (hq : ∀ r, r < n → p r → q (repF nb' act' n' (τ r))) : cntp p n ≤ cntp q n' := by
  have u' := rep_ok (act := act') hnb'
  refine cntp_inj (fun r => repF nb' act' n' (τ r)) (fun r hr h => ⟨by have := u'.le (τ r) (h1 r hr).1; have := (h1 r hr).1; omega, hq r hr h⟩) fun i j hi hj pi pj he => ?_
  have ev := u'.snd (τ i) (τ j) (h1 i hi).1 (h1 j hj).1 he
  have map : ∀ {a b}, EqvC (Edg nb' act' n') a b → EqvC (Edg nb act n) (σ a) (σ b) := by
    intro a b h
    induction h with
    | refl i => exact .refl _
    | base h => exact .base (e _ _ h)
    | symm _ ih => exact .symm ih
    | trans _ _ ih1 ih2 => exact .trans ih1 ih2
  have := rep_eqv hnb (map ev)
  rw [(h1 i hi).2, (h1 j hj).2, (hp i hi pi).2, (hp j hj pj).2] at this
  exact this
end
theorem comp_sym {R C R' C' : Nat} {σ τ : Nat → Nat} (s : Sym R C R' C' σ τ) {P Q : Nat → Bool} (h : ∀ i, i < R' * C' → Q i = P (σ i)) : compN (nearN R' C') Q (R' * C') = compN (nearN R C) P (R * C) := by
  have hn1 : ∀ i, i < R * C → ∀ j ∈ nearN R C i, j < R * C := fun i hi => nearN_lt hi
  have hn2 : ∀ i, i < R' * C' → ∀ j ∈ nearN R' C' i, j < R' * C' := fun i hi => nearN_lt hi
  have hE1 : ∀ i j, Edg (nearN R' C') Q (R' * C') i j → Edg (nearN R C) P (R * C) (σ i) (σ j) := fun i j ⟨h1, h2, h3, h4⟩ => by
    have hj := hn2 i h1 j h2
    exact ⟨(s.f i h1).1, (s.adj i j h1 hj).1 h2, by rw [← h i h1]; exact h3, by rw [← h j hj]; exact h4⟩
  have hE2 : ∀ i j, Edg (nearN R C) P (R * C) i j → Edg (nearN R' C') Q (R' * C') (τ i) (τ j) := fun i j ⟨h1, h2, h3, h4⟩ => by
    have hj := hn1 i h1 j h2
    have b1 := s.b i h1
    have b2 := s.b j hj
    exact ⟨b1.1, (s.adj _ _ b1.1 b2.1).2 (by rw [b1.2, b2.2]; exact h2), by rw [h _ b1.1, b1.2]; exact h3, by rw [h _ b2.1, b2.2]; exact h4⟩
  refine Nat.le_antisymm (comp_inj hn2 hn1 τ σ s.f hE2 (fun _ _ h => h) fun r hr hrt => ?_) (comp_inj hn1 hn2 σ τ s.b hE1 (fun _ _ h => h) fun r hr hrt => ?_)
  · exact (rep_root hn1 (s.f r hr).1 (by rw [← h r hr]; exact hrt.1)).2
  · have b1 := s.b r hr
    exact (rep_root hn2 b1.1 (by rw [h _ b1.1, b1.2]; exact hrt.1)).2
end Go.SW

/- Maths: the cells around a cell, the border, lakes. -/
namespace Go.SW
def arCell (R C q c t : Nat) : List Nat := if t ≠ 4 ∧ 1 ≤ q + t / 3 ∧ q + t / 3 ≤ R ∧ 1 ≤ c + t % 3 ∧ c + t % 3 ≤ C then [(q + t / 3 - 1) * C + (c + t % 3 - 1)] else []
def aroundTo (R C i : Nat) : Nat → List Nat
  | 0 => []
  | k + 1 => aroundTo R C i k ++ arCell R C (i / C) (i % C) k
def aroundN (R C i : Nat) : List Nat := aroundTo R C i 9
theorem aroundTo_len (R C i : Nat) : ∀ k, (aroundTo R C i k).length ≤ k
  | 0 => Nat.le_refl _
  | k + 1 => by
    have := aroundTo_len R C i k
    simp only [aroundTo, arCell, List.length_append]
    split <;> simp <;> omega
def AroC (q c q' c' : Nat) : Prop := ¬ (q = q' ∧ c = c') ∧ q ≤ q' + 1 ∧ q' ≤ q + 1 ∧ c ≤ c' + 1 ∧ c' ≤ c + 1
theorem aro_mem {R C i j : Nat} : ∀ {k}, j ∈ aroundTo R C i k ↔ ∃ t, t < k ∧ j ∈ arCell R C (i / C) (i % C) t
  | 0 => by simp [aroundTo]
  | k + 1 => by
    simp only [aroundTo, List.mem_append, aro_mem (k := k)]
    constructor
    · rintro (⟨t, h1, h2⟩ | h)
      · exact ⟨t, by omega, h2⟩
      · exact ⟨k, by omega, h⟩
    · rintro ⟨t, h1, h2⟩
      by_cases e : t = k
      · subst e; exact .inr h2
      · exact .inl ⟨t, by omega, h2⟩
theorem ar_mem {R C q c t j : Nat} : j ∈ arCell R C q c t ↔ (t ≠ 4 ∧ 1 ≤ q + t / 3 ∧ q + t / 3 ≤ R ∧ 1 ≤ c + t % 3 ∧ c + t % 3 ≤ C) ∧ j = (q + t / 3 - 1) * C + (c + t % 3 - 1) := by
  simp only [arCell]; split <;> rename_i h <;> simp [h]
theorem aro_rc {R C q c q' c' : Nat} (hc : c < C) (hq' : q' < R) (hc' : c' < C) : q' * C + c' ∈ aroundN R C (q * C + c) ↔ AroC q c q' c' := by
  rw [aroundN, aro_mem, (rc_eq (q := q) hc).1, (rc_eq (q := q) hc).2, AroC]
  constructor
  · rintro ⟨t, h1, h2⟩
    obtain ⟨h3, h4⟩ := ar_mem.1 h2
    obtain ⟨e1, e2⟩ := rc_inj (q := q') (q' := q + t / 3 - 1) hc' (by omega : c + t % 3 - 1 < C) h4
    omega
  · intro h
    refine ⟨3 * (q' + 1 - q) + (c' + 1 - c), by omega, ar_mem.2 ?_⟩
    have e1 : (3 * (q' + 1 - q) + (c' + 1 - c)) / 3 = q' + 1 - q := by omega
    have e2 : (3 * (q' + 1 - q) + (c' + 1 - c)) % 3 = c' + 1 - c := by omega
    rw [e1, e2]
    refine ⟨by omega, ?_⟩
    rw [show q + (q' + 1 - q) - 1 = q' by omega, show c + (c' + 1 - c) - 1 = c' by omega]
theorem aro_lt {R C : Nat} : ∀ i, i < R * C → ∀ j ∈ aroundN R C i, j < R * C := fun i hi j hj => by
  obtain ⟨t, h1, h2⟩ := aro_mem.1 hj
  obtain ⟨h3, h4⟩ := ar_mem.1 h2
  rw [h4]; exact corner_ltN (by omega) (by omega)
theorem aro_sym {R C i j : Nat} (hi : i < R * C) (hj : j < R * C) (h : j ∈ aroundN R C i) : i ∈ aroundN R C j := by
  obtain ⟨q, c, hq, hc, rfl⟩ := rc_ex hi
  obtain ⟨q', c', hq', hc', rfl⟩ := rc_ex hj
  rw [aro_rc hc hq' hc', AroC] at h
  rw [aro_rc hc' hq hc, AroC]; omega
def bordB (R C i : Nat) : Bool := decide (i / C = 0 ∨ i / C + 1 = R ∨ i % C = 0 ∨ i % C + 1 = C)
theorem bord_rc {R C q c : Nat} (hc : c < C) : bordB R C (q * C + c) = decide (q = 0 ∨ q + 1 = R ∨ c = 0 ∨ c + 1 = C) := by
  simp only [bordB, (rc_eq (q := q) hc).1, (rc_eq (q := q) hc).2]
structure Sym8 (R C R' C' : Nat) (σ τ : Nat → Nat) : Prop where
  f : ∀ i, i < R' * C' → σ i < R * C ∧ τ (σ i) = i
  b : ∀ j, j < R * C → τ j < R' * C' ∧ σ (τ j) = j
  adj : ∀ i j, i < R' * C' → j < R' * C' → (j ∈ aroundN R' C' i ↔ σ j ∈ aroundN R C (σ i))
  bor : ∀ i, i < R' * C' → bordB R' C' i = bordB R C (σ i)
theorem turn_sym8 (R C : Nat) : Sym8 R C C R (turnS R C) (turnT R C) := by
  have s := turn_sym R C
  refine ⟨s.f, s.b, fun i j hi hj => ?_, fun i hi => ?_⟩
  · obtain ⟨q, c, hq, hc, rfl⟩ := rc_ex hi
    obtain ⟨q', c', hq', hc', rfl⟩ := rc_ex hj
    rw [turnS_rc hc, turnS_rc hc', aro_rc hc hq' hc', aro_rc hq (by omega) hq', AroC, AroC]
    omega
  · obtain ⟨q, c, hq, hc, rfl⟩ := rc_ex hi
    rw [turnS_rc hc, bord_rc hc, bord_rc hq]
    rw [decide_eq_decide]; omega
theorem mir_sym8 (R C : Nat) : Sym8 R C R C (mirS C) (mirS C) := by
  have s := mir_sym R C
  refine ⟨s.f, s.b, fun i j hi hj => ?_, fun i hi => ?_⟩
  · obtain ⟨q, c, hq, hc, rfl⟩ := rc_ex hi
    obtain ⟨q', c', hq', hc', rfl⟩ := rc_ex hj
    rw [mirS_rc hc, mirS_rc hc', aro_rc hc hq' hc', aro_rc (by omega) hq' (by omega), AroC, AroC]
    omega
  · obtain ⟨q, c, hq, hc, rfl⟩ := rc_ex hi
    rw [mirS_rc hc, bord_rc hc, bord_rc (by omega)]
    rw [decide_eq_decide]; omega

/-! ## lakes -/
section
variable (R C : Nat) (act : Nat → Bool)
/-- Whether a border cell ahead of k has this root. -/
def opTo : Nat → Nat → Bool
  | 0, _ => false
  | k + 1, j => opTo k j || (bordB R C k && decide (repF (aroundN R C) act (R * C) k = j))
def lakeP (r : Nat) : Prop := rootB (aroundN R C) act (R * C) r ∧ opTo R C act (R * C) r = false
instance : DecidablePred (lakeP R C act) := fun r => inferInstanceAs (Decidable (rootB (aroundN R C) act (R * C) r ∧ opTo R C act (R * C) r = false))
def lakeN : Nat := cntp (lakeP R C act) (R * C)
variable {R C act}
theorem opTo_iff {j : Nat} : ∀ {k}, opTo R C act k j = true ↔ ∃ i, i < k ∧ bordB R C i = true ∧ repF (aroundN R C) act (R * C) i = j
  | 0 => by simp [opTo]
  | k + 1 => by
    simp only [opTo, Bool.or_eq_true, Bool.and_eq_true, decide_eq_true_eq, opTo_iff (k := k)]
    constructor
    · rintro (⟨i, h1, h2⟩ | h)
      · exact ⟨i, by omega, h2⟩
      · exact ⟨k, by omega, h⟩
    · rintro ⟨i, h1, h2⟩
      by_cases e : i = k
      · subst e; exact .inr h2
      · exact .inl ⟨i, by omega, h2⟩
theorem op_false {k j : Nat} : opTo R C act k j = false ↔ ∀ i, i < k → bordB R C i = true → repF (aroundN R C) act (R * C) i ≠ j := by
  constructor
  · intro h i h1 h2 h3
    have := opTo_iff.2 ⟨i, h1, h2, h3⟩
    rw [h] at this; cases this
  · intro h
    cases e : opTo R C act k j with
    | false => rfl
    | true => obtain ⟨i, h1, h2, h3⟩ := opTo_iff.1 e; exact absurd h3 (h i h1 h2)
end
theorem EqvC.map {E E' : Nat → Nat → Prop} (σ : Nat → Nat) (e : ∀ i j, E i j → E' (σ i) (σ j)) {a b : Nat} (h : EqvC E a b) : EqvC E' (σ a) (σ b) := by
  induction h with
  | refl i => exact .refl _
  | base h => exact .base (e _ _ h)
  | symm _ ih => exact .symm ih
  | trans _ _ ih1 ih2 => exact .trans ih1 ih2
theorem lake_le {R C R' C' : Nat} {σ τ : Nat → Nat} {P Q : Nat → Bool} (h1 : ∀ i, i < R * C → τ i < R' * C' ∧ σ (τ i) = i) (h2 : ∀ i, i < R' * C' → σ i < R * C) (e : ∀ i j, Edg (aroundN R' C') Q (R' * C') i j → Edg (aroundN R C) P (R * C) (σ i) (σ j)) (hb : ∀ i, i < R' * C' → bordB R' C' i = bordB R C (σ i)) (ha : ∀ i, i < R * C → P i = Q (τ i)) : lakeN R C P ≤ lakeN R' C' Q := by
  have u' := rep_ok (act := Q) (aro_lt (R := R') (C := C'))
  refine comp_inj aro_lt aro_lt σ τ h1 e (fun _ _ h => h.1) fun r hr ⟨hrt, hop⟩ => ?_
  have ht := h1 r hr
  obtain ⟨h3, h4⟩ := rep_root (nb := aroundN R' C') (act := Q) aro_lt ht.1 (by rw [← ha r hr]; exact hrt.1)
  refine ⟨h4, op_false.2 fun i hi hbi hri => ?_⟩
  have ev := u'.snd i (τ r) hi ht.1 hri
  have ev2 := rep_eqv aro_lt (EqvC.map σ e ev)
  rw [ht.2, hrt.2] at ev2
  exact op_false.1 hop (σ i) (h2 i hi) (by rw [← hb i hi]; exact hbi) ev2
theorem lake_sym {R C R' C' : Nat} {σ τ : Nat → Nat} (s : Sym8 R C R' C' σ τ) {P Q : Nat → Bool} (h : ∀ i, i < R' * C' → Q i = P (σ i)) : lakeN R' C' Q = lakeN R C P := by
  have hE1 : ∀ i j, Edg (aroundN R' C') Q (R' * C') i j → Edg (aroundN R C) P (R * C) (σ i) (σ j) := fun i j ⟨h1, h2, h3, h4⟩ => by
    have hj := aro_lt i h1 j h2
    exact ⟨(s.f i h1).1, (s.adj i j h1 hj).1 h2, by rw [← h i h1]; exact h3, by rw [← h j hj]; exact h4⟩
  have hE2 : ∀ i j, Edg (aroundN R C) P (R * C) i j → Edg (aroundN R' C') Q (R' * C') (τ i) (τ j) := fun i j ⟨h1, h2, h3, h4⟩ => by
    have hj := aro_lt i h1 j h2
    have b1 := s.b i h1
    have b2 := s.b j hj
    exact ⟨b1.1, (s.adj _ _ b1.1 b2.1).2 (by rw [b1.2, b2.2]; exact h2), by rw [h _ b1.1, b1.2]; exact h3, by rw [h _ b2.1, b2.2]; exact h4⟩
  refine Nat.le_antisymm (lake_le s.f (fun i hi => (s.b i hi).1) hE2 (fun i hi => ?_) h) (lake_le s.b (fun i hi => (s.f i hi).1) hE1 s.bor fun i hi => ?_)
  · have b1 := s.b i hi
    rw [s.bor _ b1.1, b1.2]
  · have b1 := s.b i hi
    rw [h _ b1.1, b1.2]

/-! ## a lake has land on four sides -/
theorem ex_max (f : Nat → Nat) (p : Nat → Prop) : ∀ n, (∃ i, i < n ∧ p i) → ∃ m, m < n ∧ p m ∧ ∀ i, i < n → p i → f i ≤ f m
  | 0, ⟨i, h, _⟩ => by omega
  | n + 1, ⟨i, hi, pi⟩ => by
    by_cases h : ∃ i, i < n ∧ p i
    · obtain ⟨m, h1, h2, h3⟩ := ex_max f p n h
      by_cases hn : p n ∧ f m ≤ f n
      · refine ⟨n, by omega, hn.1, fun j hj pj => ?_⟩
        by_cases e : j = n
        · subst e; exact Nat.le_refl _
        · have := h3 j (by omega) pj; omega
      · refine ⟨m, by omega, h2, fun j hj pj => ?_⟩
        by_cases e : j = n
        · subst e
          by_cases hle : f m ≤ f j
          · exact absurd ⟨pj, hle⟩ hn
          · omega
        · exact h3 j (by omega) pj
    · have e : i = n := by
        by_cases e : i = n
        · exact e
        · exact absurd ⟨i, by omega, pi⟩ h
      subst e
      refine ⟨i, hi, pi, fun j hj pj => ?_⟩
      by_cases e : j = i
      · subst e; exact Nat.le_refl _
      · exact absurd ⟨j, by omega, pj⟩ h
theorem cntp_four {p : Nat → Prop} [DecidablePred p] {n a b c d : Nat} (ha : a < n ∧ p a) (hb : b < n ∧ p b) (hc : c < n ∧ p c) (hd : d < n ∧ p d) (h : a ≠ b ∧ a ≠ c ∧ a ≠ d ∧ b ≠ c ∧ b ≠ d ∧ c ≠ d) : 4 ≤ cntp p n := by
  have := cntp_inj (n := 4) (m := n) (p := fun _ => True) (q := p) (fun k => if k = 0 then a else if k = 1 then b else if k = 2 then c else d) (fun i _ _ => by
    split
    · exact ha
    · split
      · exact hb
      · split
        · exact hc
        · exact hd) (fun i j hi hj _ _ e => by
    have h1 : i = 0 ∨ i = 1 ∨ i = 2 ∨ i = 3 := by omega
    have h2 : j = 0 ∨ j = 1 ∨ j = 2 ∨ j = 3 := by omega
    rcases h1 with rfl | rfl | rfl | rfl <;> rcases h2 with rfl | rfl | rfl | rfl <;> simp at e <;> omega)
  have e : cntp (fun _ : Nat => True) 4 = 4 := by simp [cntp]
  omega
theorem lake_land {R C : Nat} {act : Nat → Bool} (h : 0 < lakeN R C act) : 3 ≤ R ∧ 3 ≤ C ∧ 4 ≤ cntp (fun i => act i = false) (R * C) ∧ cntp (fun i => act i = false) (R * C) < R * C := by
  obtain ⟨r, hr, ⟨ha, hroot⟩, hop⟩ := (cntp_posI _).1 h
  have hop := op_false.1 hop
  have u := rep_ok (act := act) (aro_lt (R := R) (C := C))
  have pr : repF (aroundN R C) act (R * C) r = r := hroot
  have inn : ∀ i, i < R * C → repF (aroundN R C) act (R * C) i = r → ∃ q c, i = q * C + c ∧ 1 ≤ q ∧ q + 2 ≤ R ∧ 1 ≤ c ∧ c + 2 ≤ C := fun i hi hri => by
    obtain ⟨q, c, hq, hc, rfl⟩ := rc_ex hi
    have h1 : ¬ bordB R C (q * C + c) = true := fun hb => hop _ hi hb hri
    rw [bord_rc hc, decide_eq_true_eq] at h1
    exact ⟨q, c, rfl, by omega, by omega, by omega, by omega⟩
  have nbr : ∀ i j, i < R * C → repF (aroundN R C) act (R * C) i = r → j < R * C → j ∈ aroundN R C i → repF (aroundN R C) act (R * C) j ≠ r → act j = false := fun i j hi hri hj hm hrj => by
    cases e : act j with
    | false => rfl
    | true =>
      have hai : act i = true := by rw [← rep_act (nb := aroundN R C) (act := act) aro_lt hi, hri]; exact ha
      exact absurd ((u.cmp i j hi hj ⟨hi, hm, hai, e⟩).symm.trans hri) hrj
  obtain ⟨q0, c0, e0, g1, g2, g3, g4⟩ := inn r hr pr
  have hex : ∃ i, i < R * C ∧ repF (aroundN R C) act (R * C) i = r := ⟨r, hr, pr⟩
  obtain ⟨iN, n1, n2, n3⟩ := ex_max (fun i => R - i / C) _ _ hex
  obtain ⟨iS, s1, s2, s3⟩ := ex_max (fun i => i / C) _ _ hex
  obtain ⟨iW, w1, w2, w3⟩ := ex_max (fun i => C - i % C) _ _ hex
  obtain ⟨iE, t1, t2, t3⟩ := ex_max (fun i => i % C) _ _ hex
  obtain ⟨qN, cN, rfl, nq1, nq2, nc1, nc2⟩ := inn iN n1 n2
  obtain ⟨qS, cS, rfl, sq1, sq2, sc1, sc2⟩ := inn iS s1 s2
  obtain ⟨qW, cW, rfl, wq1, wq2, wc1, wc2⟩ := inn iW w1 w2
  obtain ⟨qE, cE, rfl, eq1, eq2, ec1, ec2⟩ := inn iE t1 t2
  have row : ∀ {q c}, c < C → (q * C + c) / C = q := fun hc => (rc_eq hc).1
  have col : ∀ {q c}, c < C → (q * C + c) % C = c := fun hc => (rc_eq hc).2
  have hN : (qN - 1) * C + cN < R * C ∧ act ((qN - 1) * C + cN) = false := by
    have hl := corner_ltN (R := R) (C := C) (r := qN - 1) (c := cN) (by omega) (by omega)
    refine ⟨hl, nbr _ _ n1 n2 hl ((aro_rc (by omega) (by omega) (by omega)).2 (by simp only [AroC]; omega)) fun e => ?_⟩
    have := n3 _ hl e
    simp only [row (show cN < C by omega)] at this; omega
  have hS : (qS + 1) * C + cS < R * C ∧ act ((qS + 1) * C + cS) = false := by
    have hl := corner_ltN (R := R) (C := C) (r := qS + 1) (c := cS) (by omega) (by omega)
    refine ⟨hl, nbr _ _ s1 s2 hl ((aro_rc (by omega) (by omega) (by omega)).2 (by simp only [AroC]; omega)) fun e => ?_⟩
    have := s3 _ hl e
    simp only [row (show cS < C by omega)] at this; omega
  have hW : qW * C + (cW - 1) < R * C ∧ act (qW * C + (cW - 1)) = false := by
    have hl := corner_ltN (R := R) (C := C) (r := qW) (c := cW - 1) (by omega) (by omega)
    refine ⟨hl, nbr _ _ w1 w2 hl ((aro_rc (by omega) (by omega) (by omega)).2 (by simp only [AroC]; omega)) fun e => ?_⟩
    have := w3 _ hl e
    simp only [col (show cW < C by omega), col (show cW - 1 < C by omega)] at this; omega
  have hE : qE * C + (cE + 1) < R * C ∧ act (qE * C + (cE + 1)) = false := by
    have hl := corner_ltN (R := R) (C := C) (r := qE) (c := cE + 1) (by omega) (by omega)
    refine ⟨hl, nbr _ _ t1 t2 hl ((aro_rc (by omega) (by omega) (by omega)).2 (by simp only [AroC]; omega)) fun e => ?_⟩
    have := t3 _ hl e
    simp only [col (show cE < C by omega), col (show cE + 1 < C by omega)] at this; omega
  have o1 := n3 _ w1 w2
  have o2 := n3 _ t1 t2
  have o3 := s3 _ w1 w2
  have o4 := s3 _ t1 t2
  have o5 := n3 _ s1 s2
  have o6 := w3 _ t1 t2
  simp only [row (show cN < C by omega), row (show cS < C by omega), row (show cW < C by omega), row (show cE < C by omega), col (show cW < C by omega), col (show cE < C by omega)] at o1 o2 o3 o4 o5 o6
  refine ⟨by omega, by omega, cntp_four hN hS hW hE ⟨fun e => ?_, fun e => ?_, fun e => ?_, fun e => ?_, fun e => ?_, fun e => ?_⟩, ?_⟩
  · have := (rc_inj (by omega) (by omega) e).1; omega
  · have := (rc_inj (by omega) (by omega) e).1; omega
  · have := (rc_inj (by omega) (by omega) e).1; omega
  · have := (rc_inj (by omega) (by omega) e).1; omega
  · have := (rc_inj (by omega) (by omega) e).1; omega
  · have := (rc_inj (by omega) (by omega) e).2; omega
  · have h1 : cntp (fun i => act i = false) (R * C) + cntp (fun i => act i = true) (R * C) = R * C := by
      have h2 : ∀ n, cntp (fun i => act i = false) n + cntp (fun i => act i = true) n = n := by
        intro n
        induction n with
        | zero => rfl
        | succ n ih => simp only [cntp]; by_cases e : act n = true <;> simp [e] <;> omega
      exact h2 _
    have h2 := (cntp_posI (fun i => act i = true)).2 ⟨r, hr, ha⟩
    omega
end Go.SW

