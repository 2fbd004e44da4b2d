/- Draws of a grid and an index; GridSet; the law FnPeak. -/
import Derived.Test.YtdlepfeckiahdaaPj
set_option linter.all false
namespace Go.Proofs.Ytdlepfeckiahdaa
open Go.RowKit Go.SW

/-- A grid and an index have been drawn. -/
def DrawnI (w w' : World) (v : Value) : Prop := ∃ a c rows A Cp i, v = .tuple #[.slice a rows.length c, .int .i64 i] ∧ (-2000000 ≤ i ∧ i ≤ 2000000) ∧ RowsAt w' a rows A Cp ∧ Ext w w'

theorem l4Has_c (a : Option Addr) (rows : List (List Int)) (A : Nat → Option Addr) (Cp : Nat → Nat) (gc : Nat) (i : Int) (w : World) (hr : RowsAt w a rows A Cp) :
    Ret Try.prog 117 #[.slice a rows.length gc, .int .i64 i] w fun v w' => v = .bool (gvalid rows && decide (0 ≤ i ∧ i < (rows.length * rowLen rows : Nat))) ∧ Ext w w' := by
  refine enter2 Try.func117 rfl (by kernel_rfl) (of_decide_eq_true (by kernel_rfl)) fun f a0 a1 => ?_
  simp (disch := omega) only [go_sem, Nat.reduceEqDiff, ↓reduceIte, Nat.reduceAdd, a0]
  refine callK_pure (by kernel_rfl) (gridValid_c _ _ _ _ _ _ hr) fun w1 x1 => ?_
  cases hv : gvalid rows with
  | false =>
    simp (disch := omega) only [go_sem, Nat.reduceEqDiff, ↓reduceIte, Nat.reduceAdd, Try.results117]
    exact ⟨by simp, x1⟩
  | true =>
    have v := (gvalid_iff rows).1 hv
    have hn49 := v.gd.le
    obtain ⟨gb, go, rb, ro, rfl, -, hg⟩ := hr.grid v
    simp (disch := omega) only [go_sem, Nat.reduceEqDiff, ↓reduceIte, Nat.reduceAdd, a0, a1]
    refine callK_pure (by kernel_rfl) (l2Cells_c _ _ _ _ _ _ _ _ _ _ (hg.ext x1) v.r1 v.r7 v.c7) fun w2 x2 => ?_
    simp (disch := omega) only [go_sem, Nat.reduceEqDiff, ↓reduceIte, Nat.reduceAdd]
    refine callK_pure (by kernel_rfl) (l6In_c _ _ _ _) fun w3 x3 => ?_
    simp (disch := omega) only [go_sem, Nat.reduceEqDiff, ↓reduceIte, Nat.reduceAdd, Try.results117]
    refine ⟨?_, (x1.trans x2).trans x3⟩
    congr 1
    rw [Bool.true_and]
    congr 1
    exact propext ⟨fun h => by omega, fun h => by omega⟩

theorem specPeakIs_c (a : Option Addr) (rows : List (List Int)) (A : Nat → Option Addr) (Cp : Nat → Nat) (gc : Nat) (i : Int) (w : World) (hr : RowsAt w a rows A Cp) :
    Ret Try.prog 115 #[.slice a rows.length gc, .int .i64 i] w fun v w' => v = .bool (pkOf rows i) ∧ Ext w w' := by
  refine enter2 Try.func115 rfl (by kernel_rfl) (of_decide_eq_true (by kernel_rfl)) fun f a0 a1 => ?_
  simp (disch := omega) only [go_sem, Nat.reduceEqDiff, ↓reduceIte, Nat.reduceAdd, a0, a1]
  refine callK_pure (by kernel_rfl) (l4Has_c _ _ _ _ _ i _ hr) fun w1 x1 => ?_
  cases hh : (gvalid rows && decide (0 ≤ i ∧ i < (rows.length * rowLen rows : Nat))) with
  | false =>
    simp (disch := omega) only [go_sem, Nat.reduceEqDiff, ↓reduceIte, Nat.reduceAdd, Try.results115]
    exact ⟨by rw [pkOf, ← Bool.and_assoc, hh, Bool.false_and], x1⟩
  | true =>
    simp only [Bool.and_eq_true, decide_eq_true_eq] at hh
    obtain ⟨hv, hi0, hi1⟩ := hh
    have v := (gvalid_iff rows).1 hv
    obtain ⟨gb, go, rb, ro, rfl, -, hg⟩ := hr.grid v
    obtain ⟨n, rfl⟩ := Int.eq_ofNat_of_zero_le hi0
    simp (disch := omega) only [go_sem, Nat.reduceEqDiff, ↓reduceIte, Nat.reduceAdd, a0, a1]
    refine callK_pure (by kernel_rfl) (l4Peak_c gb go gc rb ro Cp _ _ _ n _ (hg.ext x1) v.r7 v.c7 (by omega)) fun w2 x2 => ?_
    simp (disch := omega) only [go_sem, Nat.reduceEqDiff, ↓reduceIte, Nat.reduceAdd, Try.results115]
    refine ⟨?_, x1.trans x2⟩
    simp only [pkOf, hv, hi0, hi1, Int.toNat_natCast, Bool.true_and, and_self, decide_true]

theorem near_ne {R C i j : Nat} (hi : i < R * C) (hj : j ∈ nearN R C i) : j ≠ i := by
  have hC : 0 < C := Nat.pos_of_ne_zero fun e => by subst e; simp at hi
  rcases nearN_mem.1 hj with ⟨h1, h2⟩ | ⟨h1, h2⟩ | ⟨h1, h2⟩ | ⟨h1, h2⟩
  · omega
  · omega
  · omega
  · have : i ≠ 0 := fun e => by subst e; simp at h1
    omega
theorem peak_up {R C : Nat} {h : Nat → Int} {i : Nat} (hi : i < R * C) (hp : peakB R C h i = true) {y : Int} (hy : h i ≤ y) : peakB R C (fun j => if j = i then y else h j) i = true := by
  rw [peakB, List.all_eq_true] at hp ⊢
  intro j hj
  have h1 := hp j hj
  have hne := near_ne hi hj
  simp only [hiB, Bool.not_eq_true', decide_eq_false_iff_not, if_neg hne, if_true] at h1 ⊢
  omega
theorem peakB_congr {R C : Nat} {h h' : Nat → Int} {i : Nat} (hi : i < R * C) (e : ∀ j, j < R * C → h j = h' j) : peakB R C h i = peakB R C h' i := by
  rw [Bool.eq_iff_iff, peakB, peakB, List.all_eq_true, List.all_eq_true]
  constructor <;> intro hh j hj <;> have h1 := hh j hj <;> simp only [hiB, e j (nearN_lt hi j hj), e i hi] at h1 ⊢ <;> exact h1
theorem set_pk {rows : List (List Int)} (v : Valid rows) {i : Nat} (hi : i < rows.length * rowLen rows) {y : Int} (hy : 0 ≤ y ∧ y ≤ 99) (hhy : hgt rows i ≤ y) (hp : peakB rows.length (rowLen rows) (hgt rows) i = true) :
    pkOf (mkRows rows.length (rowLen rows) fun j => if j = i then y else hgt rows j) i = true := by
  have gv : gvalid (mkRows rows.length (rowLen rows) fun j => if j = i then y else hgt rows j) = true := (gvalid_iff _).2 (mkRows_valid v.r1 v.r7 v.c1 v.c7 fun j hj => by
    have := v.hgt j hj
    by_cases e : j = i
    · simp only [e, if_true]; exact hy
    · simp only [if_neg e]; exact this)
  have h1 := peak_up hi hp hhy
  rw [pkOf, gv, mkRows_len, mkRows_rowLen v.r1, Int.toNat_natCast, Bool.true_and, decide_eq_true (show (0 : Int) ≤ (i : Int) ∧ (i : Int) < (rows.length * rowLen rows : Nat) by omega), Bool.true_and]
  rw [← h1]
  exact peakB_congr hi fun j hj => mkRows_hgt v.r1 hj

end Go.Proofs.Ytdlepfeckiahdaa
