/- The law FnGreatest: it returns true, and nothing that was there is written. -/
import Derived.Test.YtfnigoibemimaaaCe
import Derived.Test.YtfnigoibemimaaaD2
namespace Go.Proofs.Ytfnigoibemimaaa
open Go.RowKit Go.SW

theorem implGreatest_c (a : Option Addr) (rows : List (List Int)) (A : Nat → Option Addr) (Cp : Nat → Nat) (gc : Nat) (w : World) (hr : RowsAt w a rows A Cp) :
    Ret Try.prog 15 #[.slice a rows.length gc] w fun v w' => v = .int .i64 (greatestOf rows) ∧ Ext w w' := by
  refine enter1 Try.func15 rfl (by kernel_rfl) (of_decide_eq_true (by kernel_rfl)) fun f a0 => ?_
  simp only [go_sem, Nat.reduceEqDiff, ↓reduceIte, a0]
  refine callK_of (by kernel_rfl) (implGridRange_c _ _ _ _ _ _ hr) ?_
  rintro _ w1 ⟨rfl, x1⟩
  cases hv : gvalid rows <;>
    simp only [rangeOf, hv, go_sem, Nat.reduceEqDiff, ↓reduceIte, Try.results15]
  · exact ⟨by simp [greatestOf, hv], x1⟩
  · exact ⟨by simp [greatestOf, hv], x1⟩

theorem specGreatest_c (a : Option Addr) (rows : List (List Int)) (A : Nat → Option Addr) (Cp : Nat → Nat) (gc : Nat) (w : World) (hr : RowsAt w a rows A Cp) :
    Ret Try.prog 16 #[.slice a rows.length gc] w fun v w' => v = .int .i64 (greatestOf rows) ∧ Ext w w' := by
  refine enter1 Try.func16 rfl (by kernel_rfl) (of_decide_eq_true (by kernel_rfl)) fun f a0 => ?_
  simp only [go_sem, Nat.reduceEqDiff, ↓reduceIte, a0]
  refine callK_of (by kernel_rfl) (specGridRange_c _ _ _ _ _ _ hr) ?_
  rintro _ w1 ⟨rfl, x1⟩
  cases hv : gvalid rows <;>
    simp only [rangeOf, hv, go_sem, Nat.reduceEqDiff, ↓reduceIte, Try.results16]
  · exact ⟨by simp [greatestOf, hv], x1⟩
  · exact ⟨by simp [greatestOf, hv], x1⟩

theorem drawGreatest_c (a : Option Addr) (l : List Int) (c : Nat) (w : World) (hl : l.length ≤ c) (hc : c ≤ maxLen) (hs : ByteS w a l) :
    Ret Try.prog 14 #[.slice a l.length c] w fun v w' => ∃ a c rows A Cp, v = .slice a rows.length c ∧ RowsAt w' a rows A Cp ∧ Ext w w' := by
  refine enter1 Try.func14 rfl (by kernel_rfl) (of_decide_eq_true (by kernel_rfl)) fun f a0 => ?_
  simp only [go_sem, Nat.reduceEqDiff, ↓reduceIte, a0]
  refine callK_of (by kernel_rfl) (l6Open_c _ _ _ _ hl hc hs) ?_
  rintro _ w1 ⟨rb, rfl, x1, hrb, r1, e1⟩
  simp only [go_sem, Nat.reduceEqDiff, ↓reduceIte]
  refine callK_of (by kernel_rfl) (l91Grid_c rb _ 0 _ r1 (by omega) (by omega)) ?_
  rintro _ w2 ⟨a, c, rows, A, Cp, R, rfl, hR1, hR5, d, g, r2⟩
  simp only [go_sem, Nat.reduceEqDiff, ↓reduceIte, Try.results14]
  exact ⟨a, c, rows, A, Cp, rfl, d.at (by omega), g.ext x1 fun b hb => by simp at hb; omega⟩

theorem greatest_c (a : Option Addr) (l : List Int) (c : Nat) (w : World) (hl : l.length ≤ c) (hc : c ≤ maxLen) (hs : ByteS w a l) :
    Ret Try.prog 4 #[.slice a l.length c] w fun v w' => v = .bool true ∧ Ext w w' := by
  have hmax := maxLen_le (Nat.le_trans hl hc)
  refine enter1 Try.func4 rfl (by kernel_rfl) (of_decide_eq_true (by kernel_rfl)) fun f a0 => ?_
  by_cases hbig : (1048576 : Int) < l.length
  · simp only [go_sem, Nat.reduceEqDiff, ↓reduceIte, a0, hbig, Try.results4]
    exact ⟨trivial, Ext.refl _⟩
  simp only [go_sem, Nat.reduceEqDiff, ↓reduceIte, a0, hbig]
  refine callK_of (by kernel_rfl) (drawGreatest_c _ _ _ _ hl hc hs) ?_
  rintro _ w1 ⟨ga, gc, rows, A, Cp, rfl, hr, x1⟩
  simp only [go_sem, Nat.reduceEqDiff, ↓reduceIte]
  refine callK_of (by kernel_rfl) (implGreatest_c _ _ _ _ _ _ hr) ?_
  rintro _ w2 ⟨rfl, x2⟩
  simp only [go_sem, Nat.reduceEqDiff, ↓reduceIte]
  refine callK_of (by kernel_rfl) (specGreatest_c _ _ _ _ _ _ (hr.ext x2)) ?_
  rintro _ w3 ⟨rfl, x3⟩
  have hne : (greatestOf rows != greatestOf rows) = false := bne_self_eq_false _
  have x13 := (x1.trans x2).trans x3
  cases hv : gvalid rows with
  | false =>
    have hg : greatestOf rows = -1 := by simp [greatestOf, hv]
    have hlt : greatestOf rows < 0 := by omega
    simp only [go_sem, Nat.reduceEqDiff, ↓reduceIte, hne, hlt, beq_self_eq_true, Try.results4]
    exact ⟨trivial, x13⟩
  | true =>
    have v := (gvalid_iff rows).1 hv
    have hpos : 0 < rows.length * rowLen rows := Nat.mul_pos v.r1 v.c1
    have hg : greatestOf rows = mxN (hgt rows) (rows.length * rowLen rows) := by simp [greatestOf, hv]
    obtain ⟨i, hi, ei⟩ := mxN_at (hgt rows) _ hpos
    have hgi := v.hgt i hi
    have hM : 0 ≤ greatestOf rows ∧ greatestOf rows ≤ 99 := by rw [hg, ei]; exact hgi
    have hnn : ¬ greatestOf rows < 0 := by omega
    have hrange : rangeOf rows = .tuple #[.int .i64 (mnN (hgt rows) (rows.length * rowLen rows)), .int .i64 (greatestOf rows), .bool true] := by simp [rangeOf, hv, hg]
    have l1 : 1 ≤ landOf rows (greatestOf rows) := by
      have h1 : lvok rows (greatestOf rows) = true := by simp [lvok, hv, hM]
      have h2 := cntp_pos (fun i => greatestOf rows ≤ hgt rows i) _ i hi (by rw [hg, ei]; omega)
      simp only [landOf, h1, if_true]
      omega
    have l2 : landOf rows (greatestOf rows + 1) = 0 ∨ greatestOf rows = 99 := by
      by_cases h9 : greatestOf rows = 99
      · exact .inr h9
      · left
        have h1 : lvok rows (greatestOf rows + 1) = true := by simp [lvok, hv]; omega
        have h2 := cntp_zero (fun i => greatestOf rows + 1 ≤ hgt rows i) (rows.length * rowLen rows) (fun j hj => by have := mxN_ge (hgt rows) _ j hj; rw [← hg] at this; omega)
        simp only [landOf, h1, if_true, h2]; rfl
    simp (disch := omega) only [go_sem, Nat.reduceEqDiff, ↓reduceIte, hne, hnn]
    refine callK_of (by kernel_rfl) (implGridRange_c _ _ _ _ _ _ ((hr.ext x2).ext x3)) ?_
    rintro _ w4 ⟨rfl, x4⟩
    simp (disch := omega) only [go_sem, Nat.reduceEqDiff, ↓reduceIte, hrange]
    refine callK_of (by kernel_rfl) (implLevelLand_c _ _ _ _ _ _ _ (((hr.ext x2).ext x3).ext x4)) ?_
    rintro _ w5 ⟨rfl, x5⟩
    have hb : (greatestOf rows == greatestOf rows) = true := beq_self_eq_true _
    simp (disch := omega) only [go_sem, Nat.reduceEqDiff, ↓reduceIte, hb]
    refine callK_of (by kernel_rfl) (implLevelLand_c _ _ _ _ _ _ _ ((((hr.ext x2).ext x3).ext x4).ext x5)) ?_
    rintro _ w6 ⟨rfl, x6⟩
    have xx := ((x13.trans x4).trans x5).trans x6
    by_cases hn : landOf rows (greatestOf rows + 1) = 0
    · have hn' : (landOf rows (greatestOf rows + 1) == 0) = true := by simp [hn]
      simp (disch := omega) only [go_sem, Nat.reduceEqDiff, ↓reduceIte, l1, hn', Try.results4]
      exact ⟨trivial, xx⟩
    · have hn' : (landOf rows (greatestOf rows + 1) == 0) = false := by simp [hn]
      have h99 : (greatestOf rows == 99) = true := by simp; omega
      simp (disch := omega) only [go_sem, Nat.reduceEqDiff, ↓reduceIte, l1, hn', h99, Try.results4]
      exact ⟨trivial, xx⟩

end Go.Proofs.Ytfnigoibemimaaa
