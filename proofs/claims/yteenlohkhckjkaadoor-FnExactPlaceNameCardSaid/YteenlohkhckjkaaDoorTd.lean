/- The laws FnExactSheetOf, FnExactPlaceName. -/
import Derived.Test.YteenlohkhckjkaaDoorTc
set_option linter.all false
set_option maxRecDepth 20000
namespace Go.Proofs.YteenlohkhckjkaaDoor
open Go.RowKit Go.SW
theorem exactSheetOf_c (x y : Int) (w : World) (hx : I64 x) (hy : I64 y) : Ret Tryd.prog 3 #[.int .i64 x, .int .i64 y] w fun v w' => v = .bool true ∧ Ext w w' := by
  refine enter2 Tryd.func3 rfl (by kernel_rfl) (of_decide_eq_true (by kernel_rfl)) fun f a0 a1 => ?_
  simp (disch := omega) only [go_sem, Nat.reduceEqDiff, ↓reduceIte, Nat.reduceAdd, a0, a1]
  refine callK_pure (by kernel_rfl) (specSheetOf_c x y _) fun w1 x1 => ?_
  simp (disch := omega) only [go_sem, Nat.reduceEqDiff, ↓reduceIte, Nat.reduceAdd, a0, a1]
  refine callK_pure (by kernel_rfl) (implSheetOf_c x y _) fun w2 x2 => ?_
  have h1 : (!(sheetOf x y == sheetOf x y)) = false := by simp
  have h2 : (!(plc x y == plc x y)) = false := by simp
  simp (disch := omega) only [go_sem, Nat.reduceEqDiff, ↓reduceIte, Nat.reduceAdd, h1, h2, Tryd.results3]
  exact ⟨trivial, x1.trans x2⟩
theorem exactPlaceName_c (x y : Int) (w : World) (hx : I64 x) (hy : I64 y) : Ret Tryd.prog 4 #[.int .i64 x, .int .i64 y] w fun v w' => v = .bool true ∧ Ext w w' := by
  refine enter2 Tryd.func4 rfl (by kernel_rfl) (of_decide_eq_true (by kernel_rfl)) fun f a0 a1 => ?_
  simp (disch := omega) only [go_sem, Nat.reduceEqDiff, ↓reduceIte, Nat.reduceAdd, a0, a1]
  refine callK_pure (by kernel_rfl) (specPlaceName_c x y _) fun w1 x1 => ?_
  simp (disch := omega) only [go_sem, Nat.reduceEqDiff, ↓reduceIte, Nat.reduceAdd, a0, a1]
  refine callK_pure (by kernel_rfl) (implPlaceName_c x y _) fun w2 x2 => ?_
  have h1 : (!(placeName x y == placeName x y)) = false := by simp
  have h2 : (!(plc x y == plc x y)) = false := by simp
  simp (disch := omega) only [go_sem, Nat.reduceEqDiff, ↓reduceIte, Nat.reduceAdd, h1, h2, Tryd.results4]
  exact ⟨trivial, x1.trans x2⟩
end Go.Proofs.YteenlohkhckjkaaDoor
