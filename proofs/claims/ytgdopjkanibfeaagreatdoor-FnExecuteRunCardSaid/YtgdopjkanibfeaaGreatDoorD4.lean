/- The draw functions of the water laws; the helpers of the laws. -/
import Derived.Test.YtgdopjkanibfeaaGreatDoorD3
set_option linter.all false
set_option maxRecDepth 20000
namespace Go.Proofs.YtgdopjkanibfeaaGreatDoor
open Go.RowKit Go.SW

/-- A grid has been drawn. -/
def DrawnG (w w' : World) (v : Value) : Prop := ∃ a c rows A Cp, v = .slice a rows.length c ∧ RowsAt w' a rows A Cp ∧ Ext w w'

theorem drawWaterRun_c (a : Option Addr) (l : List Int) (c : Nat) (w : World) (hl : l.length ≤ c) (hc : c ≤ maxLen) (hs : ByteS w a l) :
    Ret Tryz.prog 16 #[.slice a l.length c] w fun v w' => ∃ a c rows A Cp r cc, v = .tuple #[.slice a rows.length c, .int .i64 r, .int .i64 cc] ∧ RowsAt w' a rows A Cp ∧ Ext w w' := by
  refine enter1 Tryz.func16 rfl (by kernel_rfl) (of_decide_eq_true (by kernel_rfl)) fun f a0 => ?_
  simp (disch := omega) only [go_sem, Nat.reduceEqDiff, ↓reduceIte, Nat.reduceAdd, a0]
  refine callK_of (by kernel_rfl) (l6Open_c _ _ _ _ hl hc hs) ?_
  rintro _ w1 ⟨rb, rfl, x1, hrb, r1, e1⟩
  simp (disch := omega) only [go_sem, Nat.reduceEqDiff, ↓reduceIte, Nat.reduceAdd]
  refine callK_of (by kernel_rfl) (l91Cell_c rb _ 0 _ r1 (by omega) (by omega)) ?_
  rintro _ w2 ⟨a, c, rows, A, Cp, R, r, cc, rfl, hR1, hR5, -, d, g, r2⟩
  simp (disch := omega) only [go_sem, Nat.reduceEqDiff, ↓reduceIte, Nat.reduceAdd, Tryz.results16]
  exact ⟨a, c, rows, A, Cp, r, cc, rfl, d.at (by omega), g.ext x1 fun b hb => by simp at hb; omega⟩

end Go.Proofs.YtgdopjkanibfeaaGreatDoor
