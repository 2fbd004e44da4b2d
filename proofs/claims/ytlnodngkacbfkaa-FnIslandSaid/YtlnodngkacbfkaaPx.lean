/- The exact law on PeakIsland: contract. Printed by a program of ours (gpx.py, gexact.py). -/
import Derived.Test.YtlnodngkacbfkaaPm
set_option linter.all false
set_option maxRecDepth 20000
namespace Go.Proofs.Ytlnodngkacbfkaa
open Go.RowKit Go.SW

theorem exactPeakIsland_c (a : Option Addr) (rows : List (List Int)) (A : Nat → Option Addr) (Cp : Nat → Nat) (gc : Nat) (lv num : Int) (w : World) (hr : RowsAt w a rows A Cp) (_ : I64 lv) (_ : I64 num) :
    Ret Try.prog 7 #[.slice a rows.length gc, .int .i64 lv, .int .i64 num] w fun v w' => v = .bool true ∧ Ext w w' := by
  refine enter3 Try.func7 rfl (by kernel_rfl) (of_decide_eq_true (by kernel_rfl)) fun f a0 a1 a2 => ?_
  simp (disch := omega) only [go_sem, Nat.reduceEqDiff, ↓reduceIte, Nat.reduceAdd, a0]
  refine callK_of (by kernel_rfl) (szIntSS_c _ _ _ _ _ _ _ hr (by omega) (by omega)) ?_
  rintro _ w1 ⟨x, rfl, x1, hx⟩
  by_cases hneg : x < 0
  · simp (disch := omega) only [go_sem, Nat.reduceEqDiff, ↓reduceIte, Nat.reduceAdd, hneg, Try.results7]
    exact ⟨trivial, x1⟩
  obtain ⟨hn, hl⟩ := hx (by omega)
  have hL : ∀ r, r < rows.length → (rows.getD r []).length ≤ 1048576 := fun r hr' => by have := hl r hr'; omega
  have hN : rows.length ≤ 1048576 := by omega
  have toI := fun w (h : RowsAt w a rows A Cp) => toIntSS_c a rows A Cp gc w h hN hL
  have at' : ∀ {w B b A'}, OwnRows w 24 3 B b rows A' → RowsAt w (some ⟨b, 0, none⟩) rows A' (fun r => (rows.getD r []).length) := fun o => o.at hr.i64 hr.lens hr.len
  simp (disch := omega) only [go_sem, Nat.reduceEqDiff, ↓reduceIte, Nat.reduceAdd, hneg, a0]
  refine callK_of (by kernel_rfl) (toI _ (hr.ext x1)) ?_
  rintro _ w2 ⟨b2, A2, rfl, x2, o2⟩
  simp (disch := omega) only [go_sem, Nat.reduceEqDiff, ↓reduceIte, Nat.reduceAdd, a1, a2]
  refine callK_of (by kernel_rfl) (specPeakIsland_c _ _ _ _ _ _ _ _ (at' o2)) ?_
  rintro _ w3 ⟨rfl, x3⟩
  have x13 := (x1.trans x2).trans x3
  simp (disch := omega) only [go_sem, Nat.reduceEqDiff, ↓reduceIte, Nat.reduceAdd, a0]
  refine callK_of (by kernel_rfl) (toI _ (hr.ext x13)) ?_
  rintro _ w4 ⟨b4, A4, rfl, x4, o4⟩
  simp (disch := omega) only [go_sem, Nat.reduceEqDiff, ↓reduceIte, Nat.reduceAdd, a1, a2]
  refine callK_of (by kernel_rfl) (implPeakIsland_c _ _ _ _ _ _ _ _ (at' o4)) ?_
  rintro _ w5 ⟨rfl, x5⟩
  have hne : (islOf rows lv num != islOf rows lv num) = false := bne_self_eq_false _
  have x15 := (x13.trans x4).trans x5
  simp (disch := omega) only [go_sem, Nat.reduceEqDiff, ↓reduceIte, Nat.reduceAdd, a0, hne]
  refine callK_of (by kernel_rfl) (toI _ (hr.ext x15)) ?_
  rintro _ w6 ⟨b6, A6, rfl, x6, o6⟩
  simp (disch := omega) only [go_sem, Nat.reduceEqDiff, ↓reduceIte, Nat.reduceAdd]
  refine callK_of (by kernel_rfl) (eqIntSS_c _ _ _ _ _ _ _ _ _ _ _ (at' ((o4.ext x5).ext x6)) (at' o6)) ?_
  rintro _ w7 ⟨rfl, x7⟩
  simp (disch := omega) only [go_sem, Nat.reduceEqDiff, ↓reduceIte, Nat.reduceAdd, decide_true, Try.results7]
  exact ⟨trivial, (x15.trans x6).trans x7⟩

end Go.Proofs.Ytlnodngkacbfkaa
