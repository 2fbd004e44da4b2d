/- Contracts: levels and land, both sides; the law FnExactLevelLand. -/
import Derived.Test.YtlnodngkacbfkaaCa
import Derived.Test.YtlnodngkacbfkaaCc
set_option linter.all false
set_option maxRecDepth 20000
namespace Go.Proofs.Ytlnodngkacbfkaa
open Go.RowKit Go.SW

/-- What leveled hands back. -/
def Leveled (w : World) (rows : List (List Int)) (lv : Int) (v : Value) (w' : World) : Prop :=
  Ext w w' ∧ ((lvok rows lv = true ∧ ∃ cb, v = .tuple #[.agg #[.int .i64 rows.length, .int .i64 (rowLen rows), .slice (some ⟨cb, 0, none⟩) (rows.length * rowLen rows) (rows.length * rowLen rows)], .bool true] ∧ w.heap.size ≤ cb ∧
      CellsAt w' cb (rows.length * rowLen rows) (hgt rows)) ∨
    (lvok rows lv = false ∧ v = .tuple #[.agg #[.int .i64 0, .int .i64 0, .slice none 0 0], .bool false]))

theorem leveled_c (a : Option Addr) (rows : List (List Int)) (A : Nat → Option Addr) (Cp : Nat → Nat) (gc : Nat) (lv : Int) (w : World) (hr : RowsAt w a rows A Cp) :
    Ret Try.prog 81 #[.slice a rows.length gc, .int .i64 lv] w (Leveled w rows lv) := by
  refine enter2 Try.func81 rfl (by kernel_rfl) (of_decide_eq_true (by kernel_rfl)) fun f a0 a1 => ?_
  simp only [go_sem, Nat.reduceEqDiff, ↓reduceIte]
  refine allocK_of zero_f fun w1 b4 e4 x1 k4 _ => ?_
  have hb4 := k4.lt
  simp only [go_sem, Nat.reduceEqDiff, ↓reduceIte, a0]
  refine callK_of (by kernel_rfl) (fieldOf_c _ _ _ _ _ _ (hr.ext x1)) ?_
  rintro _ w2 ⟨x2, (⟨hv, cb, rfl, hcb, o⟩ | ⟨hv, rfl⟩)⟩
  · simp only [go_sem, Nat.reduceEqDiff, ↓reduceIte]
    refine allocK_of zero_f fun w3 b6 e6 x3 k6 _ => ?_
    simp only [go_sem, Nat.reduceEqDiff, ↓reduceIte]
    have hcb2 : cb < w2.heap.size := o.blk_lt rfl
    refine stK_agg siz_f (by simp) (by simp [Value.oneCell']) k6 (by simp) fun w4 k6 g4 => ?_
    have o4 := (o.ext x3).grow g4.grow (by simp [blk]; omega)
    have k4 := g4.blk ((k4.ext x2).ext x3) (by have := x2.size; omega)
    have x4 : Ext w w4 := g4.ext ((x1.trans x2).trans x3) (by have := x1.size; have := x2.size; omega)
    simp only [go_sem, Nat.reduceEqDiff, ↓reduceIte, a1]
    refine callK_of (by kernel_rfl) (isHeight_c _ _) ?_
    rintro _ w5 ⟨rfl, x5⟩
    have o5 := o4.ext x5
    by_cases hh : 0 ≤ lv ∧ lv ≤ 99
    · simp only [go_sem, Nat.reduceEqDiff, ↓reduceIte, hh, and_self, readCells_blk (k6.ext x5) (n := 3) (by simp)]
      refine stK_agg siz_f (by simp) (by simp [Value.oneCell']) (k4.ext x5) (by simp) fun w6 k4 g6 => ?_
      simp only [go_sem, Nat.reduceEqDiff, ↓reduceIte, Try.results81, readCells_blk k4 (n := 3) (by simp)]
      have o6 := o5.grow g6.grow (by simp [blk]; omega)
      refine ⟨g6.ext (x4.trans x5) (by have := x1.size; omega), .inl ⟨by simp [lvok, hv, hh], cb, rfl, by have := x1.size; omega, fun i hi => ?_⟩⟩
      have := o6.cellsAt i hi
      simp only [hs_get rows i hi] at this
      exact this
    · simp only [go_sem, Nat.reduceEqDiff, ↓reduceIte, hh]
      refine stK_agg siz_f (by simp) (by simp [Value.oneCell']) (k4.ext x5) (by simp) fun w6 k4 g6 => ?_
      simp only [go_sem, Nat.reduceEqDiff, ↓reduceIte, Try.results81, readCells_blk k4 (n := 3) (by simp)]
      exact ⟨g6.ext (x4.trans x5) (by have := x1.size; omega), .inr ⟨by simp [lvok, hh], rfl⟩⟩
  · simp only [go_sem, Nat.reduceEqDiff, ↓reduceIte]
    refine allocK_of zero_f fun w3 b6 e6 x3 k6 _ => ?_
    simp only [go_sem, Nat.reduceEqDiff, ↓reduceIte]
    refine stK_agg siz_f (by simp) (by simp [Value.oneCell']) k6 (by simp) fun w4 k6 g4 => ?_
    have k4 := g4.blk ((k4.ext x2).ext x3) (by have := x2.size; omega)
    have x4 : Ext w w4 := g4.ext ((x1.trans x2).trans x3) (by have := x1.size; have := x2.size; omega)
    simp only [go_sem, Nat.reduceEqDiff, ↓reduceIte]
    refine stK_agg siz_f (by simp) (by simp [Value.oneCell']) k4 (by simp) fun w6 k4 g6 => ?_
    simp only [go_sem, Nat.reduceEqDiff, ↓reduceIte, Try.results81, readCells_blk k4 (n := 3) (by simp)]
    exact ⟨g6.ext x4 (by have := x1.size; omega), .inr ⟨by simp [lvok, hv], rfl⟩⟩

/-- What LevelLand answers. -/
def landOf (rows : List (List Int)) (lv : Int) : Int := if lvok rows lv = true then (cntp (fun i => lv ≤ hgt rows i) (rows.length * rowLen rows) : Nat) else -1

theorem lv_le {rows : List (List Int)} {lv : Int} (h : lvok rows lv = true) : rows.length * rowLen rows ≤ 49 := by
  simp only [lvok, Bool.and_eq_true] at h
  have v := (gvalid_iff rows).1 h.1
  exact Nat.mul_le_mul v.r7 v.c7

theorem l3Ok_c (a : Option Addr) (rows : List (List Int)) (A : Nat → Option Addr) (Cp : Nat → Nat) (gc : Nat) (lv : Int) (w : World) (hr : RowsAt w a rows A Cp) :
    Ret Try.prog 108 #[.slice a rows.length gc, .int .i64 lv] w fun v w' => v = .bool (lvok rows lv) ∧ Ext w w' := by
  refine enter2 Try.func108 rfl (by kernel_rfl) (of_decide_eq_true (by kernel_rfl)) fun f a0 a1 => ?_
  simp only [go_sem, Nat.reduceEqDiff, ↓reduceIte, a0, a1]
  refine callK_of (by kernel_rfl) (gridValid_c _ _ _ _ _ _ hr) ?_
  rintro _ w1 ⟨rfl, x1⟩
  cases hv : gvalid rows with
  | false =>
    simp only [go_sem, Nat.reduceEqDiff, ↓reduceIte, a1, Try.results108, lvok, hv, Bool.false_and, true_and]
    exact x1
  | true =>
    simp only [go_sem, Nat.reduceEqDiff, ↓reduceIte, a1]
    refine callK_of (by kernel_rfl) (l6In_c _ _ _ _) ?_
    rintro _ w2 ⟨rfl, x2⟩
    simp only [go_sem, Nat.reduceEqDiff, ↓reduceIte, Try.results108, lvok, hv, Bool.true_and, true_and]
    exact x1.trans x2

end Go.Proofs.Ytlnodngkacbfkaa
