/- Contracts: levels and land, both sides; the law FnExactLevelLand. -/
import Derived.Test.YtdlepfeckiahdaaCa
import Derived.Test.YtdlepfeckiahdaaCc
set_option linter.all false
namespace Go.Proofs.Ytdlepfeckiahdaa
open Go.RowKit Go.SW

/-- What leveled hands back. -/
def Leveled (w : World) (rows : List (List Int)) (lv : Int) (v : Value) (w' : World) : Prop :=
  Ext w w' ∧ ((lvok rows lv = true ∧ ∃ cb, v = .tuple #[.agg #[.int .i64 rows.length, .int .i64 (rowLen rows), .slice (some ⟨cb, 0, none⟩) (rows.length * rowLen rows) (rows.length * rowLen rows)], .bool true] ∧ w.heap.size ≤ cb ∧
      CellsAt w' cb (rows.length * rowLen rows) (hgt rows)) ∨
    (lvok rows lv = false ∧ v = .tuple #[.agg #[.int .i64 0, .int .i64 0, .slice none 0 0], .bool false]))

theorem leveled_c (a : Option Addr) (rows : List (List Int)) (A : Nat → Option Addr) (Cp : Nat → Nat) (gc : Nat) (lv : Int) (w : World) (hr : RowsAt w a rows A Cp) :
    Ret Try.prog 58 #[.slice a rows.length gc, .int .i64 lv] w (Leveled w rows lv) := by
  refine enter2 Try.func58 rfl (by kernel_rfl) (of_decide_eq_true (by kernel_rfl)) fun f a0 a1 => ?_
  simp only [go_sem, Nat.reduceEqDiff, ↓reduceIte]
  refine allocK_of zero_f fun w1 b4 e4 x1 k4 _ => ?_
  have hb4 := k4.lt
  simp only [go_sem, Nat.reduceEqDiff, ↓reduceIte, a0]
  refine callK_of (by kernel_rfl) (fieldOf_c _ _ _ _ _ _ (hr.ext x1)) ?_
  rintro _ w2 ⟨x2, (⟨hv, cb, rfl, hcb, o⟩ | ⟨hv, rfl⟩)⟩
  · simp only [go_sem, Nat.reduceEqDiff, ↓reduceIte]
    refine allocK_of zero_f fun w3 b6 e6 x3 k6 _ => ?_
    simp only [go_sem, Nat.reduceEqDiff, ↓reduceIte]
    have hcb2 : cb < w2.heap.size := o.blk_lt rfl
    refine stK_agg siz_f (by simp) (by simp [Value.oneCell']) k6 (by simp) fun w4 k6 g4 => ?_
    have o4 := (o.ext x3).grow g4.grow (by simp [blk]; omega)
    have k4 := g4.blk ((k4.ext x2).ext x3) (by have := x2.size; omega)
    have x4 : Ext w w4 := g4.ext ((x1.trans x2).trans x3) (by have := x1.size; have := x2.size; omega)
    simp only [go_sem, Nat.reduceEqDiff, ↓reduceIte, a1]
    refine callK_of (by kernel_rfl) (isHeight_c _ _) ?_
    rintro _ w5 ⟨rfl, x5⟩
    have o5 := o4.ext x5
    by_cases hh : 0 ≤ lv ∧ lv ≤ 99
    · simp only [go_sem, Nat.reduceEqDiff, ↓reduceIte, hh, and_self, readCells_blk (k6.ext x5) (n := 3) (by simp)]
      refine stK_agg siz_f (by simp) (by simp [Value.oneCell']) (k4.ext x5) (by simp) fun w6 k4 g6 => ?_
      simp only [go_sem, Nat.reduceEqDiff, ↓reduceIte, Try.results58, readCells_blk k4 (n := 3) (by simp)]
      have o6 := o5.grow g6.grow (by simp [blk]; omega)
      refine ⟨g6.ext (x4.trans x5) (by have := x1.size; omega), .inl ⟨by simp [lvok, hv, hh], cb, rfl, by have := x1.size; omega, fun i hi => ?_⟩⟩
      have := o6.cellsAt i hi
      simp only [hs_get rows i hi] at this
      exact this
    · simp only [go_sem, Nat.reduceEqDiff, ↓reduceIte, hh]
      refine stK_agg siz_f (by simp) (by simp [Value.oneCell']) (k4.ext x5) (by simp) fun w6 k4 g6 => ?_
      simp only [go_sem, Nat.reduceEqDiff, ↓reduceIte, Try.results58, readCells_blk k4 (n := 3) (by simp)]
      exact ⟨g6.ext (x4.trans x5) (by have := x1.size; omega), .inr ⟨by simp [lvok, hh], rfl⟩⟩
  · simp only [go_sem, Nat.reduceEqDiff, ↓reduceIte]
    refine allocK_of zero_f fun w3 b6 e6 x3 k6 _ => ?_
    simp only [go_sem, Nat.reduceEqDiff, ↓reduceIte]
    refine stK_agg siz_f (by simp) (by simp [Value.oneCell']) k6 (by simp) fun w4 k6 g4 => ?_
    have k4 := g4.blk ((k4.ext x2).ext x3) (by have := x2.size; omega)
    have x4 : Ext w w4 := g4.ext ((x1.trans x2).trans x3) (by have := x1.size; have := x2.size; omega)
    simp only [go_sem, Nat.reduceEqDiff, ↓reduceIte]
    refine stK_agg siz_f (by simp) (by simp [Value.oneCell']) k4 (by simp) fun w6 k4 g6 => ?_
    simp only [go_sem, Nat.reduceEqDiff, ↓reduceIte, Try.results58, readCells_blk k4 (n := 3) (by simp)]
    exact ⟨g6.ext x4 (by have := x1.size; omega), .inr ⟨by simp [lvok, hv], rfl⟩⟩

theorem land_c (R C : Int) (cb n : Nat) (h : Nat → Int) (lv : Int) (w : World) (hc : CellsAt w cb n h) (hn : n ≤ 1000) :
    Ret Try.prog 59 #[.agg #[.int .i64 R, .int .i64 C, .slice (some ⟨cb, 0, none⟩) n n], .int .i64 lv] w fun v w' => v = .int .i64 (cntp (fun i => lv ≤ h i) n) ∧ Ext w w' := by
  refine enter2 Try.func59 rfl (by kernel_rfl) (of_decide_eq_true (by kernel_rfl)) fun f a0 a1 => ?_
  simp only [go_sem, Nat.reduceEqDiff, ↓reduceIte, a0]
  refine boxK_of fun w1 b _ x1 k1 _ => ?_
  simp (disch := omega) only [go_sem, Nat.reduceEqDiff, ↓reduceIte, Nat.reduceAdd, k1.cell, Value.cells]
  refine loopX (fun m f w' => ∃ k : Nat, m = n - k ∧ k ≤ n ∧ f 1 = .int .i64 lv ∧ f 5 = .int .i64 (cntp (fun i => lv ≤ h i) k) ∧ f 9 = .slice (some ⟨cb, 0, none⟩) n n ∧ f 10 = .int .i64 n ∧ f 11 = .int .i64 k ∧ Ext w w') n ?_ fun m f w' ⟨k, hm, hk, a1, a5, a9, a10, a11, xw⟩ => ?_
  · exact ⟨0, by omega, by omega, by simp [upd_apply, a1], by simp [upd_apply, cntp], by simp [upd_apply], by simp [upd_apply], by simp [upd_apply], x1⟩
  · by_cases hlt : (k : Int) < n
    · have g0 := (hc.ext xw) k (by omega)
      have hcl := cntp_le (fun i => lv ≤ h i) k
      by_cases hh : lv ≤ h k
      all_goals
        simp (disch := omega) only [go_sem, Nat.reduceEqDiff, ↓reduceIte, a1, a5, a9, a10, a11, hlt, Nat.zero_add, g0, hh]
        exact ⟨n - (k + 1), by omega, k + 1, rfl, by omega, by simp [upd_apply, a1], by simp [upd_apply, cntp, hh, a5], by simp [upd_apply, a9], by simp [upd_apply, a10], by simp [upd_apply], xw⟩
    · simp (disch := omega) only [go_sem, Nat.reduceEqDiff, ↓reduceIte, a5, a10, a11, hlt, Try.results59]
      exact ⟨by rw [show k = n by omega], xw⟩

/-- What LevelLand answers. -/
def landOf (rows : List (List Int)) (lv : Int) : Int := if lvok rows lv = true then (cntp (fun i => lv ≤ hgt rows i) (rows.length * rowLen rows) : Nat) else -1

theorem lv_le {rows : List (List Int)} {lv : Int} (h : lvok rows lv = true) : rows.length * rowLen rows ≤ 49 := by
  simp only [lvok, Bool.and_eq_true] at h
  have v := (gvalid_iff rows).1 h.1
  exact Nat.mul_le_mul v.r7 v.c7

theorem implLevelLand_c (a : Option Addr) (rows : List (List Int)) (A : Nat → Option Addr) (Cp : Nat → Nat) (gc : Nat) (lv : Int) (w : World) (hr : RowsAt w a rows A Cp) :
    Ret Try.prog 18 #[.slice a rows.length gc, .int .i64 lv] w fun v w' => v = .int .i64 (landOf rows lv) ∧ Ext w w' := by
  refine enter2 Try.func18 rfl (by kernel_rfl) (of_decide_eq_true (by kernel_rfl)) fun f a0 a1 => ?_
  simp only [go_sem, Nat.reduceEqDiff, ↓reduceIte, a0, a1]
  refine callK_of (by kernel_rfl) (leveled_c _ _ _ _ _ _ _ hr) ?_
  rintro _ w2 ⟨x2, (⟨hv, cb, rfl, hcb, o⟩ | ⟨hv, rfl⟩)⟩
  all_goals
    simp only [go_sem, Nat.reduceEqDiff, ↓reduceIte]
    refine allocK_of zero_f fun w3 b6 e6 x3 k6 _ => ?_
    simp only [go_sem, Nat.reduceEqDiff, ↓reduceIte]
    refine stK_agg siz_f (by simp) (by simp [Value.oneCell']) k6 (by simp) fun w4 k6 g4 => ?_
    have x4 : Ext w w4 := g4.ext (x2.trans x3) (by have := x2.size; omega)
  · have o4 : CellsAt w4 cb _ _ := fun i hi => (o.ext x3).grow g4.grow (by have := o.lt (by omega); simp; omega) i hi
    simp only [go_sem, Nat.reduceEqDiff, ↓reduceIte, readCells_blk k6 (n := 3) (by simp), a1]
    have := lv_le hv
    refine callK_of (by kernel_rfl) (land_c _ _ _ _ _ _ _ o4 (by omega)) ?_
    rintro _ w5 ⟨rfl, x5⟩
    simp only [go_sem, Nat.reduceEqDiff, ↓reduceIte, Try.results18]
    exact ⟨by simp [landOf, hv], x4.trans x5⟩
  · simp only [go_sem, Nat.reduceEqDiff, ↓reduceIte, Try.results18]
    exact ⟨by simp [landOf, hv], x4⟩

theorem l3Ok_c (a : Option Addr) (rows : List (List Int)) (A : Nat → Option Addr) (Cp : Nat → Nat) (gc : Nat) (lv : Int) (w : World) (hr : RowsAt w a rows A Cp) :
    Ret Try.prog 54 #[.slice a rows.length gc, .int .i64 lv] w fun v w' => v = .bool (lvok rows lv) ∧ Ext w w' := by
  refine enter2 Try.func54 rfl (by kernel_rfl) (of_decide_eq_true (by kernel_rfl)) fun f a0 a1 => ?_
  simp only [go_sem, Nat.reduceEqDiff, ↓reduceIte, a0, a1]
  refine callK_of (by kernel_rfl) (gridValid_c _ _ _ _ _ _ hr) ?_
  rintro _ w1 ⟨rfl, x1⟩
  cases hv : gvalid rows with
  | false =>
    simp only [go_sem, Nat.reduceEqDiff, ↓reduceIte, a1, Try.results54, lvok, hv, Bool.false_and, true_and]
    exact x1
  | true =>
    simp only [go_sem, Nat.reduceEqDiff, ↓reduceIte, a1]
    refine callK_of (by kernel_rfl) (l6In_c _ _ _ _) ?_
    rintro _ w2 ⟨rfl, x2⟩
    simp only [go_sem, Nat.reduceEqDiff, ↓reduceIte, Try.results54, lvok, hv, Bool.true_and, true_and]
    exact x1.trans x2

theorem specLevelLand_c (a : Option Addr) (rows : List (List Int)) (A : Nat → Option Addr) (Cp : Nat → Nat) (gc : Nat) (lv : Int) (w : World) (hr : RowsAt w a rows A Cp) :
    Ret Try.prog 16 #[.slice a rows.length gc, .int .i64 lv] w fun v w' => v = .int .i64 (landOf rows lv) ∧ Ext w w' := by
  refine enter2 Try.func16 rfl (by kernel_rfl) (of_decide_eq_true (by kernel_rfl)) fun f a0 a1 => ?_
  simp only [go_sem, Nat.reduceEqDiff, ↓reduceIte, a0, a1]
  refine callK_of (by kernel_rfl) (l3Ok_c _ _ _ _ _ _ _ hr) ?_
  rintro _ w1 ⟨rfl, x1⟩
  cases hv : lvok rows lv with
  | false =>
    simp only [go_sem, Nat.reduceEqDiff, ↓reduceIte, Try.results16, landOf, hv]
    exact ⟨by simp, x1⟩
  | true =>
    have v := (gvalid_iff rows).1 (by simp only [lvok, Bool.and_eq_true] at hv; exact hv.1)
    have hn := lv_le hv
    simp only [go_sem, Nat.reduceEqDiff, ↓reduceIte]
    obtain ⟨gb, go, rb, ro, rfl, -, hg⟩ := hr.grid v
    refine loopX (fun m f w' => ∃ k : Nat, m = rows.length * rowLen rows - k ∧ k ≤ rows.length * rowLen rows ∧ f 0 = .slice (some ⟨gb, go, none⟩) rows.length gc ∧ f 1 = .int .i64 lv ∧ f 5 = .int .i64 (cntp (fun i => lv ≤ hgt rows i) k) ∧ f 6 = .int .i64 k ∧ Ext w w') (rows.length * rowLen rows) ?_ fun m f w' ⟨k, hm, hk, a0, a1, a5, a6, xw⟩ => ?_
    · exact ⟨0, by omega, by omega, by simp [upd_apply, a0], by simp [upd_apply, a1], by simp [upd_apply, cntp], by simp [upd_apply], x1⟩
    · simp only [go_sem, Nat.reduceEqDiff, ↓reduceIte, a0, a6]
      refine callK_of (by kernel_rfl) (l2Cells_c _ _ _ _ _ _ _ _ _ _ (hg.ext xw) v.r1 v.r7 v.c7) ?_
      rintro _ w2 ⟨rfl, x2⟩
      have hcl := cntp_le (fun i => lv ≤ hgt rows i) k
      by_cases hlt : (k : Int) < (rows.length * rowLen rows : Nat)
      · simp only [go_sem, Nat.reduceEqDiff, ↓reduceIte, a0, a6, hlt]
        refine callK_of (by kernel_rfl) (l2Height_c _ _ _ _ _ _ _ _ _ _ ((hg.ext xw).ext x2) v.r7 v.c7 _ (by omega) hlt) ?_
        rintro _ w3 ⟨rfl, x3⟩
        by_cases hh : lv ≤ hgt rows k
        all_goals
          simp (disch := omega) only [go_sem, Nat.reduceEqDiff, ↓reduceIte, a1, a5, a6, hh]
          exact ⟨rows.length * rowLen rows - (k + 1), by omega, k + 1, rfl, by omega, by simp [upd_apply, a0], by simp [upd_apply, a1], by simp [upd_apply, cntp, hh, a5], by simp [upd_apply], (xw.trans x2).trans x3⟩
      · simp (disch := omega) only [go_sem, Nat.reduceEqDiff, ↓reduceIte, a5, hlt, Try.results16]
        exact ⟨by rw [show k = rows.length * rowLen rows by omega]; simp [landOf, hv], xw.trans x2⟩

theorem exactLevelLand_c (a : Option Addr) (rows : List (List Int)) (A : Nat → Option Addr) (Cp : Nat → Nat) (gc : Nat) (lv : Int) (w : World) (hr : RowsAt w a rows A Cp) (_ : I64 lv) :
    Ret Try.prog 3 #[.slice a rows.length gc, .int .i64 lv] w fun v w' => v = .bool true ∧ Ext w w' := by
  refine enter2 Try.func3 rfl (by kernel_rfl) (of_decide_eq_true (by kernel_rfl)) fun f a0 a1 => ?_
  simp only [go_sem, Nat.reduceEqDiff, ↓reduceIte, a0, a1]
  refine callK_of (by kernel_rfl) (szIntSS_c _ _ _ _ _ _ _ hr (by omega) (by omega)) ?_
  rintro _ w1 ⟨x, rfl, x1, hx⟩
  by_cases hneg : x < 0
  · simp only [go_sem, Nat.reduceEqDiff, ↓reduceIte, hneg, Try.results3]
    exact ⟨trivial, x1⟩
  obtain ⟨hn, hl⟩ := hx (by omega)
  have hL : ∀ r, r < rows.length → (rows.getD r []).length ≤ 1048576 := fun r hr' => by have := hl r hr'; omega
  have hN : rows.length ≤ 1048576 := by omega
  have toI := fun w (h : RowsAt w a rows A Cp) => toIntSS_c a rows A Cp gc w h hN hL
  have at' : ∀ {w B b A'}, OwnRows w 40 3 B b rows A' → RowsAt w (some ⟨b, 0, none⟩) rows A' (fun r => (rows.getD r []).length) := fun o => o.at hr.i64 hr.lens hr.len
  simp only [go_sem, Nat.reduceEqDiff, ↓reduceIte, hneg, a0, a1]
  refine callK_of (by kernel_rfl) (toI _ (hr.ext x1)) ?_
  rintro _ w2 ⟨b2, A2, rfl, x2, o2⟩
  simp only [go_sem, Nat.reduceEqDiff, ↓reduceIte, a1]
  refine callK_of (by kernel_rfl) (specLevelLand_c _ _ _ _ _ _ _ (at' o2)) ?_
  rintro _ w3 ⟨rfl, x3⟩
  simp only [go_sem, Nat.reduceEqDiff, ↓reduceIte, a0]
  have x13 := (x1.trans x2).trans x3
  refine callK_of (by kernel_rfl) (toI _ (hr.ext x13)) ?_
  rintro _ w4 ⟨b4, A4, rfl, x4, o4⟩
  simp only [go_sem, Nat.reduceEqDiff, ↓reduceIte, a1]
  refine callK_of (by kernel_rfl) (implLevelLand_c _ _ _ _ _ _ _ (at' o4)) ?_
  rintro _ w5 ⟨rfl, x5⟩
  have hne : (landOf rows lv != landOf rows lv) = false := bne_self_eq_false _
  simp only [go_sem, Nat.reduceEqDiff, ↓reduceIte, a0, hne]
  have x15 := (x13.trans x4).trans x5
  refine callK_of (by kernel_rfl) (toI _ (hr.ext x15)) ?_
  rintro _ w6 ⟨b6, A6, rfl, x6, o6⟩
  simp only [go_sem, Nat.reduceEqDiff, ↓reduceIte]
  refine callK_of (by kernel_rfl) (eqIntSS_c _ _ _ _ _ _ _ _ _ _ _ (at' ((o4.ext x5).ext x6)) (at' o6)) ?_
  rintro _ w7 ⟨rfl, x7⟩
  simp only [go_sem, Nat.reduceEqDiff, ↓reduceIte, decide_true, Try.results3]
  exact ⟨trivial, (x15.trans x6).trans x7⟩

end Go.Proofs.Ytdlepfeckiahdaa
