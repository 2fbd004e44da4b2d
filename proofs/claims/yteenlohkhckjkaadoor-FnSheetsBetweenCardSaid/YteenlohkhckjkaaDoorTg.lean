/- Sheets beside, first places of sheets, steps between places and sheets. -/
import Derived.Test.YteenlohkhckjkaaDoorTf
set_option linter.all false
set_option maxRecDepth 20000
namespace Go.SW
open Go Go.RowKit
def gp (a b : Nat) : Int := if a = b then 0 else ((((a : Int) - b).natAbs : Int) - 1) * 4 + 1
/-- Steps between two sheets. -/
def sFar (l m : List UInt8) : Int := if fOk l && fOk m then gp (fRow l) (fRow m) + gp (fCol l) (fCol m) else -1
end Go.SW
namespace Go.Proofs.YteenlohkhckjkaaDoor
open Go.RowKit Go.SW

theorem specSheetBeside_c (l : List UInt8) (dx dy : Int) (w : World) (hx : I64 dx) (hy : I64 dy) : Ret Tryd.prog 18 #[.string (bs l), .int .i64 dx, .int .i64 dy] w fun v w' => v = .tuple #[.string (bs (bsName l dx dy)), .bool (bsOk l dx dy)] ∧ Ext w w' := by
  have bad : ¬ bsOk l dx dy = true → Value.tuple #[.string (bs []), .bool false] = .tuple #[.string (bs (bsName l dx dy)), .bool (bsOk l dx dy)] := fun h => by
    simp only [Bool.not_eq_true] at h
    simp [bsName, h]
  obtain ⟨hc, hr⟩ := fnd_lt l
  refine enter3 Tryd.func18 rfl (by kernel_rfl) (of_decide_eq_true (by kernel_rfl)) fun f a0 a1 a2 => ?_
  simp (disch := omega) only [go_sem, Nat.reduceEqDiff, ↓reduceIte, Nat.reduceAdd, a0]
  refine callK_pure (by kernel_rfl) (l7Find_c l _) fun w1 x1 => ?_
  simp (disch := omega) only [go_sem, Nat.reduceEqDiff, ↓reduceIte, Nat.reduceAdd]
  cases ho : fOk l with
  | false =>
    simp (disch := omega) only [go_sem, Nat.reduceEqDiff, ↓reduceIte, Nat.reduceAdd, Tryd.results18]
    exact ⟨bad (by simp [bsOk, ho]), x1⟩
  | true =>
    simp (disch := omega) only [go_sem, Nat.reduceEqDiff, ↓reduceIte, Nat.reduceAdd, a1]
    refine callK_pure (by kernel_rfl) (l6In_c _ _ _ _) fun w2 x2 => ?_
    cases h1 : decide (0 - (fCol l : Int) ≤ dx ∧ dx ≤ 25 - (fCol l : Int)) with
    | false =>
      simp (disch := omega) only [go_sem, Nat.reduceEqDiff, ↓reduceIte, Nat.reduceAdd, h1, Tryd.results18]
      have h1' := of_decide_eq_false h1
      exact ⟨bad (by rw [bsOk_iff]; omega), x1.trans x2⟩
    | true =>
      have h1' := of_decide_eq_true h1
      simp (disch := omega) only [go_sem, Nat.reduceEqDiff, ↓reduceIte, Nat.reduceAdd, h1, a2]
      refine callK_pure (by kernel_rfl) (l6In_c _ _ _ _) fun w3 x3 => ?_
      cases h2 : decide (0 - (fRow l : Int) ≤ dy ∧ dy ≤ 25 - (fRow l : Int)) with
      | false =>
        simp (disch := omega) only [go_sem, Nat.reduceEqDiff, ↓reduceIte, Nat.reduceAdd, h2, Tryd.results18]
        have h2' := of_decide_eq_false h2
        exact ⟨bad (by rw [bsOk_iff]; omega), (x1.trans x2).trans x3⟩
      | true =>
        have h2' := of_decide_eq_true h2
        have e1 : (fCol l : Int) + dx = (((fCol l : Int) + dx).toNat : Int) := by omega
        have e2 : (fRow l : Int) + dy = (((fRow l : Int) + dy).toNat : Int) := by omega
        have hb : bsOk l dx dy = true := bsOk_iff.2 ⟨ho, by omega⟩
        have hn : bsName l dx dy = sname ((fCol l : Int) + dx).toNat ((fRow l : Int) + dy).toNat := by rw [bsName, if_pos hb]
        generalize ((fCol l : Int) + dx).toNat = C at e1 hn
        generalize ((fRow l : Int) + dy).toNat = R at e2 hn
        simp (disch := omega) only [go_sem, Nat.reduceEqDiff, ↓reduceIte, Nat.reduceAdd, h2, a1, a2, e1, e2]
        refine callK_pure (by kernel_rfl) (l7Name_c C R (by omega) (by omega) _) fun w4 x4 => ?_
        simp (disch := omega) only [go_sem, Nat.reduceEqDiff, ↓reduceIte, Nat.reduceAdd, Tryd.results18]
        exact ⟨by rw [hb, hn], ((x1.trans x2).trans x3).trans x4⟩

theorem implSheetBeside_c (l : List UInt8) (dx dy : Int) (w : World) : Ret Tryd.prog 19 #[.string (bs l), .int .i64 dx, .int .i64 dy] w fun v w' => v = .tuple #[.string (bs (bsName l dx dy)), .bool (bsOk l dx dy)] ∧ Ext w w' := by
  have bad : ¬ bsOk l dx dy = true → Value.tuple #[.string (bs []), .bool false] = .tuple #[.string (bs (bsName l dx dy)), .bool (bsOk l dx dy)] := fun h => by
    simp only [Bool.not_eq_true] at h
    simp [bsName, h]
  obtain ⟨hc, hr⟩ := fnd_lt l
  refine enter3 Tryd.func19 rfl (by kernel_rfl) (of_decide_eq_true (by kernel_rfl)) fun f a0 a1 a2 => ?_
  simp (disch := omega) only [go_sem, Nat.reduceEqDiff, ↓reduceIte, Nat.reduceAdd, a0]
  refine callK_pure (by kernel_rfl) (sheetNamed_c l _) fun w1 x1 => ?_
  simp (disch := omega) only [go_sem, Nat.reduceEqDiff, ↓reduceIte, Nat.reduceAdd]
  refine allocK_of zero_sh fun w2 b2 _ x2 k2 _ => ?_
  simp (disch := omega) only [go_sem, Nat.reduceEqDiff, ↓reduceIte, Nat.reduceAdd]
  refine stK_agg siz_sh (by simp) (by simp [Value.oneCell']) k2 (by simp) fun w3 k3 g3 => ?_
  have x3 := g3.ext (x1.trans x2) (by have := x1.size; omega)
  cases ho : fOk l with
  | false =>
    simp (disch := omega) only [go_sem, Nat.reduceEqDiff, ↓reduceIte, Nat.reduceAdd, Tryd.results19]
    exact ⟨bad (by simp [bsOk, ho]), x3⟩
  | true =>
    by_cases h1 : dx ≤ -26
    · simp (disch := omega) only [go_sem, Nat.reduceEqDiff, ↓reduceIte, Nat.reduceAdd, a1, h1, Tryd.results19]
      exact ⟨bad (by rw [bsOk_iff]; omega), x3⟩
    by_cases h2 : 26 ≤ dx
    · simp (disch := omega) only [go_sem, Nat.reduceEqDiff, ↓reduceIte, Nat.reduceAdd, a1, h1, h2, Tryd.results19]
      exact ⟨bad (by rw [bsOk_iff]; omega), x3⟩
    by_cases h3 : dy ≤ -26
    · simp (disch := omega) only [go_sem, Nat.reduceEqDiff, ↓reduceIte, Nat.reduceAdd, a1, a2, h1, h2, h3, Tryd.results19]
      exact ⟨bad (by rw [bsOk_iff]; omega), x3⟩
    by_cases h4 : 26 ≤ dy
    · simp (disch := omega) only [go_sem, Nat.reduceEqDiff, ↓reduceIte, Nat.reduceAdd, a1, a2, h1, h2, h3, h4, Tryd.results19]
      exact ⟨bad (by rw [bsOk_iff]; omega), x3⟩
    simp (disch := omega) only [go_sem, Nat.reduceEqDiff, ↓reduceIte, Nat.reduceAdd, a1, a2, h1, h2, h3, h4, k3.cell, Value.cells]
    refine allocK_of zero_sh fun w4 b4 _ x4 k4 _ => ?_
    simp (disch := omega) only [go_sem, Nat.reduceEqDiff, ↓reduceIte, Nat.reduceAdd]
    refine stK_agg siz_sh (by simp) (by simp [Value.oneCell']) k4 (by simp) fun w5 k5 g5 => ?_
    have x5 := g5.ext (x3.trans x4) (by have := x3.size; omega)
    simp (disch := omega) only [go_sem, Nat.reduceEqDiff, ↓reduceIte, Nat.reduceAdd, readCells_blk k5 (n := 2) (by simp [Value.cells])]
    refine callK_pure (by kernel_rfl) (sheetThere_c _ _ _) fun w6 x6 => ?_
    have k6 := k5.ext x6
    cases hb : bsOk l dx dy with
    | false =>
      have hd : decide (0 ≤ (fRow l : Int) + dy ∧ (fRow l : Int) + dy < 26 ∧ 0 ≤ (fCol l : Int) + dx ∧ (fCol l : Int) + dx < 26) = false := by
        rw [decide_eq_false_iff_not]
        intro h
        have := bsOk_iff.2 ⟨ho, h.2.2.1, h.2.2.2, h.1, h.2.1⟩
        rw [hb] at this; cases this
      simp (disch := omega) only [go_sem, Nat.reduceEqDiff, ↓reduceIte, Nat.reduceAdd, hd, Tryd.results19]
      exact ⟨by simp [bsName, hb], x5.trans x6⟩
    | true =>
      have hb' := bsOk_iff.1 hb
      have hd : decide (0 ≤ (fRow l : Int) + dy ∧ (fRow l : Int) + dy < 26 ∧ 0 ≤ (fCol l : Int) + dx ∧ (fCol l : Int) + dx < 26) = true := by
        rw [decide_eq_true_eq]; omega
      simp (disch := omega) only [go_sem, Nat.reduceEqDiff, ↓reduceIte, Nat.reduceAdd, hd, readCells_blk k6 (n := 2) (by simp [Value.cells])]
      have e1 : (fCol l : Int) + dx = (((fCol l : Int) + dx).toNat : Int) := by omega
      have e2 : (fRow l : Int) + dy = (((fRow l : Int) + dy).toNat : Int) := by omega
      have hn : bsName l dx dy = sname ((fCol l : Int) + dx).toNat ((fRow l : Int) + dy).toNat := by rw [bsName, if_pos hb]
      generalize ((fCol l : Int) + dx).toNat = C at e1 hn
      generalize ((fRow l : Int) + dy).toNat = R at e2 hn
      rw [e1, e2]
      refine callK_pure (by kernel_rfl) (sheetName_c C R (by omega) (by omega) _) fun w7 x7 => ?_
      simp (disch := omega) only [go_sem, Nat.reduceEqDiff, ↓reduceIte, Nat.reduceAdd, Tryd.results19]
      exact ⟨by rw [hn], (x5.trans x6).trans x7⟩

theorem exactSheetBeside_c (l : List UInt8) (dx dy : Int) (w : World) (hx : I64 dx) (hy : I64 dy) : Ret Tryd.prog 5 #[.string (bs l), .int .i64 dx, .int .i64 dy] w fun v w' => v = .bool true ∧ Ext w w' := by
  refine enter3 Tryd.func5 rfl (by kernel_rfl) (of_decide_eq_true (by kernel_rfl)) fun f a0 a1 a2 => ?_
  by_cases hbig : (1048576 : Int) < l.length
  · simp (disch := omega) only [go_sem, Nat.reduceEqDiff, ↓reduceIte, Nat.reduceAdd, a0, hbig, Tryd.results5]
    exact ⟨trivial, Ext.refl _⟩
  simp (disch := omega) only [go_sem, Nat.reduceEqDiff, ↓reduceIte, Nat.reduceAdd, a0, a1, a2, hbig]
  refine callK_pure (by kernel_rfl) (specSheetBeside_c l dx dy _ hx hy) fun w1 x1 => ?_
  simp (disch := omega) only [go_sem, Nat.reduceEqDiff, ↓reduceIte, Nat.reduceAdd, a0, a1, a2]
  refine callK_pure (by kernel_rfl) (implSheetBeside_c l dx dy _) fun w2 x2 => ?_
  have h1 : (!(bsName l dx dy == bsName l dx dy)) = false := by simp
  have h2 : (!(bsOk l dx dy == bsOk l dx dy)) = false := by simp
  simp (disch := omega) only [go_sem, Nat.reduceEqDiff, ↓reduceIte, Nat.reduceAdd, h1, h2, Tryd.results5]
  exact ⟨trivial, x1.trans x2⟩

theorem specSheetFrom_c (l : List UInt8) (w : World) : Ret Tryd.prog 32 #[.string (bs l)] w fun v w' => v = .tuple #[.int .i64 (4 * fCol l : Nat), .int .i64 (4 * fRow l : Nat), .bool (fOk l)] ∧ Ext w w' := by
  obtain ⟨hc, hr⟩ := fnd_lt l
  have e1 : (fCol l : Int) * 4 = ((4 * fCol l : Nat) : Int) := by omega
  have e2 : (fRow l : Int) * 4 = ((4 * fRow l : Nat) : Int) := by omega
  refine enter1 Tryd.func32 rfl (by kernel_rfl) (of_decide_eq_true (by kernel_rfl)) fun f a0 => ?_
  simp (disch := omega) only [go_sem, Nat.reduceEqDiff, ↓reduceIte, Nat.reduceAdd, a0]
  refine callK_pure (by kernel_rfl) (l7Find_c l _) fun w1 x1 => ?_
  simp (disch := omega) only [go_sem, Nat.reduceEqDiff, ↓reduceIte, Nat.reduceAdd, e1, e2, Tryd.results32]
  exact ⟨trivial, x1⟩

theorem implSheetFrom_c (l : List UInt8) (w : World) : Ret Tryd.prog 26 #[.string (bs l)] w fun v w' => v = .tuple #[.int .i64 (4 * fCol l : Nat), .int .i64 (4 * fRow l : Nat), .bool (fOk l)] ∧ Ext w w' := by
  obtain ⟨hc, hr⟩ := fnd_lt l
  refine enter1 Tryd.func26 rfl (by kernel_rfl) (of_decide_eq_true (by kernel_rfl)) fun f a0 => ?_
  simp (disch := omega) only [go_sem, Nat.reduceEqDiff, ↓reduceIte, Nat.reduceAdd, a0]
  refine callK_pure (by kernel_rfl) (sheetNamed_c l _) fun w1 x1 => ?_
  simp (disch := omega) only [go_sem, Nat.reduceEqDiff, ↓reduceIte, Nat.reduceAdd]
  refine allocK_of zero_sh fun w2 b2 _ x2 k2 _ => ?_
  simp (disch := omega) only [go_sem, Nat.reduceEqDiff, ↓reduceIte, Nat.reduceAdd]
  refine stK_agg siz_sh (by simp) (by simp [Value.oneCell']) k2 (by simp) fun w3 k3 g3 => ?_
  have x3 := g3.ext (x1.trans x2) (by have := x1.size; omega)
  cases ho : fOk l with
  | false =>
    simp (disch := omega) only [go_sem, Nat.reduceEqDiff, ↓reduceIte, Nat.reduceAdd, Tryd.results26]
    obtain ⟨-, h1, h2⟩ := fOk_not (fOk_none ho)
    exact ⟨by rw [h1, h2]; rfl, x3⟩
  | true =>
    simp (disch := omega) only [go_sem, Nat.reduceEqDiff, ↓reduceIte, Nat.reduceAdd, readCells_blk k3 (n := 2) (by simp [Value.cells])]
    refine callK_pure (by kernel_rfl) (corner_c (fRow l) (fCol l) hr hc _) fun w4 x4 => ?_
    simp (disch := omega) only [go_sem, Nat.reduceEqDiff, ↓reduceIte, Nat.reduceAdd]
    refine allocK_of zero_pl fun w5 b5 _ x5 k5 _ => ?_
    simp (disch := omega) only [go_sem, Nat.reduceEqDiff, ↓reduceIte, Nat.reduceAdd]
    refine stK_agg siz_pl (by simp) (by simp [Value.oneCell']) k5 (by simp) fun w6 k6 g6 => ?_
    have x6 := g6.ext ((x3.trans x4).trans x5) (by have := (x3.trans x4).size; omega)
    simp (disch := omega) only [go_sem, Nat.reduceEqDiff, ↓reduceIte, Nat.reduceAdd]
    refine QR_of (by kernel_rfl) (by kernel_rfl) ?_
    simp (disch := omega) only [go_sem, Nat.reduceEqDiff, ↓reduceIte, Nat.reduceAdd, k6.cell, Value.cells, ldS_none, Tryd.results26]
    exact fun w7 x7 => ⟨trivial, x6.trans x7⟩

theorem apart_c (a b : Int) (w : World) (ha : 0 ≤ a ∧ a ≤ 1000) (hb : 0 ≤ b ∧ b ≤ 1000) : Ret Tryd.prog 57 #[.int .i64 a, .int .i64 b] w fun v w' => v = .int .i64 ((a - b).natAbs : Nat) ∧ Ext w w' := by
  have e : max a b - min a b = ((a - b).natAbs : Int) := by omega
  refine enter2 Tryd.func57 rfl (by kernel_rfl) (of_decide_eq_true (by kernel_rfl)) fun f a0 a1 => ?_
  simp (disch := omega) only [go_sem, Nat.reduceEqDiff, ↓reduceIte, Nat.reduceAdd, a0, a1, e, Tryd.results57]
  exact ⟨trivial, Ext.refl _⟩
theorem l7Size_c (n : Int) (w : World) (hn : -1000 ≤ n ∧ n ≤ 1000) : Ret Tryd.prog 58 #[.int .i64 n] w fun v w' => v = .int .i64 (n.natAbs : Nat) ∧ Ext w w' := by
  have e : max n (0 - n) = (n.natAbs : Int) := by omega
  refine enter1 Tryd.func58 rfl (by kernel_rfl) (of_decide_eq_true (by kernel_rfl)) fun f a0 => ?_
  simp (disch := omega) only [go_sem, Nat.reduceEqDiff, ↓reduceIte, Nat.reduceAdd, a0, e, Tryd.results58]
  exact ⟨trivial, Ext.refl _⟩

theorem implPlaceFar_c (ax ay bx dy : Int) (w : World) : Ret Tryd.prog 28 #[.int .i64 ax, .int .i64 ay, .int .i64 bx, .int .i64 dy] w fun v w' => v = .int .i64 (far ax ay bx dy) ∧ Ext w w' := by
  refine enter4 Tryd.func28 rfl (by kernel_rfl) (of_decide_eq_true (by kernel_rfl)) fun f a0 a1 a2 a3 => ?_
  simp (disch := omega) only [go_sem, Nat.reduceEqDiff, ↓reduceIte, Nat.reduceAdd, a0, a1, a2, a3]
  refine allocK_of zero_pl fun w1 b1 _ x1 k1 s1 => ?_
  simp (disch := omega) only [go_sem, Nat.reduceEqDiff, ↓reduceIte, Nat.reduceAdd]
  refine allocK_of zero_pl fun w2 b2 _ x2 k2 s2 => ?_
  simp (disch := omega) only [go_sem, Nat.reduceEqDiff, ↓reduceIte, Nat.reduceAdd]
  refine stK_agg siz_pl (by simp) (by simp [Value.oneCell']) (k1.ext x2) (by simp) fun w3 k3 g3 => ?_
  simp (disch := omega) only [go_sem, Nat.reduceEqDiff, ↓reduceIte, Nat.reduceAdd]
  refine stK_agg siz_pl (by simp) (by simp [Value.oneCell']) (g3.blk k2 (by omega)) (by simp) fun w4 k4 g4 => ?_
  have x4 := g4.ext (g3.ext (x1.trans x2) (by omega)) (by omega)
  have k3 := g4.blk k3 (by omega)
  simp (disch := omega) only [go_sem, Nat.reduceEqDiff, ↓reduceIte, Nat.reduceAdd, readCells_blk k3 (n := 2) (by simp [Value.cells])]
  refine callK_pure (by kernel_rfl) (placeThere_c ax ay _) fun w5 x5 => ?_
  cases h1 : plc ax ay with
  | false =>
    simp (disch := omega) only [go_sem, Nat.reduceEqDiff, ↓reduceIte, Nat.reduceAdd, Tryd.results28]
    exact ⟨by simp [far, h1], x4.trans x5⟩
  | true =>
    have k4 := k4.ext x5
    simp (disch := omega) only [go_sem, Nat.reduceEqDiff, ↓reduceIte, Nat.reduceAdd, readCells_blk k4 (n := 2) (by simp [Value.cells])]
    refine callK_pure (by kernel_rfl) (placeThere_c bx dy _) fun w6 x6 => ?_
    cases h2 : plc bx dy with
    | false =>
      simp (disch := omega) only [go_sem, Nat.reduceEqDiff, ↓reduceIte, Nat.reduceAdd, Tryd.results28]
      exact ⟨by simp [far, h2], (x4.trans x5).trans x6⟩
    | true =>
      have p1 := plc_iff.1 h1
      have p2 := plc_iff.1 h2
      simp (disch := omega) only [go_sem, Nat.reduceEqDiff, ↓reduceIte, Nat.reduceAdd, a0, a2]
      refine callK_pure (by kernel_rfl) (apart_c ax bx _ (by omega) (by omega)) fun w7 x7 => ?_
      simp (disch := omega) only [go_sem, Nat.reduceEqDiff, ↓reduceIte, Nat.reduceAdd, a1, a3]
      refine callK_pure (by kernel_rfl) (apart_c ay dy _ (by omega) (by omega)) fun w8 x8 => ?_
      simp (disch := omega) only [go_sem, Nat.reduceEqDiff, ↓reduceIte, Nat.reduceAdd, Tryd.results28]
      exact ⟨by simp [far, h1, h2], (((x4.trans x5).trans x6).trans x7).trans x8⟩

theorem specPlaceFar_c (ax ay bx dy : Int) (w : World) : Ret Tryd.prog 29 #[.int .i64 ax, .int .i64 ay, .int .i64 bx, .int .i64 dy] w fun v w' => v = .int .i64 (far ax ay bx dy) ∧ Ext w w' := by
  refine enter4 Tryd.func29 rfl (by kernel_rfl) (of_decide_eq_true (by kernel_rfl)) fun f a0 a1 a2 a3 => ?_
  simp (disch := omega) only [go_sem, Nat.reduceEqDiff, ↓reduceIte, Nat.reduceAdd, a0, a1]
  refine callK_pure (by kernel_rfl) (l7Place_c ax ay _) fun w5 x5 => ?_
  cases h1 : plc ax ay with
  | false =>
    simp (disch := omega) only [go_sem, Nat.reduceEqDiff, ↓reduceIte, Nat.reduceAdd, Tryd.results29]
    exact ⟨by simp [far, h1], x5⟩
  | true =>
    simp (disch := omega) only [go_sem, Nat.reduceEqDiff, ↓reduceIte, Nat.reduceAdd, a2, a3]
    refine callK_pure (by kernel_rfl) (l7Place_c bx dy _) fun w6 x6 => ?_
    cases h2 : plc bx dy with
    | false =>
      simp (disch := omega) only [go_sem, Nat.reduceEqDiff, ↓reduceIte, Nat.reduceAdd, Tryd.results29]
      exact ⟨by simp [far, h2], x5.trans x6⟩
    | true =>
      have p1 := plc_iff.1 h1
      have p2 := plc_iff.1 h2
      simp (disch := omega) only [go_sem, Nat.reduceEqDiff, ↓reduceIte, Nat.reduceAdd, a0, a2]
      refine callK_pure (by kernel_rfl) (l7Size_c (ax - bx) _ (by omega)) fun w7 x7 => ?_
      simp (disch := omega) only [go_sem, Nat.reduceEqDiff, ↓reduceIte, Nat.reduceAdd, a1, a3]
      refine callK_pure (by kernel_rfl) (l7Size_c (ay - dy) _ (by omega)) fun w8 x8 => ?_
      simp (disch := omega) only [go_sem, Nat.reduceEqDiff, ↓reduceIte, Nat.reduceAdd, Tryd.results29]
      exact ⟨by simp [far, h1, h2], ((x5.trans x6).trans x7).trans x8⟩
end Go.Proofs.YteenlohkhckjkaaDoor
