/- PlaceFrom on both sides. -/
import Derived.Test.YteenlohkhckjkaaDoorTl
set_option linter.all false
set_option maxRecDepth 20000
namespace Go.SW
open Go Go.RowKit
theorem qx_le (l : List UInt8) (x0 : Nat) : ∀ k, qx l x0 k ≤ x0 + 4 * k
  | 0 => Nat.le_refl _
  | k + 1 => by
    have := qx_le l x0 k
    have h := Nat.mul_le_mul (sd_le (k + 1)) (show (lt2 l k - 97) % 2 ≤ 1 by omega)
    simp only [qx]; omega
theorem qy_le (l : List UInt8) (y0 : Nat) : ∀ k, (∀ j, j < k → lt2 l j ≤ 100) → qy l y0 k ≤ y0 + 4 * k
  | 0, _ => Nat.le_refl _
  | k + 1, hj => by
    have := qy_le l y0 k fun j h => hj j (by omega)
    have := hj k (by omega)
    have h := Nat.mul_le_mul (sd_le (k + 1)) (show (lt2 l k - 97) / 2 ≤ 1 by omega)
    simp only [qy]; omega
theorem fname_in {x y c r : Nat} (hc : c < 26) (hr : r < 26) : (∃ i j, i < 4 ∧ j < 4 ∧ x = 4 * c + i ∧ y = 4 * r + j) ↔ x / 4 = c ∧ y / 4 = r := by
  constructor
  · rintro ⟨i, j, hi, hj, rfl, rfl⟩; omega
  · rintro ⟨rfl, rfl⟩; exact ⟨x % 4, y % 4, by omega, by omega, by omega, by omega⟩
end Go.SW
namespace Go.Proofs.YteenlohkhckjkaaDoor
open Go.RowKit Go.SW

theorem implPlaceFrom_c (l : List UInt8) (w : World) (hl : l.length ≤ 1000000) : Ret Tryd.prog 35 #[.string (bs l)] w fun v w' => v = .tuple #[.int .i64 (pX l : Nat), .int .i64 (pY l : Nat), .bool (pOk l)] ∧ Ext w w' := by
  have bad : (pOk l = false ∧ pX l = 0 ∧ pY l = 0) → Value.tuple #[.int .i64 0, .int .i64 0, .bool false] = .tuple #[.int .i64 (pX l : Nat), .int .i64 (pY l : Nat), .bool (pOk l)] := fun ⟨h1, h2, h3⟩ => by rw [h1, h2, h3]; rfl
  refine enter1 Tryd.func35 rfl (by kernel_rfl) (of_decide_eq_true (by kernel_rfl)) fun f a0 => ?_
  by_cases h2 : (l.length : Int) < 2
  · simp (disch := omega) only [go_sem, Nat.reduceEqDiff, ↓reduceIte, Nat.reduceAdd, a0, h2, Tryd.results35]
    exact ⟨bad (pf_bad1 (by omega)), Ext.refl _⟩
  have e1 : (l.length : Int) - 2 = ((l.length - 2 : Nat) : Int) := by omega
  simp (disch := omega) only [go_sem, Nat.reduceEqDiff, ↓reduceIte, Nat.reduceAdd, a0, h2, e1, Int.toNat_natCast]
  refine callK_pure (by kernel_rfl) (sheetNamed_c (l.take (l.length - 2)) _) fun w1 x1 => ?_
  simp (disch := omega) only [go_sem, Nat.reduceEqDiff, ↓reduceIte, Nat.reduceAdd]
  refine allocK_of zero_sh fun w2 b2 _ x2 k2 _ => ?_
  simp (disch := omega) only [go_sem, Nat.reduceEqDiff, ↓reduceIte, Nat.reduceAdd]
  refine stK_agg siz_sh (by simp) (by simp [Value.oneCell']) k2 (by simp) fun w3 k3 g3 => ?_
  have x3 := g3.ext (x1.trans x2) (by have := x1.size; omega)
  cases ho : fOk (l.take (l.length - 2)) with
  | false =>
    simp (disch := omega) only [go_sem, Nat.reduceEqDiff, ↓reduceIte, Nat.reduceAdd, Tryd.results35]
    exact ⟨bad (pf_bad2 ho), x3⟩
  | true =>
    obtain ⟨hc, hr⟩ := fnd_lt (l.take (l.length - 2))
    simp (disch := omega) only [go_sem, Nat.reduceEqDiff, ↓reduceIte, Nat.reduceAdd, readCells_blk k3 (n := 2) (by simp [Value.cells])]
    refine callK_pure (by kernel_rfl) (corner_c _ _ hr hc _) fun w4 x4 => ?_
    simp (disch := omega) only [go_sem, Nat.reduceEqDiff, ↓reduceIte, Nat.reduceAdd]
    refine allocK_of zero_pl fun w5 b _ x5 k5 _ => ?_
    simp (disch := omega) only [go_sem, Nat.reduceEqDiff, ↓reduceIte, Nat.reduceAdd]
    refine stK_agg siz_pl (by simp) (by simp [Value.oneCell']) k5 (by simp) fun w6 k6 g6 => ?_
    have hbw := (x3.trans x4).size
    have x6 := g6.ext ((x3.trans x4).trans x5) (by omega)
    have fin := pf_q (l := l) (by omega) ho
    generalize hX : 4 * fCol (l.take (l.length - 2)) = X0 at *
    generalize hY : 4 * fRow (l.take (l.length - 2)) = Y0 at *
    simp (disch := omega) only [go_sem, Nat.reduceEqDiff, ↓reduceIte, Nat.reduceAdd, a0]
    refine loopN 2 (fun k f W => f 0 = .string (bs l) ∧ f 8 = .pointer (some ⟨b, 0, none⟩) ∧ f 9 = .int .i64 (sd k : Nat) ∧ f 10 = .int .i64 (l.length - 2 + k : Nat) ∧ Ext w W ∧ w.heap.size ≤ b ∧ Blk W b #[.int .i64 (qx l X0 k : Nat), .int .i64 (qy l Y0 k : Nat)] 49 ∧ ∀ j, j < k → 97 ≤ lt2 l j ∧ lt2 l j ≤ 100)
      ⟨(by first | assumption | (simp only [upd_apply, Nat.reduceEqDiff, ↓reduceIte] <;> first | rfl | assumption) | simp [upd_apply, *]), (by first | assumption | (simp only [upd_apply, Nat.reduceEqDiff, ↓reduceIte] <;> first | rfl | assumption) | simp [upd_apply, *]), (by first | assumption | (simp only [upd_apply, Nat.reduceEqDiff, ↓reduceIte] <;> first | rfl | assumption) | simp [upd_apply, *]), (by first | assumption | (simp only [upd_apply, Nat.reduceEqDiff, ↓reduceIte] <;> first | rfl | assumption) | simp [upd_apply, *]), x6, by omega, k6, fun j hj => by omega⟩ fun k f W hk ⟨a0, a8, a9, a10, xw, hb, kb, hlt⟩ => ?_
    have q1 := qx_le l X0 k
    have q2 := qy_le l Y0 k fun j h => (hlt j h).2
    have q3 := sd_le (k + 1)
    by_cases hlk : ((l.length - 2 + k : Nat) : Int) < l.length
    · have e9 : ((sd k : Nat) : Int) / 2 = ((sd (k + 1) : Nat) : Int) := rfl
      simp (disch := omega) only [go_sem, Nat.reduceEqDiff, ↓reduceIte, Nat.reduceAdd, a0, a9, a10, hlk, e9]
      by_cases hk97 : 97 ≤ lt2 l k ∧ lt2 l k ≤ 100
      · obtain ⟨g, hg, hf, hc⟩ := move_c (lt2 l k - 97) (by omega)
        rw [show 97 + (lt2 l k - 97) = lt2 l k by omega] at hf
        refine QR_sch none (.st 1 (.st 2 (.st 3 (.ef 0 (.ef 4 (.st 5 (.st 6 (.st 7 (.st 8 (.st 9 (.done))))))))))) (by kernel_rfl) (by kernel_rfl) fun w0 x0 => ?_
        have X := xw.trans x0
        have kb := kb.ext x0
        simp (disch := omega) only [go_sem, Nat.reduceEqDiff, ↓reduceIte, Nat.reduceAdd, a0, a10, Int.toNat_natCast]
        refine callK_of (by kernel_rfl) (moves_c _) ?_
        rintro _ w1 ⟨mb, rfl, y1, hm⟩
        refine nxE_of (y1.grow _) ?_
        have X := X.trans y1
        have kb := kb.ext y1
        simp (disch := omega) only [go_sem, Nat.reduceEqDiff, ↓reduceIte, Nat.reduceAdd, a0, a10, Int.toNat_natCast]
        refine lkK_some key_m hm hf ?_
        refine nxE_of (Grow.refl _ _) ?_
        simp (disch := omega) only [go_sem, Nat.reduceEqDiff, ↓reduceIte, Nat.reduceAdd, a8, readCells_blk kb (n := 2) (by simp [Value.cells])]
        refine callK_pure hg (hc _ _ _ _ (by omega) (by omega) (by omega)) fun w2 x2 => ?_
        simp (disch := omega) only [go_sem, Nat.reduceEqDiff, ↓reduceIte, Nat.reduceAdd, a8]
        refine stK_agg siz_pl (by simp) (by simp [Value.oneCell']) (kb.ext x2) (by simp) fun w7 k7 g7 => ?_
        simp (disch := omega) only [go_sem, Nat.reduceEqDiff, ↓reduceIte, Nat.reduceAdd, a10]
        refine ⟨by omega, (by first | assumption | (simp only [upd_apply, Nat.reduceEqDiff, ↓reduceIte] <;> first | rfl | assumption) | simp [upd_apply, *]), (by first | assumption | (simp only [upd_apply, Nat.reduceEqDiff, ↓reduceIte] <;> first | rfl | assumption) | simp [upd_apply, *]), (by first | assumption | (simp only [upd_apply, Nat.reduceEqDiff, ↓reduceIte] <;> first | rfl | assumption) | simp [upd_apply, *]), by simp [upd_apply]; omega, g7.ext (X.trans x2) hb, hb, k7, fun j hj => ?_⟩
        by_cases e : j = k
        · subst e; exact hk97
        · exact hlt j (by omega)
      · have hf := move_none hk97
        refine QR_sch none (.st 1 (.st 2 (.st 3 (.ef 0 (.ef 4 (.st 5 (.st 6 (.st 7 (.st 8 (.st 9 (.done))))))))))) (by kernel_rfl) (by kernel_rfl) fun w0 x0 => ?_
        have X := xw.trans x0
        have kb := kb.ext x0
        simp (disch := omega) only [go_sem, Nat.reduceEqDiff, ↓reduceIte, Nat.reduceAdd, a0, a10, Int.toNat_natCast]
        refine callK_of (by kernel_rfl) (moves_c _) ?_
        rintro _ w1 ⟨mb, rfl, y1, hm⟩
        refine nxE_of (y1.grow _) ?_
        have X := X.trans y1
        have kb := kb.ext y1
        simp (disch := omega) only [go_sem, Nat.reduceEqDiff, ↓reduceIte, Nat.reduceAdd, a0, a10, Int.toNat_natCast]
        refine lkK_none key_m zeroV_mv hm hf true ?_
        refine nxE_of (Grow.refl _ _) ?_
        simp (disch := omega) only [go_sem, Nat.reduceEqDiff, ↓reduceIte, Nat.reduceAdd, Tryd.results35]
        exact ⟨bad (pf_bad3 (by omega) hk97), X⟩
    · obtain rfl : k = 2 := by omega
      obtain ⟨f1, f2, f3⟩ := fin hlt
      simp (disch := omega) only [go_sem, Nat.reduceEqDiff, ↓reduceIte, Nat.reduceAdd, a0, a10, hlk, a8]
      refine QR_of (by kernel_rfl) (by kernel_rfl) ?_
      simp (disch := omega) only [go_sem, Nat.reduceEqDiff, ↓reduceIte, Nat.reduceAdd, a8, kb.cell, Value.cells, ldS_none, Tryd.results35]
      exact fun w7 x7 => ⟨by rw [f1, f2, f3], xw.trans x7⟩

theorem specPlaceFrom_c (l : List UInt8) (w : World) (hl : l.length ≤ 1000000) : Ret Tryd.prog 39 #[.string (bs l)] w fun v w' => v = .tuple #[.int .i64 (pX l : Nat), .int .i64 (pY l : Nat), .bool (pOk l)] ∧ Ext w w' := by
  have bad : (pOk l = false ∧ pX l = 0 ∧ pY l = 0) → Value.tuple #[.int .i64 0, .int .i64 0, .bool false] = .tuple #[.int .i64 (pX l : Nat), .int .i64 (pY l : Nat), .bool (pOk l)] := fun ⟨h1, h2, h3⟩ => by rw [h1, h2, h3]; rfl
  refine enter1 Tryd.func39 rfl (by kernel_rfl) (of_decide_eq_true (by kernel_rfl)) fun f a0 => ?_
  by_cases h4 : (l.length : Int) < 4
  · simp (disch := omega) only [go_sem, Nat.reduceEqDiff, ↓reduceIte, Nat.reduceAdd, a0, h4, Tryd.results39]
    exact ⟨bad (pf_bad1 (by omega)), Ext.refl _⟩
  have e1 : (l.length : Int) - 2 = ((l.length - 2 : Nat) : Int) := by omega
  simp (disch := omega) only [go_sem, Nat.reduceEqDiff, ↓reduceIte, Nat.reduceAdd, a0, h4, e1, Int.toNat_natCast]
  refine callK_pure (by kernel_rfl) (specSheetFrom_c (l.take (l.length - 2)) _) fun w1 x1 => ?_
  simp (disch := omega) only [go_sem, Nat.reduceEqDiff, ↓reduceIte, Nat.reduceAdd]
  obtain ⟨hc, hr⟩ := fnd_lt (l.take (l.length - 2))
  cases ho : fOk (l.take (l.length - 2)) with
  | false =>
    refine loopN 4 (fun k f W => k = 0 ∧ f 7 = .bool false ∧ f 8 = .int .i64 0 ∧ Ext w W) ⟨rfl, (by first | assumption | (simp only [upd_apply, Nat.reduceEqDiff, ↓reduceIte] <;> first | rfl | assumption) | simp [upd_apply, *]), (by first | assumption | (simp only [upd_apply, Nat.reduceEqDiff, ↓reduceIte] <;> first | rfl | assumption) | simp [upd_apply, *]), x1⟩ fun k f W hk ⟨hk0, a7, a8, xw⟩ => ?_
    have h04 : (0 : Int) < 4 := by omega
    simp (disch := omega) only [go_sem, Nat.reduceEqDiff, ↓reduceIte, Nat.reduceAdd, a7, a8, h04, Tryd.results39]
    exact ⟨bad (pf_bad2 ho), xw⟩
  | true =>
    have cr : ∀ x y, PNamed l x y → x / 4 = fCol (l.take (l.length - 2)) ∧ y / 4 = fRow (l.take (l.length - 2)) := fun x y h => by
      obtain ⟨-, k2, k3⟩ := fOk_of h.take
      exact ⟨k2.symm, k3.symm⟩
    generalize fCol (l.take (l.length - 2)) = C at *
    generalize fRow (l.take (l.length - 2)) = R at *
    refine loopN 4 (fun k f W => f 0 = .string (bs l) ∧ f 5 = .int .i64 (4 * C : Nat) ∧ f 6 = .int .i64 (4 * R : Nat) ∧ f 7 = .bool true ∧ f 8 = .int .i64 k ∧ Ext w W ∧ ∀ x y, PNamed l x y → k ≤ y % 4) ⟨(by first | assumption | (simp only [upd_apply, Nat.reduceEqDiff, ↓reduceIte] <;> first | rfl | assumption) | simp [upd_apply, *]), (by first | assumption | (simp only [upd_apply, Nat.reduceEqDiff, ↓reduceIte] <;> first | rfl | assumption) | simp [upd_apply, *]), (by first | assumption | (simp only [upd_apply, Nat.reduceEqDiff, ↓reduceIte] <;> first | rfl | assumption) | simp [upd_apply, *]), (by first | assumption | (simp only [upd_apply, Nat.reduceEqDiff, ↓reduceIte] <;> first | rfl | assumption) | simp [upd_apply, *]), (by first | assumption | (simp only [upd_apply, Nat.reduceEqDiff, ↓reduceIte] <;> first | rfl | assumption) | simp [upd_apply, *]), x1, fun _ _ _ => by omega⟩ fun k f W hk ⟨a0, a5, a6, a7, a8, xw, hn⟩ => ?_
    by_cases hlt : (k : Int) < 4
    · simp (disch := omega) only [go_sem, Nat.reduceEqDiff, ↓reduceIte, Nat.reduceAdd, a7, a8, hlt]
      refine loopN 4 (fun j f W => f 0 = .string (bs l) ∧ f 5 = .int .i64 (4 * C : Nat) ∧ f 6 = .int .i64 (4 * R : Nat) ∧ f 7 = .bool true ∧ f 8 = .int .i64 k ∧ f 9 = .int .i64 j ∧ Ext w W ∧ ∀ x y, PNamed l x y → k ≤ y % 4 ∧ (y % 4 = k → j ≤ x % 4)) ⟨(by first | assumption | (simp only [upd_apply, Nat.reduceEqDiff, ↓reduceIte] <;> first | rfl | assumption) | simp [upd_apply, *]), (by first | assumption | (simp only [upd_apply, Nat.reduceEqDiff, ↓reduceIte] <;> first | rfl | assumption) | simp [upd_apply, *]), (by first | assumption | (simp only [upd_apply, Nat.reduceEqDiff, ↓reduceIte] <;> first | rfl | assumption) | simp [upd_apply, *]), (by first | assumption | (simp only [upd_apply, Nat.reduceEqDiff, ↓reduceIte] <;> first | rfl | assumption) | simp [upd_apply, *]), (by first | assumption | (simp only [upd_apply, Nat.reduceEqDiff, ↓reduceIte] <;> first | rfl | assumption) | simp [upd_apply, *]), (by first | assumption | (simp only [upd_apply, Nat.reduceEqDiff, ↓reduceIte] <;> first | rfl | assumption) | simp [upd_apply, *]), xw, fun x y h => ⟨hn x y h, fun _ => by omega⟩⟩ fun j f W hj ⟨a0, a5, a6, a7, a8, a9, xw, hn⟩ => ?_
      by_cases hlj : (j : Int) < 4
      · have ex : ((4 * C : Nat) : Int) + (j : Int) = ((4 * C + j : Nat) : Int) := by omega
        have ey : ((4 * R : Nat) : Int) + (k : Int) = ((4 * R + k : Nat) : Int) := by omega
        have pn := placeName_nat (m := 4 * C + j) (n := 4 * R + k) (by omega) (by omega)
        simp (disch := omega) only [go_sem, Nat.reduceEqDiff, ↓reduceIte, Nat.reduceAdd, a5, a6, a8, a9, hlj, ex, ey]
        refine callK_pure (by kernel_rfl) (specPlaceName_c _ _ _) fun w3 x3 => ?_
        by_cases he : fname (4 * C + j) (4 * R + k) = l
        · have hb : (fname (4 * C + j) (4 * R + k) == l) = true := by simp [he]
          simp (disch := omega) only [go_sem, Nat.reduceEqDiff, ↓reduceIte, Nat.reduceAdd, a0, a5, a6, a8, a9, ex, ey, pn, hb, Tryd.results39]
          obtain ⟨h1, h2, h3⟩ := pOk_of (l := l) (x := 4 * C + j) (y := 4 * R + k) ⟨by omega, by omega, he.symm⟩
          exact ⟨by rw [h1, h2, h3], xw.trans x3⟩
        · have hb : (fname (4 * C + j) (4 * R + k) == l) = false := by simp [he]
          simp (disch := omega) only [go_sem, Nat.reduceEqDiff, ↓reduceIte, Nat.reduceAdd, a0, a9, pn, hb]
          refine ⟨by omega, (by first | assumption | (simp only [upd_apply, Nat.reduceEqDiff, ↓reduceIte] <;> first | rfl | assumption) | simp [upd_apply, *]), (by first | assumption | (simp only [upd_apply, Nat.reduceEqDiff, ↓reduceIte] <;> first | rfl | assumption) | simp [upd_apply, *]), (by first | assumption | (simp only [upd_apply, Nat.reduceEqDiff, ↓reduceIte] <;> first | rfl | assumption) | simp [upd_apply, *]), (by first | assumption | (simp only [upd_apply, Nat.reduceEqDiff, ↓reduceIte] <;> first | rfl | assumption) | simp [upd_apply, *]), (by first | assumption | (simp only [upd_apply, Nat.reduceEqDiff, ↓reduceIte] <;> first | rfl | assumption) | simp [upd_apply, *]), (by first | assumption | (simp only [upd_apply, Nat.reduceEqDiff, ↓reduceIte] <;> first | rfl | assumption) | simp [upd_apply, *]), xw.trans x3, fun x y h => ⟨(hn x y h).1, fun e => ?_⟩⟩
          have h1 := (hn x y h).2 e
          have h2 := cr x y h
          by_cases e2 : j = x % 4
          · have ex' : x = 4 * C + j := by omega
            have ey' : y = 4 * R + k := by omega
            subst ex' ey'
            exact (he h.2.2.symm).elim
          · omega
      · simp (disch := omega) only [go_sem, Nat.reduceEqDiff, ↓reduceIte, Nat.reduceAdd, a8, a9, hlj]
        refine ⟨by omega, (by first | assumption | (simp only [upd_apply, Nat.reduceEqDiff, ↓reduceIte] <;> first | rfl | assumption) | simp [upd_apply, *]), (by first | assumption | (simp only [upd_apply, Nat.reduceEqDiff, ↓reduceIte] <;> first | rfl | assumption) | simp [upd_apply, *]), (by first | assumption | (simp only [upd_apply, Nat.reduceEqDiff, ↓reduceIte] <;> first | rfl | assumption) | simp [upd_apply, *]), (by first | assumption | (simp only [upd_apply, Nat.reduceEqDiff, ↓reduceIte] <;> first | rfl | assumption) | simp [upd_apply, *]), (by first | assumption | (simp only [upd_apply, Nat.reduceEqDiff, ↓reduceIte] <;> first | rfl | assumption) | simp [upd_apply, *]), xw, fun x y h => ?_⟩
        have := hn x y h
        omega
    · simp (disch := omega) only [go_sem, Nat.reduceEqDiff, ↓reduceIte, Nat.reduceAdd, a8, hlt, a7, Tryd.results39]
      exact ⟨bad (pOk_not fun x y h => by have := hn x y h; omega), xw⟩
end Go.Proofs.YteenlohkhckjkaaDoor
