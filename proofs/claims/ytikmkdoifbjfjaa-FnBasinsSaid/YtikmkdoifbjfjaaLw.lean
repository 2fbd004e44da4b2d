/- The water laws: each returns true, and nothing that was there is written. -/
import Derived.Test.YtikmkdoifbjfjaaM3
import Derived.Test.YtikmkdoifbjfjaaD4
import Derived.Test.YtikmkdoifbjfjaaEw
set_option linter.all false
namespace Go.SW
open Go Go.RowKit
theorem cell_at {rows : List (List Int)} (hv : gvalid rows = true) {i : Nat} (hi : i < rows.length * rowLen rows) :
    cellok rows ((i : Int) / (rowLen rows : Int)) ((i : Int) % (rowLen rows : Int)) = true ∧ ((i : Int) / (rowLen rows : Int)).toNat * rowLen rows + ((i : Int) % (rowLen rows : Int)).toNat = i := by
  have h := idx_div (i := (i : Int)) (R := rows.length) (C := rowLen rows) (by omega) (by omega)
  obtain ⟨h1, h2, h3, h4, h5, h6, h7⟩ := h
  refine ⟨by simp only [cellok, hv, Bool.true_and, decide_eq_true_eq]; omega, by rw [h7]; simp⟩
theorem mnN_le (h : Nat → Int) : ∀ (n i : Nat), i < n → mnN h n ≤ h i
  | n + 1, i, hi => by
    simp only [mnN]
    by_cases e : i = n
    · subst e; omega
    · have := mnN_le h n i (by omega); omega
theorem mnN_at (h : Nat → Int) : ∀ (n : Nat), 0 < n → ∃ i, i < n ∧ mnN h n = h i
  | n + 1, _ => by
    simp only [mnN]
    by_cases h0 : n = 0
    · subst h0; exact ⟨0, by omega, by simp [mnN]⟩
    · obtain ⟨i, hi, e⟩ := mnN_at h n (by omega)
      by_cases hm : h n ≤ mnN h n
      · exact ⟨n, by omega, by omega⟩
      · exact ⟨i, by omega, by omega⟩
theorem slc_lo (s : Nat) (b o n c : Nat) (k : IntKind) (lo : Int) (h0 : 0 ≤ lo) (h1 : lo ≤ n) (h3 : lo < c) :
    slcE (some s) (some ⟨b, o, none⟩) n c (some (.int k lo)) none = some (.slice (some ⟨b, o + lo.toNat * s, none⟩) (n - lo.toNat) (c - lo.toNat)) := by
  have e1 : ¬ c = lo.toNat := by omega
  have e2 : lo ≤ ((n : Nat) : Int) := h1
  simp only [slcE, boundV, h0, e2, and_self, if_true, if_neg e1, Option.map_some, add_mk]
attribute [go_sem] slc_lo

theorem basin_sinks {rows : List (List Int)} (hv : gvalid rows = true) {s : Nat} (hs : s ∈ sinksOf rows) :
    s < rows.length * rowLen rows ∧ nextN rows.length (rowLen rows) (hgt rows) s = s ∧ basinOf rows s = (cntp (fun i => ((endN rows.length (rowLen rows) (hgt rows) i : Nat) : Int) = (s : Int)) (rows.length * rowLen rows) : Nat) := by
  simp only [sinksOf, hv, if_true] at hs
  obtain ⟨h1, h2⟩ := (sinksTo_mem _ _ _ _ _).1 hs
  exact ⟨h1, h2, by rw [basinOf, if_pos (by rw [Int.toNat_natCast]; exact ⟨hv, by omega, by omega, h2⟩)]⟩
end Go.SW
namespace Go.Proofs.Ytikmkdoifbjfjaa
open Go.RowKit Go.SW

theorem waterNextAt_c (a : Option Addr) (rows : List (List Int)) (A : Nat → Option Addr) (Cp : Nat → Nat) (gc : Nat) (i : Nat) (w : World) (hr : RowsAt w a rows A Cp) (hv : gvalid rows = true) (hi : i < rows.length * rowLen rows) :
    Ret Try.prog 39 #[.slice a rows.length gc, .int .i64 ((i : Int) / (rowLen rows : Int)), .int .i64 ((i : Int) % (rowLen rows : Int))] w fun v w' => v = .int .i64 (nextN rows.length (rowLen rows) (hgt rows) i : Nat) ∧ Ext w w' := by
  have h := cell_at hv hi
  refine (waterNext_c a rows A Cp gc _ _ w hr).mono fun v w' ⟨e, x⟩ => ⟨?_, x⟩
  rw [e, if_pos h.1, h.2]
theorem waterRunAt_c (a : Option Addr) (rows : List (List Int)) (A : Nat → Option Addr) (Cp : Nat → Nat) (gc : Nat) (i : Nat) (w : World) (hr : RowsAt w a rows A Cp) (hv : gvalid rows = true) (hi : i < rows.length * rowLen rows) :
    Ret Try.prog 21 #[.slice a rows.length gc, .int .i64 ((i : Int) / (rowLen rows : Int)), .int .i64 ((i : Int) % (rowLen rows : Int))] w fun v w' => Got w w' (ni (waterN rows.length (rowLen rows) (hgt rows) i)) true v := by
  have h := cell_at hv hi
  refine (waterRun_c a rows A Cp gc _ _ w hr).mono fun v w' hg => ?_
  rw [h.1] at hg
  simpa only [runOf, h.1, h.2, if_true] using hg

theorem longest_c (a : Option Addr) (l : List Int) (c : Nat) (w : World) (hl : l.length ≤ c) (hc : c ≤ maxLen) (hs : ByteS w a l) :
    Ret Try.prog 5 #[.slice a l.length c] w fun v w' => v = .bool true ∧ Ext w w' := by
  have hmax := maxLen_le (Nat.le_trans hl hc)
  refine enter1 Try.func5 rfl (by kernel_rfl) (of_decide_eq_true (by kernel_rfl)) fun f a0 => ?_
  by_cases hbig : (1048576 : Int) < l.length
  · simp (disch := omega) only [go_sem, Nat.reduceEqDiff, ↓reduceIte, Nat.reduceAdd, a0, hbig, Try.results5]
    exact ⟨trivial, Ext.refl _⟩
  simp (disch := omega) only [go_sem, Nat.reduceEqDiff, ↓reduceIte, Nat.reduceAdd, a0, hbig]
  refine callK_of (by kernel_rfl) (drawWaterLongest_c _ _ _ _ hl hc hs) ?_
  rintro _ w1 ⟨ga, gc, rows, A, Cp, rfl, hr, x1⟩
  simp (disch := omega) only [go_sem, Nat.reduceEqDiff, ↓reduceIte, Nat.reduceAdd]
  refine callK_pure (by kernel_rfl) (waterLongest_c _ _ _ _ _ _ hr) fun w2 x2 => ?_
  simp (disch := omega) only [go_sem, Nat.reduceEqDiff, ↓reduceIte, Nat.reduceAdd]
  refine callK_pure (by kernel_rfl) (specWaterLongest_c _ _ _ _ _ _ (hr.ext x2)) fun w3 x3 => ?_
  have hne : (longOf rows != longOf rows) = false := bne_self_eq_false _
  have x23 := x2.trans x3
  have x13 := x1.trans x23
  cases hv : gvalid rows with
  | false =>
    have hg : longOf rows = -1 := by simp [longOf, hv]
    have hlt : longOf rows < 0 := by omega
    simp (disch := omega) only [go_sem, Nat.reduceEqDiff, ↓reduceIte, Nat.reduceAdd, hne, hlt, beq_self_eq_true, Try.results5]
    exact ⟨trivial, x13⟩
  | true =>
    have v := (gvalid_iff rows).1 hv
    have g := v.gd
    have hr1 := v.r1
    have hn49 := g.le
    have hc1 := g.c1
    have hc7 := g.c7
    have hL : longOf rows = (longTo rows.length (rowLen rows) (hgt rows) (rows.length * rowLen rows) : Nat) := by simp [longOf, hv]
    have hnn : ¬ longOf rows < 0 := by omega
    obtain ⟨gb, go, rb, ro, rfl, -, hg⟩ := hr.grid v
    have g0 := (hg.ext x23).row 0 v.r1
    simp only [Nat.add_zero] at g0
    have hr3 := hr.ext x23
    simp (disch := omega) only [go_sem, Nat.reduceEqDiff, ↓reduceIte, Nat.reduceAdd, hne, hnn, g0]
    refine loopN (rows.length * rowLen rows) (fun k f W => f 3 = .slice (some ⟨gb, go, none⟩) rows.length gc ∧ f 4 = .int .i64 (longOf rows) ∧ f 6 = .int .i64 (rowLen rows) ∧ f 7 = .int .i64 (longTo rows.length (rowLen rows) (hgt rows) k : Nat) ∧ f 8 = .int .i64 k ∧ Ext w3 W) ⟨(by first | assumption | (simp only [upd_apply, Nat.reduceEqDiff, ↓reduceIte] <;> first | rfl | assumption) | simp [upd_apply, *]), (by first | assumption | (simp only [upd_apply, Nat.reduceEqDiff, ↓reduceIte] <;> first | rfl | assumption) | simp [upd_apply, *]), (by first | assumption | (simp only [upd_apply, Nat.reduceEqDiff, ↓reduceIte] <;> first | rfl | assumption) | simp [upd_apply, *]), (by first | assumption | (simp only [upd_apply, Nat.reduceEqDiff, ↓reduceIte] <;> first | rfl | assumption) | simp [upd_apply, *]), (by first | assumption | (simp only [upd_apply, Nat.reduceEqDiff, ↓reduceIte] <;> first | rfl | assumption) | simp [upd_apply, *]), Ext.refl _⟩ fun k f W hk ⟨a3, a4, a6, a7, a8, xw⟩ => ?_
    simp (disch := omega) only [go_sem, Nat.reduceEqDiff, ↓reduceIte, Nat.reduceAdd, a3, a8]
    refine callK_pure (by kernel_rfl) (cellsOf_c _ _ _ _ _ _ (hr3.ext xw) v) fun w4 x4 => ?_
    by_cases hlt : (k : Int) < (rows.length * rowLen rows : Nat)
    · have hkn : k < rows.length * rowLen rows := by omega
      simp (disch := omega) only [go_sem, Nat.reduceEqDiff, ↓reduceIte, Nat.reduceAdd, hlt]
      refine QR_sch none (.st 0 (.st 1 (.st 2 (.st 3 (.st 4 (.st 5 (.st 6 (.ef 7 (.st 8 (.st 9 (.st 10 (.st 11 (.st 12 (.done)))))))))))))) (by kernel_rfl) (by kernel_rfl) fun w5 x5 => ?_
      simp (disch := omega) only [go_sem, Nat.reduceEqDiff, ↓reduceIte, Nat.reduceAdd, a3, a6, a8]
      refine callK_of (by kernel_rfl) (waterRunAt_c _ _ _ _ _ k _ ((hr3.ext xw).ext (x4.trans x5)) hv hkn) ?_
      rintro _ w6 ⟨ra, rc, rfl, ro6, -, x6⟩
      refine nxE_of (x6.grow _) ?_
      simp (disch := omega) only [go_sem, Nat.reduceEqDiff, ↓reduceIte, Nat.reduceAdd, a7, a8]
      have := longTo_le _ _ _ g k (by omega)
      exact ⟨hkn, (by first | assumption | (simp only [upd_apply, Nat.reduceEqDiff, ↓reduceIte] <;> first | rfl | assumption) | simp [upd_apply, *]), (by first | assumption | (simp only [upd_apply, Nat.reduceEqDiff, ↓reduceIte] <;> first | rfl | assumption) | simp [upd_apply, *]), (by first | assumption | (simp only [upd_apply, Nat.reduceEqDiff, ↓reduceIte] <;> first | rfl | assumption) | simp [upd_apply, *]), by simp [upd_apply, longTo, ni_len]; omega, (by first | assumption | (simp only [upd_apply, Nat.reduceEqDiff, ↓reduceIte] <;> first | rfl | assumption) | simp [upd_apply, *]), ((xw.trans x4).trans x5).trans x6⟩
    · obtain rfl : k = rows.length * rowLen rows := by omega
      simp (disch := omega) only [go_sem, Nat.reduceEqDiff, ↓reduceIte, Nat.reduceAdd, a3, hlt]
      refine callK_of (by kernel_rfl) (implGridRange_c _ _ _ _ _ _ (hr3.ext (xw.trans x4))) ?_
      rintro _ w5 ⟨rfl, x5⟩
      have hmm : ∀ i, i < rows.length * rowLen rows → mnN (hgt rows) (rows.length * rowLen rows) ≤ hgt rows i ∧ hgt rows i ≤ mxN (hgt rows) (rows.length * rowLen rows) := fun i hi => ⟨mnN_le _ _ i hi, mxN_ge _ _ i hi⟩
      have h0 := hmm 0 g.pos
      have h1 := g.hh 0 g.pos
      obtain ⟨im, him, em⟩ := mxN_at (hgt rows) _ g.pos
      have h2 := g.hh im him
      obtain ⟨im', him', em'⟩ := mnN_at (hgt rows) _ g.pos
      have h2' := g.hh im' him'
      have hlow := longTo_low g hmm (by omega) (rows.length * rowLen rows) (Nat.le_refl _)
      have hb1 : (((longTo rows.length (rowLen rows) (hgt rows) (rows.length * rowLen rows) : Nat) : Int) == longOf rows) = true := by rw [hL]; exact beq_self_eq_true _
      have hb2 : longOf rows ≤ mxN (hgt rows) (rows.length * rowLen rows) - mnN (hgt rows) (rows.length * rowLen rows) + 1 := by rw [hL]; exact hlow
      have hrange : rangeOf rows = .tuple #[.int .i64 (mnN (hgt rows) (rows.length * rowLen rows)), .int .i64 (mxN (hgt rows) (rows.length * rowLen rows)), .bool true] := by simp [rangeOf, hv, greatestOf]
      simp (disch := omega) only [go_sem, Nat.reduceEqDiff, ↓reduceIte, Nat.reduceAdd, hrange, a4, a7, hb1, hb2, Try.results5]
      exact ⟨trivial, ((x13.trans xw).trans x4).trans x5⟩

theorem flow_c (a : Option Addr) (l : List Int) (c : Nat) (w : World) (hl : l.length ≤ c) (hc : c ≤ maxLen) (hs : ByteS w a l) :
    Ret Try.prog 10 #[.slice a l.length c] w fun v w' => v = .bool true ∧ Ext w w' := by
  have hmax := maxLen_le (Nat.le_trans hl hc)
  refine enter1 Try.func10 rfl (by kernel_rfl) (of_decide_eq_true (by kernel_rfl)) fun f a0 => ?_
  by_cases hbig : (1048576 : Int) < l.length
  · simp (disch := omega) only [go_sem, Nat.reduceEqDiff, ↓reduceIte, Nat.reduceAdd, a0, hbig, Try.results10]
    exact ⟨trivial, Ext.refl _⟩
  simp (disch := omega) only [go_sem, Nat.reduceEqDiff, ↓reduceIte, Nat.reduceAdd, a0, hbig]
  refine callK_of (by kernel_rfl) (drawWaterFlow_c _ _ _ _ hl hc hs) ?_
  rintro _ w1 ⟨ga, gc, rows, A, Cp, rfl, hr, x1⟩
  simp (disch := omega) only [go_sem, Nat.reduceEqDiff, ↓reduceIte, Nat.reduceAdd]
  refine callK_of (by kernel_rfl) (waterFlow_c _ _ _ _ _ _ hr) ?_
  rintro _ w2 ⟨oa, oc, rfl, oo, of, x2⟩
  simp (disch := omega) only [go_sem, Nat.reduceEqDiff, ↓reduceIte, Nat.reduceAdd]
  refine callK_of (by kernel_rfl) (specWaterFlow_c _ _ _ _ _ _ (hr.ext x2)) ?_
  rintro _ w3 ⟨sa, sc, rfl, so, sf, x3⟩
  have hbe : (!(gvalid rows == gvalid rows)) = false := by rw [beq_self_eq_true]; rfl
  have hbe2 : (gvalid rows == gvalid rows) = true := beq_self_eq_true _
  have hde : decide (ni (flowL rows) = ni (flowL rows)) = true := decide_eq_true rfl
  have hmx : (ni (flowL rows)).length ≤ maxLen := by have := flowL_short rows; simp only [maxLen]; omega
  simp (disch := omega) only [go_sem, Nat.reduceEqDiff, ↓reduceIte, Nat.reduceAdd, hbe]
  refine callK_pure (by kernel_rfl) (sameInts_c _ _ _ _ _ _ _ (oo.ints.ext x3) so.ints hmx) fun w4 x4 => ?_
  have x24 := (x2.trans x3).trans x4
  have x14 := x1.trans x24
  cases hv : gvalid rows with
  | false =>
    simp (disch := omega) only [go_sem, Nat.reduceEqDiff, ↓reduceIte, Nat.reduceAdd, hde, beq_self_eq_true]
    refine callK_pure (by kernel_rfl) (sameInts_c _ _ _ _ _ _ _ ((oo.ints.ext x3).ext x4) (so.ints.ext x4) hmx) fun w5 x5 => ?_
    simp (disch := omega) only [go_sem, Nat.reduceEqDiff, ↓reduceIte, Nat.reduceAdd, hde, Try.results10]
    exact ⟨trivial, x14.trans x5⟩
  | true =>
    have v := (gvalid_iff rows).1 hv
    have g := v.gd
    have hr1 := v.r1
    have hn49 := g.le
    have hc1 := g.c1
    have hc7 := g.c7
    obtain ⟨gb, go, rb, ro, rfl, -, hg⟩ := hr.grid v
    have g0 := (hg.ext x24).row 0 v.r1
    simp only [Nat.add_zero] at g0
    have hr4 := hr.ext x24
    have el : (ni (flowL rows)).length = rows.length * rowLen rows := by simp [flowL, hv, ni]
    have oo4 := oo.ext (x3.trans x4)
    rw [el] at oo4 ⊢
    obtain ⟨ob, rfl⟩ := oo4.some g.pos
    have oc' : ∀ {W : World}, Ext w4 W → ∀ i, i < rows.length * rowLen rows → W.cell? ⟨ob, i, none⟩ = some (.int .i64 (flowTo rows.length (rowLen rows) (hgt rows) (rows.length * rowLen rows) i : Nat)) := fun e i hi => by
      rw [(oo4.ext e).cell (by omega)]; simp only [flowL, hv, if_true]; exact vi_range_get _ hi
    have hfb : ∀ i, flowTo rows.length (rowLen rows) (hgt rows) (rows.length * rowLen rows) i ≤ 4900 := fun i => by
      have := flowTo_le _ _ _ g (rows.length * rowLen rows) (Nat.le_refl _) i; omega
    simp (disch := omega) only [go_sem, Nat.reduceEqDiff, ↓reduceIte, Nat.reduceAdd, hde, beq_self_eq_true, g0]
    refine loopN (rows.length * rowLen rows) (fun k f W => f 3 = .slice (some ⟨gb, go, none⟩) rows.length gc ∧ f 4 = .slice (some ⟨ob, 0, none⟩) (rows.length * rowLen rows) oc ∧ f 8 = .int .i64 (rowLen rows) ∧ f 9 = .int .i64 (sumN (fun j => (waterN rows.length (rowLen rows) (hgt rows) j).length) k : Nat) ∧ f 10 = .int .i64 k ∧ Ext w4 W) ⟨(by first | assumption | (simp only [upd_apply, Nat.reduceEqDiff, ↓reduceIte] <;> first | rfl | assumption) | simp [upd_apply, *]), (by first | assumption | (simp only [upd_apply, Nat.reduceEqDiff, ↓reduceIte] <;> first | rfl | assumption) | simp [upd_apply, *]), (by first | assumption | (simp only [upd_apply, Nat.reduceEqDiff, ↓reduceIte] <;> first | rfl | assumption) | simp [upd_apply, *]), (by first | assumption | (simp only [upd_apply, Nat.reduceEqDiff, ↓reduceIte] <;> first | rfl | assumption) | simp [upd_apply, *]), (by first | assumption | (simp only [upd_apply, Nat.reduceEqDiff, ↓reduceIte] <;> first | rfl | assumption) | simp [upd_apply, *]), Ext.refl _⟩ fun k f W hk ⟨a3, a4, a8, a9, a10, xw⟩ => ?_
    by_cases hlt : (k : Int) < (rows.length * rowLen rows : Nat)
    · have hkn : k < rows.length * rowLen rows := by omega
      have hlb : sumN (fun j => (waterN rows.length (rowLen rows) (hgt rows) j).length) k ≤ 100 * k := by
        have h1 : ∀ m, m ≤ rows.length * rowLen rows → sumN (fun j => (waterN rows.length (rowLen rows) (hgt rows) j).length) m ≤ 100 * m := by
          intro m
          induction m with
          | zero => intro _; exact Nat.le_refl _
          | succ m ih =>
            intro hm
            have := ih (by omega)
            have := waterN_len g m (by omega)
            have := g.hh m (by omega)
            simp only [sumN]; omega
        exact h1 k hk
      simp (disch := omega) only [go_sem, Nat.reduceEqDiff, ↓reduceIte, Nat.reduceAdd, a4, a10, hlt]
      let D : Nat → Nat := fun m => sumN (fun q => if feeds rows.length (rowLen rows) (hgt rows) k q then flowTo rows.length (rowLen rows) (hgt rows) (rows.length * rowLen rows) q else 0) m
      have hD : ∀ m, D m ≤ 4900 * m := by
        intro m
        induction m with
        | zero => exact Nat.le_refl _
        | succ m ih =>
          have := hfb m
          simp only [D, sumN] at ih ⊢
          split <;> omega
      refine loopN (rows.length * rowLen rows) (fun m f V => f 3 = .slice (some ⟨gb, go, none⟩) rows.length gc ∧ f 4 = .slice (some ⟨ob, 0, none⟩) (rows.length * rowLen rows) oc ∧ f 8 = .int .i64 (rowLen rows) ∧ f 9 = .int .i64 (sumN (fun j => (waterN rows.length (rowLen rows) (hgt rows) j).length) k : Nat) ∧ f 10 = .int .i64 k ∧
        f 11 = .int .i64 (1 + D m : Nat) ∧ f 12 = .int .i64 m ∧ Ext w4 V) ⟨(by first | assumption | (simp only [upd_apply, Nat.reduceEqDiff, ↓reduceIte] <;> first | rfl | assumption) | simp [upd_apply, *]), (by first | assumption | (simp only [upd_apply, Nat.reduceEqDiff, ↓reduceIte] <;> first | rfl | assumption) | simp [upd_apply, *]), (by first | assumption | (simp only [upd_apply, Nat.reduceEqDiff, ↓reduceIte] <;> first | rfl | assumption) | simp [upd_apply, *]), (by first | assumption | (simp only [upd_apply, Nat.reduceEqDiff, ↓reduceIte] <;> first | rfl | assumption) | simp [upd_apply, *]), (by first | assumption | (simp only [upd_apply, Nat.reduceEqDiff, ↓reduceIte] <;> first | rfl | assumption) | simp [upd_apply, *]), by simp [upd_apply, D, sumN], (by first | assumption | (simp only [upd_apply, Nat.reduceEqDiff, ↓reduceIte] <;> first | rfl | assumption) | simp [upd_apply, *]), xw⟩ fun m f V hm ⟨a3, a4, a8, a9, a10, a11, a12, xv⟩ => ?_
      by_cases hlm : (m : Int) < (rows.length * rowLen rows : Nat)
      · have hmn : m < rows.length * rowLen rows := by omega
        have hDm := hD m
        have hfm := hfb m
        have cm := @oc'
        simp (disch := omega) only [go_sem, Nat.reduceEqDiff, ↓reduceIte, Nat.reduceAdd, a4, a12, hlm]
        refine QR_of (by kernel_rfl) (by kernel_rfl) ?_
        by_cases hmk : (m : Int) = (k : Int)
        · have hbq : ((m : Int) != (k : Int)) = false := by simp [hmk]
          have hf : feeds rows.length (rowLen rows) (hgt rows) k m = false := by simp [feeds]; omega
          simp (disch := omega) only [go_sem, Nat.reduceEqDiff, ↓reduceIte, Nat.reduceAdd, a10, a12, hbq]
          exact fun w5 x5 => ⟨hmn, (by first | assumption | (simp only [upd_apply, Nat.reduceEqDiff, ↓reduceIte] <;> first | rfl | assumption) | simp [upd_apply, *]), (by first | assumption | (simp only [upd_apply, Nat.reduceEqDiff, ↓reduceIte] <;> first | rfl | assumption) | simp [upd_apply, *]), (by first | assumption | (simp only [upd_apply, Nat.reduceEqDiff, ↓reduceIte] <;> first | rfl | assumption) | simp [upd_apply, *]), (by first | assumption | (simp only [upd_apply, Nat.reduceEqDiff, ↓reduceIte] <;> first | rfl | assumption) | simp [upd_apply, *]), (by first | assumption | (simp only [upd_apply, Nat.reduceEqDiff, ↓reduceIte] <;> first | rfl | assumption) | simp [upd_apply, *]), by simp only [upd_apply, Nat.reduceEqDiff, ↓reduceIte, a11, D, sumN, hf]; simp, (by first | assumption | (simp only [upd_apply, Nat.reduceEqDiff, ↓reduceIte] <;> first | rfl | assumption) | simp [upd_apply, *]), xv.trans x5⟩
        · have hbq : ((m : Int) != (k : Int)) = true := by simp [hmk]
          simp (disch := omega) only [go_sem, Nat.reduceEqDiff, ↓reduceIte, Nat.reduceAdd, a3, a8, a10, a12, hbq]
          refine callK_q (by kernel_rfl) (fun w' e => waterNextAt_c _ _ _ _ _ m _ ((hr4.ext xv).ext e) hv hmn) ?_
          by_cases hn : nextN rows.length (rowLen rows) (hgt rows) m = k
          · have hbn : (((nextN rows.length (rowLen rows) (hgt rows) m : Nat) : Int) == (k : Int)) = true := by simp [hn]
            have hf : feeds rows.length (rowLen rows) (hgt rows) k m = true := by simp [feeds, hn]; omega
            simp (disch := omega) only [go_sem, Nat.reduceEqDiff, ↓reduceIte, Nat.reduceAdd, a10, hbn]
            intro w5 x5
            simp (disch := omega) only [go_sem, Nat.reduceEqDiff, ↓reduceIte, Nat.reduceAdd, a4, a11, a12, oc' (xv.trans x5) m hmn]
            exact ⟨hmn, (by first | assumption | (simp only [upd_apply, Nat.reduceEqDiff, ↓reduceIte] <;> first | rfl | assumption) | simp [upd_apply, *]), (by first | assumption | (simp only [upd_apply, Nat.reduceEqDiff, ↓reduceIte] <;> first | rfl | assumption) | simp [upd_apply, *]), (by first | assumption | (simp only [upd_apply, Nat.reduceEqDiff, ↓reduceIte] <;> first | rfl | assumption) | simp [upd_apply, *]), (by first | assumption | (simp only [upd_apply, Nat.reduceEqDiff, ↓reduceIte] <;> first | rfl | assumption) | simp [upd_apply, *]), (by first | assumption | (simp only [upd_apply, Nat.reduceEqDiff, ↓reduceIte] <;> first | rfl | assumption) | simp [upd_apply, *]), by simp [upd_apply, D, sumN, hf]; omega, (by first | assumption | (simp only [upd_apply, Nat.reduceEqDiff, ↓reduceIte] <;> first | rfl | assumption) | simp [upd_apply, *]), xv.trans x5⟩
          · have hbn : (((nextN rows.length (rowLen rows) (hgt rows) m : Nat) : Int) == (k : Int)) = false := by simp; omega
            have hf : feeds rows.length (rowLen rows) (hgt rows) k m = false := by simp [feeds, hn]
            simp (disch := omega) only [go_sem, Nat.reduceEqDiff, ↓reduceIte, Nat.reduceAdd, a10, a12, hbn]
            exact fun w5 x5 => ⟨hmn, (by first | assumption | (simp only [upd_apply, Nat.reduceEqDiff, ↓reduceIte] <;> first | rfl | assumption) | simp [upd_apply, *]), (by first | assumption | (simp only [upd_apply, Nat.reduceEqDiff, ↓reduceIte] <;> first | rfl | assumption) | simp [upd_apply, *]), (by first | assumption | (simp only [upd_apply, Nat.reduceEqDiff, ↓reduceIte] <;> first | rfl | assumption) | simp [upd_apply, *]), (by first | assumption | (simp only [upd_apply, Nat.reduceEqDiff, ↓reduceIte] <;> first | rfl | assumption) | simp [upd_apply, *]), (by first | assumption | (simp only [upd_apply, Nat.reduceEqDiff, ↓reduceIte] <;> first | rfl | assumption) | simp [upd_apply, *]), by simp only [upd_apply, Nat.reduceEqDiff, ↓reduceIte, a11, D, sumN, hf]; simp, (by first | assumption | (simp only [upd_apply, Nat.reduceEqDiff, ↓reduceIte] <;> first | rfl | assumption) | simp [upd_apply, *]), xv.trans x5⟩
      · obtain rfl : m = rows.length * rowLen rows := by omega
        simp (disch := omega) only [go_sem, Nat.reduceEqDiff, ↓reduceIte, Nat.reduceAdd, a4, a12, hlm]
        refine QR_sch none (.st 0 (.st 1 (.st 2 (.st 3 (.st 4 (.st 5 (.st 6 (.ef 7 (.st 8 (.st 9 (.st 10 (.st 11 (.st 12 (.done)))))))))))))) (by kernel_rfl) (by kernel_rfl) fun w5 x5 => ?_
        simp (disch := omega) only [go_sem, Nat.reduceEqDiff, ↓reduceIte, Nat.reduceAdd, a3, a8, a10]
        refine callK_of (by kernel_rfl) (waterRunAt_c _ _ _ _ _ k _ ((hr4.ext xv).ext x5) hv hkn) ?_
        rintro _ w6 ⟨ra, rc, rfl, ro6, -, x6⟩
        refine nxE_of (x6.grow _) ?_
        have hwl := waterN_len g k hkn
        have hwh := g.hh k hkn
        have hfl := flow_step g k hkn
        have hbn : (((1 + D (rows.length * rowLen rows) : Nat) : Int) != ((flowTo rows.length (rowLen rows) (hgt rows) (rows.length * rowLen rows) k : Nat) : Int)) = false := by
          rw [hfl]; exact bne_self_eq_false _
        have xx := (xv.trans x5).trans x6
        simp (disch := omega) only [go_sem, Nat.reduceEqDiff, ↓reduceIte, Nat.reduceAdd, a4, a9, a10, a11, ni_len, oc' xx k hkn, hbn]
        exact ⟨hkn, (by first | assumption | (simp only [upd_apply, Nat.reduceEqDiff, ↓reduceIte] <;> first | rfl | assumption) | simp [upd_apply, *]), (by first | assumption | (simp only [upd_apply, Nat.reduceEqDiff, ↓reduceIte] <;> first | rfl | assumption) | simp [upd_apply, *]), (by first | assumption | (simp only [upd_apply, Nat.reduceEqDiff, ↓reduceIte] <;> first | rfl | assumption) | simp [upd_apply, *]), by simp [upd_apply, sumN, ni_len], (by first | assumption | (simp only [upd_apply, Nat.reduceEqDiff, ↓reduceIte] <;> first | rfl | assumption) | simp [upd_apply, *]), xx⟩
    · obtain rfl : k = rows.length * rowLen rows := by omega
      simp (disch := omega) only [go_sem, Nat.reduceEqDiff, ↓reduceIte, Nat.reduceAdd, a4, a10, hlt]
      have ha : IntS W (some ⟨ob, 0, none⟩) (ni (flowL rows)) := (oo4.ext xw).ints
      have hbnd : ∀ x ∈ ni (flowL rows), 0 ≤ x ∧ x ≤ 1000000 := by
        intro x hx
        simp only [flowL, hv, if_true, ni, List.map_map, List.mem_map, List.mem_range] at hx
        obtain ⟨i, hi, rfl⟩ := hx
        have := hfb i
        simp only [Function.comp]; omega
      have hsum : sumL (ni (flowL rows)) = (sumN (fun j => (waterN rows.length (rowLen rows) (hgt rows) j).length) (rows.length * rowLen rows) : Nat) := by
        have h1 : ∀ (f : Nat → Nat) m, sumL (ni ((List.range m).map f)) = (sumN f m : Nat) := by
          intro f m
          induction m with
          | zero => simp [ni, sumL, sumN]
          | succ m ih =>
            simp only [ni, List.map_map] at ih ⊢
            rw [List.range_succ, List.map_append, sumL_append, ih]
            simp [sumL, sumN]
        simp only [flowL, hv, if_true]
        rw [h1, flow_sum g]
      have hso := sumOf_c (some ⟨ob, 0, none⟩) (ni (flowL rows)) oc W ha (by rw [el]; omega) hbnd
      rw [el] at hso
      refine callK_pure (by kernel_rfl) hso fun w5 x5 => ?_
      have hbn : (sumL (ni (flowL rows)) == ((sumN (fun j => (waterN rows.length (rowLen rows) (hgt rows) j).length) (rows.length * rowLen rows) : Nat) : Int)) = true := by rw [hsum]; exact beq_self_eq_true _
      simp (disch := omega) only [go_sem, Nat.reduceEqDiff, ↓reduceIte, Nat.reduceAdd, a9, hbn, Try.results10]
      exact ⟨trivial, (x14.trans xw).trans x5⟩

theorem basin_c (a : Option Addr) (l : List Int) (c : Nat) (w : World) (hl : l.length ≤ c) (hc : c ≤ maxLen) (hs : ByteS w a l) :
    Ret Try.prog 12 #[.slice a l.length c] w fun v w' => v = .bool true ∧ Ext w w' := by
  have hmax := maxLen_le (Nat.le_trans hl hc)
  refine enter1 Try.func12 rfl (by kernel_rfl) (of_decide_eq_true (by kernel_rfl)) fun f a0 => ?_
  by_cases hbig : (1048576 : Int) < l.length
  · simp (disch := omega) only [go_sem, Nat.reduceEqDiff, ↓reduceIte, Nat.reduceAdd, a0, hbig, Try.results12]
    exact ⟨trivial, Ext.refl _⟩
  simp (disch := omega) only [go_sem, Nat.reduceEqDiff, ↓reduceIte, Nat.reduceAdd, a0, hbig]
  refine callK_of (by kernel_rfl) (drawWaterBasin_c _ _ _ _ hl hc hs) ?_
  rintro _ w1 ⟨ga, gc, rows, A, Cp, s, rfl, hr, x1⟩
  simp (disch := omega) only [go_sem, Nat.reduceEqDiff, ↓reduceIte, Nat.reduceAdd]
  refine callK_pure (by kernel_rfl) (waterBasin_c _ _ _ _ _ s _ hr) fun w2 x2 => ?_
  simp (disch := omega) only [go_sem, Nat.reduceEqDiff, ↓reduceIte, Nat.reduceAdd]
  refine callK_pure (by kernel_rfl) (specWaterBasin_c _ _ _ _ _ s _ (hr.ext x2)) fun w3 x3 => ?_
  have hne : (basinOf rows s != basinOf rows s) = false := bne_self_eq_false _
  have x23 := x2.trans x3
  have x13 := x1.trans x23
  by_cases hneg : basinOf rows s < 0
  · simp (disch := omega) only [go_sem, Nat.reduceEqDiff, ↓reduceIte, Nat.reduceAdd, hne, hneg, beq_self_eq_true, Try.results12]
    exact ⟨trivial, x13⟩
  · by_cases hcond : gvalid rows = true ∧ 0 ≤ s ∧ s < (rows.length * rowLen rows : Nat) ∧ nextN rows.length (rowLen rows) (hgt rows) s.toNat = s.toNat
    case neg => exact absurd (by rw [basinOf, if_neg hcond]; omega) hneg
    obtain ⟨hv, h1, h2, h3⟩ := hcond
    have v := (gvalid_iff rows).1 hv
    have g := v.gd
    have hr1 := v.r1
    obtain ⟨n, rfl⟩ := Int.eq_ofNat_of_zero_le h1
    simp only [Int.toNat_natCast] at h3
    have hn : n < rows.length * rowLen rows := by omega
    have hb : basinOf rows n = (cntp (fun i => ((endN rows.length (rowLen rows) (hgt rows) i : Nat) : Int) = (n : Int)) (rows.length * rowLen rows) : Nat) := by
      rw [basinOf, if_pos (by rw [Int.toNat_natCast]; exact ⟨hv, h1, h2, h3⟩)]
    have hge : 1 ≤ basinOf rows n := by
      have := cntp_pos (fun i => ((endN rows.length (rowLen rows) (hgt rows) i : Nat) : Int) = (n : Int)) _ n hn (by rw [endN_sink g hn h3])
      rw [hb]; omega
    simp (disch := omega) only [go_sem, Nat.reduceEqDiff, ↓reduceIte, Nat.reduceAdd, hne, hneg]
    refine callK_of (by kernel_rfl) (waterFlow_c _ _ _ _ _ _ (hr.ext x23)) ?_
    rintro _ w4 ⟨oa, oc, rfl, oo, of, x4⟩
    have el : (ni (flowL rows)).length = rows.length * rowLen rows := by simp [flowL, hv, ni]
    rw [el] at oo ⊢
    obtain ⟨ob, rfl⟩ := oo.some g.pos
    have hf := flow_sink g h3 (rows.length * rowLen rows) (Nat.le_refl _)
    have cn : w4.cell? ⟨ob, n, none⟩ = some (.int .i64 (basinOf rows n)) := by
      rw [oo.cell (by omega)]; simp only [flowL, hv, if_true]; rw [vi_range_get _ hn, hf, hb]
    simp (disch := omega) only [go_sem, Nat.reduceEqDiff, ↓reduceIte, Nat.reduceAdd, hv, cn, beq_self_eq_true, hge, Try.results12]
    exact ⟨trivial, x13.trans x4⟩

theorem divide_c (a : Option Addr) (l : List Int) (c : Nat) (w : World) (hl : l.length ≤ c) (hc : c ≤ maxLen) (hs : ByteS w a l) :
    Ret Try.prog 14 #[.slice a l.length c] w fun v w' => v = .bool true ∧ Ext w w' := by
  have hmax := maxLen_le (Nat.le_trans hl hc)
  refine enter1 Try.func14 rfl (by kernel_rfl) (of_decide_eq_true (by kernel_rfl)) fun f a0 => ?_
  by_cases hbig : (1048576 : Int) < l.length
  · simp (disch := omega) only [go_sem, Nat.reduceEqDiff, ↓reduceIte, Nat.reduceAdd, a0, hbig, Try.results14]
    exact ⟨trivial, Ext.refl _⟩
  simp (disch := omega) only [go_sem, Nat.reduceEqDiff, ↓reduceIte, Nat.reduceAdd, a0, hbig]
  refine callK_of (by kernel_rfl) (drawWaterDivide_c _ _ _ _ hl hc hs) ?_
  rintro _ w1 ⟨ga, gc, rows, A, Cp, rfl, hr, x1⟩
  simp (disch := omega) only [go_sem, Nat.reduceEqDiff, ↓reduceIte, Nat.reduceAdd]
  refine callK_pure (by kernel_rfl) (waterDivide_c _ _ _ _ _ _ hr) fun w2 x2 => ?_
  simp (disch := omega) only [go_sem, Nat.reduceEqDiff, ↓reduceIte, Nat.reduceAdd]
  refine callK_pure (by kernel_rfl) (specWaterDivide_c _ _ _ _ _ _ (hr.ext x2)) fun w3 x3 => ?_
  have hne : (divOf rows != divOf rows) = false := bne_self_eq_false _
  have x23 := x2.trans x3
  have x13 := x1.trans x23
  cases hv : gvalid rows with
  | false =>
    have hg : divOf rows = -1 := by simp [divOf, hv]
    have hlt : divOf rows < 0 := by omega
    simp (disch := omega) only [go_sem, Nat.reduceEqDiff, ↓reduceIte, Nat.reduceAdd, hne, hlt, beq_self_eq_true, Try.results14]
    exact ⟨trivial, x13⟩
  | true =>
    have v := (gvalid_iff rows).1 hv
    have g := v.gd
    have hr1 := v.r1
    have hn49 := g.le
    have hL : divOf rows = (divTo rows.length (rowLen rows) (hgt rows) (rows.length * rowLen rows) : Nat) := by simp [divOf, hv]
    have hdl := divTo_le rows.length (rowLen rows) (hgt rows) (rows.length * rowLen rows)
    have hnn : ¬ divOf rows < 0 := by omega
    have hr3 := hr.ext x23
    obtain ⟨gb, go, rb, ro, rfl, -, hg⟩ := hr.grid v
    have hg3 := hg.ext x23
    simp (disch := omega) only [go_sem, Nat.reduceEqDiff, ↓reduceIte, Nat.reduceAdd, hne, hnn]
    refine loopN (rows.length * rowLen rows) (fun k f W => f 3 = .slice (some ⟨gb, go, none⟩) rows.length gc ∧ f 4 = .int .i64 (divOf rows) ∧ f 6 = .int .i64 (sumN (fun i => (nearN rows.length (rowLen rows) i).length) k : Nat) ∧ f 7 = .int .i64 k ∧ Ext w3 W) ⟨(by first | assumption | (simp only [upd_apply, Nat.reduceEqDiff, ↓reduceIte] <;> first | rfl | assumption) | simp [upd_apply, *]), (by first | assumption | (simp only [upd_apply, Nat.reduceEqDiff, ↓reduceIte] <;> first | rfl | assumption) | simp [upd_apply, *]), (by first | assumption | (simp only [upd_apply, Nat.reduceEqDiff, ↓reduceIte] <;> first | rfl | assumption) | simp [upd_apply, *]), (by first | assumption | (simp only [upd_apply, Nat.reduceEqDiff, ↓reduceIte] <;> first | rfl | assumption) | simp [upd_apply, *]), Ext.refl _⟩ fun k f W hk ⟨a3, a4, a6, a7, xw⟩ => ?_
    simp (disch := omega) only [go_sem, Nat.reduceEqDiff, ↓reduceIte, Nat.reduceAdd, a3, a7]
    refine callK_pure (by kernel_rfl) (cellsOf_c _ _ _ _ _ _ (hr3.ext xw) v) fun w4 x4 => ?_
    have hpb : ∀ m, sumN (fun i => (nearN rows.length (rowLen rows) i).length) m ≤ 4 * m := by
      intro m
      induction m with
      | zero => exact Nat.le_refl _
      | succ m ih => have := nearN_len rows.length (rowLen rows) m; simp only [sumN]; omega
    have hpk := hpb k
    have x4w := xw.trans x4
    by_cases hlt : (k : Int) < (rows.length * rowLen rows : Nat)
    · have hkn : k < rows.length * rowLen rows := by omega
      have hn4 := nearN_len rows.length (rowLen rows) k
      simp (disch := omega) only [go_sem, Nat.reduceEqDiff, ↓reduceIte, Nat.reduceAdd, a3, a7, hlt]
      refine callK_of (by kernel_rfl) (nearOf_c gb go gc rb ro Cp _ _ _ _ (hg3.ext x4w) g.r7 g.c7 k hkn) ?_
      rintro _ w5 ⟨na, nc, rfl, no, -, x5⟩
      simp (disch := omega) only [go_sem, Nat.reduceEqDiff, ↓reduceIte, Nat.reduceAdd, a6, a7]
      exact ⟨hkn, (by first | assumption | (simp only [upd_apply, Nat.reduceEqDiff, ↓reduceIte] <;> first | rfl | assumption) | simp [upd_apply, *]), (by first | assumption | (simp only [upd_apply, Nat.reduceEqDiff, ↓reduceIte] <;> first | rfl | assumption) | simp [upd_apply, *]), by simp [upd_apply, sumN], (by first | assumption | (simp only [upd_apply, Nat.reduceEqDiff, ↓reduceIte] <;> first | rfl | assumption) | simp [upd_apply, *]), x4w.trans x5⟩
    · obtain rfl : k = rows.length * rowLen rows := by omega
      simp (disch := omega) only [go_sem, Nat.reduceEqDiff, ↓reduceIte, Nat.reduceAdd, a3, a4, hlt]
      refine callK_of (by kernel_rfl) (waterSinks_c _ _ _ _ _ _ (hr3.ext x4w)) ?_
      rintro _ w5 ⟨sa, sc, rfl, so, -, x5⟩
      have hone := div_one g
      have hsl : (ni (sinksOf rows)).length = (sinksTo rows.length (rowLen rows) (hgt rows) (rows.length * rowLen rows)).length := by rw [ni_len]; simp [sinksOf, hv]
      have hev := pairs_even g
      have hle : 2 * divOf rows ≤ ((sumN (fun i => (nearN rows.length (rowLen rows) i).length) (rows.length * rowLen rows) : Nat) : Int) := by rw [hL]; omega
      have hbb : ((divOf rows == 0) == (((ni (sinksOf rows)).length : Int) == 1)) = true := by
        rw [beq_iff_eq, Bool.eq_iff_iff, beq_iff_eq, beq_iff_eq, hL, hsl]; omega
      simp (disch := omega) only [go_sem, Nat.reduceEqDiff, ↓reduceIte, Nat.reduceAdd, a4, a6, hbb, hle, Try.results14]
      exact ⟨trivial, (x13.trans x4w).trans x5⟩

theorem waterRunLaw_c (a : Option Addr) (l : List Int) (c : Nat) (w : World) (hl : l.length ≤ c) (hc : c ≤ maxLen) (hs : ByteS w a l) :
    Ret Try.prog 11 #[.slice a l.length c] w fun v w' => v = .bool true ∧ Ext w w' := by
  have hmax := maxLen_le (Nat.le_trans hl hc)
  refine enter1 Try.func11 rfl (by kernel_rfl) (of_decide_eq_true (by kernel_rfl)) fun f a0 => ?_
  by_cases hbig : (1048576 : Int) < l.length
  · simp (disch := omega) only [go_sem, Nat.reduceEqDiff, ↓reduceIte, Nat.reduceAdd, a0, hbig, Try.results11]
    exact ⟨trivial, Ext.refl _⟩
  simp (disch := omega) only [go_sem, Nat.reduceEqDiff, ↓reduceIte, Nat.reduceAdd, a0, hbig]
  refine callK_of (by kernel_rfl) (drawWaterRun_c _ _ _ _ hl hc hs) ?_
  rintro _ w1 ⟨ga, gc, rows, A, Cp, r, cc, rfl, hr, x1⟩
  simp (disch := omega) only [go_sem, Nat.reduceEqDiff, ↓reduceIte, Nat.reduceAdd]
  refine callK_of (by kernel_rfl) (waterRun_c _ _ _ _ _ r cc _ hr) ?_
  rintro _ w2 ⟨oa, oc, rfl, oo, of, x2⟩
  simp (disch := omega) only [go_sem, Nat.reduceEqDiff, ↓reduceIte, Nat.reduceAdd]
  refine callK_of (by kernel_rfl) (specWaterRun_c _ _ _ _ _ r cc _ (hr.ext x2)) ?_
  rintro _ w3 ⟨sa, sc, rfl, so, sf, x3⟩
  have hbe : (!(cellok rows r cc == cellok rows r cc)) = false := by rw [beq_self_eq_true]; rfl
  have hde : decide (ni (runOf rows r cc) = ni (runOf rows r cc)) = true := decide_eq_true rfl
  have hmx : (ni (runOf rows r cc)).length ≤ maxLen := by have := runOf_short rows r cc; simp only [maxLen]; omega
  simp (disch := omega) only [go_sem, Nat.reduceEqDiff, ↓reduceIte, Nat.reduceAdd, hbe]
  refine callK_pure (by kernel_rfl) (sameInts_c _ _ _ _ _ _ _ (oo.ints.ext x3) so.ints hmx) fun w4 x4 => ?_
  have x24 := (x2.trans x3).trans x4
  have x14 := x1.trans x24
  cases hok : cellok rows r cc with
  | false =>
    simp (disch := omega) only [go_sem, Nat.reduceEqDiff, ↓reduceIte, Nat.reduceAdd, hde, beq_self_eq_true]
    refine callK_pure (by kernel_rfl) (sameInts_c _ _ _ _ _ _ _ ((oo.ints.ext x3).ext x4) (so.ints.ext x4) hmx) fun w5 x5 => ?_
    simp (disch := omega) only [go_sem, Nat.reduceEqDiff, ↓reduceIte, Nat.reduceAdd, hde, Try.results11]
    exact ⟨trivial, x14.trans x5⟩
  | true =>
    obtain ⟨rn, cn, rfl, rfl, h1, h2, h3⟩ := cell_idx hok
    have hv : gvalid rows = true := by simp only [cellok, Bool.and_eq_true] at hok; exact hok.1
    have v := (gvalid_iff rows).1 hv
    have g := v.gd
    have hr1 := v.r1
    have hr7 := v.r7
    have hn49 := g.le
    have hc1 := g.c1
    have hc7 := g.c7
    obtain ⟨gb, go, rb, ro, rfl, -, hg⟩ := hr.grid v
    have g0 := (hg.ext x24).row 0 v.r1
    simp only [Nat.add_zero] at g0
    have hr4 := hr.ext x24
    have eL : runOf rows rn cn = waterN rows.length (rowLen rows) (hgt rows) (rn * rowLen rows + cn) := by simp [runOf, hok]
    rw [eL] at hde hmx oo ⊢
    have oo4 := oo.ext (x3.trans x4)
    rw [ni_len] at oo4 ⊢
    have hwl := waterN_len g _ h3
    have hwh := g.hh _ h3
    have hlp := List.length_pos_iff.2 (waterN_ne g h3)
    have hget := waterN_get g _ h3
    have hlt := waterN_lt g _ h3
    have hhd := waterN_head g h3
    have hlast := waterN_last g h3
    have htail := waterN_tail g h3
    have hend := endN_lt g _ h3
    generalize hL : waterN rows.length (rowLen rows) (hgt rows) (rn * rowLen rows + cn) = L at *
    generalize hE : endN rows.length (rowLen rows) (hgt rows) (rn * rowLen rows + cn) = E at *
    obtain ⟨ob, rfl⟩ := oo4.some hlp
    have oc' : ∀ {W : World}, Ext w4 W → ∀ i, i < L.length → W.cell? ⟨ob, i, none⟩ = some (.int .i64 (L.getD i 0 : Nat)) := fun e i hi => by
      rw [(oo4.ext e).cell (by omega), vi_get _ _ (by rw [ni_len]; omega), ni_get _ hi]
    have hLlt : ∀ i, i < L.length → L.getD i 0 < rows.length * rowLen rows := fun i hi => hlt _ (getD_mem hi)
    simp (disch := omega) only [go_sem, Nat.reduceEqDiff, ↓reduceIte, Nat.reduceAdd, hde, beq_self_eq_true, g0]
    refine loopN (L.length - 1) (fun k f W => f 3 = .slice (some ⟨gb, go, none⟩) rows.length gc ∧ f 4 = .int .i64 rn ∧ f 5 = .int .i64 cn ∧ f 6 = .slice (some ⟨ob, 0, none⟩) L.length oc ∧ f 10 = .int .i64 (rowLen rows) ∧ f 11 = .int .i64 (k + 1 : Nat) ∧ Ext w4 W) ⟨(by first | assumption | (simp only [upd_apply, Nat.reduceEqDiff, ↓reduceIte] <;> first | rfl | assumption) | simp [upd_apply, *]), (by first | assumption | (simp only [upd_apply, Nat.reduceEqDiff, ↓reduceIte] <;> first | rfl | assumption) | simp [upd_apply, *]), (by first | assumption | (simp only [upd_apply, Nat.reduceEqDiff, ↓reduceIte] <;> first | rfl | assumption) | simp [upd_apply, *]), (by first | assumption | (simp only [upd_apply, Nat.reduceEqDiff, ↓reduceIte] <;> first | rfl | assumption) | simp [upd_apply, *]), (by first | assumption | (simp only [upd_apply, Nat.reduceEqDiff, ↓reduceIte] <;> first | rfl | assumption) | simp [upd_apply, *]), (by first | assumption | (simp only [upd_apply, Nat.reduceEqDiff, ↓reduceIte] <;> first | rfl | assumption) | simp [upd_apply, *]), Ext.refl _⟩ fun k f W hk ⟨a3, a4, a5, a6, a10, a11, xw⟩ => ?_
    by_cases hlk : ((k + 1 : Nat) : Int) < L.length
    · have e1 : (((k + 1 : Nat) : Int) - 1) = (k : Int) := by omega
      have c0 := oc' xw k (by omega)
      have c1 := oc' xw (k + 1) (by omega)
      have hk0 := hLlt k (by omega)
      have hk1 := hLlt (k + 1) (by omega)
      obtain ⟨hn, hdn⟩ := hget k (by omega)
      generalize L.getD (k + 1) 0 = y at *
      generalize L.getD k 0 = x at *
      simp (disch := omega) only [go_sem, Nat.reduceEqDiff, ↓reduceIte, Nat.reduceAdd, a6, a11, hlk, e1, c0]
      refine QR_of (by kernel_rfl) (by kernel_rfl) ?_
      simp (disch := omega) only [go_sem, Nat.reduceEqDiff, ↓reduceIte, Nat.reduceAdd, a3, a6, a11, c1]
      refine callK_q (by kernel_rfl) (fun w' e => heightOf_c _ _ _ _ _ _ ((hr4.ext xw).ext e) v _ (by omega) (by omega)) ?_
      simp (disch := omega) only [go_sem, Nat.reduceEqDiff, ↓reduceIte, Nat.reduceAdd, a3]
      refine callK_q (by kernel_rfl) (fun w' e => heightOf_c _ _ _ _ _ _ ((hr4.ext xw).ext e) v _ (by omega) (by omega)) ?_
      have hge : ¬ hgt rows x ≤ hgt rows y := by omega
      simp (disch := omega) only [go_sem, Nat.reduceEqDiff, ↓reduceIte, Nat.reduceAdd, a3, a10, hge]
      refine callK_q (by kernel_rfl) (fun w' e => waterNextAt_c _ _ _ _ _ x _ ((hr4.ext xw).ext e) hv hk0) ?_
      have hbn : (((nextN rows.length (rowLen rows) (hgt rows) x : Nat) : Int) != (y : Int)) = false := by rw [hn]; exact bne_self_eq_false _
      simp (disch := omega) only [go_sem, Nat.reduceEqDiff, ↓reduceIte, Nat.reduceAdd, a6, a11, c1, hbn]
      exact fun w5 x5 => ⟨by omega, (by first | assumption | (simp only [upd_apply, Nat.reduceEqDiff, ↓reduceIte] <;> first | rfl | assumption) | simp [upd_apply, *]), (by first | assumption | (simp only [upd_apply, Nat.reduceEqDiff, ↓reduceIte] <;> first | rfl | assumption) | simp [upd_apply, *]), (by first | assumption | (simp only [upd_apply, Nat.reduceEqDiff, ↓reduceIte] <;> first | rfl | assumption) | simp [upd_apply, *]), (by first | assumption | (simp only [upd_apply, Nat.reduceEqDiff, ↓reduceIte] <;> first | rfl | assumption) | simp [upd_apply, *]), (by first | assumption | (simp only [upd_apply, Nat.reduceEqDiff, ↓reduceIte] <;> first | rfl | assumption) | simp [upd_apply, *]), (by first | assumption | (simp only [upd_apply, Nat.reduceEqDiff, ↓reduceIte] <;> first | rfl | assumption) | simp [upd_apply, *]), xw.trans x5⟩
    · obtain rfl : k = L.length - 1 := by omega
      have e1 : ((L.length : Int) - 1) = ((L.length - 1 : Nat) : Int) := by omega
      have cl := oc' xw (L.length - 1) (by omega)
      rw [hlast] at cl
      have hE1 := hend.1
      simp (disch := omega) only [go_sem, Nat.reduceEqDiff, ↓reduceIte, Nat.reduceAdd, a6, a11, hlk, e1, cl]
      refine QR_sch none (.st 0 (.st 1 (.st 2 (.st 3 (.st 4 (.st 5 (.st 6 (.st 8 (.ef 7 (.st 9 (.st 10 (.st 11 (.st 13 (.ef 12 (.ef 14 (.st 15 (.st 16 (.done)))))))))))))))))) (by kernel_rfl) (by kernel_rfl) fun w5 x5 => ?_
      simp (disch := omega) only [go_sem, Nat.reduceEqDiff, ↓reduceIte, Nat.reduceAdd, a3, a10]
      refine callK_of (by kernel_rfl) (waterNextAt_c _ _ _ _ _ E _ ((hr4.ext xw).ext x5) hv hE1) ?_
      rintro _ w6 ⟨rfl, x6⟩
      refine nxE_of (x6.grow _) ?_
      have hbn : (((nextN rows.length (rowLen rows) (hgt rows) E : Nat) : Int) != (E : Int)) = false := by rw [hend.2]; exact bne_self_eq_false _
      simp (disch := omega) only [go_sem, Nat.reduceEqDiff, ↓reduceIte, Nat.reduceAdd, a3, hbn]
      refine callK_of (by kernel_rfl) (waterSinks_c _ _ _ _ _ _ ((hr4.ext xw).ext (x5.trans x6))) ?_
      rintro _ w7 ⟨sa7, sc7, rfl, so7, -, x7⟩
      refine nxE_of (x7.grow _) ?_
      have hsl : (ni (sinksOf rows)).length ≤ maxLen := by
        have := sinksTo_len rows.length (rowLen rows) (hgt rows) (rows.length * rowLen rows)
        rw [ni_len]; simp only [sinksOf, hv, if_true, maxLen]; omega
      simp (disch := omega) only [go_sem, Nat.reduceEqDiff, ↓reduceIte, Nat.reduceAdd]
      refine callK_of (by kernel_rfl) (hasInt_c _ _ _ _ _ so7.ints hsl) ?_
      rintro _ w8 ⟨rfl, x8⟩
      refine nxE_of (x8.grow _) ?_
      have hmem : decide ((E : Int) ∈ ni (sinksOf rows)) = true := by
        rw [decide_eq_true_eq]
        simp only [ni, List.mem_map]
        refine ⟨E, ?_, rfl⟩
        simp only [sinksOf, hv, if_true]
        exact (sinksTo_mem _ _ _ _ _).2 ⟨hE1, hend.2⟩
      have x58 := (((xw.trans x5).trans x6).trans x7).trans x8
      by_cases hone : L.length = 1
      · have hb1 : ((L.length : Int) == 1) = true := by simp [hone]
        have c0 := oc' x58 0 (by omega)
        rw [hhd] at c0
        have e2 : (rn : Int) * (rowLen rows : Int) = ((rn * rowLen rows : Nat) : Int) := by simp
        have e3 : ((rn * rowLen rows : Nat) : Int) + (cn : Int) = ((rn * rowLen rows + cn : Nat) : Int) := by simp
        simp (disch := omega) only [go_sem, Nat.reduceEqDiff, ↓reduceIte, Nat.reduceAdd, hmem, a4, a5, a6, a10, hb1, c0, e2, e3, beq_self_eq_true, Try.results11]
        exact ⟨trivial, x14.trans x58⟩
      · have hb1 : ((L.length : Int) == 1) = false := by rw [beq_eq_false_iff_ne]; omega
        have hoc := oo4.le_cap
        have hl1 := hLlt 1 (by omega)
        simp (disch := omega) only [go_sem, Nat.reduceEqDiff, ↓reduceIte, Nat.reduceAdd, hmem, a6, hb1]
        refine QR_sch none (.st 0 (.st 1 (.st 2 (.st 3 (.st 4 (.st 5 (.st 6 (.st 7 (.st 8 (.st 9 (.st 10 (.ef 11 (.st 12 (.st 13 (.st 14 (.st 15 (.st 16 (.done)))))))))))))))))) (by kernel_rfl) (by kernel_rfl) fun w9 x9 => ?_
        have c1 := oc' (x58.trans x9) 1 (by omega)
        have h1n : ((1 : Int)).toNat = 1 := rfl
        simp (disch := omega) only [go_sem, Nat.reduceEqDiff, ↓reduceIte, Nat.reduceAdd, a3, a6, a10, h1n, c1]
        refine callK_of (by kernel_rfl) (waterRunAt_c _ _ _ _ _ (L.getD 1 0) _ (hr4.ext (x58.trans x9)) hv hl1) ?_
        rintro _ w10 ⟨ta, tc, rfl, to, -, x10⟩
        refine nxE_of (x10.grow _) ?_
        have et := htail hone
        rw [et] at to ⊢
        have hdl : (ni (L.drop 1)).length = L.length - 1 := by rw [ni_len, List.length_drop]
        have is1 : IntS w10 (some ⟨ob, 1, none⟩) (ni (L.drop 1)) := ⟨fun _ => ⟨ob, 1, rfl⟩, fun b o hb i hi => by
          simp only [Option.some.injEq, Addr.mk.injEq] at hb
          obtain ⟨rfl, rfl, _⟩ := hb
          rw [hdl] at hi
          rw [oc' ((x58.trans x9).trans x10) (1 + i) (by omega), ni_get _ (by rw [List.length_drop]; omega)]
          simp [List.getD_eq_getElem?_getD, Nat.add_comm]⟩
        have hsame := fun w' (e : Ext w10 w') => sameInts_c ta (some ⟨ob, 1, none⟩) (ni (L.drop 1)) (ni (L.drop 1)) tc (oc - 1) w' (to.ints.ext e) (is1.ext e) (by rw [hdl]; simp only [maxLen]; omega)
        have hd1 : decide (ni (L.drop 1) = ni (L.drop 1)) = true := decide_eq_true rfl
        rw [hdl] at hsame
        simp (disch := omega) only [go_sem, Nat.reduceEqDiff, ↓reduceIte, Nat.reduceAdd, a6, h1n, hdl]
        refine callK_pure (by kernel_rfl) (hsame _ (Ext.refl _)) fun w11 x11 => ?_
        simp (disch := omega) only [go_sem, Nat.reduceEqDiff, ↓reduceIte, Nat.reduceAdd, hd1, Try.results11]
        exact ⟨trivial, x14.trans (((x58.trans x9).trans x10).trans x11)⟩

theorem basins_c (a : Option Addr) (l : List Int) (c : Nat) (w : World) (hl : l.length ≤ c) (hc : c ≤ maxLen) (hs : ByteS w a l) :
    Ret Try.prog 13 #[.slice a l.length c] w fun v w' => v = .bool true ∧ Ext w w' := by
  have hmax := maxLen_le (Nat.le_trans hl hc)
  refine enter1 Try.func13 rfl (by kernel_rfl) (of_decide_eq_true (by kernel_rfl)) fun f a0 => ?_
  by_cases hbig : (1048576 : Int) < l.length
  · simp (disch := omega) only [go_sem, Nat.reduceEqDiff, ↓reduceIte, Nat.reduceAdd, a0, hbig, Try.results13]
    exact ⟨trivial, Ext.refl _⟩
  simp (disch := omega) only [go_sem, Nat.reduceEqDiff, ↓reduceIte, Nat.reduceAdd, a0, hbig]
  refine callK_of (by kernel_rfl) (drawWaterBasins_c _ _ _ _ hl hc hs) ?_
  rintro _ w1 ⟨ga, gc, rows, A, Cp, rfl, hr, x1⟩
  simp (disch := omega) only [go_sem, Nat.reduceEqDiff, ↓reduceIte, Nat.reduceAdd]
  refine callK_of (by kernel_rfl) (waterBasins_c _ _ _ _ _ _ hr) ?_
  rintro _ w2 ⟨oa, oc, rfl, oo, of, x2⟩
  simp (disch := omega) only [go_sem, Nat.reduceEqDiff, ↓reduceIte, Nat.reduceAdd]
  refine callK_of (by kernel_rfl) (specWaterBasins_c _ _ _ _ _ _ (hr.ext x2)) ?_
  rintro _ w3 ⟨sa, sc, rfl, so, sf, x3⟩
  have hbe : (!(gvalid rows == gvalid rows)) = false := by rw [beq_self_eq_true]; rfl
  have hde : decide (ni (basinsL rows) = ni (basinsL rows)) = true := decide_eq_true rfl
  have hmx : (ni (basinsL rows)).length ≤ maxLen := by have := basinsL_short rows; simp only [maxLen]; omega
  simp (disch := omega) only [go_sem, Nat.reduceEqDiff, ↓reduceIte, Nat.reduceAdd, hbe]
  refine callK_pure (by kernel_rfl) (sameInts_c _ _ _ _ _ _ _ (oo.ints.ext x3) so.ints hmx) fun w4 x4 => ?_
  have x24 := (x2.trans x3).trans x4
  have x14 := x1.trans x24
  cases hv : gvalid rows with
  | false =>
    simp (disch := omega) only [go_sem, Nat.reduceEqDiff, ↓reduceIte, Nat.reduceAdd, hde, beq_self_eq_true]
    refine callK_pure (by kernel_rfl) (sameInts_c _ _ _ _ _ _ _ ((oo.ints.ext x3).ext x4) (so.ints.ext x4) hmx) fun w5 x5 => ?_
    simp (disch := omega) only [go_sem, Nat.reduceEqDiff, ↓reduceIte, Nat.reduceAdd, hde, Try.results13]
    exact ⟨trivial, x14.trans x5⟩
  | true =>
    have v := (gvalid_iff rows).1 hv
    have g := v.gd
    have hr1 := v.r1
    have hn49 := g.le
    have hc1 := g.c1
    have hc7 := g.c7
    have hr4 := hr.ext x24
    have el : (ni (basinsL rows)).length = rows.length * rowLen rows := by simp [basinsL, hv, ni]
    have oo4 := oo.ext (x3.trans x4)
    rw [el] at oo4 ⊢
    obtain ⟨ob, rfl⟩ := oo4.some g.pos
    have oc' : ∀ {W : World}, Ext w4 W → ∀ i, i < rows.length * rowLen rows → W.cell? ⟨ob, i, none⟩ = some (.int .i64 (endN rows.length (rowLen rows) (hgt rows) i : Nat)) := fun e i hi => by
      rw [(oo4.ext e).cell (by omega)]; simp only [basinsL, hv, if_true]; exact vi_range_get _ hi
    simp (disch := omega) only [go_sem, Nat.reduceEqDiff, ↓reduceIte, Nat.reduceAdd, hde, beq_self_eq_true]
    refine callK_of (by kernel_rfl) (waterSinks_c _ _ _ _ _ _ hr4) ?_
    rintro _ w5 ⟨ka, kc, rfl, ko, -, x5⟩
    rw [ni_len] at ko ⊢
    have hsl : (sinksOf rows).length ≤ 49 := by
      have := sinksTo_len rows.length (rowLen rows) (hgt rows) (rows.length * rowLen rows)
      simp only [sinksOf, hv, if_true]; omega
    have hr5 := hr4.ext x5
    let B : Nat → Nat := fun s => cntp (fun i => ((endN rows.length (rowLen rows) (hgt rows) i : Nat) : Int) = (s : Int)) (rows.length * rowLen rows)
    have hBle : ∀ s, B s ≤ 49 := fun s => by have := cntp_le (fun i => ((endN rows.length (rowLen rows) (hgt rows) i : Nat) : Int) = (s : Int)) (rows.length * rowLen rows); simp only [B]; omega
    simp (disch := omega) only [go_sem, Nat.reduceEqDiff, ↓reduceIte, Nat.reduceAdd]
    refine loopN (sinksOf rows).length (fun k f W => f 3 = .slice ga rows.length gc ∧ f 4 = .slice (some ⟨ob, 0, none⟩) (rows.length * rowLen rows) oc ∧ f 8 = .slice ka (sinksOf rows).length kc ∧ f 9 = .int .i64 (sumSinks B ((sinksOf rows).take k) : Nat) ∧ f 10 = .int .i64 k ∧ Ext w5 W) ⟨(by first | assumption | (simp only [upd_apply, Nat.reduceEqDiff, ↓reduceIte] <;> first | rfl | assumption) | simp [upd_apply, *]), (by first | assumption | (simp only [upd_apply, Nat.reduceEqDiff, ↓reduceIte] <;> first | rfl | assumption) | simp [upd_apply, *]), (by first | assumption | (simp only [upd_apply, Nat.reduceEqDiff, ↓reduceIte] <;> first | rfl | assumption) | simp [upd_apply, *]), by simp [upd_apply, sumSinks], (by first | assumption | (simp only [upd_apply, Nat.reduceEqDiff, ↓reduceIte] <;> first | rfl | assumption) | simp [upd_apply, *]), Ext.refl _⟩ fun k f W hk ⟨a3, a4, a8, a9, a10, xw⟩ => ?_
    by_cases hlk : (k : Int) < (sinksOf rows).length
    · obtain ⟨kb, rfl⟩ := ko.some (by omega)
      have hmem : (sinksOf rows).getD k 0 ∈ sinksOf rows := getD_mem (by omega)
      obtain ⟨hsl', hss, hsb⟩ := basin_sinks hv hmem
      have ck : ∀ {V : World}, Ext w5 V → V.cell? ⟨kb, k, none⟩ = some (.int .i64 ((sinksOf rows).getD k 0 : Nat)) := fun e => by
        rw [(ko.ext e).cell (by omega), vi_get _ _ (by rw [ni_len]; omega), ni_get _ (by omega)]
      have hst := sumSinks_take B (l := sinksOf rows) (k := k) (by omega)
      have hsum := sumSinks_le B 49 hBle ((sinksOf rows).take k)
      rw [List.length_take] at hsum
      have hbs := hBle ((sinksOf rows).getD k 0)
      have hend := endN_sink g hsl' hss
      generalize (sinksOf rows).getD k 0 = s at *
      have hsb' : basinOf rows s = (B s : Nat) := hsb
      have ck0 := ck xw
      simp (disch := omega) only [go_sem, Nat.reduceEqDiff, ↓reduceIte, Nat.reduceAdd, a3, a8, a9, a10, hlk, ck0]
      refine callK_pure (by kernel_rfl) (waterBasin_c _ _ _ _ _ (s : Int) _ (hr5.ext xw)) fun w6 x6 => ?_
      have ck1 := ck (xw.trans x6)
      have cs := oc' ((x5.trans xw).trans x6) s hsl'
      rw [hend] at cs
      simp (disch := omega) only [go_sem, Nat.reduceEqDiff, ↓reduceIte, Nat.reduceAdd, hsb', a9]
      refine QR_of (by kernel_rfl) (by kernel_rfl) ?_
      simp (disch := omega) only [go_sem, Nat.reduceEqDiff, ↓reduceIte, Nat.reduceAdd, a4, a8, a10, ck1, cs, bne_self_eq_false]
      exact fun w7 x7 => ⟨by omega, (by first | assumption | (simp only [upd_apply, Nat.reduceEqDiff, ↓reduceIte] <;> first | rfl | assumption) | simp [upd_apply, *]), (by first | assumption | (simp only [upd_apply, Nat.reduceEqDiff, ↓reduceIte] <;> first | rfl | assumption) | simp [upd_apply, *]), (by first | assumption | (simp only [upd_apply, Nat.reduceEqDiff, ↓reduceIte] <;> first | rfl | assumption) | simp [upd_apply, *]), by simp [upd_apply, hst], (by first | assumption | (simp only [upd_apply, Nat.reduceEqDiff, ↓reduceIte] <;> first | rfl | assumption) | simp [upd_apply, *]), (xw.trans x6).trans x7⟩
    · obtain rfl : k = (sinksOf rows).length := by omega
      have hr6 := hr5.ext xw
      obtain ⟨gb, go, rb, ro, rfl, -, hg⟩ := hr6.grid v
      have g0 := hg.row 0 v.r1
      simp only [Nat.add_zero] at g0
      have hall : sumSinks B (sinksOf rows) = rows.length * rowLen rows := by
        simp only [sinksOf, hv, if_true]; exact basins_all g
      rw [List.take_length, hall] at a9
      simp (disch := omega) only [go_sem, Nat.reduceEqDiff, ↓reduceIte, Nat.reduceAdd, a3, a8, a10, hlk, g0]
      refine loopN (rows.length * rowLen rows) (fun k f V => f 3 = .slice (some ⟨gb, go, none⟩) rows.length gc ∧ f 4 = .slice (some ⟨ob, 0, none⟩) (rows.length * rowLen rows) oc ∧ f 9 = .int .i64 (rows.length * rowLen rows : Nat) ∧ f 11 = .int .i64 (rowLen rows) ∧ f 12 = .int .i64 k ∧ Ext W V) ⟨(by first | assumption | (simp only [upd_apply, Nat.reduceEqDiff, ↓reduceIte] <;> first | rfl | assumption) | simp [upd_apply, *]), (by first | assumption | (simp only [upd_apply, Nat.reduceEqDiff, ↓reduceIte] <;> first | rfl | assumption) | simp [upd_apply, *]), (by first | assumption | (simp only [upd_apply, Nat.reduceEqDiff, ↓reduceIte] <;> first | rfl | assumption) | simp [upd_apply, *]), (by first | assumption | (simp only [upd_apply, Nat.reduceEqDiff, ↓reduceIte] <;> first | rfl | assumption) | simp [upd_apply, *]), (by first | assumption | (simp only [upd_apply, Nat.reduceEqDiff, ↓reduceIte] <;> first | rfl | assumption) | simp [upd_apply, *]), Ext.refl _⟩ fun k f V hk ⟨a3, a4, a9, a11, a12, xv⟩ => ?_
      by_cases hlk2 : (k : Int) < (rows.length * rowLen rows : Nat)
      · have hkn : k < rows.length * rowLen rows := by omega
        have hnl := nextN_lt (R := rows.length) (C := rowLen rows) (h := hgt rows) hkn
        have hst := endN_step g hkn
        have xx := (x5.trans xw).trans xv
        have cn := oc' xx _ hnl
        have ck := oc' xx k hkn
        rw [← hst] at cn
        simp (disch := omega) only [go_sem, Nat.reduceEqDiff, ↓reduceIte, Nat.reduceAdd, a4, a12, hlk2]
        refine QR_of (by kernel_rfl) (by kernel_rfl) ?_
        simp (disch := omega) only [go_sem, Nat.reduceEqDiff, ↓reduceIte, Nat.reduceAdd, a3, a4, a11, a12]
        refine callK_q (by kernel_rfl) (fun w' e => waterNextAt_c _ _ _ _ _ k _ ((hr6.ext xv).ext e) hv hkn) ?_
        simp (disch := omega) only [go_sem, Nat.reduceEqDiff, ↓reduceIte, Nat.reduceAdd, a4, a12, cn, ck, bne_self_eq_false]
        exact fun w7 x7 => ⟨hkn, (by first | assumption | (simp only [upd_apply, Nat.reduceEqDiff, ↓reduceIte] <;> first | rfl | assumption) | simp [upd_apply, *]), (by first | assumption | (simp only [upd_apply, Nat.reduceEqDiff, ↓reduceIte] <;> first | rfl | assumption) | simp [upd_apply, *]), (by first | assumption | (simp only [upd_apply, Nat.reduceEqDiff, ↓reduceIte] <;> first | rfl | assumption) | simp [upd_apply, *]), (by first | assumption | (simp only [upd_apply, Nat.reduceEqDiff, ↓reduceIte] <;> first | rfl | assumption) | simp [upd_apply, *]), (by first | assumption | (simp only [upd_apply, Nat.reduceEqDiff, ↓reduceIte] <;> first | rfl | assumption) | simp [upd_apply, *]), xv.trans x7⟩
      · obtain rfl : k = rows.length * rowLen rows := by omega
        simp (disch := omega) only [go_sem, Nat.reduceEqDiff, ↓reduceIte, Nat.reduceAdd, a3, a4, a12, hlk2]
        refine callK_pure (by kernel_rfl) (cellsOf_c _ _ _ _ _ _ (hr6.ext xv) v) fun w7 x7 => ?_
        simp (disch := omega) only [go_sem, Nat.reduceEqDiff, ↓reduceIte, Nat.reduceAdd, a3, a4, a9, beq_self_eq_true]
        refine callK_pure (by kernel_rfl) (cellsOf_c _ _ _ _ _ _ ((hr6.ext xv).ext x7) v) fun w8 x8 => ?_
        simp (disch := omega) only [go_sem, Nat.reduceEqDiff, ↓reduceIte, Nat.reduceAdd, beq_self_eq_true, Try.results13]
        exact ⟨trivial, ((((x14.trans x5).trans xw).trans xv).trans x7).trans x8⟩

end Go.Proofs.Ytikmkdoifbjfjaa
