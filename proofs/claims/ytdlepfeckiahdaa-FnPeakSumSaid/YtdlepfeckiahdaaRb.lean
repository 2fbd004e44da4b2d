/- The laws FnPeakRegions and FnPeakSum: contracts. -/
import Derived.Test.YtdlepfeckiahdaaRa
import Derived.Test.YtdlepfeckiahdaaPg
import Derived.Test.YtdlepfeckiahdaaHl
set_option linter.all false
namespace Go.SW
open Go Go.RowKit
theorem insL_cnt2 {h : Nat → Int} {i : Nat} (p : Nat → Bool) : ∀ {l : List Nat}, (insL h i l).countP p = l.countP p + if p i then 1 else 0
  | [] => by simp [insL, List.countP_cons]
  | a :: l => by
    simp only [insL]
    split
    · simp only [List.countP_cons, insL_cnt2 p (l := l)]; omega
    · simp only [List.countP_cons]
theorem peaksTo_cnt2 (R C : Nat) (h : Nat → Int) (p : Nat → Bool) : ∀ k, (peaksTo R C h k).countP p = cntp (fun i => p i = true ∧ peakB R C h i = true) k
  | 0 => rfl
  | k + 1 => by
    have ih := peaksTo_cnt2 R C h p k
    simp only [peaksTo, cntp]
    by_cases hb : peakB R C h k = true
    · rw [if_pos hb, insL_cnt2, ih]
      simp [hb]
    · rw [if_neg hb, ih]
      simp [hb]
end Go.SW
namespace Go.Proofs.Ytdlepfeckiahdaa
open Go.RowKit Go.SW
attribute [local irreducible] callK bslK

theorem peakRegions_law_c (a : Option Addr) (l : List Int) (c : Nat) (w : World) (hl : l.length ≤ c) (hc : c ≤ maxLen) (hs : ByteS w a l) :
    Ret Try.prog 13 #[.slice a l.length c] w fun v w' => v = .bool true ∧ Ext w w' := by
  have hmax := maxLen_le (Nat.le_trans hl hc)
  refine enter1 Try.func13 rfl (by kernel_rfl) (of_decide_eq_true (by kernel_rfl)) fun f a0 => ?_
  by_cases hbig : (1048576 : Int) < l.length
  · simp (disch := omega) only [go_sem, Nat.reduceEqDiff, ↓reduceIte, Nat.reduceAdd, a0, hbig, Try.results13]
    exact ⟨trivial, Ext.refl _⟩
  simp (disch := omega) only [go_sem, Nat.reduceEqDiff, ↓reduceIte, Nat.reduceAdd, a0, hbig]
  refine callK_of (by kernel_rfl) (drawLevelRegions_c _ _ _ _ hl hc hs) ?_
  rintro _ w1 ⟨ga, gc, rows, A, Cp, lv, rfl, hl1, hl2, hr, x1⟩
  simp (disch := omega) only [go_sem, Nat.reduceEqDiff, ↓reduceIte, Nat.reduceAdd]
  refine callK_of (by kernel_rfl) (implLevelRegions_c _ _ _ _ _ _ _ hr) ?_
  rintro _ w2 ⟨rfl, x2⟩
  simp (disch := omega) only [go_sem, Nat.reduceEqDiff, ↓reduceIte, Nat.reduceAdd]
  refine callK_of (by kernel_rfl) (specLevelRegions_c _ _ _ _ _ _ _ (hr.ext x2)) ?_
  rintro _ w3 ⟨rfl, x3⟩
  have hne : (regionsOf rows lv != regionsOf rows lv) = false := bne_self_eq_false _
  have x13 := (x1.trans x2).trans x3
  have r3 := (hr.ext x2).ext x3
  cases hv : lvok rows lv with
  | false =>
    have hlt : regionsOf rows lv < 0 := by simp [regionsOf, hv]
    simp (disch := omega) only [go_sem, Nat.reduceEqDiff, ↓reduceIte, Nat.reduceAdd, hne, hlt, beq_self_eq_true, Try.results13]
    exact ⟨trivial, x13⟩
  | true =>
    obtain ⟨hgv, hl0, hl99⟩ := lv_parts hv
    have v := (gvalid_iff rows).1 hgv
    have hn49 := v.gd.le
    have hpos := v.gd.pos
    have g := v.gd
    have hout : regionsOf rows lv = (compOf rows lv : Nat) := by simp [regionsOf, hv]
    have hnn : ¬ regionsOf rows lv < 0 := by omega
    have hrange : rangeOf rows = .tuple #[.int .i64 (mnN (hgt rows) (rows.length * rowLen rows)), .int .i64 (mxN (hgt rows) (rows.length * rowLen rows)), .bool true] := by simp [rangeOf, hgv]
    simp (disch := omega) only [go_sem, Nat.reduceEqDiff, ↓reduceIte, Nat.reduceAdd, hne, hnn]
    refine callK_of (by kernel_rfl) (implGridRange_c _ _ _ _ _ _ r3) ?_
    rintro _ w4 ⟨rfl, x4⟩
    simp (disch := omega) only [go_sem, Nat.reduceEqDiff, ↓reduceIte, Nat.reduceAdd, hrange]
    refine callK_of (by kernel_rfl) (peakList_c _ _ _ _ _ _ (r3.ext x4)) ?_
    rintro _ w5 ⟨pa, pc, rfl, po, pf, x5⟩
    have r5 := (r3.ext x4).ext x5
    have hP : peakListOf rows = peaksL rows.length (rowLen rows) (hgt rows) := by rw [peakListOf, if_pos hgv]
    have hPm : ∀ x ∈ peakListOf rows, x < rows.length * rowLen rows := fun x hx => by rw [hP] at hx; exact (mem_peaksTo.1 hx).1
    have hPk : ∀ x ∈ peakListOf rows, pkeyOf rows (x : Int) = keyN rows.length (rowLen rows) (hgt rows) x := fun x hx => by
      have := mem_peakListOf.1 hx
      simp [pkeyOf, this]
    have hPl := peakListOf_len rows
    have hPc := peaksTo_cnt2 rows.length (rowLen rows) (hgt rows) (fun x => decide (lv ≤ hgt rows x ∧ keyN rows.length (rowLen rows) (hgt rows) x < lv)) (rows.length * rowLen rows)
    rw [← peaksL, ← hP] at hPc
    have hcc : cntp (fun i => (fun x => decide (lv ≤ hgt rows x ∧ keyN rows.length (rowLen rows) (hgt rows) x < lv)) i = true ∧ peakB rows.length (rowLen rows) (hgt rows) i = true) (rows.length * rowLen rows) = cntp (pkLv rows lv) (rows.length * rowLen rows) := cntp_congr fun i _ => by
      simp only [pkLv, decide_eq_true_eq]
      exact ⟨fun ⟨⟨a, b⟩, c⟩ => ⟨c, a, b⟩, fun ⟨c, a, b⟩ => ⟨⟨a, b⟩, c⟩⟩
    rw [hcc] at hPc
    clear hcc
    generalize hq : (fun x => decide (lv ≤ hgt rows x ∧ keyN rows.length (rowLen rows) (hgt rows) x < lv)) = q at hPc
    generalize peakListOf rows = P at *
    simp (disch := omega) only [go_sem, Nat.reduceEqDiff, ↓reduceIte, Nat.reduceAdd]
    refine loopN P.length (fun k f V => f 3 = .slice ga rows.length gc ∧ f 4 = .int .i64 lv ∧ f 5 = .int .i64 (regionsOf rows lv) ∧ f 7 = .int .i64 (mnN (hgt rows) (rows.length * rowLen rows)) ∧ f 9 = .bool true ∧ f 10 = .slice pa (ni P).length pc ∧ f 11 = .int .i64 ((P.take k).countP q : Nat) ∧ f 12 = .int .i64 k ∧ Ext w5 V) ⟨(by first | assumption | (simp only [upd_apply, Nat.reduceEqDiff, ↓reduceIte] <;> first | rfl | assumption) | simp [upd_apply, *]), (by first | assumption | (simp only [upd_apply, Nat.reduceEqDiff, ↓reduceIte] <;> first | rfl | assumption) | simp [upd_apply, *]), (by first | assumption | (simp only [upd_apply, Nat.reduceEqDiff, ↓reduceIte] <;> first | rfl | assumption) | simp [upd_apply, *]), (by first | assumption | (simp only [upd_apply, Nat.reduceEqDiff, ↓reduceIte] <;> first | rfl | assumption) | simp [upd_apply, *]), (by first | assumption | (simp only [upd_apply, Nat.reduceEqDiff, ↓reduceIte] <;> first | rfl | assumption) | simp [upd_apply, *]), (by first | assumption | (simp only [upd_apply, Nat.reduceEqDiff, ↓reduceIte] <;> first | rfl | assumption) | simp [upd_apply, *]), by simp [upd_apply], (by first | assumption | (simp only [upd_apply, Nat.reduceEqDiff, ↓reduceIte] <;> first | rfl | assumption) | simp [upd_apply, *]), Ext.refl _⟩ fun k f V hk ⟨a3, a4, a5, a7, a9, a10, a11, a12, xV⟩ => ?_
    by_cases hlk : (k : Int) < (ni P).length
    · have hkl : k < P.length := by rw [ni_len] at hlk; omega
      obtain ⟨lb, rfl⟩ := po.some (by rw [ni_len]; omega)
      have cell : ∀ U, Ext w5 U → U.cell? ⟨lb, k, none⟩ = some (.int .i64 (P.getD k 0 : Nat)) := fun U e => by rw [(po.ext e).cell (by rw [ni_len]; omega), vi_get _ _ (by rw [ni_len]; omega), ni_get _ hkl]
      have hxm := getD_mem (d := 0) hkl
      have hx := hPm _ hxm
      have hxk := hPk _ hxm
      have hst := countP_take (p := q) hkl
      have hqx : q (P.getD k 0) = decide (lv ≤ hgt rows (P.getD k 0) ∧ keyN rows.length (rowLen rows) (hgt rows) (P.getD k 0) < lv) := by rw [← hq]
      have hcl : (P.take k).countP q ≤ k := by
        refine Nat.le_trans List.countP_le_length ?_
        rw [List.length_take]; omega
      generalize P.getD k 0 = x at *
      have g0 := cell _ xV
      simp (disch := omega) only [go_sem, Nat.reduceEqDiff, ↓reduceIte, Nat.reduceAdd, a3, a10, a12, hlk, g0]
      refine callK_pure (by kernel_rfl) (heightOf_c _ _ _ _ _ _ (r5.ext xV) v (x : Int) (by omega) (by omega)) fun w6 x6 => ?_
      by_cases hle : lv ≤ hgt rows x
      · have g1 := cell _ (xV.trans x6)
        simp (disch := omega) only [go_sem, Nat.reduceEqDiff, ↓reduceIte, Nat.reduceAdd, Int.toNat_natCast, a3, a4, a10, a12, hle, g1]
        refine callK_pure (by kernel_rfl) (implPeakKey_c _ _ _ _ _ (x : Int) _ ((r5.ext xV).ext x6)) fun w7 x7 => ?_
        by_cases hkk : keyN rows.length (rowLen rows) (hgt rows) x < lv
        · have hqt : q x = true := by rw [hqx, decide_eq_true_eq]; exact ⟨hle, hkk⟩
          simp (disch := omega) only [go_sem, Nat.reduceEqDiff, ↓reduceIte, Nat.reduceAdd, hxk, a4, a11, a12, hkk]
          exact ⟨hkl, (by first | assumption | (simp only [upd_apply, Nat.reduceEqDiff, ↓reduceIte] <;> first | rfl | assumption) | simp [upd_apply, *]), (by first | assumption | (simp only [upd_apply, Nat.reduceEqDiff, ↓reduceIte] <;> first | rfl | assumption) | simp [upd_apply, *]), (by first | assumption | (simp only [upd_apply, Nat.reduceEqDiff, ↓reduceIte] <;> first | rfl | assumption) | simp [upd_apply, *]), (by first | assumption | (simp only [upd_apply, Nat.reduceEqDiff, ↓reduceIte] <;> first | rfl | assumption) | simp [upd_apply, *]), (by first | assumption | (simp only [upd_apply, Nat.reduceEqDiff, ↓reduceIte] <;> first | rfl | assumption) | simp [upd_apply, *]), (by first | assumption | (simp only [upd_apply, Nat.reduceEqDiff, ↓reduceIte] <;> first | rfl | assumption) | simp [upd_apply, *]), by simp [upd_apply, hst, hqt], (by first | assumption | (simp only [upd_apply, Nat.reduceEqDiff, ↓reduceIte] <;> first | rfl | assumption) | simp [upd_apply, *]), (xV.trans x6).trans x7⟩
        · have hqf : q x = false := by rw [hqx, decide_eq_false_iff_not]; exact fun h => hkk h.2
          simp (disch := omega) only [go_sem, Nat.reduceEqDiff, ↓reduceIte, Nat.reduceAdd, hxk, a4, a12, hkk]
          exact ⟨hkl, (by first | assumption | (simp only [upd_apply, Nat.reduceEqDiff, ↓reduceIte] <;> first | rfl | assumption) | simp [upd_apply, *]), (by first | assumption | (simp only [upd_apply, Nat.reduceEqDiff, ↓reduceIte] <;> first | rfl | assumption) | simp [upd_apply, *]), (by first | assumption | (simp only [upd_apply, Nat.reduceEqDiff, ↓reduceIte] <;> first | rfl | assumption) | simp [upd_apply, *]), (by first | assumption | (simp only [upd_apply, Nat.reduceEqDiff, ↓reduceIte] <;> first | rfl | assumption) | simp [upd_apply, *]), (by first | assumption | (simp only [upd_apply, Nat.reduceEqDiff, ↓reduceIte] <;> first | rfl | assumption) | simp [upd_apply, *]), (by first | assumption | (simp only [upd_apply, Nat.reduceEqDiff, ↓reduceIte] <;> first | rfl | assumption) | simp [upd_apply, *]), by simp [upd_apply, hst, hqf, a11], (by first | assumption | (simp only [upd_apply, Nat.reduceEqDiff, ↓reduceIte] <;> first | rfl | assumption) | simp [upd_apply, *]), (xV.trans x6).trans x7⟩
      · have hqf : q x = false := by rw [hqx, decide_eq_false_iff_not]; exact fun h => hle h.1
        simp (disch := omega) only [go_sem, Nat.reduceEqDiff, ↓reduceIte, Nat.reduceAdd, Int.toNat_natCast, a4, a12, hle]
        exact ⟨hkl, (by first | assumption | (simp only [upd_apply, Nat.reduceEqDiff, ↓reduceIte] <;> first | rfl | assumption) | simp [upd_apply, *]), (by first | assumption | (simp only [upd_apply, Nat.reduceEqDiff, ↓reduceIte] <;> first | rfl | assumption) | simp [upd_apply, *]), (by first | assumption | (simp only [upd_apply, Nat.reduceEqDiff, ↓reduceIte] <;> first | rfl | assumption) | simp [upd_apply, *]), (by first | assumption | (simp only [upd_apply, Nat.reduceEqDiff, ↓reduceIte] <;> first | rfl | assumption) | simp [upd_apply, *]), (by first | assumption | (simp only [upd_apply, Nat.reduceEqDiff, ↓reduceIte] <;> first | rfl | assumption) | simp [upd_apply, *]), (by first | assumption | (simp only [upd_apply, Nat.reduceEqDiff, ↓reduceIte] <;> first | rfl | assumption) | simp [upd_apply, *]), by simp [upd_apply, hst, hqf, a11], (by first | assumption | (simp only [upd_apply, Nat.reduceEqDiff, ↓reduceIte] <;> first | rfl | assumption) | simp [upd_apply, *]), xV.trans x6⟩
    · have e : k = P.length := by rw [ni_len] at hlk; omega
      rw [e, List.take_length, hPc] at a11
      have xx := ((x13.trans x4).trans x5).trans xV
      by_cases hlo : lv ≤ mnN (hgt rows) (rows.length * rowLen rows)
      · simp (disch := omega) only [go_sem, Nat.reduceEqDiff, ↓reduceIte, Nat.reduceAdd, a4, a7, a9, a10, a12, hlk, hlo, Try.results13]
        exact ⟨trivial, xx⟩
      · have hb : (((cntp (pkLv rows lv) (rows.length * rowLen rows) : Nat) : Int) == regionsOf rows lv) = true := by rw [beq_iff_eq, hout, comp_peaks hgv (by omega)]
        simp (disch := omega) only [go_sem, Nat.reduceEqDiff, ↓reduceIte, Nat.reduceAdd, a4, a5, a7, a9, a10, a11, a12, hlk, hlo, hb, Try.results13]
        exact ⟨trivial, xx⟩

theorem drawPeakSum_c (a : Option Addr) (l : List Int) (c : Nat) (w : World) (hl : l.length ≤ c) (hc : c ≤ maxLen) (hs : ByteS w a l) :
    Ret Try.prog 50 #[.slice a l.length c] w fun v w' => DrawnG w w' v := by
  refine enter1 Try.func50 rfl (by kernel_rfl) (of_decide_eq_true (by kernel_rfl)) fun f a0 => ?_
  simp (disch := omega) only [go_sem, Nat.reduceEqDiff, ↓reduceIte, Nat.reduceAdd, a0]
  refine callK_of (by kernel_rfl) (l6Open_c _ _ _ _ hl hc hs) ?_
  rintro _ w1 ⟨rb, rfl, x1, hrb, r1, e1⟩
  simp (disch := omega) only [go_sem, Nat.reduceEqDiff, ↓reduceIte, Nat.reduceAdd]
  refine callK_of (by kernel_rfl) (l91Grid_c rb _ 0 _ r1 (by omega) (by omega)) ?_
  rintro _ w2 ⟨a, c, rows, A, Cp, R, rfl, hR1, hR5, d, g, r2⟩
  simp (disch := omega) only [go_sem, Nat.reduceEqDiff, ↓reduceIte, Nat.reduceAdd, Try.results50]
  exact ⟨a, c, rows, A, Cp, rfl, d.at (by omega), g.ext x1 fun b hb => by simp at hb; omega⟩


theorem peakSum_law_c (a : Option Addr) (l : List Int) (c : Nat) (w : World) (hl : l.length ≤ c) (hc : c ≤ maxLen) (hs : ByteS w a l) :
    Ret Try.prog 14 #[.slice a l.length c] w fun v w' => v = .bool true ∧ Ext w w' := by
  have hmax := maxLen_le (Nat.le_trans hl hc)
  refine enter1 Try.func14 rfl (by kernel_rfl) (of_decide_eq_true (by kernel_rfl)) fun f a0 => ?_
  by_cases hbig : (1048576 : Int) < l.length
  · simp (disch := omega) only [go_sem, Nat.reduceEqDiff, ↓reduceIte, Nat.reduceAdd, a0, hbig, Try.results14]
    exact ⟨trivial, Ext.refl _⟩
  simp (disch := omega) only [go_sem, Nat.reduceEqDiff, ↓reduceIte, Nat.reduceAdd, a0, hbig]
  refine callK_of (by kernel_rfl) (drawPeakSum_c _ _ _ _ hl hc hs) ?_
  rintro _ w1 ⟨ga, gc, rows, A, Cp, rfl, hr, x1⟩
  simp (disch := omega) only [go_sem, Nat.reduceEqDiff, ↓reduceIte, Nat.reduceAdd]
  refine callK_pure (by kernel_rfl) (implPeakSum_c _ _ _ _ _ _ hr) fun w2 x2 => ?_
  simp (disch := omega) only [go_sem, Nat.reduceEqDiff, ↓reduceIte, Nat.reduceAdd]
  refine callK_pure (by kernel_rfl) (specPeakSum_c _ _ _ _ _ _ (hr.ext x2)) fun w3 x3 => ?_
  have hne : (psumOf rows != psumOf rows) = false := bne_self_eq_false _
  have hee : (psumOf rows == psumOf rows) = true := beq_self_eq_true _
  have x13 := (x1.trans x2).trans x3
  cases hv : gvalid rows with
  | false =>
    have hlt : psumOf rows < 0 := by simp [psumOf, hv]
    simp (disch := omega) only [go_sem, Nat.reduceEqDiff, ↓reduceIte, Nat.reduceAdd, hne, hlt, hee, Try.results14]
    exact ⟨trivial, x13⟩
  | true =>
    have v := (gvalid_iff rows).1 hv
    have g := v.gd
    have hn49 := g.le
    have hrange : rangeOf rows = .tuple #[.int .i64 (mnN (hgt rows) (rows.length * rowLen rows)), .int .i64 (mxN (hgt rows) (rows.length * rowLen rows)), .bool true] := by simp [rangeOf, hv]
    obtain ⟨i1, hi1, e1⟩ := mnN_at2 (hgt rows) _ g.pos
    obtain ⟨i2, hi2, e2⟩ := mxN_at (hgt rows) _ g.pos
    have hh1 := g.hh i1 hi1
    have hh2 := g.hh i2 hi2
    have hmm := mnN_le2 (hgt rows) _ i2 hi2
    obtain ⟨D, hD⟩ : ∃ D : Nat, mxN (hgt rows) (rows.length * rowLen rows) - mnN (hgt rows) (rows.length * rowLen rows) = (D : Int) := Int.eq_ofNat_of_zero_le (by omega)
    have hps := psum_regions hv hD
    have hnn : ¬ psumOf rows < 0 := by rw [← hps]; omega
    have hcb : ∀ lv, compOf rows lv ≤ 49 := fun lv => by
      have h1 := comp_le (nearN rows.length (rowLen rows)) (landB (hgt rows) lv) (rows.length * rowLen rows)
      have h2 := cntp_le (fun i => landB (hgt rows) lv i = true) (rows.length * rowLen rows)
      simp only [compOf]; omega
    have hr3 := (hr.ext x2).ext x3
    generalize hmn : mnN (hgt rows) (rows.length * rowLen rows) = mn at *
    generalize hmxx : mxN (hgt rows) (rows.length * rowLen rows) = mx at *
    simp (disch := omega) only [go_sem, Nat.reduceEqDiff, ↓reduceIte, Nat.reduceAdd, hne, hnn]
    refine callK_of (by kernel_rfl) (implGridRange_c _ _ _ _ _ _ hr3) ?_
    rintro _ w4 ⟨rfl, x4⟩
    simp (disch := omega) only [go_sem, Nat.reduceEqDiff, ↓reduceIte, Nat.reduceAdd, hrange]
    refine loopN D (fun d f W => f 3 = .slice ga rows.length gc ∧ f 4 = .int .i64 (psumOf rows) ∧ f 7 = .int .i64 mx ∧ f 8 = .bool true ∧ f 9 = .int .i64 (sumN (fun d => compOf rows (mn + 1 + (d : Int))) d : Nat) ∧ f 10 = .int .i64 (mn + 1 + (d : Int)) ∧ sumN (fun d => compOf rows (mn + 1 + (d : Int))) d ≤ d * 49 ∧ Ext w4 W) ⟨(by first | assumption | (simp only [upd_apply, Nat.reduceEqDiff, ↓reduceIte] <;> first | rfl | assumption) | simp [upd_apply, *]), (by first | assumption | (simp only [upd_apply, Nat.reduceEqDiff, ↓reduceIte] <;> first | rfl | assumption) | simp [upd_apply, *]), (by first | assumption | (simp only [upd_apply, Nat.reduceEqDiff, ↓reduceIte] <;> first | rfl | assumption) | simp [upd_apply, *]), (by first | assumption | (simp only [upd_apply, Nat.reduceEqDiff, ↓reduceIte] <;> first | rfl | assumption) | simp [upd_apply, *]), by simp [upd_apply, sumN], by simp [upd_apply], by simp [sumN], Ext.refl _⟩ fun d f W hd ⟨a3, a4, a7, a8, a9, a10, hsb, xW⟩ => ?_
    by_cases hlt : mn + 1 + (d : Int) ≤ mx
    · have hdD : d < D := by omega
      have hlv : lvok rows (mn + 1 + (d : Int)) = true := by
        simp only [lvok, hv, Bool.true_and, decide_eq_true_eq]; omega
      have hreg : regionsOf rows (mn + 1 + (d : Int)) = (compOf rows (mn + 1 + (d : Int)) : Nat) := by simp [regionsOf, hlv]
      have hc1 := hcb (mn + 1 + (d : Int))
      simp (disch := omega) only [go_sem, Nat.reduceEqDiff, ↓reduceIte, Nat.reduceAdd, a3, a7, a10, hlt]
      refine callK_of (by kernel_rfl) (implLevelRegions_c _ _ _ _ _ _ _ ((hr3.ext x4).ext xW)) ?_
      rintro _ w5 ⟨rfl, x5⟩
      simp (disch := omega) only [go_sem, Nat.reduceEqDiff, ↓reduceIte, Nat.reduceAdd, hreg, a9, a10]
      exact ⟨hdD, (by first | assumption | (simp only [upd_apply, Nat.reduceEqDiff, ↓reduceIte] <;> first | rfl | assumption) | simp [upd_apply, *]), (by first | assumption | (simp only [upd_apply, Nat.reduceEqDiff, ↓reduceIte] <;> first | rfl | assumption) | simp [upd_apply, *]), (by first | assumption | (simp only [upd_apply, Nat.reduceEqDiff, ↓reduceIte] <;> first | rfl | assumption) | simp [upd_apply, *]), (by first | assumption | (simp only [upd_apply, Nat.reduceEqDiff, ↓reduceIte] <;> first | rfl | assumption) | simp [upd_apply, *]), by simp [upd_apply, sumN], by simp [upd_apply]; omega, by simp only [sumN]; omega, xW.trans x5⟩
    · have ed : d = D := by omega
      rw [ed, hps] at a9
      simp (disch := omega) only [go_sem, Nat.reduceEqDiff, ↓reduceIte, Nat.reduceAdd, a4, a7, a8, a9, a10, hlt, hee, Try.results14]
      exact ⟨trivial, (x13.trans x4).trans xW⟩
end Go.Proofs.Ytdlepfeckiahdaa
