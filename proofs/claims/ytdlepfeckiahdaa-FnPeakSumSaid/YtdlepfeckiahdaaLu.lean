/- The level laws FnRegions and FnArea: each returns true, and nothing that was there is written. -/
import Derived.Test.YtdlepfeckiahdaaLt
import Derived.Test.YtdlepfeckiahdaaLs
set_option linter.all false
namespace Go.SW
open Go Go.RowKit
theorem landB_cnt (rows : List (List Int)) (lv : Int) : cntp (fun i => landB (hgt rows) lv i = true) (rows.length * rowLen rows) = cntp (fun i => lv ≤ hgt rows i) (rows.length * rowLen rows) := cntp_congr fun i _ => by simp [landB]
end Go.SW
namespace Go.Proofs.Ytdlepfeckiahdaa
open Go.RowKit Go.SW

theorem binb_eql' (a b : Bool) : binV Try.prog .eql 4 (.bool a) (.bool b) = some (.bool (a == b)) := by kernel_rfl
attribute [go_sem] binb_eql'

theorem drawLevelRegions_c (a : Option Addr) (l : List Int) (c : Nat) (w : World) (hl : l.length ≤ c) (hc : c ≤ maxLen) (hs : ByteS w a l) :
    Ret Try.prog 41 #[.slice a l.length c] w fun v w' => DrawnL w w' v := by
  refine enter1 Try.func41 rfl (by kernel_rfl) (of_decide_eq_true (by kernel_rfl)) fun f a0 => ?_
  simp (disch := omega) only [go_sem, Nat.reduceEqDiff, ↓reduceIte, Nat.reduceAdd, a0]
  refine callK_of (by kernel_rfl) (l6Open_c _ _ _ _ hl hc hs) ?_
  rintro _ w1 ⟨rb, rfl, x1, hrb, r1, e1⟩
  simp (disch := omega) only [go_sem, Nat.reduceEqDiff, ↓reduceIte, Nat.reduceAdd]
  refine callK_of (by kernel_rfl) (l91Level_c rb _ 0 _ r1 (by omega) (by omega)) ?_
  rintro _ w2 ⟨a, c, rows, A, Cp, R, lv, rfl, hR1, hR5, hl1, hl2, d, g, r2⟩
  simp (disch := omega) only [go_sem, Nat.reduceEqDiff, ↓reduceIte, Nat.reduceAdd, Try.results41]
  exact ⟨a, c, rows, A, Cp, lv, rfl, hl1, hl2, d.at (by omega), g.ext x1 fun b hb => by simp at hb; omega⟩


theorem regions_turned {rows : List (List Int)} (v : Valid rows) {lv : Int} (hv : lvok rows lv = true) : regionsOf (turned rows) lv = regionsOf rows lv := by
  obtain ⟨vm, lm, cm, hm⟩ := turned_ok v hv
  simp only [regionsOf, hv, lm, if_true, compOf, turned_len, cm]
  rw [comp_sym (turn_sym rows.length (rowLen rows)) (P := landB (hgt rows) lv) (Q := landB (hgt (turned rows)) lv) fun i hi => by simp only [landB, hm i hi]]
theorem regions_mirrored {rows : List (List Int)} (v : Valid rows) {lv : Int} (hv : lvok rows lv = true) : regionsOf (mirrored rows) lv = regionsOf rows lv := by
  obtain ⟨vm, lm, cm, hm⟩ := mirrored_ok v hv
  simp only [regionsOf, hv, lm, if_true, compOf, mirrored_len, cm]
  rw [comp_sym (mir_sym rows.length (rowLen rows)) (P := landB (hgt rows) lv) (Q := landB (hgt (mirrored rows)) lv) fun i hi => by simp only [landB, hm i hi]]

theorem regions_law_c (a : Option Addr) (l : List Int) (c : Nat) (w : World) (hl : l.length ≤ c) (hc : c ≤ maxLen) (hs : ByteS w a l) :
    Ret Try.prog 10 #[.slice a l.length c] w fun v w' => v = .bool true ∧ Ext w w' := by
  have hmax := maxLen_le (Nat.le_trans hl hc)
  refine enter1 Try.func10 rfl (by kernel_rfl) (of_decide_eq_true (by kernel_rfl)) fun f a0 => ?_
  by_cases hbig : (1048576 : Int) < l.length
  · simp (disch := omega) only [go_sem, Nat.reduceEqDiff, ↓reduceIte, Nat.reduceAdd, a0, hbig, Try.results10]
    exact ⟨trivial, Ext.refl _⟩
  simp (disch := omega) only [go_sem, Nat.reduceEqDiff, ↓reduceIte, Nat.reduceAdd, a0, hbig]
  refine callK_of (by kernel_rfl) (drawLevelRegions_c _ _ _ _ hl hc hs) ?_
  rintro _ w1 ⟨ga, gc, rows, A, Cp, lv, rfl, hl1, hl2, hr, x1⟩
  simp (disch := omega) only [go_sem, Nat.reduceEqDiff, ↓reduceIte, Nat.reduceAdd]
  refine callK_of (by kernel_rfl) (implLevelRegions_c _ _ _ _ _ _ _ hr) ?_
  rintro _ w2 ⟨rfl, x2⟩
  simp (disch := omega) only [go_sem, Nat.reduceEqDiff, ↓reduceIte, Nat.reduceAdd]
  refine callK_of (by kernel_rfl) (specLevelRegions_c _ _ _ _ _ _ _ (hr.ext x2)) ?_
  rintro _ w3 ⟨rfl, x3⟩
  have hne : (regionsOf rows lv != regionsOf rows lv) = false := bne_self_eq_false _
  have x13 := (x1.trans x2).trans x3
  have r3 := (hr.ext x2).ext x3
  cases hv : lvok rows lv with
  | false =>
    have hlt : regionsOf rows lv < 0 := by simp [regionsOf, hv]
    simp (disch := omega) only [go_sem, Nat.reduceEqDiff, ↓reduceIte, Nat.reduceAdd, hne, hlt, beq_self_eq_true, Try.results10]
    exact ⟨trivial, x13⟩
  | true =>
    obtain ⟨hgv, hl0, hl99⟩ := lv_parts hv
    have v := (gvalid_iff rows).1 hgv
    have hn49 := v.gd.le
    have hpos := v.gd.pos
    have hout : regionsOf rows lv = (compOf rows lv : Nat) := by simp [regionsOf, hv]
    have hnn : ¬ regionsOf rows lv < 0 := by omega
    have hland : landOf rows lv = (cntp (fun i => lv ≤ hgt rows i) (rows.length * rowLen rows) : Nat) := by simp [landOf, hv]
    have hle := comp_le (nearN rows.length (rowLen rows)) (landB (hgt rows) lv) (rows.length * rowLen rows)
    have hz := comp_zero (nb := nearN rows.length (rowLen rows)) (act := landB (hgt rows) lv) (n := rows.length * rowLen rows) near_ok
    rw [landB_cnt] at hle hz
    have hle' : regionsOf rows lv ≤ landOf rows lv := by rw [hout, hland]; exact Int.ofNat_le.2 hle
    have hzz : (((regionsOf rows lv == 0) == (landOf rows lv == 0))) = true := by
      have : (regionsOf rows lv == 0) = (landOf rows lv == 0) := by
        rw [hout, hland, Bool.eq_iff_iff]; simp only [beq_iff_eq, Int.natCast_eq_zero]; exact hz
      rw [this]; exact beq_self_eq_true _
    have heq : (regionsOf rows lv == regionsOf rows lv) = true := beq_self_eq_true _
    simp (disch := omega) only [go_sem, Nat.reduceEqDiff, ↓reduceIte, Nat.reduceAdd, hne, hnn]
    refine callK_of (by kernel_rfl) (turn_c _ _ _ _ _ _ r3 hgv) ?_
    rintro _ w4 ⟨b, A', Cp', rfl, x4, rt⟩
    simp (disch := omega) only [go_sem, Nat.reduceEqDiff, ↓reduceIte, Nat.reduceAdd]
    refine callK_of (by kernel_rfl) (mirror_c _ _ _ _ _ _ (r3.ext x4) hgv) ?_
    rintro _ w5 ⟨b2, A2, Cp2, rfl, x5, rm⟩
    have r5 := (r3.ext x4).ext x5
    simp (disch := omega) only [go_sem, Nat.reduceEqDiff, ↓reduceIte, Nat.reduceAdd]
    refine callK_of (by kernel_rfl) (implLevelLand_c _ _ _ _ _ _ _ r5) ?_
    rintro _ w6 ⟨rfl, x6⟩
    simp (disch := omega) only [go_sem, Nat.reduceEqDiff, ↓reduceIte, Nat.reduceAdd, hle', hzz]
    refine callK_of (by kernel_rfl) (implLevelRegions_c _ _ _ _ _ _ _ ((rt.ext x5).ext x6)) ?_
    rintro _ w7 ⟨rfl, x7⟩
    simp (disch := omega) only [go_sem, Nat.reduceEqDiff, ↓reduceIte, Nat.reduceAdd, regions_turned v hv, heq]
    refine callK_of (by kernel_rfl) (implLevelRegions_c _ _ _ _ _ _ _ ((rm.ext x6).ext x7)) ?_
    rintro _ w8 ⟨rfl, x8⟩
    simp (disch := omega) only [go_sem, Nat.reduceEqDiff, ↓reduceIte, Nat.reduceAdd, regions_mirrored v hv, heq, Try.results10]
    exact ⟨trivial, ((((x13.trans x4).trans x5).trans x6).trans x7).trans x8⟩

theorem drawLevelArea_c (a : Option Addr) (l : List Int) (c : Nat) (w : World) (hl : l.length ≤ c) (hc : c ≤ maxLen) (hs : ByteS w a l) :
    Ret Try.prog 37 #[.slice a l.length c] w fun v w' => ∃ a c rows A Cp lv num, v = .tuple #[.slice a rows.length c, .int .i64 lv, .int .i64 num] ∧ -2 ≤ lv ∧ lv ≤ 102 ∧ -1 ≤ num ∧ num ≤ 3 ∧ RowsAt w' a rows A Cp ∧ Ext w w' := by
  refine enter1 Try.func37 rfl (by kernel_rfl) (of_decide_eq_true (by kernel_rfl)) fun f a0 => ?_
  simp (disch := omega) only [go_sem, Nat.reduceEqDiff, ↓reduceIte, Nat.reduceAdd, a0]
  refine callK_of (by kernel_rfl) (l6Open_c _ _ _ _ hl hc hs) ?_
  rintro _ w1 ⟨rb, rfl, x1, hrb, r1, e1⟩
  simp (disch := omega) only [go_sem, Nat.reduceEqDiff, ↓reduceIte, Nat.reduceAdd]
  refine callK_of (by kernel_rfl) (l91Level_c rb _ 0 _ r1 (by omega) (by omega)) ?_
  rintro _ w2 ⟨a, c, rows, A, Cp, R, lv, rfl, hR1, hR5, hl1, hl2, d, g, r2⟩
  simp (disch := omega) only [go_sem, Nat.reduceEqDiff, ↓reduceIte, Nat.reduceAdd]
  refine callK_of (by kernel_rfl) (pick_c rb _ _ 4 _ r2 (by omega) (by omega)) ?_
  rintro _ w3 ⟨k1, rfl, hk1, g3, r3⟩
  simp (disch := omega) only [go_sem, Nat.reduceEqDiff, ↓reduceIte, Nat.reduceAdd]
  refine callK_of (by kernel_rfl) (pick_c rb _ _ 12 _ r3 (by omega) (by omega)) ?_
  rintro _ w4 ⟨k2, rfl, hk2, g4, r4⟩
  have ht : (k2 : Int).tdiv 11 = (k2 : Int) / 11 := Int.tdiv_eq_ediv_of_nonneg (by omega)
  simp (disch := omega) only [go_sem, Nat.reduceEqDiff, ↓reduceIte, Nat.reduceAdd, Try.results37]
  have d4 := (d.other g3 fun b hb => by simp at hb; omega).other g4 fun b hb => by simp at hb; omega
  refine ⟨a, c, rows, A, Cp, lv, _, rfl, hl1, hl2, ?_, ?_, d4.at (by omega), ((g.trans g3).trans g4).ext x1 fun b hb => by simp at hb; omega⟩ <;> omega

theorem area_law_c (a : Option Addr) (l : List Int) (c : Nat) (w : World) (hl : l.length ≤ c) (hc : c ≤ maxLen) (hs : ByteS w a l) :
    Ret Try.prog 9 #[.slice a l.length c] w fun v w' => v = .bool true ∧ Ext w w' := by
  have hmax := maxLen_le (Nat.le_trans hl hc)
  refine enter1 Try.func9 rfl (by kernel_rfl) (of_decide_eq_true (by kernel_rfl)) fun f a0 => ?_
  by_cases hbig : (1048576 : Int) < l.length
  · simp (disch := omega) only [go_sem, Nat.reduceEqDiff, ↓reduceIte, Nat.reduceAdd, a0, hbig, Try.results9]
    exact ⟨trivial, Ext.refl _⟩
  simp (disch := omega) only [go_sem, Nat.reduceEqDiff, ↓reduceIte, Nat.reduceAdd, a0, hbig]
  refine callK_of (by kernel_rfl) (drawLevelArea_c _ _ _ _ hl hc hs) ?_
  rintro _ w1 ⟨ga, gc, rows, A, Cp, lv, num, rfl, hl1, hl2, hn1, hn2, hr, x1⟩
  simp (disch := omega) only [go_sem, Nat.reduceEqDiff, ↓reduceIte, Nat.reduceAdd]
  refine callK_of (by kernel_rfl) (implLevelArea_c _ _ _ _ _ _ _ _ hr) ?_
  rintro _ w2 ⟨rfl, x2⟩
  simp (disch := omega) only [go_sem, Nat.reduceEqDiff, ↓reduceIte, Nat.reduceAdd]
  refine callK_of (by kernel_rfl) (specLevelArea_c _ _ _ _ _ _ _ _ (hr.ext x2)) ?_
  rintro _ w3 ⟨rfl, x3⟩
  have hne : (areaOf rows lv num != areaOf rows lv num) = false := bne_self_eq_false _
  have x13 := (x1.trans x2).trans x3
  have r3 := (hr.ext x2).ext x3
  by_cases hok : lvok rows lv = true ∧ 0 ≤ num ∧ num < (compOf rows lv : Nat)
  · obtain ⟨hv, hk0, hk1⟩ := hok
    obtain ⟨hgv, hl0, hl99⟩ := lv_parts hv
    have v := (gvalid_iff rows).1 hgv
    have hn49 := v.gd.le
    have hpos := v.gd.pos
    have hcomp := comp_le (nearN rows.length (rowLen rows)) (landB (hgt rows) lv) (rows.length * rowLen rows)
    have hcl := cntp_le (fun i => lv ≤ hgt rows i) (rows.length * rowLen rows)
    have hsum := area_sum (nb := nearN rows.length (rowLen rows)) (act := landB (hgt rows) lv) (n := rows.length * rowLen rows) near_ok
    rw [landB_cnt] at hcomp hsum
    have hcomp' : compOf rows lv ≤ 49 := by simp only [compOf]; omega
    have hout : areaOf rows lv num = (lvCells rows lv num : Nat) := by rw [areaOf, if_pos ⟨hv, hk0, hk1⟩]
    have hap := (area_pos (nb := nearN rows.length (rowLen rows)) (act := landB (hgt rows) lv) (n := rows.length * rowLen rows) (k := num) hk0 near_ok).2 hk1
    have hbd : ∀ k, lvCells rows lv k ≤ 49 := fun k => by
      have := cntp_le (fun i => numOf (nearN rows.length (rowLen rows)) (landB (hgt rows) lv) (rows.length * rowLen rows) i = k) (rows.length * rowLen rows)
      simp only [lvCells, areaN]; omega
    have hnn : ¬ areaOf rows lv num < 0 := by omega
    have h1 : 1 ≤ areaOf rows lv num := by rw [hout]; simp only [lvCells]; omega
    simp (disch := omega) only [go_sem, Nat.reduceEqDiff, ↓reduceIte, Nat.reduceAdd, hne, hnn]
    refine callK_of (by kernel_rfl) (implLevelRegions_c _ _ _ _ _ _ _ r3) ?_
    rintro _ w4 ⟨rfl, x4⟩
    have hreg : regionsOf rows lv = (compOf rows lv : Nat) := by simp [regionsOf, hv]
    have r4 := r3.ext x4
    simp (disch := omega) only [go_sem, Nat.reduceEqDiff, ↓reduceIte, Nat.reduceAdd, hreg]
    refine loopN (compOf rows lv) (fun k f W => f 3 = .slice ga rows.length gc ∧ f 4 = .int .i64 lv ∧ f 5 = .int .i64 num ∧ f 6 = .int .i64 (areaOf rows lv num) ∧ f 8 = .int .i64 (sumN (fun k => lvCells rows lv (k : Int)) k : Nat) ∧ f 9 = .int .i64 (compOf rows lv : Nat) ∧ f 10 = .int .i64 k ∧ Ext w4 W ∧ sumN (fun k => lvCells rows lv (k : Int)) k ≤ k * 49) ⟨(by first | assumption | (simp only [upd_apply, Nat.reduceEqDiff, ↓reduceIte] <;> first | rfl | assumption) | simp [upd_apply, *]), (by first | assumption | (simp only [upd_apply, Nat.reduceEqDiff, ↓reduceIte] <;> first | rfl | assumption) | simp [upd_apply, *]), (by first | assumption | (simp only [upd_apply, Nat.reduceEqDiff, ↓reduceIte] <;> first | rfl | assumption) | simp [upd_apply, *]), (by first | assumption | (simp only [upd_apply, Nat.reduceEqDiff, ↓reduceIte] <;> first | rfl | assumption) | simp [upd_apply, *]), by simp [upd_apply, sumN], (by first | assumption | (simp only [upd_apply, Nat.reduceEqDiff, ↓reduceIte] <;> first | rfl | assumption) | simp [upd_apply, *]), (by first | assumption | (simp only [upd_apply, Nat.reduceEqDiff, ↓reduceIte] <;> first | rfl | assumption) | simp [upd_apply, *]), Ext.refl _, by simp [sumN]⟩ fun k f W hk ⟨a3, a4, a5, a6, a8, a9, a10, xW, hs⟩ => ?_
    by_cases hlt : (k : Int) < (compOf rows lv : Nat)
    · have hkn : k < compOf rows lv := by omega
      have hak : areaOf rows lv (k : Int) = (lvCells rows lv (k : Int) : Nat) := by rw [areaOf, if_pos ⟨hv, by omega, hlt⟩]
      have hbk := hbd (k : Int)
      simp (disch := omega) only [go_sem, Nat.reduceEqDiff, ↓reduceIte, Nat.reduceAdd, a3, a4, a8, a9, a10, hlt]
      refine callK_of (by kernel_rfl) (implLevelArea_c _ _ _ _ _ _ _ _ (r4.ext xW)) ?_
      rintro _ w5 ⟨rfl, x5⟩
      have hsb : sumN (fun k => lvCells rows lv (k : Int)) k ≤ 2401 := by omega
      simp (disch := omega) only [go_sem, Nat.reduceEqDiff, ↓reduceIte, Nat.reduceAdd, hak, a10]
      exact ⟨hkn, (by first | assumption | (simp only [upd_apply, Nat.reduceEqDiff, ↓reduceIte] <;> first | rfl | assumption) | simp [upd_apply, *]), (by first | assumption | (simp only [upd_apply, Nat.reduceEqDiff, ↓reduceIte] <;> first | rfl | assumption) | simp [upd_apply, *]), (by first | assumption | (simp only [upd_apply, Nat.reduceEqDiff, ↓reduceIte] <;> first | rfl | assumption) | simp [upd_apply, *]), (by first | assumption | (simp only [upd_apply, Nat.reduceEqDiff, ↓reduceIte] <;> first | rfl | assumption) | simp [upd_apply, *]), by simp [upd_apply, sumN], (by first | assumption | (simp only [upd_apply, Nat.reduceEqDiff, ↓reduceIte] <;> first | rfl | assumption) | simp [upd_apply, *]), (by first | assumption | (simp only [upd_apply, Nat.reduceEqDiff, ↓reduceIte] <;> first | rfl | assumption) | simp [upd_apply, *]), xW.trans x5, by simp only [sumN]; omega⟩
    · obtain rfl : k = compOf rows lv := by omega
      have hland : landOf rows lv = (cntp (fun i => lv ≤ hgt rows i) (rows.length * rowLen rows) : Nat) := by simp [landOf, hv]
      have hs' : sumN (fun k => lvCells rows lv (k : Int)) (compOf rows lv) = cntp (fun i => lv ≤ hgt rows i) (rows.length * rowLen rows) := hsum
      have heq : (((cntp (fun i => lv ≤ hgt rows i) (rows.length * rowLen rows) : Nat) : Int) == ((cntp (fun i => lv ≤ hgt rows i) (rows.length * rowLen rows) : Nat) : Int)) = true := beq_self_eq_true _
      rw [hs'] at a8
      simp (disch := omega) only [go_sem, Nat.reduceEqDiff, ↓reduceIte, Nat.reduceAdd, a3, a4, a5, a6, a8, a9, a10, hlt, h1, hk1]
      refine callK_of (by kernel_rfl) (implLevelLand_c _ _ _ _ _ _ _ (r4.ext xW)) ?_
      rintro _ w5 ⟨rfl, x5⟩
      simp (disch := omega) only [go_sem, Nat.reduceEqDiff, ↓reduceIte, Nat.reduceAdd, hland, heq, Try.results9]
      exact ⟨trivial, ((x13.trans x4).trans xW).trans x5⟩
  · have hlt : areaOf rows lv num = -1 := by rw [areaOf, if_neg hok]
    have hlt' : areaOf rows lv num < 0 := by omega
    have heq : (areaOf rows lv num == areaOf rows lv num) = true := beq_self_eq_true _
    simp (disch := omega) only [go_sem, Nat.reduceEqDiff, ↓reduceIte, Nat.reduceAdd, hne, hlt', heq, Try.results9]
    exact ⟨trivial, x13⟩
end Go.Proofs.Ytdlepfeckiahdaa
