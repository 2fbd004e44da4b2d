/- PeakIsland: both sides. -/
import Derived.Test.YtlnodngkacbfkaaPk
import Derived.Test.YtlnodngkacbfkaaLt
set_option linter.all false
set_option maxRecDepth 20000
namespace Go.SW
theorem insL_cnt {h : Nat → Int} {i : Nat} (p : Nat → Bool) : ∀ {l : List Nat}, (insL h i l).countP p = l.countP p + if p i then 1 else 0
  | [] => by simp [insL, List.countP_cons]
  | a :: l => by
    simp only [insL]
    split
    · simp only [List.countP_cons, insL_cnt p (l := l)]; omega
    · simp only [List.countP_cons]
theorem peaksTo_cnt (R C : Nat) (h : Nat → Int) (p : Nat → Bool) : ∀ k, (peaksTo R C h k).countP p = cntp (fun i => p i = true ∧ peakB R C h i = true) k
  | 0 => rfl
  | k + 1 => by
    have ih := peaksTo_cnt R C h p k
    simp only [peaksTo, cntp]
    by_cases hb : peakB R C h k = true
    · rw [if_pos hb, insL_cnt, ih]
      simp [hb]
    · rw [if_neg hb, ih]
      simp [hb]
theorem countP_tk {p : Nat → Bool} {l : List Nat} {k : Nat} (hk : k < l.length) : (l.take (k + 1)).countP p = (l.take k).countP p + if p (l.getD k 0) then 1 else 0 := by
  rw [List.take_succ_eq_append_getElem hk, List.countP_append, getD_at l 0 hk]
  simp [List.countP_cons]
/-- Peaks of a region. -/
def islN (rows : List (List Int)) (lv k : Int) : Nat := cntp (fun i => decide (landN rows lv i = k) = true ∧ peakB rows.length (rowLen rows) (hgt rows) i = true) (rows.length * rowLen rows)
def islOf (rows : List (List Int)) (lv k : Int) : Int := if lvok rows lv = true ∧ 0 ≤ k ∧ k < (compOf rows lv : Nat) then (islN rows lv k : Nat) else -1
theorem area_neg {rows : List (List Int)} {lv k : Int} : areaOf rows lv k < 0 ↔ ¬ (lvok rows lv = true ∧ 0 ≤ k ∧ k < (compOf rows lv : Nat)) := by
  rw [areaOf]
  by_cases h : lvok rows lv = true ∧ 0 ≤ k ∧ k < (compOf rows lv : Nat)
  · rw [if_pos h]; simp only [h, and_self, not_true_eq_false, iff_false]; omega
  · rw [if_neg h]; simp only [h, not_false_eq_true, iff_true]; omega
end Go.SW
namespace Go.Proofs.Ytlnodngkacbfkaa
open Go.RowKit Go.SW

theorem implPeakIsland_c (a : Option Addr) (rows : List (List Int)) (A : Nat → Option Addr) (Cp : Nat → Nat) (gc : Nat) (lv num : Int) (w : World) (hr : RowsAt w a rows A Cp) :
    Ret Try.prog 40 #[.slice a rows.length gc, .int .i64 lv, .int .i64 num] w fun v w' => v = .int .i64 (islOf rows lv num) ∧ Ext w w' := by
  refine enter3 Try.func40 rfl (by kernel_rfl) (of_decide_eq_true (by kernel_rfl)) fun f a0 a1 a2 => ?_
  simp (disch := omega) only [go_sem, Nat.reduceEqDiff, ↓reduceIte, Nat.reduceAdd, a0, a1]
  refine callK_of (by kernel_rfl) (leveled_c _ _ _ _ _ lv _ hr) ?_
  rintro _ w2 ⟨x2, (⟨hlv, cb, rfl, hcb, o⟩ | ⟨hlv, rfl⟩)⟩
  rotate_left
  · simp (disch := omega) only [go_sem, Nat.reduceEqDiff, ↓reduceIte, Nat.reduceAdd]
    refine allocK_of zero_f fun w3 fb _ x3 k3 _ => ?_
    simp (disch := omega) only [go_sem, Nat.reduceEqDiff, ↓reduceIte, Nat.reduceAdd]
    refine stK_agg siz_f (by simp) (by simp [Value.oneCell']) k3 (by simp) fun w4 k4 g4 => ?_
    have x4 : Ext w w4 := g4.ext (x2.trans x3) (by have := x2.size; omega)
    simp (disch := omega) only [go_sem, Nat.reduceEqDiff, ↓reduceIte, Nat.reduceAdd, Try.results40]
    exact ⟨by simp [islOf, hlv], x4⟩
  have hv : gvalid rows = true := by simp only [lvok, Bool.and_eq_true] at hlv; exact hlv.1
  have hl0 : 0 ≤ lv ∧ lv ≤ 99 := by simp only [lvok, Bool.and_eq_true, decide_eq_true_eq] at hlv; exact hlv.2
  have v := (gvalid_iff rows).1 hv
  have g := v.gd
  have hr1 := g.r1
  have hr7 := g.r7
  have hc1 := g.c1
  have hc7 := g.c7
  have hn49 := g.le
  simp (disch := omega) only [go_sem, Nat.reduceEqDiff, ↓reduceIte, Nat.reduceAdd]
  refine allocK_of zero_f fun w3 fb _ x3 k3 _ => ?_
  simp (disch := omega) only [go_sem, Nat.reduceEqDiff, ↓reduceIte, Nat.reduceAdd]
  refine stK_agg siz_f (by simp) (by simp [Value.oneCell']) k3 (by simp) fun w4 kb g4 => ?_
  have s2 := x2.size
  have s3 := x3.size
  have x4 : Ext w w4 := g4.ext (x2.trans x3) (by omega)
  have s4 := x4.size
  have hc : CellsAt w4 cb (rows.length * rowLen rows) (hgt rows) := fun i hi => (o.ext x3).grow g4.grow (by have := o.lt g.pos; simp; omega) i hi
  simp (disch := omega) only [go_sem, Nat.reduceEqDiff, ↓reduceIte, Nat.reduceAdd, a1, readCells_blk kb (n := 3) (by simp)]
  refine callK_of (by kernel_rfl) (regions_c _ _ cb (hgt rows) lv _ g hc) ?_
  rintro _ w5 ⟨b, rfl, hb, ob, x5⟩
  by_cases h0 : num < 0
  · simp (disch := omega) only [go_sem, Nat.reduceEqDiff, ↓reduceIte, Nat.reduceAdd, a2, h0, Try.results40]
    exact ⟨by rw [islOf, if_neg (fun h => by omega)], x4.trans x5⟩
  by_cases h1 : ((compN (nearN rows.length (rowLen rows)) (landB (hgt rows) lv) (rows.length * rowLen rows) : Nat) : Int) ≤ num
  · simp (disch := omega) only [go_sem, Nat.reduceEqDiff, ↓reduceIte, Nat.reduceAdd, a2, h0, h1, Try.results40]
    exact ⟨by rw [islOf, if_neg (fun h => by have := h.2.2; simp only [compOf] at this; omega)], x4.trans x5⟩
  simp (disch := omega) only [go_sem, Nat.reduceEqDiff, ↓reduceIte, Nat.reduceAdd, a2, h0, h1, readCells_blk (kb.ext x5) (n := 3) (by simp)]
  refine callK_of (by kernel_rfl) (peaks_c _ _ cb (hgt rows) _ g (hc.ext x5)) ?_
  rintro _ w6 ⟨la, lc, rfl, lo, lf, x6⟩
  have hPm : ∀ x ∈ peaksL rows.length (rowLen rows) (hgt rows), x < rows.length * rowLen rows := fun x hx => (mem_peaksTo.1 hx).1
  have hPl := peaksTo_len rows.length (rowLen rows) (hgt rows) (rows.length * rowLen rows)
  have hPc := peaksTo_cnt rows.length (rowLen rows) (hgt rows) (fun i => decide (landN rows lv i = num)) (rows.length * rowLen rows)
  rw [← peaksL] at hPl hPc
  generalize peaksL rows.length (rowLen rows) (hgt rows) = P at *
  simp (disch := omega) only [go_sem, Nat.reduceEqDiff, ↓reduceIte, Nat.reduceAdd]
  refine loopN P.length (fun k f W => f 2 = .int .i64 num ∧ f 10 = .slice (some ⟨b, 0, none⟩) (rows.length * rowLen rows) (rows.length * rowLen rows) ∧ f 11 = .int .i64 ((P.take k).countP (fun i => decide (landN rows lv i = num)) : Nat) ∧ f 36 = .slice la (ni P).length lc ∧ f 37 = .int .i64 (ni P).length ∧ f 38 = .int .i64 k ∧ Ext w6 W) ⟨by simp [upd_apply, a2], (by first | assumption | (simp only [upd_apply, Nat.reduceEqDiff, ↓reduceIte] <;> first | rfl | assumption) | simp [upd_apply, *]), by simp [upd_apply], (by first | assumption | (simp only [upd_apply, Nat.reduceEqDiff, ↓reduceIte] <;> first | rfl | assumption) | simp [upd_apply, *]), (by first | assumption | (simp only [upd_apply, Nat.reduceEqDiff, ↓reduceIte] <;> first | rfl | assumption) | simp [upd_apply, *]), (by first | assumption | (simp only [upd_apply, Nat.reduceEqDiff, ↓reduceIte] <;> first | rfl | assumption) | simp [upd_apply, *]), Ext.refl _⟩ fun k f W hk ⟨a2, a10, a11, a36, a37, a38, xW⟩ => ?_
  by_cases hlt : (k : Int) < (ni P).length
  · have hkl : k < P.length := by rw [ni_len] at hlt; omega
    obtain ⟨lb, rfl⟩ := lo.some (by rw [ni_len]; omega)
    have g0 : W.cell? ⟨lb, k, none⟩ = some (.int .i64 (P.getD k 0 : Nat)) := by rw [(lo.ext xW).cell (by rw [ni_len]; omega), vi_get _ _ (by rw [ni_len]; omega), ni_get _ hkl]
    have hx := hPm _ (getD_mem (d := 0) hkl)
    have hst := countP_tk (p := fun i => decide (landN rows lv i = num)) hkl
    have hcl : (P.take k).countP (fun i => decide (landN rows lv i = num)) ≤ k := by
      refine Nat.le_trans List.countP_le_length ?_
      rw [List.length_take]; omega
    generalize P.getD k 0 = x at *
    have ck : W.cell? ⟨b, x, none⟩ = some (.int .i64 (landN rows lv x)) := by rw [((ob.ext x6).ext xW).cell (by omega)]; exact vi_rangeI_get _ hx
    by_cases he : landN rows lv x = num
    · have heq : (landN rows lv x == num) = true := by simp [he]
      simp (disch := omega) only [go_sem, Nat.reduceEqDiff, ↓reduceIte, Nat.reduceAdd, a2, a10, a11, a36, a37, a38, hlt, g0, ck, heq]
      exact ⟨hkl, by simp [upd_apply, a2], (by first | assumption | (simp only [upd_apply, Nat.reduceEqDiff, ↓reduceIte] <;> first | rfl | assumption) | simp [upd_apply, *]), by simp [upd_apply, hst, he], (by first | assumption | (simp only [upd_apply, Nat.reduceEqDiff, ↓reduceIte] <;> first | rfl | assumption) | simp [upd_apply, *]), (by first | assumption | (simp only [upd_apply, Nat.reduceEqDiff, ↓reduceIte] <;> first | rfl | assumption) | simp [upd_apply, *]), (by first | assumption | (simp only [upd_apply, Nat.reduceEqDiff, ↓reduceIte] <;> first | rfl | assumption) | simp [upd_apply, *]), xW⟩
    · have heq : (landN rows lv x == num) = false := by simp [he]
      simp (disch := omega) only [go_sem, Nat.reduceEqDiff, ↓reduceIte, Nat.reduceAdd, a2, a10, a11, a36, a37, a38, hlt, g0, ck, heq]
      exact ⟨hkl, by simp [upd_apply, a2], (by first | assumption | (simp only [upd_apply, Nat.reduceEqDiff, ↓reduceIte] <;> first | rfl | assumption) | simp [upd_apply, *]), by simp [upd_apply, hst, he, a11], (by first | assumption | (simp only [upd_apply, Nat.reduceEqDiff, ↓reduceIte] <;> first | rfl | assumption) | simp [upd_apply, *]), (by first | assumption | (simp only [upd_apply, Nat.reduceEqDiff, ↓reduceIte] <;> first | rfl | assumption) | simp [upd_apply, *]), (by first | assumption | (simp only [upd_apply, Nat.reduceEqDiff, ↓reduceIte] <;> first | rfl | assumption) | simp [upd_apply, *]), xW⟩
  · have e : k = P.length := by rw [ni_len] at hlt; omega
    rw [e, List.take_length, hPc] at a11
    simp (disch := omega) only [go_sem, Nat.reduceEqDiff, ↓reduceIte, Nat.reduceAdd, a11, a37, a38, hlt, Try.results40]
    refine ⟨?_, ((x4.trans x5).trans x6).trans xW⟩
    rw [islOf, if_pos ⟨hlv, by omega, by simp only [compOf]; omega⟩]; rfl

theorem specPeakIsland_c (a : Option Addr) (rows : List (List Int)) (A : Nat → Option Addr) (Cp : Nat → Nat) (gc : Nat) (lv num : Int) (w : World) (hr : RowsAt w a rows A Cp) :
    Ret Try.prog 39 #[.slice a rows.length gc, .int .i64 lv, .int .i64 num] w fun v w' => v = .int .i64 (islOf rows lv num) ∧ Ext w w' := by
  refine enter3 Try.func39 rfl (by kernel_rfl) (of_decide_eq_true (by kernel_rfl)) fun f a0 a1 a2 => ?_
  simp (disch := omega) only [go_sem, Nat.reduceEqDiff, ↓reduceIte, Nat.reduceAdd, a0, a1, a2]
  refine callK_pure (by kernel_rfl) (specLevelArea_c _ _ _ _ _ lv num _ hr) fun w1 x1 => ?_
  by_cases hok : lvok rows lv = true ∧ 0 ≤ num ∧ num < (compOf rows lv : Nat)
  · have hlt : ¬ areaOf rows lv num < 0 := fun h => area_neg.1 h hok
    simp (disch := omega) only [go_sem, Nat.reduceEqDiff, ↓reduceIte, Nat.reduceAdd, hlt, a0, a1]
    refine callK_of (by kernel_rfl) (specLevelNumbers_c _ _ _ _ _ _ _ (hr.ext x1)) ?_
    rintro _ w2 ⟨x2, (⟨hlv, na, nc, rfl, no⟩ | ⟨hlv, na, nc, rfl⟩)⟩
    rotate_left
    · rw [hok.1] at hlv; cases hlv
    have hv := (lv_parts hlv).1
    have v := (gvalid_iff rows).1 hv
    have g := v.gd
    have hn49 := g.le
    obtain ⟨gb, go, rb, ro, rfl, -, hg⟩ := hr.grid v
    have hg2 := (hg.ext x1).ext x2
    simp (disch := omega) only [go_sem, Nat.reduceEqDiff, ↓reduceIte, Nat.reduceAdd]
    refine loopN (rows.length * rowLen rows) (fun k f W => f 0 = .slice (some ⟨gb, go, none⟩) rows.length gc ∧ f 2 = .int .i64 num ∧ f 7 = .slice na (rows.length * rowLen rows) nc ∧ f 9 = .int .i64 (cntp (fun i => decide (landN rows lv i = num) = true ∧ peakB rows.length (rowLen rows) (hgt rows) i = true) k : Nat) ∧ f 10 = .int .i64 k ∧ Ext w2 W) ⟨(by first | assumption | (simp only [upd_apply, Nat.reduceEqDiff, ↓reduceIte] <;> first | rfl | assumption) | simp [upd_apply, *]), by simp [upd_apply, a2], (by first | assumption | (simp only [upd_apply, Nat.reduceEqDiff, ↓reduceIte] <;> first | rfl | assumption) | simp [upd_apply, *]), by simp [upd_apply, cntp], (by first | assumption | (simp only [upd_apply, Nat.reduceEqDiff, ↓reduceIte] <;> first | rfl | assumption) | simp [upd_apply, *]), Ext.refl _⟩ fun k f W hk ⟨a0, a2, a7, a9, a10, xW⟩ => ?_
    by_cases hlk : (k : Int) < (rows.length * rowLen rows : Nat)
    · have hkn : k < rows.length * rowLen rows := by omega
      obtain ⟨nb, rfl⟩ := no.some (by omega)
      have ck : W.cell? ⟨nb, k, none⟩ = some (.int .i64 (landN rows lv k)) := by rw [(no.ext xW).cell (by omega)]; exact vi_rangeI_get _ hkn
      have hcl := cntp_le (fun i => decide (landN rows lv i = num) = true ∧ peakB rows.length (rowLen rows) (hgt rows) i = true) k
      by_cases he : landN rows lv k = num
      · have heq : (landN rows lv k == num) = true := by simp [he]
        simp (disch := omega) only [go_sem, Nat.reduceEqDiff, ↓reduceIte, Nat.reduceAdd, a0, a2, a7, a10, hlk, ck, heq]
        refine callK_pure (by kernel_rfl) (l4Peak_c gb go gc rb ro Cp _ _ _ k _ (hg2.ext xW) g.r7 g.c7 hkn) fun w3 x3 => ?_
        cases hpk : peakB rows.length (rowLen rows) (hgt rows) k with
        | true =>
          simp (disch := omega) only [go_sem, Nat.reduceEqDiff, ↓reduceIte, Nat.reduceAdd, a9, a10]
          exact ⟨hkn, (by first | assumption | (simp only [upd_apply, Nat.reduceEqDiff, ↓reduceIte] <;> first | rfl | assumption) | simp [upd_apply, *]), by simp [upd_apply, a2], (by first | assumption | (simp only [upd_apply, Nat.reduceEqDiff, ↓reduceIte] <;> first | rfl | assumption) | simp [upd_apply, *]), by simp [upd_apply, cntp, he, hpk], (by first | assumption | (simp only [upd_apply, Nat.reduceEqDiff, ↓reduceIte] <;> first | rfl | assumption) | simp [upd_apply, *]), xW.trans x3⟩
        | false =>
          simp (disch := omega) only [go_sem, Nat.reduceEqDiff, ↓reduceIte, Nat.reduceAdd, a9, a10]
          exact ⟨hkn, (by first | assumption | (simp only [upd_apply, Nat.reduceEqDiff, ↓reduceIte] <;> first | rfl | assumption) | simp [upd_apply, *]), by simp [upd_apply, a2], (by first | assumption | (simp only [upd_apply, Nat.reduceEqDiff, ↓reduceIte] <;> first | rfl | assumption) | simp [upd_apply, *]), by simp [upd_apply, cntp, hpk, a9], (by first | assumption | (simp only [upd_apply, Nat.reduceEqDiff, ↓reduceIte] <;> first | rfl | assumption) | simp [upd_apply, *]), xW.trans x3⟩
      · have heq : (landN rows lv k == num) = false := by simp [he]
        simp (disch := omega) only [go_sem, Nat.reduceEqDiff, ↓reduceIte, Nat.reduceAdd, a0, a2, a7, a9, a10, hlk, ck, heq]
        exact ⟨hkn, (by first | assumption | (simp only [upd_apply, Nat.reduceEqDiff, ↓reduceIte] <;> first | rfl | assumption) | simp [upd_apply, *]), by simp [upd_apply, a2], (by first | assumption | (simp only [upd_apply, Nat.reduceEqDiff, ↓reduceIte] <;> first | rfl | assumption) | simp [upd_apply, *]), by simp [upd_apply, cntp, he, a9], (by first | assumption | (simp only [upd_apply, Nat.reduceEqDiff, ↓reduceIte] <;> first | rfl | assumption) | simp [upd_apply, *]), xW⟩
    · have e : k = rows.length * rowLen rows := by omega
      rw [e] at a9
      simp (disch := omega) only [go_sem, Nat.reduceEqDiff, ↓reduceIte, Nat.reduceAdd, a7, a9, a10, hlk, Try.results39]
      refine ⟨?_, (x1.trans x2).trans xW⟩
      rw [islOf, if_pos hok]; rfl
  · have hlt : areaOf rows lv num < 0 := area_neg.2 hok
    simp (disch := omega) only [go_sem, Nat.reduceEqDiff, ↓reduceIte, Nat.reduceAdd, hlt, Try.results39]
    exact ⟨by rw [islOf, if_neg hok], x1⟩
end Go.Proofs.Ytlnodngkacbfkaa
