/- PeakParent, PeakSum, PeakMost: both sides. -/
import Derived.Test.YtdlepfeckiahdaaQf
import Derived.Test.YtdlepfeckiahdaaHl
set_option linter.all false
namespace Go.SW
open Go Go.RowKit
theorem find_at {p : Nat → Bool} : ∀ {l : List Nat} {k : Nat}, k < l.length → p (l.getD k 0) = true → (∀ s, s < k → p (l.getD s 0) = false) → l.find? p = Option.some (l.getD k 0)
  | a :: l, 0, _, hp, _ => by simp at hp; simp [hp]
  | a :: l, k + 1, hk, hp, hb => by
    have h0 := hb 0 (by omega)
    simp only [List.getD_cons_zero] at h0
    have ih := find_at (p := p) (l := l) (k := k) (by simpa using hk) (by simpa using hp) fun s hs => by simpa using hb (s + 1) (by omega)
    simp only [List.find?_cons, h0, List.getD_cons_succ]
    exact ih
theorem find_no {p : Nat → Bool} {l : List Nat} (hb : ∀ s, s < l.length → p (l.getD s 0) = false) : l.find? p = none := by
  rw [List.find?_eq_none]
  intro x hx
  obtain ⟨k, hk, e⟩ := List.mem_iff_getElem.1 hx
  have := hb k hk
  rw [getD_at l 0 hk, e] at this
  simp [this]
theorem filter_tk {p : Nat → Bool} {l : List Nat} {k : Nat} (hk : k < l.length) : (l.take (k + 1)).filter p = (l.take k).filter p ++ if p (l.getD k 0) then [l.getD k 0] else [] := by
  rw [List.take_succ_eq_append_getElem hk, List.filter_append, getD_at l 0 hk]
  simp [List.filter_cons]
/-- The parent of a peak. -/
def parN (R C : Nat) (h : Nat → Int) (i : Nat) : Nat := ((peaksL R C h).find? fun j => decide (keyN R C h i ≤ passN R C h i j)).getD i
def parOf (rows : List (List Int)) (i : Int) : Int := if pkOf rows i = true then (parN rows.length (rowLen rows) (hgt rows) i.toNat : Nat) else -1
def psumOf (rows : List (List Int)) : Int := if gvalid rows = true then sumL ((peaksL rows.length (rowLen rows) (hgt rows)).map (promN rows.length (rowLen rows) (hgt rows))) else -1
def mostOf (rows : List (List Int)) (least : Int) : List Nat := (peakListOf rows).filter fun j => decide (least ≤ promN rows.length (rowLen rows) (hgt rows) j)
theorem promN_bnd {R C : Nat} {h : Nat → Int} (g : Gd R C h) {i : Nat} (hi : i < R * C) : -99 ≤ promN R C h i ∧ promN R C h i ≤ 99 := by
  have h1 := keyN_bnd g i
  have h2 := g.hh i hi
  rw [promN]; omega
theorem psum_tk {P : List Nat} {f : Nat → Int} {k : Nat} (hk : k < P.length) : sumL ((P.map f).take (k + 1)) = sumL ((P.map f).take k) + f (P.getD k 0) := by
  rw [sumL_take (by simpa using hk)]
  congr 1
  simp [hk]
theorem psum_bnd {P : List Nat} {f : Nat → Int} (hf : ∀ x ∈ P, -99 ≤ f x ∧ f x ≤ 99) : ∀ k, k ≤ P.length → -99 * (k : Int) ≤ sumL ((P.map f).take k) ∧ sumL ((P.map f).take k) ≤ 99 * (k : Int)
  | 0, _ => by simp [sumL]
  | k + 1, hk => by
    have ih := psum_bnd hf k (by omega)
    have hx := hf _ (getD_mem (d := 0) (show k < P.length by omega))
    rw [psum_tk (by omega)]
    omega
theorem pk_of_peak {rows : List (List Int)} (hv : gvalid rows = true) {x : Nat} (hx : x ∈ peaksL rows.length (rowLen rows) (hgt rows)) : pkOf rows x = true := by
  have : x ∈ peakListOf rows := by rw [peakListOf, if_pos hv]; exact hx
  exact mem_peakListOf.1 this
end Go.SW
namespace Go.Proofs.Ytdlepfeckiahdaa
open Go.RowKit Go.SW

theorem implPeakSum_c (a : Option Addr) (rows : List (List Int)) (A : Nat → Option Addr) (Cp : Nat → Nat) (gc : Nat) (w : World) (hr : RowsAt w a rows A Cp) :
    Ret Try.prog 51 #[.slice a rows.length gc] w fun v w' => v = .int .i64 (psumOf rows) ∧ Ext w w' := by
  refine enter1 Try.func51 rfl (by kernel_rfl) (of_decide_eq_true (by kernel_rfl)) fun f a0 => ?_
  simp (disch := omega) only [go_sem, Nat.reduceEqDiff, ↓reduceIte, Nat.reduceAdd, a0]
  refine callK_of (by kernel_rfl) (fieldOf_c _ _ _ _ _ _ hr) ?_
  rintro _ w2 ⟨x2, (⟨hvt, cb, rfl, hcb, o⟩ | ⟨hv', rfl⟩)⟩
  rotate_left
  · simp (disch := omega) only [go_sem, Nat.reduceEqDiff, ↓reduceIte, Nat.reduceAdd]
    refine allocK_of zero_f fun w3 fb _ x3 k3 _ => ?_
    simp (disch := omega) only [go_sem, Nat.reduceEqDiff, ↓reduceIte, Nat.reduceAdd]
    refine stK_agg siz_f (by simp) (by simp [Value.oneCell']) k3 (by simp) fun w4 k4 g4 => ?_
    have x4 : Ext w w4 := g4.ext (x2.trans x3) (by have := x2.size; omega)
    have hv : gvalid rows = false := hv'
    simp (disch := omega) only [go_sem, Nat.reduceEqDiff, ↓reduceIte, Nat.reduceAdd, Try.results51]
    exact ⟨by simp [psumOf, hv], x4⟩
  have hv : gvalid rows = true := hvt
  have v := (gvalid_iff rows).1 hv
  have g := v.gd
  have hn49 := g.le
  simp (disch := omega) only [go_sem, Nat.reduceEqDiff, ↓reduceIte, Nat.reduceAdd]
  refine allocK_of zero_f fun w3 fb _ x3 k3 _ => ?_
  simp (disch := omega) only [go_sem, Nat.reduceEqDiff, ↓reduceIte, Nat.reduceAdd]
  refine stK_agg siz_f (by simp) (by simp [Value.oneCell']) k3 (by simp) fun w4 kb g4 => ?_
  have s2 := x2.size
  have s3 := x3.size
  have x4 : Ext w w4 := g4.ext (x2.trans x3) (by omega)
  have s4 := x4.size
  have hc : CellsAt w4 cb (rows.length * rowLen rows) (hgt rows) := fun i hi => by
    have := ((o.cellsAt.ext x3).grow g4.grow (by have := o.cellsAt.lt g.pos; simp; omega)) i hi
    simpa only [hs_get rows i hi] using this
  simp (disch := omega) only [go_sem, Nat.reduceEqDiff, ↓reduceIte, Nat.reduceAdd, readCells_blk kb (n := 3) (by simp)]
  refine callK_of (by kernel_rfl) (peaks_c _ _ cb (hgt rows) _ g hc) ?_
  rintro _ w5 ⟨la, lc, rfl, lo, lf, x5⟩
  have hPm : ∀ x ∈ peaksL rows.length (rowLen rows) (hgt rows), x < rows.length * rowLen rows := fun x hx => (mem_peaksTo.1 hx).1
  have hPl := peaksTo_len rows.length (rowLen rows) (hgt rows) (rows.length * rowLen rows)
  rw [← peaksL] at hPl
  rw [psumOf, if_pos hv]
  generalize peaksL rows.length (rowLen rows) (hgt rows) = P at *
  have hPb := psum_bnd (P := P) (f := promN rows.length (rowLen rows) (hgt rows)) fun x hx => promN_bnd g (hPm x hx)
  have kb5 := kb.ext x5
  have hc5 := hc.ext x5
  simp (disch := omega) only [go_sem, Nat.reduceEqDiff, ↓reduceIte, Nat.reduceAdd]
  refine loopN P.length (fun k f W => f 3 = .pointer (some ⟨fb, 0, none⟩) ∧ f 5 = .int .i64 (sumL ((P.map (promN rows.length (rowLen rows) (hgt rows))).take k)) ∧ f 16 = .slice la (ni P).length lc ∧ f 17 = .int .i64 (ni P).length ∧ f 18 = .int .i64 k ∧ Ext w5 W) ⟨(by first | assumption | (simp only [upd_apply, Nat.reduceEqDiff, ↓reduceIte] <;> first | rfl | assumption) | simp [upd_apply, *]), by simp [upd_apply, sumL], (by first | assumption | (simp only [upd_apply, Nat.reduceEqDiff, ↓reduceIte] <;> first | rfl | assumption) | simp [upd_apply, *]), (by first | assumption | (simp only [upd_apply, Nat.reduceEqDiff, ↓reduceIte] <;> first | rfl | assumption) | simp [upd_apply, *]), (by first | assumption | (simp only [upd_apply, Nat.reduceEqDiff, ↓reduceIte] <;> first | rfl | assumption) | simp [upd_apply, *]), Ext.refl _⟩ fun k f W hk ⟨a3, a5, a16, a17, a18, xW⟩ => ?_
  have hb := hPb k hk
  by_cases hlt : (k : Int) < (ni P).length
  · have hkl : k < P.length := by rw [ni_len] at hlt; omega
    obtain ⟨lb, rfl⟩ := lo.some (by rw [ni_len]; omega)
    have g0 : W.cell? ⟨lb, k, none⟩ = some (.int .i64 (P.getD k 0 : Nat)) := by rw [(lo.ext xW).cell (by rw [ni_len]; omega), vi_get _ _ (by rw [ni_len]; omega), ni_get _ hkl]
    have hx := hPm _ (getD_mem (d := 0) hkl)
    have hst := psum_tk (f := promN rows.length (rowLen rows) (hgt rows)) hkl
    have hpb := promN_bnd g hx
    simp (disch := omega) only [go_sem, Nat.reduceEqDiff, ↓reduceIte, Nat.reduceAdd, a3, a16, a17, a18, hlt, g0, readCells_blk (kb5.ext xW) (n := 3) (by simp)]
    refine callK_pure (by kernel_rfl) (prominence_c _ _ cb (hgt rows) (P.getD k 0) _ g (hc5.ext xW) hx) fun w6 x6 => ?_
    simp (disch := omega) only [go_sem, Nat.reduceEqDiff, ↓reduceIte, Nat.reduceAdd, a5, a18]
    exact ⟨hkl, (by first | assumption | (simp only [upd_apply, Nat.reduceEqDiff, ↓reduceIte] <;> first | rfl | assumption) | simp [upd_apply, *]), by simp [upd_apply, hst], (by first | assumption | (simp only [upd_apply, Nat.reduceEqDiff, ↓reduceIte] <;> first | rfl | assumption) | simp [upd_apply, *]), (by first | assumption | (simp only [upd_apply, Nat.reduceEqDiff, ↓reduceIte] <;> first | rfl | assumption) | simp [upd_apply, *]), (by first | assumption | (simp only [upd_apply, Nat.reduceEqDiff, ↓reduceIte] <;> first | rfl | assumption) | simp [upd_apply, *]), xW.trans x6⟩
  · have ek : k = P.length := by rw [ni_len] at hlt; omega
    rw [ek] at a5
    simp (disch := omega) only [go_sem, Nat.reduceEqDiff, ↓reduceIte, Nat.reduceAdd, a5, a17, a18, hlt, Try.results51]
    exact ⟨by rw [List.take_of_length_le (by simp)], (x4.trans x5).trans xW⟩

theorem specPeakSum_c (a : Option Addr) (rows : List (List Int)) (A : Nat → Option Addr) (Cp : Nat → Nat) (gc : Nat) (w : World) (hr : RowsAt w a rows A Cp) :
    Ret Try.prog 52 #[.slice a rows.length gc] w fun v w' => v = .int .i64 (psumOf rows) ∧ Ext w w' := by
  refine enter1 Try.func52 rfl (by kernel_rfl) (of_decide_eq_true (by kernel_rfl)) fun f a0 => ?_
  simp (disch := omega) only [go_sem, Nat.reduceEqDiff, ↓reduceIte, Nat.reduceAdd, a0]
  refine callK_pure (by kernel_rfl) (gridValid_c _ _ _ _ _ _ hr) fun w1 x1 => ?_
  cases hv : gvalid rows with
  | false =>
    simp (disch := omega) only [go_sem, Nat.reduceEqDiff, ↓reduceIte, Nat.reduceAdd, Bool.not_false, Try.results52]
    exact ⟨by simp [psumOf, hv], x1⟩
  | true =>
    have v := (gvalid_iff rows).1 hv
    have g := v.gd
    have hn49 := g.le
    simp (disch := omega) only [go_sem, Nat.reduceEqDiff, ↓reduceIte, Nat.reduceAdd, Bool.not_true, a0]
    refine callK_of (by kernel_rfl) (specPeakList_c _ _ _ _ _ _ (hr.ext x1)) ?_
    rintro _ w2 ⟨la, lc, rfl, lo, lf, x2⟩
    have hPe : peakListOf rows = peaksL rows.length (rowLen rows) (hgt rows) := by rw [peakListOf, if_pos hv]
    have hPm : ∀ x ∈ peakListOf rows, x < rows.length * rowLen rows := fun x hx => by rw [hPe] at hx; exact (mem_peaksTo.1 hx).1
    have hpk : ∀ x ∈ peakListOf rows, promOf rows (x : Int) = promN rows.length (rowLen rows) (hgt rows) x := fun x hx => by
      have := mem_peakListOf.1 hx
      simp [promOf, this]
    have hPl := peakListOf_len rows
    rw [psumOf, if_pos hv, ← hPe]
    generalize peakListOf rows = P at *
    have hPb := psum_bnd (P := P) (f := promN rows.length (rowLen rows) (hgt rows)) fun x hx => promN_bnd g (hPm x hx)
    simp (disch := omega) only [go_sem, Nat.reduceEqDiff, ↓reduceIte, Nat.reduceAdd]
    refine loopN P.length (fun k f W => f 0 = .slice a rows.length gc ∧ f 3 = .int .i64 (sumL ((P.map (promN rows.length (rowLen rows) (hgt rows))).take k)) ∧ f 4 = .slice la (ni P).length lc ∧ f 5 = .int .i64 k ∧ Ext w2 W) ⟨(by first | assumption | (simp only [upd_apply, Nat.reduceEqDiff, ↓reduceIte] <;> first | rfl | assumption) | simp [upd_apply, *]), by simp [upd_apply, sumL], (by first | assumption | (simp only [upd_apply, Nat.reduceEqDiff, ↓reduceIte] <;> first | rfl | assumption) | simp [upd_apply, *]), (by first | assumption | (simp only [upd_apply, Nat.reduceEqDiff, ↓reduceIte] <;> first | rfl | assumption) | simp [upd_apply, *]), Ext.refl _⟩ fun k f W hk ⟨a0, a3, a4, a5, xW⟩ => ?_
    have hb := hPb k hk
    by_cases hlt : (k : Int) < (ni P).length
    · have hkl : k < P.length := by rw [ni_len] at hlt; omega
      obtain ⟨lb, rfl⟩ := lo.some (by rw [ni_len]; omega)
      have g0 : W.cell? ⟨lb, k, none⟩ = some (.int .i64 (P.getD k 0 : Nat)) := by rw [(lo.ext xW).cell (by rw [ni_len]; omega), vi_get _ _ (by rw [ni_len]; omega), ni_get _ hkl]
      have hm := getD_mem (d := 0) hkl
      have hx := hPm _ hm
      have hpx := hpk _ hm
      have hst := psum_tk (f := promN rows.length (rowLen rows) (hgt rows)) hkl
      have hpb := promN_bnd g hx
      simp (disch := omega) only [go_sem, Nat.reduceEqDiff, ↓reduceIte, Nat.reduceAdd, a0, a4, a5, hlt, g0]
      refine callK_pure (by kernel_rfl) (specPeakProminence_c _ _ _ _ _ (P.getD k 0 : Nat) _ (((hr.ext x1).ext x2).ext xW)) fun w3 x3 => ?_
      simp (disch := omega) only [go_sem, Nat.reduceEqDiff, ↓reduceIte, Nat.reduceAdd, hpx, a3, a5]
      exact ⟨hkl, (by first | assumption | (simp only [upd_apply, Nat.reduceEqDiff, ↓reduceIte] <;> first | rfl | assumption) | simp [upd_apply, *]), by simp [upd_apply, hst], (by first | assumption | (simp only [upd_apply, Nat.reduceEqDiff, ↓reduceIte] <;> first | rfl | assumption) | simp [upd_apply, *]), (by first | assumption | (simp only [upd_apply, Nat.reduceEqDiff, ↓reduceIte] <;> first | rfl | assumption) | simp [upd_apply, *]), xW.trans x3⟩
    · have ek : k = P.length := by rw [ni_len] at hlt; omega
      rw [ek] at a3
      simp (disch := omega) only [go_sem, Nat.reduceEqDiff, ↓reduceIte, Nat.reduceAdd, a3, a4, a5, hlt, Try.results52]
      exact ⟨by rw [List.take_of_length_le (by simp)], (x1.trans x2).trans xW⟩

end Go.Proofs.Ytdlepfeckiahdaa
