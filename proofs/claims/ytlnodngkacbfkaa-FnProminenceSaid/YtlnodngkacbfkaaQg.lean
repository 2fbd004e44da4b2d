/- PeakParent, PeakSum, PeakMost: both sides. -/
import Derived.Test.YtlnodngkacbfkaaQf
import Derived.Test.YtlnodngkacbfkaaHl
set_option linter.all false
set_option maxRecDepth 20000
namespace Go.SW
open Go Go.RowKit
theorem find_at {p : Nat → Bool} : ∀ {l : List Nat} {k : Nat}, k < l.length → p (l.getD k 0) = true → (∀ s, s < k → p (l.getD s 0) = false) → l.find? p = Option.some (l.getD k 0)
  | a :: l, 0, _, hp, _ => by simp at hp; simp [hp]
  | a :: l, k + 1, hk, hp, hb => by
    have h0 := hb 0 (by omega)
    simp only [List.getD_cons_zero] at h0
    have ih := find_at (p := p) (l := l) (k := k) (by simpa using hk) (by simpa using hp) fun s hs => by simpa using hb (s + 1) (by omega)
    simp only [List.find?_cons, h0, List.getD_cons_succ]
    exact ih
theorem find_no {p : Nat → Bool} {l : List Nat} (hb : ∀ s, s < l.length → p (l.getD s 0) = false) : l.find? p = none := by
  rw [List.find?_eq_none]
  intro x hx
  obtain ⟨k, hk, e⟩ := List.mem_iff_getElem.1 hx
  have := hb k hk
  rw [getD_at l 0 hk, e] at this
  simp [this]
theorem filter_tk {p : Nat → Bool} {l : List Nat} {k : Nat} (hk : k < l.length) : (l.take (k + 1)).filter p = (l.take k).filter p ++ if p (l.getD k 0) then [l.getD k 0] else [] := by
  rw [List.take_succ_eq_append_getElem hk, List.filter_append, getD_at l 0 hk]
  simp [List.filter_cons]
/-- The parent of a peak. -/
def parN (R C : Nat) (h : Nat → Int) (i : Nat) : Nat := ((peaksL R C h).find? fun j => decide (keyN R C h i ≤ passN R C h i j)).getD i
def parOf (rows : List (List Int)) (i : Int) : Int := if pkOf rows i = true then (parN rows.length (rowLen rows) (hgt rows) i.toNat : Nat) else -1
def psumOf (rows : List (List Int)) : Int := if gvalid rows = true then sumL ((peaksL rows.length (rowLen rows) (hgt rows)).map (promN rows.length (rowLen rows) (hgt rows))) else -1
def mostOf (rows : List (List Int)) (least : Int) : List Nat := (peakListOf rows).filter fun j => decide (least ≤ promN rows.length (rowLen rows) (hgt rows) j)
theorem promN_bnd {R C : Nat} {h : Nat → Int} (g : Gd R C h) {i : Nat} (hi : i < R * C) : -99 ≤ promN R C h i ∧ promN R C h i ≤ 99 := by
  have h1 := keyN_bnd g i
  have h2 := g.hh i hi
  rw [promN]; omega
theorem psum_tk {P : List Nat} {f : Nat → Int} {k : Nat} (hk : k < P.length) : sumL ((P.map f).take (k + 1)) = sumL ((P.map f).take k) + f (P.getD k 0) := by
  rw [sumL_take (by simpa using hk)]
  congr 1
  simp [hk]
theorem psum_bnd {P : List Nat} {f : Nat → Int} (hf : ∀ x ∈ P, -99 ≤ f x ∧ f x ≤ 99) : ∀ k, k ≤ P.length → -99 * (k : Int) ≤ sumL ((P.map f).take k) ∧ sumL ((P.map f).take k) ≤ 99 * (k : Int)
  | 0, _ => by simp [sumL]
  | k + 1, hk => by
    have ih := psum_bnd hf k (by omega)
    have hx := hf _ (getD_mem (d := 0) (show k < P.length by omega))
    rw [psum_tk (by omega)]
    omega
theorem pk_of_peak {rows : List (List Int)} (hv : gvalid rows = true) {x : Nat} (hx : x ∈ peaksL rows.length (rowLen rows) (hgt rows)) : pkOf rows x = true := by
  have : x ∈ peakListOf rows := by rw [peakListOf, if_pos hv]; exact hx
  exact mem_peakListOf.1 this
end Go.SW
namespace Go.Proofs.Ytlnodngkacbfkaa
open Go.RowKit Go.SW

theorem implPeakParent_c (a : Option Addr) (rows : List (List Int)) (A : Nat → Option Addr) (Cp : Nat → Nat) (gc : Nat) (i : Int) (w : World) (hr : RowsAt w a rows A Cp) :
    Ret Try.prog 42 #[.slice a rows.length gc, .int .i64 i] w fun v w' => v = .int .i64 (parOf rows i) ∧ Ext w w' := by
  refine enter2 Try.func42 rfl (by kernel_rfl) (of_decide_eq_true (by kernel_rfl)) fun f a0 a1 => ?_
  simp (disch := omega) only [go_sem, Nat.reduceEqDiff, ↓reduceIte, Nat.reduceAdd, a0]
  refine callK_of (by kernel_rfl) (fieldOf_c _ _ _ _ _ _ hr) ?_
  rintro _ w2 ⟨x2, (⟨hvt, cb, rfl, hcb, o⟩ | ⟨hv', rfl⟩)⟩
  rotate_left
  · simp (disch := omega) only [go_sem, Nat.reduceEqDiff, ↓reduceIte, Nat.reduceAdd]
    refine allocK_of zero_f fun w3 fb _ x3 k3 _ => ?_
    simp (disch := omega) only [go_sem, Nat.reduceEqDiff, ↓reduceIte, Nat.reduceAdd]
    refine stK_agg siz_f (by simp) (by simp [Value.oneCell']) k3 (by simp) fun w4 k4 g4 => ?_
    have x4 : Ext w w4 := g4.ext (x2.trans x3) (by have := x2.size; omega)
    have hv : gvalid rows = false := hv'
    simp (disch := omega) only [go_sem, Nat.reduceEqDiff, ↓reduceIte, Nat.reduceAdd, Try.results42]
    exact ⟨by simp [parOf, pkOf, hv], x4⟩
  have hv : gvalid rows = true := hvt
  have v := (gvalid_iff rows).1 hv
  have g := v.gd
  have hn49 := g.le
  simp (disch := omega) only [go_sem, Nat.reduceEqDiff, ↓reduceIte, Nat.reduceAdd]
  refine allocK_of zero_f fun w3 fb _ x3 k3 _ => ?_
  simp (disch := omega) only [go_sem, Nat.reduceEqDiff, ↓reduceIte, Nat.reduceAdd]
  refine stK_agg siz_f (by simp) (by simp [Value.oneCell']) k3 (by simp) fun w4 kb g4 => ?_
  have s2 := x2.size
  have s3 := x3.size
  have x4 : Ext w w4 := g4.ext (x2.trans x3) (by omega)
  have s4 := x4.size
  have hc : CellsAt w4 cb (rows.length * rowLen rows) (hgt rows) := fun i hi => by
    have := ((o.cellsAt.ext x3).grow g4.grow (by have := o.cellsAt.lt g.pos; simp; omega)) i hi
    simpa only [hs_get rows i hi] using this
  simp (disch := omega) only [go_sem, Nat.reduceEqDiff, ↓reduceIte, Nat.reduceAdd, a1, readCells_blk kb (n := 3) (by simp)]
  refine callK_pure (by kernel_rfl) (peak_c _ _ cb (hgt rows) i _ g hc) fun w5 x5 => ?_
  have ep : (decide (0 ≤ i ∧ i < (rows.length * rowLen rows : Nat)) && peakB rows.length (rowLen rows) (hgt rows) i.toNat) = pkOf rows i := by simp [pkOf, hv]
  cases hp : pkOf rows i with
  | false =>
    simp (disch := omega) only [go_sem, Nat.reduceEqDiff, ↓reduceIte, Nat.reduceAdd, ep, hp, Bool.not_false, Try.results42]
    exact ⟨by simp [parOf, hp], x4.trans x5⟩
  | true =>
    obtain ⟨n, rfl, -, hn, hpk⟩ := pk_parts hp
    have hd : decide (0 ≤ (n : Int) ∧ (n : Int) < (rows.length * rowLen rows : Nat)) = true := decide_eq_true ⟨by omega, by omega⟩
    have hpar : parOf rows (n : Int) = (parN rows.length (rowLen rows) (hgt rows) n : Nat) := by simp [parOf, hp]
    rw [hpar]
    simp (disch := omega) only [go_sem, Nat.reduceEqDiff, ↓reduceIte, Nat.reduceAdd, hd, Int.toNat_natCast, hpk, Bool.and_true, Bool.not_true]
    refine QR_sch none (.st 0 (.st 1 (.st 3 (.st 4 (.ef 2 (.ef 5 (.st 6 (.st 7 (.done))))))))) (by kernel_rfl) (by kernel_rfl) fun w6 x6 => ?_
    have kb6 := (kb.ext x5).ext x6
    have hc6 := (hc.ext x5).ext x6
    simp (disch := omega) only [go_sem, Nat.reduceEqDiff, ↓reduceIte, Nat.reduceAdd, a1, readCells_blk kb6 (n := 3) (by simp)]
    refine callK_pure (by kernel_rfl) (key_c _ _ cb (hgt rows) n _ g hc6 hn) fun w7 x7 => ?_
    refine nxE_of (x7.grow _) ?_
    simp (disch := omega) only [go_sem, Nat.reduceEqDiff, ↓reduceIte, Nat.reduceAdd, a1]
    refine callK_of (by kernel_rfl) (passes_c _ _ cb (hgt rows) n _ g (hc6.ext x7) hn) ?_
    rintro _ w8 ⟨pb, rfl, hpb, po, x8⟩
    refine nxE_of (x8.grow _) ?_
    have kb8 := (kb6.ext x7).ext x8
    have hc8 := (hc6.ext x7).ext x8
    have x48 := ((x5.trans x6).trans x7).trans x8
    simp (disch := omega) only [go_sem, Nat.reduceEqDiff, ↓reduceIte, Nat.reduceAdd, readCells_blk kb8 (n := 3) (by simp)]
    refine callK_of (by kernel_rfl) (peaks_c _ _ cb (hgt rows) _ g hc8) ?_
    rintro _ w9 ⟨la, lc, rfl, lo, lf, x9⟩
    have hPm : ∀ x ∈ peaksL rows.length (rowLen rows) (hgt rows), x < rows.length * rowLen rows := fun x hx => (mem_peaksTo.1 hx).1
    have hPl := peaksTo_len rows.length (rowLen rows) (hgt rows) (rows.length * rowLen rows)
    rw [← peaksL] at hPl
    simp only [parN]
    generalize peaksL rows.length (rowLen rows) (hgt rows) = P at *
    simp (disch := omega) only [go_sem, Nat.reduceEqDiff, ↓reduceIte, Nat.reduceAdd]
    refine loopN P.length (fun k f W => f 1 = .int .i64 n ∧ f 7 = .int .i64 (keyN rows.length (rowLen rows) (hgt rows) n) ∧ f 8 = .slice (some ⟨pb, 0, none⟩) (rows.length * rowLen rows) (rows.length * rowLen rows) ∧ f 31 = .slice la (ni P).length lc ∧ f 32 = .int .i64 (ni P).length ∧ f 33 = .int .i64 k ∧ (∀ s, s < k → decide (keyN rows.length (rowLen rows) (hgt rows) n ≤ passN rows.length (rowLen rows) (hgt rows) n (P.getD s 0)) = false) ∧ Ext w9 W) ⟨(by first | assumption | (simp only [upd_apply, Nat.reduceEqDiff, ↓reduceIte] <;> first | rfl | assumption) | simp [upd_apply, *]), (by first | assumption | (simp only [upd_apply, Nat.reduceEqDiff, ↓reduceIte] <;> first | rfl | assumption) | simp [upd_apply, *]), (by first | assumption | (simp only [upd_apply, Nat.reduceEqDiff, ↓reduceIte] <;> first | rfl | assumption) | simp [upd_apply, *]), (by first | assumption | (simp only [upd_apply, Nat.reduceEqDiff, ↓reduceIte] <;> first | rfl | assumption) | simp [upd_apply, *]), (by first | assumption | (simp only [upd_apply, Nat.reduceEqDiff, ↓reduceIte] <;> first | rfl | assumption) | simp [upd_apply, *]), (by first | assumption | (simp only [upd_apply, Nat.reduceEqDiff, ↓reduceIte] <;> first | rfl | assumption) | simp [upd_apply, *]), fun s hs => by omega, Ext.refl _⟩ fun k f W hk ⟨a1, a7, a8, a31, a32, a33, hno, xW⟩ => ?_
    by_cases hlt : (k : Int) < (ni P).length
    · have hkl : k < P.length := by rw [ni_len] at hlt; omega
      obtain ⟨lb, rfl⟩ := lo.some (by rw [ni_len]; omega)
      have g0 : W.cell? ⟨lb, k, none⟩ = some (.int .i64 (P.getD k 0 : Nat)) := by rw [(lo.ext xW).cell (by rw [ni_len]; omega), vi_get _ _ (by rw [ni_len]; omega), ni_get _ hkl]
      have hx := hPm _ (getD_mem (d := 0) hkl)
      have ck : W.cell? ⟨pb, P.getD k 0, none⟩ = some (.int .i64 (passN rows.length (rowLen rows) (hgt rows) n (P.getD k 0))) := by rw [((po.ext x9).ext xW).cell (by omega)]; exact vi_rangeI_get _ hx
      by_cases hle : keyN rows.length (rowLen rows) (hgt rows) n ≤ passN rows.length (rowLen rows) (hgt rows) n (P.getD k 0)
      · simp (disch := omega) only [go_sem, Nat.reduceEqDiff, ↓reduceIte, Nat.reduceAdd, a7, a8, a31, a32, a33, hlt, g0, ck, hle, Try.results42]
        refine ⟨?_, ((x4.trans x48).trans x9).trans xW⟩
        rw [find_at hkl (decide_eq_true hle) hno]; rfl
      · simp (disch := omega) only [go_sem, Nat.reduceEqDiff, ↓reduceIte, Nat.reduceAdd, a7, a8, a31, a32, a33, hlt, g0, ck, hle]
        exact ⟨hkl, (by first | assumption | (simp only [upd_apply, Nat.reduceEqDiff, ↓reduceIte] <;> first | rfl | assumption) | simp [upd_apply, *]), (by first | assumption | (simp only [upd_apply, Nat.reduceEqDiff, ↓reduceIte] <;> first | rfl | assumption) | simp [upd_apply, *]), (by first | assumption | (simp only [upd_apply, Nat.reduceEqDiff, ↓reduceIte] <;> first | rfl | assumption) | simp [upd_apply, *]), (by first | assumption | (simp only [upd_apply, Nat.reduceEqDiff, ↓reduceIte] <;> first | rfl | assumption) | simp [upd_apply, *]), (by first | assumption | (simp only [upd_apply, Nat.reduceEqDiff, ↓reduceIte] <;> first | rfl | assumption) | simp [upd_apply, *]), (by first | assumption | (simp only [upd_apply, Nat.reduceEqDiff, ↓reduceIte] <;> first | rfl | assumption) | simp [upd_apply, *]), fun s hs => by
          by_cases e : s = k
          · subst e; exact decide_eq_false hle
          · exact hno s (by omega), xW⟩
    · have ek : k = P.length := by rw [ni_len] at hlt; omega
      simp (disch := omega) only [go_sem, Nat.reduceEqDiff, ↓reduceIte, Nat.reduceAdd, a1, a32, a33, hlt, Try.results42]
      refine ⟨?_, ((x4.trans x48).trans x9).trans xW⟩
      rw [find_no (fun s hs => hno s (by omega))]; rfl

theorem specPeakParent_c (a : Option Addr) (rows : List (List Int)) (A : Nat → Option Addr) (Cp : Nat → Nat) (gc : Nat) (i : Int) (w : World) (hr : RowsAt w a rows A Cp) :
    Ret Try.prog 41 #[.slice a rows.length gc, .int .i64 i] w fun v w' => v = .int .i64 (parOf rows i) ∧ Ext w w' := by
  refine enter2 Try.func41 rfl (by kernel_rfl) (of_decide_eq_true (by kernel_rfl)) fun f a0 a1 => ?_
  simp (disch := omega) only [go_sem, Nat.reduceEqDiff, ↓reduceIte, Nat.reduceAdd, a0, a1]
  refine callK_pure (by kernel_rfl) (specPeakKey_c _ _ _ _ _ i _ hr) fun w1 x1 => ?_
  cases hp : pkOf rows i with
  | false =>
    have hlt : pkeyOf rows i < 0 := by simp [pkeyOf, hp]
    simp (disch := omega) only [go_sem, Nat.reduceEqDiff, ↓reduceIte, Nat.reduceAdd, hlt, Try.results41]
    exact ⟨by simp [parOf, hp], x1⟩
  | true =>
    obtain ⟨n, rfl, hv, hn, hpk⟩ := pk_parts hp
    have v := (gvalid_iff rows).1 hv
    have g := v.gd
    have hn49 := g.le
    have hr1 := hr.ext x1
    obtain ⟨gb, go, rb, ro, rfl, -, hg⟩ := hr.grid v
    have hk : pkeyOf rows (n : Int) = keyN rows.length (rowLen rows) (hgt rows) n := by simp [pkeyOf, hp]
    have hkb := keyN_bnd g n
    have hlt : ¬ keyN rows.length (rowLen rows) (hgt rows) n < 0 := by omega
    have hpar : parOf rows (n : Int) = (parN rows.length (rowLen rows) (hgt rows) n : Nat) := by simp [parOf, hp]
    rw [hpar]
    simp (disch := omega) only [go_sem, Nat.reduceEqDiff, ↓reduceIte, Nat.reduceAdd, hk, hlt, a0, a1]
    refine callK_of (by kernel_rfl) (l4Passes_c gb go gc rb ro Cp _ _ _ n _ (hg.ext x1) g hn) ?_
    rintro _ w2 ⟨pb, rfl, hpb, po, x2⟩
    simp (disch := omega) only [go_sem, Nat.reduceEqDiff, ↓reduceIte, Nat.reduceAdd, a0]
    refine callK_of (by kernel_rfl) (specPeakList_c _ _ _ _ _ _ (hr1.ext x2)) ?_
    rintro _ w3 ⟨la, lc, rfl, lo, lf, x3⟩
    have hPe : peakListOf rows = peaksL rows.length (rowLen rows) (hgt rows) := by rw [peakListOf, if_pos hv]
    have hPm : ∀ x ∈ peakListOf rows, x < rows.length * rowLen rows := fun x hx => by rw [hPe] at hx; exact (mem_peaksTo.1 hx).1
    have hPl := peakListOf_len rows
    simp only [parN]
    rw [← hPe]
    generalize peakListOf rows = P at *
    simp (disch := omega) only [go_sem, Nat.reduceEqDiff, ↓reduceIte, Nat.reduceAdd]
    refine loopN P.length (fun k f W => f 1 = .int .i64 n ∧ f 5 = .int .i64 (keyN rows.length (rowLen rows) (hgt rows) n) ∧ f 6 = .slice (some ⟨pb, 0, none⟩) (rows.length * rowLen rows) (rows.length * rowLen rows) ∧ f 7 = .slice la (ni P).length lc ∧ f 8 = .int .i64 k ∧ (∀ s, s < k → decide (keyN rows.length (rowLen rows) (hgt rows) n ≤ passN rows.length (rowLen rows) (hgt rows) n (P.getD s 0)) = false) ∧ Ext w3 W) ⟨(by first | assumption | (simp only [upd_apply, Nat.reduceEqDiff, ↓reduceIte] <;> first | rfl | assumption) | simp [upd_apply, *]), (by first | assumption | (simp only [upd_apply, Nat.reduceEqDiff, ↓reduceIte] <;> first | rfl | assumption) | simp [upd_apply, *]), (by first | assumption | (simp only [upd_apply, Nat.reduceEqDiff, ↓reduceIte] <;> first | rfl | assumption) | simp [upd_apply, *]), (by first | assumption | (simp only [upd_apply, Nat.reduceEqDiff, ↓reduceIte] <;> first | rfl | assumption) | simp [upd_apply, *]), (by first | assumption | (simp only [upd_apply, Nat.reduceEqDiff, ↓reduceIte] <;> first | rfl | assumption) | simp [upd_apply, *]), fun s hs => by omega, Ext.refl _⟩ fun k f W hk' ⟨a1, a5, a6, a7, a8, hno, xW⟩ => ?_
    by_cases hlk : (k : Int) < (ni P).length
    · have hkl : k < P.length := by rw [ni_len] at hlk; omega
      obtain ⟨lb, rfl⟩ := lo.some (by rw [ni_len]; omega)
      have g0 : W.cell? ⟨lb, k, none⟩ = some (.int .i64 (P.getD k 0 : Nat)) := by rw [(lo.ext xW).cell (by rw [ni_len]; omega), vi_get _ _ (by rw [ni_len]; omega), ni_get _ hkl]
      have hx := hPm _ (getD_mem (d := 0) hkl)
      have ck : W.cell? ⟨pb, P.getD k 0, none⟩ = some (.int .i64 (passN rows.length (rowLen rows) (hgt rows) n (P.getD k 0))) := by rw [((po.ext x3).ext xW).cell (by omega)]; exact vi_rangeI_get _ hx
      by_cases hle : keyN rows.length (rowLen rows) (hgt rows) n ≤ passN rows.length (rowLen rows) (hgt rows) n (P.getD k 0)
      · simp (disch := omega) only [go_sem, Nat.reduceEqDiff, ↓reduceIte, Nat.reduceAdd, a5, a6, a7, a8, hlk, g0, ck, hle, Try.results41]
        refine ⟨?_, ((x1.trans x2).trans x3).trans xW⟩
        rw [find_at hkl (decide_eq_true hle) hno]; rfl
      · simp (disch := omega) only [go_sem, Nat.reduceEqDiff, ↓reduceIte, Nat.reduceAdd, a5, a6, a7, a8, hlk, g0, ck, hle]
        exact ⟨hkl, (by first | assumption | (simp only [upd_apply, Nat.reduceEqDiff, ↓reduceIte] <;> first | rfl | assumption) | simp [upd_apply, *]), (by first | assumption | (simp only [upd_apply, Nat.reduceEqDiff, ↓reduceIte] <;> first | rfl | assumption) | simp [upd_apply, *]), (by first | assumption | (simp only [upd_apply, Nat.reduceEqDiff, ↓reduceIte] <;> first | rfl | assumption) | simp [upd_apply, *]), (by first | assumption | (simp only [upd_apply, Nat.reduceEqDiff, ↓reduceIte] <;> first | rfl | assumption) | simp [upd_apply, *]), (by first | assumption | (simp only [upd_apply, Nat.reduceEqDiff, ↓reduceIte] <;> first | rfl | assumption) | simp [upd_apply, *]), fun s hs => by
          by_cases e : s = k
          · subst e; exact decide_eq_false hle
          · exact hno s (by omega), xW⟩
    · have ek : k = P.length := by rw [ni_len] at hlk; omega
      simp (disch := omega) only [go_sem, Nat.reduceEqDiff, ↓reduceIte, Nat.reduceAdd, a1, a7, a8, hlk, Try.results41]
      refine ⟨?_, ((x1.trans x2).trans x3).trans xW⟩
      rw [find_no (fun s hs => hno s (by omega))]; rfl

theorem implPeakSum_c (a : Option Addr) (rows : List (List Int)) (A : Nat → Option Addr) (Cp : Nat → Nat) (gc : Nat) (w : World) (hr : RowsAt w a rows A Cp) :
    Ret Try.prog 44 #[.slice a rows.length gc] w fun v w' => v = .int .i64 (psumOf rows) ∧ Ext w w' := by
  refine enter1 Try.func44 rfl (by kernel_rfl) (of_decide_eq_true (by kernel_rfl)) fun f a0 => ?_
  simp (disch := omega) only [go_sem, Nat.reduceEqDiff, ↓reduceIte, Nat.reduceAdd, a0]
  refine callK_of (by kernel_rfl) (fieldOf_c _ _ _ _ _ _ hr) ?_
  rintro _ w2 ⟨x2, (⟨hvt, cb, rfl, hcb, o⟩ | ⟨hv', rfl⟩)⟩
  rotate_left
  · simp (disch := omega) only [go_sem, Nat.reduceEqDiff, ↓reduceIte, Nat.reduceAdd]
    refine allocK_of zero_f fun w3 fb _ x3 k3 _ => ?_
    simp (disch := omega) only [go_sem, Nat.reduceEqDiff, ↓reduceIte, Nat.reduceAdd]
    refine stK_agg siz_f (by simp) (by simp [Value.oneCell']) k3 (by simp) fun w4 k4 g4 => ?_
    have x4 : Ext w w4 := g4.ext (x2.trans x3) (by have := x2.size; omega)
    have hv : gvalid rows = false := hv'
    simp (disch := omega) only [go_sem, Nat.reduceEqDiff, ↓reduceIte, Nat.reduceAdd, Try.results44]
    exact ⟨by simp [psumOf, hv], x4⟩
  have hv : gvalid rows = true := hvt
  have v := (gvalid_iff rows).1 hv
  have g := v.gd
  have hn49 := g.le
  simp (disch := omega) only [go_sem, Nat.reduceEqDiff, ↓reduceIte, Nat.reduceAdd]
  refine allocK_of zero_f fun w3 fb _ x3 k3 _ => ?_
  simp (disch := omega) only [go_sem, Nat.reduceEqDiff, ↓reduceIte, Nat.reduceAdd]
  refine stK_agg siz_f (by simp) (by simp [Value.oneCell']) k3 (by simp) fun w4 kb g4 => ?_
  have s2 := x2.size
  have s3 := x3.size
  have x4 : Ext w w4 := g4.ext (x2.trans x3) (by omega)
  have s4 := x4.size
  have hc : CellsAt w4 cb (rows.length * rowLen rows) (hgt rows) := fun i hi => by
    have := ((o.cellsAt.ext x3).grow g4.grow (by have := o.cellsAt.lt g.pos; simp; omega)) i hi
    simpa only [hs_get rows i hi] using this
  simp (disch := omega) only [go_sem, Nat.reduceEqDiff, ↓reduceIte, Nat.reduceAdd, readCells_blk kb (n := 3) (by simp)]
  refine callK_of (by kernel_rfl) (peaks_c _ _ cb (hgt rows) _ g hc) ?_
  rintro _ w5 ⟨la, lc, rfl, lo, lf, x5⟩
  have hPm : ∀ x ∈ peaksL rows.length (rowLen rows) (hgt rows), x < rows.length * rowLen rows := fun x hx => (mem_peaksTo.1 hx).1
  have hPl := peaksTo_len rows.length (rowLen rows) (hgt rows) (rows.length * rowLen rows)
  rw [← peaksL] at hPl
  rw [psumOf, if_pos hv]
  generalize peaksL rows.length (rowLen rows) (hgt rows) = P at *
  have hPb := psum_bnd (P := P) (f := promN rows.length (rowLen rows) (hgt rows)) fun x hx => promN_bnd g (hPm x hx)
  have kb5 := kb.ext x5
  have hc5 := hc.ext x5
  simp (disch := omega) only [go_sem, Nat.reduceEqDiff, ↓reduceIte, Nat.reduceAdd]
  refine loopN P.length (fun k f W => f 3 = .pointer (some ⟨fb, 0, none⟩) ∧ f 5 = .int .i64 (sumL ((P.map (promN rows.length (rowLen rows) (hgt rows))).take k)) ∧ f 16 = .slice la (ni P).length lc ∧ f 17 = .int .i64 (ni P).length ∧ f 18 = .int .i64 k ∧ Ext w5 W) ⟨(by first | assumption | (simp only [upd_apply, Nat.reduceEqDiff, ↓reduceIte] <;> first | rfl | assumption) | simp [upd_apply, *]), by simp [upd_apply, sumL], (by first | assumption | (simp only [upd_apply, Nat.reduceEqDiff, ↓reduceIte] <;> first | rfl | assumption) | simp [upd_apply, *]), (by first | assumption | (simp only [upd_apply, Nat.reduceEqDiff, ↓reduceIte] <;> first | rfl | assumption) | simp [upd_apply, *]), (by first | assumption | (simp only [upd_apply, Nat.reduceEqDiff, ↓reduceIte] <;> first | rfl | assumption) | simp [upd_apply, *]), Ext.refl _⟩ fun k f W hk ⟨a3, a5, a16, a17, a18, xW⟩ => ?_
  have hb := hPb k hk
  by_cases hlt : (k : Int) < (ni P).length
  · have hkl : k < P.length := by rw [ni_len] at hlt; omega
    obtain ⟨lb, rfl⟩ := lo.some (by rw [ni_len]; omega)
    have g0 : W.cell? ⟨lb, k, none⟩ = some (.int .i64 (P.getD k 0 : Nat)) := by rw [(lo.ext xW).cell (by rw [ni_len]; omega), vi_get _ _ (by rw [ni_len]; omega), ni_get _ hkl]
    have hx := hPm _ (getD_mem (d := 0) hkl)
    have hst := psum_tk (f := promN rows.length (rowLen rows) (hgt rows)) hkl
    have hpb := promN_bnd g hx
    simp (disch := omega) only [go_sem, Nat.reduceEqDiff, ↓reduceIte, Nat.reduceAdd, a3, a16, a17, a18, hlt, g0, readCells_blk (kb5.ext xW) (n := 3) (by simp)]
    refine callK_pure (by kernel_rfl) (prominence_c _ _ cb (hgt rows) (P.getD k 0) _ g (hc5.ext xW) hx) fun w6 x6 => ?_
    simp (disch := omega) only [go_sem, Nat.reduceEqDiff, ↓reduceIte, Nat.reduceAdd, a5, a18]
    exact ⟨hkl, (by first | assumption | (simp only [upd_apply, Nat.reduceEqDiff, ↓reduceIte] <;> first | rfl | assumption) | simp [upd_apply, *]), by simp [upd_apply, hst], (by first | assumption | (simp only [upd_apply, Nat.reduceEqDiff, ↓reduceIte] <;> first | rfl | assumption) | simp [upd_apply, *]), (by first | assumption | (simp only [upd_apply, Nat.reduceEqDiff, ↓reduceIte] <;> first | rfl | assumption) | simp [upd_apply, *]), (by first | assumption | (simp only [upd_apply, Nat.reduceEqDiff, ↓reduceIte] <;> first | rfl | assumption) | simp [upd_apply, *]), xW.trans x6⟩
  · have ek : k = P.length := by rw [ni_len] at hlt; omega
    rw [ek] at a5
    simp (disch := omega) only [go_sem, Nat.reduceEqDiff, ↓reduceIte, Nat.reduceAdd, a5, a17, a18, hlt, Try.results44]
    exact ⟨by rw [List.take_of_length_le (by simp)], (x4.trans x5).trans xW⟩

theorem specPeakSum_c (a : Option Addr) (rows : List (List Int)) (A : Nat → Option Addr) (Cp : Nat → Nat) (gc : Nat) (w : World) (hr : RowsAt w a rows A Cp) :
    Ret Try.prog 43 #[.slice a rows.length gc] w fun v w' => v = .int .i64 (psumOf rows) ∧ Ext w w' := by
  refine enter1 Try.func43 rfl (by kernel_rfl) (of_decide_eq_true (by kernel_rfl)) fun f a0 => ?_
  simp (disch := omega) only [go_sem, Nat.reduceEqDiff, ↓reduceIte, Nat.reduceAdd, a0]
  refine callK_pure (by kernel_rfl) (gridValid_c _ _ _ _ _ _ hr) fun w1 x1 => ?_
  cases hv : gvalid rows with
  | false =>
    simp (disch := omega) only [go_sem, Nat.reduceEqDiff, ↓reduceIte, Nat.reduceAdd, Bool.not_false, Try.results43]
    exact ⟨by simp [psumOf, hv], x1⟩
  | true =>
    have v := (gvalid_iff rows).1 hv
    have g := v.gd
    have hn49 := g.le
    simp (disch := omega) only [go_sem, Nat.reduceEqDiff, ↓reduceIte, Nat.reduceAdd, Bool.not_true, a0]
    refine callK_of (by kernel_rfl) (specPeakList_c _ _ _ _ _ _ (hr.ext x1)) ?_
    rintro _ w2 ⟨la, lc, rfl, lo, lf, x2⟩
    have hPe : peakListOf rows = peaksL rows.length (rowLen rows) (hgt rows) := by rw [peakListOf, if_pos hv]
    have hPm : ∀ x ∈ peakListOf rows, x < rows.length * rowLen rows := fun x hx => by rw [hPe] at hx; exact (mem_peaksTo.1 hx).1
    have hpk : ∀ x ∈ peakListOf rows, promOf rows (x : Int) = promN rows.length (rowLen rows) (hgt rows) x := fun x hx => by
      have := mem_peakListOf.1 hx
      simp [promOf, this]
    have hPl := peakListOf_len rows
    rw [psumOf, if_pos hv, ← hPe]
    generalize peakListOf rows = P at *
    have hPb := psum_bnd (P := P) (f := promN rows.length (rowLen rows) (hgt rows)) fun x hx => promN_bnd g (hPm x hx)
    simp (disch := omega) only [go_sem, Nat.reduceEqDiff, ↓reduceIte, Nat.reduceAdd]
    refine loopN P.length (fun k f W => f 0 = .slice a rows.length gc ∧ f 3 = .int .i64 (sumL ((P.map (promN rows.length (rowLen rows) (hgt rows))).take k)) ∧ f 4 = .slice la (ni P).length lc ∧ f 5 = .int .i64 k ∧ Ext w2 W) ⟨(by first | assumption | (simp only [upd_apply, Nat.reduceEqDiff, ↓reduceIte] <;> first | rfl | assumption) | simp [upd_apply, *]), by simp [upd_apply, sumL], (by first | assumption | (simp only [upd_apply, Nat.reduceEqDiff, ↓reduceIte] <;> first | rfl | assumption) | simp [upd_apply, *]), (by first | assumption | (simp only [upd_apply, Nat.reduceEqDiff, ↓reduceIte] <;> first | rfl | assumption) | simp [upd_apply, *]), Ext.refl _⟩ fun k f W hk ⟨a0, a3, a4, a5, xW⟩ => ?_
    have hb := hPb k hk
    by_cases hlt : (k : Int) < (ni P).length
    · have hkl : k < P.length := by rw [ni_len] at hlt; omega
      obtain ⟨lb, rfl⟩ := lo.some (by rw [ni_len]; omega)
      have g0 : W.cell? ⟨lb, k, none⟩ = some (.int .i64 (P.getD k 0 : Nat)) := by rw [(lo.ext xW).cell (by rw [ni_len]; omega), vi_get _ _ (by rw [ni_len]; omega), ni_get _ hkl]
      have hm := getD_mem (d := 0) hkl
      have hx := hPm _ hm
      have hpx := hpk _ hm
      have hst := psum_tk (f := promN rows.length (rowLen rows) (hgt rows)) hkl
      have hpb := promN_bnd g hx
      simp (disch := omega) only [go_sem, Nat.reduceEqDiff, ↓reduceIte, Nat.reduceAdd, a0, a4, a5, hlt, g0]
      refine callK_pure (by kernel_rfl) (specPeakProminence_c _ _ _ _ _ (P.getD k 0 : Nat) _ (((hr.ext x1).ext x2).ext xW)) fun w3 x3 => ?_
      simp (disch := omega) only [go_sem, Nat.reduceEqDiff, ↓reduceIte, Nat.reduceAdd, hpx, a3, a5]
      exact ⟨hkl, (by first | assumption | (simp only [upd_apply, Nat.reduceEqDiff, ↓reduceIte] <;> first | rfl | assumption) | simp [upd_apply, *]), by simp [upd_apply, hst], (by first | assumption | (simp only [upd_apply, Nat.reduceEqDiff, ↓reduceIte] <;> first | rfl | assumption) | simp [upd_apply, *]), (by first | assumption | (simp only [upd_apply, Nat.reduceEqDiff, ↓reduceIte] <;> first | rfl | assumption) | simp [upd_apply, *]), xW.trans x3⟩
    · have ek : k = P.length := by rw [ni_len] at hlt; omega
      rw [ek] at a3
      simp (disch := omega) only [go_sem, Nat.reduceEqDiff, ↓reduceIte, Nat.reduceAdd, a3, a4, a5, hlt, Try.results43]
      exact ⟨by rw [List.take_of_length_le (by simp)], (x1.trans x2).trans xW⟩

theorem implPeakMost_c (a : Option Addr) (rows : List (List Int)) (A : Nat → Option Addr) (Cp : Nat → Nat) (gc : Nat) (least : Int) (w : World) (hr : RowsAt w a rows A Cp) :
    Ret Try.prog 48 #[.slice a rows.length gc, .int .i64 least] w fun v w' => Got1 w w' (ni (mostOf rows least)) v := by
  refine enter2 Try.func48 rfl (by kernel_rfl) (of_decide_eq_true (by kernel_rfl)) fun f a0 a1 => ?_
  simp (disch := omega) only [go_sem, Nat.reduceEqDiff, ↓reduceIte, Nat.reduceAdd, a0]
  refine callK_of (by kernel_rfl) (fieldOf_c _ _ _ _ _ _ hr) ?_
  rintro _ w2 ⟨x2, (⟨hvt, cb, rfl, hcb, o⟩ | ⟨hv', rfl⟩)⟩
  rotate_left
  · simp (disch := omega) only [go_sem, Nat.reduceEqDiff, ↓reduceIte, Nat.reduceAdd]
    refine allocK_of zero_f fun w3 fb _ x3 k3 _ => ?_
    simp (disch := omega) only [go_sem, Nat.reduceEqDiff, ↓reduceIte, Nat.reduceAdd]
    refine stK_agg siz_f (by simp) (by simp [Value.oneCell']) k3 (by simp) fun w4 k4 g4 => ?_
    have x4 : Ext w w4 := g4.ext (x2.trans x3) (by have := x2.size; omega)
    have hv : gvalid rows = false := hv'
    simp (disch := omega) only [go_sem, Nat.reduceEqDiff, ↓reduceIte, Nat.reduceAdd, Try.results48]
    exact ⟨none, 0, by simp [mostOf, peakListOf, hv, ni], by simpa [mostOf, peakListOf, hv, ni, vi] using OwnS.nil _ _ _, fun b hb => (by cases hb), x4⟩
  have hv : gvalid rows = true := hvt
  have v := (gvalid_iff rows).1 hv
  have g := v.gd
  have hn49 := g.le
  simp (disch := omega) only [go_sem, Nat.reduceEqDiff, ↓reduceIte, Nat.reduceAdd]
  refine allocK_of zero_f fun w3 fb _ x3 k3 _ => ?_
  simp (disch := omega) only [go_sem, Nat.reduceEqDiff, ↓reduceIte, Nat.reduceAdd]
  refine stK_agg siz_f (by simp) (by simp [Value.oneCell']) k3 (by simp) fun w4 kb g4 => ?_
  have s2 := x2.size
  have s3 := x3.size
  have x4 : Ext w w4 := g4.ext (x2.trans x3) (by omega)
  have s4 := x4.size
  have hc : CellsAt w4 cb (rows.length * rowLen rows) (hgt rows) := fun i hi => by
    have := ((o.cellsAt.ext x3).grow g4.grow (by have := o.cellsAt.lt g.pos; simp; omega)) i hi
    simpa only [hs_get rows i hi] using this
  simp (disch := omega) only [go_sem, Nat.reduceEqDiff, ↓reduceIte, Nat.reduceAdd]
  refine bslK_0 elt_i fun w5 b5 e5 x5 o5 _ => ?_
  simp (disch := omega) only [go_sem, Nat.reduceEqDiff, ↓reduceIte, Nat.reduceAdd, readCells_blk (kb.ext x5) (n := 3) (by simp)]
  refine callK_of (by kernel_rfl) (peaks_c _ _ cb (hgt rows) _ g (hc.ext x5)) ?_
  rintro _ w6 ⟨la, lc, rfl, lo, lf, x6⟩
  have hPe : peakListOf rows = peaksL rows.length (rowLen rows) (hgt rows) := by rw [peakListOf, if_pos hv]
  have hPm : ∀ x ∈ peaksL rows.length (rowLen rows) (hgt rows), x < rows.length * rowLen rows := fun x hx => (mem_peaksTo.1 hx).1
  have hPl := peaksTo_len rows.length (rowLen rows) (hgt rows) (rows.length * rowLen rows)
  rw [← peaksL] at hPl
  rw [mostOf, hPe]
  generalize peaksL rows.length (rowLen rows) (hgt rows) = P at *
  have kb6 := (kb.ext x5).ext x6
  have hc6 := (hc.ext x5).ext x6
  have s5 := x5.size
  have s6 := x6.size
  generalize hpr : (fun j => decide (least ≤ promN rows.length (rowLen rows) (hgt rows) j)) = pr
  simp (disch := omega) only [go_sem, Nat.reduceEqDiff, ↓reduceIte, Nat.reduceAdd]
  refine loopN P.length (fun k f W => f 1 = .int .i64 least ∧ f 5 = .pointer (some ⟨fb, 0, none⟩) ∧ (∃ oa oc, f 7 = .slice oa (ni ((P.take k).filter pr)).length oc ∧ OwnS W 3 1 oa (ni ((P.take k).filter pr)).length oc (vi (ni ((P.take k).filter pr))) ∧ (∀ b, blk oa = some b → w4.heap.size ≤ b ∧ blk la ≠ some b)) ∧ f 19 = .slice la (ni P).length lc ∧ f 20 = .int .i64 (ni P).length ∧ f 21 = .int .i64 k ∧ Ext w4 W ∧ OwnS W 3 1 la (ni P).length lc (vi (ni P)) ∧ Blk W fb #[.int .i64 rows.length, .int .i64 (rowLen rows), .slice (some ⟨cb, 0, none⟩) (rows.length * rowLen rows) (rows.length * rowLen rows)] 51 ∧ CellsAt W cb (rows.length * rowLen rows) (hgt rows)) ⟨(by first | assumption | (simp only [upd_apply, Nat.reduceEqDiff, ↓reduceIte] <;> first | rfl | assumption) | simp [upd_apply, *]), (by first | assumption | (simp only [upd_apply, Nat.reduceEqDiff, ↓reduceIte] <;> first | rfl | assumption) | simp [upd_apply, *]), ⟨some ⟨b5, 0, none⟩, 0, by simp [upd_apply, ni], by simpa [ni, vi] using o5.ext x6, fun b hb => ?_⟩, (by first | assumption | (simp only [upd_apply, Nat.reduceEqDiff, ↓reduceIte] <;> first | rfl | assumption) | simp [upd_apply, *]), (by first | assumption | (simp only [upd_apply, Nat.reduceEqDiff, ↓reduceIte] <;> first | rfl | assumption) | simp [upd_apply, *]), (by first | assumption | (simp only [upd_apply, Nat.reduceEqDiff, ↓reduceIte] <;> first | rfl | assumption) | simp [upd_apply, *]), x5.trans x6, lo, kb6, hc6⟩ fun k f W hk ⟨a1, a5, ⟨oa, oc, a7, oo, of⟩, a19, a20, a21, xW, lW, kW, cW⟩ => ?_
  · have h1 : b5 = b := (by simpa [blk] using hb)
    have h2 := o5.blk_lt (b := b5) rfl
    exact ⟨by omega, fun e => by have := lf b e; omega⟩
  have hol : ((P.take k).filter pr).length ≤ 49 := Nat.le_trans (List.length_filter_le _ _) (by rw [List.length_take]; omega)
  by_cases hlt : (k : Int) < (ni P).length
  · have hkl : k < P.length := by rw [ni_len] at hlt; omega
    obtain ⟨lb, rfl⟩ := lW.some (by rw [ni_len]; omega)
    have g0 : W.cell? ⟨lb, k, none⟩ = some (.int .i64 (P.getD k 0 : Nat)) := by rw [lW.cell (by rw [ni_len]; omega), vi_get _ _ (by rw [ni_len]; omega), ni_get _ hkl]
    have hx := hPm _ (getD_mem (d := 0) hkl)
    have hst := filter_tk (p := pr) hkl
    have hprx : pr (P.getD k 0) = decide (least ≤ promN rows.length (rowLen rows) (hgt rows) (P.getD k 0)) := by rw [← hpr]
    generalize P.getD k 0 = x at *
    simp (disch := omega) only [go_sem, Nat.reduceEqDiff, ↓reduceIte, Nat.reduceAdd, a5, a19, a20, a21, hlt, g0, readCells_blk kW (n := 3) (by simp)]
    refine callK_pure (by kernel_rfl) (prominence_c _ _ cb (hgt rows) x _ g cW hx) fun w7 x7 => ?_
    by_cases hle : least ≤ promN rows.length (rowLen rows) (hgt rows) x
    · rw [decide_eq_true hle] at hprx
      rw [hprx, if_pos rfl] at hst
      simp (disch := omega) only [go_sem, Nat.reduceEqDiff, ↓reduceIte, Nat.reduceAdd, a1, a7, hle]
      refine bslK_1 elt_i rfl fun w8 b8 e8 x8 k8 _ => ?_
      simp (disch := omega) only [go_sem, Nat.reduceEqDiff, ↓reduceIte, Nat.reduceAdd]
      refine appK_1 elt_i ((oo.ext x7).ext x8) k8 rfl (by rw [ni_len]; omega) (.inl (by decide)) fun w9 a9 c9 o9 g9 h9 => ?_
      simp (disch := omega) only [go_sem, Nat.reduceEqDiff, ↓reduceIte, Nat.reduceAdd, a21]
      have s7 := x7.size
      have s8 := x8.size
      have far : ∀ b, b < w4.heap.size → blk oa ≠ some b := fun b hb e => by have := (of b e).1; omega
      refine ⟨hkl, (by first | assumption | (simp only [upd_apply, Nat.reduceEqDiff, ↓reduceIte] <;> first | rfl | assumption) | simp [upd_apply, *]), (by first | assumption | (simp only [upd_apply, Nat.reduceEqDiff, ↓reduceIte] <;> first | rfl | assumption) | simp [upd_apply, *]), ⟨a9, c9, by rw [hst]; simp [upd_apply, ni_len], by rw [hst, ← vi_ni_snoc _ x _ rfl, ni_len, List.length_append]; rw [ni_len] at o9; exact o9, fun b hb => ?_⟩, (by first | assumption | (simp only [upd_apply, Nat.reduceEqDiff, ↓reduceIte] <;> first | rfl | assumption) | simp [upd_apply, *]), (by first | assumption | (simp only [upd_apply, Nat.reduceEqDiff, ↓reduceIte] <;> first | rfl | assumption) | simp [upd_apply, *]), (by first | assumption | (simp only [upd_apply, Nat.reduceEqDiff, ↓reduceIte] <;> first | rfl | assumption) | simp [upd_apply, *]), g9.ext ((xW.trans x7).trans x8) (fun b hb => (of b hb).1), ((lW.ext x7).ext x8).grow g9 (fun b hb e => (of b e).2 hb), g9.blk ((kW.ext x7).ext x8) (far _ kb.lt), ((cW.ext x7).ext x8).grow g9 (far _ (hc.lt g.pos))⟩
      rcases h9 b hb with e | e
      · exact of b e
      · have := xW.size
        have h3 := lW.blk_lt (b := lb) rfl
        exact ⟨by omega, fun e2 => by have h1 : lb = b := (by simpa [blk] using e2); omega⟩
    · rw [decide_eq_false hle] at hprx
      rw [hprx] at hst
      simp only [Bool.false_eq_true, if_false, List.append_nil] at hst
      simp (disch := omega) only [go_sem, Nat.reduceEqDiff, ↓reduceIte, Nat.reduceAdd, a1, a21, hle]
      exact ⟨hkl, (by first | assumption | (simp only [upd_apply, Nat.reduceEqDiff, ↓reduceIte] <;> first | rfl | assumption) | simp [upd_apply, *]), (by first | assumption | (simp only [upd_apply, Nat.reduceEqDiff, ↓reduceIte] <;> first | rfl | assumption) | simp [upd_apply, *]), ⟨oa, oc, by rw [hst]; simp [upd_apply, a7], by rw [hst]; exact oo.ext x7, of⟩, (by first | assumption | (simp only [upd_apply, Nat.reduceEqDiff, ↓reduceIte] <;> first | rfl | assumption) | simp [upd_apply, *]), (by first | assumption | (simp only [upd_apply, Nat.reduceEqDiff, ↓reduceIte] <;> first | rfl | assumption) | simp [upd_apply, *]), (by first | assumption | (simp only [upd_apply, Nat.reduceEqDiff, ↓reduceIte] <;> first | rfl | assumption) | simp [upd_apply, *]), xW.trans x7, lW.ext x7, kW.ext x7, cW.ext x7⟩
  · have ek : k = P.length := by rw [ni_len] at hlt; omega
    rw [ek, List.take_length] at a7 oo
    simp (disch := omega) only [go_sem, Nat.reduceEqDiff, ↓reduceIte, Nat.reduceAdd, a7, a20, a21, hlt, Try.results48]
    exact ⟨oa, oc, by first | rfl | trivial, oo, fun b hb => Nat.le_trans s4 (of b hb).1, x4.trans xW⟩

theorem specPeakMost_c (a : Option Addr) (rows : List (List Int)) (A : Nat → Option Addr) (Cp : Nat → Nat) (gc : Nat) (least : Int) (w : World) (hr : RowsAt w a rows A Cp) :
    Ret Try.prog 47 #[.slice a rows.length gc, .int .i64 least] w fun v w' => Got1 w w' (ni (mostOf rows least)) v := by
  refine enter2 Try.func47 rfl (by kernel_rfl) (of_decide_eq_true (by kernel_rfl)) fun f a0 a1 => ?_
  simp (disch := omega) only [go_sem, Nat.reduceEqDiff, ↓reduceIte, Nat.reduceAdd]
  refine bslK_0 elt_i fun w1 b1 e1 x1 o1 _ => ?_
  simp (disch := omega) only [go_sem, Nat.reduceEqDiff, ↓reduceIte, Nat.reduceAdd, a0]
  refine callK_of (by kernel_rfl) (specPeakList_c _ _ _ _ _ _ (hr.ext x1)) ?_
  rintro _ w2 ⟨la, lc, rfl, lo, lf, x2⟩
  have hpk : ∀ x ∈ peakListOf rows, promOf rows (x : Int) = promN rows.length (rowLen rows) (hgt rows) x := fun x hx => by
    have := mem_peakListOf.1 hx
    simp [promOf, this]
  have hPl := peakListOf_len rows
  rw [mostOf]
  generalize peakListOf rows = P at *
  have s1 := x1.size
  have s2 := x2.size
  generalize hpr : (fun j => decide (least ≤ promN rows.length (rowLen rows) (hgt rows) j)) = pr
  simp (disch := omega) only [go_sem, Nat.reduceEqDiff, ↓reduceIte, Nat.reduceAdd]
  refine loopN P.length (fun k f W => f 0 = .slice a rows.length gc ∧ f 1 = .int .i64 least ∧ (∃ oa oc, f 5 = .slice oa (ni ((P.take k).filter pr)).length oc ∧ OwnS W 3 1 oa (ni ((P.take k).filter pr)).length oc (vi (ni ((P.take k).filter pr))) ∧ (∀ b, blk oa = some b → w.heap.size ≤ b ∧ blk la ≠ some b)) ∧ f 6 = .slice la (ni P).length lc ∧ f 7 = .int .i64 k ∧ Ext w W ∧ OwnS W 3 1 la (ni P).length lc (vi (ni P))) ⟨(by first | assumption | (simp only [upd_apply, Nat.reduceEqDiff, ↓reduceIte] <;> first | rfl | assumption) | simp [upd_apply, *]), (by first | assumption | (simp only [upd_apply, Nat.reduceEqDiff, ↓reduceIte] <;> first | rfl | assumption) | simp [upd_apply, *]), ⟨some ⟨b1, 0, none⟩, 0, by simp [upd_apply, ni], by simpa [ni, vi] using o1.ext x2, fun b hb => ?_⟩, (by first | assumption | (simp only [upd_apply, Nat.reduceEqDiff, ↓reduceIte] <;> first | rfl | assumption) | simp [upd_apply, *]), (by first | assumption | (simp only [upd_apply, Nat.reduceEqDiff, ↓reduceIte] <;> first | rfl | assumption) | simp [upd_apply, *]), x1.trans x2, lo⟩ fun k f W hk ⟨a0, a1, ⟨oa, oc, a5, oo, of⟩, a6, a7, xW, lW⟩ => ?_
  · have h1 : b1 = b := (by simpa [blk] using hb)
    have h2 := o1.blk_lt (b := b1) rfl
    exact ⟨by omega, fun e => by have := lf b e; omega⟩
  have hol : ((P.take k).filter pr).length ≤ 49 := Nat.le_trans (List.length_filter_le _ _) (by rw [List.length_take]; omega)
  by_cases hlt : (k : Int) < (ni P).length
  · have hkl : k < P.length := by rw [ni_len] at hlt; omega
    obtain ⟨lb, rfl⟩ := lW.some (by rw [ni_len]; omega)
    have cell : ∀ U, Ext W U → U.cell? ⟨lb, k, none⟩ = some (.int .i64 (P.getD k 0 : Nat)) := fun U e => by rw [(lW.ext e).cell (by rw [ni_len]; omega), vi_get _ _ (by rw [ni_len]; omega), ni_get _ hkl]
    have hpx := hpk _ (getD_mem (d := 0) hkl)
    have hst := filter_tk (p := pr) hkl
    have hprx : pr (P.getD k 0) = decide (least ≤ promN rows.length (rowLen rows) (hgt rows) (P.getD k 0)) := by rw [← hpr]
    generalize P.getD k 0 = x at *
    have g0 := cell _ (Ext.refl _)
    simp (disch := omega) only [go_sem, Nat.reduceEqDiff, ↓reduceIte, Nat.reduceAdd, a0, a6, a7, hlt, g0]
    refine callK_pure (by kernel_rfl) (specPeakProminence_c _ _ _ _ _ (x : Int) _ (hr.ext xW)) fun w3 x3 => ?_
    have g1 := cell _ x3
    by_cases hle : least ≤ promN rows.length (rowLen rows) (hgt rows) x
    · rw [decide_eq_true hle] at hprx
      rw [hprx, if_pos rfl] at hst
      simp (disch := omega) only [go_sem, Nat.reduceEqDiff, ↓reduceIte, Nat.reduceAdd, hpx, a1, a5, a6, a7, hle, g1]
      refine bslK_1 elt_i rfl fun w8 b8 e8 x8 k8 _ => ?_
      simp (disch := omega) only [go_sem, Nat.reduceEqDiff, ↓reduceIte, Nat.reduceAdd]
      refine appK_1 elt_i ((oo.ext x3).ext x8) k8 rfl (by rw [ni_len]; omega) (.inl (by decide)) fun w9 a9 c9 o9 g9 h9 => ?_
      simp (disch := omega) only [go_sem, Nat.reduceEqDiff, ↓reduceIte, Nat.reduceAdd, a7]
      have s7 := x3.size
      have s8 := x8.size
      refine ⟨hkl, (by first | assumption | (simp only [upd_apply, Nat.reduceEqDiff, ↓reduceIte] <;> first | rfl | assumption) | simp [upd_apply, *]), (by first | assumption | (simp only [upd_apply, Nat.reduceEqDiff, ↓reduceIte] <;> first | rfl | assumption) | simp [upd_apply, *]), ⟨a9, c9, by rw [hst]; simp [upd_apply, ni_len], by rw [hst, ← vi_ni_snoc _ x _ rfl, ni_len, List.length_append]; rw [ni_len] at o9; exact o9, fun b hb => ?_⟩, (by first | assumption | (simp only [upd_apply, Nat.reduceEqDiff, ↓reduceIte] <;> first | rfl | assumption) | simp [upd_apply, *]), (by first | assumption | (simp only [upd_apply, Nat.reduceEqDiff, ↓reduceIte] <;> first | rfl | assumption) | simp [upd_apply, *]), g9.ext ((xW.trans x3).trans x8) (fun b hb => (of b hb).1), ((lW.ext x3).ext x8).grow g9 (fun b hb e => (of b e).2 hb)⟩
      rcases h9 b hb with e | e
      · exact of b e
      · have := xW.size
        have h3 := lW.blk_lt (b := lb) rfl
        exact ⟨by omega, fun e2 => by have h1 : lb = b := (by simpa [blk] using e2); omega⟩
    · rw [decide_eq_false hle] at hprx
      rw [hprx] at hst
      simp only [Bool.false_eq_true, if_false, List.append_nil] at hst
      simp (disch := omega) only [go_sem, Nat.reduceEqDiff, ↓reduceIte, Nat.reduceAdd, hpx, a1, a7, hle]
      exact ⟨hkl, (by first | assumption | (simp only [upd_apply, Nat.reduceEqDiff, ↓reduceIte] <;> first | rfl | assumption) | simp [upd_apply, *]), (by first | assumption | (simp only [upd_apply, Nat.reduceEqDiff, ↓reduceIte] <;> first | rfl | assumption) | simp [upd_apply, *]), ⟨oa, oc, by rw [hst]; simp [upd_apply, a5], by rw [hst]; exact oo.ext x3, of⟩, (by first | assumption | (simp only [upd_apply, Nat.reduceEqDiff, ↓reduceIte] <;> first | rfl | assumption) | simp [upd_apply, *]), (by first | assumption | (simp only [upd_apply, Nat.reduceEqDiff, ↓reduceIte] <;> first | rfl | assumption) | simp [upd_apply, *]), xW.trans x3, lW.ext x3⟩
  · have ek : k = P.length := by rw [ni_len] at hlt; omega
    rw [ek, List.take_length] at a5 oo
    simp (disch := omega) only [go_sem, Nat.reduceEqDiff, ↓reduceIte, Nat.reduceAdd, a5, a6, a7, hlt, Try.results47]
    exact ⟨oa, oc, by first | rfl | trivial, oo, fun b hb => (of b hb).1, xW⟩
end Go.Proofs.Ytlnodngkacbfkaa
