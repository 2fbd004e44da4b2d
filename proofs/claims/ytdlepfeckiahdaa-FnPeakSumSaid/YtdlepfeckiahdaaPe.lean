/- PeakList: both sides. -/
import Derived.Test.YtdlepfeckiahdaaPd
set_option linter.all false
namespace Go.SW
open Go Go.RowKit
theorem slc_lo2 (s : Nat) (b o n c : Nat) (k : IntKind) (lo : Int) (h0 : 0 ≤ lo) (h1 : lo ≤ n) :
    slcE (some s) (some ⟨b, o, none⟩) n c (some (.int k lo)) none = some (.slice (some (if c = lo.toNat then ⟨b, o, none⟩ else ⟨b, o + lo.toNat * s, none⟩)) (n - lo.toNat) (c - lo.toNat)) := by
  have e2 : lo ≤ ((n : Nat) : Int) := h1
  by_cases e : c = lo.toNat
  · simp [slcE, boundV, h0, e2, e]
  · simp [slcE, boundV, h0, e2, e, add_mk]
attribute [go_sem] slc_lo2

/-- What PeakList answers. -/
def peakListOf (rows : List (List Int)) : List Nat := if gvalid rows = true then peaksL rows.length (rowLen rows) (hgt rows) else []
end Go.SW
namespace Go.Proofs.Ytdlepfeckiahdaa
open Go.RowKit Go.SW
theorem peakList_c (a : Option Addr) (rows : List (List Int)) (A : Nat → Option Addr) (Cp : Nat → Nat) (gc : Nat) (w : World) (hr : RowsAt w a rows A Cp) :
    Ret Try.prog 47 #[.slice a rows.length gc] w fun v w' => Got1 w w' (ni (peakListOf rows)) v := by
  refine enter1 Try.func47 rfl (by kernel_rfl) (of_decide_eq_true (by kernel_rfl)) fun f a0 => ?_
  simp (disch := omega) only [go_sem, Nat.reduceEqDiff, ↓reduceIte, Nat.reduceAdd, a0]
  refine callK_of (by kernel_rfl) (fieldOf_c _ _ _ _ _ _ hr) ?_
  rintro _ w2 ⟨x2, (⟨hvt, cb, rfl, hcb, o⟩ | ⟨hv', rfl⟩)⟩
  rotate_left
  · simp (disch := omega) only [go_sem, Nat.reduceEqDiff, ↓reduceIte, Nat.reduceAdd]
    refine allocK_of zero_f fun w3 fb _ x3 k3 _ => ?_
    simp (disch := omega) only [go_sem, Nat.reduceEqDiff, ↓reduceIte, Nat.reduceAdd]
    refine stK_agg siz_f (by simp) (by simp [Value.oneCell']) k3 (by simp) fun w4 k4 g4 => ?_
    have x4 : Ext w w4 := g4.ext (x2.trans x3) (by have := x2.size; omega)
    have hv : gvalid rows = false := hv'
    simp (disch := omega) only [go_sem, Nat.reduceEqDiff, ↓reduceIte, Nat.reduceAdd, Try.results47]
    exact ⟨none, 0, by simp [peakListOf, hv, ni], by simpa [peakListOf, hv, ni, vi] using OwnS.nil _ _ _, fun b hb => (by cases hb), x4⟩
  have hv : gvalid rows = true := hvt
  have v := (gvalid_iff rows).1 hv
  have g := v.gd
  have hn49 := g.le
  simp (disch := omega) only [go_sem, Nat.reduceEqDiff, ↓reduceIte, Nat.reduceAdd]
  refine allocK_of zero_f fun w3 fb _ x3 k3 _ => ?_
  simp (disch := omega) only [go_sem, Nat.reduceEqDiff, ↓reduceIte, Nat.reduceAdd]
  refine stK_agg siz_f (by simp) (by simp [Value.oneCell']) k3 (by simp) fun w4 kb g4 => ?_
  have s2 := x2.size
  have s3 := x3.size
  have x4 : Ext w w4 := g4.ext (x2.trans x3) (by omega)
  have s4 := x4.size
  have hc : CellsAt w4 cb (rows.length * rowLen rows) (hgt rows) := fun i hi => by
    have := ((o.cellsAt.ext x3).grow g4.grow (by have := o.cellsAt.lt g.pos; simp; omega)) i hi
    simpa only [hs_get rows i hi] using this
  simp (disch := omega) only [go_sem, Nat.reduceEqDiff, ↓reduceIte, Nat.reduceAdd, readCells_blk kb (n := 3) (by simp)]
  refine callK_of (by kernel_rfl) (peaks_c _ _ cb (hgt rows) _ g hc) ?_
  rintro _ w5 ⟨la, lc, rfl, lo, lf, x5⟩
  simp (disch := omega) only [go_sem, Nat.reduceEqDiff, ↓reduceIte, Nat.reduceAdd, Try.results47]
  have e : peakListOf rows = peaksL rows.length (rowLen rows) (hgt rows) := by rw [peakListOf, if_pos hv]
  rw [e]
  exact ⟨la, lc, rfl, lo, fun b hb => Nat.le_trans s4 (lf b hb), x4.trans x5⟩

theorem specPeakList_c (a : Option Addr) (rows : List (List Int)) (A : Nat → Option Addr) (Cp : Nat → Nat) (gc : Nat) (w : World) (hr : RowsAt w a rows A Cp) :
    Ret Try.prog 90 #[.slice a rows.length gc] w fun v w' => Got1 w w' (ni (peakListOf rows)) v := by
  refine enter1 Try.func90 rfl (by kernel_rfl) (of_decide_eq_true (by kernel_rfl)) fun f a0 => ?_
  simp (disch := omega) only [go_sem, Nat.reduceEqDiff, ↓reduceIte, Nat.reduceAdd]
  refine bslK_0 elt_i fun w0 b0 e0 x0 o0 _ => ?_
  simp (disch := omega) only [go_sem, Nat.reduceEqDiff, ↓reduceIte, Nat.reduceAdd, a0]
  refine callK_pure (by kernel_rfl) (gridValid_c _ _ _ _ _ _ (hr.ext x0)) fun w1 x1 => ?_
  have x01 := x0.trans x1
  cases hv : gvalid rows with
  | false =>
    simp (disch := omega) only [go_sem, Nat.reduceEqDiff, ↓reduceIte, Nat.reduceAdd, Try.results90]
    exact ⟨_, _, by simp [peakListOf, hv, ni]; exact ⟨rfl, rfl⟩, by simpa [peakListOf, hv, ni, vi] using o0.ext x1, fun b hb => by simp [blk] at hb; omega, x01⟩
  | true =>
    have v := (gvalid_iff rows).1 hv
    have g := v.gd
    have hn49 := g.le
    obtain ⟨gb, go, rb, ro, rfl, -, hg⟩ := hr.grid v
    generalize hSd : peaksTo rows.length (rowLen rows) (hgt rows) = S
    simp (disch := omega) only [go_sem, Nat.reduceEqDiff, ↓reduceIte, Nat.reduceAdd]
    refine loopN (rows.length * rowLen rows) (fun k f W => f 0 = .slice (some ⟨gb, go, none⟩) rows.length gc ∧ (∃ b c, f 3 = .slice (some ⟨b, 0, none⟩) (S k).length c ∧ OwnS W 3 1 (some ⟨b, 0, none⟩) (S k).length c (vi (ni (S k))) ∧ w.heap.size ≤ b) ∧ f 4 = .int .i64 k ∧ Ext w W) ⟨(by first | assumption | (simp only [upd_apply, Nat.reduceEqDiff, ↓reduceIte] <;> first | rfl | assumption) | simp [upd_apply, *]), ⟨_, _, by rw [← hSd]; simp [upd_apply, peaksTo]; exact ⟨rfl, rfl⟩, by rw [← hSd]; simpa [peaksTo, vi, ni] using o0.ext x1, by omega⟩, (by first | assumption | (simp only [upd_apply, Nat.reduceEqDiff, ↓reduceIte] <;> first | rfl | assumption) | simp [upd_apply, *]), x01⟩ fun k f W hk ⟨a0, ⟨b, c, a3, o, hb⟩, a4, xw⟩ => ?_
    simp (disch := omega) only [go_sem, Nat.reduceEqDiff, ↓reduceIte, Nat.reduceAdd, a0, a4]
    refine callK_pure (by kernel_rfl) (l2Cells_c _ _ _ _ _ _ _ _ _ _ (hg.ext xw) v.r1 v.r7 v.c7) fun w2 x2 => ?_
    by_cases hlt : (k : Int) < (rows.length * rowLen rows : Nat)
    · have hkn : k < rows.length * rowLen rows := by omega
      have hlen : (S k).length ≤ k := by rw [← hSd]; exact peaksTo_len rows.length (rowLen rows) (hgt rows) k
      have hS1 : S (k + 1) = if peakB rows.length (rowLen rows) (hgt rows) k then insL (hgt rows) k (S k) else S k := by rw [← hSd, peaksTo]
      have hSm : ∀ x ∈ S k, x < rows.length * rowLen rows := fun x hx => by rw [← hSd] at hx; have := (mem_peaksTo.1 hx).1; omega
      simp (disch := omega) only [go_sem, Nat.reduceEqDiff, ↓reduceIte, Nat.reduceAdd, a0, a4, hlt]
      refine callK_pure (by kernel_rfl) (l4Peak_c gb go gc rb ro _ _ _ _ k _ ((hg.ext xw).ext x2) g.r7 g.c7 hkn) fun w3 x3 => ?_
      have x23 := x2.trans x3
      cases hpk : peakB rows.length (rowLen rows) (hgt rows) k with
      | false =>
        have e : S (k + 1) = S k := by rw [hS1, if_neg (by rw [hpk]; decide)]
        simp (disch := omega) only [go_sem, Nat.reduceEqDiff, ↓reduceIte, Nat.reduceAdd, a4]
        exact ⟨hkn, (by first | assumption | (simp only [upd_apply, Nat.reduceEqDiff, ↓reduceIte] <;> first | rfl | assumption) | simp [upd_apply, *]), ⟨b, c, by rw [e]; simp [upd_apply, a3], by rw [e]; exact o.ext x23, hb⟩, (by first | assumption | (simp only [upd_apply, Nat.reduceEqDiff, ↓reduceIte] <;> first | rfl | assumption) | simp [upd_apply, *]), xw.trans x23⟩
      | true =>
        have x3' : Ext W w3 := x23
        simp (disch := omega) only [go_sem, Nat.reduceEqDiff, ↓reduceIte, Nat.reduceAdd, a4]
        refine loopN (S k).length (fun j f V => f 0 = .slice (some ⟨gb, go, none⟩) rows.length gc ∧ f 3 = .slice (some ⟨b, 0, none⟩) (S k).length c ∧ f 4 = .int .i64 k ∧ f 5 = .int .i64 j ∧ (∀ s, s < j → hiB (hgt rows) ((S k).getD s 0) k = true) ∧ Ext w3 V) ⟨(by first | assumption | (simp only [upd_apply, Nat.reduceEqDiff, ↓reduceIte] <;> first | rfl | assumption) | simp [upd_apply, *]), (by first | assumption | (simp only [upd_apply, Nat.reduceEqDiff, ↓reduceIte] <;> first | rfl | assumption) | simp [upd_apply, *]), (by first | assumption | (simp only [upd_apply, Nat.reduceEqDiff, ↓reduceIte] <;> first | rfl | assumption) | simp [upd_apply, *]), (by first | assumption | (simp only [upd_apply, Nat.reduceEqDiff, ↓reduceIte] <;> first | rfl | assumption) | simp [upd_apply, *]), fun s hs => by omega, Ext.refl _⟩ fun j f V hj ⟨a0, a3, a4, a5, hpre, xV⟩ => ?_
        have xwV := (xw.trans x3').trans xV
        by_cases hjl : (j : Int) < (S k).length
        · have hjl' : j < (S k).length := by omega
          have g0 : V.cell? ⟨b, j, none⟩ = some (.int .i64 ((S k).getD j 0 : Nat)) := by rw [((o.ext x3').ext xV).cell (by omega), vi_get _ _ (by rw [ni_len]; omega), ni_get _ hjl']
          have hq : (S k).getD j 0 < rows.length * rowLen rows := hSm _ (getD_mem hjl')
          simp (disch := omega) only [go_sem, Nat.reduceEqDiff, ↓reduceIte, Nat.reduceAdd, a0, a3, a4, a5, hjl, g0]
          refine callK_pure (by kernel_rfl) (l4Higher_c gb go gc rb ro _ _ _ _ ((S k).getD j 0) k _ (hg.ext xwV) g.r7 g.c7 hq hkn) fun w4 x4 => ?_
          cases hh : hiB (hgt rows) ((S k).getD j 0) k with
          | true =>
            simp (disch := omega) only [go_sem, Nat.reduceEqDiff, ↓reduceIte, Nat.reduceAdd, a5]
            exact ⟨by omega, (by first | assumption | (simp only [upd_apply, Nat.reduceEqDiff, ↓reduceIte] <;> first | rfl | assumption) | simp [upd_apply, *]), (by first | assumption | (simp only [upd_apply, Nat.reduceEqDiff, ↓reduceIte] <;> first | rfl | assumption) | simp [upd_apply, *]), (by first | assumption | (simp only [upd_apply, Nat.reduceEqDiff, ↓reduceIte] <;> first | rfl | assumption) | simp [upd_apply, *]), (by first | assumption | (simp only [upd_apply, Nat.reduceEqDiff, ↓reduceIte] <;> first | rfl | assumption) | simp [upd_apply, *]), fun s hs => by
              by_cases e : s = j
              · subst e; exact hh
              · exact hpre s (by omega), xV.trans x4⟩
          | false =>
            have hcc := o.le_cap
            simp (disch := omega) only [go_sem, Nat.reduceEqDiff, ↓reduceIte, Nat.reduceAdd]
            refine bslK_0 elt_i fun w5 b5 e5 x5 o5 _ => ?_
            have x5w := (xwV.trans x4).trans x5
            have s5 := x5w.size
            have ogb : b < w5.heap.size ∧ b < b5 := by
              have h1 := ((o.ext x3').ext (xV.trans x4)).blk_lt (b := b) rfl
              have h2 := x5.size
              omega
            have og := (o.ext x3').ext (((xV.trans x4)).trans x5)
            simp (disch := omega) only [go_sem, Nat.reduceEqDiff, ↓reduceIte, Nat.reduceAdd, a3, a5]
            refine appK_of elt_i (by decide) o5 (m := j) (vi (ni ((S k).take j))) (by rw [vi_len, ni_len, List.length_take]; omega) (fun i u hu => ?_) (by simp [vi, Value.oneCell']) (by simp only [maxLen]; omega) (by omega) fun w6 a6 c6 o6 g6 h6 => ?_
            · have hi : i < ((S k).take j).length := by
                have := (List.getElem?_eq_some_iff.1 hu).1
                rwa [vi_len, ni_len] at this
              have hi2 : i < j ∧ i < (S k).length := by rw [List.length_take] at hi; omega
              rw [add_mk, Nat.zero_add, og.cell (by omega), ← hu, vi_get _ _ (by rw [ni_len]; omega), vi_get _ _ (by rw [ni_len]; omega), ni_get _ hi2.2, ni_get _ hi, getD_at _ _ hi2.2, getD_at _ _ hi, List.getElem_take]
            simp only [List.nil_append, Nat.zero_add] at o6 ⊢
            have og6 := og.grow g6 (fun b' hb' e => by have h1 : b = b' := (by simpa [blk] using hb'); have h2 : b5 = b' := (by simpa [blk] using e); omega)
            simp (disch := omega) only [go_sem, Nat.reduceEqDiff, ↓reduceIte, Nat.reduceAdd, a4]
            refine bslK_1 elt_i rfl fun w7 b7 e7 x7 k7 _ => ?_
            simp (disch := omega) only [go_sem, Nat.reduceEqDiff, ↓reduceIte, Nat.reduceAdd]
            refine appK_1 elt_i (o6.ext x7) k7 rfl (by omega) (.inl (by decide)) fun w8 a8 c8 o8 g8 h8 => ?_
            have s7 := x7.size
            have s6 := g6.size
            have s8 := g8.size
            have f6 : ∀ b', blk a6 = some b' → w5.heap.size ≤ b' ∨ b' = b5 := fun b' hb' => by
              rcases h6 b' hb' with e | e
              · simp [blk] at e; exact .inr e.symm
              · exact .inl e
            have f8 : ∀ b', blk a8 = some b' → w.heap.size ≤ b' ∧ b' ≠ b := fun b' hb' => by
              rcases h8 b' hb' with e | e
              · have := f6 b' e; omega
              · omega
            have og8 := (og6.ext x7).grow g8 (fun b' hb' e => by
              have := f6 b' e
              have h1 : b = b' := (by simpa [blk] using hb')
              omega)
            simp (disch := omega) only [go_sem, Nat.reduceEqDiff, ↓reduceIte, Nat.reduceAdd, a3, a4, a5]
            refine appK_of elt_i (by decide) o8 (m := (S k).length - j) (vi (ni ((S k).drop j))) (by rw [vi_len, ni_len, List.length_drop]; omega) (fun i u hu => ?_) (by simp [vi, Value.oneCell']) (by simp only [maxLen]; omega) (by omega) fun w9 a9 c9 o9 g9 h9 => ?_
            · have hi : i < ((S k).drop j).length := by
                have := (List.getElem?_eq_some_iff.1 hu).1
                rwa [vi_len, ni_len] at this
              have hi2 : j + i < (S k).length := by rw [List.length_drop] at hi; omega
              rw [if_neg (by omega), add_mk, og8.cell (by omega), ← hu, vi_get _ _ (by rw [ni_len]; omega), vi_get _ _ (by rw [ni_len]; omega), ni_get _ hi2, ni_get _ hi, getD_at _ _ hi2, getD_at _ _ hi, List.getElem_drop]
            have f9 : ∀ b', blk a9 = some b' → w.heap.size ≤ b' := fun b' hb' => by
              rcases h9 b' hb' with e | e
              · exact (f8 b' e).1
              · omega
            have el : S (k + 1) = (S k).take j ++ k :: (S k).drop j := by
              rw [hS1, if_pos hpk]
              exact insL_eq (by omega) hpre (fun hjk => hh)
            have eln : (S (k + 1)).length = j + 1 + ((S k).length - j) := by rw [el, List.length_append, List.length_cons, List.length_take, List.length_drop]; omega
            have elv : vi (ni (S (k + 1))) = vi (ni ((S k).take j)) ++ [.int .i64 (k : Int)] ++ vi (ni ((S k).drop j)) := by
              rw [el, vi_ni_snoc _ k _ rfl]; simp [vi, ni]
            have xx : Ext w w9 := g9.ext (g8.ext ((g6.ext x5w (fun b' hb' => by have h1 : b5 = b' := (by simpa [blk] using hb'); omega)).trans x7) (fun b' hb' => by have := f6 b' hb'; omega)) (fun b' hb' => (f8 b' hb').1)
            obtain ⟨b9, rfl⟩ := o9.some (by omega)
            simp (disch := omega) only [go_sem, Nat.reduceEqDiff, ↓reduceIte, Nat.reduceAdd, a4]
            refine ⟨hkn, (by first | assumption | (simp only [upd_apply, Nat.reduceEqDiff, ↓reduceIte] <;> first | rfl | assumption) | simp [upd_apply, *]), ⟨b9, c9, by rw [eln] <;> simp [upd_apply], by rw [eln, elv]; exact o9, f9 b9 rfl⟩, (by first | assumption | (simp only [upd_apply, Nat.reduceEqDiff, ↓reduceIte] <;> first | rfl | assumption) | simp [upd_apply, *]), xx⟩
        · have hje : j = (S k).length := by omega
          have hcc := o.le_cap
          simp (disch := omega) only [go_sem, Nat.reduceEqDiff, ↓reduceIte, Nat.reduceAdd, a3, a5, hjl]
          refine bslK_0 elt_i fun w5 b5 e5 x5 o5 _ => ?_
          have x5w := xwV.trans x5
          have s5 := x5w.size
          have ogb : b < w5.heap.size ∧ b < b5 := by
            have h1 := ((o.ext x3').ext xV).blk_lt (b := b) rfl
            have h2 := x5.size
            omega
          have og := (o.ext x3').ext ((xV).trans x5)
          simp (disch := omega) only [go_sem, Nat.reduceEqDiff, ↓reduceIte, Nat.reduceAdd, a3, a5]
          refine appK_of elt_i (by decide) o5 (m := j) (vi (ni ((S k).take j))) (by rw [vi_len, ni_len, List.length_take]; omega) (fun i u hu => ?_) (by simp [vi, Value.oneCell']) (by simp only [maxLen]; omega) (by omega) fun w6 a6 c6 o6 g6 h6 => ?_
          · have hi : i < ((S k).take j).length := by
              have := (List.getElem?_eq_some_iff.1 hu).1
              rwa [vi_len, ni_len] at this
            have hi2 : i < j ∧ i < (S k).length := by rw [List.length_take] at hi; omega
            rw [add_mk, Nat.zero_add, og.cell (by omega), ← hu, vi_get _ _ (by rw [ni_len]; omega), vi_get _ _ (by rw [ni_len]; omega), ni_get _ hi2.2, ni_get _ hi, getD_at _ _ hi2.2, getD_at _ _ hi, List.getElem_take]
          simp only [List.nil_append, Nat.zero_add] at o6 ⊢
          have og6 := og.grow g6 (fun b' hb' e => by have h1 : b = b' := (by simpa [blk] using hb'); have h2 : b5 = b' := (by simpa [blk] using e); omega)
          simp (disch := omega) only [go_sem, Nat.reduceEqDiff, ↓reduceIte, Nat.reduceAdd, a4]
          refine bslK_1 elt_i rfl fun w7 b7 e7 x7 k7 _ => ?_
          simp (disch := omega) only [go_sem, Nat.reduceEqDiff, ↓reduceIte, Nat.reduceAdd]
          refine appK_1 elt_i (o6.ext x7) k7 rfl (by omega) (.inl (by decide)) fun w8 a8 c8 o8 g8 h8 => ?_
          have s7 := x7.size
          have s6 := g6.size
          have s8 := g8.size
          have f6 : ∀ b', blk a6 = some b' → w5.heap.size ≤ b' ∨ b' = b5 := fun b' hb' => by
            rcases h6 b' hb' with e | e
            · simp [blk] at e; exact .inr e.symm
            · exact .inl e
          have f8 : ∀ b', blk a8 = some b' → w.heap.size ≤ b' ∧ b' ≠ b := fun b' hb' => by
            rcases h8 b' hb' with e | e
            · have := f6 b' e; omega
            · omega
          have og8 := (og6.ext x7).grow g8 (fun b' hb' e => by
            have := f6 b' e
            have h1 : b = b' := (by simpa [blk] using hb')
            omega)
          simp (disch := omega) only [go_sem, Nat.reduceEqDiff, ↓reduceIte, Nat.reduceAdd, a3, a4, a5]
          refine appK_of elt_i (by decide) o8 (m := (S k).length - j) (vi (ni ((S k).drop j))) (by rw [vi_len, ni_len, List.length_drop]; omega) (fun i u hu => ?_) (by simp [vi, Value.oneCell']) (by simp only [maxLen]; omega) (by omega) fun w9 a9 c9 o9 g9 h9 => ?_
          · have hi : i < ((S k).drop j).length := by
              have := (List.getElem?_eq_some_iff.1 hu).1
              rwa [vi_len, ni_len] at this
            have hi2 : j + i < (S k).length := by rw [List.length_drop] at hi; omega
            rw [if_neg (by omega), add_mk, og8.cell (by omega), ← hu, vi_get _ _ (by rw [ni_len]; omega), vi_get _ _ (by rw [ni_len]; omega), ni_get _ hi2, ni_get _ hi, getD_at _ _ hi2, getD_at _ _ hi, List.getElem_drop]
          have f9 : ∀ b', blk a9 = some b' → w.heap.size ≤ b' := fun b' hb' => by
            rcases h9 b' hb' with e | e
            · exact (f8 b' e).1
            · omega
          have el : S (k + 1) = (S k).take j ++ k :: (S k).drop j := by
            rw [hS1, if_pos hpk]
            exact insL_eq (by omega) hpre (fun hjk => by omega)
          have eln : (S (k + 1)).length = j + 1 + ((S k).length - j) := by rw [el, List.length_append, List.length_cons, List.length_take, List.length_drop]; omega
          have elv : vi (ni (S (k + 1))) = vi (ni ((S k).take j)) ++ [.int .i64 (k : Int)] ++ vi (ni ((S k).drop j)) := by
            rw [el, vi_ni_snoc _ k _ rfl]; simp [vi, ni]
          have xx : Ext w w9 := g9.ext (g8.ext ((g6.ext x5w (fun b' hb' => by have h1 : b5 = b' := (by simpa [blk] using hb'); omega)).trans x7) (fun b' hb' => by have := f6 b' hb'; omega)) (fun b' hb' => (f8 b' hb').1)
          obtain ⟨b9, rfl⟩ := o9.some (by omega)
          simp (disch := omega) only [go_sem, Nat.reduceEqDiff, ↓reduceIte, Nat.reduceAdd, a4]
          refine ⟨hkn, (by first | assumption | (simp only [upd_apply, Nat.reduceEqDiff, ↓reduceIte] <;> first | rfl | assumption) | simp [upd_apply, *]), ⟨b9, c9, by rw [eln] <;> simp [upd_apply], by rw [eln, elv]; exact o9, f9 b9 rfl⟩, (by first | assumption | (simp only [upd_apply, Nat.reduceEqDiff, ↓reduceIte] <;> first | rfl | assumption) | simp [upd_apply, *]), xx⟩
    · obtain rfl : k = rows.length * rowLen rows := by omega
      simp (disch := omega) only [go_sem, Nat.reduceEqDiff, ↓reduceIte, Nat.reduceAdd, a3, hlt, Try.results90]
      have e : peakListOf rows = S (rows.length * rowLen rows) := by rw [peakListOf, if_pos hv, peaksL, hSd]
      exact ⟨_, c, by rw [e, ni_len], by rw [e, ni_len]; exact o.ext x2, fun b' hb' => by simp [blk] at hb'; omega, xw.trans x2⟩
end Go.Proofs.Ytdlepfeckiahdaa
