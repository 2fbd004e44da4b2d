/- The law FnPeakMost: contract. -/
import Derived.Test.YtlnodngkacbfkaaQh
set_option linter.all false
set_option maxRecDepth 20000
namespace Go.SW
open Go Go.RowKit
section
variable {R C : Nat} {h : Nat → Int}
/-- Where all is land, there is a way from each cell to each. -/
theorem rch_zero {lv : Int} (hall : ∀ j, j < R * C → lv ≤ h j) : ∀ x, x < R * C → Rch R C h 0 lv x := by
  intro x
  induction x using Nat.strongRecOn with
  | _ x ih =>
    intro hx
    have hC : 0 < C := Nat.pos_of_ne_zero fun e => by subst e; simp at hx
    by_cases h0 : x = 0
    · subst h0; exact Rch.self (hall 0 hx)
    · by_cases hc : C ≤ x
      · have hy : x - C < R * C := by omega
        have hj : x - C ∈ nearN R C x := nearN_mem.2 (.inl ⟨hc, rfl⟩)
        exact (ih (x - C) (by omega) hy).edge hy ((near_sym hx hy).1 hj) (hall x hx)
      · have hy : x - 1 < R * C := by omega
        have hm : x % C = x := Nat.mod_eq_of_lt (by omega)
        have hj : x - 1 ∈ nearN R C x := nearN_mem.2 (.inr (.inr (.inr ⟨by omega, rfl⟩)))
        exact (ih (x - 1) (by omega) hy).edge hy ((near_sym hx hy).1 hj) (hall x hx)
theorem rch_all {lv : Int} (hall : ∀ j, j < R * C → lv ≤ h j) {a x : Nat} (ha : a < R * C) (hx : x < R * C) : Rch R C h a lv x := by
  have r1 := rch_zero hall a ha
  have r2 := rch_zero hall x hx
  exact ⟨r1.2.1, r2.2.1, r1.2.2.symm.trans r2.2.2⟩
theorem pass_min (g : Gd R C h) {a x : Nat} (ha : a < R * C) (hx : x < R * C) : mnN h (R * C) ≤ passN R C h a x := by
  obtain ⟨j, hj, e⟩ := mnN_at2 h (R * C) g.pos
  have h1 := g.hh j hj
  exact (pass_ok g ha hx (by omega)).2 (rch_all (fun i hi => mnN_le2 h _ i hi) ha hx)
theorem pass_lea (g : Gd R C h) {a x : Nat} (ha : a < R * C) (hx : x < R * C) : passN R C h a x ≤ h a ∧ passN R C h a x ≤ h x := by
  obtain ⟨j, hj, e⟩ := mnN_at2 h (R * C) g.pos
  have h1 := g.hh j hj
  have h2 := pass_min g ha hx
  have r := (pass_ok g ha hx (by omega : 0 ≤ passN R C h a x)).1 (Int.le_refl _)
  exact ⟨r.lea, r.lex⟩
theorem bestTo_ge (i : Nat) : ∀ k, ∀ j, j < k → hiB h j i = true → passN R C h i j ≤ bestTo R C h i k
  | k + 1, j, hj, hh => by
    simp only [bestTo]
    by_cases e : j = k
    · subst e; rw [if_pos hh]; omega
    · have := bestTo_ge i k j (by omega) hh
      split <;> omega
theorem bestTo_at (i : Nat) : ∀ k, bestTo R C h i k = -1 ∨ ∃ j, j < k ∧ hiB h j i = true ∧ bestTo R C h i k = passN R C h i j
  | 0 => .inl rfl
  | k + 1 => by
    simp only [bestTo]
    by_cases hh : hiB h k i = true
    · rw [if_pos hh]
      have hp := pass_ge R C h i k
      by_cases hm : bestTo R C h i k ≤ passN R C h i k
      · exact .inr ⟨k, by omega, hh, by omega⟩
      · rcases bestTo_at i k with e | ⟨j, hj, h1, h2⟩
        · omega
        · exact .inr ⟨j, by omega, h1, by omega⟩
    · rw [if_neg hh]
      rcases bestTo_at i k with e | ⟨j, hj, h1, h2⟩
      · exact .inl e
      · exact .inr ⟨j, by omega, h1, h2⟩
theorem keyN_ge (g : Gd R C h) {i : Nat} (hi : i < R * C) : mnN h (R * C) ≤ keyN R C h i := by
  rw [keyN]
  split
  · rename_i hb
    rcases bestTo_at (R := R) (C := C) (h := h) i (R * C) with e | ⟨j, hj, h1, h2⟩
    · omega
    · rw [h2]; exact pass_min g hi hj
  · omega
theorem keyN_le (g : Gd R C h) {i : Nat} (hi : i < R * C) : keyN R C h i ≤ h i := by
  rw [keyN]
  split
  · rename_i hb
    rcases bestTo_at (R := R) (C := C) (h := h) i (R * C) with e | ⟨j, hj, h1, h2⟩
    · omega
    · rw [h2]; exact (pass_lea g hi hj).1
  · exact mnN_le2 h _ i hi
theorem keyN_top {i : Nat} (ht : ∀ j, j < R * C → hiB h j i = false) : keyN R C h i = mnN h (R * C) := by
  rcases bestTo_at (R := R) (C := C) (h := h) i (R * C) with e | ⟨j, hj, h1, h2⟩
  · rw [keyN, if_neg (by omega)]
  · rw [ht j hj] at h1; cases h1
end
theorem mem_mostOf {rows : List (List Int)} {l : Int} {x : Nat} : x ∈ mostOf rows l ↔ x ∈ peakListOf rows ∧ l ≤ promN rows.length (rowLen rows) (hgt rows) x := by
  rw [mostOf, List.mem_filter, decide_eq_true_eq]
/-- The first of the prominent peaks is the first of all. -/
theorem most_first {rows : List (List Int)} (hv : gvalid rows = true) {l : Int} (hne : 0 < (mostOf rows l).length) : (mostOf rows l).getD 0 0 = (peakListOf rows).getD 0 0 := by
  have g := ((gvalid_iff rows).1 hv).gd
  obtain ⟨x, lt, hpx, hxn, hxm, htop⟩ := peaks_top g
  have hP : peakListOf rows = x :: lt := by rw [peakListOf, if_pos hv, hpx]
  obtain ⟨y, hy⟩ := List.exists_mem_of_length_pos hne
  obtain ⟨h1, h2⟩ := mem_mostOf.1 hy
  have hyn : y < rows.length * rowLen rows := by
    rw [peakListOf, if_pos hv] at h1; exact (mem_peaksTo.1 h1).1
  have h3 := keyN_ge g hyn
  have h4 := mxN_ge (hgt rows) _ y hyn
  have h5 : l ≤ promN rows.length (rowLen rows) (hgt rows) x := by
    rw [promN, keyN_top htop, hxm]
    rw [promN] at h2
    omega
  rw [mostOf, hP, List.filter_cons, if_pos (decide_eq_true h5)]
  rfl
end Go.SW
namespace Go.Proofs.Ytlnodngkacbfkaa
open Go.RowKit Go.SW

theorem drawPeakMost_c (a : Option Addr) (l : List Int) (c : Nat) (w : World) (hl : l.length ≤ c) (hc : c ≤ maxLen) (hs : ByteS w a l) :
    Ret Try.prog 49 #[.slice a l.length c] w fun v w' => ∃ a c rows A Cp least, v = .tuple #[.slice a rows.length c, .int .i64 least] ∧ -1 ≤ least ∧ least ≤ 8 ∧ RowsAt w' a rows A Cp ∧ Ext w w' := by
  refine enter1 Try.func49 rfl (by kernel_rfl) (of_decide_eq_true (by kernel_rfl)) fun f a0 => ?_
  simp (disch := omega) only [go_sem, Nat.reduceEqDiff, ↓reduceIte, Nat.reduceAdd, a0]
  refine callK_of (by kernel_rfl) (l6Open_c _ _ _ _ hl hc hs) ?_
  rintro _ w1 ⟨rb, rfl, x1, hrb, r1, e1⟩
  simp (disch := omega) only [go_sem, Nat.reduceEqDiff, ↓reduceIte, Nat.reduceAdd]
  refine callK_of (by kernel_rfl) (l91Grid_c rb _ 0 _ r1 (by omega) (by omega)) ?_
  rintro _ w2 ⟨a, c, rows, A, Cp, R, rfl, hR1, hR5, d, g, r2⟩
  simp (disch := omega) only [go_sem, Nat.reduceEqDiff, ↓reduceIte, Nat.reduceAdd]
  refine callK_of (by kernel_rfl) (pick_c rb _ _ 9 _ r2 (by omega) (by omega)) ?_
  rintro _ w3 ⟨k, rfl, hk, g3, r3⟩
  simp (disch := omega) only [go_sem, Nat.reduceEqDiff, ↓reduceIte, Nat.reduceAdd, Try.results49]
  have d3 := d.other g3 fun b hb => by simp at hb; omega
  exact ⟨a, c, rows, A, Cp, (k : Int) - 1, rfl, by omega, by omega, d3.at (by omega), (g.trans g3).ext x1 fun b hb => by simp at hb; omega⟩

theorem mostLaw_c (a : Option Addr) (l : List Int) (c : Nat) (w : World) (hl : l.length ≤ c) (hc : c ≤ maxLen) (hs : ByteS w a l) :
    Ret Try.prog 12 #[.slice a l.length c] w fun v w' => v = .bool true ∧ Ext w w' := by
  have hmax := maxLen_le (Nat.le_trans hl hc)
  refine enter1 Try.func12 rfl (by kernel_rfl) (of_decide_eq_true (by kernel_rfl)) fun f a0 => ?_
  by_cases hbig : (1048576 : Int) < l.length
  · simp (disch := omega) only [go_sem, Nat.reduceEqDiff, ↓reduceIte, Nat.reduceAdd, a0, hbig, Try.results12]
    exact ⟨trivial, Ext.refl _⟩
  simp (disch := omega) only [go_sem, Nat.reduceEqDiff, ↓reduceIte, Nat.reduceAdd, a0, hbig]
  refine callK_of (by kernel_rfl) (drawPeakMost_c _ _ _ _ hl hc hs) ?_
  rintro _ w1 ⟨ga, gc, rows, A, Cp, least, rfl, hl1, hl2, hr, x1⟩
  simp (disch := omega) only [go_sem, Nat.reduceEqDiff, ↓reduceIte, Nat.reduceAdd]
  refine callK_of (by kernel_rfl) (implPeakMost_c _ _ _ _ _ _ _ hr) ?_
  rintro _ w2 ⟨oa, oc, rfl, oo, of, x2⟩
  simp (disch := omega) only [go_sem, Nat.reduceEqDiff, ↓reduceIte, Nat.reduceAdd]
  refine callK_of (by kernel_rfl) (specPeakMost_c _ _ _ _ _ _ _ (hr.ext x2)) ?_
  rintro _ w3 ⟨sa, sc, rfl, so, sf, x3⟩
  have hde : decide (ni (mostOf rows least) = ni (mostOf rows least)) = true := decide_eq_true rfl
  have hmx : (ni (mostOf rows least)).length ≤ maxLen := by have := mostOf_short rows least; simp only [maxLen]; omega
  have hmx2 : (ni (mostOf rows (least + 1))).length ≤ maxLen := by have := mostOf_short rows (least + 1); simp only [maxLen]; omega
  simp (disch := omega) only [go_sem, Nat.reduceEqDiff, ↓reduceIte, Nat.reduceAdd]
  refine callK_pure (by kernel_rfl) (sameInts_c _ _ _ _ _ _ _ (oo.ints.ext x3) so.ints hmx) fun w4 x4 => ?_
  have x24 := (x2.trans x3).trans x4
  have x14 := x1.trans x24
  by_cases hl0 : (((ni (mostOf rows least)).length : Int) == 0) = true
  · simp (disch := omega) only [go_sem, Nat.reduceEqDiff, ↓reduceIte, Nat.reduceAdd, hde, hl0]
    refine callK_pure (by kernel_rfl) (sameInts_c _ _ _ _ _ _ _ ((oo.ints.ext x3).ext x4) (so.ints.ext x4) hmx) fun w5 x5 => ?_
    simp (disch := omega) only [go_sem, Nat.reduceEqDiff, ↓reduceIte, Nat.reduceAdd, hde, Try.results12]
    exact ⟨trivial, x14.trans x5⟩
  · have hl0 : (((ni (mostOf rows least)).length : Int) == 0) = false := by simpa using hl0
    have hv : gvalid rows = true := by
      cases e : gvalid rows with
      | true => rfl
      | false => simp [mostOf, peakListOf, e, ni] at hl0
    have v := (gvalid_iff rows).1 hv
    have g := v.gd
    have hn49 := g.le
    have hopos : 0 < (ni (mostOf rows least)).length := by
      have := beq_eq_false_iff_ne.1 hl0; omega
    have hopos2 : 0 < (mostOf rows least).length := by rw [ni_len] at hopos; exact hopos
    have hfirst := most_first hv hopos2
    have hPl := peakListOf_len rows
    have hppos : 0 < (peakListOf rows).length := Nat.lt_of_lt_of_le hopos2 (List.length_filter_le _ _)
    have hnpos : 0 < (ni (peakListOf rows)).length := by rw [ni_len]; exact hppos
    have hPn : ∀ x ∈ peakListOf rows, x < rows.length * rowLen rows := fun x hx => by rw [peakListOf, if_pos hv] at hx; exact (mem_peaksTo.1 hx).1
    have hr4 := hr.ext x24
    have o4 := (oo.ext x3).ext x4
    simp (disch := omega) only [go_sem, Nat.reduceEqDiff, ↓reduceIte, Nat.reduceAdd, hde, hl0]
    refine callK_of (by kernel_rfl) (peakList_c _ _ _ _ _ _ hr4) ?_
    rintro _ w5 ⟨pa, pc, rfl, po, pf, x5⟩
    simp (disch := omega) only [go_sem, Nat.reduceEqDiff, ↓reduceIte, Nat.reduceAdd]
    refine callK_of (by kernel_rfl) (implPeakMost_c _ _ _ _ _ (least + 1) _ (hr4.ext x5)) ?_
    rintro _ w6 ⟨fa, fc, rfl, fo, ff, x6⟩
    obtain ⟨pb, rfl⟩ := po.some (by omega)
    obtain ⟨ob, rfl⟩ := o4.some (by omega)
    have po6 := po.ext x6
    have o6 := (o4.ext x5).ext x6
    have hr6 := (hr4.ext x5).ext x6
    simp (disch := omega) only [go_sem, Nat.reduceEqDiff, ↓reduceIte, Nat.reduceAdd]
    refine loopN (peakListOf rows).length (fun k f W => f 3 = .slice ga rows.length gc ∧ f 4 = .int .i64 least ∧ f 5 = .slice (some ⟨ob, 0, none⟩) (ni (mostOf rows least)).length oc ∧ f 7 = .slice (some ⟨pb, 0, none⟩) (ni (peakListOf rows)).length pc ∧ f 8 = .slice fa (ni (mostOf rows (least + 1))).length fc ∧ f 9 = .int .i64 k ∧ Ext w6 W) ⟨(by first | assumption | (simp only [upd_apply, Nat.reduceEqDiff, ↓reduceIte] <;> first | rfl | assumption) | simp [upd_apply, *]), (by first | assumption | (simp only [upd_apply, Nat.reduceEqDiff, ↓reduceIte] <;> first | rfl | assumption) | simp [upd_apply, *]), (by first | assumption | (simp only [upd_apply, Nat.reduceEqDiff, ↓reduceIte] <;> first | rfl | assumption) | simp [upd_apply, *]), (by first | assumption | (simp only [upd_apply, Nat.reduceEqDiff, ↓reduceIte] <;> first | rfl | assumption) | simp [upd_apply, *]), (by first | assumption | (simp only [upd_apply, Nat.reduceEqDiff, ↓reduceIte] <;> first | rfl | assumption) | simp [upd_apply, *]), (by first | assumption | (simp only [upd_apply, Nat.reduceEqDiff, ↓reduceIte] <;> first | rfl | assumption) | simp [upd_apply, *]), Ext.refl _⟩ fun k f W hk ⟨a3, a4, a5, a7, a8, a9, xW⟩ => ?_
    by_cases hlt : (k : Int) < (ni (peakListOf rows)).length
    · have hkl : k < (peakListOf rows).length := by rw [ni_len] at hlt; omega
      have cell : ∀ U, Ext w6 U → U.cell? ⟨pb, k, none⟩ = some (.int .i64 ((peakListOf rows).getD k 0 : Nat)) := fun U e => by rw [(po6.ext e).cell (by rw [ni_len]; omega), vi_get _ _ (by rw [ni_len]; omega), ni_get _ hkl]
      have hm := getD_mem (d := 0) hkl
      generalize (peakListOf rows).getD k 0 = x at *
      have hpx : promOf rows (x : Int) = promN rows.length (rowLen rows) (hgt rows) x := by
        have := mem_peakListOf.1 hm
        simp [promOf, this]
      have e1 : decide ((x : Int) ∈ ni (mostOf rows least)) = decide (least ≤ promN rows.length (rowLen rows) (hgt rows) x) := by
        rw [Bool.eq_iff_iff, decide_eq_true_eq, decide_eq_true_eq, mem_ni, mem_mostOf]
        exact ⟨fun h => h.2, fun h => ⟨hm, h⟩⟩
      have e2 : decide ((x : Int) ∈ ni (mostOf rows (least + 1))) = true → decide (least ≤ promN rows.length (rowLen rows) (hgt rows) x) = true := by
        rw [decide_eq_true_eq, decide_eq_true_eq, mem_ni, mem_mostOf]
        exact fun h => by have := h.2; omega
      have g0 := cell _ xW
      have hbeq : (!(decide (least ≤ promN rows.length (rowLen rows) (hgt rows) x) == decide (least ≤ promN rows.length (rowLen rows) (hgt rows) x))) = false := by rw [beq_self_eq_true]; rfl
      simp (disch := omega) only [go_sem, Nat.reduceEqDiff, ↓reduceIte, Nat.reduceAdd, a7, a9, hlt]
      refine QR_of (by kernel_rfl) (by kernel_rfl) ?_
      simp (disch := omega) only [go_sem, Nat.reduceEqDiff, ↓reduceIte, Nat.reduceAdd, a3, a4, a5, a7, a8, a9, g0]
      refine callK_q (by kernel_rfl) (fun w' e => hasInt_c _ _ _ (x : Int) _ ((o6.ext xW).ext e).ints hmx) ?_
      simp (disch := omega) only [go_sem, Nat.reduceEqDiff, ↓reduceIte, Nat.reduceAdd, a3, a4, a7, a9, g0]
      refine callK_q (by kernel_rfl) (fun w' e => implPeakProminence_c _ _ _ _ _ (x : Int) _ ((hr6.ext xW).ext e)) ?_
      simp (disch := omega) only [go_sem, Nat.reduceEqDiff, ↓reduceIte, Nat.reduceAdd, e1, hpx, a4, hbeq, a7, a8, a9, g0]
      refine callK_q (by kernel_rfl) (fun w' e => hasInt_c _ _ _ (x : Int) _ (((fo.ext xW)).ext e).ints hmx2) ?_
      cases hf : decide ((x : Int) ∈ ni (mostOf rows (least + 1))) with
      | false =>
        simp (disch := omega) only [go_sem, Nat.reduceEqDiff, ↓reduceIte, Nat.reduceAdd]
        intro W1 y1
        simp (disch := omega) only [go_sem, Nat.reduceEqDiff, ↓reduceIte, Nat.reduceAdd, a9]
        exact ⟨hkl, (by first | assumption | (simp only [upd_apply, Nat.reduceEqDiff, ↓reduceIte] <;> first | rfl | assumption) | simp [upd_apply, *]), (by first | assumption | (simp only [upd_apply, Nat.reduceEqDiff, ↓reduceIte] <;> first | rfl | assumption) | simp [upd_apply, *]), (by first | assumption | (simp only [upd_apply, Nat.reduceEqDiff, ↓reduceIte] <;> first | rfl | assumption) | simp [upd_apply, *]), (by first | assumption | (simp only [upd_apply, Nat.reduceEqDiff, ↓reduceIte] <;> first | rfl | assumption) | simp [upd_apply, *]), (by first | assumption | (simp only [upd_apply, Nat.reduceEqDiff, ↓reduceIte] <;> first | rfl | assumption) | simp [upd_apply, *]), (by first | assumption | (simp only [upd_apply, Nat.reduceEqDiff, ↓reduceIte] <;> first | rfl | assumption) | simp [upd_apply, *]), xW.trans y1⟩
      | true =>
        simp (disch := omega) only [go_sem, Nat.reduceEqDiff, ↓reduceIte, Nat.reduceAdd, a5, a7, a9, g0]
        refine callK_q (by kernel_rfl) (fun w' e => hasInt_c _ _ _ (x : Int) _ ((o6.ext xW).ext e).ints hmx) ?_
        simp (disch := omega) only [go_sem, Nat.reduceEqDiff, ↓reduceIte, Nat.reduceAdd, e1, e2 hf, Bool.not_true]
        intro W1 y1
        simp (disch := omega) only [go_sem, Nat.reduceEqDiff, ↓reduceIte, Nat.reduceAdd, a9]
        exact ⟨hkl, (by first | assumption | (simp only [upd_apply, Nat.reduceEqDiff, ↓reduceIte] <;> first | rfl | assumption) | simp [upd_apply, *]), (by first | assumption | (simp only [upd_apply, Nat.reduceEqDiff, ↓reduceIte] <;> first | rfl | assumption) | simp [upd_apply, *]), (by first | assumption | (simp only [upd_apply, Nat.reduceEqDiff, ↓reduceIte] <;> first | rfl | assumption) | simp [upd_apply, *]), (by first | assumption | (simp only [upd_apply, Nat.reduceEqDiff, ↓reduceIte] <;> first | rfl | assumption) | simp [upd_apply, *]), (by first | assumption | (simp only [upd_apply, Nat.reduceEqDiff, ↓reduceIte] <;> first | rfl | assumption) | simp [upd_apply, *]), (by first | assumption | (simp only [upd_apply, Nat.reduceEqDiff, ↓reduceIte] <;> first | rfl | assumption) | simp [upd_apply, *]), xW.trans y1⟩
    · have c1 : W.cell? ⟨ob, 0, none⟩ = some (.int .i64 ((mostOf rows least).getD 0 0 : Nat)) := by rw [(o6.ext xW).cell (by omega), vi_get _ _ hopos, ni_get _ hopos2]
      have c2 : W.cell? ⟨pb, 0, none⟩ = some (.int .i64 ((peakListOf rows).getD 0 0 : Nat)) := by rw [(po6.ext xW).cell (by omega), vi_get _ _ hnpos, ni_get _ hppos]
      rw [hfirst] at c1
      simp (disch := omega) only [go_sem, Nat.reduceEqDiff, ↓reduceIte, Nat.reduceAdd, a7, a9, hlt]
      refine QR_of (by kernel_rfl) (by kernel_rfl) ?_
      simp (disch := omega) only [go_sem, Nat.reduceEqDiff, ↓reduceIte, Nat.reduceAdd, a5, a7, c1, c2, beq_self_eq_true]
      intro W1 y1
      simp (disch := omega) only [go_sem, Nat.reduceEqDiff, ↓reduceIte, Nat.reduceAdd, Try.results12]
      exact ⟨trivial, (((x14.trans x5).trans x6).trans xW).trans y1⟩
end Go.Proofs.Ytlnodngkacbfkaa
