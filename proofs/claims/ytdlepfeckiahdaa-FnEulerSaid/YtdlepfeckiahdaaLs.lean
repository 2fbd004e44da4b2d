/- The level laws FnSides and FnShore: each returns true, and nothing that was there is written. -/
import Derived.Test.YtdlepfeckiahdaaM5
import Derived.Test.YtdlepfeckiahdaaLb
set_option linter.all false
namespace Go.Proofs.Ytdlepfeckiahdaa
open Go.RowKit Go.SW
theorem mkAt {w : World} {eo ei B b R C : Nat} {h : Nat → Int} {A : Nat → Option Addr} (o : OwnRows w eo ei B b (mkRows R C h) A) (hR1 : 1 ≤ R) (hR : R ≤ 7) (hC1 : 1 ≤ C) (hC : C ≤ 7) (hh : ∀ i, i < R * C → 0 ≤ h i ∧ h i ≤ 99) :
    Valid (mkRows R C h) ∧ RowsAt w (some ⟨b, 0, none⟩) (mkRows R C h) A (fun r => ((mkRows R C h).getD r []).length) := by
  have vi := mkRows_valid (h := h) hR1 hR hC1 hC hh
  have hrow : ∀ l ∈ mkRows R C h, l.length ≤ 7 ∧ ∀ x ∈ l, 0 ≤ x ∧ x ≤ 99 := fun l hl => by
    obtain ⟨r, hr, rfl⟩ := List.getElem_of_mem hl
    have e := getD_at _ [] hr
    have hlen := vi.len r hr
    rw [e] at hlen
    refine ⟨by rw [hlen]; exact vi.c7, fun x hx => ?_⟩
    obtain ⟨c, hc, rfl⟩ := List.getElem_of_mem hx
    have := vi.cell r c hr (by rw [← hlen]; exact hc)
    rw [e, getD_at _ _ hc] at this
    exact this
  exact ⟨vi, o.at (fun l hl x hx => by have := (hrow l hl).2 x hx; simp [I64]; omega) (by rw [mkRows_len]; simp [maxLen]; omega) (fun l hl => by have := (hrow l hl).1; simp [maxLen]; omega)⟩
def DrawnL (w w' : World) (v : Value) : Prop := ∃ a c rows A Cp lv, v = .tuple #[.slice a rows.length c, .int .i64 lv] ∧ -2 ≤ lv ∧ lv ≤ 102 ∧ RowsAt w' a rows A Cp ∧ Ext w w'

/-! ## turned and mirrored grids -/
def turned (rows : List (List Int)) : List (List Int) := mkRows (rowLen rows) rows.length (turnH rows.length (rowLen rows) (hgt rows))
def mirrored (rows : List (List Int)) : List (List Int) := mkRows rows.length (rowLen rows) (mirrorH (rowLen rows) (hgt rows))
theorem turned_len (rows : List (List Int)) : (turned rows).length = rowLen rows := mkRows_len _ _ _
theorem mirrored_len (rows : List (List Int)) : (mirrored rows).length = rows.length := mkRows_len _ _ _
theorem turned_ok {rows : List (List Int)} (v : Valid rows) {lv : Int} (hv : lvok rows lv = true) : Valid (turned rows) ∧ lvok (turned rows) lv = true ∧ rowLen (turned rows) = rows.length ∧ ∀ i, i < rowLen rows * rows.length → hgt (turned rows) i = hgt rows (turnS rows.length (rowLen rows) i) := by
  have g := v.gd
  have vi := mkRows_valid (h := turnH rows.length (rowLen rows) (hgt rows)) g.c1 g.c7 g.r1 g.r7 (fun i hi => g.hh _ (turn_idx hi))
  obtain ⟨_, h1⟩ := lv_parts hv
  exact ⟨vi, by simp [lvok, turned, (gvalid_iff _).2 vi]; exact h1, mkRows_rowLen g.c1, fun i hi => mkRows_hgt g.c1 hi⟩
theorem mirrored_ok {rows : List (List Int)} (v : Valid rows) {lv : Int} (hv : lvok rows lv = true) : Valid (mirrored rows) ∧ lvok (mirrored rows) lv = true ∧ rowLen (mirrored rows) = rowLen rows ∧ ∀ i, i < rows.length * rowLen rows → hgt (mirrored rows) i = hgt rows (mirS (rowLen rows) i) := by
  have g := v.gd
  have vi := mkRows_valid (h := mirrorH (rowLen rows) (hgt rows)) g.r1 g.r7 g.c1 g.c7 (fun i hi => g.hh _ (mirror_idx hi))
  obtain ⟨_, h1⟩ := lv_parts hv
  exact ⟨vi, by simp [lvok, mirrored, (gvalid_iff _).2 vi]; exact h1, mkRows_rowLen g.r1, fun i hi => mkRows_hgt g.r1 hi⟩
theorem turn_c (a : Option Addr) (rows : List (List Int)) (A : Nat → Option Addr) (Cp : Nat → Nat) (gc : Nat) (w : World) (hr : RowsAt w a rows A Cp) (hv : gvalid rows = true) :
    Ret Try.prog 36 #[.slice a rows.length gc] w fun v w' => ∃ b A' Cp', v = .tuple #[.slice b (turned rows).length (rowLen rows), .bool true] ∧ Ext w w' ∧ RowsAt w' b (turned rows) A' Cp' := by
  have g := ((gvalid_iff rows).1 hv).gd
  refine (gridTurn_c a rows A Cp gc w hr hv).mono fun v w' ⟨b, A', e, x, o⟩ => ⟨_, _, _, ?_, x, (mkAt o g.c1 g.c7 g.r1 g.r7 (fun i hi => g.hh _ (turn_idx hi))).2⟩
  rw [turned_len]; exact e
theorem mirror_c (a : Option Addr) (rows : List (List Int)) (A : Nat → Option Addr) (Cp : Nat → Nat) (gc : Nat) (w : World) (hr : RowsAt w a rows A Cp) (hv : gvalid rows = true) :
    Ret Try.prog 30 #[.slice a rows.length gc] w fun v w' => ∃ b A' Cp', v = .tuple #[.slice b (mirrored rows).length rows.length, .bool true] ∧ Ext w w' ∧ RowsAt w' b (mirrored rows) A' Cp' := by
  have g := ((gvalid_iff rows).1 hv).gd
  refine (gridMirror_c a rows A Cp gc w hr hv).mono fun v w' ⟨b, A', e, x, o⟩ => ⟨_, _, _, ?_, x, (mkAt o g.r1 g.r7 g.c1 g.c7 (fun i hi => g.hh _ (mirror_idx hi))).2⟩
  rw [mirrored_len]; exact e

theorem drawLevelSides_c (a : Option Addr) (l : List Int) (c : Nat) (w : World) (hl : l.length ≤ c) (hc : c ≤ maxLen) (hs : ByteS w a l) :
    Ret Try.prog 27 #[.slice a l.length c] w fun v w' => DrawnL w w' v := by
  refine enter1 Try.func27 rfl (by kernel_rfl) (of_decide_eq_true (by kernel_rfl)) fun f a0 => ?_
  simp (disch := omega) only [go_sem, Nat.reduceEqDiff, ↓reduceIte, Nat.reduceAdd, a0]
  refine callK_of (by kernel_rfl) (l6Open_c _ _ _ _ hl hc hs) ?_
  rintro _ w1 ⟨rb, rfl, x1, hrb, r1, e1⟩
  simp (disch := omega) only [go_sem, Nat.reduceEqDiff, ↓reduceIte, Nat.reduceAdd]
  refine callK_of (by kernel_rfl) (l91Level_c rb _ 0 _ r1 (by omega) (by omega)) ?_
  rintro _ w2 ⟨a, c, rows, A, Cp, R, lv, rfl, hR1, hR5, hl1, hl2, d, g, r2⟩
  simp (disch := omega) only [go_sem, Nat.reduceEqDiff, ↓reduceIte, Nat.reduceAdd, Try.results27]
  exact ⟨a, c, rows, A, Cp, lv, rfl, hl1, hl2, d.at (by omega), g.ext x1 fun b hb => by simp at hb; omega⟩

theorem drawLevelShore_c (a : Option Addr) (l : List Int) (c : Nat) (w : World) (hl : l.length ≤ c) (hc : c ≤ maxLen) (hs : ByteS w a l) :
    Ret Try.prog 33 #[.slice a l.length c] w fun v w' => DrawnL w w' v := by
  refine enter1 Try.func33 rfl (by kernel_rfl) (of_decide_eq_true (by kernel_rfl)) fun f a0 => ?_
  simp (disch := omega) only [go_sem, Nat.reduceEqDiff, ↓reduceIte, Nat.reduceAdd, a0]
  refine callK_of (by kernel_rfl) (l6Open_c _ _ _ _ hl hc hs) ?_
  rintro _ w1 ⟨rb, rfl, x1, hrb, r1, e1⟩
  simp (disch := omega) only [go_sem, Nat.reduceEqDiff, ↓reduceIte, Nat.reduceAdd]
  refine callK_of (by kernel_rfl) (l91Level_c rb _ 0 _ r1 (by omega) (by omega)) ?_
  rintro _ w2 ⟨a, c, rows, A, Cp, R, lv, rfl, hR1, hR5, hl1, hl2, d, g, r2⟩
  simp (disch := omega) only [go_sem, Nat.reduceEqDiff, ↓reduceIte, Nat.reduceAdd, Try.results33]
  exact ⟨a, c, rows, A, Cp, lv, rfl, hl1, hl2, d.at (by omega), g.ext x1 fun b hb => by simp at hb; omega⟩


theorem sides_law_c (a : Option Addr) (l : List Int) (c : Nat) (w : World) (hl : l.length ≤ c) (hc : c ≤ maxLen) (hs : ByteS w a l) :
    Ret Try.prog 6 #[.slice a l.length c] w fun v w' => v = .bool true ∧ Ext w w' := by
  have hmax := maxLen_le (Nat.le_trans hl hc)
  refine enter1 Try.func6 rfl (by kernel_rfl) (of_decide_eq_true (by kernel_rfl)) fun f a0 => ?_
  by_cases hbig : (1048576 : Int) < l.length
  · simp (disch := omega) only [go_sem, Nat.reduceEqDiff, ↓reduceIte, Nat.reduceAdd, a0, hbig, Try.results6]
    exact ⟨trivial, Ext.refl _⟩
  simp (disch := omega) only [go_sem, Nat.reduceEqDiff, ↓reduceIte, Nat.reduceAdd, a0, hbig]
  refine callK_of (by kernel_rfl) (drawLevelSides_c _ _ _ _ hl hc hs) ?_
  rintro _ w1 ⟨ga, gc, rows, A, Cp, lv, rfl, hl1, hl2, hr, x1⟩
  simp (disch := omega) only [go_sem, Nat.reduceEqDiff, ↓reduceIte, Nat.reduceAdd]
  refine callK_of (by kernel_rfl) (implLevelSides_c _ _ _ _ _ _ _ hr) ?_
  rintro _ w2 ⟨rfl, x2⟩
  simp (disch := omega) only [go_sem, Nat.reduceEqDiff, ↓reduceIte, Nat.reduceAdd]
  refine callK_of (by kernel_rfl) (specLevelSides_c _ _ _ _ _ _ _ (hr.ext x2)) ?_
  rintro _ w3 ⟨rfl, x3⟩
  have hne : (sidesOf rows lv != sidesOf rows lv) = false := bne_self_eq_false _
  have x13 := (x1.trans x2).trans x3
  have r3 := (hr.ext x2).ext x3
  cases hv : lvok rows lv with
  | false =>
    have hlt : sidesOf rows lv < 0 := by simp [sidesOf, hv]
    simp (disch := omega) only [go_sem, Nat.reduceEqDiff, ↓reduceIte, Nat.reduceAdd, hne, hlt, beq_self_eq_true, Try.results6]
    exact ⟨trivial, x13⟩
  | true =>
    obtain ⟨hgv, hl0, hl99⟩ := lv_parts hv
    have v := (gvalid_iff rows).1 hgv
    have hn49 := v.gd.le
    have hpos := v.gd.pos
    have hc1 := v.gd.c1
    have hout : sidesOf rows lv = (sidesTo rows.length (rowLen rows) (hgt rows) lv (rows.length * rowLen rows) : Nat) := by simp [sidesOf, hv]
    have hnn : ¬ sidesOf rows lv < 0 := by omega
    have hb := sidesTo_le rows.length (rowLen rows) (hgt rows) lv (rows.length * rowLen rows)
    have hp := sides_pair (R := rows.length) (h := hgt rows) (lv := lv) hc1
    have hp' := sides_pair (R := rows.length) (h := hgt rows) (lv := lv + 1) hc1
    have hle := pairN_le (R := rows.length) (P := landB (hgt rows) lv) hc1
    have hmo := pairN_mono (R := rows.length) (C := rowLen rows) (P := landB (hgt rows) (lv + 1)) (Q := landB (hgt rows) lv) (fun i h => by simp only [landB, decide_eq_true_eq] at h ⊢; omega)
    have hland : landOf rows lv = (cntp (fun i => lv ≤ hgt rows i) (rows.length * rowLen rows) : Nat) := by simp [landOf, hv]
    have hcl := cntp_le (fun i => lv ≤ hgt rows i) (rows.length * rowLen rows)
    have hce : cntp (fun i => landB (hgt rows) lv i = true) (rows.length * rowLen rows) = cntp (fun i => lv ≤ hgt rows i) (rows.length * rowLen rows) := cntp_congr fun i _ => by simp [landB]
    have hm2 : sidesOf rows lv ≤ 2 * landOf rows lv := by omega
    have hm3 : sidesOf rows (lv + 1) ≤ sidesOf rows lv := by
      rw [hout]; simp only [sidesOf]; split <;> omega
    obtain ⟨vm, lm, cm, hm⟩ := mirrored_ok v hv
    have hsym : sidesOf (mirrored rows) lv = sidesOf rows lv := by
      rw [hout]; simp only [sidesOf, lm, if_true, mirrored_len, cm]
      rw [sides_sym (mir_sym rows.length (rowLen rows)) hc1 hc1 hm]
    have heq : (sidesOf rows lv == sidesOf rows lv) = true := beq_self_eq_true _
    simp (disch := omega) only [go_sem, Nat.reduceEqDiff, ↓reduceIte, Nat.reduceAdd, hne, hnn]
    refine callK_of (by kernel_rfl) (mirror_c _ _ _ _ _ _ r3 hgv) ?_
    rintro _ w4 ⟨b, A', Cp', rfl, x4, rm⟩
    have r4 := r3.ext x4
    simp (disch := omega) only [go_sem, Nat.reduceEqDiff, ↓reduceIte, Nat.reduceAdd]
    refine callK_of (by kernel_rfl) (implLevelSides_c _ _ _ _ _ _ _ rm) ?_
    rintro _ w5 ⟨rfl, x5⟩
    simp (disch := omega) only [go_sem, Nat.reduceEqDiff, ↓reduceIte, Nat.reduceAdd, hsym, heq]
    refine callK_of (by kernel_rfl) (implLevelLand_c _ _ _ _ _ _ _ (r4.ext x5)) ?_
    rintro _ w6 ⟨rfl, x6⟩
    simp (disch := omega) only [go_sem, Nat.reduceEqDiff, ↓reduceIte, Nat.reduceAdd, hm2]
    refine callK_of (by kernel_rfl) (implLevelSides_c _ _ _ _ _ _ _ ((r4.ext x5).ext x6)) ?_
    rintro _ w7 ⟨rfl, x7⟩
    simp (disch := omega) only [go_sem, Nat.reduceEqDiff, ↓reduceIte, Nat.reduceAdd, hm3, Try.results6]
    exact ⟨trivial, (((x13.trans x4).trans x5).trans x6).trans x7⟩

theorem shore_law_c (a : Option Addr) (l : List Int) (c : Nat) (w : World) (hl : l.length ≤ c) (hc : c ≤ maxLen) (hs : ByteS w a l) :
    Ret Try.prog 8 #[.slice a l.length c] w fun v w' => v = .bool true ∧ Ext w w' := by
  have hmax := maxLen_le (Nat.le_trans hl hc)
  refine enter1 Try.func8 rfl (by kernel_rfl) (of_decide_eq_true (by kernel_rfl)) fun f a0 => ?_
  by_cases hbig : (1048576 : Int) < l.length
  · simp (disch := omega) only [go_sem, Nat.reduceEqDiff, ↓reduceIte, Nat.reduceAdd, a0, hbig, Try.results8]
    exact ⟨trivial, Ext.refl _⟩
  simp (disch := omega) only [go_sem, Nat.reduceEqDiff, ↓reduceIte, Nat.reduceAdd, a0, hbig]
  refine callK_of (by kernel_rfl) (drawLevelShore_c _ _ _ _ hl hc hs) ?_
  rintro _ w1 ⟨ga, gc, rows, A, Cp, lv, rfl, hl1, hl2, hr, x1⟩
  simp (disch := omega) only [go_sem, Nat.reduceEqDiff, ↓reduceIte, Nat.reduceAdd]
  refine callK_of (by kernel_rfl) (implLevelShore_c _ _ _ _ _ _ _ hr) ?_
  rintro _ w2 ⟨rfl, x2⟩
  simp (disch := omega) only [go_sem, Nat.reduceEqDiff, ↓reduceIte, Nat.reduceAdd]
  refine callK_of (by kernel_rfl) (specLevelShore_c _ _ _ _ _ _ _ (hr.ext x2)) ?_
  rintro _ w3 ⟨rfl, x3⟩
  have hne : (shoreOf rows lv != shoreOf rows lv) = false := bne_self_eq_false _
  have x13 := (x1.trans x2).trans x3
  have r3 := (hr.ext x2).ext x3
  cases hv : lvok rows lv with
  | false =>
    have hlt : shoreOf rows lv < 0 := by simp [shoreOf, hv]
    simp (disch := omega) only [go_sem, Nat.reduceEqDiff, ↓reduceIte, Nat.reduceAdd, hne, hlt, beq_self_eq_true, Try.results8]
    exact ⟨trivial, x13⟩
  | true =>
    obtain ⟨hgv, hl0, hl99⟩ := lv_parts hv
    have v := (gvalid_iff rows).1 hgv
    have hn49 := v.gd.le
    have hpos := v.gd.pos
    have hc1 := v.gd.c1
    have hr1 := v.gd.r1
    have hb := shoreTo_le rows.length (rowLen rows) (hgt rows) lv (rows.length * rowLen rows)
    have hout : shoreOf rows lv = shoreTo rows.length (rowLen rows) (hgt rows) lv (rows.length * rowLen rows) := by simp [shoreOf, hv]
    have hnn : ¬ shoreOf rows lv < 0 := by omega
    have hss := shore_sides (R := rows.length) (h := hgt rows) (lv := lv) hc1
    have hb2 := sidesTo_le rows.length (rowLen rows) (hgt rows) lv (rows.length * rowLen rows)
    have hs1 : sidesOf rows lv = (sidesTo rows.length (rowLen rows) (hgt rows) lv (rows.length * rowLen rows) : Nat) := by simp [sidesOf, hv]
    have hland : landOf rows lv = (cntp (fun i => lv ≤ hgt rows i) (rows.length * rowLen rows) : Nat) := by simp [landOf, hv]
    have hcl := cntp_le (fun i => lv ≤ hgt rows i) (rows.length * rowLen rows)
    have h42 : 4 * landOf rows lv - 2 * sidesOf rows lv = shoreOf rows lv := by omega
    have hev : (shoreOf rows lv) % 2 = 0 := by omega
    have hevt : (shoreOf rows lv).tmod 2 = 0 := by rw [Int.tmod_eq_emod_of_nonneg (by omega)]; exact hev
    obtain ⟨vm, lm, cm, hm⟩ := turned_ok v hv
    have hsym : shoreOf (turned rows) lv = shoreOf rows lv := by
      rw [hout]; simp only [shoreOf, lm, if_true, turned_len, cm]
      rw [shore_sym (turn_sym rows.length (rowLen rows)) hc1 hr1 hm]
    have heq : (shoreOf rows lv == shoreOf rows lv) = true := beq_self_eq_true _
    simp (disch := omega) only [go_sem, Nat.reduceEqDiff, ↓reduceIte, Nat.reduceAdd, hne, hnn]
    refine callK_of (by kernel_rfl) (turn_c _ _ _ _ _ _ r3 hgv) ?_
    rintro _ w4 ⟨b, A', Cp', rfl, x4, rm⟩
    have r4 := r3.ext x4
    simp (disch := omega) only [go_sem, Nat.reduceEqDiff, ↓reduceIte, Nat.reduceAdd]
    refine callK_of (by kernel_rfl) (implLevelLand_c _ _ _ _ _ _ _ r4) ?_
    rintro _ w5 ⟨rfl, x5⟩
    simp (disch := omega) only [go_sem, Nat.reduceEqDiff, ↓reduceIte, Nat.reduceAdd]
    refine callK_of (by kernel_rfl) (implLevelSides_c _ _ _ _ _ _ _ (r4.ext x5)) ?_
    rintro _ w6 ⟨rfl, x6⟩
    simp (disch := omega) only [go_sem, Nat.reduceEqDiff, ↓reduceIte, Nat.reduceAdd, h42, heq, hev, hevt, beq_self_eq_true]
    refine callK_of (by kernel_rfl) (implLevelShore_c _ _ _ _ _ _ _ ((rm.ext x5).ext x6)) ?_
    rintro _ w7 ⟨rfl, x7⟩
    simp (disch := omega) only [go_sem, Nat.reduceEqDiff, ↓reduceIte, Nat.reduceAdd, hsym, heq, Try.results8]
    exact ⟨trivial, (((x13.trans x4).trans x5).trans x6).trans x7⟩
end Go.Proofs.Ytdlepfeckiahdaa
