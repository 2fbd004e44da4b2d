/- Draws of a grid and an index; GridSet; the law FnPeak. -/
import Derived.Test.YtlnodngkacbfkaaPj
set_option linter.all false
set_option maxRecDepth 20000
namespace Go.Proofs.Ytlnodngkacbfkaa
open Go.RowKit Go.SW

theorem l91Index_c (rb B lim : Nat) (w : World) (hr : Rdr w rb B lim) (hB : B ≤ w.heap.size) (hl : lim ≤ 1000000) :
    Ret Try.prog 104 #[.pointer (some ⟨rb, 0, none⟩)] w fun v w' => ∃ a c rows A Cp R i, v = .tuple #[.slice a rows.length c, .int .i64 i] ∧ 1 ≤ R ∧ R ≤ 5 ∧ (-2000000 ≤ i ∧ i ≤ 2000000) ∧ Drawn w' w.heap.size R a c rows A Cp ∧ Grow (some rb) w w' ∧ Rdr w' rb B (lim + 110) := by
  refine enter1 Try.func104 rfl (by kernel_rfl) (of_decide_eq_true (by kernel_rfl)) fun f a0 => ?_
  simp (disch := omega) only [go_sem, Nat.reduceEqDiff, ↓reduceIte, Nat.reduceAdd, a0]
  refine callK_of (by kernel_rfl) (l91Cell_c rb B lim _ hr hB (by omega)) ?_
  rintro _ w1 ⟨a, c, rows, A, Cp, R, r, cc, rfl, hR1, hR5, hb, d, g1, rr⟩
  have hn := d.len
  have h0 : 0 < rows.length := by omega
  have hrow := d.row _ (getD_mem (d := []) h0)
  have hra := d.at (by omega)
  obtain ⟨gb, go, rfl⟩ := hra.head (by intro e; rw [e] at h0; simp at h0)
  have g0 := hra.row gb go rfl 0 h0
  simp only [Nat.add_zero] at g0
  have hb1 : -1002 ≤ r * ((rows.getD 0 []).length : Int) ∧ r * ((rows.getD 0 []).length : Int) ≤ 1003002 := by
    obtain ⟨n, hnn⟩ : ∃ n : Nat, n = (rows.getD 0 []).length := ⟨_, rfl⟩
    rw [← hnn] at hrow ⊢
    constructor
    · have h1 : (-1) * (n : Int) ≤ r * (n : Int) := Int.mul_le_mul_of_nonneg_right (by omega) (by omega)
      omega
    · have h1 : r * (n : Int) ≤ 1001 * (n : Int) := Int.mul_le_mul_of_nonneg_right (by omega) (by omega)
      omega
  simp (disch := omega) only [go_sem, Nat.reduceEqDiff, ↓reduceIte, Nat.reduceAdd]
  refine QR_of (by kernel_rfl) (by kernel_rfl) ?_
  simp (disch := omega) only [go_sem, Nat.reduceEqDiff, ↓reduceIte, Nat.reduceAdd, g0]
  intro w2 x2
  simp (disch := omega) only [go_sem, Nat.reduceEqDiff, ↓reduceIte, Nat.reduceAdd, Try.results104]
  exact ⟨_, c, rows, A, Cp, R, r * ((rows.getD 0 []).length : Int) + cc, rfl, hR1, hR5, by omega, d.ext x2, g1.trans (x2.grow _), rr.ext x2⟩

/-- A grid and an index have been drawn. -/
def DrawnI (w w' : World) (v : Value) : Prop := ∃ a c rows A Cp i, v = .tuple #[.slice a rows.length c, .int .i64 i] ∧ (-2000000 ≤ i ∧ i ≤ 2000000) ∧ RowsAt w' a rows A Cp ∧ Ext w w'

theorem l91Peak_c (rb B lim : Nat) (w : World) (hr : Rdr w rb B lim) (hB : B ≤ w.heap.size) (hl : lim ≤ 1000000) :
    Ret Try.prog 71 #[.pointer (some ⟨rb, 0, none⟩)] w fun v w' => ∃ a c rows A Cp i, v = .tuple #[.slice a rows.length c, .int .i64 i] ∧ (-2000000 ≤ i ∧ i ≤ 2000000) ∧ RowsAt w' a rows A Cp ∧ Grow (some rb) w w' := by
  have hrb := hr.below
  refine enter1 Try.func71 rfl (by kernel_rfl) (of_decide_eq_true (by kernel_rfl)) fun f a0 => ?_
  simp (disch := omega) only [go_sem, Nat.reduceEqDiff, ↓reduceIte, Nat.reduceAdd, a0]
  refine callK_of (by kernel_rfl) (l91Index_c rb B lim _ hr hB (by omega)) ?_
  rintro _ w1 ⟨a, c, rows, A, Cp, R, i, rfl, hR1, hR5, hi, d, g1, rr⟩
  have hra := d.at (by omega)
  have s1 := g1.size
  simp (disch := omega) only [go_sem, Nat.reduceEqDiff, ↓reduceIte, Nat.reduceAdd, a0]
  refine callK_of (by kernel_rfl) (specPeakList_c _ _ _ _ _ _ hra) ?_
  rintro _ w2 ⟨pa, pc, rfl, po, pf, x2⟩
  have s2 := x2.size
  have hpl := peakListOf_len rows
  have hnl : (ni (peakListOf rows)).length = (peakListOf rows).length := ni_len _
  have d2 := d.ext x2
  have gw := g1.trans (x2.grow _)
  by_cases h0 : (0 : Int) < (ni (peakListOf rows)).length
  · obtain ⟨ob, rfl⟩ := po.some (by omega)
    have hob := pf ob rfl
    simp (disch := omega) only [go_sem, Nat.reduceEqDiff, ↓reduceIte, Nat.reduceAdd, a0, h0]
    refine callK_of (by kernel_rfl) (pick_c rb B _ 5 _ (rr.ext x2) (by omega) (by omega)) ?_
    rintro _ w3 ⟨k, rfl, hk, g3, rr3⟩
    have d3 := d2.other g3 fun b hb => by simp at hb; omega
    have po3 := po.grow g3 (fun b hb e => by have h1 : ob = b := (by simpa [blk] using hb); have h2 : rb = b := (by simpa using e); omega)
    by_cases hk0 : (0 : Int) < (k : Int)
    · simp (disch := omega) only [go_sem, Nat.reduceEqDiff, ↓reduceIte, Nat.reduceAdd, hk0]
      refine QR_sch (some rb) (.st 0 (.st 1 (.st 2 (.st 3 (.st 4 (.ef 5 (.st 6 (.st 7 (.st 8 (.st 9 (.done))))))))))) (by kernel_rfl) (by kernel_rfl) fun w4 x4 => ?_
      have d4 := d3.ext x4
      have po4 := po3.ext x4
      simp (disch := omega) only [go_sem, Nat.reduceEqDiff, ↓reduceIte, Nat.reduceAdd, a0]
      refine callK_of (by kernel_rfl) (pick_c rb B _ (ni (peakListOf rows)).length _ (rr3.ext x4) (by omega) (by omega)) ?_
      rintro _ w5 ⟨q, rfl, hq, g5, rr5⟩
      refine nxE_of g5 ?_
      have d5 := d4.other g5 fun b hb => by simp at hb; omega
      have po5 := po4.grow g5 (fun b hb e => by have h1 : ob = b := (by simpa [blk] using hb); have h2 : rb = b := (by simpa using e); omega)
      have hq' : q < (ni (peakListOf rows)).length := by omega
      have hq2 : q < (peakListOf rows).length := by omega
      have g0 : w5.cell? ⟨ob, q, none⟩ = some (.int .i64 ((peakListOf rows).getD q 0 : Nat)) := by rw [po5.cell (by omega), vi_get _ _ hq', ni_get _ hq2]
      have hb : (peakListOf rows).getD q 0 < 50 := by
        have hm := getD_mem (d := 0) hq2
        rw [peakListOf] at hm
        split at hm
        · rename_i hv
          have := ((gvalid_iff rows).1 hv).gd.le
          have := (mem_peaksTo.1 hm).1
          rw [peakListOf, if_pos hv]
          omega
        · simp at hm
      simp (disch := omega) only [go_sem, Nat.reduceEqDiff, ↓reduceIte, Nat.reduceAdd, g0, Try.results71]
      exact ⟨a, c, rows, A, Cp, _, rfl, by omega, d5.at (by omega), ((gw.trans g3).trans (x4.grow _)).trans g5⟩
    · simp (disch := omega) only [go_sem, Nat.reduceEqDiff, ↓reduceIte, Nat.reduceAdd, hk0, Try.results71]
      exact ⟨a, c, rows, A, Cp, i, rfl, hi, d3.at (by omega), gw.trans g3⟩
  · simp (disch := omega) only [go_sem, Nat.reduceEqDiff, ↓reduceIte, Nat.reduceAdd, h0, Try.results71]
    exact ⟨a, c, rows, A, Cp, i, rfl, hi, d2.at (by omega), gw⟩

theorem drawPeakIs_c (a : Option Addr) (l : List Int) (c : Nat) (w : World) (hl : l.length ≤ c) (hc : c ≤ maxLen) (hs : ByteS w a l) :
    Ret Try.prog 33 #[.slice a l.length c] w fun v w' => DrawnI w w' v := by
  refine enter1 Try.func33 rfl (by kernel_rfl) (of_decide_eq_true (by kernel_rfl)) fun f a0 => ?_
  simp (disch := omega) only [go_sem, Nat.reduceEqDiff, ↓reduceIte, Nat.reduceAdd, a0]
  refine callK_of (by kernel_rfl) (l6Open_c _ _ _ _ hl hc hs) ?_
  rintro _ w1 ⟨rb, rfl, x1, hrb, r1, e1⟩
  simp (disch := omega) only [go_sem, Nat.reduceEqDiff, ↓reduceIte, Nat.reduceAdd]
  refine callK_of (by kernel_rfl) (l91Peak_c rb _ 0 _ r1 (by omega) (by omega)) ?_
  rintro _ w2 ⟨a, c, rows, A, Cp, i, rfl, hi, d, g⟩
  simp (disch := omega) only [go_sem, Nat.reduceEqDiff, ↓reduceIte, Nat.reduceAdd, Try.results33]
  exact ⟨a, c, rows, A, Cp, i, rfl, hi, d, g.ext x1 fun b hb => by simp at hb; omega⟩

theorem drawPeakParent_c (a : Option Addr) (l : List Int) (c : Nat) (w : World) (hl : l.length ≤ c) (hc : c ≤ maxLen) (hs : ByteS w a l) :
    Ret Try.prog 54 #[.slice a l.length c] w fun v w' => DrawnI w w' v := by
  refine enter1 Try.func54 rfl (by kernel_rfl) (of_decide_eq_true (by kernel_rfl)) fun f a0 => ?_
  simp (disch := omega) only [go_sem, Nat.reduceEqDiff, ↓reduceIte, Nat.reduceAdd, a0]
  refine callK_of (by kernel_rfl) (l6Open_c _ _ _ _ hl hc hs) ?_
  rintro _ w1 ⟨rb, rfl, x1, hrb, r1, e1⟩
  simp (disch := omega) only [go_sem, Nat.reduceEqDiff, ↓reduceIte, Nat.reduceAdd]
  refine callK_of (by kernel_rfl) (l91Peak_c rb _ 0 _ r1 (by omega) (by omega)) ?_
  rintro _ w2 ⟨a, c, rows, A, Cp, i, rfl, hi, d, g⟩
  simp (disch := omega) only [go_sem, Nat.reduceEqDiff, ↓reduceIte, Nat.reduceAdd, Try.results54]
  exact ⟨a, c, rows, A, Cp, i, rfl, hi, d, g.ext x1 fun b hb => by simp at hb; omega⟩

theorem drawPeakProminence_c (a : Option Addr) (l : List Int) (c : Nat) (w : World) (hl : l.length ≤ c) (hc : c ≤ maxLen) (hs : ByteS w a l) :
    Ret Try.prog 57 #[.slice a l.length c] w fun v w' => DrawnI w w' v := by
  refine enter1 Try.func57 rfl (by kernel_rfl) (of_decide_eq_true (by kernel_rfl)) fun f a0 => ?_
  simp (disch := omega) only [go_sem, Nat.reduceEqDiff, ↓reduceIte, Nat.reduceAdd, a0]
  refine callK_of (by kernel_rfl) (l6Open_c _ _ _ _ hl hc hs) ?_
  rintro _ w1 ⟨rb, rfl, x1, hrb, r1, e1⟩
  simp (disch := omega) only [go_sem, Nat.reduceEqDiff, ↓reduceIte, Nat.reduceAdd]
  refine callK_of (by kernel_rfl) (l91Peak_c rb _ 0 _ r1 (by omega) (by omega)) ?_
  rintro _ w2 ⟨a, c, rows, A, Cp, i, rfl, hi, d, g⟩
  simp (disch := omega) only [go_sem, Nat.reduceEqDiff, ↓reduceIte, Nat.reduceAdd, Try.results57]
  exact ⟨a, c, rows, A, Cp, i, rfl, hi, d, g.ext x1 fun b hb => by simp at hb; omega⟩


theorem l4Has_c (a : Option Addr) (rows : List (List Int)) (A : Nat → Option Addr) (Cp : Nat → Nat) (gc : Nat) (i : Int) (w : World) (hr : RowsAt w a rows A Cp) :
    Ret Try.prog 72 #[.slice a rows.length gc, .int .i64 i] w fun v w' => v = .bool (gvalid rows && decide (0 ≤ i ∧ i < (rows.length * rowLen rows : Nat))) ∧ Ext w w' := by
  refine enter2 Try.func72 rfl (by kernel_rfl) (of_decide_eq_true (by kernel_rfl)) fun f a0 a1 => ?_
  simp (disch := omega) only [go_sem, Nat.reduceEqDiff, ↓reduceIte, Nat.reduceAdd, a0]
  refine callK_pure (by kernel_rfl) (gridValid_c _ _ _ _ _ _ hr) fun w1 x1 => ?_
  cases hv : gvalid rows with
  | false =>
    simp (disch := omega) only [go_sem, Nat.reduceEqDiff, ↓reduceIte, Nat.reduceAdd, Try.results72]
    exact ⟨by simp, x1⟩
  | true =>
    have v := (gvalid_iff rows).1 hv
    have hn49 := v.gd.le
    obtain ⟨gb, go, rb, ro, rfl, -, hg⟩ := hr.grid v
    simp (disch := omega) only [go_sem, Nat.reduceEqDiff, ↓reduceIte, Nat.reduceAdd, a0, a1]
    refine callK_pure (by kernel_rfl) (l2Cells_c _ _ _ _ _ _ _ _ _ _ (hg.ext x1) v.r1 v.r7 v.c7) fun w2 x2 => ?_
    simp (disch := omega) only [go_sem, Nat.reduceEqDiff, ↓reduceIte, Nat.reduceAdd]
    refine callK_pure (by kernel_rfl) (l6In_c _ _ _ _) fun w3 x3 => ?_
    simp (disch := omega) only [go_sem, Nat.reduceEqDiff, ↓reduceIte, Nat.reduceAdd, Try.results72]
    refine ⟨?_, (x1.trans x2).trans x3⟩
    congr 1
    rw [Bool.true_and]
    congr 1
    exact propext ⟨fun h => by omega, fun h => by omega⟩

theorem specPeakIs_c (a : Option Addr) (rows : List (List Int)) (A : Nat → Option Addr) (Cp : Nat → Nat) (gc : Nat) (i : Int) (w : World) (hr : RowsAt w a rows A Cp) :
    Ret Try.prog 34 #[.slice a rows.length gc, .int .i64 i] w fun v w' => v = .bool (pkOf rows i) ∧ Ext w w' := by
  refine enter2 Try.func34 rfl (by kernel_rfl) (of_decide_eq_true (by kernel_rfl)) fun f a0 a1 => ?_
  simp (disch := omega) only [go_sem, Nat.reduceEqDiff, ↓reduceIte, Nat.reduceAdd, a0, a1]
  refine callK_pure (by kernel_rfl) (l4Has_c _ _ _ _ _ i _ hr) fun w1 x1 => ?_
  cases hh : (gvalid rows && decide (0 ≤ i ∧ i < (rows.length * rowLen rows : Nat))) with
  | false =>
    simp (disch := omega) only [go_sem, Nat.reduceEqDiff, ↓reduceIte, Nat.reduceAdd, Try.results34]
    exact ⟨by rw [pkOf, ← Bool.and_assoc, hh, Bool.false_and], x1⟩
  | true =>
    simp only [Bool.and_eq_true, decide_eq_true_eq] at hh
    obtain ⟨hv, hi0, hi1⟩ := hh
    have v := (gvalid_iff rows).1 hv
    obtain ⟨gb, go, rb, ro, rfl, -, hg⟩ := hr.grid v
    obtain ⟨n, rfl⟩ := Int.eq_ofNat_of_zero_le hi0
    simp (disch := omega) only [go_sem, Nat.reduceEqDiff, ↓reduceIte, Nat.reduceAdd, a0, a1]
    refine callK_pure (by kernel_rfl) (l4Peak_c gb go gc rb ro Cp _ _ _ n _ (hg.ext x1) v.r7 v.c7 (by omega)) fun w2 x2 => ?_
    simp (disch := omega) only [go_sem, Nat.reduceEqDiff, ↓reduceIte, Nat.reduceAdd, Try.results34]
    refine ⟨?_, x1.trans x2⟩
    simp only [pkOf, hv, hi0, hi1, Int.toNat_natCast, Bool.true_and, and_self, decide_true]

set_option maxHeartbeats 1000000 in
theorem gridSet_c (a : Option Addr) (rows : List (List Int)) (A : Nat → Option Addr) (Cp : Nat → Nat) (gc : Nat) (i : Nat) (y : Int) (w : World) (hr : RowsAt w a rows A Cp) (hv : gvalid rows = true) (hi : i < rows.length * rowLen rows) :
    Ret Try.prog 36 #[.slice a rows.length gc, .int .i64 ((i : Int) / (rowLen rows : Int)), .int .i64 ((i : Int) % (rowLen rows : Int)), .int .i64 y] w fun u w' =>
      (¬ (0 ≤ y ∧ y ≤ 99) ∧ u = .tuple #[.slice none 0 0, .bool false] ∧ Ext w w') ∨ ((0 ≤ y ∧ y ≤ 99) ∧ ∃ b A', u = .tuple #[.slice (some ⟨b, 0, none⟩) rows.length rows.length, .bool true] ∧ OwnRows w' 24 3 w.heap.size b (mkRows rows.length (rowLen rows) fun j => if j = i then y else hgt rows j) A' ∧ Ext w w') := by
  have v := (gvalid_iff rows).1 hv
  have g := v.gd
  have hn49 := g.le
  have hR7 := g.r7
  have hC7 := g.c7
  have hC1 := g.c1
  obtain ⟨q1, q0, m1, m0, hC, hR, hdm⟩ := idx_div (i := (i : Int)) (R := rows.length) (C := rowLen rows) (by omega) (by omega)
  obtain ⟨r, er⟩ := Int.eq_ofNat_of_zero_le q0
  obtain ⟨c, ec⟩ := Int.eq_ofNat_of_zero_le m0
  rw [er, ec] at hdm ⊢
  rw [er] at q1
  rw [ec] at m1
  simp only [Int.toNat_natCast] at hdm
  refine enter4 Try.func36 rfl (by kernel_rfl) (of_decide_eq_true (by kernel_rfl)) fun f a0 a1 a2 a3 => ?_
  simp (disch := omega) only [go_sem, Nat.reduceEqDiff, ↓reduceIte, Nat.reduceAdd, a0]
  refine callK_of (by kernel_rfl) (fieldOf_c _ _ _ _ _ _ hr) ?_
  rintro _ w2 ⟨x2, (⟨hvt, cb, rfl, hcb, o⟩ | ⟨hv', -⟩)⟩
  rotate_left
  · rw [hv] at hv'; cases hv'
  simp (disch := omega) only [go_sem, Nat.reduceEqDiff, ↓reduceIte, Nat.reduceAdd]
  refine allocK_of zero_f fun w3 fb _ x3 k3 _ => ?_
  simp (disch := omega) only [go_sem, Nat.reduceEqDiff, ↓reduceIte, Nat.reduceAdd]
  refine stK_agg siz_f (by simp) (by simp [Value.oneCell']) k3 (by simp) fun w4 kb g4 => ?_
  have s2 := x2.size
  have s3 := x3.size
  have x4 : Ext w w4 := g4.ext (x2.trans x3) (by omega)
  have s4 := x4.size
  have hob := o.blk_lt rfl
  have o4 := (o.ext x3).grow g4.grow (fun b hb e => by
    have h1 : cb = b := (by simpa [blk] using hb)
    have h2 : fb = b := (by simpa using e)
    have : cb < w2.heap.size := by rw [h1]; exact o.blk_lt (by rw [← h1]; rfl)
    omega)
  have hin : decide (0 ≤ (r : Int) ∧ (r : Int) < rows.length ∧ 0 ≤ (c : Int) ∧ (c : Int) < rowLen rows) = true := decide_eq_true (by omega)
  simp (disch := omega) only [go_sem, Nat.reduceEqDiff, ↓reduceIte, Nat.reduceAdd, a1, a2, readCells_blk kb (n := 3) (by simp)]
  refine callK_pure (by kernel_rfl) (has_c _ _ _ _ _ _) fun w5 x5 => ?_
  simp (disch := omega) only [go_sem, Nat.reduceEqDiff, ↓reduceIte, Nat.reduceAdd, hin, Bool.not_true, Bool.not_false, a3]
  refine callK_of (by kernel_rfl) (isHeight_c _ _) ?_
  rintro _ w6 ⟨rfl, x6⟩
  have x56 := x5.trans x6
  by_cases hy : 0 ≤ y ∧ y ≤ 99
  · have hyd : decide (0 ≤ y ∧ y ≤ 99) = true := decide_eq_true hy
    simp (disch := omega) only [go_sem, Nat.reduceEqDiff, ↓reduceIte, Nat.reduceAdd, hyd, Bool.not_true, Bool.not_false]
    have kb6 := kb.ext x56
    refine QR_tail 8 (by kernel_rfl) (by kernel_rfl) ?_
    simp (disch := omega) only [go_sem, Nat.reduceEqDiff, ↓reduceIte, Nat.reduceAdd, a1, a2, a3, kb6.cell, readCells_blk kb6 (n := 3) (by simp)]
    refine callK_q (by kernel_rfl) (fun w' e => index_c _ _ _ _ _ r c _ (by omega) (by omega) (by omega)) ?_
    simp (disch := omega) only [go_sem, Nat.reduceEqDiff, ↓reduceIte, Nat.reduceAdd, hdm, a3]
    intro w7 x7
    refine stK_own siz_int (by rfl) (by rfl) ((o4.ext x56).ext x7) (by omega) fun w8 o8 g8 => ?_
    have kb8 := g8.grow.blk (kb6.ext x7) (by
      intro e
      have h2 : cb = fb := by simpa using e
      have := o.blk_lt (b := cb) rfl
      omega)
    have hc8 : CellsAt w8 cb (rows.length * rowLen rows) fun j => if j = i then y else hgt rows j := fun j hj => by
      rw [o8.cell (by omega)]
      by_cases e : j = i
      · subst e
        rw [List.getElem?_set_self (by rw [vi_len, hs_len]; exact hj)]
        simp
      · rw [List.getElem?_set_ne (by omega), vi_get _ _ (by rw [hs_len]; exact hj), hs_get rows j hj]
        simp [e]
    simp (disch := omega) only [go_sem, Nat.reduceEqDiff, ↓reduceIte, Nat.reduceAdd, readCells_blk kb8 (n := 3) (by simp)]
    refine callK_of (by kernel_rfl) (lists_c _ _ _ _ _ hc8 (by omega) (by omega) (by omega)) ?_
    rintro _ w9 ⟨b, A', rfl, x9, or⟩
    have x8 : Ext w w8 := g8.ext ((x4.trans x56).trans x7) (by omega)
    simp (disch := omega) only [go_sem, Nat.reduceEqDiff, ↓reduceIte, Nat.reduceAdd, Try.results36]
    refine .inr ⟨hy, b, A', rfl, ?_, x8.trans x9⟩
    have s8 := x8.size
    exact ⟨or.top, Nat.le_trans s8 or.hb, fun r hr => let ⟨br, h1, h2, h3, oo⟩ := or.row r hr; ⟨br, h1, Nat.le_trans s8 h2, h3, oo⟩, or.inj⟩
  · have hyd : decide (0 ≤ y ∧ y ≤ 99) = false := decide_eq_false hy
    simp (disch := omega) only [go_sem, Nat.reduceEqDiff, ↓reduceIte, Nat.reduceAdd, hyd, Bool.not_true, Bool.not_false, Try.results36]
    exact .inl ⟨hy, trivial, x4.trans x56⟩

theorem near_ne {R C i j : Nat} (hi : i < R * C) (hj : j ∈ nearN R C i) : j ≠ i := by
  have hC : 0 < C := Nat.pos_of_ne_zero fun e => by subst e; simp at hi
  rcases nearN_mem.1 hj with ⟨h1, h2⟩ | ⟨h1, h2⟩ | ⟨h1, h2⟩ | ⟨h1, h2⟩
  · omega
  · omega
  · omega
  · have : i ≠ 0 := fun e => by subst e; simp at h1
    omega
theorem peak_up {R C : Nat} {h : Nat → Int} {i : Nat} (hi : i < R * C) (hp : peakB R C h i = true) {y : Int} (hy : h i ≤ y) : peakB R C (fun j => if j = i then y else h j) i = true := by
  rw [peakB, List.all_eq_true] at hp ⊢
  intro j hj
  have h1 := hp j hj
  have hne := near_ne hi hj
  simp only [hiB, Bool.not_eq_true', decide_eq_false_iff_not, if_neg hne, if_true] at h1 ⊢
  omega
theorem peakB_congr {R C : Nat} {h h' : Nat → Int} {i : Nat} (hi : i < R * C) (e : ∀ j, j < R * C → h j = h' j) : peakB R C h i = peakB R C h' i := by
  rw [Bool.eq_iff_iff, peakB, peakB, List.all_eq_true, List.all_eq_true]
  constructor <;> intro hh j hj <;> have h1 := hh j hj <;> simp only [hiB, e j (nearN_lt hi j hj), e i hi] at h1 ⊢ <;> exact h1
theorem set_pk {rows : List (List Int)} (v : Valid rows) {i : Nat} (hi : i < rows.length * rowLen rows) {y : Int} (hy : 0 ≤ y ∧ y ≤ 99) (hhy : hgt rows i ≤ y) (hp : peakB rows.length (rowLen rows) (hgt rows) i = true) :
    pkOf (mkRows rows.length (rowLen rows) fun j => if j = i then y else hgt rows j) i = true := by
  have gv : gvalid (mkRows rows.length (rowLen rows) fun j => if j = i then y else hgt rows j) = true := (gvalid_iff _).2 (mkRows_valid v.r1 v.r7 v.c1 v.c7 fun j hj => by
    have := v.hgt j hj
    by_cases e : j = i
    · simp only [e, if_true]; exact hy
    · simp only [if_neg e]; exact this)
  have h1 := peak_up hi hp hhy
  rw [pkOf, gv, mkRows_len, mkRows_rowLen v.r1, Int.toNat_natCast, Bool.true_and, decide_eq_true (show (0 : Int) ≤ (i : Int) ∧ (i : Int) < (rows.length * rowLen rows : Nat) by omega), Bool.true_and]
  rw [← h1]
  exact peakB_congr hi fun j hj => mkRows_hgt v.r1 hj

theorem peak_law_c (a : Option Addr) (l : List Int) (c : Nat) (w : World) (hl : l.length ≤ c) (hc : c ≤ maxLen) (hs : ByteS w a l) :
    Ret Try.prog 5 #[.slice a l.length c] w fun v w' => v = .bool true ∧ Ext w w' := by
  have hmax := maxLen_le (Nat.le_trans hl hc)
  refine enter1 Try.func5 rfl (by kernel_rfl) (of_decide_eq_true (by kernel_rfl)) fun f a0 => ?_
  by_cases hbig : (1048576 : Int) < l.length
  · simp (disch := omega) only [go_sem, Nat.reduceEqDiff, ↓reduceIte, Nat.reduceAdd, a0, hbig, Try.results5]
    exact ⟨trivial, Ext.refl _⟩
  simp (disch := omega) only [go_sem, Nat.reduceEqDiff, ↓reduceIte, Nat.reduceAdd, a0, hbig]
  refine callK_of (by kernel_rfl) (drawPeakIs_c _ _ _ _ hl hc hs) ?_
  rintro _ w1 ⟨ga, gc, rows, A, Cp, i, rfl, hib, hr, x1⟩
  simp (disch := omega) only [go_sem, Nat.reduceEqDiff, ↓reduceIte, Nat.reduceAdd]
  refine callK_pure (by kernel_rfl) (peakIs_c _ _ _ _ _ i _ hr) fun w2 x2 => ?_
  simp (disch := omega) only [go_sem, Nat.reduceEqDiff, ↓reduceIte, Nat.reduceAdd]
  refine callK_pure (by kernel_rfl) (specPeakIs_c _ _ _ _ _ i _ (hr.ext x2)) fun w3 x3 => ?_
  have hne : (!(pkOf rows i == pkOf rows i)) = false := by rw [beq_self_eq_true]; rfl
  have x13 := (x1.trans x2).trans x3
  cases hpk : pkOf rows i with
  | false =>
    rw [hpk] at hne
    simp (disch := omega) only [go_sem, Nat.reduceEqDiff, ↓reduceIte, Nat.reduceAdd, hne, beq_self_eq_true, Try.results5]
    exact ⟨trivial, x13⟩
  | true =>
    rw [hpk] at hne
    have hpk' := hpk
    simp only [pkOf, Bool.and_eq_true, decide_eq_true_eq] at hpk'
    obtain ⟨hv, ⟨hi0, hi1⟩, hp⟩ := hpk'
    obtain ⟨n, rfl⟩ := Int.eq_ofNat_of_zero_le hi0
    simp only [Int.toNat_natCast] at hp
    have v := (gvalid_iff rows).1 hv
    have g := v.gd
    have hn49 := g.le
    have hC1 := g.c1
    have hR1 := g.r1
    have hin : n < rows.length * rowLen rows := by omega
    have hhn := g.hh n hin
    obtain ⟨gb, go, rb, ro, rfl, -, hg⟩ := hr.grid v
    have hr3 := (hr.ext x2).ext x3
    have hg3 := (hg.ext x2).ext x3
    have hn4 := nearN_len rows.length (rowLen rows) n
    simp (disch := omega) only [go_sem, Nat.reduceEqDiff, ↓reduceIte, Nat.reduceAdd, hne]
    refine callK_of (by kernel_rfl) (nearOf_c gb go gc rb ro Cp _ _ _ _ hg3 g.r7 g.c7 n hin) ?_
    rintro _ w4 ⟨na, nc, rfl, no, nf, x4⟩
    simp (disch := omega) only [go_sem, Nat.reduceEqDiff, ↓reduceIte, Nat.reduceAdd]
    refine loopN (nearN rows.length (rowLen rows) n).length (fun m f W => f 3 = .slice (some ⟨gb, go, none⟩) rows.length gc ∧ f 4 = .int .i64 n ∧ f 7 = .slice na (nearN rows.length (rowLen rows) n).length nc ∧ f 8 = .int .i64 m ∧ Ext w4 W) ⟨(by first | assumption | (simp only [upd_apply, Nat.reduceEqDiff, ↓reduceIte] <;> first | rfl | assumption) | simp [upd_apply, *]), (by first | assumption | (simp only [upd_apply, Nat.reduceEqDiff, ↓reduceIte] <;> first | rfl | assumption) | simp [upd_apply, *]), (by first | assumption | (simp only [upd_apply, Nat.reduceEqDiff, ↓reduceIte] <;> first | rfl | assumption) | simp [upd_apply, *]), (by first | assumption | (simp only [upd_apply, Nat.reduceEqDiff, ↓reduceIte] <;> first | rfl | assumption) | simp [upd_apply, *]), Ext.refl _⟩ fun m f W hm ⟨a3, a4, a7, a8, xW⟩ => ?_
    have xW3 := x4.trans xW
    by_cases hlm : (m : Int) < (nearN rows.length (rowLen rows) n).length
    · have hml : m < (nearN rows.length (rowLen rows) n).length := by omega
      obtain ⟨nb, rfl⟩ := no.some (by omega)
      have hjm := getD_mem (d := 0) hml
      have hj := nearN_lt hin _ hjm
      have hne2 := near_ne hin hjm
      have g2 : W.cell? ⟨nb, m, none⟩ = some (.int .i64 ((nearN rows.length (rowLen rows) n).getD m 0 : Nat)) := by rw [(no.ext xW).cell (by omega), vi_get _ _ (by rw [ni_len]; omega), ni_get _ hml]
      have hh : hiB (hgt rows) n ((nearN rows.length (rowLen rows) n).getD m 0) = true := by
        have := List.all_eq_true.1 hp _ hjm
        exact hiB_tot hne2 (by simpa using this)
      generalize (nearN rows.length (rowLen rows) n).getD m 0 = j at *
      simp (disch := omega) only [go_sem, Nat.reduceEqDiff, ↓reduceIte, Nat.reduceAdd, a3, a4, a7, a8, hlm, g2]
      refine callK_pure (by kernel_rfl) (lawHigher_c _ _ _ _ _ _ (hr3.ext xW3) v n j hin hj) fun w5 x5 => ?_
      simp (disch := omega) only [go_sem, Nat.reduceEqDiff, ↓reduceIte, Nat.reduceAdd, hh, a8]
      exact ⟨hml, (by first | assumption | (simp only [upd_apply, Nat.reduceEqDiff, ↓reduceIte] <;> first | rfl | assumption) | simp [upd_apply, *]), (by first | assumption | (simp only [upd_apply, Nat.reduceEqDiff, ↓reduceIte] <;> first | rfl | assumption) | simp [upd_apply, *]), (by first | assumption | (simp only [upd_apply, Nat.reduceEqDiff, ↓reduceIte] <;> first | rfl | assumption) | simp [upd_apply, *]), (by first | assumption | (simp only [upd_apply, Nat.reduceEqDiff, ↓reduceIte] <;> first | rfl | assumption) | simp [upd_apply, *]), xW.trans x5⟩
    · have g0 := (hg3.ext xW3).row 0 hR1
      simp only [Nat.add_zero] at g0
      have hrW := hr3.ext xW3
      simp (disch := omega) only [go_sem, Nat.reduceEqDiff, ↓reduceIte, Nat.reduceAdd, a3, a7, a8, hlm, g0]
      refine QR_sch none (.st 0 (.st 1 (.st 2 (.st 3 (.st 4 (.st 5 (.st 6 (.st 7 (.st 8 (.ef 9 (.st 10 (.ef 11 (.st 12 (.st 13 (.st 14 (.st 15 (.st 16 (.done)))))))))))))))))) (by kernel_rfl) (by kernel_rfl) fun w5 x5 => ?_
      simp (disch := omega) only [go_sem, Nat.reduceEqDiff, ↓reduceIte, Nat.reduceAdd, a3, a4]
      refine callK_pure (by kernel_rfl) (heightOf_c _ _ _ _ _ _ (hrW.ext x5) v (n : Int) (by omega) (by omega)) fun w6 x6 => ?_
      refine nxE_of (x6.grow _) ?_
      have x56 := x5.trans x6
      simp (disch := omega) only [go_sem, Nat.reduceEqDiff, ↓reduceIte, Nat.reduceAdd, Int.toNat_natCast, a3, a4]
      refine callK_of (by kernel_rfl) (gridSet_c _ _ _ _ _ n (hgt rows n + 1) _ (hrW.ext x56) hv hin) ?_
      have hPl : decide ((n : Int) ∈ ni (peakListOf rows)) = true := by rw [hasPk]; exact hpk
      have hmx : (ni (peakListOf rows)).length ≤ maxLen := by have := peakListOf_short rows; simp only [maxLen]; omega
      rintro _ w7 (⟨hno, rfl, x7⟩ | ⟨hyes, b, A', rfl, or, x7⟩)
      · refine nxE_of (x7.grow _) ?_
        have x57 := x56.trans x7
        simp (disch := omega) only [go_sem, Nat.reduceEqDiff, ↓reduceIte, Nat.reduceAdd, a3]
        refine callK_of (by kernel_rfl) (peakList_c _ _ _ _ _ _ (hrW.ext x57)) ?_
        rintro _ w8 ⟨pa, pc, rfl, po, pf, x8⟩
        simp (disch := omega) only [go_sem, Nat.reduceEqDiff, ↓reduceIte, Nat.reduceAdd, a4]
        refine callK_pure (by kernel_rfl) (hasInt_c _ _ _ (n : Int) _ po.ints hmx) fun w9 x9 => ?_
        simp (disch := omega) only [go_sem, Nat.reduceEqDiff, ↓reduceIte, Nat.reduceAdd, hPl, Try.results5]
        exact ⟨trivial, (((x13.trans xW3).trans x57).trans x8).trans x9⟩
      · refine nxE_of (x7.grow _) ?_
        have x57 := x56.trans x7
        have hr2 := or.at (mkRows_i64 fun j hj => by
          have := v.hgt j hj
          by_cases e : j = n
          · simp only [e, if_true, I64]; omega
          · simp only [if_neg e, I64]; omega) (by rw [mkRows_len]; exact hr.lens) (mkRows_lens (by have := v.c7; simp only [maxLen]; omega))
        have hps := set_pk v hin hyes (by omega) hp
        simp (disch := omega) only [go_sem, Nat.reduceEqDiff, ↓reduceIte, Nat.reduceAdd, a3]
        refine callK_of (by kernel_rfl) (peakList_c _ _ _ _ _ _ (hrW.ext x57)) ?_
        rintro _ w8 ⟨pa, pc, rfl, po, pf, x8⟩
        simp (disch := omega) only [go_sem, Nat.reduceEqDiff, ↓reduceIte, Nat.reduceAdd, a4]
        refine callK_pure (by kernel_rfl) (hasInt_c _ _ _ (n : Int) _ po.ints hmx) fun w9 x9 => ?_
        have pI := peakIs_c _ _ _ _ rows.length (n : Int) _ ((hr2.ext x8).ext x9)
        rw [mkRows_len] at pI
        simp (disch := omega) only [go_sem, Nat.reduceEqDiff, ↓reduceIte, Nat.reduceAdd, hPl, a4]
        refine callK_pure (by kernel_rfl) (pI) fun w10 x10 => ?_
        simp (disch := omega) only [go_sem, Nat.reduceEqDiff, ↓reduceIte, Nat.reduceAdd, hps, Try.results5]
        exact ⟨trivial, ((((x13.trans xW3).trans x57).trans x8).trans x9).trans x10⟩
end Go.Proofs.Ytlnodngkacbfkaa
