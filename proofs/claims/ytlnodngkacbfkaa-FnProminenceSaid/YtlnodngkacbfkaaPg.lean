/- The law FnPeakList: contract. -/
import Derived.Test.YtlnodngkacbfkaaPf
import Derived.Test.YtlnodngkacbfkaaD3
import Derived.Test.YtlnodngkacbfkaaJ2
import Derived.Test.YtlnodngkacbfkaaHl
set_option linter.all false
set_option maxRecDepth 20000
namespace Go.SW
open Go Go.RowKit
theorem top_ex (h : Nat → Int) : ∀ n, 0 < n → ∃ x, x < n ∧ ∀ j, j < n → hiB h j x = false
  | n + 1, _ => by
    by_cases h0 : n = 0
    · subst h0
      refine ⟨0, by omega, fun j hj => ?_⟩
      have e : j = 0 := by omega
      rw [e]; exact hiB_irr h 0
    · obtain ⟨x, hx, hj⟩ := top_ex h n (by omega)
      cases e : hiB h n x with
      | false => exact ⟨x, by omega, fun j hjn => by
          by_cases e2 : j = n
          · subst e2; exact e
          · exact hj j (by omega)⟩
      | true => exact ⟨n, by omega, fun j hjn => by
          by_cases e2 : j = n
          · subst e2; exact hiB_irr h j
          · have h1 := hj j (by omega)
            exact (hiB_ahead h).tr _ _ _ h1 ((hiB_ahead h).asy _ _ e)⟩
/-- The first of the peaks is the highest cell. -/
theorem peaks_top {R C : Nat} {h : Nat → Int} (g : Gd R C h) : ∃ x l, peaksL R C h = x :: l ∧ x < R * C ∧ h x = mxN h (R * C) ∧ ∀ j, j < R * C → hiB h j x = false := by
  obtain ⟨x, hx, hj⟩ := top_ex h (R * C) g.pos
  have hp : peakB R C h x = true := by
    rw [peakB, List.all_eq_true]
    intro j hjn
    rw [hj j (nearN_lt hx j hjn)]; rfl
  have hm : x ∈ peaksL R C h := mem_peaksTo.2 ⟨hx, hp⟩
  have hr := rank_peaksTo R C h (R * C)
  have hmx : h x = mxN h (R * C) := by
    obtain ⟨i, hi, e⟩ := mxN_at h (R * C) g.pos
    have h1 := hj i hi
    have h2 := mxN_ge h (R * C) x hx
    simp only [hiB, decide_eq_false_iff_not] at h1
    omega
  cases hl : peaksL R C h with
  | nil => rw [hl] at hm; simp at hm
  | cons p l =>
    rw [hl] at hm
    rw [peaksL] at hl
    rw [hl] at hr
    rcases List.mem_cons.1 hm with e | e
    · subst e; exact ⟨x, l, rfl, hx, hmx, hj⟩
    · have h1 := (List.pairwise_cons.1 hr).1 x e
      have h2 : p < R * C := (mem_peaksTo.1 (show p ∈ peaksTo R C h (R * C) by rw [hl]; exact List.mem_cons_self)).1
      rw [hj p h2] at h1; cases h1
theorem rank_next {h : Nat → Int} {l : List Nat} (hr : Rank h l) {j : Nat} (hj : j + 1 < l.length) : hiB h (l.getD j 0) (l.getD (j + 1) 0) = true := by
  rw [getD_at l 0 (by omega), getD_at l 0 hj]
  exact List.pairwise_iff_getElem.1 hr j (j + 1) (by omega) hj (by omega)
/-- What PeakIs answers. -/
def pkOf (rows : List (List Int)) (i : Int) : Bool := gvalid rows && (decide (0 ≤ i ∧ i < (rows.length * rowLen rows : Nat)) && peakB rows.length (rowLen rows) (hgt rows) i.toNat)
theorem mem_ni {l : List Nat} {i : Nat} : (i : Int) ∈ ni l ↔ i ∈ l := by
  simp only [ni, List.mem_map]
  constructor
  · rintro ⟨a, h1, h2⟩
    have : a = i := by omega
    subst this; exact h1
  · intro h; exact ⟨i, h, rfl⟩
theorem mem_peakListOf {rows : List (List Int)} {i : Nat} : i ∈ peakListOf rows ↔ pkOf rows i = true := by
  simp only [peakListOf, pkOf, Bool.and_eq_true, decide_eq_true_eq, Int.toNat_natCast]
  split
  · rename_i hv
    rw [peaksL, mem_peaksTo]
    constructor
    · rintro ⟨h1, h2⟩; exact ⟨hv, ⟨by omega, by omega⟩, h2⟩
    · rintro ⟨-, ⟨h1, h2⟩, h3⟩; exact ⟨by omega, h3⟩
  · rename_i hv
    simp [hv]
theorem hasPk (rows : List (List Int)) (i : Nat) : decide ((i : Int) ∈ ni (peakListOf rows)) = pkOf rows i := by
  rw [Bool.eq_iff_iff, decide_eq_true_eq, mem_ni, mem_peakListOf]
end Go.SW
namespace Go.Proofs.Ytlnodngkacbfkaa
open Go.RowKit Go.SW
theorem binb_neq2 (a b : Bool) : binV Try.prog .neq 4 (.bool a) (.bool b) = some (.bool (!(a == b))) := by kernel_rfl
theorem binb_eql2 (a b : Bool) : binV Try.prog .eql 4 (.bool a) (.bool b) = some (.bool (a == b)) := by kernel_rfl
attribute [go_sem] binb_neq2 binb_eql2

/-- A grid has been drawn. -/
def DrawnG (w w' : World) (v : Value) : Prop := ∃ a c rows A Cp, v = .slice a rows.length c ∧ RowsAt w' a rows A Cp ∧ Ext w w'
theorem drawPeakList_c (a : Option Addr) (l : List Int) (c : Nat) (w : World) (hl : l.length ≤ c) (hc : c ≤ maxLen) (hs : ByteS w a l) :
    Ret Try.prog 25 #[.slice a l.length c] w fun v w' => DrawnG w w' v := by
  refine enter1 Try.func25 rfl (by kernel_rfl) (of_decide_eq_true (by kernel_rfl)) fun f a0 => ?_
  simp (disch := omega) only [go_sem, Nat.reduceEqDiff, ↓reduceIte, Nat.reduceAdd, a0]
  refine callK_of (by kernel_rfl) (l6Open_c _ _ _ _ hl hc hs) ?_
  rintro _ w1 ⟨rb, rfl, x1, hrb, r1, e1⟩
  simp (disch := omega) only [go_sem, Nat.reduceEqDiff, ↓reduceIte, Nat.reduceAdd]
  refine callK_of (by kernel_rfl) (l91Grid_c rb _ 0 _ r1 (by omega) (by omega)) ?_
  rintro _ w2 ⟨a, c, rows, A, Cp, R, rfl, hR1, hR5, d, g, r2⟩
  simp (disch := omega) only [go_sem, Nat.reduceEqDiff, ↓reduceIte, Nat.reduceAdd, Try.results25]
  exact ⟨a, c, rows, A, Cp, rfl, d.at (by omega), g.ext x1 fun b hb => by simp at hb; omega⟩

theorem drawPitList_c (a : Option Addr) (l : List Int) (c : Nat) (w : World) (hl : l.length ≤ c) (hc : c ≤ maxLen) (hs : ByteS w a l) :
    Ret Try.prog 45 #[.slice a l.length c] w fun v w' => DrawnG w w' v := by
  refine enter1 Try.func45 rfl (by kernel_rfl) (of_decide_eq_true (by kernel_rfl)) fun f a0 => ?_
  simp (disch := omega) only [go_sem, Nat.reduceEqDiff, ↓reduceIte, Nat.reduceAdd, a0]
  refine callK_of (by kernel_rfl) (l6Open_c _ _ _ _ hl hc hs) ?_
  rintro _ w1 ⟨rb, rfl, x1, hrb, r1, e1⟩
  simp (disch := omega) only [go_sem, Nat.reduceEqDiff, ↓reduceIte, Nat.reduceAdd]
  refine callK_of (by kernel_rfl) (l91Grid_c rb _ 0 _ r1 (by omega) (by omega)) ?_
  rintro _ w2 ⟨a, c, rows, A, Cp, R, rfl, hR1, hR5, d, g, r2⟩
  simp (disch := omega) only [go_sem, Nat.reduceEqDiff, ↓reduceIte, Nat.reduceAdd, Try.results45]
  exact ⟨a, c, rows, A, Cp, rfl, d.at (by omega), g.ext x1 fun b hb => by simp at hb; omega⟩


theorem lawHigher_c (a : Option Addr) (rows : List (List Int)) (A : Nat → Option Addr) (Cp : Nat → Nat) (gc : Nat) (w : World) (hr : RowsAt w a rows A Cp) (v : Valid rows) (i j : Nat) (hi : i < rows.length * rowLen rows) (hj : j < rows.length * rowLen rows) :
    Ret Try.prog 27 #[.slice a rows.length gc, .int .i64 i, .int .i64 j] w fun v w' => v = .bool (hiB (hgt rows) i j) ∧ Ext w w' := by
  refine enter3 Try.func27 rfl (by kernel_rfl) (of_decide_eq_true (by kernel_rfl)) fun f a0 a1 a2 => ?_
  have hh := fun W (e : Ext w W) (k : Nat) (hk : k < rows.length * rowLen rows) => heightOf_c a rows A Cp gc W (hr.ext e) v (k : Int) (by omega) (by omega)
  simp (disch := omega) only [go_sem, Nat.reduceEqDiff, ↓reduceIte, Nat.reduceAdd, a0, a1]
  refine callK_pure (by kernel_rfl) (hh _ (Ext.refl _) i hi) fun w1 x1 => ?_
  simp (disch := omega) only [go_sem, Nat.reduceEqDiff, ↓reduceIte, Nat.reduceAdd, a0, a2]
  refine callK_pure (by kernel_rfl) (hh _ x1 j hj) fun w2 x2 => ?_
  have x12 := x1.trans x2
  by_cases hl : hgt rows j < hgt rows i
  · simp (disch := omega) only [go_sem, Nat.reduceEqDiff, ↓reduceIte, Nat.reduceAdd, Int.toNat_natCast, hl, Try.results27]
    have hv : hiB (hgt rows) i j = true := by simp [hiB, hl]
    rw [hv]
    exact ⟨by first | trivial | rfl | simp only [tup, updO_some, updO_none, upd_apply, Nat.reduceEqDiff, ↓reduceIte], x12⟩
  simp (disch := omega) only [go_sem, Nat.reduceEqDiff, ↓reduceIte, Nat.reduceAdd, a0, a1, Int.toNat_natCast, hl]
  refine callK_pure (by kernel_rfl) (hh _ x12 i hi) fun w3 x3 => ?_
  simp (disch := omega) only [go_sem, Nat.reduceEqDiff, ↓reduceIte, Nat.reduceAdd, a0, a2]
  refine callK_pure (by kernel_rfl) (hh _ (x12.trans x3) j hj) fun w4 x4 => ?_
  have x14 := (x12.trans x3).trans x4
  by_cases he : hgt rows i = hgt rows j
  · have hbe : (hgt rows i == hgt rows j) = true := by simp [he]
    by_cases hab : (i : Int) < (j : Int)
    · simp (disch := omega) only [go_sem, Nat.reduceEqDiff, ↓reduceIte, Nat.reduceAdd, Int.toNat_natCast, a1, a2, hbe, hab, Try.results27]
      exact ⟨by simp [hiB, he]; omega, x14⟩
    · simp (disch := omega) only [go_sem, Nat.reduceEqDiff, ↓reduceIte, Nat.reduceAdd, Int.toNat_natCast, a1, a2, hbe, hab, Try.results27]
      exact ⟨by simp [hiB, he]; omega, x14⟩
  · have hbe : (hgt rows i == hgt rows j) = false := by simp [he]
    simp (disch := omega) only [go_sem, Nat.reduceEqDiff, ↓reduceIte, Nat.reduceAdd, Int.toNat_natCast, hbe, Try.results27]
    exact ⟨by simp [hiB, he, hl], x14⟩

theorem peakIs_c (a : Option Addr) (rows : List (List Int)) (A : Nat → Option Addr) (Cp : Nat → Nat) (gc : Nat) (i : Int) (w : World) (hr : RowsAt w a rows A Cp) :
    Ret Try.prog 30 #[.slice a rows.length gc, .int .i64 i] w fun v w' => v = .bool (pkOf rows i) ∧ Ext w w' := by
  refine enter2 Try.func30 rfl (by kernel_rfl) (of_decide_eq_true (by kernel_rfl)) fun f a0 a1 => ?_
  simp (disch := omega) only [go_sem, Nat.reduceEqDiff, ↓reduceIte, Nat.reduceAdd, a0]
  refine callK_of (by kernel_rfl) (fieldOf_c _ _ _ _ _ _ hr) ?_
  rintro _ w2 ⟨x2, (⟨hvt, cb, rfl, hcb, o⟩ | ⟨hv', rfl⟩)⟩
  rotate_left
  · simp (disch := omega) only [go_sem, Nat.reduceEqDiff, ↓reduceIte, Nat.reduceAdd]
    refine allocK_of zero_f fun w3 fb _ x3 k3 _ => ?_
    simp (disch := omega) only [go_sem, Nat.reduceEqDiff, ↓reduceIte, Nat.reduceAdd]
    refine stK_agg siz_f (by simp) (by simp [Value.oneCell']) k3 (by simp) fun w4 k4 g4 => ?_
    have x4 : Ext w w4 := g4.ext (x2.trans x3) (by have := x2.size; omega)
    have hv : gvalid rows = false := hv'
    simp (disch := omega) only [go_sem, Nat.reduceEqDiff, ↓reduceIte, Nat.reduceAdd, Try.results30]
    exact ⟨by simp [pkOf, hv], x4⟩
  have hv : gvalid rows = true := hvt
  have v := (gvalid_iff rows).1 hv
  have g := v.gd
  have hn49 := g.le
  simp (disch := omega) only [go_sem, Nat.reduceEqDiff, ↓reduceIte, Nat.reduceAdd]
  refine allocK_of zero_f fun w3 fb _ x3 k3 _ => ?_
  simp (disch := omega) only [go_sem, Nat.reduceEqDiff, ↓reduceIte, Nat.reduceAdd]
  refine stK_agg siz_f (by simp) (by simp [Value.oneCell']) k3 (by simp) fun w4 kb g4 => ?_
  have s2 := x2.size
  have s3 := x3.size
  have x4 : Ext w w4 := g4.ext (x2.trans x3) (by omega)
  have s4 := x4.size
  have hc : CellsAt w4 cb (rows.length * rowLen rows) (hgt rows) := fun i hi => by
    have := ((o.cellsAt.ext x3).grow g4.grow (by have := o.cellsAt.lt g.pos; simp; omega)) i hi
    simpa only [hs_get rows i hi] using this
  simp (disch := omega) only [go_sem, Nat.reduceEqDiff, ↓reduceIte, Nat.reduceAdd, a1, readCells_blk kb (n := 3) (by simp)]
  refine callK_pure (by kernel_rfl) (peak_c _ _ cb (hgt rows) i _ g hc) fun w5 x5 => ?_
  simp (disch := omega) only [go_sem, Nat.reduceEqDiff, ↓reduceIte, Nat.reduceAdd, Try.results30]
  exact ⟨by simp [pkOf, hv], x4.trans x5⟩

theorem peakListLaw_c (a : Option Addr) (l : List Int) (c : Nat) (w : World) (hl : l.length ≤ c) (hc : c ≤ maxLen) (hs : ByteS w a l) :
    Ret Try.prog 4 #[.slice a l.length c] w fun v w' => v = .bool true ∧ Ext w w' := by
  have hmax := maxLen_le (Nat.le_trans hl hc)
  refine enter1 Try.func4 rfl (by kernel_rfl) (of_decide_eq_true (by kernel_rfl)) fun f a0 => ?_
  by_cases hbig : (1048576 : Int) < l.length
  · simp (disch := omega) only [go_sem, Nat.reduceEqDiff, ↓reduceIte, Nat.reduceAdd, a0, hbig, Try.results4]
    exact ⟨trivial, Ext.refl _⟩
  simp (disch := omega) only [go_sem, Nat.reduceEqDiff, ↓reduceIte, Nat.reduceAdd, a0, hbig]
  refine callK_of (by kernel_rfl) (drawPeakList_c _ _ _ _ hl hc hs) ?_
  rintro _ w1 ⟨ga, gc, rows, A, Cp, rfl, hr, x1⟩
  simp (disch := omega) only [go_sem, Nat.reduceEqDiff, ↓reduceIte, Nat.reduceAdd]
  refine callK_of (by kernel_rfl) (peakList_c _ _ _ _ _ _ hr) ?_
  rintro _ w2 ⟨oa, oc, rfl, oo, of, x2⟩
  simp (disch := omega) only [go_sem, Nat.reduceEqDiff, ↓reduceIte, Nat.reduceAdd]
  refine callK_of (by kernel_rfl) (specPeakList_c _ _ _ _ _ _ (hr.ext x2)) ?_
  rintro _ w3 ⟨sa, sc, rfl, so, sf, x3⟩
  have hde : decide (ni (peakListOf rows) = ni (peakListOf rows)) = true := decide_eq_true rfl
  have hmx : (ni (peakListOf rows)).length ≤ maxLen := by have := peakListOf_short rows; simp only [maxLen]; omega
  simp (disch := omega) only [go_sem, Nat.reduceEqDiff, ↓reduceIte, Nat.reduceAdd]
  refine callK_pure (by kernel_rfl) (sameInts_c _ _ _ _ _ _ _ (oo.ints.ext x3) so.ints hmx) fun w4 x4 => ?_
  have x23 := x2.trans x3
  have x24 := x23.trans x4
  have x14 := x1.trans x24
  cases hv : gvalid rows with
  | false =>
    have hl0 : (((ni (peakListOf rows)).length : Int) == 0) = true := by simp [peakListOf, hv, ni]
    simp (disch := omega) only [go_sem, Nat.reduceEqDiff, ↓reduceIte, Nat.reduceAdd, hde, hl0]
    refine callK_pure (by kernel_rfl) (sameInts_c _ _ _ _ _ _ _ ((oo.ints.ext x3).ext x4) (so.ints.ext x4) hmx) fun w5 x5 => ?_
    simp (disch := omega) only [go_sem, Nat.reduceEqDiff, ↓reduceIte, Nat.reduceAdd, hde, Try.results4]
    exact ⟨trivial, x14.trans x5⟩
  | true =>
    have v := (gvalid_iff rows).1 hv
    have g := v.gd
    have hn49 := g.le
    have hP : peakListOf rows = peaksL rows.length (rowLen rows) (hgt rows) := by rw [peakListOf, if_pos hv]
    obtain ⟨x, lt, hpx, hxn, hxm, -⟩ := peaks_top g
    rw [← hP] at hpx
    have hrk : Rank (hgt rows) (peakListOf rows) := by rw [hP]; exact rank_peaksTo _ _ _ _
    have hlt : ∀ y ∈ peakListOf rows, y < rows.length * rowLen rows := fun y hy => by rw [hP] at hy; exact (mem_peaksTo.1 hy).1
    have hlen := peakListOf_len rows
    have hpos : 0 < (peakListOf rows).length := by rw [hpx]; simp
    have h0 : (peakListOf rows).getD 0 0 = x := by rw [hpx]; rfl
    have hl0 : (((ni (peakListOf rows)).length : Int) == 0) = false := beq_eq_false_iff_ne.2 (by rw [ni_len]; omega)
    have hpos2 : 0 < (ni (peakListOf rows)).length := by rw [ni_len]; exact hpos
    obtain ⟨ob, rfl⟩ := oo.some (by rw [ni_len]; omega)
    have hr4 := hr.ext x24
    have o4 := (oo.ext x3).ext x4
    have cell : ∀ W, Ext w4 W → ∀ j, j < (peakListOf rows).length → W.cell? ⟨ob, j, none⟩ = some (.int .i64 ((peakListOf rows).getD j 0 : Nat)) := fun W e j hj => by
      rw [(o4.ext e).cell (by rw [ni_len]; omega), vi_get _ _ (by rw [ni_len]; omega), ni_get _ hj]
    simp (disch := omega) only [go_sem, Nat.reduceEqDiff, ↓reduceIte, Nat.reduceAdd, hde, hl0]
    refine loopX (fun s f W => f 3 = .slice ga rows.length gc ∧ f 4 = .slice (some ⟨ob, 0, none⟩) (ni (peakListOf rows)).length oc ∧ ∃ j : Nat, s = (peakListOf rows).length - (j + 1) ∧ j + 1 ≤ (peakListOf rows).length ∧ f 6 = .int .i64 ((j + 1 : Nat) : Int) ∧ Ext w4 W) ((peakListOf rows).length - 1) ⟨(by first | assumption | (simp only [upd_apply, Nat.reduceEqDiff, ↓reduceIte] <;> first | rfl | assumption) | simp [upd_apply, *]), (by first | assumption | (simp only [upd_apply, Nat.reduceEqDiff, ↓reduceIte] <;> first | rfl | assumption) | simp [upd_apply, *]), 0, by omega, by omega, by simp [upd_apply], Ext.refl _⟩ fun s f W ⟨a3, a4, j, hs', hj, a6, xW⟩ => ?_
    by_cases hjl : ((j + 1 : Nat) : Int) < (ni (peakListOf rows)).length
    · have hjl' : j + 1 < (peakListOf rows).length := by rw [ni_len] at hjl; omega
      have e1 : ((j + 1 : Nat) : Int) - 1 = (j : Int) := by omega
      have g0 := cell W xW j (by omega)
      have g1 := cell W xW (j + 1) hjl'
      have q0 := hlt _ (getD_mem (d := 0) (show j < (peakListOf rows).length by omega))
      have q1 := hlt _ (getD_mem (d := 0) hjl')
      have hk := rank_next hrk hjl'
      generalize (peakListOf rows).getD j 0 = y0 at *
      generalize (peakListOf rows).getD (j + 1) 0 = y1 at *
      simp (disch := omega) only [go_sem, Nat.reduceEqDiff, ↓reduceIte, Nat.reduceAdd, a3, a4, a6, hjl]
      refine QR_of (by kernel_rfl) (by kernel_rfl) ?_
      simp (disch := omega) only [go_sem, Nat.reduceEqDiff, ↓reduceIte, Nat.reduceAdd, a3, a4, a6, e1, g0, g1]
      refine callK_q (by kernel_rfl) (fun w' e => lawHigher_c _ _ _ _ _ _ ((hr4.ext xW).ext e) v y0 y1 q0 q1) ?_
      simp (disch := omega) only [go_sem, Nat.reduceEqDiff, ↓reduceIte, Nat.reduceAdd, hk]
      intro W1 z1
      simp (disch := omega) only [go_sem, Nat.reduceEqDiff, ↓reduceIte, Nat.reduceAdd, a6]
      exact ⟨(peakListOf rows).length - (j + 1 + 1), by omega, (by first | assumption | (simp only [upd_apply, Nat.reduceEqDiff, ↓reduceIte] <;> first | rfl | assumption) | simp [upd_apply, *]), (by first | assumption | (simp only [upd_apply, Nat.reduceEqDiff, ↓reduceIte] <;> first | rfl | assumption) | simp [upd_apply, *]), j + 1, rfl, by omega, by simp [upd_apply], xW.trans z1⟩
    · simp (disch := omega) only [go_sem, Nat.reduceEqDiff, ↓reduceIte, Nat.reduceAdd, a4, a6, hjl]
      refine loopN (rows.length * rowLen rows) (fun i f V => f 3 = .slice ga rows.length gc ∧ f 4 = .slice (some ⟨ob, 0, none⟩) (ni (peakListOf rows)).length oc ∧ f 7 = .int .i64 i ∧ Ext w4 V) ⟨(by first | assumption | (simp only [upd_apply, Nat.reduceEqDiff, ↓reduceIte] <;> first | rfl | assumption) | simp [upd_apply, *]), (by first | assumption | (simp only [upd_apply, Nat.reduceEqDiff, ↓reduceIte] <;> first | rfl | assumption) | simp [upd_apply, *]), (by first | assumption | (simp only [upd_apply, Nat.reduceEqDiff, ↓reduceIte] <;> first | rfl | assumption) | simp [upd_apply, *]), xW⟩ fun i f V hi ⟨a3, a4, a7, xV⟩ => ?_
      simp (disch := omega) only [go_sem, Nat.reduceEqDiff, ↓reduceIte, Nat.reduceAdd, a3, a7]
      refine callK_pure (by kernel_rfl) (cellsOf_c _ _ _ _ _ _ (hr4.ext xV) v) fun w5 x5 => ?_
      by_cases hin : (i : Int) < (rows.length * rowLen rows : Nat)
      · have hin' : i < rows.length * rowLen rows := by omega
        simp (disch := omega) only [go_sem, Nat.reduceEqDiff, ↓reduceIte, Nat.reduceAdd, hin, a4, a7]
        refine callK_pure (by kernel_rfl) (hasInt_c _ _ _ (i : Int) _ ((o4.ext (xV.trans x5)).ints) hmx) fun w6 x6 => ?_
        simp (disch := omega) only [go_sem, Nat.reduceEqDiff, ↓reduceIte, Nat.reduceAdd, a3, a7]
        refine callK_pure (by kernel_rfl) (peakIs_c _ _ _ _ _ (i : Int) _ (hr4.ext ((xV.trans x5).trans x6))) fun w7 x7 => ?_
        have hb : (!(pkOf rows i == pkOf rows i)) = false := by rw [beq_self_eq_true]; rfl
        simp (disch := omega) only [go_sem, Nat.reduceEqDiff, ↓reduceIte, Nat.reduceAdd, hasPk rows i, hb, a7]
        exact ⟨hin', (by first | assumption | (simp only [upd_apply, Nat.reduceEqDiff, ↓reduceIte] <;> first | rfl | assumption) | simp [upd_apply, *]), (by first | assumption | (simp only [upd_apply, Nat.reduceEqDiff, ↓reduceIte] <;> first | rfl | assumption) | simp [upd_apply, *]), (by first | assumption | (simp only [upd_apply, Nat.reduceEqDiff, ↓reduceIte] <;> first | rfl | assumption) | simp [upd_apply, *]), ((xV.trans x5).trans x6).trans x7⟩
      · simp (disch := omega) only [go_sem, Nat.reduceEqDiff, ↓reduceIte, Nat.reduceAdd, hin, a3]
        refine callK_of (by kernel_rfl) (implGridRange_c _ _ _ _ _ _ (hr4.ext (xV.trans x5))) ?_
        rintro _ w6 ⟨rfl, x6⟩
        have hrange : rangeOf rows = .tuple #[.int .i64 (mnN (hgt rows) (rows.length * rowLen rows)), .int .i64 (mxN (hgt rows) (rows.length * rowLen rows)), .bool true] := by simp [rangeOf, hv]
        have x46 := (xV.trans x5).trans x6
        have g0 := cell _ x46 0 hpos
        rw [h0] at g0
        simp (disch := omega) only [go_sem, Nat.reduceEqDiff, ↓reduceIte, Nat.reduceAdd, hrange, a3, a4, g0]
        refine callK_pure (by kernel_rfl) (heightOf_c _ _ _ _ _ _ (hr4.ext x46) v (x : Int) (by omega) (by omega)) fun w7 x7 => ?_
        simp (disch := omega) only [go_sem, Nat.reduceEqDiff, ↓reduceIte, Nat.reduceAdd, Int.toNat_natCast, hxm, beq_self_eq_true, Try.results4]
        exact ⟨trivial, (x14.trans x46).trans x7⟩
end Go.Proofs.Ytlnodngkacbfkaa
