/- The exact law on PeakList: contract. Printed by a program of ours (gpx.py, gexact.py). -/
import Derived.Test.YtlnodngkacbfkaaPe
import Derived.Test.YtlnodngkacbfkaaEx
set_option linter.all false
set_option maxRecDepth 20000
namespace Go.SW
theorem peakListOf_len (rows : List (List Int)) : (peakListOf rows).length ≤ 49 := by
  rw [peakListOf]
  split
  · rename_i hv
    have g := ((gvalid_iff rows).1 hv).gd
    have h1 := peaksTo_len rows.length (rowLen rows) (hgt rows) (rows.length * rowLen rows)
    have h2 := g.le
    rw [peaksL]; omega
  · simp
theorem peakListOf_short (rows : List (List Int)) : (ni (peakListOf rows)).length ≤ 1000000 := by
  have := peakListOf_len rows
  rw [ni_len]; omega
end Go.SW
namespace Go.Proofs.Ytlnodngkacbfkaa
open Go.RowKit Go.SW

theorem exactPeakList_c (a : Option Addr) (rows : List (List Int)) (A : Nat → Option Addr) (Cp : Nat → Nat) (gc : Nat) (w : World) (hr : RowsAt w a rows A Cp) :
    Ret Try.prog 3 #[.slice a rows.length gc] w fun v w' => v = .bool true ∧ Ext w w' := by
  refine enter1 Try.func3 rfl (by kernel_rfl) (of_decide_eq_true (by kernel_rfl)) fun f a0  => ?_
  simp (disch := omega) only [go_sem, Nat.reduceEqDiff, ↓reduceIte, Nat.reduceAdd, a0]
  refine callK_of (by kernel_rfl) (szIntSS_c _ _ _ _ _ _ _ hr (by omega) (by omega)) ?_
  rintro _ w1 ⟨x, rfl, x1, hx⟩
  by_cases hneg : x < 0
  · simp (disch := omega) only [go_sem, Nat.reduceEqDiff, ↓reduceIte, Nat.reduceAdd, hneg, Try.results3]
    exact ⟨trivial, x1⟩
  obtain ⟨hn, hl⟩ := hx (by omega)
  have hL : ∀ r, r < rows.length → (rows.getD r []).length ≤ 1048576 := fun r hr' => by have := hl r hr'; omega
  have hN : rows.length ≤ 1048576 := by omega
  have toI := fun w (h : RowsAt w a rows A Cp) => toIntSS_c a rows A Cp gc w h hN hL
  have at' : ∀ {w B b A'}, OwnRows w 24 3 B b rows A' → RowsAt w (some ⟨b, 0, none⟩) rows A' (fun r => (rows.getD r []).length) := fun o => o.at hr.i64 hr.lens hr.len
  simp (disch := omega) only [go_sem, Nat.reduceEqDiff, ↓reduceIte, Nat.reduceAdd, hneg, a0]
  refine callK_of (by kernel_rfl) (toI _ (hr.ext x1)) ?_
  rintro _ w2 ⟨b2, A2, rfl, x2, o2⟩
  simp (disch := omega) only [go_sem, Nat.reduceEqDiff, ↓reduceIte, Nat.reduceAdd]
  refine callK_of (by kernel_rfl) (specPeakList_c _ _ _ _ _ _ (at' o2)) ?_
  rintro _ w3 ⟨sa, sc, rfl, os, hs, x3⟩
  have x13 := (x1.trans x2).trans x3
  simp (disch := omega) only [go_sem, Nat.reduceEqDiff, ↓reduceIte, Nat.reduceAdd, a0]
  refine callK_of (by kernel_rfl) (toI _ (hr.ext x13)) ?_
  rintro _ w4 ⟨b4, A4, rfl, x4, o4⟩
  simp (disch := omega) only [go_sem, Nat.reduceEqDiff, ↓reduceIte, Nat.reduceAdd]
  refine callK_of (by kernel_rfl) (peakList_c _ _ _ _ _ _ (at' o4)) ?_
  rintro _ w5 ⟨ia, ic, rfl, oi, hi, x5⟩
  have hlen : (ni (peakListOf rows)).length ≤ 1000000 := peakListOf_short rows
  have hmx : (ni (peakListOf rows)).length ≤ maxLen := by simp only [maxLen]; omega
  have hde : decide (ni (peakListOf rows) = ni (peakListOf rows)) = true := decide_eq_true rfl
  generalize hl : ni (peakListOf rows) = l at *
  have s4 := x4.size
  have s13 := x13.size
  have x15 := (x13.trans x4).trans x5
  simp (disch := omega) only [go_sem, Nat.reduceEqDiff, ↓reduceIte, Nat.reduceAdd]
  refine callK_of (by kernel_rfl) (eqIntS_c _ _ _ _ _ _ _ oi.ints ((os.ext x4).ext x5).ints hmx) ?_
  rintro _ w6 ⟨rfl, x6⟩
  simp (disch := omega) only [go_sem, Nat.reduceEqDiff, ↓reduceIte, Nat.reduceAdd, hde, a0]
  refine callK_of (by kernel_rfl) (toI _ (hr.ext (x15.trans x6))) ?_
  rintro _ w7 ⟨b7, A7, rfl, x7, o7⟩
  simp (disch := omega) only [go_sem, Nat.reduceEqDiff, ↓reduceIte, Nat.reduceAdd]
  have o47 := ((o4.ext x5).ext x6).ext x7
  refine callK_of (by kernel_rfl) (eqIntSS_c _ _ _ _ _ _ _ _ _ _ _ (at' o47) (at' o7)) ?_
  rintro _ w8 ⟨rfl, x8⟩
  simp (disch := omega) only [go_sem, Nat.reduceEqDiff, ↓reduceIte, Nat.reduceAdd, decide_true]
  have hb4 : ∀ r, r < rows.length → ∀ b, blk (A4 r) = some b → b < w4.heap.size := fun r hr b hb => by obtain ⟨br, h1, h2, h3, oo⟩ := o4.row r hr; exact oo.blk_lt hb
  refine callK_of (by kernel_rfl) (markIntSS_c w3.heap.size w4.heap.size b4 rows A4 _ _ (o47.ext x8) rfl hN hL hb4) ?_
  rintro _ w9 ⟨k, rfl, hk, m9⟩
  have hkn : ¬ k < 0 := by omega
  have x68 := (x6.trans x7).trans x8
  have x9 : Ext w w9 := m9.ext (x15.trans x68) s13
  have oi9 := m9.own (oi.ext x68) (fun b hb => .inr (hi b hb))
  have os9 := m9.own (os.ext ((x4.trans x5).trans x68)) (fun b hb => .inl (os.blk_lt hb))
  simp (disch := omega) only [go_sem, Nat.reduceEqDiff, ↓reduceIte, Nat.reduceAdd, hkn]
  refine callK_of (by kernel_rfl) (eqIntS_c _ _ _ _ _ _ _ oi9.ints os9.ints hmx) ?_
  rintro _ w10 ⟨rfl, x10⟩
  simp (disch := omega) only [go_sem, Nat.reduceEqDiff, ↓reduceIte, Nat.reduceAdd, hde]
  refine callK_of (by kernel_rfl) (markIntS_c _ _ _ _ 1 _ (oi9.ext x10) (by omega) (by omega) (by omega)) ?_
  rintro _ w11 ⟨rfl, g11, om⟩
  have hq : ¬ (1 + (l.length : Int)) < 0 := by omega
  have hqm : ((1 + (l.length : Int)) != (1 + (l.length : Int))) = false := bne_self_eq_false _
  simp (disch := omega) only [go_sem, Nat.reduceEqDiff, ↓reduceIte, Nat.reduceAdd]
  refine callK_of (by kernel_rfl) (heldIntS_c _ _ _ 1 _ om.ints (by omega) (by omega) (by omega)) ?_
  rintro _ w12 ⟨rfl, x12⟩
  have x912 : Ext w w12 := (g11.ext (x9.trans x10) fun b hb => by have := hi b hb; omega).trans x12
  simp (disch := omega) only [go_sem, Nat.reduceEqDiff, ↓reduceIte, Nat.reduceAdd, hq, hqm, a0]
  refine callK_of (by kernel_rfl) (toI _ (hr.ext x912)) ?_
  rintro _ w13 ⟨b13, A13, rfl, x13b, o13⟩
  simp (disch := omega) only [go_sem, Nat.reduceEqDiff, ↓reduceIte, Nat.reduceAdd]
  refine callK_of (by kernel_rfl) (peakList_c _ _ _ _ _ _ (at' o13)) ?_
  rw [hl]
  rintro _ w14 ⟨ja, jc, rfl, oj, hj, x14⟩
  have os14 := (((os9.ext x10).grow g11 (fun b hb e => by have h1 := os.blk_lt hb; have h2 := hi b e; omega)).ext x12).ext (x13b.trans x14)
  simp (disch := omega) only [go_sem, Nat.reduceEqDiff, ↓reduceIte, Nat.reduceAdd]
  refine callK_of (by kernel_rfl) (eqIntS_c _ _ _ _ _ _ _ oj.ints os14.ints hmx) ?_
  rintro _ w15 ⟨rfl, x15b⟩
  simp (disch := omega) only [go_sem, Nat.reduceEqDiff, ↓reduceIte, Nat.reduceAdd, hde]
  refine callK_of (by kernel_rfl) (heldIntS_c _ _ _ 1 _ ((((om.ext x12).ext x13b).ext x14).ext x15b).ints (by omega) (by omega) (by omega)) ?_
  rintro _ w16 ⟨rfl, x16⟩
  simp (disch := omega) only [go_sem, Nat.reduceEqDiff, ↓reduceIte, Nat.reduceAdd, hq, hqm, Try.results3]
  exact ⟨trivial, (((x912.trans x13b).trans x14).trans x15b).trans x16⟩

end Go.Proofs.Ytlnodngkacbfkaa
