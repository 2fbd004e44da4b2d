/- The law FnLakes: it returns true, and nothing that was there is written. -/
import Derived.Test.YtdlepfeckiahdaaLv
set_option linter.all false
namespace Go.Proofs.Ytdlepfeckiahdaa
open Go.RowKit Go.SW

theorem drawLevelLakes_c (a : Option Addr) (l : List Int) (c : Nat) (w : World) (hl : l.length ≤ c) (hc : c ≤ maxLen) (hs : ByteS w a l) :
    Ret Try.prog 43 #[.slice a l.length c] w fun v w' => DrawnL w w' v := by
  refine enter1 Try.func43 rfl (by kernel_rfl) (of_decide_eq_true (by kernel_rfl)) fun f a0 => ?_
  simp (disch := omega) only [go_sem, Nat.reduceEqDiff, ↓reduceIte, Nat.reduceAdd, a0]
  refine callK_of (by kernel_rfl) (l6Open_c _ _ _ _ hl hc hs) ?_
  rintro _ w1 ⟨rb, rfl, x1, hrb, r1, e1⟩
  simp (disch := omega) only [go_sem, Nat.reduceEqDiff, ↓reduceIte, Nat.reduceAdd]
  refine callK_of (by kernel_rfl) (l91Ring_c rb _ 0 _ r1 (by omega) (by omega)) ?_
  rintro _ w2 ⟨a, c, rows, A, Cp, R, lv, rfl, hR1, hR5, hl1, hl2, d, g⟩
  simp (disch := omega) only [go_sem, Nat.reduceEqDiff, ↓reduceIte, Nat.reduceAdd, Try.results43]
  exact ⟨a, c, rows, A, Cp, lv, rfl, hl1, hl2, d.at (by omega), g.ext x1 fun b hb => by simp at hb; omega⟩

theorem lakes_turned {rows : List (List Int)} (v : Valid rows) {lv : Int} (hv : lvok rows lv = true) : lakesOf (turned rows) lv = lakesOf rows lv := by
  obtain ⟨vm, lm, cm, hm⟩ := turned_ok v hv
  simp only [lakesOf, hv, lm, if_true, turned_len, cm]
  rw [lake_sym (turn_sym8 rows.length (rowLen rows)) (P := watB (hgt rows) lv) (Q := watB (hgt (turned rows)) lv) fun i hi => by simp only [watB, hm i hi]]
theorem lakes_mirrored {rows : List (List Int)} (v : Valid rows) {lv : Int} (hv : lvok rows lv = true) : lakesOf (mirrored rows) lv = lakesOf rows lv := by
  obtain ⟨vm, lm, cm, hm⟩ := mirrored_ok v hv
  simp only [lakesOf, hv, lm, if_true, mirrored_len, cm]
  rw [lake_sym (mir_sym8 rows.length (rowLen rows)) (P := watB (hgt rows) lv) (Q := watB (hgt (mirrored rows)) lv) fun i hi => by simp only [watB, hm i hi]]

set_option maxRecDepth 20000 in
theorem lakes_law_c (a : Option Addr) (l : List Int) (c : Nat) (w : World) (hl : l.length ≤ c) (hc : c ≤ maxLen) (hs : ByteS w a l) :
    Ret Try.prog 11 #[.slice a l.length c] w fun v w' => v = .bool true ∧ Ext w w' := by
  have hmax := maxLen_le (Nat.le_trans hl hc)
  refine enter1 Try.func11 rfl (by kernel_rfl) (of_decide_eq_true (by kernel_rfl)) fun f a0 => ?_
  by_cases hbig : (1048576 : Int) < l.length
  · simp (disch := omega) only [go_sem, Nat.reduceEqDiff, ↓reduceIte, Nat.reduceAdd, a0, hbig, Try.results11]
    exact ⟨trivial, Ext.refl _⟩
  simp (disch := omega) only [go_sem, Nat.reduceEqDiff, ↓reduceIte, Nat.reduceAdd, a0, hbig]
  refine callK_of (by kernel_rfl) (drawLevelLakes_c _ _ _ _ hl hc hs) ?_
  rintro _ w1 ⟨ga, gc, rows, A, Cp, lv, rfl, hl1, hl2, hr, x1⟩
  simp (disch := omega) only [go_sem, Nat.reduceEqDiff, ↓reduceIte, Nat.reduceAdd]
  refine callK_of (by kernel_rfl) (implLevelLakes_c _ _ _ _ _ _ _ hr) ?_
  rintro _ w2 ⟨rfl, x2⟩
  simp (disch := omega) only [go_sem, Nat.reduceEqDiff, ↓reduceIte, Nat.reduceAdd]
  refine callK_of (by kernel_rfl) (specLevelLakes_c _ _ _ _ _ _ _ (hr.ext x2)) ?_
  rintro _ w3 ⟨rfl, x3⟩
  have hne : (lakesOf rows lv != lakesOf rows lv) = false := bne_self_eq_false _
  have x13 := (x1.trans x2).trans x3
  have r3 := (hr.ext x2).ext x3
  cases hv : lvok rows lv with
  | false =>
    have hlt : lakesOf rows lv < 0 := by simp [lakesOf, hv]
    simp (disch := omega) only [go_sem, Nat.reduceEqDiff, ↓reduceIte, Nat.reduceAdd, hne, hlt, beq_self_eq_true, Try.results11]
    exact ⟨trivial, x13⟩
  | true =>
    obtain ⟨hgv, hl0, hl99⟩ := lv_parts hv
    have v := (gvalid_iff rows).1 hgv
    have hn49 := v.gd.le
    have hpos := v.gd.pos
    have hr1 := v.gd.r1
    have hr7 := v.gd.r7
    have hc7 := v.gd.c7
    have hout : lakesOf rows lv = (lakeN rows.length (rowLen rows) (watB (hgt rows) lv) : Nat) := by simp [lakesOf, hv]
    have hnn : ¬ lakesOf rows lv < 0 := by omega
    have hlb : lakeN rows.length (rowLen rows) (watB (hgt rows) lv) ≤ rows.length * rowLen rows := cntp_le _ _
    have hland : landOf rows lv = (cntp (fun i => lv ≤ hgt rows i) (rows.length * rowLen rows) : Nat) := by simp [landOf, hv]
    have hcw : cntp (fun i => watB (hgt rows) lv i = false) (rows.length * rowLen rows) = cntp (fun i => lv ≤ hgt rows i) (rows.length * rowLen rows) := cntp_congr fun i _ => by simp [watB]
    have hll := fun h => lake_land (R := rows.length) (C := rowLen rows) (act := watB (hgt rows) lv) h
    rw [hcw] at hll
    have heq : (lakesOf rows lv == lakesOf rows lv) = true := beq_self_eq_true _
    obtain ⟨gb, go, rb, ro, hga, -, hg⟩ := hr.grid v
    subst hga
    have tn := lakes_turned v hv
    have mn := lakes_mirrored v hv
    simp (disch := omega) only [go_sem, Nat.reduceEqDiff, ↓reduceIte, Nat.reduceAdd, hne, hnn]
    refine callK_of (by kernel_rfl) (turn_c _ _ _ _ _ _ r3 hgv) ?_
    rintro _ w4 ⟨b, A', Cp', rfl, x4, rt⟩
    simp (disch := omega) only [go_sem, Nat.reduceEqDiff, ↓reduceIte, Nat.reduceAdd]
    refine callK_of (by kernel_rfl) (mirror_c _ _ _ _ _ _ (r3.ext x4) hgv) ?_
    rintro _ w5 ⟨b2, A2, Cp2, rfl, x5, rm⟩
    have r5 := (r3.ext x4).ext x5
    have g0 := ((((hg.ext x2).ext x3).ext x4).ext x5).row 0 (by omega)
    simp only [Nat.add_zero] at g0
    have fin : ∀ (W : World) (K : Value → World → Prop), True := fun _ _ => trivial
    rcases Classical.em (lakesOf rows lv = 0) with h0 | h0
    · have hz : (lakesOf rows lv == 0) = true := by simp [h0]
      rcases Classical.em ((rows.length : Int) < 3) with ht | ht
      · simp (disch := omega) only [go_sem, Nat.reduceEqDiff, ↓reduceIte, Nat.reduceAdd, ht]
        refine callK_of (by kernel_rfl) (implLevelLakes_c _ _ _ _ _ _ _ (rt.ext x5)) ?_
        rintro _ w6 ⟨rfl, x6⟩
        simp (disch := omega) only [go_sem, Nat.reduceEqDiff, ↓reduceIte, Nat.reduceAdd, tn, heq]
        refine callK_of (by kernel_rfl) (implLevelLakes_c _ _ _ _ _ _ _ (rm.ext x6)) ?_
        rintro _ w7 ⟨rfl, x7⟩
        simp (disch := omega) only [go_sem, Nat.reduceEqDiff, ↓reduceIte, Nat.reduceAdd, mn, heq, hz, Try.results11]
        exact ⟨by first | trivial | rfl | simp only [tup, updO_some, updO_none, upd_apply, Nat.reduceEqDiff, ↓reduceIte], (((x13.trans x4).trans x5).trans x6).trans x7⟩
      · simp (disch := omega) only [go_sem, Nat.reduceEqDiff, ↓reduceIte, Nat.reduceAdd, ht, g0]
        refine callK_of (by kernel_rfl) (implLevelLakes_c _ _ _ _ _ _ _ (rt.ext x5)) ?_
        rintro _ w6 ⟨rfl, x6⟩
        simp (disch := omega) only [go_sem, Nat.reduceEqDiff, ↓reduceIte, Nat.reduceAdd, tn, heq]
        refine callK_of (by kernel_rfl) (implLevelLakes_c _ _ _ _ _ _ _ (rm.ext x6)) ?_
        rintro _ w7 ⟨rfl, x7⟩
        simp (disch := omega) only [go_sem, Nat.reduceEqDiff, ↓reduceIte, Nat.reduceAdd, mn, heq, hz, Try.results11]
        exact ⟨by first | trivial | rfl | simp only [tup, updO_some, updO_none, upd_apply, Nat.reduceEqDiff, ↓reduceIte], (((x13.trans x4).trans x5).trans x6).trans x7⟩
    · have hz : (lakesOf rows lv == 0) = false := by simp [h0]
      obtain ⟨hR3, hC3, h4, hlt⟩ := hll (by omega)
      have ht : ¬ (rows.length : Int) < 3 := by omega
      have hc3 : ¬ (rowLen rows : Int) < 3 := by omega
      have hmin : min (1 : Int) (lakesOf rows lv) = 1 := by omega
      have h4' : 4 * (1 : Int) ≤ landOf rows lv := by omega
      have h4'' : (4 : Int) ≤ landOf rows lv := by omega
      have hlc : landOf rows lv < ((rows.length * rowLen rows : Nat) : Int) := by omega
      simp (disch := omega) only [go_sem, Nat.reduceEqDiff, ↓reduceIte, Nat.reduceAdd, ht, g0, hc3]
      refine callK_of (by kernel_rfl) (implLevelLakes_c _ _ _ _ _ _ _ (rt.ext x5)) ?_
      rintro _ w6 ⟨rfl, x6⟩
      simp (disch := omega) only [go_sem, Nat.reduceEqDiff, ↓reduceIte, Nat.reduceAdd, tn, heq]
      refine callK_of (by kernel_rfl) (implLevelLakes_c _ _ _ _ _ _ _ (rm.ext x6)) ?_
      rintro _ w7 ⟨rfl, x7⟩
      simp (disch := omega) only [go_sem, Nat.reduceEqDiff, ↓reduceIte, Nat.reduceAdd, mn, heq, hz, hc3]
      refine callK_of (by kernel_rfl) (implLevelLand_c _ _ _ _ _ _ _ ((r5.ext x6).ext x7)) ?_
      rintro _ w8 ⟨rfl, x8⟩
      simp (disch := omega) only [go_sem, Nat.reduceEqDiff, ↓reduceIte, Nat.reduceAdd, hmin, h4', h4'', Int.reduceMul]
      refine callK_of (by kernel_rfl) (implLevelLand_c _ _ _ _ _ _ _ (((r5.ext x6).ext x7).ext x8)) ?_
      rintro _ w9 ⟨rfl, x9⟩
      simp (disch := omega) only [go_sem, Nat.reduceEqDiff, ↓reduceIte, Nat.reduceAdd]
      refine callK_of (by kernel_rfl) (cellsOf_c _ _ _ _ _ _ ((((r5.ext x6).ext x7).ext x8).ext x9) v) ?_
      rintro _ w10 ⟨rfl, x10⟩
      simp (disch := omega) only [go_sem, Nat.reduceEqDiff, ↓reduceIte, Nat.reduceAdd, hlc, Try.results11]
      exact ⟨trivial, ((((((x13.trans x4).trans x5).trans x6).trans x7).trans x8).trans x9).trans x10⟩
end Go.Proofs.Ytdlepfeckiahdaa
