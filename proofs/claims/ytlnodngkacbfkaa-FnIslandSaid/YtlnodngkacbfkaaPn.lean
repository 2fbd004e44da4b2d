/- The law FnIsland: contract. -/
import Derived.Test.YtlnodngkacbfkaaPx
import Derived.Test.YtlnodngkacbfkaaLu
set_option linter.all false
set_option maxRecDepth 20000
namespace Go.SW
open Go Go.RowKit
theorem top_in (h : Nat → Int) (p : Nat → Prop) : ∀ n, (∃ i, i < n ∧ p i) → ∃ x, x < n ∧ p x ∧ ∀ j, j < n → p j → hiB h j x = false
  | 0, ⟨i, hi, _⟩ => by omega
  | n + 1, ⟨i, hi, hp⟩ => by
    rcases Classical.em (∃ i, i < n ∧ p i) with he | he
    · obtain ⟨x, hx, hpx, hj⟩ := top_in h p n he
      rcases Classical.em (p n ∧ hiB h n x = true) with ⟨h1, h2⟩ | h1
      · refine ⟨n, by omega, h1, fun j hjn hpj => ?_⟩
        by_cases e : j = n
        · subst e; exact hiB_irr h j
        · exact (hiB_ahead h).tr _ _ _ (hj j (by omega) hpj) ((hiB_ahead h).asy _ _ h2)
      · refine ⟨x, by omega, hpx, fun j hjn hpj => ?_⟩
        by_cases e : j = n
        · subst e
          cases e2 : hiB h j x with
          | false => rfl
          | true => exact absurd ⟨hpj, e2⟩ h1
        · exact hj j (by omega) hpj
    · have e : i = n := by
        rcases Classical.em (i = n) with e | e
        · exact e
        · exact absurd ⟨i, by omega, hp⟩ he
      subst e
      refine ⟨i, by omega, hp, fun j hjn hpj => ?_⟩
      by_cases e : j = i
      · subst e; exact hiB_irr h j
      · exact absurd ⟨j, by omega, hpj⟩ he
theorem numOf_edge {R C : Nat} {act : Nat → Bool} {i j : Nat} (hi : i < R * C) (hj : j ∈ nearN R C i) (ai : act i = true) (aj : act j = true) : numOf (nearN R C) act (R * C) j = numOf (nearN R C) act (R * C) i := by
  have e := rep_eqv (nb := nearN R C) (act := act) (n := R * C) near_ok (.base (⟨hi, hj, ai, aj⟩ : Edg (nearN R C) act (R * C) i j))
  simp only [numOf, ai, aj, if_true, e]
theorem isl_pos {rows : List (List Int)} {lv : Int} (hv : gvalid rows = true) {k : Nat} (hk : k < compOf rows lv) : 0 < islN rows lv k := by
  have v := (gvalid_iff rows).1 hv
  obtain ⟨r, hr, ha, hn⟩ := numOf_at hk
  obtain ⟨x, hx, hpx, htop⟩ := top_in (hgt rows) (fun i => landN rows lv i = (k : Int)) (rows.length * rowLen rows) ⟨r, hr, hn⟩
  have ax : landB (hgt rows) lv x = true := numOf_ge (nb := nearN rows.length (rowLen rows)) (n := rows.length * rowLen rows) (by
    have : numOf (nearN rows.length (rowLen rows)) (landB (hgt rows) lv) (rows.length * rowLen rows) x = (k : Int) := hpx
    omega)
  refine (cntp_posI _).2 ⟨x, hx, decide_eq_true hpx, ?_⟩
  rw [peakB, List.all_eq_true]
  intro j hj
  have hjn := nearN_lt hx j hj
  cases e : hiB (hgt rows) j x with
  | false => rfl
  | true =>
    have aj : landB (hgt rows) lv j = true := by
      simp only [landB, decide_eq_true_eq] at ax ⊢
      simp only [hiB, decide_eq_true_eq] at e
      omega
    have h1 : landN rows lv j = (k : Int) := (numOf_edge hx hj ax aj).trans hpx
    have h2 := htop j hjn h1
    rw [e] at h2; cases h2
theorem isl_le (rows : List (List Int)) (lv k : Int) : islN rows lv k ≤ lvCells rows lv k := by
  simp only [islN, lvCells, areaN]
  exact cntp_le_of _ _ (fun i h => of_decide_eq_true h.1) _
theorem isl_sum (rows : List (List Int)) (lv : Int) : sumN (fun k => islN rows lv (k : Int)) (compOf rows lv) = cntp (fun i => landB (hgt rows) lv i = true ∧ peakB rows.length (rowLen rows) (hgt rows) i = true) (rows.length * rowLen rows) := by
  have e : sumN (fun k => islN rows lv (k : Int)) (compOf rows lv) = sumN (fun k => sumN (fun i => if (decide (landN rows lv i = (k : Int)) = true ∧ peakB rows.length (rowLen rows) (hgt rows) i = true) then 1 else 0) (rows.length * rowLen rows)) (compOf rows lv) := sumN_congr fun k _ => (sumN_cntp _ _).symm
  rw [e, sumN_swap, ← sumN_cntp]
  refine sumN_congr fun i hi => ?_
  cases hp : peakB rows.length (rowLen rows) (hgt rows) i with
  | false =>
    simp only [Bool.false_eq_true, and_false, if_false]
    exact sumN_zero _
  | true =>
    simp only [and_true]
    by_cases ha : landB (hgt rows) lv i = true
    · rw [if_pos ha]
      obtain ⟨h1, h2⟩ := numOf_lt (nb := nearN rows.length (rowLen rows)) near_ok hi ha
      have hl : landN rows lv i = numOf (nearN rows.length (rowLen rows)) (landB (hgt rows) lv) (rows.length * rowLen rows) i := rfl
      refine (sumN_congr fun k _ => ?_).trans (sumN_single (n := compOf rows lv) (a := (landN rows lv i).toNat) (by simp only [compOf]; omega) 1)
      by_cases hk : k = (landN rows lv i).toNat
      · rw [if_pos hk, if_pos (decide_eq_true (by omega))]
      · rw [if_neg hk, if_neg (by simp only [decide_eq_true_eq]; omega)]
    · rw [if_neg ha]
      have h1 : landN rows lv i = -1 := numOf_none (by simpa using ha)
      exact (sumN_congr (g := fun _ => 0) fun k _ => by rw [h1, if_neg (by simp only [decide_eq_true_eq]; omega)]).trans (sumN_zero _)
end Go.SW
namespace Go.Proofs.Ytlnodngkacbfkaa
open Go.RowKit Go.SW
attribute [local irreducible] callK bslK

theorem drawPeakIsland_c (a : Option Addr) (l : List Int) (c : Nat) (w : World) (hl : l.length ≤ c) (hc : c ≤ maxLen) (hs : ByteS w a l) :
    Ret Try.prog 51 #[.slice a l.length c] w fun v w' => ∃ a c rows A Cp lv num, v = .tuple #[.slice a rows.length c, .int .i64 lv, .int .i64 num] ∧ -2 ≤ lv ∧ lv ≤ 102 ∧ -1 ≤ num ∧ num ≤ 3 ∧ RowsAt w' a rows A Cp ∧ Ext w w' := by
  refine enter1 Try.func51 rfl (by kernel_rfl) (of_decide_eq_true (by kernel_rfl)) fun f a0 => ?_
  simp (disch := omega) only [go_sem, Nat.reduceEqDiff, ↓reduceIte, Nat.reduceAdd, a0]
  refine callK_of (by kernel_rfl) (drawLevelArea_c _ _ _ _ hl hc hs) ?_
  rintro _ w1 ⟨ga, gc, rows, A, Cp, lv, num, rfl, hl1, hl2, hn1, hn2, hr, x1⟩
  simp (disch := omega) only [go_sem, Nat.reduceEqDiff, ↓reduceIte, Nat.reduceAdd, Try.results51]
  exact ⟨ga, gc, rows, A, Cp, lv, num, rfl, hl1, hl2, hn1, hn2, hr, x1⟩

theorem island_law_c (a : Option Addr) (l : List Int) (c : Nat) (w : World) (hl : l.length ≤ c) (hc : c ≤ maxLen) (hs : ByteS w a l) :
    Ret Try.prog 13 #[.slice a l.length c] w fun v w' => v = .bool true ∧ Ext w w' := by
  have hmax := maxLen_le (Nat.le_trans hl hc)
  refine enter1 Try.func13 rfl (by kernel_rfl) (of_decide_eq_true (by kernel_rfl)) fun f a0 => ?_
  by_cases hbig : (1048576 : Int) < l.length
  · simp (disch := omega) only [go_sem, Nat.reduceEqDiff, ↓reduceIte, Nat.reduceAdd, a0, hbig, Try.results13]
    exact ⟨trivial, Ext.refl _⟩
  simp (disch := omega) only [go_sem, Nat.reduceEqDiff, ↓reduceIte, Nat.reduceAdd, a0, hbig]
  refine callK_of (by kernel_rfl) (drawPeakIsland_c _ _ _ _ hl hc hs) ?_
  rintro _ w1 ⟨ga, gc, rows, A, Cp, lv, num, rfl, hl1, hl2, hn1, hn2, hr, x1⟩
  simp (disch := omega) only [go_sem, Nat.reduceEqDiff, ↓reduceIte, Nat.reduceAdd]
  refine callK_of (by kernel_rfl) (implPeakIsland_c _ _ _ _ _ _ _ _ hr) ?_
  rintro _ w2 ⟨rfl, x2⟩
  simp (disch := omega) only [go_sem, Nat.reduceEqDiff, ↓reduceIte, Nat.reduceAdd]
  refine callK_of (by kernel_rfl) (specPeakIsland_c _ _ _ _ _ _ _ _ (hr.ext x2)) ?_
  rintro _ w3 ⟨rfl, x3⟩
  have hne : (islOf rows lv num != islOf rows lv num) = false := bne_self_eq_false _
  have x13 := (x1.trans x2).trans x3
  have r3 := (hr.ext x2).ext x3
  by_cases hok : lvok rows lv = true ∧ 0 ≤ num ∧ num < (compOf rows lv : Nat)
  · obtain ⟨hv, hk0, hk1⟩ := hok
    obtain ⟨hgv, hl0, hl99⟩ := lv_parts hv
    have v := (gvalid_iff rows).1 hgv
    have hn49 := v.gd.le
    have hpos := v.gd.pos
    have hcomp := comp_le (nearN rows.length (rowLen rows)) (landB (hgt rows) lv) (rows.length * rowLen rows)
    have hcl := cntp_le (fun i => landB (hgt rows) lv i = true) (rows.length * rowLen rows)
    have hsum := isl_sum rows lv
    have hcomp' : compOf rows lv ≤ 49 := by simp only [compOf]; omega
    obtain ⟨kn, rfl⟩ := Int.eq_ofNat_of_zero_le hk0
    have hout : islOf rows lv kn = (islN rows lv kn : Nat) := by rw [islOf, if_pos ⟨hv, hk0, hk1⟩]
    have hip := isl_pos (lv := lv) hgv (k := kn) (by omega)
    have hbd : ∀ k, islN rows lv k ≤ 49 := fun k => by
      have := cntp_le (fun i => decide (landN rows lv i = k) = true ∧ peakB rows.length (rowLen rows) (hgt rows) i = true) (rows.length * rowLen rows)
      simp only [islN]; omega
    have hnn : ¬ islOf rows lv kn < 0 := by omega
    have h1 : 1 ≤ islOf rows lv kn := by omega
    have hia : islOf rows lv kn ≤ areaOf rows lv kn := by
      have := isl_le rows lv kn
      rw [hout, areaOf, if_pos ⟨hv, hk0, hk1⟩]; omega
    simp (disch := omega) only [go_sem, Nat.reduceEqDiff, ↓reduceIte, Nat.reduceAdd, hne, hnn]
    refine callK_of (by kernel_rfl) (implLevelRegions_c _ _ _ _ _ _ _ r3) ?_
    rintro _ w4 ⟨rfl, x4⟩
    have hreg : regionsOf rows lv = (compOf rows lv : Nat) := by simp [regionsOf, hv]
    have r4 := r3.ext x4
    simp (disch := omega) only [go_sem, Nat.reduceEqDiff, ↓reduceIte, Nat.reduceAdd, hreg]
    refine loopN (compOf rows lv) (fun k f W => f 3 = .slice ga rows.length gc ∧ f 4 = .int .i64 lv ∧ f 5 = .int .i64 kn ∧ f 6 = .int .i64 (islOf rows lv kn) ∧ f 8 = .int .i64 (sumN (fun k => islN rows lv (k : Int)) k : Nat) ∧ f 9 = .int .i64 (compOf rows lv : Nat) ∧ f 10 = .int .i64 k ∧ Ext w4 W ∧ sumN (fun k => islN rows lv (k : Int)) k ≤ k * 49) ⟨(by first | assumption | (simp only [upd_apply, Nat.reduceEqDiff, ↓reduceIte] <;> first | rfl | assumption) | simp [upd_apply, *]), (by first | assumption | (simp only [upd_apply, Nat.reduceEqDiff, ↓reduceIte] <;> first | rfl | assumption) | simp [upd_apply, *]), (by first | assumption | (simp only [upd_apply, Nat.reduceEqDiff, ↓reduceIte] <;> first | rfl | assumption) | simp [upd_apply, *]), (by first | assumption | (simp only [upd_apply, Nat.reduceEqDiff, ↓reduceIte] <;> first | rfl | assumption) | simp [upd_apply, *]), by simp [upd_apply, sumN], (by first | assumption | (simp only [upd_apply, Nat.reduceEqDiff, ↓reduceIte] <;> first | rfl | assumption) | simp [upd_apply, *]), (by first | assumption | (simp only [upd_apply, Nat.reduceEqDiff, ↓reduceIte] <;> first | rfl | assumption) | simp [upd_apply, *]), Ext.refl _, by simp [sumN]⟩ fun k f W hk ⟨a3, a4, a5, a6, a8, a9, a10, xW, hsb⟩ => ?_
    by_cases hlt : (k : Int) < (compOf rows lv : Nat)
    · have hkn : k < compOf rows lv := by omega
      have hak : islOf rows lv (k : Int) = (islN rows lv (k : Int) : Nat) := by rw [islOf, if_pos ⟨hv, by omega, hlt⟩]
      have hbk := hbd (k : Int)
      simp (disch := omega) only [go_sem, Nat.reduceEqDiff, ↓reduceIte, Nat.reduceAdd, a3, a4, a8, a9, a10, hlt]
      refine callK_of (by kernel_rfl) (implPeakIsland_c _ _ _ _ _ _ _ _ (r4.ext xW)) ?_
      rintro _ w5 ⟨rfl, x5⟩
      have hsb' : sumN (fun k => islN rows lv (k : Int)) k ≤ 2401 := by omega
      simp (disch := omega) only [go_sem, Nat.reduceEqDiff, ↓reduceIte, Nat.reduceAdd, hak, a10]
      exact ⟨hkn, (by first | assumption | (simp only [upd_apply, Nat.reduceEqDiff, ↓reduceIte] <;> first | rfl | assumption) | simp [upd_apply, *]), (by first | assumption | (simp only [upd_apply, Nat.reduceEqDiff, ↓reduceIte] <;> first | rfl | assumption) | simp [upd_apply, *]), (by first | assumption | (simp only [upd_apply, Nat.reduceEqDiff, ↓reduceIte] <;> first | rfl | assumption) | simp [upd_apply, *]), (by first | assumption | (simp only [upd_apply, Nat.reduceEqDiff, ↓reduceIte] <;> first | rfl | assumption) | simp [upd_apply, *]), by simp [upd_apply, sumN], (by first | assumption | (simp only [upd_apply, Nat.reduceEqDiff, ↓reduceIte] <;> first | rfl | assumption) | simp [upd_apply, *]), (by first | assumption | (simp only [upd_apply, Nat.reduceEqDiff, ↓reduceIte] <;> first | rfl | assumption) | simp [upd_apply, *]), xW.trans x5, by simp only [sumN]; omega⟩
    · have e : k = compOf rows lv := by omega
      rw [e, hsum] at a8
      simp (disch := omega) only [go_sem, Nat.reduceEqDiff, ↓reduceIte, Nat.reduceAdd, a3, a9, a10, hlt]
      refine callK_of (by kernel_rfl) (peakList_c _ _ _ _ _ _ (r4.ext xW)) ?_
      rintro _ w5 ⟨pa, pc, rfl, po, pf, x5⟩
      have hP : peakListOf rows = peaksL rows.length (rowLen rows) (hgt rows) := by rw [peakListOf, if_pos hgv]
      have hPm : ∀ x ∈ peakListOf rows, x < rows.length * rowLen rows := fun x hx => by rw [hP] at hx; exact (mem_peaksTo.1 hx).1
      have hPl := peakListOf_len rows
      have hPc := peaksTo_cnt rows.length (rowLen rows) (hgt rows) (landB (hgt rows) lv) (rows.length * rowLen rows)
      rw [← peaksL, ← hP] at hPc
      generalize peakListOf rows = P at *
      have r5 := (r4.ext xW).ext x5
      simp (disch := omega) only [go_sem, Nat.reduceEqDiff, ↓reduceIte, Nat.reduceAdd]
      refine loopN P.length (fun k f V => f 3 = .slice ga rows.length gc ∧ f 4 = .int .i64 lv ∧ f 5 = .int .i64 kn ∧ f 6 = .int .i64 (islOf rows lv kn) ∧ f 8 = .int .i64 (P.countP (landB (hgt rows) lv) : Nat) ∧ f 11 = .slice pa (ni P).length pc ∧ f 12 = .int .i64 ((P.take k).countP (landB (hgt rows) lv) : Nat) ∧ f 13 = .int .i64 k ∧ Ext w5 V) ⟨(by first | assumption | (simp only [upd_apply, Nat.reduceEqDiff, ↓reduceIte] <;> first | rfl | assumption) | simp [upd_apply, *]), (by first | assumption | (simp only [upd_apply, Nat.reduceEqDiff, ↓reduceIte] <;> first | rfl | assumption) | simp [upd_apply, *]), (by first | assumption | (simp only [upd_apply, Nat.reduceEqDiff, ↓reduceIte] <;> first | rfl | assumption) | simp [upd_apply, *]), (by first | assumption | (simp only [upd_apply, Nat.reduceEqDiff, ↓reduceIte] <;> first | rfl | assumption) | simp [upd_apply, *]), by simp [upd_apply, a8, hPc], (by first | assumption | (simp only [upd_apply, Nat.reduceEqDiff, ↓reduceIte] <;> first | rfl | assumption) | simp [upd_apply, *]), by simp [upd_apply], (by first | assumption | (simp only [upd_apply, Nat.reduceEqDiff, ↓reduceIte] <;> first | rfl | assumption) | simp [upd_apply, *]), Ext.refl _⟩ fun k f V hk ⟨a3, a4, a5, a6, a8, a11, a12, a13, xV⟩ => ?_
      by_cases hlk : (k : Int) < (ni P).length
      · have hkl : k < P.length := by rw [ni_len] at hlk; omega
        obtain ⟨lb, rfl⟩ := po.some (by rw [ni_len]; omega)
        have g0 : V.cell? ⟨lb, k, none⟩ = some (.int .i64 (P.getD k 0 : Nat)) := by rw [(po.ext xV).cell (by rw [ni_len]; omega), vi_get _ _ (by rw [ni_len]; omega), ni_get _ hkl]
        have hx := hPm _ (getD_mem (d := 0) hkl)
        have hst := countP_tk (p := landB (hgt rows) lv) hkl
        have hcl : (P.take k).countP (landB (hgt rows) lv) ≤ k := by
          refine Nat.le_trans List.countP_le_length ?_
          rw [List.length_take]; omega
        generalize P.getD k 0 = x at *
        simp (disch := omega) only [go_sem, Nat.reduceEqDiff, ↓reduceIte, Nat.reduceAdd, a3, a11, a13, hlk, g0]
        refine callK_pure (by kernel_rfl) (heightOf_c _ _ _ _ _ _ (r5.ext xV) v (x : Int) (by omega) (by omega)) fun w6 x6 => ?_
        by_cases hle : lv ≤ hgt rows x
        · have hb : landB (hgt rows) lv x = true := by simp [landB, hle]
          simp (disch := omega) only [go_sem, Nat.reduceEqDiff, ↓reduceIte, Nat.reduceAdd, Int.toNat_natCast, a4, a12, a13, hle]
          exact ⟨hkl, (by first | assumption | (simp only [upd_apply, Nat.reduceEqDiff, ↓reduceIte] <;> first | rfl | assumption) | simp [upd_apply, *]), (by first | assumption | (simp only [upd_apply, Nat.reduceEqDiff, ↓reduceIte] <;> first | rfl | assumption) | simp [upd_apply, *]), (by first | assumption | (simp only [upd_apply, Nat.reduceEqDiff, ↓reduceIte] <;> first | rfl | assumption) | simp [upd_apply, *]), (by first | assumption | (simp only [upd_apply, Nat.reduceEqDiff, ↓reduceIte] <;> first | rfl | assumption) | simp [upd_apply, *]), (by first | assumption | (simp only [upd_apply, Nat.reduceEqDiff, ↓reduceIte] <;> first | rfl | assumption) | simp [upd_apply, *]), (by first | assumption | (simp only [upd_apply, Nat.reduceEqDiff, ↓reduceIte] <;> first | rfl | assumption) | simp [upd_apply, *]), by simp [upd_apply, hst, hb], (by first | assumption | (simp only [upd_apply, Nat.reduceEqDiff, ↓reduceIte] <;> first | rfl | assumption) | simp [upd_apply, *]), xV.trans x6⟩
        · have hb : landB (hgt rows) lv x = false := by simp [landB, hle]
          simp (disch := omega) only [go_sem, Nat.reduceEqDiff, ↓reduceIte, Nat.reduceAdd, Int.toNat_natCast, a4, a13, hle]
          exact ⟨hkl, (by first | assumption | (simp only [upd_apply, Nat.reduceEqDiff, ↓reduceIte] <;> first | rfl | assumption) | simp [upd_apply, *]), (by first | assumption | (simp only [upd_apply, Nat.reduceEqDiff, ↓reduceIte] <;> first | rfl | assumption) | simp [upd_apply, *]), (by first | assumption | (simp only [upd_apply, Nat.reduceEqDiff, ↓reduceIte] <;> first | rfl | assumption) | simp [upd_apply, *]), (by first | assumption | (simp only [upd_apply, Nat.reduceEqDiff, ↓reduceIte] <;> first | rfl | assumption) | simp [upd_apply, *]), (by first | assumption | (simp only [upd_apply, Nat.reduceEqDiff, ↓reduceIte] <;> first | rfl | assumption) | simp [upd_apply, *]), (by first | assumption | (simp only [upd_apply, Nat.reduceEqDiff, ↓reduceIte] <;> first | rfl | assumption) | simp [upd_apply, *]), by simp [upd_apply, hst, hb, a12], (by first | assumption | (simp only [upd_apply, Nat.reduceEqDiff, ↓reduceIte] <;> first | rfl | assumption) | simp [upd_apply, *]), xV.trans x6⟩
      · have e : k = P.length := by rw [ni_len] at hlk; omega
        rw [e, List.take_length] at a12
        have heq : (((P.countP (landB (hgt rows) lv) : Nat) : Int) == ((P.countP (landB (hgt rows) lv) : Nat) : Int)) = true := beq_self_eq_true _
        simp (disch := omega) only [go_sem, Nat.reduceEqDiff, ↓reduceIte, Nat.reduceAdd, a3, a4, a5, a6, a11, a13, hlk, h1]
        refine callK_of (by kernel_rfl) (implLevelArea_c _ _ _ _ _ _ _ _ (r5.ext xV)) ?_
        rintro _ w6 ⟨rfl, x6⟩
        simp (disch := omega) only [go_sem, Nat.reduceEqDiff, ↓reduceIte, Nat.reduceAdd, a8, a12, hia, heq, Try.results13]
        exact ⟨trivial, ((((x13.trans x4).trans xW).trans x5).trans xV).trans x6⟩
  · have hlt : islOf rows lv num = -1 := by rw [islOf, if_neg hok]
    have hlt' : islOf rows lv num < 0 := by omega
    have heq : (islOf rows lv num == islOf rows lv num) = true := beq_self_eq_true _
    simp (disch := omega) only [go_sem, Nat.reduceEqDiff, ↓reduceIte, Nat.reduceAdd, hne, hlt', heq, Try.results13]
    exact ⟨trivial, x13⟩
end Go.Proofs.Ytlnodngkacbfkaa
