/- Contracts: sides, corners, shore and Euler number of the reference; grids turned and mirrored. -/
import Derived.Test.YtdlepfeckiahdaaLa
import Derived.Test.YtdlepfeckiahdaaLl
set_option linter.all false
namespace Go.Proofs.Ytdlepfeckiahdaa
open Go.RowKit Go.SW

theorem specLevelSides_c (a : Option Addr) (rows : List (List Int)) (A : Nat → Option Addr) (Cp : Nat → Nat) (gc : Nat) (lv : Int) (w : World) (hr : RowsAt w a rows A Cp) :
    Ret Try.prog 29 #[.slice a rows.length gc, .int .i64 lv] w fun v w' => v = .int .i64 (sidesOf rows lv) ∧ Ext w w' := by
  refine enter2 Try.func29 rfl (by kernel_rfl) (of_decide_eq_true (by kernel_rfl)) fun f a0 a1 => ?_
  simp (disch := omega) only [go_sem, Nat.reduceEqDiff, ↓reduceIte, Nat.reduceAdd, a0, a1]
  refine callK_pure (by kernel_rfl) (l3Ok_c _ _ _ _ _ _ _ hr) fun w1 x1 => ?_
  cases hlv : lvok rows lv with
  | false =>
    simp (disch := omega) only [go_sem, Nat.reduceEqDiff, ↓reduceIte, Nat.reduceAdd, Try.results29]
    exact ⟨by simp [sidesOf, hlv], x1⟩
  | true =>
    obtain ⟨hv, hl0⟩ := lv_parts hlv
    have v := (gvalid_iff rows).1 hv
    have g := v.gd
    have hr1 := g.r1
    have hr7 := g.r7
    have hc1 := g.c1
    have hc7 := g.c7
    have hn49 := g.le
    obtain ⟨gb, go, rb, ro, rfl, -, hg⟩ := hr.grid v
    simp (disch := omega) only [go_sem, Nat.reduceEqDiff, ↓reduceIte, Nat.reduceAdd]
    refine loopN (rows.length * rowLen rows) (fun k f W => f 0 = .slice (some ⟨gb, go, none⟩) rows.length gc ∧ f 1 = .int .i64 lv ∧ f 5 = .int .i64 (sidesTo rows.length (rowLen rows) (hgt rows) lv k : Nat) ∧ f 6 = .int .i64 k ∧ Ext w W) ⟨(by first | assumption | (simp only [upd_apply, Nat.reduceEqDiff, ↓reduceIte] <;> first | rfl | assumption) | simp [upd_apply, *]), (by first | assumption | (simp only [upd_apply, Nat.reduceEqDiff, ↓reduceIte] <;> first | rfl | assumption) | simp [upd_apply, *]), (by first | assumption | (simp only [upd_apply, Nat.reduceEqDiff, ↓reduceIte] <;> first | rfl | assumption) | simp [upd_apply, *]), (by first | assumption | (simp only [upd_apply, Nat.reduceEqDiff, ↓reduceIte] <;> first | rfl | assumption) | simp [upd_apply, *]), x1⟩ fun k f W hk ⟨a0, a1, a5, a6, xw⟩ => ?_
    simp (disch := omega) only [go_sem, Nat.reduceEqDiff, ↓reduceIte, Nat.reduceAdd, a0, a6]
    refine callK_pure (by kernel_rfl) (l2Cells_c _ _ _ _ _ _ _ _ _ _ (hg.ext xw) v.r1 v.r7 v.c7) fun w2 x2 => ?_
    by_cases hlt : (k : Int) < (rows.length * rowLen rows : Nat)
    · have hkn : k < rows.length * rowLen rows := by omega
      have hdl := sidesTo_le rows.length (rowLen rows) (hgt rows) lv k
      simp (disch := omega) only [go_sem, Nat.reduceEqDiff, ↓reduceIte, Nat.reduceAdd, a0, a6, hlt]
      refine callK_of (by kernel_rfl) (l2Near_c gb go gc rb ro Cp _ _ _ _ (hg.ext (xw.trans x2)) g.r7 g.c7 k hkn) ?_
      rintro _ w6 ⟨na, nc, rfl, no, -, x6⟩
      have hn4 := nearN_len rows.length (rowLen rows) k
      simp (disch := omega) only [go_sem, Nat.reduceEqDiff, ↓reduceIte, Nat.reduceAdd]
      refine loopN (nearN rows.length (rowLen rows) k).length (fun m f V => f 0 = .slice (some ⟨gb, go, none⟩) rows.length gc ∧ f 1 = .int .i64 lv ∧ f 5 = .int .i64 (sidesTo rows.length (rowLen rows) (hgt rows) lv k + ((nearN rows.length (rowLen rows) k).take m).countP (sideP (hgt rows) lv k) : Nat) ∧ f 6 = .int .i64 k ∧
        f 7 = .slice na (nearN rows.length (rowLen rows) k).length nc ∧ f 8 = .int .i64 m ∧ Ext w6 V) ⟨(by first | assumption | (simp only [upd_apply, Nat.reduceEqDiff, ↓reduceIte] <;> first | rfl | assumption) | simp [upd_apply, *]), (by first | assumption | (simp only [upd_apply, Nat.reduceEqDiff, ↓reduceIte] <;> first | rfl | assumption) | simp [upd_apply, *]), by simp [upd_apply, a5], (by first | assumption | (simp only [upd_apply, Nat.reduceEqDiff, ↓reduceIte] <;> first | rfl | assumption) | simp [upd_apply, *]), (by first | assumption | (simp only [upd_apply, Nat.reduceEqDiff, ↓reduceIte] <;> first | rfl | assumption) | simp [upd_apply, *]), (by first | assumption | (simp only [upd_apply, Nat.reduceEqDiff, ↓reduceIte] <;> first | rfl | assumption) | simp [upd_apply, *]), Ext.refl _⟩ fun m f V hm ⟨a0, a1, a5, a6, a7, a8, xm⟩ => ?_
      by_cases hlm : (m : Int) < (nearN rows.length (rowLen rows) k).length
      · obtain ⟨nb, rfl⟩ := no.some (by omega)
        have hcp : ((nearN rows.length (rowLen rows) k).take m).countP (sideP (hgt rows) lv k) ≤ 4 := by
          have h1 : ((nearN rows.length (rowLen rows) k).take m).countP (sideP (hgt rows) lv k) ≤ ((nearN rows.length (rowLen rows) k).take m).length := List.countP_le_length
          rw [List.length_take] at h1; omega
        have hjk : (nearN rows.length (rowLen rows) k).getD m 0 < rows.length * rowLen rows := nearN_lt hkn _ (getD_mem (by omega))
        have g0' : ∀ {W' : World}, Ext V W' → W'.cell? ⟨nb, m, none⟩ = some (.int .i64 ((nearN rows.length (rowLen rows) k).getD m 0 : Nat)) := fun e => by rw [((no.ext xm).ext e).cell (by omega), vi_get _ _ (by rw [ni_len]; omega), ni_get _ (by omega)]
        have hstep := countP_take (l := nearN rows.length (rowLen rows) k) (p := sideP (hgt rows) lv k) (m := m) (by omega)
        generalize ((nearN rows.length (rowLen rows) k).take m).countP (sideP (hgt rows) lv k) = q at *
        generalize (nearN rows.length (rowLen rows) k).getD m 0 = j at *
        have gV := hg.ext (((xw.trans x2).trans x6).trans xm)
        have g0 := g0' (Ext.refl _)
        simp (disch := omega) only [go_sem, Nat.reduceEqDiff, ↓reduceIte, Nat.reduceAdd, a7, a8, hlm]
        refine QR_of (by kernel_rfl) (by kernel_rfl) ?_
        by_cases hij : (k : Int) < (j : Int)
        · simp (disch := omega) only [go_sem, Nat.reduceEqDiff, ↓reduceIte, Nat.reduceAdd, a0, a6, a7, a8, g0, hij]
          refine callK_q (by kernel_rfl) (fun w' e => l2Height_c _ _ _ _ _ _ _ _ (hgt rows) _ (gV.ext e) v.r7 v.c7 (k : Int) (by omega) (by omega)) ?_
          simp (disch := omega) only [go_sem, Nat.reduceEqDiff, ↓reduceIte, Nat.reduceAdd, a0, a7, a8, g0]
          refine callK_q (by kernel_rfl) (fun w' e => l2Height_c _ _ _ _ _ _ _ _ (hgt rows) _ (gV.ext e) v.r7 v.c7 (j : Int) (by omega) (by omega)) ?_
          by_cases hm2 : lv ≤ min (hgt rows k) (hgt rows j)
          · have hp : sideP (hgt rows) lv k j = true := by simp [sideP, landB]; omega
            rw [hp] at hstep
            simp (disch := omega) only [go_sem, Nat.reduceEqDiff, ↓reduceIte, Nat.reduceAdd, a1, a5, a8, hm2]
            exact fun W2 x2 => ⟨by omega, (by first | assumption | (simp only [upd_apply, Nat.reduceEqDiff, ↓reduceIte] <;> first | rfl | assumption) | simp [upd_apply, *]), (by first | assumption | (simp only [upd_apply, Nat.reduceEqDiff, ↓reduceIte] <;> first | rfl | assumption) | simp [upd_apply, *]), by simp [upd_apply, hstep]; omega, (by first | assumption | (simp only [upd_apply, Nat.reduceEqDiff, ↓reduceIte] <;> first | rfl | assumption) | simp [upd_apply, *]), (by first | assumption | (simp only [upd_apply, Nat.reduceEqDiff, ↓reduceIte] <;> first | rfl | assumption) | simp [upd_apply, *]), (by first | assumption | (simp only [upd_apply, Nat.reduceEqDiff, ↓reduceIte] <;> first | rfl | assumption) | simp [upd_apply, *]), xm.trans x2⟩
          · have hp : sideP (hgt rows) lv k j = false := by simp [sideP, landB]; omega
            rw [hp] at hstep
            simp (disch := omega) only [go_sem, Nat.reduceEqDiff, ↓reduceIte, Nat.reduceAdd, a1, a8, hm2]
            exact fun W2 x2 => ⟨by omega, (by first | assumption | (simp only [upd_apply, Nat.reduceEqDiff, ↓reduceIte] <;> first | rfl | assumption) | simp [upd_apply, *]), (by first | assumption | (simp only [upd_apply, Nat.reduceEqDiff, ↓reduceIte] <;> first | rfl | assumption) | simp [upd_apply, *]), by simp [upd_apply, hstep, a5], (by first | assumption | (simp only [upd_apply, Nat.reduceEqDiff, ↓reduceIte] <;> first | rfl | assumption) | simp [upd_apply, *]), (by first | assumption | (simp only [upd_apply, Nat.reduceEqDiff, ↓reduceIte] <;> first | rfl | assumption) | simp [upd_apply, *]), (by first | assumption | (simp only [upd_apply, Nat.reduceEqDiff, ↓reduceIte] <;> first | rfl | assumption) | simp [upd_apply, *]), xm.trans x2⟩
        · have hp : sideP (hgt rows) lv k j = false := by simp [sideP]; omega
          rw [hp] at hstep
          simp (disch := omega) only [go_sem, Nat.reduceEqDiff, ↓reduceIte, Nat.reduceAdd, a6, a7, a8, g0, hij]
          exact fun W2 x2 => ⟨by omega, (by first | assumption | (simp only [upd_apply, Nat.reduceEqDiff, ↓reduceIte] <;> first | rfl | assumption) | simp [upd_apply, *]), (by first | assumption | (simp only [upd_apply, Nat.reduceEqDiff, ↓reduceIte] <;> first | rfl | assumption) | simp [upd_apply, *]), by simp [upd_apply, hstep, a5], (by first | assumption | (simp only [upd_apply, Nat.reduceEqDiff, ↓reduceIte] <;> first | rfl | assumption) | simp [upd_apply, *]), (by first | assumption | (simp only [upd_apply, Nat.reduceEqDiff, ↓reduceIte] <;> first | rfl | assumption) | simp [upd_apply, *]), (by first | assumption | (simp only [upd_apply, Nat.reduceEqDiff, ↓reduceIte] <;> first | rfl | assumption) | simp [upd_apply, *]), xm.trans x2⟩
      · obtain rfl : m = (nearN rows.length (rowLen rows) k).length := by omega
        simp (disch := omega) only [go_sem, Nat.reduceEqDiff, ↓reduceIte, Nat.reduceAdd, a6, a7, a8, hlm]
        exact ⟨hkn, (by first | assumption | (simp only [upd_apply, Nat.reduceEqDiff, ↓reduceIte] <;> first | rfl | assumption) | simp [upd_apply, *]), (by first | assumption | (simp only [upd_apply, Nat.reduceEqDiff, ↓reduceIte] <;> first | rfl | assumption) | simp [upd_apply, *]), by simp [upd_apply, a5, sidesTo], (by first | assumption | (simp only [upd_apply, Nat.reduceEqDiff, ↓reduceIte] <;> first | rfl | assumption) | simp [upd_apply, *]), ((xw.trans x2).trans x6).trans xm⟩
    · obtain rfl : k = rows.length * rowLen rows := by omega
      simp (disch := omega) only [go_sem, Nat.reduceEqDiff, ↓reduceIte, Nat.reduceAdd, a5, hlt, Try.results29]
      exact ⟨by simp [sidesOf, hlv], xw.trans x2⟩

theorem specLevelShore_c (a : Option Addr) (rows : List (List Int)) (A : Nat → Option Addr) (Cp : Nat → Nat) (gc : Nat) (lv : Int) (w : World) (hr : RowsAt w a rows A Cp) :
    Ret Try.prog 35 #[.slice a rows.length gc, .int .i64 lv] w fun v w' => v = .int .i64 (shoreOf rows lv) ∧ Ext w w' := by
  refine enter2 Try.func35 rfl (by kernel_rfl) (of_decide_eq_true (by kernel_rfl)) fun f a0 a1 => ?_
  simp (disch := omega) only [go_sem, Nat.reduceEqDiff, ↓reduceIte, Nat.reduceAdd, a0, a1]
  refine callK_pure (by kernel_rfl) (l3Ok_c _ _ _ _ _ _ _ hr) fun w1 x1 => ?_
  cases hlv : lvok rows lv with
  | false =>
    simp (disch := omega) only [go_sem, Nat.reduceEqDiff, ↓reduceIte, Nat.reduceAdd, Try.results35]
    exact ⟨by simp [shoreOf, hlv], x1⟩
  | true =>
    obtain ⟨hv, hl0⟩ := lv_parts hlv
    have v := (gvalid_iff rows).1 hv
    have g := v.gd
    have hr1 := g.r1
    have hr7 := g.r7
    have hc1 := g.c1
    have hc7 := g.c7
    have hn49 := g.le
    obtain ⟨gb, go, rb, ro, rfl, -, hg⟩ := hr.grid v
    simp (disch := omega) only [go_sem, Nat.reduceEqDiff, ↓reduceIte, Nat.reduceAdd]
    refine loopN (rows.length * rowLen rows) (fun k f W => f 0 = .slice (some ⟨gb, go, none⟩) rows.length gc ∧ f 1 = .int .i64 lv ∧ f 5 = .int .i64 (shoreTo rows.length (rowLen rows) (hgt rows) lv k) ∧ f 6 = .int .i64 k ∧ Ext w W) ⟨(by first | assumption | (simp only [upd_apply, Nat.reduceEqDiff, ↓reduceIte] <;> first | rfl | assumption) | simp [upd_apply, *]), (by first | assumption | (simp only [upd_apply, Nat.reduceEqDiff, ↓reduceIte] <;> first | rfl | assumption) | simp [upd_apply, *]), (by first | assumption | (simp only [upd_apply, Nat.reduceEqDiff, ↓reduceIte] <;> first | rfl | assumption) | simp [upd_apply, *]), (by first | assumption | (simp only [upd_apply, Nat.reduceEqDiff, ↓reduceIte] <;> first | rfl | assumption) | simp [upd_apply, *]), x1⟩ fun k f W hk ⟨a0, a1, a5, a6, xw⟩ => ?_
    simp (disch := omega) only [go_sem, Nat.reduceEqDiff, ↓reduceIte, Nat.reduceAdd, a0, a6]
    refine callK_pure (by kernel_rfl) (l2Cells_c _ _ _ _ _ _ _ _ _ _ (hg.ext xw) v.r1 v.r7 v.c7) fun w2 x2 => ?_
    by_cases hlt : (k : Int) < (rows.length * rowLen rows : Nat)
    · have hkn : k < rows.length * rowLen rows := by omega
      have hsl := shoreTo_le rows.length (rowLen rows) (hgt rows) lv k
      simp (disch := omega) only [go_sem, Nat.reduceEqDiff, ↓reduceIte, Nat.reduceAdd, a0, a6, hlt]
      refine callK_pure (by kernel_rfl) (l2Height_c _ _ _ _ _ _ _ _ (hgt rows) _ (hg.ext (xw.trans x2)) v.r7 v.c7 (k : Int) (by omega) (by omega)) fun w3 x3 => ?_
      by_cases hland : hgt rows k < lv
      · simp (disch := omega) only [go_sem, Nat.reduceEqDiff, ↓reduceIte, Nat.reduceAdd, a1, a6, hland]
        exact ⟨hkn, (by first | assumption | (simp only [upd_apply, Nat.reduceEqDiff, ↓reduceIte] <;> first | rfl | assumption) | simp [upd_apply, *]), (by first | assumption | (simp only [upd_apply, Nat.reduceEqDiff, ↓reduceIte] <;> first | rfl | assumption) | simp [upd_apply, *]), by simp only [upd_apply, Nat.reduceEqDiff, ↓reduceIte, a5, shoreTo]; rw [if_neg (by omega), Int.add_zero], (by first | assumption | (simp only [upd_apply, Nat.reduceEqDiff, ↓reduceIte] <;> first | rfl | assumption) | simp [upd_apply, *]), (xw.trans x2).trans x3⟩
      · simp (disch := omega) only [go_sem, Nat.reduceEqDiff, ↓reduceIte, Nat.reduceAdd, a0, a1, a5, a6, hland]
        refine callK_of (by kernel_rfl) (l2Near_c gb go gc rb ro Cp _ _ _ _ (hg.ext ((xw.trans x2).trans x3)) g.r7 g.c7 k hkn) ?_
        rintro _ w6 ⟨na, nc, rfl, no, -, x6⟩
        have hn4 := nearN_len rows.length (rowLen rows) k
        simp (disch := omega) only [go_sem, Nat.reduceEqDiff, ↓reduceIte, Nat.reduceAdd]
        refine loopN (nearN rows.length (rowLen rows) k).length (fun m f V => f 0 = .slice (some ⟨gb, go, none⟩) rows.length gc ∧ f 1 = .int .i64 lv ∧ f 5 = .int .i64 (shoreTo rows.length (rowLen rows) (hgt rows) lv k + 4 - (((nearN rows.length (rowLen rows) k).take m).countP (landB (hgt rows) lv) : Nat)) ∧ f 6 = .int .i64 k ∧
          f 7 = .slice na (nearN rows.length (rowLen rows) k).length nc ∧ f 8 = .int .i64 m ∧ Ext w6 V) ⟨(by first | assumption | (simp only [upd_apply, Nat.reduceEqDiff, ↓reduceIte] <;> first | rfl | assumption) | simp [upd_apply, *]), (by first | assumption | (simp only [upd_apply, Nat.reduceEqDiff, ↓reduceIte] <;> first | rfl | assumption) | simp [upd_apply, *]), by simp [upd_apply], (by first | assumption | (simp only [upd_apply, Nat.reduceEqDiff, ↓reduceIte] <;> first | rfl | assumption) | simp [upd_apply, *]), (by first | assumption | (simp only [upd_apply, Nat.reduceEqDiff, ↓reduceIte] <;> first | rfl | assumption) | simp [upd_apply, *]), (by first | assumption | (simp only [upd_apply, Nat.reduceEqDiff, ↓reduceIte] <;> first | rfl | assumption) | simp [upd_apply, *]), Ext.refl _⟩ fun m f V hm ⟨a0, a1, a5, a6, a7, a8, xm⟩ => ?_
        by_cases hlm : (m : Int) < (nearN rows.length (rowLen rows) k).length
        · obtain ⟨nb, rfl⟩ := no.some (by omega)
          have hcp : ((nearN rows.length (rowLen rows) k).take m).countP (landB (hgt rows) lv) ≤ 4 := by
            have h1 : ((nearN rows.length (rowLen rows) k).take m).countP (landB (hgt rows) lv) ≤ ((nearN rows.length (rowLen rows) k).take m).length := List.countP_le_length
            rw [List.length_take] at h1; omega
          have hjk : (nearN rows.length (rowLen rows) k).getD m 0 < rows.length * rowLen rows := nearN_lt hkn _ (getD_mem (by omega))
          have g0 : V.cell? ⟨nb, m, none⟩ = some (.int .i64 ((nearN rows.length (rowLen rows) k).getD m 0 : Nat)) := by rw [(no.ext xm).cell (by omega), vi_get _ _ (by rw [ni_len]; omega), ni_get _ (by omega)]
          have hstep := countP_take (l := nearN rows.length (rowLen rows) k) (p := landB (hgt rows) lv) (m := m) (by omega)
          generalize ((nearN rows.length (rowLen rows) k).take m).countP (landB (hgt rows) lv) = q at *
          generalize (nearN rows.length (rowLen rows) k).getD m 0 = j at *
          have gV := hg.ext ((((xw.trans x2).trans x3).trans x6).trans xm)
          simp (disch := omega) only [go_sem, Nat.reduceEqDiff, ↓reduceIte, Nat.reduceAdd, a0, a7, a8, hlm, g0]
          refine callK_pure (by kernel_rfl) (l2Height_c _ _ _ _ _ _ _ _ (hgt rows) _ gV v.r7 v.c7 (j : Int) (by omega) (by omega)) fun w7 x7 => ?_
          by_cases hj2 : lv ≤ hgt rows j
          · have hp : landB (hgt rows) lv j = true := by simp [landB, hj2]
            rw [hp] at hstep
            simp (disch := omega) only [go_sem, Nat.reduceEqDiff, ↓reduceIte, Nat.reduceAdd, a1, a5, a8, hj2]
            exact ⟨by omega, (by first | assumption | (simp only [upd_apply, Nat.reduceEqDiff, ↓reduceIte] <;> first | rfl | assumption) | simp [upd_apply, *]), (by first | assumption | (simp only [upd_apply, Nat.reduceEqDiff, ↓reduceIte] <;> first | rfl | assumption) | simp [upd_apply, *]), by simp [upd_apply, hstep]; omega, (by first | assumption | (simp only [upd_apply, Nat.reduceEqDiff, ↓reduceIte] <;> first | rfl | assumption) | simp [upd_apply, *]), (by first | assumption | (simp only [upd_apply, Nat.reduceEqDiff, ↓reduceIte] <;> first | rfl | assumption) | simp [upd_apply, *]), (by first | assumption | (simp only [upd_apply, Nat.reduceEqDiff, ↓reduceIte] <;> first | rfl | assumption) | simp [upd_apply, *]), xm.trans x7⟩
          · have hp : landB (hgt rows) lv j = false := by simp [landB, hj2]
            rw [hp] at hstep
            simp (disch := omega) only [go_sem, Nat.reduceEqDiff, ↓reduceIte, Nat.reduceAdd, a1, a8, hj2]
            exact ⟨by omega, (by first | assumption | (simp only [upd_apply, Nat.reduceEqDiff, ↓reduceIte] <;> first | rfl | assumption) | simp [upd_apply, *]), (by first | assumption | (simp only [upd_apply, Nat.reduceEqDiff, ↓reduceIte] <;> first | rfl | assumption) | simp [upd_apply, *]), by simp [upd_apply, hstep, a5], (by first | assumption | (simp only [upd_apply, Nat.reduceEqDiff, ↓reduceIte] <;> first | rfl | assumption) | simp [upd_apply, *]), (by first | assumption | (simp only [upd_apply, Nat.reduceEqDiff, ↓reduceIte] <;> first | rfl | assumption) | simp [upd_apply, *]), (by first | assumption | (simp only [upd_apply, Nat.reduceEqDiff, ↓reduceIte] <;> first | rfl | assumption) | simp [upd_apply, *]), xm.trans x7⟩
        · obtain rfl : m = (nearN rows.length (rowLen rows) k).length := by omega
          simp (disch := omega) only [go_sem, Nat.reduceEqDiff, ↓reduceIte, Nat.reduceAdd, a6, a7, a8, hlm]
          exact ⟨hkn, (by first | assumption | (simp only [upd_apply, Nat.reduceEqDiff, ↓reduceIte] <;> first | rfl | assumption) | simp [upd_apply, *]), (by first | assumption | (simp only [upd_apply, Nat.reduceEqDiff, ↓reduceIte] <;> first | rfl | assumption) | simp [upd_apply, *]), by simp only [upd_apply, Nat.reduceEqDiff, ↓reduceIte, a5, shoreTo, List.take_length]; rw [if_pos (by omega)]; congr 1; omega, (by first | assumption | (simp only [upd_apply, Nat.reduceEqDiff, ↓reduceIte] <;> first | rfl | assumption) | simp [upd_apply, *]), (((xw.trans x2).trans x3).trans x6).trans xm⟩
    · obtain rfl : k = rows.length * rowLen rows := by omega
      simp (disch := omega) only [go_sem, Nat.reduceEqDiff, ↓reduceIte, Nat.reduceAdd, a5, hlt, Try.results35]
      exact ⟨by simp [shoreOf, hlv], xw.trans x2⟩

theorem specLevelCorners_c (a : Option Addr) (rows : List (List Int)) (A : Nat → Option Addr) (Cp : Nat → Nat) (gc : Nat) (lv : Int) (w : World) (hr : RowsAt w a rows A Cp) :
    Ret Try.prog 72 #[.slice a rows.length gc, .int .i64 lv] w fun v w' => v = .int .i64 (cornersOf rows lv) ∧ Ext w w' := by
  refine enter2 Try.func72 rfl (by kernel_rfl) (of_decide_eq_true (by kernel_rfl)) fun f a0 a1 => ?_
  simp (disch := omega) only [go_sem, Nat.reduceEqDiff, ↓reduceIte, Nat.reduceAdd, a0, a1]
  refine callK_pure (by kernel_rfl) (l3Ok_c _ _ _ _ _ _ _ hr) fun w1 x1 => ?_
  cases hlv : lvok rows lv with
  | false =>
    simp (disch := omega) only [go_sem, Nat.reduceEqDiff, ↓reduceIte, Nat.reduceAdd, Try.results72]
    exact ⟨by simp [cornersOf, hlv], x1⟩
  | true =>
    obtain ⟨hv, hl0⟩ := lv_parts hlv
    have v := (gvalid_iff rows).1 hv
    have g := v.gd
    have hr1 := g.r1
    have hr7 := g.r7
    have hc1 := g.c1
    have hc7 := g.c7
    have hn49 := g.le
    obtain ⟨gb, go, rb, ro, rfl, -, hg⟩ := hr.grid v
    have hcb : rowLen rows * rows.length ≤ 7 * 7 := Nat.mul_le_mul hc7 hr7
    have cell : ∀ r c : Nat, r < rows.length → c < rowLen rows → ∀ {W : World}, Ext w W → W.cell? ⟨rb r, ro r + c, none⟩ = some (.int .i64 (hgt rows (r * rowLen rows + c))) := fun r c h1 h2 W e => (hg.ext e).cell r c h1 h2
    simp (disch := omega) only [go_sem, Nat.reduceEqDiff, ↓reduceIte, Nat.reduceAdd]
    refine loopN (rows.length - 1) (fun r f W => f 0 = .slice (some ⟨gb, go, none⟩) rows.length gc ∧ f 1 = .int .i64 lv ∧ f 5 = .int .i64 (cornTo (rowLen rows) (hgt rows) lv r : Nat) ∧ f 6 = .int .i64 (r + 1 : Nat) ∧ Ext w W) ⟨(by first | assumption | (simp only [upd_apply, Nat.reduceEqDiff, ↓reduceIte] <;> first | rfl | assumption) | simp [upd_apply, *]), (by first | assumption | (simp only [upd_apply, Nat.reduceEqDiff, ↓reduceIte] <;> first | rfl | assumption) | simp [upd_apply, *]), (by first | assumption | (simp only [upd_apply, Nat.reduceEqDiff, ↓reduceIte] <;> first | rfl | assumption) | simp [upd_apply, *]), (by first | assumption | (simp only [upd_apply, Nat.reduceEqDiff, ↓reduceIte] <;> first | rfl | assumption) | simp [upd_apply, *]), x1⟩ fun r f W hr' ⟨a0, a1, a5, a6, xw⟩ => ?_
    have g0 := (hg.ext xw).row 0 (by omega)
    simp only [Nat.add_zero] at g0
    by_cases hlr : ((r + 1 : Nat) : Int) < (rows.length : Int)
    · simp (disch := omega) only [go_sem, Nat.reduceEqDiff, ↓reduceIte, Nat.reduceAdd, a0, a6, hlr]
      have hcl := cornTo_le (rowLen rows) (hgt rows) lv r
      have hcl2 : rowLen rows * r ≤ 7 * 7 := Nat.mul_le_mul hc7 (by omega)
      refine loopN (rowLen rows - 1) (fun c f V => f 0 = .slice (some ⟨gb, go, none⟩) rows.length gc ∧ f 1 = .int .i64 lv ∧ f 5 = .int .i64 (cornTo (rowLen rows) (hgt rows) lv r + cntp (quadP (rowLen rows) (hgt rows) lv r) c : Nat) ∧ f 6 = .int .i64 (r + 1 : Nat) ∧ f 7 = .int .i64 (c + 1 : Nat) ∧ Ext w V) ⟨(by first | assumption | (simp only [upd_apply, Nat.reduceEqDiff, ↓reduceIte] <;> first | rfl | assumption) | simp [upd_apply, *]), (by first | assumption | (simp only [upd_apply, Nat.reduceEqDiff, ↓reduceIte] <;> first | rfl | assumption) | simp [upd_apply, *]), by simp [upd_apply, a5, cntp], (by first | assumption | (simp only [upd_apply, Nat.reduceEqDiff, ↓reduceIte] <;> first | rfl | assumption) | simp [upd_apply, *]), (by first | assumption | (simp only [upd_apply, Nat.reduceEqDiff, ↓reduceIte] <;> first | rfl | assumption) | simp [upd_apply, *]), xw⟩ fun c f V hcc ⟨a0, a1, a5, a6, a7, xv⟩ => ?_
      have gV := hg.ext xv
      have g0 := gV.row 0 (by omega)
      simp only [Nat.add_zero] at g0
      by_cases hlc : ((c + 1 : Nat) : Int) < (rowLen rows : Int)
      · have hq := cntp_le (quadP (rowLen rows) (hgt rows) lv r) c
        have e1 : (((r + 1 : Nat) : Int) - 1) = (r : Int) := by omega
        have e2 : (((c + 1 : Nat) : Int) - 1) = (c : Int) := by omega
        have r0 := gV.row r (by omega)
        have r1 := gV.row (r + 1) (by omega)
        have c1 := gV.cell r c (by omega) (by omega)
        have c2 := gV.cell r (c + 1) (by omega) (by omega)
        have c3 := gV.cell (r + 1) c (by omega) (by omega)
        have c4 := gV.cell (r + 1) (c + 1) (by omega) (by omega)
        simp (disch := omega) only [go_sem, Nat.reduceEqDiff, ↓reduceIte, Nat.reduceAdd, a0, a7, g0, hlc]
        refine QR_of (by kernel_rfl) (by kernel_rfl) ?_
        simp (disch := omega) only [go_sem, Nat.reduceEqDiff, ↓reduceIte, Nat.reduceAdd, a0, a1, a6, a7, e1, e2, r0, r1, c1, c2, c3, c4]
        intro V1 y1
        clear e1 e2
        by_cases hqd : quadP (rowLen rows) (hgt rows) lv r c
        · have hmin : lv ≤ min (min (hgt rows ((r + 1) * rowLen rows + (c + 1))) (hgt rows (r * rowLen rows + (c + 1)))) (min (hgt rows ((r + 1) * rowLen rows + c)) (hgt rows (r * rowLen rows + c))) := by
            unfold quadP at hqd; omega
          simp (disch := omega) only [go_sem, Nat.reduceEqDiff, ↓reduceIte, Nat.reduceAdd, a5, a7, hmin]
          exact ⟨by omega, (by first | assumption | (simp only [upd_apply, Nat.reduceEqDiff, ↓reduceIte] <;> first | rfl | assumption) | simp [upd_apply, *]), (by first | assumption | (simp only [upd_apply, Nat.reduceEqDiff, ↓reduceIte] <;> first | rfl | assumption) | simp [upd_apply, *]), by simp [upd_apply, cntp, hqd]; omega, (by first | assumption | (simp only [upd_apply, Nat.reduceEqDiff, ↓reduceIte] <;> first | rfl | assumption) | simp [upd_apply, *]), by simp [upd_apply], xv.trans y1⟩
        · have hmin : ¬ lv ≤ min (min (hgt rows ((r + 1) * rowLen rows + (c + 1))) (hgt rows (r * rowLen rows + (c + 1)))) (min (hgt rows ((r + 1) * rowLen rows + c)) (hgt rows (r * rowLen rows + c))) := by
            unfold quadP at hqd; omega
          simp (disch := omega) only [go_sem, Nat.reduceEqDiff, ↓reduceIte, Nat.reduceAdd, a7, hmin]
          exact ⟨by omega, (by first | assumption | (simp only [upd_apply, Nat.reduceEqDiff, ↓reduceIte] <;> first | rfl | assumption) | simp [upd_apply, *]), (by first | assumption | (simp only [upd_apply, Nat.reduceEqDiff, ↓reduceIte] <;> first | rfl | assumption) | simp [upd_apply, *]), by simp [upd_apply, cntp, hqd, a5], (by first | assumption | (simp only [upd_apply, Nat.reduceEqDiff, ↓reduceIte] <;> first | rfl | assumption) | simp [upd_apply, *]), by simp [upd_apply], xv.trans y1⟩
      · obtain rfl : c = rowLen rows - 1 := by omega
        simp (disch := omega) only [go_sem, Nat.reduceEqDiff, ↓reduceIte, Nat.reduceAdd, a0, a6, a7, g0, hlc]
        exact ⟨by omega, (by first | assumption | (simp only [upd_apply, Nat.reduceEqDiff, ↓reduceIte] <;> first | rfl | assumption) | simp [upd_apply, *]), (by first | assumption | (simp only [upd_apply, Nat.reduceEqDiff, ↓reduceIte] <;> first | rfl | assumption) | simp [upd_apply, *]), by simp [upd_apply, a5, cornTo, sumN], by simp [upd_apply], xv⟩
    · obtain rfl : r = rows.length - 1 := by omega
      simp (disch := omega) only [go_sem, Nat.reduceEqDiff, ↓reduceIte, Nat.reduceAdd, a0, a5, a6, hlr, Try.results72]
      exact ⟨by simp [cornersOf, hlv], xw⟩

theorem specLevelEuler_c (a : Option Addr) (rows : List (List Int)) (A : Nat → Option Addr) (Cp : Nat → Nat) (gc : Nat) (lv : Int) (w : World) (hr : RowsAt w a rows A Cp) :
    Ret Try.prog 31 #[.slice a rows.length gc, .int .i64 lv] w fun v w' => v = .int .i64 (eulerOf rows lv) ∧ Ext w w' := by
  refine enter2 Try.func31 rfl (by kernel_rfl) (of_decide_eq_true (by kernel_rfl)) fun f a0 a1 => ?_
  simp (disch := omega) only [go_sem, Nat.reduceEqDiff, ↓reduceIte, Nat.reduceAdd, a0, a1]
  refine callK_pure (by kernel_rfl) (l3Ok_c _ _ _ _ _ _ _ hr) fun w1 x1 => ?_
  cases hlv : lvok rows lv with
  | false =>
    simp (disch := omega) only [go_sem, Nat.reduceEqDiff, ↓reduceIte, Nat.reduceAdd, Try.results31]
    exact ⟨by simp [eulerOf, hlv], x1⟩
  | true =>
    obtain ⟨hv, -⟩ := lv_parts hlv
    have g := ((gvalid_iff rows).1 hv).gd
    have hc7 := g.c7
    have hr7 := g.r7
    have hn49 := g.le
    have b1 := cornTo_le (rowLen rows) (hgt rows) lv (rows.length - 1)
    have b1' : rowLen rows * (rows.length - 1) ≤ 7 * 7 := Nat.mul_le_mul hc7 (by omega)
    have b2 := sidesTo_le rows.length (rowLen rows) (hgt rows) lv (rows.length * rowLen rows)
    have b3 := cntp_le (fun i => lv ≤ hgt rows i) (rows.length * rowLen rows)
    simp (disch := omega) only [go_sem, Nat.reduceEqDiff, ↓reduceIte, Nat.reduceAdd, a0, a1]
    refine callK_pure (by kernel_rfl) (specLevelCorners_c _ _ _ _ _ _ _ (hr.ext x1)) fun w2 x2 => ?_
    simp (disch := omega) only [go_sem, Nat.reduceEqDiff, ↓reduceIte, Nat.reduceAdd, a0, a1]
    refine callK_pure (by kernel_rfl) (specLevelSides_c _ _ _ _ _ _ _ (hr.ext (x1.trans x2))) fun w3 x3 => ?_
    have h1 : cornersOf rows lv = (cornTo (rowLen rows) (hgt rows) lv (rows.length - 1) : Nat) := by simp [cornersOf, hlv]
    have h2 : sidesOf rows lv = (sidesTo rows.length (rowLen rows) (hgt rows) lv (rows.length * rowLen rows) : Nat) := by simp [sidesOf, hlv]
    have h3 : landOf rows lv = (cntp (fun i => lv ≤ hgt rows i) (rows.length * rowLen rows) : Nat) := by simp [landOf, hlv]
    simp (disch := omega) only [go_sem, Nat.reduceEqDiff, ↓reduceIte, Nat.reduceAdd, a0, a1]
    refine callK_pure (by kernel_rfl) (specLevelLand_c _ _ _ _ _ _ _ (hr.ext ((x1.trans x2).trans x3))) fun w4 x4 => ?_
    simp (disch := omega) only [go_sem, Nat.reduceEqDiff, ↓reduceIte, Nat.reduceAdd, Try.results31]
    exact ⟨by simp [eulerOf, hlv], ((x1.trans x2).trans x3).trans x4⟩

/-- made, with a function that tells the heights H. -/
theorem made_g (gfn : FuncId) (R C fb : Nat) (H : Nat → Int) (w : World) (hgo : goB Try.prog gfn = true) (hclo : ∀ (r c : Nat) (W : World), Ext w W → r < R → c < C → Ret Try.prog gfn #[.int .i64 r, .int .i64 c, .pointer (some ⟨fb, 0, none⟩)] W fun v w' => v = .int .i64 (H (r * C + c)) ∧ Ext W w') (hR1 : 1 ≤ R) (hR : R ≤ 7) (hC1 : 1 ≤ C) (hC : C ≤ 7) (hh : ∀ i, i < R * C → 0 ≤ H i ∧ H i ≤ 99) :
    Ret Try.prog 66 #[.int .i64 R, .int .i64 C, .func (.func gfn) #[] #[.pointer (some ⟨fb, 0, none⟩)]] w fun v w' =>
      ∃ b A', v = .tuple #[.slice (some ⟨b, 0, none⟩) R R, .bool true] ∧ Ext w w' ∧ OwnRows w' 40 3 w.heap.size b (mkRows R C H) A' := by
  have hRC : R * C ≤ 7 * 7 := Nat.mul_le_mul hR hC
  refine enter3 Try.func66 rfl (by kernel_rfl) (of_decide_eq_true (by kernel_rfl)) fun f a0 a1 a2 => ?_
  have q1 : ¬ (R : Int) < 1 := by omega
  have q2 : ¬ (7 : Int) < R := by omega
  have q3 : ¬ (C : Int) < 1 := by omega
  have q4 : ¬ (7 : Int) < C := by omega
  simp only [go_sem, Nat.reduceEqDiff, ↓reduceIte, a0, a1, q1, q2, q3, q4]
  refine callK_of (by kernel_rfl) (blank_c R C _ (by omega) (by omega)) ?_
  rintro _ w1 ⟨nb, rfl, x1, hnb, o1⟩
  simp only [go_sem, Nat.reduceEqDiff, ↓reduceIte]
  refine allocK_of zero_f fun w2 b8 e8 x2 k8 _ => ?_
  simp only [go_sem, Nat.reduceEqDiff, ↓reduceIte]
  have hn1 : nb < w1.heap.size := o1.blk_lt rfl
  refine stK_agg siz_f (by simp) (by simp [Value.oneCell']) k8 (by simp) fun w3 k3 g3 => ?_
  have o3 := (o1.ext x2).grow g3.grow (by simp [blk]; omega)
  have s1 := x1.size
  have s2 := x2.size
  have x3 : Ext w w3 := g3.ext (x1.trans x2) (by omega)
  have s3 := x3.size
  have hn3 : nb ≠ b8 := by omega
  simp only [go_sem, Nat.reduceEqDiff, ↓reduceIte, a0]
  clear k8 g3 x1 x2
  let V : Nat → Value := fun j => .int .i64 (H j)
  let S : F → World → Nat → Prop := fun f w' m => f 1 = .int .i64 C ∧ f 2 = .func (.func gfn) #[] #[.pointer (some ⟨fb, 0, none⟩)] ∧ f 8 = .pointer (some ⟨b8, 0, none⟩) ∧ f 29 = .int .i64 R ∧
    Ext w w' ∧ Blk w' b8 #[.int .i64 R, .int .i64 C, .slice (some ⟨nb, 0, none⟩) (R * C) (R * C)] 45 ∧
    ∃ xs, OwnS w' 3 1 (some ⟨nb, 0, none⟩) (R * C) (R * C) xs ∧ ∀ j, j < m → xs[j]? = some (V j)
  refine loopX (fun m f w' => ∃ r : Nat, m = R - r ∧ r ≤ R ∧ f 30 = .int .i64 r ∧ S f w' (r * C)) R ?_ fun m f w' ⟨r, hm, hr, a30, ⟨a1, a2, a8, a29, xw, kf, xs, o, hx⟩⟩ => ?_
  · exact ⟨0, by omega, by omega, by simp [upd_apply], ⟨by simp [upd_apply, a1], by simp [upd_apply, a2], by simp [upd_apply], by simp [upd_apply], x3, k3, _, o3, fun j hj => by simp at hj⟩⟩
  · by_cases hlt : (r : Int) < R
    · simp (disch := omega) only [go_sem, Nat.reduceEqDiff, ↓reduceIte, a1, a29, a30, hlt]
      have hq : r * C + C ≤ R * C := by
        have := Nat.mul_le_mul_right C (show r + 1 ≤ R by omega)
        rw [Nat.add_mul, Nat.one_mul] at this; exact this
      refine loopX (fun m f w' => ∃ c : Nat, m = C - c ∧ c ≤ C ∧ f 30 = .int .i64 r ∧ f 9 = .int .i64 r ∧ f 33 = .int .i64 C ∧ f 34 = .int .i64 c ∧ S f w' (r * C + c)) C ?_ fun m f w' ⟨c, hm, hcc, a30, a9, a33, a34, ⟨a1, a2, a8, a29, xw, kf, xs, o, hx⟩⟩ => ?_
      · exact ⟨0, by omega, by omega, by simp [upd_apply, a30], by simp [upd_apply], by simp [upd_apply], by simp [upd_apply], ⟨by simp [upd_apply, a1], by simp [upd_apply, a2], by simp [upd_apply, a8], by simp [upd_apply, a29], xw, kf, xs, o, hx⟩⟩
      · by_cases hltc : (c : Int) < C
        · simp (disch := omega) only [go_sem, Nat.reduceEqDiff, ↓reduceIte, a2, a9, a33, a34, hltc, Array.append_empty, Array.empty_append, List.append_toArray, List.cons_append, List.nil_append]
          have hhj := hh (r * C + c) (by omega)
          refine callK_of hgo (hclo r c _ xw (by omega) (by omega)) ?_
          rintro _ w4 ⟨rfl, x4⟩
          simp (disch := omega) only [go_sem, Nat.reduceEqDiff, ↓reduceIte]
          refine callK_of (by kernel_rfl) (isHeight_c _ _) ?_
          rintro _ w5 ⟨rfl, x5⟩
          have hd : (0 ≤ H (r * C + c) ∧ H (r * C + c) ≤ 99) := by omega
          simp (disch := omega) only [go_sem, Nat.reduceEqDiff, ↓reduceIte, hd, and_self]
          refine QR_tail 7 (by kernel_rfl) (by kernel_rfl) ?_
          have kf5 := (kf.ext x4).ext x5
          simp (disch := omega) only [go_sem, Nat.reduceEqDiff, ↓reduceIte, Nat.reduceAdd, a8, a9, kf5.cell, readCells_blk kf5 (n := 3) (by simp), List.getElem?_toArray, List.getElem?_cons_succ, List.getElem?_cons_zero]
          refine callK_q (by kernel_rfl) (fun w' e => index_c _ _ _ _ _ _ _ _ (by omega) (by omega) (by omega)) ?_
          simp (disch := omega) only [go_sem, Nat.reduceEqDiff, ↓reduceIte]
          intro w6 x6
          refine stK_own siz_int (by rfl) (by rfl) (((o.ext x4).ext x5).ext x6) (by omega) fun w7 o7 g7 => ?_
          simp (disch := omega) only [go_sem, Nat.reduceEqDiff, ↓reduceIte, a34]
          refine ⟨C - (c + 1), by omega, c + 1, rfl, by omega, by simp [upd_apply, a30], by simp [upd_apply, a9], by simp [upd_apply, a33], by simp [upd_apply],
            ⟨by simp [upd_apply, a1], by simp [upd_apply, a2], by simp [upd_apply, a8], by simp [upd_apply, a29], g7.ext (((xw.trans x4).trans x5).trans x6) (by omega), g7.grow.blk (kf5.ext x6) (by simp; omega), _, o7, ?_⟩⟩
          rw [← Nat.add_assoc]
          exact set_get V (by rw [o.1]; omega) rfl hx
        · simp (disch := omega) only [go_sem, Nat.reduceEqDiff, ↓reduceIte, a30, a33, a34, hltc]
          exact ⟨R - (r + 1), by omega, r + 1, rfl, by omega, by simp [upd_apply], ⟨by simp [upd_apply, a1], by simp [upd_apply, a2], by simp [upd_apply, a8], by simp [upd_apply, a29], xw, kf, xs, o, fun j hj => hx j (by rw [Nat.add_mul, Nat.one_mul] at hj; omega)⟩⟩
    · simp (disch := omega) only [go_sem, Nat.reduceEqDiff, ↓reduceIte, a29, a30, a8, hlt, readCells_blk kf (n := 3) (by simp)]
      obtain rfl : r = R := by omega
      refine callK_of (by kernel_rfl) (lists_c r C nb (H) _ (fun i hi => by rw [o.cell (by omega), hx i hi]) (by omega) hC1 (by omega)) ?_
      rintro _ w4 ⟨b, A', rfl, x4, or⟩
      simp (disch := omega) only [go_sem, Nat.reduceEqDiff, ↓reduceIte, Try.results66]
      exact ⟨b, A', rfl, xw.trans x4, ⟨or.top, Nat.le_trans xw.size or.hb, fun r hr => let ⟨br, h1, h2, h3, oo⟩ := or.row r hr; ⟨br, h1, Nat.le_trans xw.size h2, h3, oo⟩, or.inj⟩⟩


def turnH (R C : Nat) (h : Nat → Int) (i : Nat) : Int := h ((R - 1 - i % R) * C + i / R)
def mirrorH (C : Nat) (h : Nat → Int) (i : Nat) : Int := h (i / C * C + (C - 1 - i % C))

theorem turn1_c (fb R C cb : Nat) (h : Nat → Int) (r c : Nat) (w : World) (k : Blk w fb #[.int .i64 R, .int .i64 C, .slice (some ⟨cb, 0, none⟩) (R * C) (R * C)] 45) (hc : CellsAt w cb (R * C) h) (hR : R ≤ 7) (hC : C ≤ 7) (hr : r < C) (hcl : c < R) :
    Ret Try.prog 75 #[.int .i64 r, .int .i64 c, .pointer (some ⟨fb, 0, none⟩)] w fun v w' => v = .int .i64 (turnH R C h (r * R + c)) ∧ Ext w w' := by
  refine enter3 Try.func75 rfl (by kernel_rfl) (of_decide_eq_true (by kernel_rfl)) fun f a0 a1 a2 => ?_
  have e : (R : Int) - 1 - (c : Int) = ((R - 1 - c : Nat) : Int) := by omega
  simp (disch := omega) only [go_sem, Nat.reduceEqDiff, ↓reduceIte, Nat.reduceAdd, a0, a1, a2, k.cell, readCells_blk k (n := 3) (by simp), e]
  refine callK_of (by kernel_rfl) (at_c _ _ _ _ _ _ (R - 1 - c) r _ hc (by omega) (by omega) (by omega) (corner_le (by omega) hr)) ?_
  rintro _ w1 ⟨rfl, x1⟩
  simp (disch := omega) only [go_sem, Nat.reduceEqDiff, ↓reduceIte, Nat.reduceAdd, Try.results75]
  obtain ⟨e1, e2⟩ := div_row R r c hcl
  exact ⟨by simp only [turnH, e1, e2], x1⟩
theorem mirror1_c (fb R C cb : Nat) (h : Nat → Int) (r c : Nat) (w : World) (k : Blk w fb #[.int .i64 R, .int .i64 C, .slice (some ⟨cb, 0, none⟩) (R * C) (R * C)] 45) (hc : CellsAt w cb (R * C) h) (hR : R ≤ 7) (hC : C ≤ 7) (hr : r < R) (hcl : c < C) :
    Ret Try.prog 71 #[.int .i64 r, .int .i64 c, .pointer (some ⟨fb, 0, none⟩)] w fun v w' => v = .int .i64 (mirrorH C h (r * C + c)) ∧ Ext w w' := by
  refine enter3 Try.func71 rfl (by kernel_rfl) (of_decide_eq_true (by kernel_rfl)) fun f a0 a1 a2 => ?_
  have e : (C : Int) - 1 - (c : Int) = ((C - 1 - c : Nat) : Int) := by omega
  simp (disch := omega) only [go_sem, Nat.reduceEqDiff, ↓reduceIte, Nat.reduceAdd, a0, a1, a2, k.cell, readCells_blk k (n := 3) (by simp), e]
  refine callK_of (by kernel_rfl) (at_c _ _ _ _ _ _ r (C - 1 - c) _ hc (by omega) (by omega) (by omega) (corner_le hr (by omega))) ?_
  rintro _ w1 ⟨rfl, x1⟩
  simp (disch := omega) only [go_sem, Nat.reduceEqDiff, ↓reduceIte, Nat.reduceAdd, Try.results71]
  obtain ⟨e1, e2⟩ := div_row C r c hcl
  exact ⟨by simp only [mirrorH, e1, e2], x1⟩
theorem turn_idx {R C i : Nat} (hi : i < C * R) : (R - 1 - i % R) * C + i / R < R * C := by
  have hR : 0 < R := Nat.pos_of_ne_zero fun e => by subst e; simp at hi
  have h1 : i / R < C := Nat.div_lt_of_lt_mul (by rw [Nat.mul_comm]; exact hi)
  exact corner_le (by omega) h1
theorem mirror_idx {R C i : Nat} (hi : i < R * C) : i / C * C + (C - 1 - i % C) < R * C := by
  have hC : 0 < C := Nat.pos_of_ne_zero fun e => by subst e; simp at hi
  have h1 : i / C < R := Nat.div_lt_of_lt_mul (by rw [Nat.mul_comm]; exact hi)
  exact corner_le h1 (by omega)

theorem gridTurn_c (a : Option Addr) (rows : List (List Int)) (A : Nat → Option Addr) (Cp : Nat → Nat) (gc : Nat) (w : World) (hr : RowsAt w a rows A Cp) (hv : gvalid rows = true) :
    Ret Try.prog 36 #[.slice a rows.length gc] w fun v w' => ∃ b A', v = .tuple #[.slice (some ⟨b, 0, none⟩) (rowLen rows) (rowLen rows), .bool true] ∧ Ext w w' ∧ OwnRows w' 40 3 w.heap.size b (mkRows (rowLen rows) (rows.length) (turnH rows.length (rowLen rows) (hgt rows))) A' := by
  have v := (gvalid_iff rows).1 hv
  have g := v.gd
  refine enter1 Try.func36 rfl (by kernel_rfl) (of_decide_eq_true (by kernel_rfl)) fun f a0 => ?_
  simp (disch := omega) only [go_sem, Nat.reduceEqDiff, ↓reduceIte, Nat.reduceAdd, a0]
  refine callK_of (by kernel_rfl) (fieldOf_c _ _ _ _ _ _ hr) ?_
  rintro _ w2 ⟨x2, (⟨hvt, cb, rfl, hcb, o⟩ | ⟨hv', rfl⟩)⟩
  rotate_left
  · rw [hv] at hv'; cases hv'
  simp (disch := omega) only [go_sem, Nat.reduceEqDiff, ↓reduceIte, Nat.reduceAdd]
  refine allocK_of zero_f fun w3 b4 e4 x3 k4 _ => ?_
  simp (disch := omega) only [go_sem, Nat.reduceEqDiff, ↓reduceIte, Nat.reduceAdd]
  refine stK_agg siz_f (by simp) (by simp [Value.oneCell']) k4 (by simp) fun w4 k4 g4 => ?_
  have s2 := x2.size
  have s3 := x3.size
  have x4 : Ext w w4 := g4.ext (x2.trans x3) (by omega)
  have oc := o.cellsAt
  have hc : CellsAt w4 cb (rows.length * rowLen rows) (hgt rows) := fun i hi => by
    have := ((oc.ext x3).grow g4.grow (by have := oc.lt g.pos; simp; omega)) i hi
    simpa only [hs_get rows i hi] using this
  simp (disch := omega) only [go_sem, Nat.reduceEqDiff, ↓reduceIte, Nat.reduceAdd, k4.cell]
  refine callK_of (by kernel_rfl) (made_g 75 (rowLen rows) (rows.length) b4 (turnH rows.length (rowLen rows) (hgt rows)) _ (by kernel_rfl) (fun r c W e h1 h2 => turn1_c b4 _ _ cb (hgt rows) r c W (k4.ext e) (hc.ext e) g.r7 g.c7 h1 h2) (by first | exact g.r1 | exact g.c1) (by first | exact g.r7 | exact g.c7) (by first | exact g.c1 | exact g.r1) (by first | exact g.c7 | exact g.r7) (fun i hi => g.hh _ (turn_idx hi))) ?_
  rintro _ w5 ⟨b, A', rfl, x5, or⟩
  simp (disch := omega) only [go_sem, Nat.reduceEqDiff, ↓reduceIte, Nat.reduceAdd, Try.results36]
  exact ⟨b, A', rfl, x4.trans x5, ⟨or.top, Nat.le_trans x4.size or.hb, fun r hr => let ⟨br, h1, h2, h3, oo⟩ := or.row r hr; ⟨br, h1, Nat.le_trans x4.size h2, h3, oo⟩, or.inj⟩⟩

theorem gridMirror_c (a : Option Addr) (rows : List (List Int)) (A : Nat → Option Addr) (Cp : Nat → Nat) (gc : Nat) (w : World) (hr : RowsAt w a rows A Cp) (hv : gvalid rows = true) :
    Ret Try.prog 30 #[.slice a rows.length gc] w fun v w' => ∃ b A', v = .tuple #[.slice (some ⟨b, 0, none⟩) (rows.length) (rows.length), .bool true] ∧ Ext w w' ∧ OwnRows w' 40 3 w.heap.size b (mkRows (rows.length) (rowLen rows) (mirrorH (rowLen rows) (hgt rows))) A' := by
  have v := (gvalid_iff rows).1 hv
  have g := v.gd
  refine enter1 Try.func30 rfl (by kernel_rfl) (of_decide_eq_true (by kernel_rfl)) fun f a0 => ?_
  simp (disch := omega) only [go_sem, Nat.reduceEqDiff, ↓reduceIte, Nat.reduceAdd, a0]
  refine callK_of (by kernel_rfl) (fieldOf_c _ _ _ _ _ _ hr) ?_
  rintro _ w2 ⟨x2, (⟨hvt, cb, rfl, hcb, o⟩ | ⟨hv', rfl⟩)⟩
  rotate_left
  · rw [hv] at hv'; cases hv'
  simp (disch := omega) only [go_sem, Nat.reduceEqDiff, ↓reduceIte, Nat.reduceAdd]
  refine allocK_of zero_f fun w3 b4 e4 x3 k4 _ => ?_
  simp (disch := omega) only [go_sem, Nat.reduceEqDiff, ↓reduceIte, Nat.reduceAdd]
  refine stK_agg siz_f (by simp) (by simp [Value.oneCell']) k4 (by simp) fun w4 k4 g4 => ?_
  have s2 := x2.size
  have s3 := x3.size
  have x4 : Ext w w4 := g4.ext (x2.trans x3) (by omega)
  have oc := o.cellsAt
  have hc : CellsAt w4 cb (rows.length * rowLen rows) (hgt rows) := fun i hi => by
    have := ((oc.ext x3).grow g4.grow (by have := oc.lt g.pos; simp; omega)) i hi
    simpa only [hs_get rows i hi] using this
  simp (disch := omega) only [go_sem, Nat.reduceEqDiff, ↓reduceIte, Nat.reduceAdd, k4.cell]
  refine callK_of (by kernel_rfl) (made_g 71 (rows.length) (rowLen rows) b4 (mirrorH (rowLen rows) (hgt rows)) _ (by kernel_rfl) (fun r c W e h1 h2 => mirror1_c b4 _ _ cb (hgt rows) r c W (k4.ext e) (hc.ext e) g.r7 g.c7 h1 h2) (by first | exact g.r1 | exact g.c1) (by first | exact g.r7 | exact g.c7) (by first | exact g.c1 | exact g.r1) (by first | exact g.c7 | exact g.r7) (fun i hi => g.hh _ (mirror_idx hi))) ?_
  rintro _ w5 ⟨b, A', rfl, x5, or⟩
  simp (disch := omega) only [go_sem, Nat.reduceEqDiff, ↓reduceIte, Nat.reduceAdd, Try.results30]
  exact ⟨b, A', rfl, x4.trans x5, ⟨or.top, Nat.le_trans x4.size or.hb, fun r hr => let ⟨br, h1, h2, h3, oo⟩ := or.row r hr; ⟨br, h1, Nat.le_trans x4.size h2, h3, oo⟩, or.inj⟩⟩


end Go.Proofs.Ytdlepfeckiahdaa
