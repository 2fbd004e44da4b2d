/- Contracts: sides, corners, shore and Euler number of a level, both sides. -/
import Derived.Test.YtdlepfeckiahdaaJ2
import Derived.Test.YtdlepfeckiahdaaWn
import Derived.Test.YtdlepfeckiahdaaM3
set_option linter.all false
namespace Go.SW
section
variable (R C : Nat) (h : Nat → Int) (lv : Int)
def landB (i : Nat) : Bool := decide (lv ≤ h i)
def sideP (i j : Nat) : Bool := decide (i < j) && (landB h lv i && landB h lv j)
def sidesTo : Nat → Nat
  | 0 => 0
  | k + 1 => sidesTo k + (nearN R C k).countP (sideP h lv k)
def quadP (r c : Nat) : Prop := lv ≤ h (r * C + c) ∧ lv ≤ h (r * C + (c + 1)) ∧ lv ≤ h ((r + 1) * C + c) ∧ lv ≤ h ((r + 1) * C + (c + 1))
instance (r : Nat) : DecidablePred (quadP C h lv r) := fun c => inferInstanceAs (Decidable (lv ≤ h (r * C + c) ∧ lv ≤ h (r * C + (c + 1)) ∧ lv ≤ h ((r + 1) * C + c) ∧ lv ≤ h ((r + 1) * C + (c + 1))))
def cornTo (k : Nat) : Nat := sumN (fun r => cntp (quadP C h lv r) (C - 1)) k
def shoreTo : Nat → Int
  | 0 => 0
  | k + 1 => shoreTo k + (if lv ≤ h k then (4 : Int) - (((nearN R C k).countP (landB h lv) : Nat) : Int) else (0 : Int))
theorem sidesTo_le : ∀ k, sidesTo R C h lv k ≤ 4 * k
  | 0 => Nat.zero_le _
  | k + 1 => by
    have h1 := sidesTo_le k
    have h2 : (nearN R C k).countP (sideP h lv k) ≤ (nearN R C k).length := List.countP_le_length
    have h3 := nearN_len R C k
    simp only [sidesTo]; omega
theorem shoreTo_le : ∀ k, 0 ≤ shoreTo R C h lv k ∧ shoreTo R C h lv k ≤ 4 * k
  | 0 => by simp [shoreTo]
  | k + 1 => by
    have h1 := shoreTo_le k
    have h2 : (nearN R C k).countP (landB h lv) ≤ (nearN R C k).length := List.countP_le_length
    have h3 := nearN_len R C k
    simp only [shoreTo]; split <;> omega
theorem cornTo_le : ∀ k, cornTo C h lv k ≤ C * k
  | 0 => Nat.zero_le _
  | k + 1 => by
    have h1 := cornTo_le k
    have h2 := cntp_le (quadP C h lv k) (C - 1)
    simp only [cornTo, sumN] at h1 ⊢
    rw [Nat.mul_add]; omega
end
def sidesOf (rows : List (List Int)) (lv : Int) : Int := if lvok rows lv = true then (sidesTo rows.length (rowLen rows) (hgt rows) lv (rows.length * rowLen rows) : Nat) else -1
def cornersOf (rows : List (List Int)) (lv : Int) : Int := if lvok rows lv = true then (cornTo (rowLen rows) (hgt rows) lv (rows.length - 1) : Nat) else -1
def shoreOf (rows : List (List Int)) (lv : Int) : Int := if lvok rows lv = true then shoreTo rows.length (rowLen rows) (hgt rows) lv (rows.length * rowLen rows) else -1
theorem lv_parts {rows : List (List Int)} {lv : Int} (h : lvok rows lv = true) : gvalid rows = true ∧ 0 ≤ lv ∧ lv ≤ 99 := by
  simp only [lvok, Bool.and_eq_true, decide_eq_true_eq] at h; exact h
end Go.SW
namespace Go.Proofs.Ytdlepfeckiahdaa
open Go.RowKit Go.SW

def eulerOf (rows : List (List Int)) (lv : Int) : Int := if lvok rows lv = true then cornersOf rows lv - sidesOf rows lv + landOf rows lv else -1000

theorem sides_c (R C cb : Nat) (h : Nat → Int) (lv : Int) (w : World) (g : Gd R C h) (hc : CellsAt w cb (R * C) h) :
    Ret Try.prog 69 #[.agg #[.int .i64 R, .int .i64 C, .slice (some ⟨cb, 0, none⟩) (R * C) (R * C)], .int .i64 lv] w fun v w' => v = .int .i64 (sidesTo R C h lv (R * C) : Nat) ∧ Ext w w' := by
  have hn49 := g.le
  refine enter2 Try.func69 rfl (by kernel_rfl) (of_decide_eq_true (by kernel_rfl)) fun f a0 a1 => ?_
  simp only [go_sem, Nat.reduceEqDiff, ↓reduceIte, a0]
  refine boxK_of fun w0 fb _ x0 kb _ => ?_
  simp (disch := omega) only [go_sem, Nat.reduceEqDiff, ↓reduceIte, Nat.reduceAdd, kb.cell, Value.cells]
  refine loopN (R * C) (fun k f W => f 1 = .int .i64 lv ∧ f 2 = .pointer (some ⟨fb, 0, none⟩) ∧ f 5 = .int .i64 (sidesTo R C h lv k : Nat) ∧ f 11 = .slice (some ⟨cb, 0, none⟩) (R * C) (R * C) ∧ f 12 = .int .i64 (R * C : Nat) ∧ f 13 = .int .i64 k ∧ Ext w0 W) ⟨(by first | assumption | (simp only [upd_apply, Nat.reduceEqDiff, ↓reduceIte] <;> first | rfl | assumption) | simp [upd_apply, *]), (by first | assumption | (simp only [upd_apply, Nat.reduceEqDiff, ↓reduceIte] <;> first | rfl | assumption) | simp [upd_apply, *]), (by first | assumption | (simp only [upd_apply, Nat.reduceEqDiff, ↓reduceIte] <;> first | rfl | assumption) | simp [upd_apply, *]), (by first | assumption | (simp only [upd_apply, Nat.reduceEqDiff, ↓reduceIte] <;> first | rfl | assumption) | simp [upd_apply, *]), (by first | assumption | (simp only [upd_apply, Nat.reduceEqDiff, ↓reduceIte] <;> first | rfl | assumption) | simp [upd_apply, *]), (by first | assumption | (simp only [upd_apply, Nat.reduceEqDiff, ↓reduceIte] <;> first | rfl | assumption) | simp [upd_apply, *]), Ext.refl _⟩ fun k f W hk ⟨a1, a2, a5, a11, a12, a13, xw⟩ => ?_
  by_cases hlt : (k : Int) < (R * C : Nat)
  · have hkn : k < R * C := by omega
    have kbw := kb.ext xw
    have hcw := (hc.ext x0).ext xw
    have ck := hcw k hkn
    have hdl := sidesTo_le R C h lv k
    simp (disch := omega) only [go_sem, Nat.reduceEqDiff, ↓reduceIte, Nat.reduceAdd, a2, a11, a12, a13, hlt, ck, readCells_blk kbw (n := 3) (by simp [Value.cells]), Value.cells]
    refine callK_of (by kernel_rfl) (neighbors_c _ _ k _ _ g.r7 g.c7 hkn) ?_
    rintro _ w6 ⟨na, nc, rfl, no, -, x6⟩
    have hn4 := nearN_len R C k
    simp (disch := omega) only [go_sem, Nat.reduceEqDiff, ↓reduceIte, Nat.reduceAdd]
    refine loopN (nearN R C k).length (fun m f V => f 1 = .int .i64 lv ∧ f 2 = .pointer (some ⟨fb, 0, none⟩) ∧ f 5 = .int .i64 (sidesTo R C h lv k + ((nearN R C k).take m).countP (sideP h lv k) : Nat) ∧ f 6 = .int .i64 k ∧ f 7 = .int .i64 (h k) ∧ f 11 = .slice (some ⟨cb, 0, none⟩) (R * C) (R * C) ∧ f 12 = .int .i64 (R * C : Nat) ∧ f 13 = .int .i64 k ∧
      f 20 = .slice na (nearN R C k).length nc ∧ f 21 = .int .i64 (nearN R C k).length ∧ f 22 = .int .i64 m ∧ Ext w6 V) ⟨(by first | assumption | (simp only [upd_apply, Nat.reduceEqDiff, ↓reduceIte] <;> first | rfl | assumption) | simp [upd_apply, *]), (by first | assumption | (simp only [upd_apply, Nat.reduceEqDiff, ↓reduceIte] <;> first | rfl | assumption) | simp [upd_apply, *]), by simp [upd_apply, a5], (by first | assumption | (simp only [upd_apply, Nat.reduceEqDiff, ↓reduceIte] <;> first | rfl | assumption) | simp [upd_apply, *]), (by first | assumption | (simp only [upd_apply, Nat.reduceEqDiff, ↓reduceIte] <;> first | rfl | assumption) | simp [upd_apply, *]), (by first | assumption | (simp only [upd_apply, Nat.reduceEqDiff, ↓reduceIte] <;> first | rfl | assumption) | simp [upd_apply, *]), (by first | assumption | (simp only [upd_apply, Nat.reduceEqDiff, ↓reduceIte] <;> first | rfl | assumption) | simp [upd_apply, *]), (by first | assumption | (simp only [upd_apply, Nat.reduceEqDiff, ↓reduceIte] <;> first | rfl | assumption) | simp [upd_apply, *]), (by first | assumption | (simp only [upd_apply, Nat.reduceEqDiff, ↓reduceIte] <;> first | rfl | assumption) | simp [upd_apply, *]), (by first | assumption | (simp only [upd_apply, Nat.reduceEqDiff, ↓reduceIte] <;> first | rfl | assumption) | simp [upd_apply, *]), (by first | assumption | (simp only [upd_apply, Nat.reduceEqDiff, ↓reduceIte] <;> first | rfl | assumption) | simp [upd_apply, *]), Ext.refl _⟩ fun m f V hm ⟨a1, a2, a5, a6, a7, a11, a12, a13, a20, a21, a22, xm⟩ => ?_
    by_cases hlm : (m : Int) < (nearN R C k).length
    · obtain ⟨nb, rfl⟩ := no.some (by omega)
      have hcp : ((nearN R C k).take m).countP (sideP h lv k) ≤ 4 := by
        have h1 : ((nearN R C k).take m).countP (sideP h lv k) ≤ ((nearN R C k).take m).length := List.countP_le_length
        rw [List.length_take] at h1; omega
      have hjk : (nearN R C k).getD m 0 < R * C := nearN_lt hkn _ (getD_mem (by omega))
      have g0 : V.cell? ⟨nb, m, none⟩ = some (.int .i64 ((nearN R C k).getD m 0 : Nat)) := by rw [(no.ext xm).cell (by omega), vi_get _ _ (by rw [ni_len]; omega), ni_get _ (by omega)]
      have hstep := countP_take (l := nearN R C k) (p := sideP h lv k) (m := m) (by omega)
      generalize ((nearN R C k).take m).countP (sideP h lv k) = q at *
      generalize (nearN R C k).getD m 0 = j at *
      have kbm := kb.ext ((xw.trans x6).trans xm)
      have cj := ((hcw.ext x6).ext xm) j hjk
      simp (disch := omega) only [go_sem, Nat.reduceEqDiff, ↓reduceIte, Nat.reduceAdd, a20, a21, a22, hlm, g0]
      by_cases hij : (k : Int) < (j : Int)
      · by_cases hk2 : lv ≤ h k
        · by_cases hj2 : lv ≤ h j
          · have hp : sideP h lv k j = true := by simp [sideP, landB, hk2, hj2]; omega
            rw [hp] at hstep
            simp (disch := omega) only [go_sem, Nat.reduceEqDiff, ↓reduceIte, Nat.reduceAdd, a1, a2, a5, a6, a7, a22, hij, hk2, hj2, kbm.cell, Value.cells, cj]
            exact ⟨by omega, (by first | assumption | (simp only [upd_apply, Nat.reduceEqDiff, ↓reduceIte] <;> first | rfl | assumption) | simp [upd_apply, *]), (by first | assumption | (simp only [upd_apply, Nat.reduceEqDiff, ↓reduceIte] <;> first | rfl | assumption) | simp [upd_apply, *]), by simp [upd_apply, hstep]; omega, (by first | assumption | (simp only [upd_apply, Nat.reduceEqDiff, ↓reduceIte] <;> first | rfl | assumption) | simp [upd_apply, *]), (by first | assumption | (simp only [upd_apply, Nat.reduceEqDiff, ↓reduceIte] <;> first | rfl | assumption) | simp [upd_apply, *]), (by first | assumption | (simp only [upd_apply, Nat.reduceEqDiff, ↓reduceIte] <;> first | rfl | assumption) | simp [upd_apply, *]), (by first | assumption | (simp only [upd_apply, Nat.reduceEqDiff, ↓reduceIte] <;> first | rfl | assumption) | simp [upd_apply, *]), (by first | assumption | (simp only [upd_apply, Nat.reduceEqDiff, ↓reduceIte] <;> first | rfl | assumption) | simp [upd_apply, *]), (by first | assumption | (simp only [upd_apply, Nat.reduceEqDiff, ↓reduceIte] <;> first | rfl | assumption) | simp [upd_apply, *]), (by first | assumption | (simp only [upd_apply, Nat.reduceEqDiff, ↓reduceIte] <;> first | rfl | assumption) | simp [upd_apply, *]), (by first | assumption | (simp only [upd_apply, Nat.reduceEqDiff, ↓reduceIte] <;> first | rfl | assumption) | simp [upd_apply, *]), xm⟩
          · have hp : sideP h lv k j = false := by simp [sideP, landB, hj2]
            rw [hp] at hstep
            simp (disch := omega) only [go_sem, Nat.reduceEqDiff, ↓reduceIte, Nat.reduceAdd, a1, a2, a5, a6, a7, a22, hij, hk2, hj2, kbm.cell, Value.cells, cj]
            exact ⟨by omega, (by first | assumption | (simp only [upd_apply, Nat.reduceEqDiff, ↓reduceIte] <;> first | rfl | assumption) | simp [upd_apply, *]), (by first | assumption | (simp only [upd_apply, Nat.reduceEqDiff, ↓reduceIte] <;> first | rfl | assumption) | simp [upd_apply, *]), by simp [upd_apply, hstep, a5], (by first | assumption | (simp only [upd_apply, Nat.reduceEqDiff, ↓reduceIte] <;> first | rfl | assumption) | simp [upd_apply, *]), (by first | assumption | (simp only [upd_apply, Nat.reduceEqDiff, ↓reduceIte] <;> first | rfl | assumption) | simp [upd_apply, *]), (by first | assumption | (simp only [upd_apply, Nat.reduceEqDiff, ↓reduceIte] <;> first | rfl | assumption) | simp [upd_apply, *]), (by first | assumption | (simp only [upd_apply, Nat.reduceEqDiff, ↓reduceIte] <;> first | rfl | assumption) | simp [upd_apply, *]), (by first | assumption | (simp only [upd_apply, Nat.reduceEqDiff, ↓reduceIte] <;> first | rfl | assumption) | simp [upd_apply, *]), (by first | assumption | (simp only [upd_apply, Nat.reduceEqDiff, ↓reduceIte] <;> first | rfl | assumption) | simp [upd_apply, *]), (by first | assumption | (simp only [upd_apply, Nat.reduceEqDiff, ↓reduceIte] <;> first | rfl | assumption) | simp [upd_apply, *]), (by first | assumption | (simp only [upd_apply, Nat.reduceEqDiff, ↓reduceIte] <;> first | rfl | assumption) | simp [upd_apply, *]), xm⟩
        · have hp : sideP h lv k j = false := by simp [sideP, landB, hk2]
          rw [hp] at hstep
          simp (disch := omega) only [go_sem, Nat.reduceEqDiff, ↓reduceIte, Nat.reduceAdd, a1, a6, a7, a22, hij, hk2]
          exact ⟨by omega, (by first | assumption | (simp only [upd_apply, Nat.reduceEqDiff, ↓reduceIte] <;> first | rfl | assumption) | simp [upd_apply, *]), (by first | assumption | (simp only [upd_apply, Nat.reduceEqDiff, ↓reduceIte] <;> first | rfl | assumption) | simp [upd_apply, *]), by simp [upd_apply, hstep, a5], (by first | assumption | (simp only [upd_apply, Nat.reduceEqDiff, ↓reduceIte] <;> first | rfl | assumption) | simp [upd_apply, *]), (by first | assumption | (simp only [upd_apply, Nat.reduceEqDiff, ↓reduceIte] <;> first | rfl | assumption) | simp [upd_apply, *]), (by first | assumption | (simp only [upd_apply, Nat.reduceEqDiff, ↓reduceIte] <;> first | rfl | assumption) | simp [upd_apply, *]), (by first | assumption | (simp only [upd_apply, Nat.reduceEqDiff, ↓reduceIte] <;> first | rfl | assumption) | simp [upd_apply, *]), (by first | assumption | (simp only [upd_apply, Nat.reduceEqDiff, ↓reduceIte] <;> first | rfl | assumption) | simp [upd_apply, *]), (by first | assumption | (simp only [upd_apply, Nat.reduceEqDiff, ↓reduceIte] <;> first | rfl | assumption) | simp [upd_apply, *]), (by first | assumption | (simp only [upd_apply, Nat.reduceEqDiff, ↓reduceIte] <;> first | rfl | assumption) | simp [upd_apply, *]), (by first | assumption | (simp only [upd_apply, Nat.reduceEqDiff, ↓reduceIte] <;> first | rfl | assumption) | simp [upd_apply, *]), xm⟩
      · have hp : sideP h lv k j = false := by simp [sideP]; omega
        rw [hp] at hstep
        simp (disch := omega) only [go_sem, Nat.reduceEqDiff, ↓reduceIte, Nat.reduceAdd, a6, a22, hij]
        exact ⟨by omega, (by first | assumption | (simp only [upd_apply, Nat.reduceEqDiff, ↓reduceIte] <;> first | rfl | assumption) | simp [upd_apply, *]), (by first | assumption | (simp only [upd_apply, Nat.reduceEqDiff, ↓reduceIte] <;> first | rfl | assumption) | simp [upd_apply, *]), by simp [upd_apply, hstep, a5], (by first | assumption | (simp only [upd_apply, Nat.reduceEqDiff, ↓reduceIte] <;> first | rfl | assumption) | simp [upd_apply, *]), (by first | assumption | (simp only [upd_apply, Nat.reduceEqDiff, ↓reduceIte] <;> first | rfl | assumption) | simp [upd_apply, *]), (by first | assumption | (simp only [upd_apply, Nat.reduceEqDiff, ↓reduceIte] <;> first | rfl | assumption) | simp [upd_apply, *]), (by first | assumption | (simp only [upd_apply, Nat.reduceEqDiff, ↓reduceIte] <;> first | rfl | assumption) | simp [upd_apply, *]), (by first | assumption | (simp only [upd_apply, Nat.reduceEqDiff, ↓reduceIte] <;> first | rfl | assumption) | simp [upd_apply, *]), (by first | assumption | (simp only [upd_apply, Nat.reduceEqDiff, ↓reduceIte] <;> first | rfl | assumption) | simp [upd_apply, *]), (by first | assumption | (simp only [upd_apply, Nat.reduceEqDiff, ↓reduceIte] <;> first | rfl | assumption) | simp [upd_apply, *]), (by first | assumption | (simp only [upd_apply, Nat.reduceEqDiff, ↓reduceIte] <;> first | rfl | assumption) | simp [upd_apply, *]), xm⟩
    · obtain rfl : m = (nearN R C k).length := by omega
      simp (disch := omega) only [go_sem, Nat.reduceEqDiff, ↓reduceIte, Nat.reduceAdd, a13, a21, a22, hlm]
      exact ⟨hkn, (by first | assumption | (simp only [upd_apply, Nat.reduceEqDiff, ↓reduceIte] <;> first | rfl | assumption) | simp [upd_apply, *]), (by first | assumption | (simp only [upd_apply, Nat.reduceEqDiff, ↓reduceIte] <;> first | rfl | assumption) | simp [upd_apply, *]), by simp [upd_apply, a5, sidesTo], (by first | assumption | (simp only [upd_apply, Nat.reduceEqDiff, ↓reduceIte] <;> first | rfl | assumption) | simp [upd_apply, *]), (by first | assumption | (simp only [upd_apply, Nat.reduceEqDiff, ↓reduceIte] <;> first | rfl | assumption) | simp [upd_apply, *]), (by first | assumption | (simp only [upd_apply, Nat.reduceEqDiff, ↓reduceIte] <;> first | rfl | assumption) | simp [upd_apply, *]), (xw.trans x6).trans xm⟩
  · obtain rfl : k = R * C := by omega
    simp (disch := omega) only [go_sem, Nat.reduceEqDiff, ↓reduceIte, Nat.reduceAdd, a5, a12, a13, hlt, Try.results69]
    exact ⟨trivial, x0.trans xw⟩

theorem corner_le {R C r c : Nat} (h1 : r < R) (h2 : c < C) : r * C + c < R * C := by
  have := Nat.mul_le_mul_right C (show r + 1 ≤ R by omega)
  rw [Nat.add_mul, Nat.one_mul] at this; omega

theorem corners_c (R C cb : Nat) (h : Nat → Int) (lv : Int) (w : World) (g : Gd R C h) (hc : CellsAt w cb (R * C) h) :
    Ret Try.prog 73 #[.agg #[.int .i64 R, .int .i64 C, .slice (some ⟨cb, 0, none⟩) (R * C) (R * C)], .int .i64 lv] w fun v w' => v = .int .i64 (cornTo C h lv (R - 1) : Nat) ∧ Ext w w' := by
  have hn49 := g.le
  have hr1 := g.r1
  have hr7 := g.r7
  have hc1 := g.c1
  have hc7 := g.c7
  refine enter2 Try.func73 rfl (by kernel_rfl) (of_decide_eq_true (by kernel_rfl)) fun f a0 a1 => ?_
  simp only [go_sem, Nat.reduceEqDiff, ↓reduceIte, a0]
  refine boxK_of fun w0 fb _ x0 kb _ => ?_
  simp (disch := omega) only [go_sem, Nat.reduceEqDiff, ↓reduceIte, Nat.reduceAdd]
  refine loopN (R - 1) (fun r f W => f 1 = .int .i64 lv ∧ f 2 = .pointer (some ⟨fb, 0, none⟩) ∧ f 5 = .int .i64 (cornTo C h lv r : Nat) ∧ f 6 = .int .i64 r ∧ Ext w0 W) ⟨(by first | assumption | (simp only [upd_apply, Nat.reduceEqDiff, ↓reduceIte] <;> first | rfl | assumption) | simp [upd_apply, *]), (by first | assumption | (simp only [upd_apply, Nat.reduceEqDiff, ↓reduceIte] <;> first | rfl | assumption) | simp [upd_apply, *]), (by first | assumption | (simp only [upd_apply, Nat.reduceEqDiff, ↓reduceIte] <;> first | rfl | assumption) | simp [upd_apply, *]), (by first | assumption | (simp only [upd_apply, Nat.reduceEqDiff, ↓reduceIte] <;> first | rfl | assumption) | simp [upd_apply, *]), Ext.refl _⟩ fun r f W hr ⟨a1, a2, a5, a6, xw⟩ => ?_
  have kbw := kb.ext xw
  by_cases hlr : (r : Int) + 1 < (R : Int)
  · simp (disch := omega) only [go_sem, Nat.reduceEqDiff, ↓reduceIte, Nat.reduceAdd, a2, a6, kbw.cell, Value.cells, hlr]
    have hcl := cornTo_le C h lv r
    have hcl2 : C * r ≤ 7 * 7 := Nat.mul_le_mul hc7 (by omega)
    refine loopN (C - 1) (fun c f V => f 1 = .int .i64 lv ∧ f 2 = .pointer (some ⟨fb, 0, none⟩) ∧ f 5 = .int .i64 (cornTo C h lv r + cntp (quadP C h lv r) c : Nat) ∧ f 6 = .int .i64 r ∧ f 7 = .int .i64 c ∧ Ext w0 V) ⟨(by first | assumption | (simp only [upd_apply, Nat.reduceEqDiff, ↓reduceIte] <;> first | rfl | assumption) | simp [upd_apply, *]), (by first | assumption | (simp only [upd_apply, Nat.reduceEqDiff, ↓reduceIte] <;> first | rfl | assumption) | simp [upd_apply, *]), by simp [upd_apply, a5, cntp], (by first | assumption | (simp only [upd_apply, Nat.reduceEqDiff, ↓reduceIte] <;> first | rfl | assumption) | simp [upd_apply, *]), (by first | assumption | (simp only [upd_apply, Nat.reduceEqDiff, ↓reduceIte] <;> first | rfl | assumption) | simp [upd_apply, *]), xw⟩ fun c f V hcc ⟨a1, a2, a5, a6, a7, xv⟩ => ?_
    have kbv := kb.ext xv
    have hcv := (hc.ext x0).ext xv
    by_cases hlc : (c : Int) + 1 < (C : Int)
    · have hq := cntp_le (quadP C h lv r) c
      have i1 := corner_le (show r < R by omega) (show c < C by omega)
      have i2 := corner_le (show r < R by omega) (show c + 1 < C by omega)
      have i3 := corner_le (show r + 1 < R by omega) (show c < C by omega)
      have i4 := corner_le (show r + 1 < R by omega) (show c + 1 < C by omega)
      have er : (r : Int) + 1 = ((r + 1 : Nat) : Int) := by omega
      have ec : (c : Int) + 1 = ((c + 1 : Nat) : Int) := by omega
      simp (disch := omega) only [go_sem, Nat.reduceEqDiff, ↓reduceIte, Nat.reduceAdd, a2, a7, kbv.cell, Value.cells, hlc]
      refine QR_of (by kernel_rfl) (by kernel_rfl) ?_
      simp (disch := omega) only [go_sem, Nat.reduceEqDiff, ↓reduceIte, Nat.reduceAdd, a2, a6, a7, readCells_blk kbv (n := 3) (by simp [Value.cells]), Value.cells]
      refine callK_q (by kernel_rfl) (fun w' e => at_c _ C cb _ _ h r c _ (hcv.ext e) (by omega) (by omega) (by omega) i1) ?_
      simp (disch := omega) only [go_sem, Nat.reduceEqDiff, ↓reduceIte, Nat.reduceAdd, a2, a6, a7, readCells_blk kbv (n := 3) (by simp [Value.cells]), Value.cells, ec]
      refine callK_q (by kernel_rfl) (fun w' e => at_c _ C cb _ _ h r (c + 1) _ (hcv.ext e) (by omega) (by omega) (by omega) i2) ?_
      simp (disch := omega) only [go_sem, Nat.reduceEqDiff, ↓reduceIte, Nat.reduceAdd, a2, a6, a7, readCells_blk kbv (n := 3) (by simp [Value.cells]), Value.cells, er]
      refine callK_q (by kernel_rfl) (fun w' e => at_c _ C cb _ _ h (r + 1) c _ (hcv.ext e) (by omega) (by omega) (by omega) i3) ?_
      simp (disch := omega) only [go_sem, Nat.reduceEqDiff, ↓reduceIte, Nat.reduceAdd, a2, a6, a7, readCells_blk kbv (n := 3) (by simp [Value.cells]), Value.cells, er, ec]
      refine callK_q (by kernel_rfl) (fun w' e => at_c _ C cb _ _ h (r + 1) (c + 1) _ (hcv.ext e) (by omega) (by omega) (by omega) i4) ?_
      simp (disch := omega) only [go_sem, Nat.reduceEqDiff, ↓reduceIte, Nat.reduceAdd]
      clear er ec
      intro V1 y1
      by_cases hqd : quadP C h lv r c
      · have hmin : lv ≤ min (min (min (h (r * C + c)) (h (r * C + (c + 1)))) (h ((r + 1) * C + c))) (h ((r + 1) * C + (c + 1))) := by
          unfold quadP at hqd; omega
        simp (disch := omega) only [go_sem, Nat.reduceEqDiff, ↓reduceIte, Nat.reduceAdd, a1, a5, a7, hmin]
        exact ⟨by omega, (by first | assumption | (simp only [upd_apply, Nat.reduceEqDiff, ↓reduceIte] <;> first | rfl | assumption) | simp [upd_apply, *]), (by first | assumption | (simp only [upd_apply, Nat.reduceEqDiff, ↓reduceIte] <;> first | rfl | assumption) | simp [upd_apply, *]), by simp [upd_apply, cntp, hqd]; omega, (by first | assumption | (simp only [upd_apply, Nat.reduceEqDiff, ↓reduceIte] <;> first | rfl | assumption) | simp [upd_apply, *]), (by first | assumption | (simp only [upd_apply, Nat.reduceEqDiff, ↓reduceIte] <;> first | rfl | assumption) | simp [upd_apply, *]), xv.trans y1⟩
      · have hmin : ¬ lv ≤ min (min (min (h (r * C + c)) (h (r * C + (c + 1)))) (h ((r + 1) * C + c))) (h ((r + 1) * C + (c + 1))) := by
          unfold quadP at hqd; omega
        simp (disch := omega) only [go_sem, Nat.reduceEqDiff, ↓reduceIte, Nat.reduceAdd, a1, a7, hmin]
        exact ⟨by omega, (by first | assumption | (simp only [upd_apply, Nat.reduceEqDiff, ↓reduceIte] <;> first | rfl | assumption) | simp [upd_apply, *]), (by first | assumption | (simp only [upd_apply, Nat.reduceEqDiff, ↓reduceIte] <;> first | rfl | assumption) | simp [upd_apply, *]), by simp [upd_apply, cntp, hqd, a5], (by first | assumption | (simp only [upd_apply, Nat.reduceEqDiff, ↓reduceIte] <;> first | rfl | assumption) | simp [upd_apply, *]), (by first | assumption | (simp only [upd_apply, Nat.reduceEqDiff, ↓reduceIte] <;> first | rfl | assumption) | simp [upd_apply, *]), xv.trans y1⟩
    · obtain rfl : c = C - 1 := by omega
      simp (disch := omega) only [go_sem, Nat.reduceEqDiff, ↓reduceIte, Nat.reduceAdd, a2, a6, a7, kbv.cell, Value.cells, hlc]
      exact ⟨by omega, (by first | assumption | (simp only [upd_apply, Nat.reduceEqDiff, ↓reduceIte] <;> first | rfl | assumption) | simp [upd_apply, *]), (by first | assumption | (simp only [upd_apply, Nat.reduceEqDiff, ↓reduceIte] <;> first | rfl | assumption) | simp [upd_apply, *]), by simp [upd_apply, a5, cornTo, sumN], (by first | assumption | (simp only [upd_apply, Nat.reduceEqDiff, ↓reduceIte] <;> first | rfl | assumption) | simp [upd_apply, *]), xv⟩
  · obtain rfl : r = R - 1 := by omega
    simp (disch := omega) only [go_sem, Nat.reduceEqDiff, ↓reduceIte, Nat.reduceAdd, a2, a5, a6, kbw.cell, Value.cells, hlr, Try.results73]
    exact ⟨trivial, x0.trans xw⟩

theorem implLevelSides_c (a : Option Addr) (rows : List (List Int)) (A : Nat → Option Addr) (Cp : Nat → Nat) (gc : Nat) (lv : Int) (w : World) (hr : RowsAt w a rows A Cp) :
    Ret Try.prog 28 #[.slice a rows.length gc, .int .i64 lv] w fun v w' => v = .int .i64 (sidesOf rows lv) ∧ Ext w w' := by
  refine enter2 Try.func28 rfl (by kernel_rfl) (of_decide_eq_true (by kernel_rfl)) fun f a0 a1 => ?_
  simp (disch := omega) only [go_sem, Nat.reduceEqDiff, ↓reduceIte, Nat.reduceAdd, a0, a1]
  refine callK_of (by kernel_rfl) (leveled_c _ _ _ _ _ lv _ hr) ?_
  rintro _ w2 ⟨x2, (⟨hlv, cb, rfl, hcb, o⟩ | ⟨hlv, rfl⟩)⟩
  rotate_left
  · simp (disch := omega) only [go_sem, Nat.reduceEqDiff, ↓reduceIte, Nat.reduceAdd]
    refine allocK_of zero_f fun w3 fb _ x3 k3 _ => ?_
    simp (disch := omega) only [go_sem, Nat.reduceEqDiff, ↓reduceIte, Nat.reduceAdd]
    refine stK_agg siz_f (by simp) (by simp [Value.oneCell']) k3 (by simp) fun w4 k4 g4 => ?_
    have x4 : Ext w w4 := g4.ext (x2.trans x3) (by have := x2.size; omega)
    simp (disch := omega) only [go_sem, Nat.reduceEqDiff, ↓reduceIte, Nat.reduceAdd, Try.results28]
    exact ⟨by simp [sidesOf, hlv], x4⟩
  have hv : gvalid rows = true := by simp only [lvok, Bool.and_eq_true] at hlv; exact hlv.1
  have hl0 : 0 ≤ lv ∧ lv ≤ 99 := by simp only [lvok, Bool.and_eq_true, decide_eq_true_eq] at hlv; exact hlv.2
  have v := (gvalid_iff rows).1 hv
  have g := v.gd
  have hr1 := g.r1
  have hr7 := g.r7
  have hc1 := g.c1
  have hc7 := g.c7
  have hn49 := g.le
  simp (disch := omega) only [go_sem, Nat.reduceEqDiff, ↓reduceIte, Nat.reduceAdd]
  refine allocK_of zero_f fun w3 fb _ x3 k3 _ => ?_
  simp (disch := omega) only [go_sem, Nat.reduceEqDiff, ↓reduceIte, Nat.reduceAdd]
  refine stK_agg siz_f (by simp) (by simp [Value.oneCell']) k3 (by simp) fun w4 kb g4 => ?_
  have s2 := x2.size
  have s3 := x3.size
  have x4 : Ext w w4 := g4.ext (x2.trans x3) (by omega)
  have s4 := x4.size
  have hc : CellsAt w4 cb (rows.length * rowLen rows) (hgt rows) := fun i hi => (o.ext x3).grow g4.grow (by have := o.lt g.pos; simp; omega) i hi
  simp (disch := omega) only [go_sem, Nat.reduceEqDiff, ↓reduceIte, Nat.reduceAdd, a1, readCells_blk kb (n := 3) (by simp)]
  refine callK_pure (by kernel_rfl) (sides_c _ _ cb (hgt rows) lv _ g hc) fun w5 x5 => ?_
  simp (disch := omega) only [go_sem, Nat.reduceEqDiff, ↓reduceIte, Nat.reduceAdd, Try.results28]
  exact ⟨by simp [sidesOf, hlv], x4.trans x5⟩

theorem implLevelEuler_c (a : Option Addr) (rows : List (List Int)) (A : Nat → Option Addr) (Cp : Nat → Nat) (gc : Nat) (lv : Int) (w : World) (hr : RowsAt w a rows A Cp) :
    Ret Try.prog 32 #[.slice a rows.length gc, .int .i64 lv] w fun v w' => v = .int .i64 (eulerOf rows lv) ∧ Ext w w' := by
  refine enter2 Try.func32 rfl (by kernel_rfl) (of_decide_eq_true (by kernel_rfl)) fun f a0 a1 => ?_
  simp (disch := omega) only [go_sem, Nat.reduceEqDiff, ↓reduceIte, Nat.reduceAdd, a0, a1]
  refine callK_of (by kernel_rfl) (leveled_c _ _ _ _ _ lv _ hr) ?_
  rintro _ w2 ⟨x2, (⟨hlv, cb, rfl, hcb, o⟩ | ⟨hlv, rfl⟩)⟩
  rotate_left
  · simp (disch := omega) only [go_sem, Nat.reduceEqDiff, ↓reduceIte, Nat.reduceAdd]
    refine allocK_of zero_f fun w3 fb _ x3 k3 _ => ?_
    simp (disch := omega) only [go_sem, Nat.reduceEqDiff, ↓reduceIte, Nat.reduceAdd]
    refine stK_agg siz_f (by simp) (by simp [Value.oneCell']) k3 (by simp) fun w4 k4 g4 => ?_
    have x4 : Ext w w4 := g4.ext (x2.trans x3) (by have := x2.size; omega)
    simp (disch := omega) only [go_sem, Nat.reduceEqDiff, ↓reduceIte, Nat.reduceAdd, Try.results32]
    exact ⟨by simp [eulerOf, hlv], x4⟩
  have hv : gvalid rows = true := by simp only [lvok, Bool.and_eq_true] at hlv; exact hlv.1
  have hl0 : 0 ≤ lv ∧ lv ≤ 99 := by simp only [lvok, Bool.and_eq_true, decide_eq_true_eq] at hlv; exact hlv.2
  have v := (gvalid_iff rows).1 hv
  have g := v.gd
  have hr1 := g.r1
  have hr7 := g.r7
  have hc1 := g.c1
  have hc7 := g.c7
  have hn49 := g.le
  simp (disch := omega) only [go_sem, Nat.reduceEqDiff, ↓reduceIte, Nat.reduceAdd]
  refine allocK_of zero_f fun w3 fb _ x3 k3 _ => ?_
  simp (disch := omega) only [go_sem, Nat.reduceEqDiff, ↓reduceIte, Nat.reduceAdd]
  refine stK_agg siz_f (by simp) (by simp [Value.oneCell']) k3 (by simp) fun w4 kb g4 => ?_
  have s2 := x2.size
  have s3 := x3.size
  have x4 : Ext w w4 := g4.ext (x2.trans x3) (by omega)
  have s4 := x4.size
  have hc : CellsAt w4 cb (rows.length * rowLen rows) (hgt rows) := fun i hi => (o.ext x3).grow g4.grow (by have := o.lt g.pos; simp; omega) i hi
  have b1 := cornTo_le (rowLen rows) (hgt rows) lv (rows.length - 1)
  have b1' : rowLen rows * (rows.length - 1) ≤ 7 * 7 := Nat.mul_le_mul hc7 (by omega)
  have b2 := sidesTo_le rows.length (rowLen rows) (hgt rows) lv (rows.length * rowLen rows)
  have b3 := cntp_le (fun i => lv ≤ hgt rows i) (rows.length * rowLen rows)
  simp (disch := omega) only [go_sem, Nat.reduceEqDiff, ↓reduceIte, Nat.reduceAdd]
  refine QR_of (by kernel_rfl) (by kernel_rfl) ?_
  simp (disch := omega) only [go_sem, Nat.reduceEqDiff, ↓reduceIte, Nat.reduceAdd, a1, readCells_blk kb (n := 3) (by simp)]
  refine callK_q (by kernel_rfl) (fun w' e => corners_c _ _ cb (hgt rows) lv _ g (hc.ext e)) ?_
  simp (disch := omega) only [go_sem, Nat.reduceEqDiff, ↓reduceIte, Nat.reduceAdd, a1, readCells_blk kb (n := 3) (by simp)]
  refine callK_q (by kernel_rfl) (fun w' e => sides_c _ _ cb (hgt rows) lv _ g (hc.ext e)) ?_
  simp (disch := omega) only [go_sem, Nat.reduceEqDiff, ↓reduceIte, Nat.reduceAdd, a1, readCells_blk kb (n := 3) (by simp)]
  refine callK_q (by kernel_rfl) (fun w' e => land_c _ _ _ _ (hgt rows) lv _ (hc.ext e) (by omega)) ?_
  simp (disch := omega) only [go_sem, Nat.reduceEqDiff, ↓reduceIte, Nat.reduceAdd, Try.results32]
  exact fun w5 x5 => ⟨by simp [eulerOf, cornersOf, sidesOf, landOf, hlv], x4.trans x5⟩

theorem implLevelShore_c (a : Option Addr) (rows : List (List Int)) (A : Nat → Option Addr) (Cp : Nat → Nat) (gc : Nat) (lv : Int) (w : World) (hr : RowsAt w a rows A Cp) :
    Ret Try.prog 34 #[.slice a rows.length gc, .int .i64 lv] w fun v w' => v = .int .i64 (shoreOf rows lv) ∧ Ext w w' := by
  refine enter2 Try.func34 rfl (by kernel_rfl) (of_decide_eq_true (by kernel_rfl)) fun f a0 a1 => ?_
  simp (disch := omega) only [go_sem, Nat.reduceEqDiff, ↓reduceIte, Nat.reduceAdd, a0, a1]
  refine callK_of (by kernel_rfl) (leveled_c _ _ _ _ _ lv _ hr) ?_
  rintro _ w2 ⟨x2, (⟨hlv, cb, rfl, hcb, o⟩ | ⟨hlv, rfl⟩)⟩
  rotate_left
  · simp (disch := omega) only [go_sem, Nat.reduceEqDiff, ↓reduceIte, Nat.reduceAdd]
    refine allocK_of zero_f fun w3 fb _ x3 k3 _ => ?_
    simp (disch := omega) only [go_sem, Nat.reduceEqDiff, ↓reduceIte, Nat.reduceAdd]
    refine stK_agg siz_f (by simp) (by simp [Value.oneCell']) k3 (by simp) fun w4 k4 g4 => ?_
    have x4 : Ext w w4 := g4.ext (x2.trans x3) (by have := x2.size; omega)
    simp (disch := omega) only [go_sem, Nat.reduceEqDiff, ↓reduceIte, Nat.reduceAdd, Try.results34]
    exact ⟨by simp [shoreOf, hlv], x4⟩
  have hv : gvalid rows = true := by simp only [lvok, Bool.and_eq_true] at hlv; exact hlv.1
  have hl0 : 0 ≤ lv ∧ lv ≤ 99 := by simp only [lvok, Bool.and_eq_true, decide_eq_true_eq] at hlv; exact hlv.2
  have v := (gvalid_iff rows).1 hv
  have g := v.gd
  have hr1 := g.r1
  have hr7 := g.r7
  have hc1 := g.c1
  have hc7 := g.c7
  have hn49 := g.le
  simp (disch := omega) only [go_sem, Nat.reduceEqDiff, ↓reduceIte, Nat.reduceAdd]
  refine allocK_of zero_f fun w3 fb _ x3 k3 _ => ?_
  simp (disch := omega) only [go_sem, Nat.reduceEqDiff, ↓reduceIte, Nat.reduceAdd]
  refine stK_agg siz_f (by simp) (by simp [Value.oneCell']) k3 (by simp) fun w4 kb g4 => ?_
  have s2 := x2.size
  have s3 := x3.size
  have x4 : Ext w w4 := g4.ext (x2.trans x3) (by omega)
  have s4 := x4.size
  have hc : CellsAt w4 cb (rows.length * rowLen rows) (hgt rows) := fun i hi => (o.ext x3).grow g4.grow (by have := o.lt g.pos; simp; omega) i hi
  simp (disch := omega) only [go_sem, Nat.reduceEqDiff, ↓reduceIte, Nat.reduceAdd, kb.cell]
  refine loopN (rows.length * rowLen rows) (fun k f W => f 1 = .int .i64 lv ∧ f 5 = .pointer (some ⟨fb, 0, none⟩) ∧ f 7 = .int .i64 (shoreTo rows.length (rowLen rows) (hgt rows) lv k) ∧ f 21 = .slice (some ⟨cb, 0, none⟩) (rows.length * rowLen rows) (rows.length * rowLen rows) ∧ f 22 = .int .i64 (rows.length * rowLen rows : Nat) ∧ f 23 = .int .i64 k ∧ Ext w4 W) ⟨(by first | assumption | (simp only [upd_apply, Nat.reduceEqDiff, ↓reduceIte] <;> first | rfl | assumption) | simp [upd_apply, *]), (by first | assumption | (simp only [upd_apply, Nat.reduceEqDiff, ↓reduceIte] <;> first | rfl | assumption) | simp [upd_apply, *]), (by first | assumption | (simp only [upd_apply, Nat.reduceEqDiff, ↓reduceIte] <;> first | rfl | assumption) | simp [upd_apply, *]), (by first | assumption | (simp only [upd_apply, Nat.reduceEqDiff, ↓reduceIte] <;> first | rfl | assumption) | simp [upd_apply, *]), (by first | assumption | (simp only [upd_apply, Nat.reduceEqDiff, ↓reduceIte] <;> first | rfl | assumption) | simp [upd_apply, *]), (by first | assumption | (simp only [upd_apply, Nat.reduceEqDiff, ↓reduceIte] <;> first | rfl | assumption) | simp [upd_apply, *]), Ext.refl _⟩ fun k f W hk ⟨a1, a5, a7, a21, a22, a23, xw⟩ => ?_
  by_cases hlt : (k : Int) < (rows.length * rowLen rows : Nat)
  · have hkn : k < rows.length * rowLen rows := by omega
    have kbw := kb.ext xw
    have ck := (hc.ext xw) k hkn
    have hsl := shoreTo_le rows.length (rowLen rows) (hgt rows) lv k
    by_cases hland : hgt rows k < lv
    · simp (disch := omega) only [go_sem, Nat.reduceEqDiff, ↓reduceIte, Nat.reduceAdd, a1, a21, a22, a23, hlt, ck, hland]
      exact ⟨hkn, (by first | assumption | (simp only [upd_apply, Nat.reduceEqDiff, ↓reduceIte] <;> first | rfl | assumption) | simp [upd_apply, *]), (by first | assumption | (simp only [upd_apply, Nat.reduceEqDiff, ↓reduceIte] <;> first | rfl | assumption) | simp [upd_apply, *]), by simp only [upd_apply, Nat.reduceEqDiff, ↓reduceIte, a7, shoreTo]; rw [if_neg (by omega), Int.add_zero], (by first | assumption | (simp only [upd_apply, Nat.reduceEqDiff, ↓reduceIte] <;> first | rfl | assumption) | simp [upd_apply, *]), (by first | assumption | (simp only [upd_apply, Nat.reduceEqDiff, ↓reduceIte] <;> first | rfl | assumption) | simp [upd_apply, *]), (by first | assumption | (simp only [upd_apply, Nat.reduceEqDiff, ↓reduceIte] <;> first | rfl | assumption) | simp [upd_apply, *]), xw⟩
    · simp (disch := omega) only [go_sem, Nat.reduceEqDiff, ↓reduceIte, Nat.reduceAdd, a1, a5, a7, a21, a22, a23, hlt, ck, hland, readCells_blk kbw (n := 3) (by simp)]
      refine callK_of (by kernel_rfl) (neighbors_c _ _ k _ _ g.r7 g.c7 hkn) ?_
      rintro _ w6 ⟨na, nc, rfl, no, -, x6⟩
      have hn4 := nearN_len rows.length (rowLen rows) k
      simp (disch := omega) only [go_sem, Nat.reduceEqDiff, ↓reduceIte, Nat.reduceAdd]
      refine loopN (nearN rows.length (rowLen rows) k).length (fun m f V => f 1 = .int .i64 lv ∧ f 5 = .pointer (some ⟨fb, 0, none⟩) ∧ f 7 = .int .i64 (shoreTo rows.length (rowLen rows) (hgt rows) lv k + 4 - (((nearN rows.length (rowLen rows) k).take m).countP (landB (hgt rows) lv) : Nat)) ∧ f 21 = .slice (some ⟨cb, 0, none⟩) (rows.length * rowLen rows) (rows.length * rowLen rows) ∧ f 22 = .int .i64 (rows.length * rowLen rows : Nat) ∧ f 23 = .int .i64 k ∧
        f 35 = .slice na (nearN rows.length (rowLen rows) k).length nc ∧ f 36 = .int .i64 (nearN rows.length (rowLen rows) k).length ∧ f 37 = .int .i64 m ∧ Ext w6 V) ⟨(by first | assumption | (simp only [upd_apply, Nat.reduceEqDiff, ↓reduceIte] <;> first | rfl | assumption) | simp [upd_apply, *]), (by first | assumption | (simp only [upd_apply, Nat.reduceEqDiff, ↓reduceIte] <;> first | rfl | assumption) | simp [upd_apply, *]), by simp [upd_apply], (by first | assumption | (simp only [upd_apply, Nat.reduceEqDiff, ↓reduceIte] <;> first | rfl | assumption) | simp [upd_apply, *]), (by first | assumption | (simp only [upd_apply, Nat.reduceEqDiff, ↓reduceIte] <;> first | rfl | assumption) | simp [upd_apply, *]), (by first | assumption | (simp only [upd_apply, Nat.reduceEqDiff, ↓reduceIte] <;> first | rfl | assumption) | simp [upd_apply, *]), (by first | assumption | (simp only [upd_apply, Nat.reduceEqDiff, ↓reduceIte] <;> first | rfl | assumption) | simp [upd_apply, *]), (by first | assumption | (simp only [upd_apply, Nat.reduceEqDiff, ↓reduceIte] <;> first | rfl | assumption) | simp [upd_apply, *]), (by first | assumption | (simp only [upd_apply, Nat.reduceEqDiff, ↓reduceIte] <;> first | rfl | assumption) | simp [upd_apply, *]), Ext.refl _⟩ fun m f V hm ⟨a1, a5, a7, a21, a22, a23, a35, a36, a37, xm⟩ => ?_
      by_cases hlm : (m : Int) < (nearN rows.length (rowLen rows) k).length
      · obtain ⟨nb, rfl⟩ := no.some (by omega)
        have hcp : ((nearN rows.length (rowLen rows) k).take m).countP (landB (hgt rows) lv) ≤ 4 := by
          have h1 : ((nearN rows.length (rowLen rows) k).take m).countP (landB (hgt rows) lv) ≤ ((nearN rows.length (rowLen rows) k).take m).length := List.countP_le_length
          rw [List.length_take] at h1; omega
        have hjk : (nearN rows.length (rowLen rows) k).getD m 0 < rows.length * rowLen rows := nearN_lt hkn _ (getD_mem (by omega))
        have g0 : V.cell? ⟨nb, m, none⟩ = some (.int .i64 ((nearN rows.length (rowLen rows) k).getD m 0 : Nat)) := by rw [(no.ext xm).cell (by omega), vi_get _ _ (by rw [ni_len]; omega), ni_get _ (by omega)]
        have hstep := countP_take (l := nearN rows.length (rowLen rows) k) (p := landB (hgt rows) lv) (m := m) (by omega)
        generalize ((nearN rows.length (rowLen rows) k).take m).countP (landB (hgt rows) lv) = q at *
        generalize (nearN rows.length (rowLen rows) k).getD m 0 = j at *
        have kbm := kb.ext ((xw.trans x6).trans xm)
        have cj := (((hc.ext xw).ext x6).ext xm) j hjk
        by_cases hj2 : lv ≤ hgt rows j
        · have hp : landB (hgt rows) lv j = true := by simp [landB, hj2]
          rw [hp] at hstep
          simp (disch := omega) only [go_sem, Nat.reduceEqDiff, ↓reduceIte, Nat.reduceAdd, a1, a5, a7, a35, a36, a37, hlm, g0, kbm.cell, cj, hj2]
          exact ⟨by omega, (by first | assumption | (simp only [upd_apply, Nat.reduceEqDiff, ↓reduceIte] <;> first | rfl | assumption) | simp [upd_apply, *]), (by first | assumption | (simp only [upd_apply, Nat.reduceEqDiff, ↓reduceIte] <;> first | rfl | assumption) | simp [upd_apply, *]), by simp [upd_apply, hstep]; omega, (by first | assumption | (simp only [upd_apply, Nat.reduceEqDiff, ↓reduceIte] <;> first | rfl | assumption) | simp [upd_apply, *]), (by first | assumption | (simp only [upd_apply, Nat.reduceEqDiff, ↓reduceIte] <;> first | rfl | assumption) | simp [upd_apply, *]), (by first | assumption | (simp only [upd_apply, Nat.reduceEqDiff, ↓reduceIte] <;> first | rfl | assumption) | simp [upd_apply, *]), (by first | assumption | (simp only [upd_apply, Nat.reduceEqDiff, ↓reduceIte] <;> first | rfl | assumption) | simp [upd_apply, *]), (by first | assumption | (simp only [upd_apply, Nat.reduceEqDiff, ↓reduceIte] <;> first | rfl | assumption) | simp [upd_apply, *]), (by first | assumption | (simp only [upd_apply, Nat.reduceEqDiff, ↓reduceIte] <;> first | rfl | assumption) | simp [upd_apply, *]), xm⟩
        · have hp : landB (hgt rows) lv j = false := by simp [landB, hj2]
          rw [hp] at hstep
          simp (disch := omega) only [go_sem, Nat.reduceEqDiff, ↓reduceIte, Nat.reduceAdd, a1, a5, a7, a35, a36, a37, hlm, g0, kbm.cell, cj, hj2]
          exact ⟨by omega, (by first | assumption | (simp only [upd_apply, Nat.reduceEqDiff, ↓reduceIte] <;> first | rfl | assumption) | simp [upd_apply, *]), (by first | assumption | (simp only [upd_apply, Nat.reduceEqDiff, ↓reduceIte] <;> first | rfl | assumption) | simp [upd_apply, *]), by simp [upd_apply, hstep, a7], (by first | assumption | (simp only [upd_apply, Nat.reduceEqDiff, ↓reduceIte] <;> first | rfl | assumption) | simp [upd_apply, *]), (by first | assumption | (simp only [upd_apply, Nat.reduceEqDiff, ↓reduceIte] <;> first | rfl | assumption) | simp [upd_apply, *]), (by first | assumption | (simp only [upd_apply, Nat.reduceEqDiff, ↓reduceIte] <;> first | rfl | assumption) | simp [upd_apply, *]), (by first | assumption | (simp only [upd_apply, Nat.reduceEqDiff, ↓reduceIte] <;> first | rfl | assumption) | simp [upd_apply, *]), (by first | assumption | (simp only [upd_apply, Nat.reduceEqDiff, ↓reduceIte] <;> first | rfl | assumption) | simp [upd_apply, *]), (by first | assumption | (simp only [upd_apply, Nat.reduceEqDiff, ↓reduceIte] <;> first | rfl | assumption) | simp [upd_apply, *]), xm⟩
      · obtain rfl : m = (nearN rows.length (rowLen rows) k).length := by omega
        simp (disch := omega) only [go_sem, Nat.reduceEqDiff, ↓reduceIte, Nat.reduceAdd, a23, a36, a37, hlm]
        exact ⟨hkn, (by first | assumption | (simp only [upd_apply, Nat.reduceEqDiff, ↓reduceIte] <;> first | rfl | assumption) | simp [upd_apply, *]), (by first | assumption | (simp only [upd_apply, Nat.reduceEqDiff, ↓reduceIte] <;> first | rfl | assumption) | simp [upd_apply, *]), by simp only [upd_apply, Nat.reduceEqDiff, ↓reduceIte, a7, shoreTo, List.take_length]; rw [if_pos (by omega)]; congr 1; omega, (by first | assumption | (simp only [upd_apply, Nat.reduceEqDiff, ↓reduceIte] <;> first | rfl | assumption) | simp [upd_apply, *]), (by first | assumption | (simp only [upd_apply, Nat.reduceEqDiff, ↓reduceIte] <;> first | rfl | assumption) | simp [upd_apply, *]), (by first | assumption | (simp only [upd_apply, Nat.reduceEqDiff, ↓reduceIte] <;> first | rfl | assumption) | simp [upd_apply, *]), (xw.trans x6).trans xm⟩
  · obtain rfl : k = rows.length * rowLen rows := by omega
    simp (disch := omega) only [go_sem, Nat.reduceEqDiff, ↓reduceIte, Nat.reduceAdd, a7, a22, a23, hlt, Try.results34]
    exact ⟨by simp [shoreOf, hlv], x4.trans xw⟩

end Go.Proofs.Ytdlepfeckiahdaa
