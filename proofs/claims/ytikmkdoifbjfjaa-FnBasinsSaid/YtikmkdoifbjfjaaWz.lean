/- Contracts: the water functions of the program, second part. -/
import Derived.Test.YtikmkdoifbjfjaaWy
import Derived.Test.YtikmkdoifbjfjaaM2
set_option linter.all false
namespace Go.SW
def runOf (rows : List (List Int)) (r c : Int) : List Nat := if cellok rows r c = true then waterN rows.length (rowLen rows) (hgt rows) (r.toNat * rowLen rows + c.toNat) else []
end Go.SW
namespace Go.Proofs.Ytikmkdoifbjfjaa
open Go.RowKit Go.SW

theorem got_bad (w w' : World) (x : Ext w w') : Got w w' (ni []) false (.tuple #[.slice none 0 0, .bool false]) := ⟨none, 0, rfl, OwnS.nil _ _ _, fun b hb => (by cases hb), x⟩

theorem waterBasins_c (a : Option Addr) (rows : List (List Int)) (A : Nat → Option Addr) (Cp : Nat → Nat) (gc : Nat) (w : World) (hr : RowsAt w a rows A Cp) :
    Ret Try.prog 36 #[.slice a rows.length gc] w fun v w' => Got w w' (ni (basinsL rows)) (gvalid rows) v := by
  refine enter1 Try.func36 rfl (by kernel_rfl) (of_decide_eq_true (by kernel_rfl)) fun f a0 => ?_
  simp (disch := omega) only [go_sem, Nat.reduceEqDiff, ↓reduceIte, Nat.reduceAdd, a0]
  refine callK_of (by kernel_rfl) (fieldOf_c _ _ _ _ _ _ hr) ?_
  rintro _ w2 ⟨x2, (⟨hvt, cb, rfl, hcb, o⟩ | ⟨hv', rfl⟩)⟩
  rotate_left
  · simp (disch := omega) only [go_sem, Nat.reduceEqDiff, ↓reduceIte, Nat.reduceAdd]
    refine allocK_of zero_f fun w3 fb _ x3 k3 _ => ?_
    simp (disch := omega) only [go_sem, Nat.reduceEqDiff, ↓reduceIte, Nat.reduceAdd]
    refine stK_agg siz_f (by simp) (by simp [Value.oneCell']) k3 (by simp) fun w4 k4 g4 => ?_
    have x4 : Ext w w4 := g4.ext (x2.trans x3) (by have := x2.size; omega)
    have hv : gvalid rows = false := hv'
    simp (disch := omega) only [go_sem, Nat.reduceEqDiff, ↓reduceIte, Nat.reduceAdd, Try.results36]
    simpa [basinsL, hv] using got_bad w w4 x4
  have hv : gvalid rows = true := hvt
  have v := (gvalid_iff rows).1 hv
  have g := v.gd
  have hn49 := g.le
  simp (disch := omega) only [go_sem, Nat.reduceEqDiff, ↓reduceIte, Nat.reduceAdd]
  refine allocK_of zero_f fun w3 fb _ x3 k3 _ => ?_
  simp (disch := omega) only [go_sem, Nat.reduceEqDiff, ↓reduceIte, Nat.reduceAdd]
  refine stK_agg siz_f (by simp) (by simp [Value.oneCell']) k3 (by simp) fun w4 kb g4 => ?_
  have s2 := x2.size
  have s3 := x3.size
  have x4 : Ext w w4 := g4.ext (x2.trans x3) (by omega)
  have s4 := x4.size
  have hc : CellsAt w4 cb (rows.length * rowLen rows) (hgt rows) := fun i hi => by
    have := ((o.cellsAt.ext x3).grow g4.grow (by have := o.cellsAt.lt g.pos; simp; omega)) i hi
    simpa only [hs_get rows i hi] using this
  simp (disch := omega) only [go_sem, Nat.reduceEqDiff, ↓reduceIte, Nat.reduceAdd, kb.cell]
  refine mksK_of elt_i _ _ _ _ _ _ rfl rfl (Nat.le_refl _) (by omega) (by simp [maxLen]; omega) fun w5 b5 e5 x5 o5 _ => ?_
  simp (disch := omega) only [go_sem, Nat.reduceEqDiff, ↓reduceIte, Nat.reduceAdd]
  refine loopN (rows.length * rowLen rows) (fun k f w' => f 4 = .pointer (some ⟨fb, 0, none⟩) ∧ f 6 = .slice (some ⟨b5, 0, none⟩) (rows.length * rowLen rows) (rows.length * rowLen rows) ∧ f 20 = .int .i64 (rows.length * rowLen rows : Nat) ∧ f 21 = .int .i64 k ∧
    (∃ xs, OwnS w' 3 1 (some ⟨b5, 0, none⟩) (rows.length * rowLen rows) (rows.length * rowLen rows) xs ∧ ∀ j, j < k → xs[j]? = some (.int .i64 (endN rows.length (rowLen rows) (hgt rows) j : Nat))) ∧ Ext w4 w') ?_ fun k f w' hk ⟨a4, a6, a20, a21, ⟨xs, o, hx⟩, xw⟩ => ?_
  · exact ⟨(by first | assumption | (simp only [upd_apply, Nat.reduceEqDiff, ↓reduceIte] <;> first | rfl | assumption) | simp [upd_apply, *]), (by first | assumption | (simp only [upd_apply, Nat.reduceEqDiff, ↓reduceIte] <;> first | rfl | assumption) | simp [upd_apply, *]), (by first | assumption | (simp only [upd_apply, Nat.reduceEqDiff, ↓reduceIte] <;> first | rfl | assumption) | simp [upd_apply, *]), (by first | assumption | (simp only [upd_apply, Nat.reduceEqDiff, ↓reduceIte] <;> first | rfl | assumption) | simp [upd_apply, *]), ⟨_, o5, fun j hj => by omega⟩, x5⟩
  · by_cases hlt : (k : Int) < (rows.length * rowLen rows : Nat)
    · have kbw := kb.ext xw
      have hkn : k < rows.length * rowLen rows := by omega
      simp (disch := omega) only [go_sem, Nat.reduceEqDiff, ↓reduceIte, Nat.reduceAdd, a4, a6, a20, a21, hlt, readCells_blk kbw (n := 3) (by simp)]
      refine callK_pure (by kernel_rfl) (end_c _ _ cb k (hgt rows) _ g (hc.ext xw) hkn) fun w6 x6 => ?_
      simp (disch := omega) only [go_sem, Nat.reduceEqDiff, ↓reduceIte, Nat.reduceAdd, a6]
      refine stK_own siz_int (by rfl) (by rfl) (o.ext x6) hkn fun w7 o7 g7 => ?_
      simp (disch := omega) only [go_sem, Nat.reduceEqDiff, ↓reduceIte, Nat.reduceAdd, a21]
      exact ⟨hkn, (by first | assumption | (simp only [upd_apply, Nat.reduceEqDiff, ↓reduceIte] <;> first | rfl | assumption) | simp [upd_apply, *]), (by first | assumption | (simp only [upd_apply, Nat.reduceEqDiff, ↓reduceIte] <;> first | rfl | assumption) | simp [upd_apply, *]), (by first | assumption | (simp only [upd_apply, Nat.reduceEqDiff, ↓reduceIte] <;> first | rfl | assumption) | simp [upd_apply, *]), (by first | assumption | (simp only [upd_apply, Nat.reduceEqDiff, ↓reduceIte] <;> first | rfl | assumption) | simp [upd_apply, *]), ⟨_, o7, set_get (fun j => .int .i64 (endN rows.length (rowLen rows) (hgt rows) j : Nat)) (by rw [o.1]; omega) rfl hx⟩, g7.ext (xw.trans x6) (by omega)⟩
    · obtain rfl : k = rows.length * rowLen rows := by omega
      simp (disch := omega) only [go_sem, Nat.reduceEqDiff, ↓reduceIte, Nat.reduceAdd, a6, a20, a21, hlt, Try.results36]
      have e : xs = vi (ni (basinsL rows)) := by
        simp only [basinsL, hv, if_true]
        exact vi_ext (by rw [o.1, ni_range_len]; omega) fun j hj => by
          rw [ni_range_len] at hj
          rw [hx j hj, ni_get _ (by simp; omega)]; simp [hj]
      have el : (ni (basinsL rows)).length = rows.length * rowLen rows := by simp [basinsL, hv, ni]
      exact ⟨_, _, by rw [el, hv], by rw [el, ← e]; exact o, fun b h => by simp [blk] at h; omega, x4.trans xw⟩

theorem waterBasin_c (a : Option Addr) (rows : List (List Int)) (A : Nat → Option Addr) (Cp : Nat → Nat) (gc : Nat) (s : Int) (w : World) (hr : RowsAt w a rows A Cp) :
    Ret Try.prog 30 #[.slice a rows.length gc, .int .i64 s] w fun v w' => v = .int .i64 (basinOf rows s) ∧ Ext w w' := by
  refine enter2 Try.func30 rfl (by kernel_rfl) (of_decide_eq_true (by kernel_rfl)) fun f a0 a1 => ?_
  simp (disch := omega) only [go_sem, Nat.reduceEqDiff, ↓reduceIte, Nat.reduceAdd, a0]
  refine callK_of (by kernel_rfl) (fieldOf_c _ _ _ _ _ _ hr) ?_
  rintro _ w2 ⟨x2, (⟨hvt, cb, rfl, hcb, o⟩ | ⟨hv', rfl⟩)⟩
  rotate_left
  · simp (disch := omega) only [go_sem, Nat.reduceEqDiff, ↓reduceIte, Nat.reduceAdd]
    refine allocK_of zero_f fun w3 fb _ x3 k3 _ => ?_
    simp (disch := omega) only [go_sem, Nat.reduceEqDiff, ↓reduceIte, Nat.reduceAdd]
    refine stK_agg siz_f (by simp) (by simp [Value.oneCell']) k3 (by simp) fun w4 k4 g4 => ?_
    have x4 : Ext w w4 := g4.ext (x2.trans x3) (by have := x2.size; omega)
    have hv : gvalid rows = false := hv'
    simp (disch := omega) only [go_sem, Nat.reduceEqDiff, ↓reduceIte, Nat.reduceAdd, Try.results30]
    exact ⟨by simp [basinOf, hv], x4⟩
  have hv : gvalid rows = true := hvt
  have v := (gvalid_iff rows).1 hv
  have g := v.gd
  have hn49 := g.le
  simp (disch := omega) only [go_sem, Nat.reduceEqDiff, ↓reduceIte, Nat.reduceAdd]
  refine allocK_of zero_f fun w3 fb _ x3 k3 _ => ?_
  simp (disch := omega) only [go_sem, Nat.reduceEqDiff, ↓reduceIte, Nat.reduceAdd]
  refine stK_agg siz_f (by simp) (by simp [Value.oneCell']) k3 (by simp) fun w4 kb g4 => ?_
  have s2 := x2.size
  have s3 := x3.size
  have x4 : Ext w w4 := g4.ext (x2.trans x3) (by omega)
  have s4 := x4.size
  have hc : CellsAt w4 cb (rows.length * rowLen rows) (hgt rows) := fun i hi => by
    have := ((o.cellsAt.ext x3).grow g4.grow (by have := o.cellsAt.lt g.pos; simp; omega)) i hi
    simpa only [hs_get rows i hi] using this
  by_cases h1 : s < 0
  · simp (disch := omega) only [go_sem, Nat.reduceEqDiff, ↓reduceIte, Nat.reduceAdd, a1, h1, Try.results30]
    exact ⟨by rw [basinOf, if_neg (by omega)], x4⟩
  by_cases h2 : ((rows.length * rowLen rows : Nat) : Int) ≤ s
  · simp (disch := omega) only [go_sem, Nat.reduceEqDiff, ↓reduceIte, Nat.reduceAdd, a1, h1, h2, kb.cell, Try.results30]
    exact ⟨by rw [basinOf, if_neg (by omega)], x4⟩
  obtain ⟨n, rfl⟩ := Int.eq_ofNat_of_zero_le (show 0 ≤ s by omega)
  have hn : n < rows.length * rowLen rows := by omega
  simp (disch := omega) only [go_sem, Nat.reduceEqDiff, ↓reduceIte, Nat.reduceAdd, a1, h1, h2, kb.cell, readCells_blk kb (n := 3) (by simp)]
  refine callK_pure (by kernel_rfl) (next_c _ _ cb n (hgt rows) _ g.r7 g.c7 hc hn) fun w5 x5 => ?_
  by_cases hs : nextN rows.length (rowLen rows) (hgt rows) n = n
  case neg =>
    have hb : (((nextN rows.length (rowLen rows) (hgt rows) n : Nat) : Int) != (n : Int)) = true := by simp; omega
    simp (disch := omega) only [go_sem, Nat.reduceEqDiff, ↓reduceIte, Nat.reduceAdd, a1, hb, Try.results30]
    exact ⟨by rw [basinOf, if_neg (by rw [Int.toNat_natCast]; exact fun e => hs e.2.2.2)], x4.trans x5⟩
  have hb : (((nextN rows.length (rowLen rows) (hgt rows) n : Nat) : Int) != (n : Int)) = false := by simp [hs]
  have kb5 := kb.ext x5
  simp (disch := omega) only [go_sem, Nat.reduceEqDiff, ↓reduceIte, Nat.reduceAdd, a1, hb, kb5.cell]
  refine loopN (rows.length * rowLen rows) (fun k f w' => f 1 = .int .i64 n ∧ f 5 = .pointer (some ⟨fb, 0, none⟩) ∧ f 7 = .int .i64 (cntp (fun i => ((endN rows.length (rowLen rows) (hgt rows) i : Nat) : Int) = (n : Int)) k : Nat) ∧ f 36 = .int .i64 (rows.length * rowLen rows : Nat) ∧ f 37 = .int .i64 k ∧ Ext w4 w') ?_ fun k f w' hk ⟨a1, a5, a7, a36, a37, xw⟩ => ?_
  · exact ⟨(by first | assumption | (simp only [upd_apply, Nat.reduceEqDiff, ↓reduceIte] <;> first | rfl | assumption) | simp [upd_apply, *]), (by first | assumption | (simp only [upd_apply, Nat.reduceEqDiff, ↓reduceIte] <;> first | rfl | assumption) | simp [upd_apply, *]), (by first | assumption | (simp only [upd_apply, Nat.reduceEqDiff, ↓reduceIte] <;> first | rfl | assumption) | simp [upd_apply, *]), (by first | assumption | (simp only [upd_apply, Nat.reduceEqDiff, ↓reduceIte] <;> first | rfl | assumption) | simp [upd_apply, *]), (by first | assumption | (simp only [upd_apply, Nat.reduceEqDiff, ↓reduceIte] <;> first | rfl | assumption) | simp [upd_apply, *]), x5⟩
  · by_cases hlt : (k : Int) < (rows.length * rowLen rows : Nat)
    · have kbw := kb.ext xw
      have hkn : k < rows.length * rowLen rows := by omega
      have hcl := cntp_le (fun i => ((endN rows.length (rowLen rows) (hgt rows) i : Nat) : Int) = (n : Int)) k
      simp (disch := omega) only [go_sem, Nat.reduceEqDiff, ↓reduceIte, Nat.reduceAdd, a1, a5, a36, a37, hlt, readCells_blk kbw (n := 3) (by simp)]
      refine callK_pure (by kernel_rfl) (end_c _ _ cb k (hgt rows) _ g (hc.ext xw) hkn) fun w6 x6 => ?_
      by_cases he : ((endN rows.length (rowLen rows) (hgt rows) k : Nat) : Int) = (n : Int)
      · have hbq : (((endN rows.length (rowLen rows) (hgt rows) k : Nat) : Int) == (n : Int)) = true := by simp [he]
        simp (disch := omega) only [go_sem, Nat.reduceEqDiff, ↓reduceIte, Nat.reduceAdd, a1, a7, a37, hbq]
        exact ⟨hkn, (by first | assumption | (simp only [upd_apply, Nat.reduceEqDiff, ↓reduceIte] <;> first | rfl | assumption) | simp [upd_apply, *]), (by first | assumption | (simp only [upd_apply, Nat.reduceEqDiff, ↓reduceIte] <;> first | rfl | assumption) | simp [upd_apply, *]), by simp [upd_apply, cntp, he], (by first | assumption | (simp only [upd_apply, Nat.reduceEqDiff, ↓reduceIte] <;> first | rfl | assumption) | simp [upd_apply, *]), (by first | assumption | (simp only [upd_apply, Nat.reduceEqDiff, ↓reduceIte] <;> first | rfl | assumption) | simp [upd_apply, *]), xw.trans x6⟩
      · have hbq : (((endN rows.length (rowLen rows) (hgt rows) k : Nat) : Int) == (n : Int)) = false := by simpa using he
        simp (disch := omega) only [go_sem, Nat.reduceEqDiff, ↓reduceIte, Nat.reduceAdd, a1, a7, a37, hbq]
        exact ⟨hkn, (by first | assumption | (simp only [upd_apply, Nat.reduceEqDiff, ↓reduceIte] <;> first | rfl | assumption) | simp [upd_apply, *]), (by first | assumption | (simp only [upd_apply, Nat.reduceEqDiff, ↓reduceIte] <;> first | rfl | assumption) | simp [upd_apply, *]), by simp [upd_apply, cntp, he, a7], (by first | assumption | (simp only [upd_apply, Nat.reduceEqDiff, ↓reduceIte] <;> first | rfl | assumption) | simp [upd_apply, *]), (by first | assumption | (simp only [upd_apply, Nat.reduceEqDiff, ↓reduceIte] <;> first | rfl | assumption) | simp [upd_apply, *]), xw.trans x6⟩
    · obtain rfl : k = rows.length * rowLen rows := by omega
      simp (disch := omega) only [go_sem, Nat.reduceEqDiff, ↓reduceIte, Nat.reduceAdd, a7, a36, a37, hlt, Try.results30]
      exact ⟨by rw [basinOf, if_pos (by rw [Int.toNat_natCast]; exact ⟨hv, by omega, by omega, hs⟩)], x4.trans xw⟩

theorem waterDivide_c (a : Option Addr) (rows : List (List Int)) (A : Nat → Option Addr) (Cp : Nat → Nat) (gc : Nat) (w : World) (hr : RowsAt w a rows A Cp) :
    Ret Try.prog 34 #[.slice a rows.length gc] w fun v w' => v = .int .i64 (divOf rows) ∧ Ext w w' := by
  refine enter1 Try.func34 rfl (by kernel_rfl) (of_decide_eq_true (by kernel_rfl)) fun f a0 => ?_
  simp (disch := omega) only [go_sem, Nat.reduceEqDiff, ↓reduceIte, Nat.reduceAdd, a0]
  refine callK_of (by kernel_rfl) (fieldOf_c _ _ _ _ _ _ hr) ?_
  rintro _ w2 ⟨x2, (⟨hvt, cb, rfl, hcb, o⟩ | ⟨hv', rfl⟩)⟩
  rotate_left
  · simp (disch := omega) only [go_sem, Nat.reduceEqDiff, ↓reduceIte, Nat.reduceAdd]
    refine allocK_of zero_f fun w3 fb _ x3 k3 _ => ?_
    simp (disch := omega) only [go_sem, Nat.reduceEqDiff, ↓reduceIte, Nat.reduceAdd]
    refine stK_agg siz_f (by simp) (by simp [Value.oneCell']) k3 (by simp) fun w4 k4 g4 => ?_
    have x4 : Ext w w4 := g4.ext (x2.trans x3) (by have := x2.size; omega)
    have hv : gvalid rows = false := hv'
    simp (disch := omega) only [go_sem, Nat.reduceEqDiff, ↓reduceIte, Nat.reduceAdd, Try.results34]
    exact ⟨by simp [divOf, hv], x4⟩
  have hv : gvalid rows = true := hvt
  have v := (gvalid_iff rows).1 hv
  have g := v.gd
  have hn49 := g.le
  simp (disch := omega) only [go_sem, Nat.reduceEqDiff, ↓reduceIte, Nat.reduceAdd]
  refine allocK_of zero_f fun w3 fb _ x3 k3 _ => ?_
  simp (disch := omega) only [go_sem, Nat.reduceEqDiff, ↓reduceIte, Nat.reduceAdd]
  refine stK_agg siz_f (by simp) (by simp [Value.oneCell']) k3 (by simp) fun w4 kb g4 => ?_
  have s2 := x2.size
  have s3 := x3.size
  have x4 : Ext w w4 := g4.ext (x2.trans x3) (by omega)
  have s4 := x4.size
  have hc : CellsAt w4 cb (rows.length * rowLen rows) (hgt rows) := fun i hi => by
    have := ((o.cellsAt.ext x3).grow g4.grow (by have := o.cellsAt.lt g.pos; simp; omega)) i hi
    simpa only [hs_get rows i hi] using this
  simp (disch := omega) only [go_sem, Nat.reduceEqDiff, ↓reduceIte, Nat.reduceAdd, kb.cell]
  refine loopN (rows.length * rowLen rows) (fun k f w' => f 3 = .pointer (some ⟨fb, 0, none⟩) ∧ f 5 = .int .i64 (divTo rows.length (rowLen rows) (hgt rows) k : Nat) ∧ f 18 = .int .i64 (rows.length * rowLen rows : Nat) ∧ f 19 = .int .i64 k ∧ Ext w4 w') ?_ fun k f w' hk ⟨a3, a5, a18, a19, xw⟩ => ?_
  · exact ⟨(by first | assumption | (simp only [upd_apply, Nat.reduceEqDiff, ↓reduceIte] <;> first | rfl | assumption) | simp [upd_apply, *]), (by first | assumption | (simp only [upd_apply, Nat.reduceEqDiff, ↓reduceIte] <;> first | rfl | assumption) | simp [upd_apply, *]), (by first | assumption | (simp only [upd_apply, Nat.reduceEqDiff, ↓reduceIte] <;> first | rfl | assumption) | simp [upd_apply, *]), (by first | assumption | (simp only [upd_apply, Nat.reduceEqDiff, ↓reduceIte] <;> first | rfl | assumption) | simp [upd_apply, *]), Ext.refl _⟩
  · by_cases hlt : (k : Int) < (rows.length * rowLen rows : Nat)
    · have kbw := kb.ext xw
      have hkn : k < rows.length * rowLen rows := by omega
      have hdl := divTo_le rows.length (rowLen rows) (hgt rows) k
      simp (disch := omega) only [go_sem, Nat.reduceEqDiff, ↓reduceIte, Nat.reduceAdd, a3, a18, a19, hlt, readCells_blk kbw (n := 3) (by simp)]
      refine callK_of (by kernel_rfl) (neighbors_c _ _ k _ _ g.r7 g.c7 hkn) ?_
      rintro _ w6 ⟨na, nc, rfl, no, -, x6⟩
      have hn4 := nearN_len rows.length (rowLen rows) k
      simp (disch := omega) only [go_sem, Nat.reduceEqDiff, ↓reduceIte, Nat.reduceAdd]
      refine loopN (nearN rows.length (rowLen rows) k).length (fun m f W => f 3 = .pointer (some ⟨fb, 0, none⟩) ∧ f 5 = .int .i64 (divTo rows.length (rowLen rows) (hgt rows) k + ((nearN rows.length (rowLen rows) k).take m).countP (divP rows.length (rowLen rows) (hgt rows) k) : Nat) ∧ f 6 = .int .i64 k ∧ f 18 = .int .i64 (rows.length * rowLen rows : Nat) ∧ f 19 = .int .i64 k ∧
        f 24 = .slice na (nearN rows.length (rowLen rows) k).length nc ∧ f 25 = .int .i64 (nearN rows.length (rowLen rows) k).length ∧ f 26 = .int .i64 m ∧ Ext w6 W) ?_ fun m f W hm ⟨a3, a5, a6, a18, a19, a24, a25, a26, xm⟩ => ?_
      · exact ⟨(by first | assumption | (simp only [upd_apply, Nat.reduceEqDiff, ↓reduceIte] <;> first | rfl | assumption) | simp [upd_apply, *]), by simp [upd_apply, a5], (by first | assumption | (simp only [upd_apply, Nat.reduceEqDiff, ↓reduceIte] <;> first | rfl | assumption) | simp [upd_apply, *]), (by first | assumption | (simp only [upd_apply, Nat.reduceEqDiff, ↓reduceIte] <;> first | rfl | assumption) | simp [upd_apply, *]), (by first | assumption | (simp only [upd_apply, Nat.reduceEqDiff, ↓reduceIte] <;> first | rfl | assumption) | simp [upd_apply, *]), (by first | assumption | (simp only [upd_apply, Nat.reduceEqDiff, ↓reduceIte] <;> first | rfl | assumption) | simp [upd_apply, *]), (by first | assumption | (simp only [upd_apply, Nat.reduceEqDiff, ↓reduceIte] <;> first | rfl | assumption) | simp [upd_apply, *]), (by first | assumption | (simp only [upd_apply, Nat.reduceEqDiff, ↓reduceIte] <;> first | rfl | assumption) | simp [upd_apply, *]), Ext.refl _⟩
      · by_cases hlm : (m : Int) < (nearN rows.length (rowLen rows) k).length
        · obtain ⟨nb, rfl⟩ := no.some (by omega)
          have hcp : ((nearN rows.length (rowLen rows) k).take m).countP (divP rows.length (rowLen rows) (hgt rows) k) ≤ 4 := by
            have h1 : ((nearN rows.length (rowLen rows) k).take m).countP (divP rows.length (rowLen rows) (hgt rows) k) ≤ ((nearN rows.length (rowLen rows) k).take m).length := List.countP_le_length
            rw [List.length_take] at h1; omega
          have hjk : (nearN rows.length (rowLen rows) k).getD m 0 < rows.length * rowLen rows := nearN_lt hkn _ (getD_mem (by omega))
          have g0 : W.cell? ⟨nb, m, none⟩ = some (.int .i64 ((nearN rows.length (rowLen rows) k).getD m 0 : Nat)) := by rw [(no.ext xm).cell (by omega), vi_get _ _ (by rw [ni_len]; omega), ni_get _ (by omega)]
          have hstep := countP_take (l := nearN rows.length (rowLen rows) k) (p := divP rows.length (rowLen rows) (hgt rows) k) (m := m) (by omega)
          generalize ((nearN rows.length (rowLen rows) k).take m).countP (divP rows.length (rowLen rows) (hgt rows) k) = q at *
          generalize (nearN rows.length (rowLen rows) k).getD m 0 = j at *
          have kbm := kb.ext ((xw.trans x6).trans xm)
          have hcm := ((hc.ext xw).ext x6).ext xm
          simp (disch := omega) only [go_sem, Nat.reduceEqDiff, ↓reduceIte, Nat.reduceAdd, a6, a24, a25, a26, hlm, g0]
          refine QR_of (by kernel_rfl) (by kernel_rfl) ?_
          by_cases hij : (k : Int) < (j : Int)
          · simp (disch := omega) only [go_sem, Nat.reduceEqDiff, ↓reduceIte, Nat.reduceAdd, a3, a6, hij, readCells_blk kbm (n := 3) (by simp)]
            refine callK_q (by kernel_rfl) (fun w' e => end_c _ _ cb k (hgt rows) _ g (hcm.ext e) hkn) ?_
            simp (disch := omega) only [go_sem, Nat.reduceEqDiff, ↓reduceIte, Nat.reduceAdd, a3, readCells_blk kbm (n := 3) (by simp)]
            refine callK_q (by kernel_rfl) (fun w' e => end_c _ _ cb j (hgt rows) _ g (hcm.ext e) hjk) ?_
            by_cases he : endN rows.length (rowLen rows) (hgt rows) k = endN rows.length (rowLen rows) (hgt rows) j
            · have hbq : (((endN rows.length (rowLen rows) (hgt rows) k : Nat) : Int) != ((endN rows.length (rowLen rows) (hgt rows) j : Nat) : Int)) = false := by simp [he]
              have hp : divP rows.length (rowLen rows) (hgt rows) k j = false := by simp [divP, he]
              rw [hp] at hstep
              simp (disch := omega) only [go_sem, Nat.reduceEqDiff, ↓reduceIte, Nat.reduceAdd, a26, hbq]
              exact fun W2 x2 => ⟨by omega, (by first | assumption | (simp only [upd_apply, Nat.reduceEqDiff, ↓reduceIte] <;> first | rfl | assumption) | simp [upd_apply, *]), by simp [upd_apply, hstep, a5], (by first | assumption | (simp only [upd_apply, Nat.reduceEqDiff, ↓reduceIte] <;> first | rfl | assumption) | simp [upd_apply, *]), (by first | assumption | (simp only [upd_apply, Nat.reduceEqDiff, ↓reduceIte] <;> first | rfl | assumption) | simp [upd_apply, *]), (by first | assumption | (simp only [upd_apply, Nat.reduceEqDiff, ↓reduceIte] <;> first | rfl | assumption) | simp [upd_apply, *]), (by first | assumption | (simp only [upd_apply, Nat.reduceEqDiff, ↓reduceIte] <;> first | rfl | assumption) | simp [upd_apply, *]), (by first | assumption | (simp only [upd_apply, Nat.reduceEqDiff, ↓reduceIte] <;> first | rfl | assumption) | simp [upd_apply, *]), (by first | assumption | (simp only [upd_apply, Nat.reduceEqDiff, ↓reduceIte] <;> first | rfl | assumption) | simp [upd_apply, *]), xm.trans x2⟩
            · have hbq : (((endN rows.length (rowLen rows) (hgt rows) k : Nat) : Int) != ((endN rows.length (rowLen rows) (hgt rows) j : Nat) : Int)) = true := by simp; omega
              have hp : divP rows.length (rowLen rows) (hgt rows) k j = true := by simp [divP, he]; omega
              rw [hp] at hstep
              simp (disch := omega) only [go_sem, Nat.reduceEqDiff, ↓reduceIte, Nat.reduceAdd, a5, a26, hbq]
              exact fun W2 x2 => ⟨by omega, (by first | assumption | (simp only [upd_apply, Nat.reduceEqDiff, ↓reduceIte] <;> first | rfl | assumption) | simp [upd_apply, *]), by simp [upd_apply, hstep]; omega, (by first | assumption | (simp only [upd_apply, Nat.reduceEqDiff, ↓reduceIte] <;> first | rfl | assumption) | simp [upd_apply, *]), (by first | assumption | (simp only [upd_apply, Nat.reduceEqDiff, ↓reduceIte] <;> first | rfl | assumption) | simp [upd_apply, *]), (by first | assumption | (simp only [upd_apply, Nat.reduceEqDiff, ↓reduceIte] <;> first | rfl | assumption) | simp [upd_apply, *]), (by first | assumption | (simp only [upd_apply, Nat.reduceEqDiff, ↓reduceIte] <;> first | rfl | assumption) | simp [upd_apply, *]), (by first | assumption | (simp only [upd_apply, Nat.reduceEqDiff, ↓reduceIte] <;> first | rfl | assumption) | simp [upd_apply, *]), (by first | assumption | (simp only [upd_apply, Nat.reduceEqDiff, ↓reduceIte] <;> first | rfl | assumption) | simp [upd_apply, *]), xm.trans x2⟩
          · have hp : divP rows.length (rowLen rows) (hgt rows) k j = false := by simp [divP]; omega
            rw [hp] at hstep
            simp (disch := omega) only [go_sem, Nat.reduceEqDiff, ↓reduceIte, Nat.reduceAdd, a6, a26, hij]
            exact fun W2 x2 => ⟨by omega, (by first | assumption | (simp only [upd_apply, Nat.reduceEqDiff, ↓reduceIte] <;> first | rfl | assumption) | simp [upd_apply, *]), by simp [upd_apply, hstep, a5], (by first | assumption | (simp only [upd_apply, Nat.reduceEqDiff, ↓reduceIte] <;> first | rfl | assumption) | simp [upd_apply, *]), (by first | assumption | (simp only [upd_apply, Nat.reduceEqDiff, ↓reduceIte] <;> first | rfl | assumption) | simp [upd_apply, *]), (by first | assumption | (simp only [upd_apply, Nat.reduceEqDiff, ↓reduceIte] <;> first | rfl | assumption) | simp [upd_apply, *]), (by first | assumption | (simp only [upd_apply, Nat.reduceEqDiff, ↓reduceIte] <;> first | rfl | assumption) | simp [upd_apply, *]), (by first | assumption | (simp only [upd_apply, Nat.reduceEqDiff, ↓reduceIte] <;> first | rfl | assumption) | simp [upd_apply, *]), (by first | assumption | (simp only [upd_apply, Nat.reduceEqDiff, ↓reduceIte] <;> first | rfl | assumption) | simp [upd_apply, *]), xm.trans x2⟩
        · obtain rfl : m = (nearN rows.length (rowLen rows) k).length := by omega
          simp (disch := omega) only [go_sem, Nat.reduceEqDiff, ↓reduceIte, Nat.reduceAdd, a19, a25, a26, hlm]
          refine ⟨hkn, (by first | assumption | (simp only [upd_apply, Nat.reduceEqDiff, ↓reduceIte] <;> first | rfl | assumption) | simp [upd_apply, *]), by simp [upd_apply, a5, divTo], (by first | assumption | (simp only [upd_apply, Nat.reduceEqDiff, ↓reduceIte] <;> first | rfl | assumption) | simp [upd_apply, *]), (by first | assumption | (simp only [upd_apply, Nat.reduceEqDiff, ↓reduceIte] <;> first | rfl | assumption) | simp [upd_apply, *]), (xw.trans x6).trans xm⟩
    · obtain rfl : k = rows.length * rowLen rows := by omega
      simp (disch := omega) only [go_sem, Nat.reduceEqDiff, ↓reduceIte, Nat.reduceAdd, a5, a18, a19, hlt, Try.results34]
      exact ⟨by simp [divOf, hv], x4.trans xw⟩

theorem waterRun_c (a : Option Addr) (rows : List (List Int)) (A : Nat → Option Addr) (Cp : Nat → Nat) (gc : Nat) (r c : Int) (w : World) (hr : RowsAt w a rows A Cp) :
    Ret Try.prog 21 #[.slice a rows.length gc, .int .i64 r, .int .i64 c] w fun v w' => Got w w' (ni (runOf rows r c)) (cellok rows r c) v := by
  refine enterD3 (y := false) Try.func21 rfl (by kernel_rfl) (of_decide_eq_true (by kernel_rfl)) fun f a0 a1 a2 => ?_
  simp (disch := omega) only [go_sem, Nat.reduceEqDiff, ↓reduceIte, Nat.reduceAdd, a0]
  refine callK_of (by kernel_rfl) (fieldOf_c _ _ _ _ _ _ hr) ?_
  rintro _ w2 ⟨x2, (⟨hvt, cb, rfl, hcb, o⟩ | ⟨hv', rfl⟩)⟩
  rotate_left
  · simp (disch := omega) only [go_sem, Nat.reduceEqDiff, ↓reduceIte, Nat.reduceAdd]
    refine allocK_of zero_f fun w3 fb _ x3 k3 _ => ?_
    simp (disch := omega) only [go_sem, Nat.reduceEqDiff, ↓reduceIte, Nat.reduceAdd]
    refine stK_agg siz_f (by simp) (by simp [Value.oneCell']) k3 (by simp) fun w4 k4 g4 => ?_
    have x4 : Ext w w4 := g4.ext (x2.trans x3) (by have := x2.size; omega)
    have hv : gvalid rows = false := hv'
    simp (disch := omega) only [go_sem, Nat.reduceEqDiff, ↓reduceIte, Nat.reduceAdd]
    refine ⟨trivial, fun w' hw _ => ?_⟩
    rw [hw rfl]
    simp (disch := omega) only [go_sem, Nat.reduceEqDiff, ↓reduceIte, Nat.reduceAdd, Try.results21]
    have hok : cellok rows r c = false := by simp [cellok, hv]
    simpa [runOf, hok] using got_bad w w4 x4
  have hv : gvalid rows = true := hvt
  have v := (gvalid_iff rows).1 hv
  have g := v.gd
  have hn49 := g.le
  simp (disch := omega) only [go_sem, Nat.reduceEqDiff, ↓reduceIte, Nat.reduceAdd]
  refine allocK_of zero_f fun w3 fb _ x3 k3 _ => ?_
  simp (disch := omega) only [go_sem, Nat.reduceEqDiff, ↓reduceIte, Nat.reduceAdd]
  refine stK_agg siz_f (by simp) (by simp [Value.oneCell']) k3 (by simp) fun w4 kb g4 => ?_
  have s2 := x2.size
  have s3 := x3.size
  have x4 : Ext w w4 := g4.ext (x2.trans x3) (by omega)
  have s4 := x4.size
  have hc : CellsAt w4 cb (rows.length * rowLen rows) (hgt rows) := fun i hi => by
    have := ((o.cellsAt.ext x3).grow g4.grow (by have := o.cellsAt.lt g.pos; simp; omega)) i hi
    simpa only [hs_get rows i hi] using this
  simp (disch := omega) only [go_sem, Nat.reduceEqDiff, ↓reduceIte, Nat.reduceAdd, a1, a2, readCells_blk kb (n := 3) (by simp)]
  refine callK_pure (by kernel_rfl) (has_c _ _ _ _ _ _) fun w5 x5 => ?_
  have kb := kb.ext x5
  have hc := hc.ext x5
  by_cases hh : 0 ≤ r ∧ r < (rows.length : Int) ∧ 0 ≤ c ∧ c < (rowLen rows : Int)
  case neg =>
    have hok : cellok rows r c = false := by simp only [cellok, hv, decide_eq_false hh, Bool.true_and]
    simp (disch := omega) only [go_sem, Nat.reduceEqDiff, ↓reduceIte, Nat.reduceAdd, hh]
    refine ⟨trivial, fun w' hw _ => ?_⟩
    rw [hw rfl]
    simp (disch := omega) only [go_sem, Nat.reduceEqDiff, ↓reduceIte, Nat.reduceAdd, Try.results21]
    simpa [runOf, hok] using got_bad w w5 (x4.trans x5)
  have hok : cellok rows r c = true := by simp [cellok, hv, hh]
  obtain ⟨rn, cn, rfl, rfl, h1, h2, h3⟩ := cell_idx hok
  have hr7 := g.r7
  have hc7 := g.c7
  have s5 := x5.size
  simp only [go_sem, Nat.reduceEqDiff, ↓reduceIte, hh, and_self]
  refine bslK_0 elt_i fun w6 b6 e6 x6 o6 _ => ?_
  have s6 := x6.size
  simp (disch := omega) only [go_sem, Nat.reduceEqDiff, ↓reduceIte, Nat.reduceAdd]
  refine allocK_of zero_i fun w7 lb e7 x7 k7 _ => ?_
  have s7 := x7.size
  simp (disch := omega) only [go_sem, Nat.reduceEqDiff, ↓reduceIte, Nat.reduceAdd]
  refine stK_blk siz_i (by rfl) (by rfl) k7 (by simp) fun w8 k8 g8 => ?_
  have k8 : Blk w8 lb #[.slice (some ⟨b6, 0, none⟩) 0 0] 28 := by simpa using k8
  have hfb := kb.lt
  have kb8 := g8.grow.blk ((kb.ext x6).ext x7) (by simp; omega)
  have hc8 : CellsAt w8 cb _ _ := fun i hi => g8.grow.cell (((hc.ext x6).ext x7) i hi) (by have := hc.lt g.pos; simp; omega)
  have x8 : Ext w w8 := g8.ext (((x4.trans x5).trans x6).trans x7) (by omega)
  have o8 := (o6.ext x7).grow g8.grow (by simp [blk]; omega)
  simp (disch := omega) only [go_sem, Nat.reduceEqDiff, ↓reduceIte, Nat.reduceAdd, a1, a2]
  refine drawD ?_ (of_decide_eq_true (by kernel_rfl))
  refine QR_tail 5 (by kernel_rfl) (by kernel_rfl) ?_
  simp (disch := omega) only [go_sem, Nat.reduceEqDiff, ↓reduceIte, Nat.reduceAdd, a1, a2, readCells_blk kb8 (n := 3) (by simp)]
  refine callK_q (by kernel_rfl) (fun w' e => index_c _ _ _ _ _ rn cn _ (by omega) (by omega) (by omega)) ?_
  simp (disch := omega) only [go_sem, Nat.reduceEqDiff, ↓reduceIte, Nat.reduceAdd]
  intro w9 x9
  refine callK_of (by kernel_rfl) (run_c rows.length (rowLen rows) cb _ _) ?_
  rintro _ w10 ⟨ib, rb, rfl, kI, kF, hib, hrb, x10⟩
  have xw := (x8.trans x9).trans x10
  have s9 := x9.size
  have s10 := x10.size
  have s8 := x8.size
  have h8 := k8.lt
  have k10 := (k8.ext x9).ext x10
  have o10 := (o8.ext x9).ext x10
  simp (disch := omega) only [go_sem, Nat.reduceEqDiff, ↓reduceIte, Nat.reduceAdd]
  have hcbl := hc.lt g.pos
  have hcb10 : cb < w10.heap.size := by omega
  have hc10 : CellsAt w10 cb _ _ := (hc8.ext x9).ext x10
  refine rangeD1 (by decide) (by simp [ev, upd_apply]) (by kernel_rfl)
    (fun pre W => Ext w W ∧ (∃ a c, Blk W lb #[.slice a pre.length c] 28 ∧ OwnS W 3 1 a pre.length c (vi pre) ∧ (∀ b, blk a = some b → w.heap.size ≤ b ∧ b ≠ lb ∧ b ≠ ib ∧ b ≠ rb ∧ b ≠ cb)) ∧ RunIn W rows.length (rowLen rows) cb ib rb (rn * rowLen rows + cn) (hgt rows) ∧ w10.heap.size ≤ W.heap.size)
    (fun x f' => f' 10 = .pointer (some ⟨lb, 0, none⟩) ∧ f' 11 = .int .i64 x) _ (run1_c rows.length (rowLen rows) cb ib rb _ (hgt rows) g h3)
    (fun pre W ⟨e, _, k, _⟩ => k)
    (fun pre ob A B ⟨e, ⟨a, c, j1, j2, j3⟩, ⟨j4, j5, j6⟩, j7⟩ gg r => ⟨r.ext gg e xw.size, ⟨a, c, r.blk gg j1, r.own gg j2, j3⟩, ⟨r.blk gg j4, r.blk gg j5, fun i hi => r.cell gg (j6 i hi)⟩, Nat.le_trans j7 gg.size⟩)
    ⟨xw, ⟨_, _, k10, by simpa [vi] using o10, fun b hb => by simp [blk] at hb; omega⟩, ⟨kI, kF, hc10⟩, Nat.le_refl _⟩ ?_ ?_ ?_
  · intro Fc hF x W K hK
    simp (disch := omega) only [go_sem, Nat.reduceEqDiff, ↓reduceIte, Nat.reduceAdd]
    exact ⟨trivial, hK _ ⟨(by first | assumption | (simp only [upd_apply, Nat.reduceEqDiff, ↓reduceIte] <;> first | rfl | assumption) | simp [upd_apply, *]), (by first | assumption | (simp only [upd_apply, Nat.reduceEqDiff, ↓reduceIte] <;> first | rfl | assumption) | simp [upd_apply, *])⟩⟩
  · rintro Fc hF pre x f' W ⟨a10, a11⟩ ⟨e, ⟨a, c, j1, j2, j3⟩, ⟨j4, j5, j6⟩, j7⟩ hp
    have hpl := hp.length_le
    have hwl := waterN_len g _ h3
    have hhi := g.hh _ h3
    rw [ni_len] at hpl
    simp only [List.length_append, List.length_singleton] at hpl
    have l1 := j1.lt
    have l4 := j4.lt
    have l5 := j5.lt
    simp (disch := omega) only [go_sem, Nat.reduceEqDiff, ↓reduceIte, Nat.reduceAdd, a10, a11, j1.cell]
    refine bslK_1 elt_i rfl fun W1 b1 e1 y1 q1 _ => ?_
    simp (disch := omega) only [go_sem, Nat.reduceEqDiff, ↓reduceIte, Nat.reduceAdd]
    refine appK_1 elt_i (j2.ext y1) q1 rfl (by omega) (.inl (by decide)) fun W2 a2 c2 o2 g2 h2 => ?_
    have t1 := y1.size
    have t2 := g2.size
    have n1 := g2.blk (j1.ext y1) (fun e => (j3 _ e).2.1 rfl)
    simp (disch := omega) only [go_sem, Nat.reduceEqDiff, ↓reduceIte, Nat.reduceAdd, a10]
    refine stK_blk siz_i (by rfl) (by rfl) n1 (by simp) fun W3 q3 g3 => ?_
    have x3 : Ext w W3 := g3.ext (g2.ext (e.trans y1) fun b hb => (j3 b hb).1) (by omega)
    simp (disch := omega) only [go_sem, Nat.reduceEqDiff, ↓reduceIte, Nat.reduceAdd]
    refine ⟨⟨x3, ⟨a2, c2, by simpa using q3, ?_, fun b hb => ?_⟩, ⟨g3.grow.blk (g2.blk (j4.ext y1) fun e => (j3 _ e).2.2.1 rfl) (by simp; omega), g3.grow.blk (g2.blk (j5.ext y1) fun e => (j3 _ e).2.2.2.1 rfl) (by simp; omega), fun i hi => g3.grow.cell (g2.cell (j6.ext y1 i hi) fun e => (j3 _ e).2.2.2.2 rfl) (by have := hc.lt g.pos; simp; omega)⟩, ?_⟩, ?_⟩
    · have := o2.grow g3.grow (fun b hb e => by
        simp only [Option.some.injEq] at e; subst e
        rcases h2 _ hb with h | h
        · exact (j3 _ h).2.1 rfl
        · omega)
      rw [vi_snoc] at this
      simpa using this
    · rcases h2 b hb with h | h
      · exact j3 b h
      · have := e.size; exact ⟨by omega, by omega, by omega, by omega, by omega⟩
    · have := g3.grow.size; omega
    · exact (y1.nk.trans (g2.nk (j2.ext y1).cells)).trans (g3.grow.nk fun b hb => by cases hb; exact n1.cells)
  · rintro W ⟨e, ⟨a, c, j1, j2, j3⟩, -, j7⟩ hd hlt
    simp (disch := omega) only [go_sem, Nat.reduceEqDiff, ↓reduceIte, Nat.reduceAdd, j1.cell]
    refine ⟨Marks.cons trivial trivial xw.size hd, fun w' _ off => ?_⟩
    simp (disch := omega) only [go_sem, Nat.reduceEqDiff, ↓reduceIte, Nat.reduceAdd, Try.results21]
    have er : runOf rows rn cn = waterN rows.length (rowLen rows) (hgt rows) (rn * rowLen rows + cn) := by simp [runOf, hok]
    rw [er, hok]
    exact ⟨a, c, rfl, off.own j2, fun b hb => (j3 b hb).1, off.ext e (Nat.le_refl _)⟩

theorem waterLongest_c (a : Option Addr) (rows : List (List Int)) (A : Nat → Option Addr) (Cp : Nat → Nat) (gc : Nat) (w : World) (hr : RowsAt w a rows A Cp) :
    Ret Try.prog 18 #[.slice a rows.length gc] w fun v w' => v = .int .i64 (longOf rows) ∧ Ext w w' := by
  refine enterD1 (y := false) Try.func18 rfl (by kernel_rfl) (of_decide_eq_true (by kernel_rfl)) fun f a0 => ?_
  simp (disch := omega) only [go_sem, Nat.reduceEqDiff, ↓reduceIte, Nat.reduceAdd, a0]
  refine callK_of (by kernel_rfl) (fieldOf_c _ _ _ _ _ _ hr) ?_
  rintro _ w2 ⟨x2, (⟨hvt, cb, rfl, hcb, o⟩ | ⟨hv', rfl⟩)⟩
  rotate_left
  · simp (disch := omega) only [go_sem, Nat.reduceEqDiff, ↓reduceIte, Nat.reduceAdd]
    refine allocK_of zero_f fun w3 fb _ x3 k3 _ => ?_
    simp (disch := omega) only [go_sem, Nat.reduceEqDiff, ↓reduceIte, Nat.reduceAdd]
    refine stK_agg siz_f (by simp) (by simp [Value.oneCell']) k3 (by simp) fun w4 k4 g4 => ?_
    have x4 : Ext w w4 := g4.ext (x2.trans x3) (by have := x2.size; omega)
    have hv : gvalid rows = false := hv'
    simp (disch := omega) only [go_sem, Nat.reduceEqDiff, ↓reduceIte, Nat.reduceAdd]
    refine ⟨trivial, fun w' hw _ => ?_⟩
    rw [hw rfl]
    simp (disch := omega) only [go_sem, Nat.reduceEqDiff, ↓reduceIte, Nat.reduceAdd, Try.results18]
    exact ⟨by simp [longOf, hv], x4⟩
  have hv : gvalid rows = true := hvt
  have v := (gvalid_iff rows).1 hv
  have g := v.gd
  have hn49 := g.le
  simp (disch := omega) only [go_sem, Nat.reduceEqDiff, ↓reduceIte, Nat.reduceAdd]
  refine allocK_of zero_f fun w3 fb _ x3 k3 _ => ?_
  simp (disch := omega) only [go_sem, Nat.reduceEqDiff, ↓reduceIte, Nat.reduceAdd]
  refine stK_agg siz_f (by simp) (by simp [Value.oneCell']) k3 (by simp) fun w4 kb g4 => ?_
  have s2 := x2.size
  have s3 := x3.size
  have x4 : Ext w w4 := g4.ext (x2.trans x3) (by omega)
  have s4 := x4.size
  have hc : CellsAt w4 cb (rows.length * rowLen rows) (hgt rows) := fun i hi => by
    have := ((o.cellsAt.ext x3).grow g4.grow (by have := o.cellsAt.lt g.pos; simp; omega)) i hi
    simpa only [hs_get rows i hi] using this
  simp (disch := omega) only [go_sem, Nat.reduceEqDiff, ↓reduceIte, Nat.reduceAdd, kb.cell]
  refine loopDN (y := false) (rows.length * rowLen rows) (fun k ds f W => f 3 = .pointer (some ⟨fb, 0, none⟩) ∧ f 5 = .int .i64 (longTo rows.length (rowLen rows) (hgt rows) k : Nat) ∧ f 17 = .int .i64 (rows.length * rowLen rows : Nat) ∧ f 18 = .int .i64 k ∧ Ext w4 W ∧ Marks w.heap.size W ds) ⟨(by first | assumption | (simp only [upd_apply, Nat.reduceEqDiff, ↓reduceIte] <;> first | rfl | assumption) | simp [upd_apply, *]), (by first | assumption | (simp only [upd_apply, Nat.reduceEqDiff, ↓reduceIte] <;> first | rfl | assumption) | simp [upd_apply, *]), (by first | assumption | (simp only [upd_apply, Nat.reduceEqDiff, ↓reduceIte] <;> first | rfl | assumption) | simp [upd_apply, *]), (by first | assumption | (simp only [upd_apply, Nat.reduceEqDiff, ↓reduceIte] <;> first | rfl | assumption) | simp [upd_apply, *]), Ext.refl _, trivial⟩ fun k ds f W hk ⟨a3, a5, a17, a18, xw, mk⟩ => ?_
  by_cases hlt : (k : Int) < (rows.length * rowLen rows : Nat)
  · have kbw := kb.ext xw
    have hkn : k < rows.length * rowLen rows := by omega
    have sw := xw.size
    simp (disch := omega) only [go_sem, Nat.reduceEqDiff, ↓reduceIte, Nat.reduceAdd, a3, a17, a18, hlt]
    refine allocK_of zero_int fun w5 lb e5 x5 k5 _ => ?_
    have s5 := x5.size
    simp (disch := omega) only [go_sem, Nat.reduceEqDiff, ↓reduceIte, Nat.reduceAdd]
    refine stK_blk siz_int (by rfl) (by rfl) k5 (by simp) fun w6 k6 g6 => ?_
    have k6 : Blk w6 lb #[.int .i64 0] 3 := by simpa using k6
    have h6 := k6.lt
    have x6 : Ext w4 w6 := g6.ext (xw.trans x5) (by omega)
    have m6 := (mk.ext x5).nk (g6.grow.nk fun b hb => by cases hb; exact k5.cells)
    simp (disch := omega) only [go_sem, Nat.reduceEqDiff, ↓reduceIte, Nat.reduceAdd, a3, readCells_blk (kb.ext x6) (n := 3) (by simp)]
    refine callK_of (by kernel_rfl) (run_c rows.length (rowLen rows) cb k _) ?_
    rintro _ w7 ⟨ib, rb, rfl, kI, kF, hib, hrb, x7⟩
    have s6 := x6.size
    have s7 := x7.size
    have x67 := x6.trans x7
    simp (disch := omega) only [go_sem, Nat.reduceEqDiff, ↓reduceIte, Nat.reduceAdd]
    refine rangeD1 (by decide) (by simp [ev, upd_apply]) (by kernel_rfl)
      (fun pre V => Ext w4 V ∧ Blk V lb #[.int .i64 pre.length] 3 ∧ Blk V ib #[.int .i64 k] 3 ∧ Blk V rb #[.int .i64 rows.length, .int .i64 (rowLen rows), .slice (some ⟨cb, 0, none⟩) (rows.length * rowLen rows) (rows.length * rowLen rows)] 52 ∧ Marks w.heap.size V ds)
      (fun x f' => f' 7 = .pointer (some ⟨lb, 0, none⟩)) _ (run1_c rows.length (rowLen rows) cb ib rb k (hgt rows) g hkn)
      (fun pre V ⟨e, _, k1, k2, _⟩ => ⟨k1, k2, hc.ext e⟩)
      (fun pre ob A B ⟨e, j1, j2, j3, j4⟩ gg r => ⟨r.ext gg e x67.size, r.blk gg j1, r.blk gg j2, r.blk gg j3, j4.rec r gg⟩)
      ⟨x67, k6.ext x7, kI, kF, m6.ext x7⟩ ?_ ?_ ?_
    · intro Fc hF x W K hK
      simp (disch := omega) only [go_sem, Nat.reduceEqDiff, ↓reduceIte, Nat.reduceAdd]
      exact ⟨trivial, hK _ (by first | assumption | (simp only [upd_apply, Nat.reduceEqDiff, ↓reduceIte] <;> first | rfl | assumption) | simp [upd_apply, *])⟩
    · rintro Fc hF pre x f' V a7 ⟨e, j1, j2, j3, j4⟩ hp
      have hpl := hp.length_le
      have hwl := waterN_len g _ hkn
      have hhi := g.hh _ hkn
      rw [ni_len] at hpl
      simp only [List.length_append, List.length_singleton] at hpl
      simp (disch := omega) only [go_sem, Nat.reduceEqDiff, ↓reduceIte, Nat.reduceAdd, a7, j1.cell]
      refine stK_blk siz_int (by rfl) (by rfl) j1 (by simp) fun V1 q1 g1 => ?_
      have nk1 := g1.grow.nk fun b hb => by cases hb; exact j1.cells
      simp (disch := omega) only [go_sem, Nat.reduceEqDiff, ↓reduceIte, Nat.reduceAdd]
      exact ⟨⟨g1.ext e (by omega), by simpa using q1, g1.grow.blk j2 (by simp; omega), g1.grow.blk j3 (by simp; omega), j4.nk nk1⟩, nk1⟩
    · rintro V ⟨e, j1, j2, j3, j4⟩ hd hlt
      simp (disch := omega) only [go_sem, Nat.reduceEqDiff, ↓reduceIte, Nat.reduceAdd, a5, a18, j1.cell]
      refine ⟨hkn, (by first | assumption | (simp only [upd_apply, Nat.reduceEqDiff, ↓reduceIte] <;> first | rfl | assumption) | simp [upd_apply, *]), by simp [upd_apply, longTo, ni_len]; omega, (by first | assumption | (simp only [upd_apply, Nat.reduceEqDiff, ↓reduceIte] <;> first | rfl | assumption) | simp [upd_apply, *]), (by first | assumption | (simp only [upd_apply, Nat.reduceEqDiff, ↓reduceIte] <;> first | rfl | assumption) | simp [upd_apply, *]), e, Marks.cons j4 (m6.ext x7) (by omega) hd⟩
  · obtain rfl : k = rows.length * rowLen rows := by omega
    simp (disch := omega) only [go_sem, Nat.reduceEqDiff, ↓reduceIte, Nat.reduceAdd, a5, a17, a18, hlt]
    refine ⟨mk, fun w' _ off => ?_⟩
    simp (disch := omega) only [go_sem, Nat.reduceEqDiff, ↓reduceIte, Nat.reduceAdd, Try.results18]
    exact ⟨by simp [longOf, hv], off.ext (x4.trans xw) (Nat.le_refl _)⟩

theorem waterFlow_c (a : Option Addr) (rows : List (List Int)) (A : Nat → Option Addr) (Cp : Nat → Nat) (gc : Nat) (w : World) (hr : RowsAt w a rows A Cp) :
    Ret Try.prog 32 #[.slice a rows.length gc] w fun v w' => Got w w' (ni (flowL rows)) (gvalid rows) v := by
  refine enterD1 (y := false) Try.func32 rfl (by kernel_rfl) (of_decide_eq_true (by kernel_rfl)) fun f a0 => ?_
  simp (disch := omega) only [go_sem, Nat.reduceEqDiff, ↓reduceIte, Nat.reduceAdd, a0]
  refine callK_of (by kernel_rfl) (fieldOf_c _ _ _ _ _ _ hr) ?_
  rintro _ w2 ⟨x2, (⟨hvt, cb, rfl, hcb, o⟩ | ⟨hv', rfl⟩)⟩
  rotate_left
  · simp (disch := omega) only [go_sem, Nat.reduceEqDiff, ↓reduceIte, Nat.reduceAdd]
    refine allocK_of zero_f fun w3 fb _ x3 k3 _ => ?_
    simp (disch := omega) only [go_sem, Nat.reduceEqDiff, ↓reduceIte, Nat.reduceAdd]
    refine stK_agg siz_f (by simp) (by simp [Value.oneCell']) k3 (by simp) fun w4 k4 g4 => ?_
    have x4 : Ext w w4 := g4.ext (x2.trans x3) (by have := x2.size; omega)
    have hv : gvalid rows = false := hv'
    simp (disch := omega) only [go_sem, Nat.reduceEqDiff, ↓reduceIte, Nat.reduceAdd]
    refine ⟨trivial, fun w' hw _ => ?_⟩
    rw [hw rfl]
    simp (disch := omega) only [go_sem, Nat.reduceEqDiff, ↓reduceIte, Nat.reduceAdd, Try.results32]
    simpa [flowL, hv] using got_bad w w4 x4
  have hv : gvalid rows = true := hvt
  have v := (gvalid_iff rows).1 hv
  have g := v.gd
  have hn49 := g.le
  simp (disch := omega) only [go_sem, Nat.reduceEqDiff, ↓reduceIte, Nat.reduceAdd]
  refine allocK_of zero_f fun w3 fb _ x3 k3 _ => ?_
  simp (disch := omega) only [go_sem, Nat.reduceEqDiff, ↓reduceIte, Nat.reduceAdd]
  refine stK_agg siz_f (by simp) (by simp [Value.oneCell']) k3 (by simp) fun w4 kb g4 => ?_
  have s2 := x2.size
  have s3 := x3.size
  have x4 : Ext w w4 := g4.ext (x2.trans x3) (by omega)
  have s4 := x4.size
  have hc : CellsAt w4 cb (rows.length * rowLen rows) (hgt rows) := fun i hi => by
    have := ((o.cellsAt.ext x3).grow g4.grow (by have := o.cellsAt.lt g.pos; simp; omega)) i hi
    simpa only [hs_get rows i hi] using this
  simp (disch := omega) only [go_sem, Nat.reduceEqDiff, ↓reduceIte, Nat.reduceAdd, kb.cell]
  refine mksK_of elt_i _ _ _ _ _ _ rfl rfl (Nat.le_refl _) (by omega) (by simp [maxLen]; omega) fun w5 b5 e5 x5 o5 _ => ?_
  have s5 := x5.size
  simp (disch := omega) only [go_sem, Nat.reduceEqDiff, ↓reduceIte, Nat.reduceAdd]
  refine allocK_of zero_i fun w6 lb e6 x6 k6 _ => ?_
  have s6 := x6.size
  simp (disch := omega) only [go_sem, Nat.reduceEqDiff, ↓reduceIte, Nat.reduceAdd]
  refine stK_blk siz_i (by rfl) (by rfl) k6 (by simp) fun w7 k7 g7 => ?_
  have k7 : Blk w7 lb #[.slice (some ⟨b5, 0, none⟩) (rows.length * rowLen rows) (rows.length * rowLen rows)] 28 := by simpa using k7
  have x7 : Ext w4 w7 := g7.ext (x5.trans x6) (by omega)
  have o7 := (o5.ext x6).grow g7.grow (by simp [blk]; omega)
  have h7 := k7.lt
  have n0 : (List.replicate (rows.length * rowLen rows) (Value.int .i64 0)) = vi (ni ((List.range (rows.length * rowLen rows)).map (flowTo rows.length (rowLen rows) (hgt rows) 0))) := by
    apply List.ext_getElem?; intro j
    by_cases hj : j < rows.length * rowLen rows <;> simp [vi, ni, flowTo, hj]
  simp only [Value.cells, made_int, n0] at o7
  simp (disch := omega) only [go_sem, Nat.reduceEqDiff, ↓reduceIte, Nat.reduceAdd, (kb.ext x7).cell]
  refine loopDN (y := false) (rows.length * rowLen rows) (fun k ds f W => f 4 = .pointer (some ⟨fb, 0, none⟩) ∧ f 6 = .pointer (some ⟨lb, 0, none⟩) ∧ f 22 = .int .i64 (rows.length * rowLen rows : Nat) ∧ f 23 = .int .i64 k ∧ Ext w4 W ∧ Blk W lb #[.slice (some ⟨b5, 0, none⟩) (rows.length * rowLen rows) (rows.length * rowLen rows)] 28 ∧
      OwnS W 3 1 (some ⟨b5, 0, none⟩) (rows.length * rowLen rows) (rows.length * rowLen rows) (vi (ni ((List.range (rows.length * rowLen rows)).map (flowTo rows.length (rowLen rows) (hgt rows) k)))) ∧ Marks w.heap.size W ds) ⟨(by first | assumption | (simp only [upd_apply, Nat.reduceEqDiff, ↓reduceIte] <;> first | rfl | assumption) | simp [upd_apply, *]), (by first | assumption | (simp only [upd_apply, Nat.reduceEqDiff, ↓reduceIte] <;> first | rfl | assumption) | simp [upd_apply, *]), (by first | assumption | (simp only [upd_apply, Nat.reduceEqDiff, ↓reduceIte] <;> first | rfl | assumption) | simp [upd_apply, *]), (by first | assumption | (simp only [upd_apply, Nat.reduceEqDiff, ↓reduceIte] <;> first | rfl | assumption) | simp [upd_apply, *]), x7, k7, o7, trivial⟩ fun k ds f W hk ⟨a4, a6, a22, a23, xw, kl, o, mk⟩ => ?_
  by_cases hlt : (k : Int) < (rows.length * rowLen rows : Nat)
  · have kbw := kb.ext xw
    have hkn : k < rows.length * rowLen rows := by omega
    have sw := xw.size
    have hl := kl.lt
    have hbl := o.blk_lt rfl
    simp (disch := omega) only [go_sem, Nat.reduceEqDiff, ↓reduceIte, Nat.reduceAdd, a4, a22, a23, hlt, readCells_blk kbw (n := 3) (by simp)]
    refine callK_of (by kernel_rfl) (run_c rows.length (rowLen rows) cb k _) ?_
    rintro _ w8 ⟨ib, rb, rfl, kI, kF, hib, hrb, x8⟩
    have s8 := x8.size
    have x48 := xw.trans x8
    simp (disch := omega) only [go_sem, Nat.reduceEqDiff, ↓reduceIte, Nat.reduceAdd]
    refine rangeD1 (by decide) (by simp [ev, upd_apply]) (by kernel_rfl)
      (fun pre V => Ext w4 V ∧ (∃ pn : List Nat, pre = ni pn ∧ OwnS V 3 1 (some ⟨b5, 0, none⟩) (rows.length * rowLen rows) (rows.length * rowLen rows) (vi (ni ((List.range (rows.length * rowLen rows)).map fun j => flowTo rows.length (rowLen rows) (hgt rows) k j + pn.count j)))) ∧ Blk V lb #[.slice (some ⟨b5, 0, none⟩) (rows.length * rowLen rows) (rows.length * rowLen rows)] 28 ∧
        Blk V ib #[.int .i64 k] 3 ∧ Blk V rb #[.int .i64 rows.length, .int .i64 (rowLen rows), .slice (some ⟨cb, 0, none⟩) (rows.length * rowLen rows) (rows.length * rowLen rows)] 52 ∧ Marks w.heap.size V ds)
      (fun x f' => f' 6 = .pointer (some ⟨lb, 0, none⟩) ∧ f' 8 = .int .i64 x) _ (run1_c rows.length (rowLen rows) cb ib rb k (hgt rows) g hkn)
      (fun pre V ⟨e, _, _, k1, k2, _⟩ => ⟨k1, k2, hc.ext e⟩)
      (fun pre ob A B ⟨e, ⟨pn, hp, j1⟩, j2, j3, j4, j5⟩ gg r => ⟨r.ext gg e x48.size, ⟨pn, hp, r.own gg j1⟩, r.blk gg j2, r.blk gg j3, r.blk gg j4, j5.rec r gg⟩)
      ⟨x48, ⟨[], rfl, by simpa using o.ext x8⟩, kl.ext x8, kI, kF, mk.ext x8⟩ ?_ ?_ ?_
    · intro Fc hF x W K hK
      simp (disch := omega) only [go_sem, Nat.reduceEqDiff, ↓reduceIte, Nat.reduceAdd]
      exact ⟨trivial, hK _ ⟨(by first | assumption | (simp only [upd_apply, Nat.reduceEqDiff, ↓reduceIte] <;> first | rfl | assumption) | simp [upd_apply, *]), (by first | assumption | (simp only [upd_apply, Nat.reduceEqDiff, ↓reduceIte] <;> first | rfl | assumption) | simp [upd_apply, *])⟩⟩
    · rintro Fc hF pre x f' V ⟨a6, a8⟩ ⟨e, ⟨pn, hp, j1⟩, j2, j3, j4, j5⟩ hpre
      have hx : x ∈ ni (waterN rows.length (rowLen rows) (hgt rows) k) := hpre.subset (by simp)
      obtain ⟨xn, hxn, rfl⟩ := List.mem_map.1 hx
      have hxl := waterN_lt g k hkn xn hxn
      have hpl := hpre.length_le
      rw [hp, ni_len] at hpl
      simp only [List.length_append, ni_len, List.length_singleton] at hpl
      have hwl := waterN_len g _ hkn
      have hhi := g.hh _ hkn
      have hfl := flowTo_le _ _ _ g k (by omega) xn
      have hcl : pn.count xn ≤ pn.length := List.count_le_length
      have c1 : V.cell? ⟨b5, xn, none⟩ = some (.int .i64 ((flowTo rows.length (rowLen rows) (hgt rows) k xn + pn.count xn : Nat) : Int)) := by
        rw [j1.cell (by omega)]; exact vi_range_get (fun j => flowTo rows.length (rowLen rows) (hgt rows) k j + pn.count j) hxl
      simp (disch := omega) only [go_sem, Nat.reduceEqDiff, ↓reduceIte, Nat.reduceAdd, a6, a8, j2.cell, c1]
      refine stK_own siz_int (by rfl) (by rfl) j1 hxl fun V1 q1 g1 => ?_
      have nk1 := g1.grow.nk fun b hb => by cases hb; exact j1.cells _ rfl
      simp (disch := omega) only [go_sem, Nat.reduceEqDiff, ↓reduceIte, Nat.reduceAdd]
      have hset := vi_range_set (n := rows.length * rowLen rows) (x := xn) (f := fun j => flowTo rows.length (rowLen rows) (hgt rows) k j + pn.count j) (g := fun j => flowTo rows.length (rowLen rows) (hgt rows) k j + (pn ++ [xn]).count j)
        (y := ((flowTo rows.length (rowLen rows) (hgt rows) k xn + pn.count xn : Nat) : Int) + 1) hxl (by simp [List.count_append]; omega) (fun j hj hne => by simp [List.count_append, List.count_cons]; omega)
      rw [hset] at q1
      exact ⟨⟨g1.ext e (by omega), ⟨pn ++ [xn], by rw [hp]; simp [ni], q1⟩, g1.grow.blk j2 (by simp; omega), g1.grow.blk j3 (by simp; omega), g1.grow.blk j4 (by simp; omega), j5.nk nk1⟩, nk1⟩
    · rintro V ⟨e, ⟨pn, hp, j1⟩, j2, j3, j4, j5⟩ hd hlt
      obtain rfl : pn = waterN rows.length (rowLen rows) (hgt rows) k := (ni_inj hp).symm
      simp (disch := omega) only [go_sem, Nat.reduceEqDiff, ↓reduceIte, Nat.reduceAdd, a23]
      refine ⟨hkn, (by first | assumption | (simp only [upd_apply, Nat.reduceEqDiff, ↓reduceIte] <;> first | rfl | assumption) | simp [upd_apply, *]), (by first | assumption | (simp only [upd_apply, Nat.reduceEqDiff, ↓reduceIte] <;> first | rfl | assumption) | simp [upd_apply, *]), (by first | assumption | (simp only [upd_apply, Nat.reduceEqDiff, ↓reduceIte] <;> first | rfl | assumption) | simp [upd_apply, *]), (by first | assumption | (simp only [upd_apply, Nat.reduceEqDiff, ↓reduceIte] <;> first | rfl | assumption) | simp [upd_apply, *]), e, j2, j1, Marks.cons j5 (mk.ext x8) (by omega) hd⟩
  · obtain rfl : k = rows.length * rowLen rows := by omega
    simp (disch := omega) only [go_sem, Nat.reduceEqDiff, ↓reduceIte, Nat.reduceAdd, a6, a22, a23, hlt, kl.cell]
    refine ⟨mk, fun w' _ off => ?_⟩
    simp (disch := omega) only [go_sem, Nat.reduceEqDiff, ↓reduceIte, Nat.reduceAdd, Try.results32]
    have e : flowL rows = (List.range (rows.length * rowLen rows)).map (flowTo rows.length (rowLen rows) (hgt rows) (rows.length * rowLen rows)) := by simp [flowL, hv]
    rw [e, hv]
    exact ⟨_, _, by rw [ni_range_len], by rw [ni_range_len]; exact off.own o, fun b hb => by simp [blk] at hb; omega, off.ext (x4.trans xw) (Nat.le_refl _)⟩

end Go.Proofs.Ytikmkdoifbjfjaa
