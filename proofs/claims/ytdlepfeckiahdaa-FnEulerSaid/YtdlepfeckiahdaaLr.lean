/- Contract: the regions of a level, in the program. -/
import Derived.Test.YtdlepfeckiahdaaLa
import Derived.Test.YtdlepfeckiahdaaLf
set_option linter.all false
namespace Go.SW
open Go Go.RowKit
theorem vi_rangeI_set {n x : Nat} {f g : Nat → Int} {y : Int} (hx : x < n) (hy : y = g x) (hg : ∀ j, j < n → j ≠ x → g j = f j) :
    (vi ((List.range n).map f)).set x (.int .i64 y) = vi ((List.range n).map g) := by
  apply List.ext_getElem?; intro j
  rw [List.getElem?_set]
  by_cases hj : j < n
  · by_cases e : x = j
    · subst e; simp [vi, hx, hy]
    · rw [if_neg e]; simp [vi, hj, hg j hj (fun h => e h.symm)]
  · have : x ≠ j := by omega
    rw [if_neg this]; simp [vi, hj]
theorem vi_rangeI_get {n x : Nat} (f : Nat → Int) (hx : x < n) : (vi ((List.range n).map f))[x]? = some (.int .i64 (f x)) := by simp [vi, hx]
theorem vi_rangeI_zero (n : Nat) (f : Nat → Int) (hf : ∀ j, j < n → f j = 0) : List.replicate n (Value.int .i64 0) = vi ((List.range n).map f) := by
  apply List.ext_getElem?; intro j
  by_cases hj : j < n
  · simp [vi, hj, hf j hj]
  · simp [vi, hj]
section
variable {nb : Nat → List Nat} {act : Nat → Bool} {n : Nat}
theorem numOf_out {i : Nat} (h : act i = false) : numOf nb act n i = -1 := by simp [numOf, h]
theorem numOf_root (hnb : ∀ i, i < n → ∀ j ∈ nb i, j < n) {i : Nat} (h : act i = true) (hr : repF nb act n i = i) : numOf nb act n i = (cntp (rootB nb act n) i : Nat) := by simp [numOf, h, hr]
theorem numOf_rep (hnb : ∀ i, i < n → ∀ j ∈ nb i, j < n) {i : Nat} (hi : i < n) : numOf nb act n (repF nb act n i) = numOf nb act n i := by
  have u := rep_ok (act := act) hnb
  simp only [numOf, rep_act hnb hi, u.idem i hi]
theorem cntp_root_step (nb : Nat → List Nat) (act : Nat → Bool) (n i : Nat) : cntp (rootB nb act n) (i + 1) = cntp (rootB nb act n) i + if act i = true ∧ repF nb act n i = i then 1 else 0 := by
  simp only [cntp]
  by_cases h : act i = true ∧ repF nb act n i = i
  · rw [if_pos h, if_pos (show rootB nb act n i from h)]
  · rw [if_neg h, if_neg (show ¬ rootB nb act n i from h)]
end
end Go.SW
namespace Go.Proofs.Ytdlepfeckiahdaa
open Go.RowKit Go.SW

theorem regions_c (R C cb : Nat) (h : Nat → Int) (lv : Int) (w : World) (g : Gd R C h) (hc : CellsAt w cb (R * C) h) :
    Ret Try.prog 77 #[.agg #[.int .i64 R, .int .i64 C, .slice (some ⟨cb, 0, none⟩) (R * C) (R * C)], .int .i64 lv] w fun v w' => ∃ b, v = .tuple #[.int .i64 (compN (nearN R C) (landB h lv) (R * C) : Nat), .slice (some ⟨b, 0, none⟩) (R * C) (R * C)] ∧ w.heap.size ≤ b ∧
      OwnS w' 3 1 (some ⟨b, 0, none⟩) (R * C) (R * C) (vi ((List.range (R * C)).map (numOf (nearN R C) (landB h lv) (R * C)))) ∧ Ext w w' := by
  have hn49 := g.le
  have hpos := g.pos
  have hnb : ∀ i, i < R * C → ∀ j ∈ nearN R C i, j < R * C := fun i hi => nearN_lt hi
  have hcl := hc.lt hpos
  refine enter2 Try.func77 rfl (by kernel_rfl) (of_decide_eq_true (by kernel_rfl)) fun f a0 a1 => ?_
  simp only [go_sem, Nat.reduceEqDiff, ↓reduceIte, a0]
  refine boxK_of fun w0 fb efb x0 kb _ => ?_
  have s0 := x0.size
  have kb : Blk w0 fb #[.int .i64 R, .int .i64 C, .slice (some ⟨cb, 0, none⟩) (R * C) (R * C)] 45 := by simpa [Value.cells] using kb
  have kl := kb.lt
  simp (disch := omega) only [go_sem, Nat.reduceEqDiff, ↓reduceIte, Nat.reduceAdd, kb.cell]
  refine callK_of (by kernel_rfl) (newForest_c (R * C) _ (by omega)) ?_
  rintro _ w5 ⟨tb, ub, rfl, htb, hub, t5, x5⟩
  have s5 := x5.size
  have kb5 := kb.ext x5
  have hc5 := (hc.ext x0).ext x5
  have x05 := x0.trans x5
  have tl := t5.lt
  simp (disch := omega) only [go_sem, Nat.reduceEqDiff, ↓reduceIte, Nat.reduceAdd, kb5.cell]
  refine loopN (R * C) (fun k f W => f 1 = .int .i64 lv ∧ f 2 = .pointer (some ⟨fb, 0, none⟩) ∧ f 6 = .pointer (some ⟨tb, 0, none⟩) ∧ f 21 = .slice (some ⟨cb, 0, none⟩) (R * C) (R * C) ∧ f 22 = .int .i64 (R * C : Nat) ∧ f 23 = .int .i64 k ∧ Trees W tb ub (R * C) (ufTo (nearN R C) (landB h lv) k) ∧ Grow (some ub) w5 W) ⟨(by first | assumption | (simp only [upd_apply, Nat.reduceEqDiff, ↓reduceIte] <;> first | rfl | assumption) | simp [upd_apply, *]), (by first | assumption | (simp only [upd_apply, Nat.reduceEqDiff, ↓reduceIte] <;> first | rfl | assumption) | simp [upd_apply, *]), (by first | assumption | (simp only [upd_apply, Nat.reduceEqDiff, ↓reduceIte] <;> first | rfl | assumption) | simp [upd_apply, *]), (by first | assumption | (simp only [upd_apply, Nat.reduceEqDiff, ↓reduceIte] <;> first | rfl | assumption) | simp [upd_apply, *]), (by first | assumption | (simp only [upd_apply, Nat.reduceEqDiff, ↓reduceIte] <;> first | rfl | assumption) | simp [upd_apply, *]), (by first | assumption | (simp only [upd_apply, Nat.reduceEqDiff, ↓reduceIte] <;> first | rfl | assumption) | simp [upd_apply, *]), t5, Grow.refl _ _⟩ fun k f W hk ⟨a1, a2, a6, a21, a22, a23, tW, gW⟩ => ?_
  · by_cases hlt : (k : Int) < (R * C : Nat)
    · have hkn : k < R * C := by omega
      have kbw := gW.blk kb5 (by simp; omega)
      have hcw := hc5.grow gW (by simp; omega)
      have ck := hcw k hkn
      simp (disch := omega) only [go_sem, Nat.reduceEqDiff, ↓reduceIte, Nat.reduceAdd, a2, a6, a21, a22, a23, hlt, ck, readCells_blk kbw (n := 3) (by simp [Value.cells]), Value.cells]
      refine callK_of (by kernel_rfl) (neighbors_c _ _ k _ _ g.r7 g.c7 hkn) ?_
      rintro _ w6 ⟨na, nc, rfl, no, nn, x6⟩
      have hn4 := nearN_len R C k
      have s6 := x6.size
      have sW := gW.size
      have tWl := tW.lt
      simp (disch := omega) only [go_sem, Nat.reduceEqDiff, ↓reduceIte, Nat.reduceAdd]
      refine loopN (nearN R C k).length (fun m f V => f 1 = .int .i64 lv ∧ f 2 = .pointer (some ⟨fb, 0, none⟩) ∧ f 6 = .pointer (some ⟨tb, 0, none⟩) ∧ f 7 = .int .i64 k ∧ f 8 = .int .i64 (h k) ∧ f 21 = .slice (some ⟨cb, 0, none⟩) (R * C) (R * C) ∧ f 22 = .int .i64 (R * C : Nat) ∧ f 23 = .int .i64 k ∧
        f 30 = .slice na (nearN R C k).length nc ∧ f 31 = .int .i64 (nearN R C k).length ∧ f 32 = .int .i64 m ∧ Trees V tb ub (R * C) (ufRow (landB h lv) k ((nearN R C k).take m) (ufTo (nearN R C) (landB h lv) k)) ∧ Grow (some ub) w6 V) ⟨(by first | assumption | (simp only [upd_apply, Nat.reduceEqDiff, ↓reduceIte] <;> first | rfl | assumption) | simp [upd_apply, *]), (by first | assumption | (simp only [upd_apply, Nat.reduceEqDiff, ↓reduceIte] <;> first | rfl | assumption) | simp [upd_apply, *]), (by first | assumption | (simp only [upd_apply, Nat.reduceEqDiff, ↓reduceIte] <;> first | rfl | assumption) | simp [upd_apply, *]), (by first | assumption | (simp only [upd_apply, Nat.reduceEqDiff, ↓reduceIte] <;> first | rfl | assumption) | simp [upd_apply, *]), (by first | assumption | (simp only [upd_apply, Nat.reduceEqDiff, ↓reduceIte] <;> first | rfl | assumption) | simp [upd_apply, *]), (by first | assumption | (simp only [upd_apply, Nat.reduceEqDiff, ↓reduceIte] <;> first | rfl | assumption) | simp [upd_apply, *]), (by first | assumption | (simp only [upd_apply, Nat.reduceEqDiff, ↓reduceIte] <;> first | rfl | assumption) | simp [upd_apply, *]), (by first | assumption | (simp only [upd_apply, Nat.reduceEqDiff, ↓reduceIte] <;> first | rfl | assumption) | simp [upd_apply, *]), (by first | assumption | (simp only [upd_apply, Nat.reduceEqDiff, ↓reduceIte] <;> first | rfl | assumption) | simp [upd_apply, *]), (by first | assumption | (simp only [upd_apply, Nat.reduceEqDiff, ↓reduceIte] <;> first | rfl | assumption) | simp [upd_apply, *]), (by first | assumption | (simp only [upd_apply, Nat.reduceEqDiff, ↓reduceIte] <;> first | rfl | assumption) | simp [upd_apply, *]), tW.ext x6, Grow.refl _ _⟩ fun m f V hm ⟨a1, a2, a6, a7, a8, a21, a22, a23, a30, a31, a32, tV, gV⟩ => ?_
      · by_cases hlm : (m : Int) < (nearN R C k).length
        · have hml : m < (nearN R C k).length := by omega
          obtain ⟨nb, rfl⟩ := no.some (by omega)
          have hnb' := nn nb rfl
          have hjk : (nearN R C k).getD m 0 < R * C := nearN_lt hkn _ (getD_mem hml)
          have g0 : V.cell? ⟨nb, m, none⟩ = some (.int .i64 ((nearN R C k).getD m 0 : Nat)) := by rw [(no.grow gV (by simp [blk]; omega)).cell (by omega), vi_get _ _ (by rw [ni_len]; omega), ni_get _ (by omega)]
          have hstep := ufRow_take (landB h lv) k (ufTo (nearN R C) (landB h lv) k) hml
          have kbm := gV.blk (kbw.ext x6) (by simp; omega)
          have cj := ((hcw.ext x6).grow gV (by simp; omega)) _ hjk
          generalize (nearN R C k).getD m 0 = j at *
          simp (disch := omega) only [go_sem, Nat.reduceEqDiff, ↓reduceIte, Nat.reduceAdd, a30, a31, a32, hlm, g0]
          by_cases hk2 : lv ≤ h k
          · by_cases hj2 : lv ≤ h j
            · have hp : (landB h lv k && landB h lv j) = true := by simp [landB, hk2, hj2]
              rw [if_pos hp] at hstep
              simp (disch := omega) only [go_sem, Nat.reduceEqDiff, ↓reduceIte, Nat.reduceAdd, a1, a2, a6, a7, a8, a32, hk2, hj2, kbm.cell, Value.cells, cj]
              refine callK_of (by kernel_rfl) (join_c _ _ _ _ _ _ _ tV hkn hjk (by omega)) ?_
              rintro _ w7 ⟨t7, g7⟩
              simp (disch := omega) only [go_sem, Nat.reduceEqDiff, ↓reduceIte, Nat.reduceAdd, a32]
              exact ⟨by omega, (by first | assumption | (simp only [upd_apply, Nat.reduceEqDiff, ↓reduceIte] <;> first | rfl | assumption) | simp [upd_apply, *]), (by first | assumption | (simp only [upd_apply, Nat.reduceEqDiff, ↓reduceIte] <;> first | rfl | assumption) | simp [upd_apply, *]), (by first | assumption | (simp only [upd_apply, Nat.reduceEqDiff, ↓reduceIte] <;> first | rfl | assumption) | simp [upd_apply, *]), (by first | assumption | (simp only [upd_apply, Nat.reduceEqDiff, ↓reduceIte] <;> first | rfl | assumption) | simp [upd_apply, *]), (by first | assumption | (simp only [upd_apply, Nat.reduceEqDiff, ↓reduceIte] <;> first | rfl | assumption) | simp [upd_apply, *]), (by first | assumption | (simp only [upd_apply, Nat.reduceEqDiff, ↓reduceIte] <;> first | rfl | assumption) | simp [upd_apply, *]), (by first | assumption | (simp only [upd_apply, Nat.reduceEqDiff, ↓reduceIte] <;> first | rfl | assumption) | simp [upd_apply, *]), (by first | assumption | (simp only [upd_apply, Nat.reduceEqDiff, ↓reduceIte] <;> first | rfl | assumption) | simp [upd_apply, *]), (by first | assumption | (simp only [upd_apply, Nat.reduceEqDiff, ↓reduceIte] <;> first | rfl | assumption) | simp [upd_apply, *]), (by first | assumption | (simp only [upd_apply, Nat.reduceEqDiff, ↓reduceIte] <;> first | rfl | assumption) | simp [upd_apply, *]), (by first | assumption | (simp only [upd_apply, Nat.reduceEqDiff, ↓reduceIte] <;> first | rfl | assumption) | simp [upd_apply, *]), by rw [hstep]; exact t7, gV.trans g7⟩
            · have hp : ¬ (landB h lv k && landB h lv j) = true := by simp [landB, hj2]
              rw [if_neg hp] at hstep
              simp (disch := omega) only [go_sem, Nat.reduceEqDiff, ↓reduceIte, Nat.reduceAdd, a1, a2, a8, a32, hk2, hj2, kbm.cell, Value.cells, cj]
              exact ⟨by omega, (by first | assumption | (simp only [upd_apply, Nat.reduceEqDiff, ↓reduceIte] <;> first | rfl | assumption) | simp [upd_apply, *]), (by first | assumption | (simp only [upd_apply, Nat.reduceEqDiff, ↓reduceIte] <;> first | rfl | assumption) | simp [upd_apply, *]), (by first | assumption | (simp only [upd_apply, Nat.reduceEqDiff, ↓reduceIte] <;> first | rfl | assumption) | simp [upd_apply, *]), (by first | assumption | (simp only [upd_apply, Nat.reduceEqDiff, ↓reduceIte] <;> first | rfl | assumption) | simp [upd_apply, *]), (by first | assumption | (simp only [upd_apply, Nat.reduceEqDiff, ↓reduceIte] <;> first | rfl | assumption) | simp [upd_apply, *]), (by first | assumption | (simp only [upd_apply, Nat.reduceEqDiff, ↓reduceIte] <;> first | rfl | assumption) | simp [upd_apply, *]), (by first | assumption | (simp only [upd_apply, Nat.reduceEqDiff, ↓reduceIte] <;> first | rfl | assumption) | simp [upd_apply, *]), (by first | assumption | (simp only [upd_apply, Nat.reduceEqDiff, ↓reduceIte] <;> first | rfl | assumption) | simp [upd_apply, *]), (by first | assumption | (simp only [upd_apply, Nat.reduceEqDiff, ↓reduceIte] <;> first | rfl | assumption) | simp [upd_apply, *]), (by first | assumption | (simp only [upd_apply, Nat.reduceEqDiff, ↓reduceIte] <;> first | rfl | assumption) | simp [upd_apply, *]), (by first | assumption | (simp only [upd_apply, Nat.reduceEqDiff, ↓reduceIte] <;> first | rfl | assumption) | simp [upd_apply, *]), by rw [hstep]; exact tV, gV⟩
          · have hp : ¬ (landB h lv k && landB h lv j) = true := by simp [landB, hk2]
            rw [if_neg hp] at hstep
            simp (disch := omega) only [go_sem, Nat.reduceEqDiff, ↓reduceIte, Nat.reduceAdd, a1, a8, a32, hk2]
            exact ⟨by omega, (by first | assumption | (simp only [upd_apply, Nat.reduceEqDiff, ↓reduceIte] <;> first | rfl | assumption) | simp [upd_apply, *]), (by first | assumption | (simp only [upd_apply, Nat.reduceEqDiff, ↓reduceIte] <;> first | rfl | assumption) | simp [upd_apply, *]), (by first | assumption | (simp only [upd_apply, Nat.reduceEqDiff, ↓reduceIte] <;> first | rfl | assumption) | simp [upd_apply, *]), (by first | assumption | (simp only [upd_apply, Nat.reduceEqDiff, ↓reduceIte] <;> first | rfl | assumption) | simp [upd_apply, *]), (by first | assumption | (simp only [upd_apply, Nat.reduceEqDiff, ↓reduceIte] <;> first | rfl | assumption) | simp [upd_apply, *]), (by first | assumption | (simp only [upd_apply, Nat.reduceEqDiff, ↓reduceIte] <;> first | rfl | assumption) | simp [upd_apply, *]), (by first | assumption | (simp only [upd_apply, Nat.reduceEqDiff, ↓reduceIte] <;> first | rfl | assumption) | simp [upd_apply, *]), (by first | assumption | (simp only [upd_apply, Nat.reduceEqDiff, ↓reduceIte] <;> first | rfl | assumption) | simp [upd_apply, *]), (by first | assumption | (simp only [upd_apply, Nat.reduceEqDiff, ↓reduceIte] <;> first | rfl | assumption) | simp [upd_apply, *]), (by first | assumption | (simp only [upd_apply, Nat.reduceEqDiff, ↓reduceIte] <;> first | rfl | assumption) | simp [upd_apply, *]), (by first | assumption | (simp only [upd_apply, Nat.reduceEqDiff, ↓reduceIte] <;> first | rfl | assumption) | simp [upd_apply, *]), by rw [hstep]; exact tV, gV⟩
        · obtain rfl : m = (nearN R C k).length := by omega
          rw [List.take_length] at tV
          simp (disch := omega) only [go_sem, Nat.reduceEqDiff, ↓reduceIte, Nat.reduceAdd, a23, a31, a32, hlm]
          exact ⟨hkn, (by first | assumption | (simp only [upd_apply, Nat.reduceEqDiff, ↓reduceIte] <;> first | rfl | assumption) | simp [upd_apply, *]), (by first | assumption | (simp only [upd_apply, Nat.reduceEqDiff, ↓reduceIte] <;> first | rfl | assumption) | simp [upd_apply, *]), (by first | assumption | (simp only [upd_apply, Nat.reduceEqDiff, ↓reduceIte] <;> first | rfl | assumption) | simp [upd_apply, *]), (by first | assumption | (simp only [upd_apply, Nat.reduceEqDiff, ↓reduceIte] <;> first | rfl | assumption) | simp [upd_apply, *]), (by first | assumption | (simp only [upd_apply, Nat.reduceEqDiff, ↓reduceIte] <;> first | rfl | assumption) | simp [upd_apply, *]), (by first | assumption | (simp only [upd_apply, Nat.reduceEqDiff, ↓reduceIte] <;> first | rfl | assumption) | simp [upd_apply, *]), tV, (gW.trans (x6.grow _)).trans gV⟩
    · obtain rfl : k = R * C := by omega
      have kbw := gW.blk kb5 (by simp; omega)
      have hcw := hc5.grow gW (by simp; omega)
      have sW := gW.size
      have tWl := tW.lt
      simp (disch := omega) only [go_sem, Nat.reduceEqDiff, ↓reduceIte, Nat.reduceAdd, a2, a22, a23, hlt, kbw.cell]
      refine mksK_of elt_i (R * C) (R * C) _ _ _ _ rfl rfl (Nat.le_refl _) (by omega) (by simp [maxLen]; omega) fun w7 b7 e7 x7 o7 _ => ?_
      have s7 := x7.size
      have kb7 := kbw.ext x7
      have hc7 := hcw.ext x7
      have t7 := tW.ext x7
      simp only [Value.cells, made_int] at o7
      rw [vi_rangeI_zero (R * C) (fun i => if i < 0 then numOf (nearN R C) (landB h lv) (R * C) i else 0) (fun j _ => by simp)] at o7
      have hb7 : w0.heap.size ≤ b7 ∧ b7 ≠ ub ∧ b7 ≠ tb := by omega
      have e7w : Ext w w7 := by
        have := gW.ext x05 (fun b hb => by cases hb; omega)
        exact this.trans x7
      have u := rep_ok (act := landB h lv) hnb
      simp (disch := omega) only [go_sem, Nat.reduceEqDiff, ↓reduceIte, Nat.reduceAdd, a2, kb7.cell]
      refine loopN (R * C) (fun k f V => f 1 = .int .i64 lv ∧ f 6 = .pointer (some ⟨tb, 0, none⟩) ∧ f 11 = .int .i64 (cntp (rootB (nearN R C) (landB h lv) (R * C)) k : Nat) ∧ f 12 = .slice (some ⟨b7, 0, none⟩) (R * C) (R * C) ∧ f 59 = .slice (some ⟨cb, 0, none⟩) (R * C) (R * C) ∧ f 60 = .int .i64 (R * C : Nat) ∧ f 61 = .int .i64 k ∧
        Ext w V ∧ CellsAt V cb (R * C) h ∧ Trees V tb ub (R * C) (repF (nearN R C) (landB h lv) (R * C)) ∧ OwnS V 3 1 (some ⟨b7, 0, none⟩) (R * C) (R * C) (vi ((List.range (R * C)).map fun i => if i < k then numOf (nearN R C) (landB h lv) (R * C) i else 0))) ⟨(by first | assumption | (simp only [upd_apply, Nat.reduceEqDiff, ↓reduceIte] <;> first | rfl | assumption) | simp [upd_apply, *]), (by first | assumption | (simp only [upd_apply, Nat.reduceEqDiff, ↓reduceIte] <;> first | rfl | assumption) | simp [upd_apply, *]), by simp [upd_apply, cntp], (by first | assumption | (simp only [upd_apply, Nat.reduceEqDiff, ↓reduceIte] <;> first | rfl | assumption) | simp [upd_apply, *]), (by first | assumption | (simp only [upd_apply, Nat.reduceEqDiff, ↓reduceIte] <;> first | rfl | assumption) | simp [upd_apply, *]), (by first | assumption | (simp only [upd_apply, Nat.reduceEqDiff, ↓reduceIte] <;> first | rfl | assumption) | simp [upd_apply, *]), (by first | assumption | (simp only [upd_apply, Nat.reduceEqDiff, ↓reduceIte] <;> first | rfl | assumption) | simp [upd_apply, *]), e7w, hc7, t7, o7⟩ fun k f V hk ⟨a1, a6, a11, a12, a59, a60, a61, xV, cV, tV, oV⟩ => ?_
      by_cases hlt : (k : Int) < (R * C : Nat)
      · have hkn : k < R * C := by omega
        have ck := cV k hkn
        have hcnt := cntp_le (rootB (nearN R C) (landB h lv) (R * C)) k
        have hstep := cntp_root_step (nearN R C) (landB h lv) (R * C) k
        simp (disch := omega) only [go_sem, Nat.reduceEqDiff, ↓reduceIte, Nat.reduceAdd, a6, a59, a60, a61, hlt, ck]
        refine callK_of (by kernel_rfl) (root_c _ _ _ _ _ _ tV hkn (by omega)) ?_
        rintro _ w8 ⟨rfl, t8, g8⟩
        have o8 := oV.grow g8 (by simp [blk]; omega)
        have c8 := cV.grow g8 (by simp; omega)
        have x8 : Ext w w8 := g8.ext xV (fun b hb => by cases hb; omega)
        by_cases hk2 : h k < lv
        · have hact : landB h lv k = false := by simp [landB]; omega
          simp (disch := omega) only [go_sem, Nat.reduceEqDiff, ↓reduceIte, Nat.reduceAdd, a1, a12, hk2]
          refine stK_own siz_int (by rfl) (by rfl) o8 (by omega) fun w9 o9 g9 => ?_
          have hset := vi_rangeI_set (n := R * C) (x := k) (f := fun i => if i < k then numOf (nearN R C) (landB h lv) (R * C) i else 0) (g := fun i => if i < k + 1 then numOf (nearN R C) (landB h lv) (R * C) i else 0) (y := -1) hkn (by simp [numOf_out hact]) (fun j hj hne => by by_cases h1 : j < k <;> by_cases h2 : j < k + 1 <;> simp [h1, h2] <;> omega)
          rw [hset] at o9
          rw [if_neg (by rw [hact]; simp)] at hstep
          simp (disch := omega) only [go_sem, Nat.reduceEqDiff, ↓reduceIte, Nat.reduceAdd, a61]
          exact ⟨hkn, (by first | assumption | (simp only [upd_apply, Nat.reduceEqDiff, ↓reduceIte] <;> first | rfl | assumption) | simp [upd_apply, *]), (by first | assumption | (simp only [upd_apply, Nat.reduceEqDiff, ↓reduceIte] <;> first | rfl | assumption) | simp [upd_apply, *]), by simp [upd_apply, a11, hstep], (by first | assumption | (simp only [upd_apply, Nat.reduceEqDiff, ↓reduceIte] <;> first | rfl | assumption) | simp [upd_apply, *]), (by first | assumption | (simp only [upd_apply, Nat.reduceEqDiff, ↓reduceIte] <;> first | rfl | assumption) | simp [upd_apply, *]), (by first | assumption | (simp only [upd_apply, Nat.reduceEqDiff, ↓reduceIte] <;> first | rfl | assumption) | simp [upd_apply, *]), (by first | assumption | (simp only [upd_apply, Nat.reduceEqDiff, ↓reduceIte] <;> first | rfl | assumption) | simp [upd_apply, *]), g9.ext x8 (by omega), c8.grow g9.grow (by simp; omega), t8.grow g9.grow (by simp; omega) (by simp; omega), o9⟩
        · have hact : landB h lv k = true := by simp [landB]; omega
          by_cases hr : repF (nearN R C) (landB h lv) (R * C) k = k
          · have hre : (((repF (nearN R C) (landB h lv) (R * C) k : Nat) : Int) == (k : Int)) = true := by rw [hr]; exact beq_self_eq_true _
            simp (disch := omega) only [go_sem, Nat.reduceEqDiff, ↓reduceIte, Nat.reduceAdd, a1, a11, a12, hk2, hre]
            refine stK_own siz_int (by rfl) (by rfl) o8 (by omega) fun w9 o9 g9 => ?_
            have hset := vi_rangeI_set (n := R * C) (x := k) (f := fun i => if i < k then numOf (nearN R C) (landB h lv) (R * C) i else 0) (g := fun i => if i < k + 1 then numOf (nearN R C) (landB h lv) (R * C) i else 0) (y := ((cntp (rootB (nearN R C) (landB h lv) (R * C)) k : Nat) : Int)) hkn (by simp [numOf_root hnb hact hr]) (fun j hj hne => by by_cases h1 : j < k <;> by_cases h2 : j < k + 1 <;> simp [h1, h2] <;> omega)
            rw [hset] at o9
            rw [if_pos ⟨hact, hr⟩] at hstep
            simp (disch := omega) only [go_sem, Nat.reduceEqDiff, ↓reduceIte, Nat.reduceAdd, a11, a61]
            exact ⟨hkn, (by first | assumption | (simp only [upd_apply, Nat.reduceEqDiff, ↓reduceIte] <;> first | rfl | assumption) | simp [upd_apply, *]), (by first | assumption | (simp only [upd_apply, Nat.reduceEqDiff, ↓reduceIte] <;> first | rfl | assumption) | simp [upd_apply, *]), by simp [upd_apply, hstep], (by first | assumption | (simp only [upd_apply, Nat.reduceEqDiff, ↓reduceIte] <;> first | rfl | assumption) | simp [upd_apply, *]), (by first | assumption | (simp only [upd_apply, Nat.reduceEqDiff, ↓reduceIte] <;> first | rfl | assumption) | simp [upd_apply, *]), (by first | assumption | (simp only [upd_apply, Nat.reduceEqDiff, ↓reduceIte] <;> first | rfl | assumption) | simp [upd_apply, *]), (by first | assumption | (simp only [upd_apply, Nat.reduceEqDiff, ↓reduceIte] <;> first | rfl | assumption) | simp [upd_apply, *]), g9.ext x8 (by omega), c8.grow g9.grow (by simp; omega), t8.grow g9.grow (by simp; omega) (by simp; omega), o9⟩
          · have hle := u.le k hkn
            have hrk : repF (nearN R C) (landB h lv) (R * C) k < k := by omega
            have hre : (((repF (nearN R C) (landB h lv) (R * C) k : Nat) : Int) == (k : Int)) = false := by simp; omega
            have hnr := numOf_rep (act := landB h lv) hnb hkn
            have c1 : w8.cell? ⟨b7, repF (nearN R C) (landB h lv) (R * C) k, none⟩ = some (.int .i64 (numOf (nearN R C) (landB h lv) (R * C) k)) := by
              rw [o8.cell (by omega), vi_rangeI_get _ (by omega), if_pos hrk, hnr]
            simp (disch := omega) only [go_sem, Nat.reduceEqDiff, ↓reduceIte, Nat.reduceAdd, a1, a12, hk2, hre, c1]
            refine stK_own siz_int (by rfl) (by rfl) o8 (by omega) fun w9 o9 g9 => ?_
            have hset := vi_rangeI_set (n := R * C) (x := k) (f := fun i => if i < k then numOf (nearN R C) (landB h lv) (R * C) i else 0) (g := fun i => if i < k + 1 then numOf (nearN R C) (landB h lv) (R * C) i else 0) (y := numOf (nearN R C) (landB h lv) (R * C) k) hkn (by simp) (fun j hj hne => by by_cases h1 : j < k <;> by_cases h2 : j < k + 1 <;> simp [h1, h2] <;> omega)
            rw [hset] at o9
            rw [if_neg (fun hh => hr hh.2)] at hstep
            simp (disch := omega) only [go_sem, Nat.reduceEqDiff, ↓reduceIte, Nat.reduceAdd, a61]
            exact ⟨hkn, (by first | assumption | (simp only [upd_apply, Nat.reduceEqDiff, ↓reduceIte] <;> first | rfl | assumption) | simp [upd_apply, *]), (by first | assumption | (simp only [upd_apply, Nat.reduceEqDiff, ↓reduceIte] <;> first | rfl | assumption) | simp [upd_apply, *]), by simp [upd_apply, a11, hstep], (by first | assumption | (simp only [upd_apply, Nat.reduceEqDiff, ↓reduceIte] <;> first | rfl | assumption) | simp [upd_apply, *]), (by first | assumption | (simp only [upd_apply, Nat.reduceEqDiff, ↓reduceIte] <;> first | rfl | assumption) | simp [upd_apply, *]), (by first | assumption | (simp only [upd_apply, Nat.reduceEqDiff, ↓reduceIte] <;> first | rfl | assumption) | simp [upd_apply, *]), (by first | assumption | (simp only [upd_apply, Nat.reduceEqDiff, ↓reduceIte] <;> first | rfl | assumption) | simp [upd_apply, *]), g9.ext x8 (by omega), c8.grow g9.grow (by simp; omega), t8.grow g9.grow (by simp; omega) (by simp; omega), o9⟩
      · obtain rfl : k = R * C := by omega
        simp (disch := omega) only [go_sem, Nat.reduceEqDiff, ↓reduceIte, Nat.reduceAdd, a11, a12, a60, a61, hlt, Try.results77]
        have e : ((List.range (R * C)).map fun i => if i < R * C then numOf (nearN R C) (landB h lv) (R * C) i else 0) = (List.range (R * C)).map (numOf (nearN R C) (landB h lv) (R * C)) := List.map_congr_left fun i hi => by rw [if_pos (List.mem_range.1 hi)]
        rw [e] at oV
        exact ⟨b7, rfl, by omega, oV, xV⟩
end Go.Proofs.Ytdlepfeckiahdaa
