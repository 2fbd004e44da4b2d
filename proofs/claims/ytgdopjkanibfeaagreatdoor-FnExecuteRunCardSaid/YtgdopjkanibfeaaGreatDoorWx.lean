/- Contracts: the next cell and the run of a cell, both sides. -/
import Derived.Test.YtgdopjkanibfeaaGreatDoorWn
set_option linter.all false
set_option maxRecDepth 20000
namespace Go.Proofs.YtgdopjkanibfeaaGreatDoor
open Go.RowKit Go.SW

theorem zero_int : zeroC Tryz.prog 3 = some #[.int .i64 0] := by kernel_rfl
theorem zero_i : zeroC Tryz.prog 25 = some #[.slice none 0 0] := by kernel_rfl

theorem next_c (R C cb i : Nat) (h : Nat → Int) (w : World) (hR7 : R ≤ 7) (hC7 : C ≤ 7) (hc : CellsAt w cb (R * C) h) (hi : i < R * C) :
    Ret Tryz.prog 82 #[.agg #[.int .i64 R, .int .i64 C, .slice (some ⟨cb, 0, none⟩) (R * C) (R * C)], .int .i64 i] w fun v w' => v = .int .i64 (nextN R C h i : Nat) ∧ Ext w w' := by
  have hRC : R * C ≤ 7 * 7 := Nat.mul_le_mul hR7 hC7
  refine enter2 Tryz.func82 rfl (by kernel_rfl) (of_decide_eq_true (by kernel_rfl)) fun f a0 a1 => ?_
  simp only [go_sem, Nat.reduceEqDiff, ↓reduceIte, a0]
  refine boxK_of fun w0 fb _ x0 k0 _ => ?_
  simp only [go_sem, Nat.reduceEqDiff, ↓reduceIte, a1, readCells_blk k0 (n := 3) (by simp [Value.cells]), Value.cells]
  refine callK_of (by kernel_rfl) (neighbors_c R C i _ _ hR7 hC7 hi) ?_
  rintro _ w1 ⟨a, c, rfl, o, hf, x1⟩
  have hn4 := nearN_len R C i
  simp only [go_sem, Nat.reduceEqDiff, ↓reduceIte]
  refine loopN (nearN R C i).length (fun k f w' => f 2 = .pointer (some ⟨fb, 0, none⟩) ∧ f 5 = .int .i64 (lowL h ((nearN R C i).take k) i : Nat) ∧ f 11 = .slice a (nearN R C i).length c ∧ f 12 = .int .i64 (nearN R C i).length ∧ f 13 = .int .i64 k ∧ Ext w1 w') ?_ fun k f w' hk ⟨a2, a5, a11, a12, a13, xw⟩ => ?_
  · exact ⟨by simp [upd_apply], by simp [upd_apply, a1, lowL], by simp [upd_apply], by simp [upd_apply], by simp [upd_apply], Ext.refl _⟩
  · by_cases hlt : (k : Int) < (nearN R C i).length
    · obtain ⟨b, rfl⟩ := o.some (by omega)
      have hjk : (nearN R C i).getD k 0 < R * C := nearN_lt hi _ (getD_mem (by omega))
      have hlow : lowL h ((nearN R C i).take k) i < R * C := lowL_lt (fun j hj => nearN_lt hi _ (List.mem_of_mem_take hj)) hi
      have g0 : w'.cell? ⟨b, k, none⟩ = some (.int .i64 ((nearN R C i).getD k 0 : Nat)) := by rw [(o.ext xw).cell (by omega), vi_get _ _ (by rw [ni_len]; omega), ni_get _ (by omega)]
      have kb : Blk w' fb _ _ := k0.ext (x1.trans xw)
      have hc' := ((hc.ext x0).ext x1).ext xw
      have c1 := hc' _ hjk
      have c2 := hc' _ hlow
      have hstep := lowL_take h (nearN R C i) i (k := k) (by omega)
      generalize (nearN R C i).getD k 0 = j at *
      generalize lowL h ((nearN R C i).take k) i = m at *
      simp (disch := omega) only [go_sem, Nat.reduceEqDiff, ↓reduceIte, a2, a5, a11, a12, a13, hlt, g0]
      refine QR_of (by kernel_rfl) (by kernel_rfl) ?_
      by_cases hh : h j < h m
      · rw [if_pos hh] at hstep
        simp (disch := omega) only [go_sem, Nat.reduceEqDiff, ↓reduceIte, Nat.reduceAdd, a2, a5, a13, kb.cell, Value.cells, c1, c2, hh]
        exact fun w2 x2 => ⟨by omega, by simp [upd_apply, a2], by simp [upd_apply, hstep], by simp [upd_apply, a11], by simp [upd_apply, a12], by simp [upd_apply], xw.trans x2⟩
      · rw [if_neg hh] at hstep
        simp (disch := omega) only [go_sem, Nat.reduceEqDiff, ↓reduceIte, Nat.reduceAdd, a2, a5, a13, kb.cell, Value.cells, c1, c2, hh]
        exact fun w2 x2 => ⟨by omega, by simp [upd_apply, a2], by simp [upd_apply, hstep, a5], by simp [upd_apply, a11], by simp [upd_apply, a12], by simp [upd_apply], xw.trans x2⟩
    · obtain rfl : k = (nearN R C i).length := by omega
      simp (disch := omega) only [go_sem, Nat.reduceEqDiff, ↓reduceIte, a5, a12, a13, hlt, List.take_length, Tryz.results82]
      exact ⟨rfl, (x0.trans x1).trans xw⟩

theorem run_c (R C cb i : Nat) (w : World) :
    Ret Tryz.prog 48 #[.agg #[.int .i64 R, .int .i64 C, .slice (some ⟨cb, 0, none⟩) (R * C) (R * C)], .int .i64 i] w fun v w' => ∃ ib fb, v = .func (.func 81) #[] #[.pointer (some ⟨ib, 0, none⟩), .pointer (some ⟨fb, 0, none⟩)] ∧
      Blk w' ib #[.int .i64 i] 3 ∧ Blk w' fb #[.int .i64 R, .int .i64 C, .slice (some ⟨cb, 0, none⟩) (R * C) (R * C)] 48 ∧ w.heap.size ≤ ib ∧ w.heap.size ≤ fb ∧ Ext w w' := by
  refine enter2 Tryz.func48 rfl (by kernel_rfl) (of_decide_eq_true (by kernel_rfl)) fun f a0 a1 => ?_
  simp only [go_sem, Nat.reduceEqDiff, ↓reduceIte, a0]
  refine boxK_of fun w0 fb _ x0 k0 _ => ?_
  have s0 := x0.size
  simp only [go_sem, Nat.reduceEqDiff, ↓reduceIte, a1]
  refine boxK_of fun w1 ib _ x1 k1 _ => ?_
  simp only [go_sem, Nat.reduceEqDiff, ↓reduceIte, Tryz.results48]
  exact ⟨ib, fb, rfl, k1, k0.ext x1, by omega, by omega, x0.trans x1⟩

/-- What the iterator reads. -/
def RunIn (W : World) (R C cb ib fb i : Nat) (h : Nat → Int) : Prop :=
  Blk W ib #[.int .i64 i] 3 ∧ Blk W fb #[.int .i64 R, .int .i64 C, .slice (some ⟨cb, 0, none⟩) (R * C) (R * C)] 48 ∧ CellsAt W cb (R * C) h

theorem run1_c (R C cb ib fb i : Nat) (h : Nat → Int) (g : Gd R C h) (hi : i < R * C) :
    IterC Tryz.prog 81 #[.pointer (some ⟨ib, 0, none⟩), .pointer (some ⟨fb, 0, none⟩)] (ni (waterN R C h i)) fun W => RunIn W R C cb ib fb i h := by
  intro l J W hJe hKp hy h0
  have hRC := g.le
  have key : Ret Tryz.prog 81 #[.func (.yield l) #[] #[], .pointer (some ⟨ib, 0, none⟩), .pointer (some ⟨fb, 0, none⟩)] W fun _ W' => J (ni (waterN R C h i)) W' := by
    refine enterD3 (y := true) Tryz.func81 rfl (by kernel_rfl) (of_decide_eq_true (by kernel_rfl)) fun f a0 a1 a2 => ?_
    obtain ⟨kI, kF, kC⟩ := hKp _ _ h0
    simp only [go_sem, Nat.reduceEqDiff, ↓reduceIte]
    refine regD openF_wide ?_
    simp (disch := omega) only [go_sem, Nat.reduceEqDiff, ↓reduceIte, a1, kI.cell]
    refine loopD (y := true) openF_wide (fun n ds f W => ds = [] ∧ ∃ (pre : List Nat) (cur : Nat), n = (waterN R C h cur).length ∧ cur < R * C ∧ pre ++ waterN R C h cur = waterN R C h i ∧ f 0 = .func (.yield l) #[] #[] ∧ f 2 = .pointer (some ⟨fb, 0, none⟩) ∧ f 4 = .int .i64 cur ∧ J (ni pre) W)
      (waterN R C h i).length ⟨rfl, [], i, rfl, hi, rfl, by simp [upd_apply, a0], by simp [upd_apply, a2], by simp [upd_apply], h0⟩ ?_
    clear a0 a1 a2 kI kF kC h0
    rintro n ds f W ⟨rfl, pre, cur, rfl, hcur, hrun, a0, a2, a4, hJ⟩
    have hcons : ∃ t, waterN R C h cur = cur :: t := by
      rw [waterN_eq g hcur]; split <;> exact ⟨_, rfl⟩
    obtain ⟨t, ht⟩ := hcons
    have hpre : ni pre ++ [(cur : Int)] <+: ni (waterN R C h i) := ⟨ni t, by rw [← hrun, ht]; simp [ni]⟩
    have hsn : ni pre ++ [(cur : Int)] = ni (pre ++ [cur]) := by simp [ni]
    obtain ⟨fn, tmps, assign, body, hyr, hrd⟩ := hy (ni pre) cur W hJ hpre
    simp only [go_sem, Nat.reduceEqDiff, ↓reduceIte]
    refine yieldN openF_wide 2 rfl rfl rfl ?_
    simp only [go_sem, Nat.reduceEqDiff, ↓reduceIte, a0, a4]
    refine ⟨l, fn, tmps, assign, body, rfl, hyr, RoundIn.mono hrd ?_⟩
    rintro e W1 ⟨rfl, hJ1⟩
    rw [hsn] at hJ1
    refine ⟨_, rfl, ?_⟩
    obtain ⟨kI, kF, kC⟩ := hKp _ _ hJ1
    simp only [updO_some, go_sem, Nat.reduceEqDiff, ↓reduceIte]
    refine regD openF_wide ?_
    simp only [go_sem, Nat.reduceEqDiff, ↓reduceIte, a2, a4, readCells_blk kF (n := 3) (by simp)]
    refine callK_pure (by kernel_rfl) (next_c R C cb cur h _ g.r7 g.c7 kC hcur) fun W2 x2 => ?_
    have hJ2 := hJe _ _ _ hJ1 x2
    have hnl := nextN_lt (h := h) hcur
    simp only [go_sem, Nat.reduceEqDiff, ↓reduceIte]
    refine regD openF_wide ?_
    by_cases hs : nextN R C h cur = cur
    · have hb : (((nextN R C h cur : Nat) : Int) == (cur : Int)) = true := by simp [hs]
      simp only [go_sem, Nat.reduceEqDiff, ↓reduceIte, a4, hb]
      refine ⟨trivial, fun w' hw _ => ?_⟩
      rw [hw rfl]
      have e : pre ++ [cur] = waterN R C h i := by rw [← hrun, waterN_sink g hcur hs]
      rw [e] at hJ2
      simp only [go_sem, Tryz.results81]
      exact hJ2
    · have hb : (((nextN R C h cur : Nat) : Int) == (cur : Int)) = false := by simp; omega
      simp only [go_sem, Nat.reduceEqDiff, ↓reduceIte, a4, hb]
      refine regD openF_wide ?_
      simp only [go_sem, Nat.reduceEqDiff, ↓reduceIte]
      have hst := waterN_step g hcur hs
      refine ⟨(waterN R C h (nextN R C h cur)).length, by rw [hst]; simp, trivial, pre ++ [cur], nextN R C h cur, rfl, hnl, by rw [← hrun, hst]; simp, by simp [upd_apply, a0], by simp [upd_apply, a2], by simp [upd_apply], hJ2⟩
  exact Calls.mono key fun e W' ⟨v, he, hv⟩ => ⟨⟨v, he⟩, hv⟩

end Go.Proofs.YtgdopjkanibfeaaGreatDoor
