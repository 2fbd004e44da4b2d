/- Contracts: the next cell and the run of a cell, both sides. -/
import Derived.Test.YtikmkdoifbjfjaaWn
set_option linter.all false
namespace Go.Proofs.Ytikmkdoifbjfjaa
open Go.RowKit Go.SW

theorem zero_int : zeroC Try.prog 3 = some #[.int .i64 0] := by kernel_rfl
theorem zero_i : zeroC Try.prog 28 = some #[.slice none 0 0] := by kernel_rfl

theorem next_c (R C cb i : Nat) (h : Nat → Int) (w : World) (hR7 : R ≤ 7) (hC7 : C ≤ 7) (hc : CellsAt w cb (R * C) h) (hi : i < R * C) :
    Ret Try.prog 62 #[.agg #[.int .i64 R, .int .i64 C, .slice (some ⟨cb, 0, none⟩) (R * C) (R * C)], .int .i64 i] w fun v w' => v = .int .i64 (nextN R C h i : Nat) ∧ Ext w w' := by
  have hRC : R * C ≤ 7 * 7 := Nat.mul_le_mul hR7 hC7
  refine enter2 Try.func62 rfl (by kernel_rfl) (of_decide_eq_true (by kernel_rfl)) fun f a0 a1 => ?_
  simp only [go_sem, Nat.reduceEqDiff, ↓reduceIte, a0]
  refine boxK_of fun w0 fb _ x0 k0 _ => ?_
  simp only [go_sem, Nat.reduceEqDiff, ↓reduceIte, a1, readCells_blk k0 (n := 3) (by simp [Value.cells]), Value.cells]
  refine callK_of (by kernel_rfl) (neighbors_c R C i _ _ hR7 hC7 hi) ?_
  rintro _ w1 ⟨a, c, rfl, o, hf, x1⟩
  have hn4 := nearN_len R C i
  simp only [go_sem, Nat.reduceEqDiff, ↓reduceIte]
  refine loopN (nearN R C i).length (fun k f w' => f 2 = .pointer (some ⟨fb, 0, none⟩) ∧ f 5 = .int .i64 (lowL h ((nearN R C i).take k) i : Nat) ∧ f 11 = .slice a (nearN R C i).length c ∧ f 12 = .int .i64 (nearN R C i).length ∧ f 13 = .int .i64 k ∧ Ext w1 w') ?_ fun k f w' hk ⟨a2, a5, a11, a12, a13, xw⟩ => ?_
  · exact ⟨by simp [upd_apply], by simp [upd_apply, a1, lowL], by simp [upd_apply], by simp [upd_apply], by simp [upd_apply], Ext.refl _⟩
  · by_cases hlt : (k : Int) < (nearN R C i).length
    · obtain ⟨b, rfl⟩ := o.some (by omega)
      have hjk : (nearN R C i).getD k 0 < R * C := nearN_lt hi _ (getD_mem (by omega))
      have hlow : lowL h ((nearN R C i).take k) i < R * C := lowL_lt (fun j hj => nearN_lt hi _ (List.mem_of_mem_take hj)) hi
      have g0 : w'.cell? ⟨b, k, none⟩ = some (.int .i64 ((nearN R C i).getD k 0 : Nat)) := by rw [(o.ext xw).cell (by omega), vi_get _ _ (by rw [ni_len]; omega), ni_get _ (by omega)]
      have kb : Blk w' fb _ _ := k0.ext (x1.trans xw)
      have hc' := ((hc.ext x0).ext x1).ext xw
      have c1 := hc' _ hjk
      have c2 := hc' _ hlow
      have hstep := lowL_take h (nearN R C i) i (k := k) (by omega)
      generalize (nearN R C i).getD k 0 = j at *
      generalize lowL h ((nearN R C i).take k) i = m at *
      simp (disch := omega) only [go_sem, Nat.reduceEqDiff, ↓reduceIte, a2, a5, a11, a12, a13, hlt, g0]
      refine QR_of (by kernel_rfl) (by kernel_rfl) ?_
      by_cases hh : h j < h m
      · rw [if_pos hh] at hstep
        simp (disch := omega) only [go_sem, Nat.reduceEqDiff, ↓reduceIte, Nat.reduceAdd, a2, a5, a13, kb.cell, Value.cells, c1, c2, hh]
        exact fun w2 x2 => ⟨by omega, by simp [upd_apply, a2], by simp [upd_apply, hstep], by simp [upd_apply, a11], by simp [upd_apply, a12], by simp [upd_apply], xw.trans x2⟩
      · rw [if_neg hh] at hstep
        simp (disch := omega) only [go_sem, Nat.reduceEqDiff, ↓reduceIte, Nat.reduceAdd, a2, a5, a13, kb.cell, Value.cells, c1, c2, hh]
        exact fun w2 x2 => ⟨by omega, by simp [upd_apply, a2], by simp [upd_apply, hstep, a5], by simp [upd_apply, a11], by simp [upd_apply, a12], by simp [upd_apply], xw.trans x2⟩
    · obtain rfl : k = (nearN R C i).length := by omega
      simp (disch := omega) only [go_sem, Nat.reduceEqDiff, ↓reduceIte, a5, a12, a13, hlt, List.take_length, Try.results62]
      exact ⟨rfl, (x0.trans x1).trans xw⟩

theorem run_c (R C cb i : Nat) (w : World) :
    Ret Try.prog 55 #[.agg #[.int .i64 R, .int .i64 C, .slice (some ⟨cb, 0, none⟩) (R * C) (R * C)], .int .i64 i] w fun v w' => ∃ ib fb, v = .func (.func 73) #[] #[.pointer (some ⟨ib, 0, none⟩), .pointer (some ⟨fb, 0, none⟩)] ∧
      Blk w' ib #[.int .i64 i] 3 ∧ Blk w' fb #[.int .i64 R, .int .i64 C, .slice (some ⟨cb, 0, none⟩) (R * C) (R * C)] 52 ∧ w.heap.size ≤ ib ∧ w.heap.size ≤ fb ∧ Ext w w' := by
  refine enter2 Try.func55 rfl (by kernel_rfl) (of_decide_eq_true (by kernel_rfl)) fun f a0 a1 => ?_
  simp only [go_sem, Nat.reduceEqDiff, ↓reduceIte, a0]
  refine boxK_of fun w0 fb _ x0 k0 _ => ?_
  have s0 := x0.size
  simp only [go_sem, Nat.reduceEqDiff, ↓reduceIte, a1]
  refine boxK_of fun w1 ib _ x1 k1 _ => ?_
  simp only [go_sem, Nat.reduceEqDiff, ↓reduceIte, Try.results55]
  exact ⟨ib, fb, rfl, k1, k0.ext x1, by omega, by omega, x0.trans x1⟩

/-- What the iterator reads. -/
def RunIn (W : World) (R C cb ib fb i : Nat) (h : Nat → Int) : Prop :=
  Blk W ib #[.int .i64 i] 3 ∧ Blk W fb #[.int .i64 R, .int .i64 C, .slice (some ⟨cb, 0, none⟩) (R * C) (R * C)] 52 ∧ CellsAt W cb (R * C) h

theorem run1_c (R C cb ib fb i : Nat) (h : Nat → Int) (g : Gd R C h) (hi : i < R * C) :
    IterC Try.prog 73 #[.pointer (some ⟨ib, 0, none⟩), .pointer (some ⟨fb, 0, none⟩)] (ni (waterN R C h i)) fun W => RunIn W R C cb ib fb i h := by
  intro l J W hJe hKp hy h0
  have hRC := g.le
  have key : Ret Try.prog 73 #[.func (.yield l) #[] #[], .pointer (some ⟨ib, 0, none⟩), .pointer (some ⟨fb, 0, none⟩)] W fun _ W' => J (ni (waterN R C h i)) W' := by
    refine enterD3 (y := true) Try.func73 rfl (by kernel_rfl) (of_decide_eq_true (by kernel_rfl)) fun f a0 a1 a2 => ?_
    obtain ⟨kI, kF, kC⟩ := hKp _ _ h0
    simp only [go_sem, Nat.reduceEqDiff, ↓reduceIte]
    refine regD openF_wide ?_
    simp (disch := omega) only [go_sem, Nat.reduceEqDiff, ↓reduceIte, a1, kI.cell]
    refine loopD (y := true) openF_wide (fun n ds f W => ds = [] ∧ ∃ (pre : List Nat) (cur : Nat), n = (waterN R C h cur).length ∧ cur < R * C ∧ pre ++ waterN R C h cur = waterN R C h i ∧ f 0 = .func (.yield l) #[] #[] ∧ f 2 = .pointer (some ⟨fb, 0, none⟩) ∧ f 4 = .int .i64 cur ∧ J (ni pre) W)
      (waterN R C h i).length ⟨rfl, [], i, rfl, hi, rfl, by simp [upd_apply, a0], by simp [upd_apply, a2], by simp [upd_apply], h0⟩ ?_
    clear a0 a1 a2 kI kF kC h0
    rintro n ds f W ⟨rfl, pre, cur, rfl, hcur, hrun, a0, a2, a4, hJ⟩
    have hcons : ∃ t, waterN R C h cur = cur :: t := by
      rw [waterN_eq g hcur]; split <;> exact ⟨_, rfl⟩
    obtain ⟨t, ht⟩ := hcons
    have hpre : ni pre ++ [(cur : Int)] <+: ni (waterN R C h i) := ⟨ni t, by rw [← hrun, ht]; simp [ni]⟩
    have hsn : ni pre ++ [(cur : Int)] = ni (pre ++ [cur]) := by simp [ni]
    obtain ⟨fn, tmps, assign, body, hyr, hrd⟩ := hy (ni pre) cur W hJ hpre
    simp only [go_sem, Nat.reduceEqDiff, ↓reduceIte]
    refine yieldN openF_wide 2 rfl rfl rfl ?_
    simp only [go_sem, Nat.reduceEqDiff, ↓reduceIte, a0, a4]
    refine ⟨l, fn, tmps, assign, body, rfl, hyr, RoundIn.mono hrd ?_⟩
    rintro e W1 ⟨rfl, hJ1⟩
    rw [hsn] at hJ1
    refine ⟨_, rfl, ?_⟩
    obtain ⟨kI, kF, kC⟩ := hKp _ _ hJ1
    simp only [updO_some, go_sem, Nat.reduceEqDiff, ↓reduceIte]
    refine regD openF_wide ?_
    simp only [go_sem, Nat.reduceEqDiff, ↓reduceIte, a2, a4, readCells_blk kF (n := 3) (by simp)]
    refine callK_pure (by kernel_rfl) (next_c R C cb cur h _ g.r7 g.c7 kC hcur) fun W2 x2 => ?_
    have hJ2 := hJe _ _ _ hJ1 x2
    have hnl := nextN_lt (h := h) hcur
    simp only [go_sem, Nat.reduceEqDiff, ↓reduceIte]
    refine regD openF_wide ?_
    by_cases hs : nextN R C h cur = cur
    · have hb : (((nextN R C h cur : Nat) : Int) == (cur : Int)) = true := by simp [hs]
      simp only [go_sem, Nat.reduceEqDiff, ↓reduceIte, a4, hb]
      refine ⟨trivial, fun w' hw _ => ?_⟩
      rw [hw rfl]
      have e : pre ++ [cur] = waterN R C h i := by rw [← hrun, waterN_sink g hcur hs]
      rw [e] at hJ2
      simp only [go_sem, Try.results73]
      exact hJ2
    · have hb : (((nextN R C h cur : Nat) : Int) == (cur : Int)) = false := by simp; omega
      simp only [go_sem, Nat.reduceEqDiff, ↓reduceIte, a4, hb]
      refine regD openF_wide ?_
      simp only [go_sem, Nat.reduceEqDiff, ↓reduceIte]
      have hst := waterN_step g hcur hs
      refine ⟨(waterN R C h (nextN R C h cur)).length, by rw [hst]; simp, trivial, pre ++ [cur], nextN R C h cur, rfl, hnl, by rw [← hrun, hst]; simp, by simp [upd_apply, a0], by simp [upd_apply, a2], by simp [upd_apply], hJ2⟩
  exact Calls.mono key fun e W' ⟨v, he, hv⟩ => ⟨⟨v, he⟩, hv⟩

theorem end_c (R C cb i : Nat) (h : Nat → Int) (w : World) (g : Gd R C h) (hc : CellsAt w cb (R * C) h) (hi : i < R * C) :
    Ret Try.prog 63 #[.agg #[.int .i64 R, .int .i64 C, .slice (some ⟨cb, 0, none⟩) (R * C) (R * C)], .int .i64 i] w fun v w' => v = .int .i64 (endN R C h i : Nat) ∧ Ext w w' := by
  refine enterD2 (y := false) Try.func63 rfl (by kernel_rfl) (of_decide_eq_true (by kernel_rfl)) fun f a0 a1 => ?_
  simp only [go_sem, Nat.reduceEqDiff, ↓reduceIte, a0]
  refine boxK_of fun w0 fb0 eb0 x0 k0 _ => ?_
  have s0 := x0.size
  simp only [go_sem, Nat.reduceEqDiff, ↓reduceIte, a1]
  refine allocK_of zero_int fun w1 lb el x1 k1 _ => ?_
  have s1 := x1.size
  simp only [go_sem, Nat.reduceEqDiff, ↓reduceIte, a1]
  refine stK_blk siz_int (by rfl) (by rfl) k1 (by simp) fun w2 k2 g2 => ?_
  have x2 : Ext w w2 := g2.ext (x0.trans x1) (by omega)
  have k2 : Blk w2 lb #[.int .i64 i] 3 := by simpa using k2
  have k02 := g2.grow.blk (k0.ext x1) (by simp; omega)
  simp only [go_sem, Nat.reduceEqDiff, ↓reduceIte, a1, readCells_blk k02 (n := 3) (by simp [Value.cells]), Value.cells]
  refine callK_of (by kernel_rfl) (run_c R C cb i _) ?_
  rintro _ w3 ⟨ib, fb, rfl, kI, kF, hib, hfb, x3⟩
  have k3 := k2.ext x3
  have xw := x2.trans x3
  have s3 := xw.size
  have hl2 := k2.lt
  simp only [go_sem, Nat.reduceEqDiff, ↓reduceIte]
  refine rangeD1 (by decide) (by simp [ev, upd_apply]) (by kernel_rfl)
    (fun pre W => Ext w W ∧ Blk W lb #[.int .i64 (pre.getLastD i)] 3 ∧ Blk W ib #[.int .i64 i] 3 ∧ Blk W fb #[.int .i64 R, .int .i64 C, .slice (some ⟨cb, 0, none⟩) (R * C) (R * C)] 52)
    (fun x f' => f' 5 = .pointer (some ⟨lb, 0, none⟩) ∧ f' 6 = .int .i64 x) _ (run1_c R C cb ib fb i h g hi)
    (fun pre W ⟨e, _, k1, k2⟩ => ⟨k1, k2, hc.ext e⟩)
    (fun pre ob A B ⟨e, j1, j2, j3⟩ gg r => ⟨r.ext gg e s3, r.blk gg j1, r.blk gg j2, r.blk gg j3⟩)
    ⟨xw, by simpa using k3, kI, kF⟩ ?_ ?_ ?_
  · intro Fc hF x W K hK
    simp only [go_sem, Nat.reduceEqDiff, ↓reduceIte]
    exact ⟨trivial, hK _ ⟨by simp [upd_apply], by simp [upd_apply]⟩⟩
  · rintro Fc hF pre x f' W ⟨a5, a6⟩ ⟨e, j1, j2, j3⟩ _
    simp only [go_sem, Nat.reduceEqDiff, ↓reduceIte, a5, a6]
    refine stK_blk siz_int (by rfl) (by rfl) j1 (by simp) fun W1 j1' gw => ?_
    simp only [go_sem, Nat.reduceEqDiff, ↓reduceIte]
    refine ⟨⟨gw.ext e (by omega), by simpa using j1', gw.grow.blk j2 (by simp; omega), gw.grow.blk j3 (by simp; omega)⟩, gw.grow.nk fun b hb => by cases hb; exact j1.cells⟩
  · rintro W ⟨e, j1, j2, j3⟩ hd hlt
    simp (disch := omega) only [go_sem, Nat.reduceEqDiff, ↓reduceIte, j1.cell]
    refine ⟨Marks.cons trivial trivial s3 hd, fun w' _ off => ?_⟩
    simp only [go_sem, Nat.reduceEqDiff, ↓reduceIte, Try.results63]
    refine ⟨?_, off.ext e (Nat.le_refl _)⟩
    have : (ni (waterN R C h i)).getLastD (i : Int) = ((endN R C h i : Nat) : Int) := by
      simp only [endN, ni, List.getLastD_eq_getLast?, List.getLast?_map]
      cases (waterN R C h i).getLast? <;> simp
    rw [this]

end Go.Proofs.Ytikmkdoifbjfjaa
