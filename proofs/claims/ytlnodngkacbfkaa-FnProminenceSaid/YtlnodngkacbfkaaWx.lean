/- Contracts: the next cell and the run of a cell, both sides. -/
import Derived.Test.YtlnodngkacbfkaaWn
set_option linter.all false
set_option maxRecDepth 20000
namespace Go.Proofs.Ytlnodngkacbfkaa
open Go.RowKit Go.SW

theorem zero_int : zeroC Try.prog 3 = some #[.int .i64 0] := by kernel_rfl
theorem zero_i : zeroC Try.prog 24 = some #[.slice none 0 0] := by kernel_rfl

theorem next_c (R C cb i : Nat) (h : Nat → Int) (w : World) (hR7 : R ≤ 7) (hC7 : C ≤ 7) (hc : CellsAt w cb (R * C) h) (hi : i < R * C) :
    Ret Try.prog 88 #[.agg #[.int .i64 R, .int .i64 C, .slice (some ⟨cb, 0, none⟩) (R * C) (R * C)], .int .i64 i] w fun v w' => v = .int .i64 (nextN R C h i : Nat) ∧ Ext w w' := by
  have hRC : R * C ≤ 7 * 7 := Nat.mul_le_mul hR7 hC7
  refine enter2 Try.func88 rfl (by kernel_rfl) (of_decide_eq_true (by kernel_rfl)) fun f a0 a1 => ?_
  simp only [go_sem, Nat.reduceEqDiff, ↓reduceIte, a0]
  refine boxK_of fun w0 fb _ x0 k0 _ => ?_
  simp only [go_sem, Nat.reduceEqDiff, ↓reduceIte, a1, readCells_blk k0 (n := 3) (by simp [Value.cells]), Value.cells]
  refine callK_of (by kernel_rfl) (neighbors_c R C i _ _ hR7 hC7 hi) ?_
  rintro _ w1 ⟨a, c, rfl, o, hf, x1⟩
  have hn4 := nearN_len R C i
  simp only [go_sem, Nat.reduceEqDiff, ↓reduceIte]
  refine loopN (nearN R C i).length (fun k f w' => f 2 = .pointer (some ⟨fb, 0, none⟩) ∧ f 5 = .int .i64 (lowL h ((nearN R C i).take k) i : Nat) ∧ f 11 = .slice a (nearN R C i).length c ∧ f 12 = .int .i64 (nearN R C i).length ∧ f 13 = .int .i64 k ∧ Ext w1 w') ?_ fun k f w' hk ⟨a2, a5, a11, a12, a13, xw⟩ => ?_
  · exact ⟨by simp [upd_apply], by simp [upd_apply, a1, lowL], by simp [upd_apply], by simp [upd_apply], by simp [upd_apply], Ext.refl _⟩
  · by_cases hlt : (k : Int) < (nearN R C i).length
    · obtain ⟨b, rfl⟩ := o.some (by omega)
      have hjk : (nearN R C i).getD k 0 < R * C := nearN_lt hi _ (getD_mem (by omega))
      have hlow : lowL h ((nearN R C i).take k) i < R * C := lowL_lt (fun j hj => nearN_lt hi _ (List.mem_of_mem_take hj)) hi
      have g0 : w'.cell? ⟨b, k, none⟩ = some (.int .i64 ((nearN R C i).getD k 0 : Nat)) := by rw [(o.ext xw).cell (by omega), vi_get _ _ (by rw [ni_len]; omega), ni_get _ (by omega)]
      have kb : Blk w' fb _ _ := k0.ext (x1.trans xw)
      have hc' := ((hc.ext x0).ext x1).ext xw
      have c1 := hc' _ hjk
      have c2 := hc' _ hlow
      have hstep := lowL_take h (nearN R C i) i (k := k) (by omega)
      generalize (nearN R C i).getD k 0 = j at *
      generalize lowL h ((nearN R C i).take k) i = m at *
      simp (disch := omega) only [go_sem, Nat.reduceEqDiff, ↓reduceIte, a2, a5, a11, a12, a13, hlt, g0]
      refine QR_of (by kernel_rfl) (by kernel_rfl) ?_
      by_cases hh : h j < h m
      · rw [if_pos hh] at hstep
        simp (disch := omega) only [go_sem, Nat.reduceEqDiff, ↓reduceIte, Nat.reduceAdd, a2, a5, a13, kb.cell, Value.cells, c1, c2, hh]
        exact fun w2 x2 => ⟨by omega, by simp [upd_apply, a2], by simp [upd_apply, hstep], by simp [upd_apply, a11], by simp [upd_apply, a12], by simp [upd_apply], xw.trans x2⟩
      · rw [if_neg hh] at hstep
        simp (disch := omega) only [go_sem, Nat.reduceEqDiff, ↓reduceIte, Nat.reduceAdd, a2, a5, a13, kb.cell, Value.cells, c1, c2, hh]
        exact fun w2 x2 => ⟨by omega, by simp [upd_apply, a2], by simp [upd_apply, hstep, a5], by simp [upd_apply, a11], by simp [upd_apply, a12], by simp [upd_apply], xw.trans x2⟩
    · obtain rfl : k = (nearN R C i).length := by omega
      simp (disch := omega) only [go_sem, Nat.reduceEqDiff, ↓reduceIte, a5, a12, a13, hlt, List.take_length, Try.results88]
      exact ⟨rfl, (x0.trans x1).trans xw⟩

/-- What the iterator reads. -/
def RunIn (W : World) (R C cb ib fb i : Nat) (h : Nat → Int) : Prop :=
  Blk W ib #[.int .i64 i] 3 ∧ Blk W fb #[.int .i64 R, .int .i64 C, .slice (some ⟨cb, 0, none⟩) (R * C) (R * C)] 51 ∧ CellsAt W cb (R * C) h

end Go.Proofs.Ytlnodngkacbfkaa
