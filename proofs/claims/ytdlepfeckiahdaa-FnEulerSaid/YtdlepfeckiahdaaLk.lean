/- Contracts: the cells around a cell, and the border, both sides. -/
import Derived.Test.YtdlepfeckiahdaaM8
import Derived.Test.YtdlepfeckiahdaaWy
import Derived.Test.YtdlepfeckiahdaaJ2
set_option linter.all false
namespace Go.SW
theorem arCell_km {R C q c k m : Nat} (hm : m < 3) : arCell R C q c (3 * k + m) = if ¬ (k = 1 ∧ m = 1) ∧ 1 ≤ q + k ∧ q + k ≤ R ∧ 1 ≤ c + m ∧ c + m ≤ C then [(q + k - 1) * C + (c + m - 1)] else [] := by
  have e1 : (3 * k + m) / 3 = k := by omega
  have e2 : (3 * k + m) % 3 = m := by omega
  simp only [arCell, e1, e2]
  by_cases h : k = 1 ∧ m = 1
  · rw [if_neg (fun h' => by omega), if_neg (fun h' => h'.1 h)]
  · have : (3 * k + m ≠ 4) ↔ ¬ (k = 1 ∧ m = 1) := by omega
    simp only [this]
end Go.SW
namespace Go.Proofs.Ytdlepfeckiahdaa
open Go.RowKit Go.SW

theorem around_c (R C i : Nat) (x : Option Addr) (n cc : Nat) (w : World) (hR7 : R ≤ 7) (hC7 : C ≤ 7) (hi : i < R * C) :
    Ret Try.prog 101 #[.agg #[.int .i64 R, .int .i64 C, .slice x n cc], .int .i64 i] w fun v w' => ∃ a c, v = .slice a (aroundN R C i).length c ∧ OwnS w' 3 1 a (aroundN R C i).length c (vi (ni (aroundN R C i))) ∧ (∀ b, blk a = some b → w.heap.size ≤ b) ∧ Ext w w' := by
  have hC : 0 < C := Nat.pos_of_ne_zero fun e => by subst e; simp at hi
  have hRC : R * C ≤ 7 * 7 := Nat.mul_le_mul hR7 hC7
  have hm : i % C < C := Nat.mod_lt _ hC
  have hq : i / C < R := Nat.div_lt_of_lt_mul (by rw [Nat.mul_comm]; exact hi)
  have m1 : (i : Int) / (C : Int) = ((i / C : Nat) : Int) := rfl
  have m2 : (i : Int) % (C : Int) = ((i % C : Nat) : Int) := rfl
  refine enter2 Try.func101 rfl (by kernel_rfl) (of_decide_eq_true (by kernel_rfl)) fun f a0 a1 => ?_
  simp only [go_sem, Nat.reduceEqDiff, ↓reduceIte, a0]
  refine boxK_of fun w0 fb eb x0 k0 _ => ?_
  have s0 := x0.size
  have k0 : Blk w0 fb #[.int .i64 R, .int .i64 C, .slice x n cc] 45 := by simpa [Value.cells] using k0
  simp (disch := omega) only [go_sem, Nat.reduceEqDiff, ↓reduceIte, Nat.reduceAdd, a1]
  refine QR_of (by kernel_rfl) (by kernel_rfl) ?_
  simp (disch := omega) only [go_sem, Nat.reduceEqDiff, ↓reduceIte, Nat.reduceAdd, a1, k0.cell, Value.cells, m1, m2]
  intro w00 x00
  generalize hq' : i / C = q at *
  generalize hc' : i % C = c at *
  refine mksK_of elt_i 0 8 _ _ _ _ rfl rfl (by omega) (by omega) (by simp [maxLen]) fun w1 b1 eb1 x1 o1 _ => ?_
  have x01 := x00.trans x1
  have s00 := x00.size
  have o1 : OwnS w1 3 1 (some ⟨b1, 0, none⟩) 0 8 (vi (ni [])) := by simpa [vi, ni] using o1
  simp (disch := omega) only [go_sem, Nat.reduceEqDiff, ↓reduceIte, Nat.reduceAdd]
  refine loopN 3 (fun k f W => f 2 = .pointer (some ⟨fb, 0, none⟩) ∧ f 5 = .int .i64 q ∧ f 6 = .int .i64 c ∧ f 8 = .int .i64 ((k : Int) - 1) ∧ Ext w0 W ∧ ∃ a cp, f 7 = .slice a (aroundTo R C i (3 * k)).length cp ∧ OwnS W 3 1 a (aroundTo R C i (3 * k)).length cp (vi (ni (aroundTo R C i (3 * k)))) ∧ ∀ b, blk a = some b → w0.heap.size ≤ b) ⟨(by first | assumption | (simp only [upd_apply, Nat.reduceEqDiff, ↓reduceIte] <;> first | rfl | assumption) | simp [upd_apply, *]), (by first | assumption | (simp only [upd_apply, Nat.reduceEqDiff, ↓reduceIte] <;> first | rfl | assumption) | simp [upd_apply, *]), (by first | assumption | (simp only [upd_apply, Nat.reduceEqDiff, ↓reduceIte] <;> first | rfl | assumption) | simp [upd_apply, *]), by simp [upd_apply], x01, _, _, (by first | assumption | (simp only [upd_apply, Nat.reduceEqDiff, ↓reduceIte] <;> first | rfl | assumption) | simp [upd_apply, *]), by simpa [aroundTo] using o1, fun b hb => by simp [blk] at hb; omega⟩ fun k f W hk ⟨a2, a5, a6, a8, xW, a, cp, a7, oW, fW⟩ => ?_
  by_cases hlt : (k : Int) - 1 ≤ 1
  · simp (disch := omega) only [go_sem, Nat.reduceEqDiff, ↓reduceIte, Nat.reduceAdd, a8, hlt]
    refine loopN 3 (fun m f W => f 2 = .pointer (some ⟨fb, 0, none⟩) ∧ f 5 = .int .i64 q ∧ f 6 = .int .i64 c ∧ f 8 = .int .i64 ((k : Int) - 1) ∧ f 9 = .int .i64 ((m : Int) - 1) ∧ Ext w0 W ∧ ∃ a cp, f 7 = .slice a (aroundTo R C i (3 * k + m)).length cp ∧ OwnS W 3 1 a (aroundTo R C i (3 * k + m)).length cp (vi (ni (aroundTo R C i (3 * k + m)))) ∧ ∀ b, blk a = some b → w0.heap.size ≤ b) ⟨(by first | assumption | (simp only [upd_apply, Nat.reduceEqDiff, ↓reduceIte] <;> first | rfl | assumption) | simp [upd_apply, *]), (by first | assumption | (simp only [upd_apply, Nat.reduceEqDiff, ↓reduceIte] <;> first | rfl | assumption) | simp [upd_apply, *]), (by first | assumption | (simp only [upd_apply, Nat.reduceEqDiff, ↓reduceIte] <;> first | rfl | assumption) | simp [upd_apply, *]), (by first | assumption | (simp only [upd_apply, Nat.reduceEqDiff, ↓reduceIte] <;> first | rfl | assumption) | simp [upd_apply, *]), by simp [upd_apply], xW, _, _, (by first | assumption | (simp only [upd_apply, Nat.reduceEqDiff, ↓reduceIte] <;> first | rfl | assumption) | simp [upd_apply, *]), oW, fW⟩ fun m f W hm' ⟨a2, a5, a6, a8, a9, xW, a, cp, a7, oW, fW⟩ => ?_
    by_cases hlm : (m : Int) - 1 ≤ 1
    · have kW := k0.ext xW
      have hstep : aroundTo R C i (3 * k + (m + 1)) = aroundTo R C i (3 * k + m) ++ arCell R C q c (3 * k + m) := by rw [← hq', ← hc']; rfl
      rw [arCell_km (by omega)] at hstep
      have hlen := aroundTo_len R C i (3 * k + m)
      by_cases hmid : k = 1 ∧ m = 1
      · have h1 : (((k : Int) - 1) != 0) = false := by simp [hmid.1]
        have h2 : (((m : Int) - 1) != 0) = false := by simp [hmid.2]
        rw [if_neg (fun h => h.1 hmid), List.append_nil] at hstep
        simp (disch := omega) only [go_sem, Nat.reduceEqDiff, ↓reduceIte, Nat.reduceAdd, a8, a9, hlm, h1, h2]
        exact ⟨by first | trivial | omega, (by first | assumption | (simp only [upd_apply, Nat.reduceEqDiff, ↓reduceIte] <;> first | rfl | assumption) | simp [upd_apply, *]), (by first | assumption | (simp only [upd_apply, Nat.reduceEqDiff, ↓reduceIte] <;> first | rfl | assumption) | simp [upd_apply, *]), (by first | assumption | (simp only [upd_apply, Nat.reduceEqDiff, ↓reduceIte] <;> first | rfl | assumption) | simp [upd_apply, *]), (by first | assumption | (simp only [upd_apply, Nat.reduceEqDiff, ↓reduceIte] <;> first | rfl | assumption) | simp [upd_apply, *]), by simp [upd_apply], xW, a, cp, by rw [hstep]; exact (by first | assumption | (simp only [upd_apply, Nat.reduceEqDiff, ↓reduceIte] <;> first | rfl | assumption) | simp [upd_apply, *]), by rw [hstep]; exact oW, fW⟩
      · have hne : (((k : Int) - 1) != 0) = true ∨ ((((k : Int) - 1) != 0) = false ∧ (((m : Int) - 1) != 0) = true) := by
          by_cases h1 : k = 1
          · exact .inr ⟨by simp [h1], by simp; omega⟩
          · exact .inl (by simp; omega)
        by_cases hin : 1 ≤ q + k ∧ q + k ≤ R ∧ 1 ≤ c + m ∧ c + m ≤ C
        · rw [if_pos ⟨hmid, hin⟩] at hstep
          have hdec : decide (0 ≤ (q : Int) + ((k : Int) - 1) ∧ (q : Int) + ((k : Int) - 1) < R ∧ 0 ≤ (c : Int) + ((m : Int) - 1) ∧ (c : Int) + ((m : Int) - 1) < C) = true := by
            rw [decide_eq_true_eq]; omega
          have e1 : (q : Int) + ((k : Int) - 1) = ((q + k - 1 : Nat) : Int) := by omega
          have e2 : (c : Int) + ((m : Int) - 1) = ((c + m - 1 : Nat) : Int) := by omega
          have hlc : (q + k - 1) * C + (c + m - 1) < R * C := corner_ltN (by omega) (by omega)
          rcases hne with hne | ⟨hne1, hne⟩
          · simp (disch := omega) only [go_sem, Nat.reduceEqDiff, ↓reduceIte, Nat.reduceAdd, a2, a5, a6, a8, a9, hlm, hne, readCells_blk kW (n := 3) (by simp)]
            refine callK_of (by kernel_rfl) (has_c _ _ _ _ _ _) ?_
            rintro _ W1 ⟨rfl, y1⟩
            simp (disch := omega) only [go_sem, Nat.reduceEqDiff, ↓reduceIte, Nat.reduceAdd, a2, a5, a6, a7, a8, a9, hdec, readCells_blk (kW.ext y1) (n := 3) (by simp)]
            simp only [e1, e2]
            refine callK_of (by kernel_rfl) (index_c _ C _ _ _ (q + k - 1) (c + m - 1) _ (by omega) (by omega) (by omega)) ?_
            rintro _ W2 ⟨rfl, y2⟩
            simp (disch := omega) only [go_sem, Nat.reduceEqDiff, ↓reduceIte, Nat.reduceAdd]
            refine bslK_1 elt_i rfl fun W3 b3 e3 y3 k3 _ => ?_
            simp (disch := omega) only [go_sem, Nat.reduceEqDiff, ↓reduceIte, Nat.reduceAdd, a7]
            refine appK_1 elt_i ((oW.ext (y1.trans y2)).ext y3) k3 rfl (by omega) (.inl (by decide)) fun W4 a4 c4 o4 g4 h4 => ?_
            have yy := (y1.trans y2).trans y3
            have sy := yy.size
            have sW := xW.size
            simp (disch := omega) only [go_sem, Nat.reduceEqDiff, ↓reduceIte, Nat.reduceAdd, a9]
            refine ⟨by omega, (by first | assumption | (simp only [upd_apply, Nat.reduceEqDiff, ↓reduceIte] <;> first | rfl | assumption) | simp [upd_apply, *]), (by first | assumption | (simp only [upd_apply, Nat.reduceEqDiff, ↓reduceIte] <;> first | rfl | assumption) | simp [upd_apply, *]), (by first | assumption | (simp only [upd_apply, Nat.reduceEqDiff, ↓reduceIte] <;> first | rfl | assumption) | simp [upd_apply, *]), (by first | assumption | (simp only [upd_apply, Nat.reduceEqDiff, ↓reduceIte] <;> first | rfl | assumption) | simp [upd_apply, *]), by simp [upd_apply], g4.ext (xW.trans yy) fW, a4, c4, ?_, ?_, fun b hb => ?_⟩
            · rw [hstep]; simp [upd_apply]
            · rw [hstep, ← vi_ni_snoc _ _ _ rfl]; simpa using o4
            · rcases h4 b hb with h | h
              · exact fW b h
              · omega
          · simp (disch := omega) only [go_sem, Nat.reduceEqDiff, ↓reduceIte, Nat.reduceAdd, a2, a5, a6, a8, a9, hlm, hne1, hne, readCells_blk kW (n := 3) (by simp)]
            refine callK_of (by kernel_rfl) (has_c _ _ _ _ _ _) ?_
            rintro _ W1 ⟨rfl, y1⟩
            simp (disch := omega) only [go_sem, Nat.reduceEqDiff, ↓reduceIte, Nat.reduceAdd, a2, a5, a6, a7, a8, a9, hdec, readCells_blk (kW.ext y1) (n := 3) (by simp)]
            simp only [e1, e2]
            refine callK_of (by kernel_rfl) (index_c _ C _ _ _ (q + k - 1) (c + m - 1) _ (by omega) (by omega) (by omega)) ?_
            rintro _ W2 ⟨rfl, y2⟩
            simp (disch := omega) only [go_sem, Nat.reduceEqDiff, ↓reduceIte, Nat.reduceAdd]
            refine bslK_1 elt_i rfl fun W3 b3 e3 y3 k3 _ => ?_
            simp (disch := omega) only [go_sem, Nat.reduceEqDiff, ↓reduceIte, Nat.reduceAdd, a7]
            refine appK_1 elt_i ((oW.ext (y1.trans y2)).ext y3) k3 rfl (by omega) (.inl (by decide)) fun W4 a4 c4 o4 g4 h4 => ?_
            have yy := (y1.trans y2).trans y3
            have sy := yy.size
            have sW := xW.size
            simp (disch := omega) only [go_sem, Nat.reduceEqDiff, ↓reduceIte, Nat.reduceAdd, a9]
            refine ⟨by omega, (by first | assumption | (simp only [upd_apply, Nat.reduceEqDiff, ↓reduceIte] <;> first | rfl | assumption) | simp [upd_apply, *]), (by first | assumption | (simp only [upd_apply, Nat.reduceEqDiff, ↓reduceIte] <;> first | rfl | assumption) | simp [upd_apply, *]), (by first | assumption | (simp only [upd_apply, Nat.reduceEqDiff, ↓reduceIte] <;> first | rfl | assumption) | simp [upd_apply, *]), (by first | assumption | (simp only [upd_apply, Nat.reduceEqDiff, ↓reduceIte] <;> first | rfl | assumption) | simp [upd_apply, *]), by simp [upd_apply], g4.ext (xW.trans yy) fW, a4, c4, ?_, ?_, fun b hb => ?_⟩
            · rw [hstep]; simp [upd_apply]
            · rw [hstep, ← vi_ni_snoc _ _ _ rfl]; simpa using o4
            · rcases h4 b hb with h | h
              · exact fW b h
              · omega
        · rw [if_neg (fun h => hin h.2), List.append_nil] at hstep
          have hdec : decide (0 ≤ (q : Int) + ((k : Int) - 1) ∧ (q : Int) + ((k : Int) - 1) < R ∧ 0 ≤ (c : Int) + ((m : Int) - 1) ∧ (c : Int) + ((m : Int) - 1) < C) = false := by
            rw [decide_eq_false_iff_not]; omega
          rcases hne with hne | ⟨hne1, hne⟩
          · simp (disch := omega) only [go_sem, Nat.reduceEqDiff, ↓reduceIte, Nat.reduceAdd, a2, a5, a6, a8, a9, hlm, hne, readCells_blk kW (n := 3) (by simp)]
            refine callK_of (by kernel_rfl) (has_c _ _ _ _ _ _) ?_
            rintro _ W1 ⟨rfl, y1⟩
            simp (disch := omega) only [go_sem, Nat.reduceEqDiff, ↓reduceIte, Nat.reduceAdd, a9, hdec]
            exact ⟨by omega, (by first | assumption | (simp only [upd_apply, Nat.reduceEqDiff, ↓reduceIte] <;> first | rfl | assumption) | simp [upd_apply, *]), (by first | assumption | (simp only [upd_apply, Nat.reduceEqDiff, ↓reduceIte] <;> first | rfl | assumption) | simp [upd_apply, *]), (by first | assumption | (simp only [upd_apply, Nat.reduceEqDiff, ↓reduceIte] <;> first | rfl | assumption) | simp [upd_apply, *]), (by first | assumption | (simp only [upd_apply, Nat.reduceEqDiff, ↓reduceIte] <;> first | rfl | assumption) | simp [upd_apply, *]), by simp [upd_apply], xW.trans y1, a, cp, by rw [hstep]; exact (by first | assumption | (simp only [upd_apply, Nat.reduceEqDiff, ↓reduceIte] <;> first | rfl | assumption) | simp [upd_apply, *]), by rw [hstep]; exact oW.ext y1, fW⟩
          · simp (disch := omega) only [go_sem, Nat.reduceEqDiff, ↓reduceIte, Nat.reduceAdd, a2, a5, a6, a8, a9, hlm, hne1, hne, readCells_blk kW (n := 3) (by simp)]
            refine callK_of (by kernel_rfl) (has_c _ _ _ _ _ _) ?_
            rintro _ W1 ⟨rfl, y1⟩
            simp (disch := omega) only [go_sem, Nat.reduceEqDiff, ↓reduceIte, Nat.reduceAdd, a9, hdec]
            exact ⟨by omega, (by first | assumption | (simp only [upd_apply, Nat.reduceEqDiff, ↓reduceIte] <;> first | rfl | assumption) | simp [upd_apply, *]), (by first | assumption | (simp only [upd_apply, Nat.reduceEqDiff, ↓reduceIte] <;> first | rfl | assumption) | simp [upd_apply, *]), (by first | assumption | (simp only [upd_apply, Nat.reduceEqDiff, ↓reduceIte] <;> first | rfl | assumption) | simp [upd_apply, *]), (by first | assumption | (simp only [upd_apply, Nat.reduceEqDiff, ↓reduceIte] <;> first | rfl | assumption) | simp [upd_apply, *]), by simp [upd_apply], xW.trans y1, a, cp, by rw [hstep]; exact (by first | assumption | (simp only [upd_apply, Nat.reduceEqDiff, ↓reduceIte] <;> first | rfl | assumption) | simp [upd_apply, *]), by rw [hstep]; exact oW.ext y1, fW⟩
    · obtain rfl : m = 3 := by omega
      simp (disch := omega) only [go_sem, Nat.reduceEqDiff, ↓reduceIte, Nat.reduceAdd, a8, a9, hlm]
      exact ⟨by omega, (by first | assumption | (simp only [upd_apply, Nat.reduceEqDiff, ↓reduceIte] <;> first | rfl | assumption) | simp [upd_apply, *]), (by first | assumption | (simp only [upd_apply, Nat.reduceEqDiff, ↓reduceIte] <;> first | rfl | assumption) | simp [upd_apply, *]), (by first | assumption | (simp only [upd_apply, Nat.reduceEqDiff, ↓reduceIte] <;> first | rfl | assumption) | simp [upd_apply, *]), by simp [upd_apply], xW, a, cp, (by first | assumption | (simp only [upd_apply, Nat.reduceEqDiff, ↓reduceIte] <;> first | rfl | assumption) | simp [upd_apply, *]), oW, fW⟩
  · obtain rfl : k = 3 := by omega
    simp (disch := omega) only [go_sem, Nat.reduceEqDiff, ↓reduceIte, Nat.reduceAdd, a7, a8, hlt, Try.results101]
    exact ⟨a, cp, rfl, oW, fun b hb => by have := fW b hb; omega, x0.trans xW⟩

theorem l3Around_c (gb go gc : Nat) (rb ro rc : Nat → Nat) (R C : Nat) (h : Nat → Int) (w : World) (hg : GridAt w gb go rb ro rc R C h) (hR7 : R ≤ 7) (hC7 : C ≤ 7) (i : Nat) (hi : i < R * C) :
    Ret Try.prog 84 #[.slice (some ⟨gb, go, none⟩) R gc, .int .i64 i] w fun v w' => ∃ a c, v = .slice a (aroundN R C i).length c ∧ OwnS w' 3 1 a (aroundN R C i).length c (vi (ni (aroundN R C i))) ∧ (∀ b, blk a = some b → w.heap.size ≤ b) ∧ Ext w w' := by
  have hC : 0 < C := Nat.pos_of_ne_zero fun e => by subst e; simp at hi
  have hR : 0 < R := Nat.pos_of_ne_zero fun e => by subst e; simp at hi
  have hRC : R * C ≤ 7 * 7 := Nat.mul_le_mul hR7 hC7
  have hm : i % C < C := Nat.mod_lt _ hC
  have hq : i / C < R := Nat.div_lt_of_lt_mul (by rw [Nat.mul_comm]; exact hi)
  have m1 : (i : Int) / (C : Int) = ((i / C : Nat) : Int) := rfl
  have m2 : (i : Int) % (C : Int) = ((i % C : Nat) : Int) := rfl
  refine enter2 Try.func84 rfl (by kernel_rfl) (of_decide_eq_true (by kernel_rfl)) fun f a0 a1 => ?_
  simp (disch := omega) only [go_sem, Nat.reduceEqDiff, ↓reduceIte, Nat.reduceAdd, a0, a1]
  refine bslK_0 elt_i fun w1 b1 eb x1 o1 _ => ?_
  have s1 := x1.size
  have g0 := (hg.ext x1).row 0 (by omega)
  simp only [Nat.add_zero] at g0
  have o1 : OwnS w1 3 1 (some ⟨b1, 0, none⟩) 0 0 (vi (ni [])) := by simpa [vi, ni] using o1
  simp (disch := omega) only [go_sem, Nat.reduceEqDiff, ↓reduceIte, Nat.reduceAdd, a0, a1, g0]
  generalize hq' : i / C = q at *
  generalize hc' : i % C = c at *
  refine loopN 3 (fun k f W => f 0 = .slice (some ⟨gb, go, none⟩) R gc ∧ f 1 = .int .i64 i ∧ f 6 = .int .i64 C ∧ f 7 = .int .i64 ((k : Int) - 1) ∧ Ext w W ∧ ∃ a cp, f 5 = .slice a (aroundTo R C i (3 * k)).length cp ∧ OwnS W 3 1 a (aroundTo R C i (3 * k)).length cp (vi (ni (aroundTo R C i (3 * k)))) ∧ ∀ b, blk a = some b → w.heap.size ≤ b) ⟨(by first | assumption | (simp only [upd_apply, Nat.reduceEqDiff, ↓reduceIte] <;> first | rfl | assumption) | simp [upd_apply, *]), (by first | assumption | (simp only [upd_apply, Nat.reduceEqDiff, ↓reduceIte] <;> first | rfl | assumption) | simp [upd_apply, *]), (by first | assumption | (simp only [upd_apply, Nat.reduceEqDiff, ↓reduceIte] <;> first | rfl | assumption) | simp [upd_apply, *]), by simp [upd_apply], x1, _, _, (by first | assumption | (simp only [upd_apply, Nat.reduceEqDiff, ↓reduceIte] <;> first | rfl | assumption) | simp [upd_apply, *]), by simpa [aroundTo] using o1, fun b hb => by simp [blk] at hb; omega⟩ fun k f W hk ⟨a0, a1, a6, a7, xW, a, cp, a5, oW, fW⟩ => ?_
  by_cases hlt : (k : Int) - 1 ≤ 1
  · simp (disch := omega) only [go_sem, Nat.reduceEqDiff, ↓reduceIte, Nat.reduceAdd, a7, hlt]
    refine loopN 3 (fun m f W => f 0 = .slice (some ⟨gb, go, none⟩) R gc ∧ f 1 = .int .i64 i ∧ f 6 = .int .i64 C ∧ f 7 = .int .i64 ((k : Int) - 1) ∧ f 8 = .int .i64 ((m : Int) - 1) ∧ Ext w W ∧ ∃ a cp, f 5 = .slice a (aroundTo R C i (3 * k + m)).length cp ∧ OwnS W 3 1 a (aroundTo R C i (3 * k + m)).length cp (vi (ni (aroundTo R C i (3 * k + m)))) ∧ ∀ b, blk a = some b → w.heap.size ≤ b) ⟨(by first | assumption | (simp only [upd_apply, Nat.reduceEqDiff, ↓reduceIte] <;> first | rfl | assumption) | simp [upd_apply, *]), (by first | assumption | (simp only [upd_apply, Nat.reduceEqDiff, ↓reduceIte] <;> first | rfl | assumption) | simp [upd_apply, *]), (by first | assumption | (simp only [upd_apply, Nat.reduceEqDiff, ↓reduceIte] <;> first | rfl | assumption) | simp [upd_apply, *]), (by first | assumption | (simp only [upd_apply, Nat.reduceEqDiff, ↓reduceIte] <;> first | rfl | assumption) | simp [upd_apply, *]), by simp [upd_apply], xW, _, _, (by first | assumption | (simp only [upd_apply, Nat.reduceEqDiff, ↓reduceIte] <;> first | rfl | assumption) | simp [upd_apply, *]), oW, fW⟩ fun m f W hm' ⟨a0, a1, a6, a7, a8, xW, a, cp, a5, oW, fW⟩ => ?_
    by_cases hlm : (m : Int) - 1 ≤ 1
    · have hstep : aroundTo R C i (3 * k + (m + 1)) = aroundTo R C i (3 * k + m) ++ arCell R C q c (3 * k + m) := by rw [← hq', ← hc']; rfl
      rw [arCell_km (by omega)] at hstep
      have hlen := aroundTo_len R C i (3 * k + m)
      have hCn : ¬ (C : Int) = 0 := by omega
      by_cases hmid : k = 1 ∧ m = 1
      · have h1 : (((k : Int) - 1) != 0) = false := by simp [hmid.1]
        have h2 : (((m : Int) - 1) != 0) = false := by simp [hmid.2]
        rw [if_neg (fun h => h.1 hmid), List.append_nil] at hstep
        simp (disch := omega) only [go_sem, Nat.reduceEqDiff, ↓reduceIte, Nat.reduceAdd, a0, a1, a6, a7, a8, hlm, h1, h2, m1, m2]
        exact ⟨by first | trivial | omega, (by first | assumption | (simp only [upd_apply, Nat.reduceEqDiff, ↓reduceIte] <;> first | rfl | assumption) | simp [upd_apply, *]), (by first | assumption | (simp only [upd_apply, Nat.reduceEqDiff, ↓reduceIte] <;> first | rfl | assumption) | simp [upd_apply, *]), (by first | assumption | (simp only [upd_apply, Nat.reduceEqDiff, ↓reduceIte] <;> first | rfl | assumption) | simp [upd_apply, *]), (by first | assumption | (simp only [upd_apply, Nat.reduceEqDiff, ↓reduceIte] <;> first | rfl | assumption) | simp [upd_apply, *]), by simp [upd_apply], xW, a, cp, by rw [hstep]; exact (by first | assumption | (simp only [upd_apply, Nat.reduceEqDiff, ↓reduceIte] <;> first | rfl | assumption) | simp [upd_apply, *]), by rw [hstep]; exact oW, fW⟩
      · have hne : (((k : Int) - 1) != 0) = true ∨ ((((k : Int) - 1) != 0) = false ∧ (((m : Int) - 1) != 0) = true) := by
          by_cases h1 : k = 1
          · exact .inr ⟨by simp [h1], by simp; omega⟩
          · exact .inl (by simp; omega)
        by_cases hin : 1 ≤ q + k ∧ q + k ≤ R ∧ 1 ≤ c + m ∧ c + m ≤ C
        · rw [if_pos ⟨hmid, hin⟩] at hstep
          have e1 : (q : Int) + ((k : Int) - 1) = ((q + k - 1 : Nat) : Int) := by omega
          have e2 : (c : Int) + ((m : Int) - 1) = ((c + m - 1 : Nat) : Int) := by omega
          have f1 : (0 : Int) ≤ ((q + k - 1 : Nat) : Int) := by omega
          have f2 : ((q + k - 1 : Nat) : Int) < (R : Int) := by omega
          have f3 : (0 : Int) ≤ ((c + m - 1 : Nat) : Int) := by omega
          have f4 : ((c + m - 1 : Nat) : Int) < (C : Int) := by omega
          have e3 : ((q + k - 1 : Nat) : Int) * (C : Int) = (((q + k - 1) * C : Nat) : Int) := by simp
          have hlc : (q + k - 1) * C + (c + m - 1) < R * C := corner_ltN (by omega) (by omega)
          rcases hne with hne | ⟨hne1, hne⟩
          · simp (disch := omega) only [go_sem, Nat.reduceEqDiff, ↓reduceIte, Nat.reduceAdd, a0, a1, a6, a7, a8, hlm, hne, m1, m2, e1, e2, e3, f1, f2, f3, f4]
            refine bslK_1 elt_i rfl fun W3 b3 e3' y3 k3 _ => ?_
            simp (disch := omega) only [go_sem, Nat.reduceEqDiff, ↓reduceIte, Nat.reduceAdd, a5]
            refine appK_1 elt_i (oW.ext y3) k3 rfl (by omega) (.inl (by decide)) fun W4 a4 c4 o4 g4 h4 => ?_
            have sy := y3.size
            have sW := xW.size
            simp (disch := omega) only [go_sem, Nat.reduceEqDiff, ↓reduceIte, Nat.reduceAdd, a8]
            refine ⟨by omega, (by first | assumption | (simp only [upd_apply, Nat.reduceEqDiff, ↓reduceIte] <;> first | rfl | assumption) | simp [upd_apply, *]), (by first | assumption | (simp only [upd_apply, Nat.reduceEqDiff, ↓reduceIte] <;> first | rfl | assumption) | simp [upd_apply, *]), (by first | assumption | (simp only [upd_apply, Nat.reduceEqDiff, ↓reduceIte] <;> first | rfl | assumption) | simp [upd_apply, *]), (by first | assumption | (simp only [upd_apply, Nat.reduceEqDiff, ↓reduceIte] <;> first | rfl | assumption) | simp [upd_apply, *]), by simp [upd_apply], g4.ext (xW.trans y3) fW, a4, c4, ?_, ?_, fun b hb => ?_⟩
            · rw [hstep]; simp [upd_apply]
            · rw [hstep, ← vi_ni_snoc _ _ (((((q + k - 1) * C : Nat) : Int) + ((c + m - 1 : Nat) : Int))) (by simp)]; simpa using o4
            · rcases h4 b hb with h | h
              · exact fW b h
              · omega
          · simp (disch := omega) only [go_sem, Nat.reduceEqDiff, ↓reduceIte, Nat.reduceAdd, a0, a1, a6, a7, a8, hlm, hne1, hne, m1, m2, e1, e2, e3, f1, f2, f3, f4]
            refine bslK_1 elt_i rfl fun W3 b3 e3' y3 k3 _ => ?_
            simp (disch := omega) only [go_sem, Nat.reduceEqDiff, ↓reduceIte, Nat.reduceAdd, a5]
            refine appK_1 elt_i (oW.ext y3) k3 rfl (by omega) (.inl (by decide)) fun W4 a4 c4 o4 g4 h4 => ?_
            have sy := y3.size
            have sW := xW.size
            simp (disch := omega) only [go_sem, Nat.reduceEqDiff, ↓reduceIte, Nat.reduceAdd, a8]
            refine ⟨by omega, (by first | assumption | (simp only [upd_apply, Nat.reduceEqDiff, ↓reduceIte] <;> first | rfl | assumption) | simp [upd_apply, *]), (by first | assumption | (simp only [upd_apply, Nat.reduceEqDiff, ↓reduceIte] <;> first | rfl | assumption) | simp [upd_apply, *]), (by first | assumption | (simp only [upd_apply, Nat.reduceEqDiff, ↓reduceIte] <;> first | rfl | assumption) | simp [upd_apply, *]), (by first | assumption | (simp only [upd_apply, Nat.reduceEqDiff, ↓reduceIte] <;> first | rfl | assumption) | simp [upd_apply, *]), by simp [upd_apply], g4.ext (xW.trans y3) fW, a4, c4, ?_, ?_, fun b hb => ?_⟩
            · rw [hstep]; simp [upd_apply]
            · rw [hstep, ← vi_ni_snoc _ _ (((((q + k - 1) * C : Nat) : Int) + ((c + m - 1 : Nat) : Int))) (by simp)]; simpa using o4
            · rcases h4 b hb with h | h
              · exact fW b h
              · omega
        · rw [if_neg (fun h => hin h.2), List.append_nil] at hstep
          have hcs : (¬ (0 : Int) ≤ (q : Int) + ((k : Int) - 1)) ∨ ((0 : Int) ≤ (q : Int) + ((k : Int) - 1) ∧ ¬ (q : Int) + ((k : Int) - 1) < (R : Int)) ∨ ((0 : Int) ≤ (q : Int) + ((k : Int) - 1) ∧ (q : Int) + ((k : Int) - 1) < (R : Int) ∧ ¬ (0 : Int) ≤ (c : Int) + ((m : Int) - 1)) ∨ ((0 : Int) ≤ (q : Int) + ((k : Int) - 1) ∧ (q : Int) + ((k : Int) - 1) < (R : Int) ∧ (0 : Int) ≤ (c : Int) + ((m : Int) - 1) ∧ ¬ (c : Int) + ((m : Int) - 1) < (C : Int)) := by omega
          rcases hne with hne | ⟨hne1, hne⟩
          · rcases hcs with z1 | ⟨z1, z2⟩ | ⟨z1, z2, z3⟩ | ⟨z1, z2, z3, z4⟩
            · simp (disch := omega) only [go_sem, Nat.reduceEqDiff, ↓reduceIte, Nat.reduceAdd, a0, a1, a6, a7, a8, hlm, hne, m1, m2, z1]
              exact ⟨by first | trivial | omega, (by first | assumption | (simp only [upd_apply, Nat.reduceEqDiff, ↓reduceIte] <;> first | rfl | assumption) | simp [upd_apply, *]), (by first | assumption | (simp only [upd_apply, Nat.reduceEqDiff, ↓reduceIte] <;> first | rfl | assumption) | simp [upd_apply, *]), (by first | assumption | (simp only [upd_apply, Nat.reduceEqDiff, ↓reduceIte] <;> first | rfl | assumption) | simp [upd_apply, *]), (by first | assumption | (simp only [upd_apply, Nat.reduceEqDiff, ↓reduceIte] <;> first | rfl | assumption) | simp [upd_apply, *]), by simp [upd_apply], xW, a, cp, by rw [hstep]; exact (by first | assumption | (simp only [upd_apply, Nat.reduceEqDiff, ↓reduceIte] <;> first | rfl | assumption) | simp [upd_apply, *]), by rw [hstep]; exact oW, fW⟩
            · simp (disch := omega) only [go_sem, Nat.reduceEqDiff, ↓reduceIte, Nat.reduceAdd, a0, a1, a6, a7, a8, hlm, hne, m1, m2, z1, z2]
              exact ⟨by first | trivial | omega, (by first | assumption | (simp only [upd_apply, Nat.reduceEqDiff, ↓reduceIte] <;> first | rfl | assumption) | simp [upd_apply, *]), (by first | assumption | (simp only [upd_apply, Nat.reduceEqDiff, ↓reduceIte] <;> first | rfl | assumption) | simp [upd_apply, *]), (by first | assumption | (simp only [upd_apply, Nat.reduceEqDiff, ↓reduceIte] <;> first | rfl | assumption) | simp [upd_apply, *]), (by first | assumption | (simp only [upd_apply, Nat.reduceEqDiff, ↓reduceIte] <;> first | rfl | assumption) | simp [upd_apply, *]), by simp [upd_apply], xW, a, cp, by rw [hstep]; exact (by first | assumption | (simp only [upd_apply, Nat.reduceEqDiff, ↓reduceIte] <;> first | rfl | assumption) | simp [upd_apply, *]), by rw [hstep]; exact oW, fW⟩
            · simp (disch := omega) only [go_sem, Nat.reduceEqDiff, ↓reduceIte, Nat.reduceAdd, a0, a1, a6, a7, a8, hlm, hne, m1, m2, z1, z2, z3]
              exact ⟨by first | trivial | omega, (by first | assumption | (simp only [upd_apply, Nat.reduceEqDiff, ↓reduceIte] <;> first | rfl | assumption) | simp [upd_apply, *]), (by first | assumption | (simp only [upd_apply, Nat.reduceEqDiff, ↓reduceIte] <;> first | rfl | assumption) | simp [upd_apply, *]), (by first | assumption | (simp only [upd_apply, Nat.reduceEqDiff, ↓reduceIte] <;> first | rfl | assumption) | simp [upd_apply, *]), (by first | assumption | (simp only [upd_apply, Nat.reduceEqDiff, ↓reduceIte] <;> first | rfl | assumption) | simp [upd_apply, *]), by simp [upd_apply], xW, a, cp, by rw [hstep]; exact (by first | assumption | (simp only [upd_apply, Nat.reduceEqDiff, ↓reduceIte] <;> first | rfl | assumption) | simp [upd_apply, *]), by rw [hstep]; exact oW, fW⟩
            · simp (disch := omega) only [go_sem, Nat.reduceEqDiff, ↓reduceIte, Nat.reduceAdd, a0, a1, a6, a7, a8, hlm, hne, m1, m2, z1, z2, z3, z4]
              exact ⟨by first | trivial | omega, (by first | assumption | (simp only [upd_apply, Nat.reduceEqDiff, ↓reduceIte] <;> first | rfl | assumption) | simp [upd_apply, *]), (by first | assumption | (simp only [upd_apply, Nat.reduceEqDiff, ↓reduceIte] <;> first | rfl | assumption) | simp [upd_apply, *]), (by first | assumption | (simp only [upd_apply, Nat.reduceEqDiff, ↓reduceIte] <;> first | rfl | assumption) | simp [upd_apply, *]), (by first | assumption | (simp only [upd_apply, Nat.reduceEqDiff, ↓reduceIte] <;> first | rfl | assumption) | simp [upd_apply, *]), by simp [upd_apply], xW, a, cp, by rw [hstep]; exact (by first | assumption | (simp only [upd_apply, Nat.reduceEqDiff, ↓reduceIte] <;> first | rfl | assumption) | simp [upd_apply, *]), by rw [hstep]; exact oW, fW⟩
          · rcases hcs with z1 | ⟨z1, z2⟩ | ⟨z1, z2, z3⟩ | ⟨z1, z2, z3, z4⟩
            · simp (disch := omega) only [go_sem, Nat.reduceEqDiff, ↓reduceIte, Nat.reduceAdd, a0, a1, a6, a7, a8, hlm, hne1, hne, m1, m2, z1]
              exact ⟨by first | trivial | omega, (by first | assumption | (simp only [upd_apply, Nat.reduceEqDiff, ↓reduceIte] <;> first | rfl | assumption) | simp [upd_apply, *]), (by first | assumption | (simp only [upd_apply, Nat.reduceEqDiff, ↓reduceIte] <;> first | rfl | assumption) | simp [upd_apply, *]), (by first | assumption | (simp only [upd_apply, Nat.reduceEqDiff, ↓reduceIte] <;> first | rfl | assumption) | simp [upd_apply, *]), (by first | assumption | (simp only [upd_apply, Nat.reduceEqDiff, ↓reduceIte] <;> first | rfl | assumption) | simp [upd_apply, *]), by simp [upd_apply], xW, a, cp, by rw [hstep]; exact (by first | assumption | (simp only [upd_apply, Nat.reduceEqDiff, ↓reduceIte] <;> first | rfl | assumption) | simp [upd_apply, *]), by rw [hstep]; exact oW, fW⟩
            · simp (disch := omega) only [go_sem, Nat.reduceEqDiff, ↓reduceIte, Nat.reduceAdd, a0, a1, a6, a7, a8, hlm, hne1, hne, m1, m2, z1, z2]
              exact ⟨by first | trivial | omega, (by first | assumption | (simp only [upd_apply, Nat.reduceEqDiff, ↓reduceIte] <;> first | rfl | assumption) | simp [upd_apply, *]), (by first | assumption | (simp only [upd_apply, Nat.reduceEqDiff, ↓reduceIte] <;> first | rfl | assumption) | simp [upd_apply, *]), (by first | assumption | (simp only [upd_apply, Nat.reduceEqDiff, ↓reduceIte] <;> first | rfl | assumption) | simp [upd_apply, *]), (by first | assumption | (simp only [upd_apply, Nat.reduceEqDiff, ↓reduceIte] <;> first | rfl | assumption) | simp [upd_apply, *]), by simp [upd_apply], xW, a, cp, by rw [hstep]; exact (by first | assumption | (simp only [upd_apply, Nat.reduceEqDiff, ↓reduceIte] <;> first | rfl | assumption) | simp [upd_apply, *]), by rw [hstep]; exact oW, fW⟩
            · simp (disch := omega) only [go_sem, Nat.reduceEqDiff, ↓reduceIte, Nat.reduceAdd, a0, a1, a6, a7, a8, hlm, hne1, hne, m1, m2, z1, z2, z3]
              exact ⟨by first | trivial | omega, (by first | assumption | (simp only [upd_apply, Nat.reduceEqDiff, ↓reduceIte] <;> first | rfl | assumption) | simp [upd_apply, *]), (by first | assumption | (simp only [upd_apply, Nat.reduceEqDiff, ↓reduceIte] <;> first | rfl | assumption) | simp [upd_apply, *]), (by first | assumption | (simp only [upd_apply, Nat.reduceEqDiff, ↓reduceIte] <;> first | rfl | assumption) | simp [upd_apply, *]), (by first | assumption | (simp only [upd_apply, Nat.reduceEqDiff, ↓reduceIte] <;> first | rfl | assumption) | simp [upd_apply, *]), by simp [upd_apply], xW, a, cp, by rw [hstep]; exact (by first | assumption | (simp only [upd_apply, Nat.reduceEqDiff, ↓reduceIte] <;> first | rfl | assumption) | simp [upd_apply, *]), by rw [hstep]; exact oW, fW⟩
            · simp (disch := omega) only [go_sem, Nat.reduceEqDiff, ↓reduceIte, Nat.reduceAdd, a0, a1, a6, a7, a8, hlm, hne1, hne, m1, m2, z1, z2, z3, z4]
              exact ⟨by first | trivial | omega, (by first | assumption | (simp only [upd_apply, Nat.reduceEqDiff, ↓reduceIte] <;> first | rfl | assumption) | simp [upd_apply, *]), (by first | assumption | (simp only [upd_apply, Nat.reduceEqDiff, ↓reduceIte] <;> first | rfl | assumption) | simp [upd_apply, *]), (by first | assumption | (simp only [upd_apply, Nat.reduceEqDiff, ↓reduceIte] <;> first | rfl | assumption) | simp [upd_apply, *]), (by first | assumption | (simp only [upd_apply, Nat.reduceEqDiff, ↓reduceIte] <;> first | rfl | assumption) | simp [upd_apply, *]), by simp [upd_apply], xW, a, cp, by rw [hstep]; exact (by first | assumption | (simp only [upd_apply, Nat.reduceEqDiff, ↓reduceIte] <;> first | rfl | assumption) | simp [upd_apply, *]), by rw [hstep]; exact oW, fW⟩
    · obtain rfl : m = 3 := by omega
      simp (disch := omega) only [go_sem, Nat.reduceEqDiff, ↓reduceIte, Nat.reduceAdd, a7, a8, hlm]
      exact ⟨by omega, (by first | assumption | (simp only [upd_apply, Nat.reduceEqDiff, ↓reduceIte] <;> first | rfl | assumption) | simp [upd_apply, *]), (by first | assumption | (simp only [upd_apply, Nat.reduceEqDiff, ↓reduceIte] <;> first | rfl | assumption) | simp [upd_apply, *]), (by first | assumption | (simp only [upd_apply, Nat.reduceEqDiff, ↓reduceIte] <;> first | rfl | assumption) | simp [upd_apply, *]), by simp [upd_apply], xW, a, cp, (by first | assumption | (simp only [upd_apply, Nat.reduceEqDiff, ↓reduceIte] <;> first | rfl | assumption) | simp [upd_apply, *]), oW, fW⟩
  · obtain rfl : k = 3 := by omega
    simp (disch := omega) only [go_sem, Nat.reduceEqDiff, ↓reduceIte, Nat.reduceAdd, a5, a7, hlt, Try.results84]
    exact ⟨a, cp, rfl, oW, fW, xW⟩

theorem border_c (R C i : Nat) (sl : Value) (w : World) (hR7 : R ≤ 7) (hC7 : C ≤ 7) (hi : i < R * C) :
    Ret Try.prog 102 #[.agg #[.int .i64 R, .int .i64 C, sl], .int .i64 i] w fun v w' => v = .bool (bordB R C i) ∧ Ext w w' := by
  have hC : 0 < C := Nat.pos_of_ne_zero fun e => by subst e; simp at hi
  have hRC : R * C ≤ 7 * 7 := Nat.mul_le_mul hR7 hC7
  have hm : i % C < C := Nat.mod_lt _ hC
  have hq : i / C < R := Nat.div_lt_of_lt_mul (by rw [Nat.mul_comm]; exact hi)
  have m1 : (i : Int) / (C : Int) = ((i / C : Nat) : Int) := rfl
  have m2 : (i : Int) % (C : Int) = ((i % C : Nat) : Int) := rfl
  refine enter2 Try.func102 rfl (by kernel_rfl) (of_decide_eq_true (by kernel_rfl)) fun f a0 a1 => ?_
  simp only [go_sem, Nat.reduceEqDiff, ↓reduceIte, a0]
  refine boxK_of fun w0 fb eb x0 k0 _ => ?_
  simp (disch := omega) only [go_sem, Nat.reduceEqDiff, ↓reduceIte, Nat.reduceAdd, a1]
  refine QR_of (by kernel_rfl) (by kernel_rfl) ?_
  simp (disch := omega) only [go_sem, Nat.reduceEqDiff, ↓reduceIte, Nat.reduceAdd, a1, k0.cell, Value.cells, m1, m2]
  intro w00 x00
  have k1 := k0.ext x00
  simp only [bordB]
  generalize i / C = q at *
  generalize i % C = c at *
  by_cases h1 : q = 0
  · have b1 : ((q : Int) == 0) = true := by simp [h1]
    simp (disch := omega) only [go_sem, Nat.reduceEqDiff, ↓reduceIte, Nat.reduceAdd, b1, Try.results102]
    exact ⟨by simp [h1], x0.trans x00⟩
  have b1 : ((q : Int) == 0) = false := by simp [h1]
  by_cases h2 : q + 1 = R
  · have b2 : ((q : Int) == (R : Int) - 1) = true := by simp; omega
    simp (disch := omega) only [go_sem, Nat.reduceEqDiff, ↓reduceIte, Nat.reduceAdd, b1, b2, k1.cell, Value.cells, Try.results102]
    exact ⟨by simp [h2], x0.trans x00⟩
  have b2 : ((q : Int) == (R : Int) - 1) = false := by simp; omega
  by_cases h3 : c = 0
  · have b3 : ((c : Int) == 0) = true := by simp [h3]
    simp (disch := omega) only [go_sem, Nat.reduceEqDiff, ↓reduceIte, Nat.reduceAdd, b1, b2, b3, k1.cell, Value.cells, Try.results102]
    exact ⟨by simp [h3], x0.trans x00⟩
  have b3 : ((c : Int) == 0) = false := by simp [h3]
  by_cases h4 : c + 1 = C
  · have b4 : ((c : Int) == (C : Int) - 1) = true := by simp; omega
    simp (disch := omega) only [go_sem, Nat.reduceEqDiff, ↓reduceIte, Nat.reduceAdd, b1, b2, b3, b4, k1.cell, Value.cells, Try.results102]
    exact ⟨by simp [h4], x0.trans x00⟩
  have b4 : ((c : Int) == (C : Int) - 1) = false := by simp; omega
  simp (disch := omega) only [go_sem, Nat.reduceEqDiff, ↓reduceIte, Nat.reduceAdd, b1, b2, b3, b4, k1.cell, Value.cells, Try.results102]
  exact ⟨by simp [h1, h2, h3, h4], x0.trans x00⟩

theorem l2Border_c (gb go gc : Nat) (rb ro rc : Nat → Nat) (R C : Nat) (h : Nat → Int) (w : World) (hg : GridAt w gb go rb ro rc R C h) (hR7 : R ≤ 7) (hC7 : C ≤ 7) (i : Nat) (hi : i < R * C) :
    Ret Try.prog 83 #[.slice (some ⟨gb, go, none⟩) R gc, .int .i64 i] w fun v w' => v = .bool (bordB R C i) ∧ Ext w w' := by
  have hC : 0 < C := Nat.pos_of_ne_zero fun e => by subst e; simp at hi
  have hR : 0 < R := Nat.pos_of_ne_zero fun e => by subst e; simp at hi
  have hRC : R * C ≤ 7 * 7 := Nat.mul_le_mul hR7 hC7
  have hm : i % C < C := Nat.mod_lt _ hC
  have hq : i / C < R := Nat.div_lt_of_lt_mul (by rw [Nat.mul_comm]; exact hi)
  have m2 : (i : Int) % (C : Int) = ((i % C : Nat) : Int) := rfl
  have hCr : C * (R - 1) ≤ 7 * 7 := Nat.mul_le_mul hC7 (by omega)
  have m3 : (C : Int) * ((R : Int) - 1) = ((C * (R - 1) : Nat) : Int) := by rw [show (R : Int) - 1 = ((R - 1 : Nat) : Int) by omega]; simp
  have q1 : (i : Int) < (C : Int) ↔ i / C = 0 := by
    have := @Nat.div_eq_zero_iff i C
    constructor
    · intro h; exact this.2 (.inr (by omega))
    · intro h; rcases this.1 h with h | h <;> omega
  have q2 : ((C * (R - 1) : Nat) : Int) ≤ (i : Int) ↔ i / C + 1 = R := by
    have h1 := Nat.le_div_iff_mul_le (x := R - 1) (y := i) hC
    rw [Nat.mul_comm (R - 1) C] at h1
    omega
  refine enter2 Try.func83 rfl (by kernel_rfl) (of_decide_eq_true (by kernel_rfl)) fun f a0 a1 => ?_
  have g0 := hg.row 0 (by omega)
  simp only [Nat.add_zero] at g0
  simp (disch := omega) only [go_sem, Nat.reduceEqDiff, ↓reduceIte, Nat.reduceAdd, a0, a1, g0]
  simp only [bordB]
  by_cases h1 : i / C = 0
  · simp (disch := omega) only [go_sem, Nat.reduceEqDiff, ↓reduceIte, Nat.reduceAdd, q1.2 h1, Try.results83]
    exact ⟨by simp [h1], Ext.refl _⟩
  have n1 : ¬ (i : Int) < (C : Int) := fun h => h1 (q1.1 h)
  by_cases h2 : i / C + 1 = R
  · simp (disch := omega) only [go_sem, Nat.reduceEqDiff, ↓reduceIte, Nat.reduceAdd, a0, a1, n1, m3, q2.2 h2, Try.results83]
    exact ⟨by simp [h2], Ext.refl _⟩
  have n2 : ¬ ((C * (R - 1) : Nat) : Int) ≤ (i : Int) := fun h => h2 (q2.1 h)
  by_cases h3 : i % C = 0
  · have b3 : (((i % C : Nat) : Int) == 0) = true := by simp [h3]
    simp (disch := omega) only [go_sem, Nat.reduceEqDiff, ↓reduceIte, Nat.reduceAdd, a0, a1, n1, m3, n2, m2, b3, Try.results83]
    exact ⟨by simp [h3], Ext.refl _⟩
  have b3 : (((i % C : Nat) : Int) == 0) = false := by simp; omega
  by_cases h4 : i % C + 1 = C
  · have b4 : (((i % C : Nat) : Int) == (C : Int) - 1) = true := by simp; omega
    simp (disch := omega) only [go_sem, Nat.reduceEqDiff, ↓reduceIte, Nat.reduceAdd, a0, a1, n1, m3, n2, m2, b3, b4, Try.results83]
    exact ⟨by simp [h4], Ext.refl _⟩
  have b4 : (((i % C : Nat) : Int) == (C : Int) - 1) = false := by simp; omega
  simp (disch := omega) only [go_sem, Nat.reduceEqDiff, ↓reduceIte, Nat.reduceAdd, a0, a1, n1, m3, n2, m2, b3, b4, Try.results83]
  exact ⟨by simp [h1, h2, h3, h4], Ext.refl _⟩
end Go.Proofs.Ytdlepfeckiahdaa
