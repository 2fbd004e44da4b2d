/- Finding a sheet by its name on both sides, its corner. -/
import Derived.Test.YteenlohkhckjkaaDoorTe
set_option linter.all false
set_option maxRecDepth 20000
namespace Go.Proofs.YteenlohkhckjkaaDoor
open Go.RowKit Go.SW

theorem l7Find_c (l : List UInt8) (w : World) : Ret Tryd.prog 45 #[.string (bs l)] w fun v w' => v = .tuple #[.int .i64 (fCol l : Nat), .int .i64 (fRow l : Nat), .bool (fOk l)] ∧ Ext w w' := by
  refine enter1 Tryd.func45 rfl (by kernel_rfl) (of_decide_eq_true (by kernel_rfl)) fun f a0 => ?_
  simp (disch := omega) only [go_sem, Nat.reduceEqDiff, ↓reduceIte, Nat.reduceAdd]
  refine loopN 26 (fun k f w' => f 0 = .string (bs l) ∧ f 5 = .int .i64 k ∧ Ext w w' ∧ ∀ c r, Named l c r → k ≤ r) ⟨(by first | assumption | (simp only [upd_apply, Nat.reduceEqDiff, ↓reduceIte] <;> first | rfl | assumption) | simp [upd_apply, *]), (by first | assumption | (simp only [upd_apply, Nat.reduceEqDiff, ↓reduceIte] <;> first | rfl | assumption) | simp [upd_apply, *]), Ext.refl _, fun c r _ => by omega⟩ fun k f w1 hk ⟨a0, a5, xw, hn⟩ => ?_
  by_cases hlt : (k : Int) < 26
  · simp (disch := omega) only [go_sem, Nat.reduceEqDiff, ↓reduceIte, Nat.reduceAdd, a5, hlt]
    refine loopN 26 (fun j f w' => f 0 = .string (bs l) ∧ f 5 = .int .i64 k ∧ f 6 = .int .i64 j ∧ Ext w w' ∧ ∀ c r, Named l c r → k ≤ r ∧ (r = k → j ≤ c)) ⟨(by first | assumption | (simp only [upd_apply, Nat.reduceEqDiff, ↓reduceIte] <;> first | rfl | assumption) | simp [upd_apply, *]), (by first | assumption | (simp only [upd_apply, Nat.reduceEqDiff, ↓reduceIte] <;> first | rfl | assumption) | simp [upd_apply, *]), (by first | assumption | (simp only [upd_apply, Nat.reduceEqDiff, ↓reduceIte] <;> first | rfl | assumption) | simp [upd_apply, *]), xw, fun c r h => ⟨hn c r h, fun _ => by omega⟩⟩ fun j f w2 hj ⟨a0, a5, a6, xw, hn⟩ => ?_
    by_cases hlj : (j : Int) < 26
    · simp (disch := omega) only [go_sem, Nat.reduceEqDiff, ↓reduceIte, Nat.reduceAdd, a5, a6, hlj]
      refine callK_pure (by kernel_rfl) (l7Name_c j k (by omega) (by omega) _) fun w3 x3 => ?_
      by_cases he : sname j k = l
      · have hb : (sname j k == l) = true := by simp [he]
        simp (disch := omega) only [go_sem, Nat.reduceEqDiff, ↓reduceIte, Nat.reduceAdd, a0, a5, a6, hb, Tryd.results45]
        obtain ⟨h1, h2, h3⟩ := fOk_of (l := l) (c := j) (r := k) ⟨by omega, by omega, he.symm⟩
        exact ⟨by rw [h1, h2, h3], xw.trans x3⟩
      · have hb : (sname j k == l) = false := by simp [he]
        simp (disch := omega) only [go_sem, Nat.reduceEqDiff, ↓reduceIte, Nat.reduceAdd, a0, a5, a6, hb]
        refine ⟨by omega, (by first | assumption | (simp only [upd_apply, Nat.reduceEqDiff, ↓reduceIte] <;> first | rfl | assumption) | simp [upd_apply, *]), (by first | assumption | (simp only [upd_apply, Nat.reduceEqDiff, ↓reduceIte] <;> first | rfl | assumption) | simp [upd_apply, *]), (by first | assumption | (simp only [upd_apply, Nat.reduceEqDiff, ↓reduceIte] <;> first | rfl | assumption) | simp [upd_apply, *]), xw.trans x3, fun c r h => ⟨(hn c r h).1, fun e => ?_⟩⟩
        subst e
        have := (hn c r h).2 rfl
        by_cases e2 : j = c
        · subst e2; exact (he h.2.2.symm).elim
        · omega
    · simp (disch := omega) only [go_sem, Nat.reduceEqDiff, ↓reduceIte, Nat.reduceAdd, a5, a6, hlj]
      refine ⟨by omega, (by first | assumption | (simp only [upd_apply, Nat.reduceEqDiff, ↓reduceIte] <;> first | rfl | assumption) | simp [upd_apply, *]), (by first | assumption | (simp only [upd_apply, Nat.reduceEqDiff, ↓reduceIte] <;> first | rfl | assumption) | simp [upd_apply, *]), xw, fun c r h => ?_⟩
      have := hn c r h
      have := h.1
      omega
  · simp (disch := omega) only [go_sem, Nat.reduceEqDiff, ↓reduceIte, Nat.reduceAdd, a5, hlt, Tryd.results45]
    obtain ⟨h1, h2, h3⟩ := fOk_not (l := l) fun c r h => by have := hn c r h; have := h.2.1; omega
    exact ⟨by rw [h1, h2, h3]; rfl, xw⟩

theorem sheetNamed_c (l : List UInt8) (w : World) : Ret Tryd.prog 47 #[.string (bs l)] w fun v w' => v = .tuple #[.agg #[.int .i64 (fRow l : Nat), .int .i64 (fCol l : Nat)], .bool (fOk l)] ∧ Ext w w' := by
  have bad : (∀ c r, ¬ Named l c r) → (Value.tuple #[.agg #[.int .i64 0, .int .i64 0], .bool false]) = .tuple #[.agg #[.int .i64 (fRow l : Nat), .int .i64 (fCol l : Nat)], .bool (fOk l)] := fun h => by
    obtain ⟨h1, h2, h3⟩ := fOk_not h
    rw [h1, h2, h3]; rfl
  refine enter1 Tryd.func47 rfl (by kernel_rfl) (of_decide_eq_true (by kernel_rfl)) fun f a0 => ?_
  simp (disch := omega) only [go_sem, Nat.reduceEqDiff, ↓reduceIte, Nat.reduceAdd]
  refine allocK_of zero_sh fun w1 b e1 x1 k1 _ => ?_
  by_cases hl1 : (l.length : Int) < 2
  · simp (disch := omega) only [go_sem, Nat.reduceEqDiff, ↓reduceIte, Nat.reduceAdd, a0, hl1]
    refine stK_agg siz_sh (by simp) (by simp [Value.oneCell']) k1 (by simp) fun w2 k2 g2 => ?_
    simp (disch := omega) only [go_sem, Nat.reduceEqDiff, ↓reduceIte, Nat.reduceAdd, readCells_blk k2 (n := 2) (by simp [Value.cells]), Tryd.results47]
    exact ⟨bad fun c r h => by have := named_shape h; omega, g2.ext x1 (by omega)⟩
  by_cases hl2 : (3 : Int) < l.length
  · simp (disch := omega) only [go_sem, Nat.reduceEqDiff, ↓reduceIte, Nat.reduceAdd, a0, hl1, hl2]
    refine stK_agg siz_sh (by simp) (by simp [Value.oneCell']) k1 (by simp) fun w2 k2 g2 => ?_
    simp (disch := omega) only [go_sem, Nat.reduceEqDiff, ↓reduceIte, Nat.reduceAdd, readCells_blk k2 (n := 2) (by simp [Value.cells]), Tryd.results47]
    exact ⟨bad fun c r h => by have := named_shape h; omega, g2.ext x1 (by omega)⟩
  have b1 := u8_lt (l.getD 1 0)
  by_cases hd : (l.getD 1 0).toNat = 48
  · have hdb : (((l.getD 1 0).toNat : Int) == 48) = true := by rw [hd]; rfl
    simp (disch := omega) only [go_sem, Nat.reduceEqDiff, ↓reduceIte, Nat.reduceAdd, a0, hl1, hl2, Int.reduceToNat, hdb]
    refine stK_agg siz_sh (by simp) (by simp [Value.oneCell']) k1 (by simp) fun w2 k2 g2 => ?_
    simp (disch := omega) only [go_sem, Nat.reduceEqDiff, ↓reduceIte, Nat.reduceAdd, readCells_blk k2 (n := 2) (by simp [Value.cells]), Tryd.results47]
    exact ⟨bad fun c r h => (named_shape h).2.2.1 hd, g2.ext x1 (by omega)⟩
  have hdb : (((l.getD 1 0).toNat : Int) == 48) = false := beq_eq_false_iff_ne.2 (by omega)
  simp (disch := omega) only [go_sem, Nat.reduceEqDiff, ↓reduceIte, Nat.reduceAdd, a0, hl1, hl2, Int.reduceToNat, hdb]
  refine loopN (l.length - 1) (fun k f W => f 0 = .string (bs l) ∧ f 2 = .pointer (some ⟨b, 0, none⟩) ∧ f 4 = .int .i64 (numTo l k : Nat) ∧ f 5 = .int .i64 (k + 1 : Nat) ∧ Ext w W ∧ w.heap.size ≤ b ∧ Blk W b #[.int .i64 0, .int .i64 0] 56 ∧ ∀ i, 1 ≤ i → i ≤ k → 48 ≤ (l.getD i 0).toNat ∧ (l.getD i 0).toNat ≤ 57)
    ⟨(by first | assumption | (simp only [upd_apply, Nat.reduceEqDiff, ↓reduceIte] <;> first | rfl | assumption) | simp [upd_apply, *]), (by first | assumption | (simp only [upd_apply, Nat.reduceEqDiff, ↓reduceIte] <;> first | rfl | assumption) | simp [upd_apply, *]), (by first | assumption | (simp only [upd_apply, Nat.reduceEqDiff, ↓reduceIte] <;> first | rfl | assumption) | simp [upd_apply, *]), (by first | assumption | (simp only [upd_apply, Nat.reduceEqDiff, ↓reduceIte] <;> first | rfl | assumption) | simp [upd_apply, *]), x1, by omega, k1, fun i _ _ => by omega⟩ fun k f w2 hk ⟨a0, a2, a4, a5, xw, hb, kb, hdig⟩ => ?_
  have hnum : numTo l k < 1000 := by
    have h1 := numTo_lt (l := l) (k := k) fun i h1 h2 => (hdig i h1 h2).2
    have h2 := Nat.pow_le_pow_right (show 0 < 10 by omega) (show k ≤ 2 by omega)
    omega
  by_cases hlt : ((k + 1 : Nat) : Int) < l.length
  · have hc := u8_lt (l.getD (k + 1) 0)
    by_cases hc1 : ((l.getD (k + 1) 0).toNat : Int) < 48
    · simp (disch := omega) only [go_sem, Nat.reduceEqDiff, ↓reduceIte, Nat.reduceAdd, a0, a2, a4, a5, hlt, Int.toNat_natCast, hc1]
      refine stK_agg siz_sh (by simp) (by simp [Value.oneCell']) kb (by simp) fun w3 k3 g3 => ?_
      simp (disch := omega) only [go_sem, Nat.reduceEqDiff, ↓reduceIte, Nat.reduceAdd, readCells_blk k3 (n := 2) (by simp [Value.cells]), a2, Tryd.results47]
      exact ⟨bad fun c r h => by have := (named_shape h).2.2.2.2.1 (k + 1) (by omega) (by omega); omega, g3.ext xw (by omega)⟩
    by_cases hc2 : (57 : Int) < ((l.getD (k + 1) 0).toNat : Int)
    · simp (disch := omega) only [go_sem, Nat.reduceEqDiff, ↓reduceIte, Nat.reduceAdd, a0, a2, a4, a5, hlt, Int.toNat_natCast, hc1, hc2]
      refine stK_agg siz_sh (by simp) (by simp [Value.oneCell']) kb (by simp) fun w3 k3 g3 => ?_
      simp (disch := omega) only [go_sem, Nat.reduceEqDiff, ↓reduceIte, Nat.reduceAdd, readCells_blk k3 (n := 2) (by simp [Value.cells]), a2, Tryd.results47]
      exact ⟨bad fun c r h => by have := (named_shape h).2.2.2.2.1 (k + 1) (by omega) (by omega); omega, g3.ext xw (by omega)⟩
    have e1 : (10 : Int) * (numTo l k : Nat) + ((l.getD (k + 1) 0).toNat - 48) = (numTo l (k + 1) : Nat) := by rw [numTo]; omega
    simp (disch := omega) only [go_sem, Nat.reduceEqDiff, ↓reduceIte, Nat.reduceAdd, a0, a2, a4, a5, hlt, Int.toNat_natCast, hc1, hc2, e1]
    refine ⟨by omega, (by first | assumption | (simp only [upd_apply, Nat.reduceEqDiff, ↓reduceIte] <;> first | rfl | assumption) | simp [upd_apply, *]), (by first | assumption | (simp only [upd_apply, Nat.reduceEqDiff, ↓reduceIte] <;> first | rfl | assumption) | simp [upd_apply, *]), (by first | assumption | (simp only [upd_apply, Nat.reduceEqDiff, ↓reduceIte] <;> first | rfl | assumption) | simp [upd_apply, *]), (by first | assumption | (simp only [upd_apply, Nat.reduceEqDiff, ↓reduceIte] <;> first | rfl | assumption) | simp [upd_apply, *]), xw, hb, kb, fun i h1 h2 => ?_⟩
    by_cases e : i = k + 1
    · subst e; omega
    · exact hdig i h1 (by omega)
  · obtain rfl : k = l.length - 1 := by omega
    have hc := u8_lt (l.getD 0 0)
    simp (disch := omega) only [go_sem, Nat.reduceEqDiff, ↓reduceIte, Nat.reduceAdd, a0, a2, a4, a5, hlt, Int.reduceToNat]
    refine allocK_of zero_sh fun w3 b3 e3 x3 k3 _ => ?_
    simp (disch := omega) only [go_sem, Nat.reduceEqDiff, ↓reduceIte, Nat.reduceAdd, a0, a2, a4, a5]
    refine stK_agg siz_sh (by simp) (by simp [Value.oneCell']) k3 (by simp) fun w4 k4 g4 => ?_
    have x4 := g4.ext (xw.trans x3) (by have := xw.size; omega)
    simp (disch := omega) only [go_sem, Nat.reduceEqDiff, ↓reduceIte, Nat.reduceAdd, readCells_blk k4 (n := 2) (by simp [Value.cells])]
    refine callK_pure (by kernel_rfl) (sheetThere_c _ _ _) fun w5 x5 => ?_
    have kb5 := ((g4.blk (kb.ext x3) (by have := kb.lt; simp; omega)).ext x5)
    cases hs : decide (0 ≤ ((l.getD 0 0).toNat : Int) - 65 ∧ ((l.getD 0 0).toNat : Int) - 65 < 26 ∧ 0 ≤ (numTo l (l.length - 1) : Int) - 1 ∧ (numTo l (l.length - 1) : Int) - 1 < 26) with
    | false =>
      simp (disch := omega) only [go_sem, Nat.reduceEqDiff, ↓reduceIte, Nat.reduceAdd, a2]
      refine stK_agg siz_sh (by simp) (by simp [Value.oneCell']) kb5 (by simp) fun w6 k6 g6 => ?_
      simp (disch := omega) only [go_sem, Nat.reduceEqDiff, ↓reduceIte, Nat.reduceAdd, readCells_blk k6 (n := 2) (by simp [Value.cells]), a2, Tryd.results47]
      exact ⟨bad fun c r h => by have := named_shape h; have := of_decide_eq_false hs; have := h.1; have := h.2.1; omega, g6.ext (x4.trans x5) (by omega)⟩
    | true =>
      have hs' := of_decide_eq_true hs
      have k5 := k4.ext x5
      simp (disch := omega) only [go_sem, Nat.reduceEqDiff, ↓reduceIte, Nat.reduceAdd, a2, readCells_blk k5 (n := 2) (by simp [Value.cells])]
      refine stK_agg siz_sh (by simp) (by simp [Value.oneCell']) kb5 (by simp) fun w6 k6 g6 => ?_
      simp (disch := omega) only [go_sem, Nat.reduceEqDiff, ↓reduceIte, Nat.reduceAdd, readCells_blk k6 (n := 2) (by simp [Value.cells]), a2, Tryd.results47]
      obtain ⟨h1, h2, h3⟩ := fOk_of (shape_named (l := l) (c := numTo l (l.length - 1) - 1) (r := (l.getD 0 0).toNat - 65) (by omega) (by omega) hd (by omega) (fun i h1 h2 => hdig i h1 (by omega)) (by omega) (by omega) (by omega))
      refine ⟨?_, g6.ext (x4.trans x5) (by omega)⟩
      rw [h1, h2, h3]
      have q1 : ((l.getD 0 0).toNat : Int) - 65 = (((l.getD 0 0).toNat - 65 : Nat) : Int) := by omega
      have q2 : (numTo l (l.length - 1) : Int) - 1 = ((numTo l (l.length - 1) - 1 : Nat) : Int) := by omega
      rw [q1, q2]

theorem corner_c (r c : Nat) (hr : r < 26) (hc : c < 26) (w : World) : Ret Tryd.prog 55 #[.agg #[.int .i64 r, .int .i64 c]] w fun v w' => v = .agg #[.int .i64 (4 * c : Nat), .int .i64 (4 * r : Nat)] ∧ Ext w w' := by
  refine enter1 Tryd.func55 rfl (by kernel_rfl) (of_decide_eq_true (by kernel_rfl)) fun f a0 => ?_
  have e1 : (r : Int) * 4 = ((4 * r : Nat) : Int) := by omega
  have e2 : (c : Int) * 4 = ((4 * c : Nat) : Int) := by omega
  simp (disch := omega) only [go_sem, Nat.reduceEqDiff, ↓reduceIte, Nat.reduceAdd, a0]
  refine boxK_of fun w1 b _ x1 kb _ => ?_
  simp (disch := omega) only [go_sem, Nat.reduceEqDiff, ↓reduceIte, Nat.reduceAdd]
  refine allocK_of zero_pl fun w2 b2 _ x2 k2 _ => ?_
  have kb2 := kb.ext x2
  simp (disch := omega) only [go_sem, Nat.reduceEqDiff, ↓reduceIte, Nat.reduceAdd, kb2.cell, Value.cells, e1, e2]
  refine stK_agg siz_pl (by simp) (by simp [Value.oneCell']) k2 (by simp) fun w3 k3 g3 => ?_
  simp (disch := omega) only [go_sem, Nat.reduceEqDiff, ↓reduceIte, Nat.reduceAdd, readCells_blk k3 (n := 2) (by simp [Value.cells]), Tryd.results55]
  exact ⟨trivial, g3.ext (x1.trans x2) (by have := x1.size; omega)⟩
end Go.Proofs.YteenlohkhckjkaaDoor
