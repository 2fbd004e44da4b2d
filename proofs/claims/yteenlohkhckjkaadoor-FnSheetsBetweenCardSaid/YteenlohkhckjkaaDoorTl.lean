/- Places by their full names on both sides. -/
import Derived.Test.YteenlohkhckjkaaDoorTk
set_option linter.all false
set_option maxRecDepth 20000
namespace Go.SW
open Go Go.RowKit
/-- The side of a square after k halvings. -/
def sd : Nat → Nat | 0 => 4 | k + 1 => sd k / 2
/-- Letter k of the last two, as a number. -/
def lt2 (l : List UInt8) (k : Nat) : Nat := (l.getD (l.length - 2 + k) 0).toNat
def qx (l : List UInt8) (x0 : Nat) : Nat → Nat | 0 => x0 | k + 1 => qx l x0 k + sd (k + 1) * ((lt2 l k - 97) % 2)
def qy (l : List UInt8) (y0 : Nat) : Nat → Nat | 0 => y0 | k + 1 => qy l y0 k + sd (k + 1) * ((lt2 l k - 97) / 2)
theorem pf_q {l : List UInt8} (h : 2 ≤ l.length) (h2 : fOk (l.take (l.length - 2)) = true) (h3 : ∀ k, k < 2 → 97 ≤ lt2 l k ∧ lt2 l k ≤ 100) :
    pOk l = true ∧ pX l = qx l (4 * fCol (l.take (l.length - 2))) 2 ∧ pY l = qy l (4 * fRow (l.take (l.length - 2))) 2 := by
  have a := h3 0 (by omega)
  have b := h3 1 (by omega)
  have e : l.length - 2 + 1 = l.length - 1 := by omega
  unfold lt2 at a b
  rw [e] at b
  rw [Nat.add_zero] at a
  have hp : pf l = some (4 * fCol (l.take (l.length - 2)) + 2 * (((l.getD (l.length - 2) 0).toNat - 97) % 2) + ((l.getD (l.length - 1) 0).toNat - 97) % 2, 4 * fRow (l.take (l.length - 2)) + 2 * (((l.getD (l.length - 2) 0).toNat - 97) / 2) + ((l.getD (l.length - 1) 0).toNat - 97) / 2) := by
    unfold pf
    exact if_pos ⟨h, h2, a, b⟩
  simp only [pOk, pX, pY, hp, Option.isSome_some, true_and, qx, qy, lt2, sd, e, Nat.add_zero]
  omega
theorem pf_bad1 {l : List UInt8} (h : l.length < 4) : pOk l = false ∧ pX l = 0 ∧ pY l = 0 := pOk_not fun _ _ hn => by have := hn.len; omega
theorem pf_bad2 {l : List UInt8} (h : fOk (l.take (l.length - 2)) = false) : pOk l = false ∧ pX l = 0 ∧ pY l = 0 := pOk_not fun _ _ hn => fOk_none h _ _ hn.take
theorem pf_bad3 {l : List UInt8} {k : Nat} (hk : k < 2) (h : ¬ (97 ≤ lt2 l k ∧ lt2 l k ≤ 100)) : pOk l = false ∧ pX l = 0 ∧ pY l = 0 := pOk_not fun x y hn => by
  obtain ⟨-, -, p3, p4⟩ := fname_parts x y
  rw [← hn.2.2] at p3 p4
  have := ltr_nat (show x / 2 % 2 < 2 by omega) (show y / 2 % 2 < 2 by omega)
  have := ltr_nat (show x % 2 < 2 by omega) (show y % 2 < 2 by omega)
  have hl := hn.len
  unfold lt2 at h
  have : k = 0 ∨ k = 1 := by omega
  rcases this with rfl | rfl
  · rw [Nat.add_zero, p3] at h; omega
  · rw [show l.length - 2 + 1 = l.length - 1 by omega, p4] at h; omega
theorem sd_le : ∀ k, sd k ≤ 4
  | 0 => Nat.le_refl _
  | k + 1 => by have := sd_le k; simp only [sd]; omega
end Go.SW
namespace Go.Proofs.YteenlohkhckjkaaDoor
open Go.RowKit Go.SW

theorem key_m : keyOk Tryd.prog 72 = some (5, 70, .int .u8) := by kernel_rfl
def movesL : Array MapEntry := #[⟨.int .u8 97, .func (.func 67) #[] #[], 0⟩, ⟨.int .u8 98, .func (.func 68) #[] #[], 1⟩, ⟨.int .u8 99, .func (.func 69) #[] #[], 2⟩, ⟨.int .u8 100, .func (.func 70) #[] #[], 3⟩]
theorem moves_c (w : World) : Ret Tryd.prog 59 #[] w fun v w' => ∃ b, v = .map (some b) ∧ Ext w w' ∧ w'.heap[b]? = some (.map movesL 4) := by
  refine enter0 Tryd.func59 rfl (by kernel_rfl) fun f => ?_
  simp (disch := omega) only [go_sem, Nat.reduceEqDiff, ↓reduceIte, Nat.reduceAdd]
  refine mmK_of fun w1 b e1 x1 h1 _ => ?_
  simp (disch := omega) only [go_sem, Nat.reduceEqDiff, ↓reduceIte, Nat.reduceAdd]
  refine insK_new key_m h1 rfl fun w2 h2 g2 => ?_
  simp (disch := omega) only [go_sem, Nat.reduceEqDiff, ↓reduceIte, Nat.reduceAdd]
  refine insK_new key_m h2 rfl fun w3 h3 g3 => ?_
  simp (disch := omega) only [go_sem, Nat.reduceEqDiff, ↓reduceIte, Nat.reduceAdd]
  refine insK_new key_m h3 rfl fun w4 h4 g4 => ?_
  simp (disch := omega) only [go_sem, Nat.reduceEqDiff, ↓reduceIte, Nat.reduceAdd]
  refine insK_new key_m h4 rfl fun w5 h5 g5 => ?_
  simp (disch := omega) only [go_sem, Nat.reduceEqDiff, ↓reduceIte, Nat.reduceAdd, Tryd.results59]
  exact ⟨b, rfl, g5.ext (g4.ext (g3.ext (g2.ext x1 (by omega)) (by omega)) (by omega)) (by omega), h5⟩

theorem move1_c (x y s : Nat) (hx : x ≤ 1000) (hy : y ≤ 1000) (hs : s ≤ 4) (w : World) : Ret Tryd.prog 67 #[.agg #[.int .i64 x, .int .i64 y], .int .i64 s] w fun v w' => v = .agg #[.int .i64 (x + s * (0 % 2) : Nat), .int .i64 (y + s * (0 / 2) : Nat)] ∧ Ext w w' := by
  refine enter2 Tryd.func67 rfl (by kernel_rfl) (of_decide_eq_true (by kernel_rfl)) fun f a0 a1 => ?_
  simp (disch := omega) only [go_sem, Nat.reduceEqDiff, ↓reduceIte, Nat.reduceAdd, a0]
  refine boxK_of fun w1 b _ x1 kb _ => ?_
  simp (disch := omega) only [go_sem, Nat.reduceEqDiff, ↓reduceIte, Nat.reduceAdd]
  refine allocK_of zero_pl fun w2 b2 _ x2 k2 _ => ?_
  have kb2 := kb.ext x2
  simp (disch := omega) only [go_sem, Nat.reduceEqDiff, ↓reduceIte, Nat.reduceAdd, readCells_blk kb2 (n := 2) (by simp [Value.cells]), Value.cells]
  refine stK_agg siz_pl (by simp) (by simp [Value.oneCell']) k2 (by simp) fun w3 k3 g3 => ?_
  simp (disch := omega) only [go_sem, Nat.reduceEqDiff, ↓reduceIte, Nat.reduceAdd, readCells_blk k3 (n := 2) (by simp [Value.cells]), Tryd.results67]
  exact ⟨rfl, g3.ext (x1.trans x2) (by have := x1.size; omega)⟩
theorem move2_c (x y s : Nat) (hx : x ≤ 1000) (hy : y ≤ 1000) (hs : s ≤ 4) (w : World) : Ret Tryd.prog 68 #[.agg #[.int .i64 x, .int .i64 y], .int .i64 s] w fun v w' => v = .agg #[.int .i64 (x + s * (1 % 2) : Nat), .int .i64 (y + s * (1 / 2) : Nat)] ∧ Ext w w' := by
  refine enter2 Tryd.func68 rfl (by kernel_rfl) (of_decide_eq_true (by kernel_rfl)) fun f a0 a1 => ?_
  simp (disch := omega) only [go_sem, Nat.reduceEqDiff, ↓reduceIte, Nat.reduceAdd, a0]
  refine boxK_of fun w1 b _ x1 kb _ => ?_
  simp (disch := omega) only [go_sem, Nat.reduceEqDiff, ↓reduceIte, Nat.reduceAdd]
  refine allocK_of zero_pl fun w2 b2 _ x2 k2 _ => ?_
  have kb2 := kb.ext x2
  simp (disch := omega) only [go_sem, Nat.reduceEqDiff, ↓reduceIte, Nat.reduceAdd, kb2.cell, Value.cells, a1]
  refine stK_agg siz_pl (by simp) (by simp [Value.oneCell']) k2 (by simp) fun w3 k3 g3 => ?_
  simp (disch := omega) only [go_sem, Nat.reduceEqDiff, ↓reduceIte, Nat.reduceAdd, readCells_blk k3 (n := 2) (by simp [Value.cells]), Tryd.results68]
  exact ⟨by simp, g3.ext (x1.trans x2) (by have := x1.size; omega)⟩
theorem move3_c (x y s : Nat) (hx : x ≤ 1000) (hy : y ≤ 1000) (hs : s ≤ 4) (w : World) : Ret Tryd.prog 69 #[.agg #[.int .i64 x, .int .i64 y], .int .i64 s] w fun v w' => v = .agg #[.int .i64 (x + s * (2 % 2) : Nat), .int .i64 (y + s * (2 / 2) : Nat)] ∧ Ext w w' := by
  refine enter2 Tryd.func69 rfl (by kernel_rfl) (of_decide_eq_true (by kernel_rfl)) fun f a0 a1 => ?_
  simp (disch := omega) only [go_sem, Nat.reduceEqDiff, ↓reduceIte, Nat.reduceAdd, a0]
  refine boxK_of fun w1 b _ x1 kb _ => ?_
  simp (disch := omega) only [go_sem, Nat.reduceEqDiff, ↓reduceIte, Nat.reduceAdd]
  refine allocK_of zero_pl fun w2 b2 _ x2 k2 _ => ?_
  have kb2 := kb.ext x2
  simp (disch := omega) only [go_sem, Nat.reduceEqDiff, ↓reduceIte, Nat.reduceAdd, kb2.cell, Value.cells, a1]
  refine stK_agg siz_pl (by simp) (by simp [Value.oneCell']) k2 (by simp) fun w3 k3 g3 => ?_
  simp (disch := omega) only [go_sem, Nat.reduceEqDiff, ↓reduceIte, Nat.reduceAdd, readCells_blk k3 (n := 2) (by simp [Value.cells]), Tryd.results69]
  exact ⟨by simp, g3.ext (x1.trans x2) (by have := x1.size; omega)⟩
theorem move4_c (x y s : Nat) (hx : x ≤ 1000) (hy : y ≤ 1000) (hs : s ≤ 4) (w : World) : Ret Tryd.prog 70 #[.agg #[.int .i64 x, .int .i64 y], .int .i64 s] w fun v w' => v = .agg #[.int .i64 (x + s * (3 % 2) : Nat), .int .i64 (y + s * (3 / 2) : Nat)] ∧ Ext w w' := by
  refine enter2 Tryd.func70 rfl (by kernel_rfl) (of_decide_eq_true (by kernel_rfl)) fun f a0 a1 => ?_
  simp (disch := omega) only [go_sem, Nat.reduceEqDiff, ↓reduceIte, Nat.reduceAdd, a0]
  refine boxK_of fun w1 b _ x1 kb _ => ?_
  simp (disch := omega) only [go_sem, Nat.reduceEqDiff, ↓reduceIte, Nat.reduceAdd]
  refine allocK_of zero_pl fun w2 b2 _ x2 k2 _ => ?_
  have kb2 := kb.ext x2
  simp (disch := omega) only [go_sem, Nat.reduceEqDiff, ↓reduceIte, Nat.reduceAdd, kb2.cell, Value.cells, a1]
  refine stK_agg siz_pl (by simp) (by simp [Value.oneCell']) k2 (by simp) fun w3 k3 g3 => ?_
  simp (disch := omega) only [go_sem, Nat.reduceEqDiff, ↓reduceIte, Nat.reduceAdd, readCells_blk k3 (n := 2) (by simp [Value.cells]), Tryd.results70]
  exact ⟨by simp, g3.ext (x1.trans x2) (by have := x1.size; omega)⟩

theorem move_c (d : Nat) (hd : d < 4) : ∃ g : FuncId, goB Tryd.prog g = true ∧ Instr.findNow (.int .u8) (.int .u8 (97 + d : Nat)) movesL.toList 0 = some (some (d, .func (.func g) #[] #[])) ∧
    ∀ (x y s : Nat) (w : World), x ≤ 1000 → y ≤ 1000 → s ≤ 4 → Ret Tryd.prog g #[.agg #[.int .i64 x, .int .i64 y], .int .i64 s] w fun v w' => v = .agg #[.int .i64 (x + s * (d % 2) : Nat), .int .i64 (y + s * (d / 2) : Nat)] ∧ Ext w w' := by
  have : d = 0 ∨ d = 1 ∨ d = 2 ∨ d = 3 := by omega
  rcases this with rfl | rfl | rfl | rfl
  · exact ⟨_, by kernel_rfl, rfl, fun x y s w hx hy hs => move1_c x y s hx hy hs w⟩
  · exact ⟨_, by kernel_rfl, rfl, fun x y s w hx hy hs => move2_c x y s hx hy hs w⟩
  · exact ⟨_, by kernel_rfl, rfl, fun x y s w hx hy hs => move3_c x y s hx hy hs w⟩
  · exact ⟨_, by kernel_rfl, rfl, fun x y s w hx hy hs => move4_c x y s hx hy hs w⟩
theorem move_none {n : Nat} (h : ¬ (97 ≤ n ∧ n ≤ 100)) : Instr.findNow (.int .u8) (.int .u8 (n : Nat)) movesL.toList 0 = some none := by
  have h1 : ((n : Int) == 97) = false := beq_eq_false_iff_ne.2 (by omega)
  have h2 : ((n : Int) == 98) = false := beq_eq_false_iff_ne.2 (by omega)
  have h3 : ((n : Int) == 99) = false := beq_eq_false_iff_ne.2 (by omega)
  have h4 : ((n : Int) == 100) = false := beq_eq_false_iff_ne.2 (by omega)
  simp only [movesL, Instr.findNow, Instr.sameNow, if_true, h1, h2, h3, h4]
theorem zero_mv : (Tryd.prog.info? 70).map (·.zero) = some (some .nilFunc) := by kernel_rfl
theorem zeroV_mv (w : World) : (zeroValue 70).run Tryd.prog w = .ok .nilFunc w := by
  have h := zero_mv
  cases hi : Tryd.prog.info? 70 with
  | none => rw [hi] at h; cases h
  | some i =>
    rw [hi] at h
    simp only [Option.map_some, Option.some.injEq] at h
    refine (run_bindV (run_typeInfo_some hi)).trans ?_
    rw [h]; rfl
end Go.Proofs.YteenlohkhckjkaaDoor
