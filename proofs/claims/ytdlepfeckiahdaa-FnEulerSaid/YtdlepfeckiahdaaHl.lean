/- Contracts of the laws' helpers that only read. -/
import Derived.Test.YtdlepfeckiahdaaJ2
import Derived.Test.YtdlepfeckiahdaaJ4
set_option linter.all false
namespace Go.SW
def sumL (l : List Int) : Int := l.foldr (· + ·) 0
theorem sumL_append (a b : List Int) : sumL (a ++ b) = sumL a + sumL b := by
  induction a with
  | nil => simp [sumL]
  | cons x a ih => simp only [sumL, List.cons_append, List.foldr_cons] at ih ⊢; omega
theorem sumL_take {l : List Int} {k : Nat} (hk : k < l.length) : sumL (l.take (k + 1)) = sumL (l.take k) + l.getD k 0 := by
  rw [List.take_succ_eq_append_getElem hk, sumL_append, getD_at l 0 hk]; simp [sumL]
theorem sumL_bnd {l : List Int} {m : Int} (hm : 0 ≤ m) (h : ∀ x ∈ l, 0 ≤ x ∧ x ≤ m) : ∀ k, k ≤ l.length → 0 ≤ sumL (l.take k) ∧ sumL (l.take k) ≤ k * m
  | 0, _ => by simp [sumL]
  | k + 1, hk => by
    have ih := sumL_bnd hm h k (by omega)
    rw [sumL_take (by omega)]
    have := h _ (getD_mem (d := 0) (show k < l.length by omega))
    have e : ((k + 1 : Nat) : Int) * m = (k : Int) * m + m := by rw [Int.natCast_add, Int.add_mul]; simp
    omega
end Go.SW
namespace Go.Proofs.Ytdlepfeckiahdaa
open Go.RowKit Go.SW

theorem heightOf_c (a : Option Addr) (rows : List (List Int)) (A : Nat → Option Addr) (Cp : Nat → Nat) (gc : Nat) (w : World) (hr : RowsAt w a rows A Cp) (v : Valid rows) (i : Int) (h0 : 0 ≤ i) (h1 : i < (rows.length * rowLen rows : Nat)) :
    Ret Try.prog 48 #[.slice a rows.length gc, .int .i64 i] w fun v w' => v = .int .i64 (hgt rows i.toNat) ∧ Ext w w' := by
  obtain ⟨gb, go, rb, ro, rfl, -, hg⟩ := hr.grid v
  obtain ⟨q1, q0, m1, m0, hC, hR, hdm⟩ := idx_div h0 h1
  have h3 : rows.length * rowLen rows ≤ 7 * 7 := Nat.mul_le_mul v.r7 v.c7
  have g0 := hg.row 0 (by omega)
  simp only [Nat.add_zero] at g0
  refine enter2 Try.func48 rfl (by kernel_rfl) (of_decide_eq_true (by kernel_rfl)) fun f a0 a1 => ?_
  simp only [go_sem, Nat.reduceEqDiff, ↓reduceIte, a0, a1]
  refine QR_of (by kernel_rfl) (by kernel_rfl) ?_
  simp (disch := omega) only [go_sem, Nat.reduceEqDiff, ↓reduceIte, a0, a1, g0, hg.row, hg.cell, hdm, Try.results48]
  exact fun w' e => ⟨trivial, e⟩

theorem cellsOf_c (a : Option Addr) (rows : List (List Int)) (A : Nat → Option Addr) (Cp : Nat → Nat) (gc : Nat) (w : World) (hr : RowsAt w a rows A Cp) (v : Valid rows) :
    Ret Try.prog 26 #[.slice a rows.length gc] w fun v w' => v = .int .i64 (rows.length * rowLen rows : Nat) ∧ Ext w w' := by
  obtain ⟨gb, go, rb, ro, rfl, -, hg⟩ := hr.grid v
  have hr1 := v.r1
  have hRC : rows.length * rowLen rows ≤ 7 * 7 := Nat.mul_le_mul v.r7 v.c7
  have h2 : (rows.length : Int) * (rowLen rows : Int) = ((rows.length * rowLen rows : Nat) : Int) := by simp
  have g0 := hg.row 0 (by omega)
  simp only [Nat.add_zero] at g0
  refine enter1 Try.func26 rfl (by kernel_rfl) (of_decide_eq_true (by kernel_rfl)) fun f a0 => ?_
  simp (disch := omega) only [go_sem, Nat.reduceEqDiff, ↓reduceIte, Nat.reduceAdd, a0, g0, h2, Try.results26]
  exact ⟨trivial, Ext.refl _⟩

end Go.Proofs.Ytdlepfeckiahdaa
