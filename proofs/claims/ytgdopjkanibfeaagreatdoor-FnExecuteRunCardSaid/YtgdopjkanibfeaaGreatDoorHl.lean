/- Contracts of the laws' helpers that only read. -/
import Derived.Test.YtgdopjkanibfeaaGreatDoorJ2
import Derived.Test.YtgdopjkanibfeaaGreatDoorJ4
set_option linter.all false
set_option maxRecDepth 20000
namespace Go.SW
def sumL (l : List Int) : Int := l.foldr (· + ·) 0
theorem sumL_append (a b : List Int) : sumL (a ++ b) = sumL a + sumL b := by
  induction a with
  | nil => simp [sumL]
  | cons x a ih => simp only [sumL, List.cons_append, List.foldr_cons] at ih ⊢; omega
theorem sumL_take {l : List Int} {k : Nat} (hk : k < l.length) : sumL (l.take (k + 1)) = sumL (l.take k) + l.getD k 0 := by
  rw [List.take_succ_eq_append_getElem hk, sumL_append, getD_at l 0 hk]; simp [sumL]
theorem sumL_bnd {l : List Int} {m : Int} (hm : 0 ≤ m) (h : ∀ x ∈ l, 0 ≤ x ∧ x ≤ m) : ∀ k, k ≤ l.length → 0 ≤ sumL (l.take k) ∧ sumL (l.take k) ≤ k * m
  | 0, _ => by simp [sumL]
  | k + 1, hk => by
    have ih := sumL_bnd hm h k (by omega)
    rw [sumL_take (by omega)]
    have := h _ (getD_mem (d := 0) (show k < l.length by omega))
    have e : ((k + 1 : Nat) : Int) * m = (k : Int) * m + m := by rw [Int.natCast_add, Int.add_mul]; simp
    omega
end Go.SW
namespace Go.Proofs.YtgdopjkanibfeaaGreatDoor
open Go.RowKit Go.SW

theorem sameInts_c (a b : Option Addr) (l m : List Int) (c d : Nat) (w : World) (hl : IntS w a l) (hm : IntS w b m) (hn : l.length ≤ maxLen) :
    Ret Tryz.prog 10 #[.slice a l.length c, .slice b m.length d] w fun v w' => v = .bool (decide (l = m)) ∧ Ext w w' := by
  have hn' := maxLen_le hn
  refine enter2 Tryz.func10 rfl (by kernel_rfl) (of_decide_eq_true (by kernel_rfl)) fun f a0 a1 => ?_
  by_cases hlen : l.length = m.length
  · have hne : ((l.length : Int) != (m.length : Int)) = false := by simp [hlen]
    simp (disch := omega) only [go_sem, Nat.reduceEqDiff, ↓reduceIte, Nat.reduceAdd, a0, a1, hne]
    refine loopN l.length (fun k f w' => f 0 = .slice a l.length c ∧ f 1 = .slice b m.length d ∧ f 5 = .int .i64 k ∧ Ext w w' ∧ ∀ j, j < k → l.getD j 0 = m.getD j 0) ⟨(by first | assumption | (simp only [upd_apply, Nat.reduceEqDiff, ↓reduceIte] <;> first | rfl | assumption) | simp [upd_apply, *]), (by first | assumption | (simp only [upd_apply, Nat.reduceEqDiff, ↓reduceIte] <;> first | rfl | assumption) | simp [upd_apply, *]), (by first | assumption | (simp only [upd_apply, Nat.reduceEqDiff, ↓reduceIte] <;> first | rfl | assumption) | simp [upd_apply, *]), Ext.refl _, fun j hj => by omega⟩ fun k f w' hk ⟨a0, a1, a5, xw, he⟩ => ?_
    by_cases hlt : (k : Int) < l.length
    · obtain ⟨b1, o1, rfl⟩ := hl.head (by intro e; rw [e] at hlt; simp at hlt; omega)
      obtain ⟨b2, o2, rfl⟩ := hm.head (by intro e; rw [e] at hlen; rw [hlen] at hlt; simp at hlt; omega)
      have g1 := (hl.ext xw).cell b1 o1 rfl k (by omega)
      have g2 := (hm.ext xw).cell b2 o2 rfl k (by omega)
      simp (disch := omega) only [go_sem, Nat.reduceEqDiff, ↓reduceIte, Nat.reduceAdd, a0, a1, a5, hlt]
      refine QR_of (by kernel_rfl) (by kernel_rfl) ?_
      by_cases hx : l.getD k 0 = m.getD k 0
      · have hne : (l.getD k 0 != m.getD k 0) = false := bne_eq_false_iff_eq.2 hx
        simp (disch := omega) only [go_sem, Nat.reduceEqDiff, ↓reduceIte, Nat.reduceAdd, a0, a1, a5, g1, g2, hne]
        refine fun w2 x2 => ⟨by omega, (by first | assumption | (simp only [upd_apply, Nat.reduceEqDiff, ↓reduceIte] <;> first | rfl | assumption) | simp [upd_apply, *]), (by first | assumption | (simp only [upd_apply, Nat.reduceEqDiff, ↓reduceIte] <;> first | rfl | assumption) | simp [upd_apply, *]), (by first | assumption | (simp only [upd_apply, Nat.reduceEqDiff, ↓reduceIte] <;> first | rfl | assumption) | simp [upd_apply, *]), xw.trans x2, fun j hj => ?_⟩
        by_cases e : j = k
        · subst e; exact hx
        · exact he j (by omega)
      · have hne : (l.getD k 0 != m.getD k 0) = true := bne_iff_ne.2 hx
        simp (disch := omega) only [go_sem, Nat.reduceEqDiff, ↓reduceIte, Nat.reduceAdd, a0, a1, a5, g1, g2, hne, Tryz.results10]
        refine fun w2 x2 => ⟨?_, xw.trans x2⟩
        rw [decide_eq_false (fun e => hx (by rw [e]))]
    · simp (disch := omega) only [go_sem, Nat.reduceEqDiff, ↓reduceIte, Nat.reduceAdd, a0, a1, a5, hlt, Tryz.results10]
      refine ⟨?_, xw⟩
      rw [decide_eq_true]
      refine List.ext_getElem hlen fun j h1 h2 => ?_
      have := he j (by omega)
      rwa [getD_at _ _ h1, getD_at _ _ h2] at this
  · have hne : ((l.length : Int) != (m.length : Int)) = true := by simp; omega
    simp (disch := omega) only [go_sem, Nat.reduceEqDiff, ↓reduceIte, Nat.reduceAdd, a0, a1, hne, Tryz.results10]
    exact ⟨by rw [decide_eq_false (fun e => hlen (by rw [e]))], Ext.refl _⟩

end Go.Proofs.YtgdopjkanibfeaaGreatDoor
