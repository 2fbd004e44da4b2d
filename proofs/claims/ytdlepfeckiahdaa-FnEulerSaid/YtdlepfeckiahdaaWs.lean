/- Contracts: the water functions of the reference. -/
import Derived.Test.YtdlepfeckiahdaaWz
set_option linter.all false
namespace Go.SW
theorem count_vi_take {l : List Int} {x : Int} {k : Nat} (hk : k < l.length) : (l.take (k + 1)).count x = (l.take k).count x + if l.getD k 0 = x then 1 else 0 := by
  rw [List.take_succ_eq_append_getElem hk, List.count_append, getD_at l 0 hk]
  simp [List.count_cons]
theorem count_range (f : Nat → Nat) (s : Int) : ∀ n, (ni ((List.range n).map f)).count s = cntp (fun i => ((f i : Nat) : Int) = s) n
  | 0 => by simp [ni, cntp]
  | n + 1 => by
    have ih := count_range f s n
    simp only [ni, List.map_map] at ih ⊢
    rw [List.range_succ, List.map_append, List.count_append, ih]
    simp [cntp, List.count_cons]
theorem basin_count {rows : List (List Int)} (hv : gvalid rows = true) (s : Int) : basinOf rows s = if (ni (basinsL rows)).count s = 0 then (-1 : Int) else ((ni (basinsL rows)).count s : Nat) := by
  have v := (gvalid_iff rows).1 hv
  have g := v.gd
  have e : (ni (basinsL rows)).count s = cntp (fun i => ((endN rows.length (rowLen rows) (hgt rows) i : Nat) : Int) = s) (rows.length * rowLen rows) := by
    simp only [basinsL, hv, if_true]; exact count_range _ _ _
  rw [e, basinOf]
  by_cases h : gvalid rows = true ∧ 0 ≤ s ∧ s < (rows.length * rowLen rows : Nat) ∧ nextN rows.length (rowLen rows) (hgt rows) s.toNat = s.toNat
  · rw [if_pos h]
    have h1 := cntp_pos (fun i => ((endN rows.length (rowLen rows) (hgt rows) i : Nat) : Int) = s) (rows.length * rowLen rows) s.toNat (by omega) (by
      rw [endN_sink g (by omega) h.2.2.2]; omega)
    rw [if_neg (by omega)]
  · rw [if_neg h]
    have h1 := cntp_zero (fun i => ((endN rows.length (rowLen rows) (hgt rows) i : Nat) : Int) = s) (rows.length * rowLen rows) (fun i hi he => by
      have := endN_lt g i hi
      refine h ⟨hv, by omega, by omega, ?_⟩
      have e2 : s.toNat = endN rows.length (rowLen rows) (hgt rows) i := by omega
      rw [e2]; exact this.2)
    rw [h1]; rfl
end Go.SW
namespace Go.Proofs.Ytdlepfeckiahdaa
open Go.RowKit Go.SW

theorem l2Count_c (a : Option Addr) (l : List Int) (c : Nat) (x : Int) (w : World) (hl : IntS w a l) (hn : l.length ≤ 1000000) :
    Ret Try.prog 79 #[.slice a l.length c, .int .i64 x] w fun v w' => v = .int .i64 (l.count x : Nat) ∧ Ext w w' := by
  refine enter2 Try.func79 rfl (by kernel_rfl) (of_decide_eq_true (by kernel_rfl)) fun f a0 a1 => ?_
  simp (disch := omega) only [go_sem, Nat.reduceEqDiff, ↓reduceIte, Nat.reduceAdd]
  refine loopN l.length (fun k f W => f 0 = .slice a l.length c ∧ f 1 = .int .i64 x ∧ f 5 = .int .i64 ((l.take k).count x : Nat) ∧ f 6 = .int .i64 k ∧ Ext w W) ⟨(by first | assumption | (simp only [upd_apply, Nat.reduceEqDiff, ↓reduceIte] <;> first | rfl | assumption) | simp [upd_apply, *]), (by first | assumption | (simp only [upd_apply, Nat.reduceEqDiff, ↓reduceIte] <;> first | rfl | assumption) | simp [upd_apply, *]), (by first | assumption | (simp only [upd_apply, Nat.reduceEqDiff, ↓reduceIte] <;> first | rfl | assumption) | simp [upd_apply, *]), (by first | assumption | (simp only [upd_apply, Nat.reduceEqDiff, ↓reduceIte] <;> first | rfl | assumption) | simp [upd_apply, *]), Ext.refl _⟩ fun k f W hk ⟨a0, a1, a5, a6, xw⟩ => ?_
  by_cases hlt : (k : Int) < l.length
  · obtain ⟨b', o', rfl⟩ := hl.head (by intro e; rw [e] at hlt; simp at hlt; omega)
    have g0 := (hl.ext xw).cell b' o' rfl k (by omega)
    have hstep := count_vi_take (l := l) (x := x) (k := k) (by omega)
    have hcl : (l.take k).count x ≤ (l.take k).length := List.count_le_length
    rw [List.length_take] at hcl
    by_cases hx : l.getD k 0 = x
    · have hbq : (l.getD k 0 == x) = true := by simpa using hx
      rw [if_pos hx] at hstep
      simp (disch := omega) only [go_sem, Nat.reduceEqDiff, ↓reduceIte, Nat.reduceAdd, a0, a1, a5, a6, hlt, g0, hbq]
      exact ⟨by omega, (by first | assumption | (simp only [upd_apply, Nat.reduceEqDiff, ↓reduceIte] <;> first | rfl | assumption) | simp [upd_apply, *]), (by first | assumption | (simp only [upd_apply, Nat.reduceEqDiff, ↓reduceIte] <;> first | rfl | assumption) | simp [upd_apply, *]), by simp [upd_apply, hstep], (by first | assumption | (simp only [upd_apply, Nat.reduceEqDiff, ↓reduceIte] <;> first | rfl | assumption) | simp [upd_apply, *]), xw⟩
    · have hbq : (l.getD k 0 == x) = false := by simpa using hx
      rw [if_neg hx] at hstep
      simp (disch := omega) only [go_sem, Nat.reduceEqDiff, ↓reduceIte, Nat.reduceAdd, a0, a1, a5, a6, hlt, g0, hbq]
      exact ⟨by omega, (by first | assumption | (simp only [upd_apply, Nat.reduceEqDiff, ↓reduceIte] <;> first | rfl | assumption) | simp [upd_apply, *]), (by first | assumption | (simp only [upd_apply, Nat.reduceEqDiff, ↓reduceIte] <;> first | rfl | assumption) | simp [upd_apply, *]), by simp [upd_apply, hstep, a5], (by first | assumption | (simp only [upd_apply, Nat.reduceEqDiff, ↓reduceIte] <;> first | rfl | assumption) | simp [upd_apply, *]), xw⟩
  · obtain rfl : k = l.length := by omega
    simp (disch := omega) only [go_sem, Nat.reduceEqDiff, ↓reduceIte, Nat.reduceAdd, a0, a5, a6, hlt, List.take_length, Try.results79]
    exact ⟨trivial, xw⟩

end Go.Proofs.Ytdlepfeckiahdaa
