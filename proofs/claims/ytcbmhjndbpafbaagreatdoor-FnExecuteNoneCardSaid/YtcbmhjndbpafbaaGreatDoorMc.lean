import Derived.Test.YtcbmhjndbpafbaaGreatDoorZ7
set_option linter.all false
set_option maxRecDepth 20000
namespace Go.SW
open Go Go.RowKit
def Ended (s : List UInt8) : Prop := s = [] ∨ ∃ p, s = p ++ [10]
theorem spl_add (c : UInt8) : ∀ l m : List UInt8, spl c (l ++ c :: m) = spl c l ++ spl c m
 | [], m => by simp [spl]
 | b :: l, m => by
  have ih := spl_add c l m
  by_cases h : b = c
  ·simp only [List.cons_append, spl, if_pos h, ih]
  ·simp only [List.cons_append, spl, if_neg h, ih]
   cases hs : spl c l with
   | nil => exact (spl_ne c l hs).elim
   | cons p ps => rfl
theorem spl_ended {s : List UInt8} (h : Ended s) (m : List UInt8) : (spl 10 (s ++ m)).dropLast = (spl 10 s).dropLast ++ (spl 10 m).dropLast := by
 rcases h with rfl | ⟨p, rfl⟩
 ·simp [spl]
 ·rw [List.append_assoc, List.singleton_append, spl_add, spl_add 10 p [], List.dropLast_append_of_ne_nil (spl_ne _ _)]; simp [spl]
def lastN (t : List UInt8) : Nat → Nat
 | 0 => 0
 | n + 1 => if t.getD n 0 = 10 then n + 1 else lastN t n
theorem lastN_end (t : List UInt8) : ∀ n, n ≤ t.length → Ended (t.take (lastN t n))
 | 0, _ => .inl (by simp [lastN])
 | n + 1, h => by
  simp only [lastN]
  split
  ·rename_i e
   refine .inr ⟨t.take n, ?_⟩
   rw [List.take_succ_eq_append_getElem om]
   rw [getD_at t 0 om] at e
   rw [e]
  ·exact lastN_end t n om
theorem lastN_no (t : List UInt8) : ∀ n j, lastN t n ≤ j → j < n → t.getD j 0 ≠ 10
 | 0, _, _, h => om
 | n + 1, j, h1, h2 => by
  simp only [lastN] at h1
  split at h1
  ·omega
  ·rename_i e
   by_cases ej : j = n
   ·rw [ej]; exact e
   ·exact lastN_no t n j h1 om
def comp (t : List UInt8) : List UInt8 := t.take (lastN t t.length)
theorem comp_ended (t : List UInt8) : Ended (comp t) := lastN_end t _ (Nat.le_refl _)
theorem comp_len (t : List UInt8) : (comp t).length ≤ t.length := by rw [comp, List.length_take]; omega
theorem comp_spl (t : List UInt8) : (spl 10 (comp t)).dropLast = (spl 10 t).dropLast := by
 have h : (10 : UInt8) ∉ t.drop (lastN t t.length) := fun hx => by
  obtain ⟨j, hj, e⟩ := List.getElem_of_mem hx
  rw [List.length_drop] at hj
  rw [List.getElem_drop] at e
  refine lastN_no t t.length (lastN t t.length + j) om om ?_
  rw [getD_at t 0 om, e]
 conv => rhs; rw [← List.take_append_drop (lastN t t.length) t]
 have := spl_ended (comp_ended t) (t.drop (lastN t t.length))
 rw [comp] at *
 rw [this, spl_none h]
 simp
end Go.SW
namespace Go.Proofs.YtcbmhjndbpafbaaGreatDoor
open Go.RowKit Go.SW
def endE (d : Dk) : List UInt8 := [114, 111, 119, 115, 32] ++ dec d.rows.length ++ [32, 99, 111, 108, 117, 109, 110, 115, 32] ++ dec (rowLen d.rows) ++ [32, 108, 97, 98, 101, 108, 115, 32] ++ dec d.labs.length
theorem endE_noline {d : Dk} (h : d.Good) : (10 : UInt8) ∉ endE d := by
 have h1 := h.1.r7
 have h2 := h.1.c7
 have h3 := h.2.1
 have n1 := dec_noline (n := d.rows.length) om
 have n2 := dec_noline (n := rowLen d.rows) om
 have n3 := dec_noline (n := d.labs.length) om
 simp [endE, n1, n2, n3]
theorem endL_len {d : Dk} (h : d.Good) : 1 ≤ (endL d).length ∧ (endL d).length ≤ 100 := by
 have h1 := h.1.r7
 have h2 := h.1.c7
 have h3 := h.2.1
 have n1 := dec_len2 (n := d.rows.length) om
 have n2 := dec_len2 (n := rowLen d.rows) om
 have n3 := dec_len2 (n := d.labs.length) om
 simp [endL]; omega
theorem exF_none : exF [] = [114, 111, 119, 115, 32, 49, 32, 99, 111, 108, 117, 109, 110, 115, 32, 49, 32, 108, 97, 98, 101, 108, 115, 32, 48, 10] := by
 have e1 : dec 1 = [49] := by rw [dec_lt om]; rfl
 have e0 : dec 0 = [48] := by rw [dec_lt om]; rfl
 have r1 : rowLen [[0]] = 1 := rfl
 simp [exF, spl, runF, endL, d0, e1, e0, r1]
theorem exF_comp {t : List UInt8} (h : t.length ≤ 600) : exF (comp t) = exF t := by
 have := comp_len t
 rw [exF, exF, if_neg om, if_neg om, comp_spl]
def dkF (s : List UInt8) : Dk := (runF d0 (spl 10 s).dropLast).1
def outF (s : List UInt8) : List UInt8 := (runF d0 (spl 10 s).dropLast).2
theorem exF_le {s : List UInt8} (h : s.length ≤ 600) : exF s = outF s ++ endL (dkF s) := by rw [exF, if_neg om]; rfl
theorem dkF_good (s : List UInt8) : (dkF s).Good := runF_good _ d0_good
end Go.Proofs.YtcbmhjndbpafbaaGreatDoor
