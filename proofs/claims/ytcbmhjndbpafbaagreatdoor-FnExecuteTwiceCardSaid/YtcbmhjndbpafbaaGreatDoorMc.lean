import Derived.Test.YtcbmhjndbpafbaaGreatDoorZ7
set_option linter.all false
set_option maxRecDepth 20000
namespace Go.SW
open Go Go.RowKit
def Ended (s : List UInt8) : Prop := s = [] ∨ ∃ p, s = p ++ [10]
theorem Ended.app {a b : List UInt8} (ha : Ended a) (hb : Ended b) : Ended (a ++ b) := by
 rcases hb with rfl | ⟨p, rfl⟩
 ·simpa using ha
 ·exact .inr ⟨a ++ p, by simp⟩
theorem spl_add (c : UInt8) : ∀ l m : List UInt8, spl c (l ++ c :: m) = spl c l ++ spl c m
 | [], m => by simp [spl]
 | b :: l, m => by
  have ih := spl_add c l m
  by_cases h : b = c
  ·simp only [List.cons_append, spl, if_pos h, ih]
  ·simp only [List.cons_append, spl, if_neg h, ih]
   cases hs : spl c l with
   | nil => exact (spl_ne c l hs).elim
   | cons p ps => rfl
theorem spl_ended {s : List UInt8} (h : Ended s) (m : List UInt8) : (spl 10 (s ++ m)).dropLast = (spl 10 s).dropLast ++ (spl 10 m).dropLast := by
 rcases h with rfl | ⟨p, rfl⟩
 ·simp [spl]
 ·rw [List.append_assoc, List.singleton_append, spl_add, spl_add 10 p [], List.dropLast_append_of_ne_nil (spl_ne _ _)]; simp [spl]
def lastN (t : List UInt8) : Nat → Nat
 | 0 => 0
 | n + 1 => if t.getD n 0 = 10 then n + 1 else lastN t n
theorem lastN_end (t : List UInt8) : ∀ n, n ≤ t.length → Ended (t.take (lastN t n))
 | 0, _ => .inl (by simp [lastN])
 | n + 1, h => by
  simp only [lastN]
  split
  ·rename_i e
   refine .inr ⟨t.take n, ?_⟩
   rw [List.take_succ_eq_append_getElem om]
   rw [getD_at t 0 om] at e
   rw [e]
  ·exact lastN_end t n om
theorem lastN_no (t : List UInt8) : ∀ n j, lastN t n ≤ j → j < n → t.getD j 0 ≠ 10
 | 0, _, _, h => om
 | n + 1, j, h1, h2 => by
  simp only [lastN] at h1
  split at h1
  ·omega
  ·rename_i e
   by_cases ej : j = n
   ·rw [ej]; exact e
   ·exact lastN_no t n j h1 om
def comp (t : List UInt8) : List UInt8 := t.take (lastN t t.length)
theorem comp_ended (t : List UInt8) : Ended (comp t) := lastN_end t _ (Nat.le_refl _)
theorem comp_len (t : List UInt8) : (comp t).length ≤ t.length := by rw [comp, List.length_take]; omega
theorem comp_spl (t : List UInt8) : (spl 10 (comp t)).dropLast = (spl 10 t).dropLast := by
 have h : (10 : UInt8) ∉ t.drop (lastN t t.length) := fun hx => by
  obtain ⟨j, hj, e⟩ := List.getElem_of_mem hx
  rw [List.length_drop] at hj
  rw [List.getElem_drop] at e
  refine lastN_no t t.length (lastN t t.length + j) om om ?_
  rw [getD_at t 0 om, e]
 conv => rhs; rw [← List.take_append_drop (lastN t t.length) t]
 have := spl_ended (comp_ended t) (t.drop (lastN t t.length))
 rw [comp] at *
 rw [this, spl_none h]
 simp
end Go.SW
namespace Go.Proofs.YtcbmhjndbpafbaaGreatDoor
open Go.RowKit Go.SW
theorem saidF_ended (d : Dk) (ok : Bool) {s : List UInt8} (h : Ended s) : Ended (saidF d ok s).2 := by
 cases ok
 ·exact .inr ⟨[110, 111], rfl⟩
 ·exact h
theorem becomeF_ended (d : Dk) (o : Option (List (List Int))) : Ended (becomeF d o).2 := by
 cases o
 ·exact .inr ⟨[110, 111], rfl⟩
 ·exact .inr ⟨[111, 107], rfl⟩
theorem doF_ended (i : Nat) (n : List Nat) (d : Dk) : Ended (doF i n d).2 := by
 unfold doF
 split
 all_goals try exact becomeF_ended _ _
 all_goals try exact saidF_ended _ _ (.inr ⟨_, rfl⟩)
 ·refine saidF_ended _ _ ?_
  split
  ·exact .inr ⟨[121, 101, 115], rfl⟩
  ·exact .inr ⟨[104, 105, 100, 100, 101, 110], rfl⟩
 ·split
  ·exact .inr ⟨[111, 107], rfl⟩
  ·exact .inr ⟨[110, 111], rfl⟩
 ·refine saidF_ended _ _ ?_
  rw [mtext_eq, mpre_succ]
  exact .inr ⟨_, rfl⟩
theorem lineF_ended (d : Dk) (l : List UInt8) : Ended (lineF d l).2 := by
 unfold lineF
 split
 ·exact becomeF_ended _ _
 ·split
  ·split
   ·exact doF_ended _ _ _
   ·exact .inr ⟨[119, 104, 97, 116], rfl⟩
  ·exact .inr ⟨[119, 104, 97, 116], rfl⟩
theorem runF_ended : ∀ (L : List (List UInt8)) (d : Dk), Ended (runF d L).2
 | [], _ => .inl rfl
 | l :: L, d => (lineF_ended d l).app (runF_ended L _)
def endE (d : Dk) : List UInt8 := [114, 111, 119, 115, 32] ++ dec d.rows.length ++ [32, 99, 111, 108, 117, 109, 110, 115, 32] ++ dec (rowLen d.rows) ++ [32, 108, 97, 98, 101, 108, 115, 32] ++ dec d.labs.length
theorem endL_eq (d : Dk) : endL d = endE d ++ [10] := rfl
theorem endE_noline {d : Dk} (h : d.Good) : (10 : UInt8) ∉ endE d := by
 have h1 := h.1.r7
 have h2 := h.1.c7
 have h3 := h.2.1
 have n1 := dec_noline (n := d.rows.length) om
 have n2 := dec_noline (n := rowLen d.rows) om
 have n3 := dec_noline (n := d.labs.length) om
 simp [endE, n1, n2, n3]
theorem endL_len {d : Dk} (h : d.Good) : 1 ≤ (endL d).length ∧ (endL d).length ≤ 100 := by
 have h1 := h.1.r7
 have h2 := h.1.c7
 have h3 := h.2.1
 have n1 := dec_len2 (n := d.rows.length) om
 have n2 := dec_len2 (n := rowLen d.rows) om
 have n3 := dec_len2 (n := d.labs.length) om
 simp [endL]; omega
theorem exF_comp {t : List UInt8} (h : t.length ≤ 600) : exF (comp t) = exF t := by
 have := comp_len t
 rw [exF, exF, if_neg om, if_neg om, comp_spl]
def dkF (s : List UInt8) : Dk := (runF d0 (spl 10 s).dropLast).1
def outF (s : List UInt8) : List UInt8 := (runF d0 (spl 10 s).dropLast).2
theorem exF_le {s : List UInt8} (h : s.length ≤ 600) : exF s = outF s ++ endL (dkF s) := by rw [exF, if_neg om]; rfl
theorem dkF_good (s : List UInt8) : (dkF s).Good := runF_good _ d0_good
theorem outF_ended (s : List UInt8) : Ended (outF s) := runF_ended _ _
theorem exF_add {s m : List UInt8} (hs : Ended s) (h : (s ++ m).length ≤ 600) : exF (s ++ m) = outF s ++ (runF (dkF s) (spl 10 m).dropLast).2 ++ endL (runF (dkF s) (spl 10 m).dropLast).1 := by
 rw [exF, if_neg om, spl_ended hs, runF_app]; rfl
def showT : List UInt8 := [115, 104, 111, 119, 10]
def wrongT : List UInt8 := [122, 122, 122, 10, 115, 101, 116, 32, 57, 32, 57, 32, 57, 10]
theorem show_spl : (spl 10 showT).dropLast = [[115, 104, 111, 119]] := by decide
theorem show2_spl : (spl 10 (showT ++ showT)).dropLast = [[115, 104, 111, 119], [115, 104, 111, 119]] := by decide
theorem wrong_spl : (spl 10 wrongT).dropLast = [[122, 122, 122], [115, 101, 116, 32, 57, 32, 57, 32, 57]] := by decide
theorem lineF_show (d : Dk) : lineF d [115, 104, 111, 119] = (d, gtext d.rows ++ [10]) := by
 have h1 : Lib.hasPrefix [115, 104, 111, 119] grd = false := by decide
 have h2 : spl 32 [115, 104, 111, 119] = [[115, 104, 111, 119]] := by decide
 have h3 : ordX [115, 104, 111, 119] = some 5 := by decide
 rw [lineF, h1, h2]
 simp only [Bool.false_eq_true, if_false, List.getD_cons_zero, h3]
 rfl
theorem lineF_zzz (d : Dk) : lineF d [122, 122, 122] = (d, whT) := by
 have h1 : Lib.hasPrefix [122, 122, 122] grd = false := by decide
 have h2 : spl 32 [122, 122, 122] = [[122, 122, 122]] := by decide
 have h3 : ordX [122, 122, 122] = none := by decide
 rw [lineF, h1, h2]
 simp only [Bool.false_eq_true, if_false, List.getD_cons_zero, h3]
theorem lineF_set9 {d : Dk} (h : d.Good) : lineF d [115, 101, 116, 32, 57, 32, 57, 32, 57] = (d, noT) := by
 have h1 : Lib.hasPrefix [115, 101, 116, 32, 57, 32, 57, 32, 57] grd = false := by decide
 have h2 : spl 32 [115, 101, 116, 32, 57, 32, 57, 32, 57] = [[115, 101, 116], [57], [57], [57]] := by decide
 have h3 : ordX [115, 101, 116] = some 0 := by decide
 have h4 : ([[57], [57], [57]] : List (List UInt8)).map numV = [9, 9, 9] := by decide
 have hc : cellok d.rows (9 : Nat) (9 : Nat) = false := by
  have h7 := h.1.r7
  cases hh : cellok d.rows (9 : Nat) (9 : Nat) with
  | false => rfl
  | true => simp only [cellok, Bool.and_eq_true, decide_eq_true_eq] at hh; omega
 rw [lineF, h1, h2]
 simp only [Bool.false_eq_true, if_false, List.getD_cons_zero, h3]
 rw [if_pos dc, List.tail_cons, h4, doF]
 simp only [List.getD_cons_zero, List.getD_cons_succ, hc]
 rfl
theorem exF_wrong {s : List UInt8} (hs : Ended s) (h : s.length ≤ 584) : exF (s ++ wrongT) = outF s ++ (whT ++ noT) ++ endL (dkF s) := by
 rw [exF_add hs (by rw [List.length_append]; simp [wrongT]; omega), wrong_spl]
 simp only [runF, lineF_zzz, lineF_set9 (dkF_good s), List.append_nil]
theorem exF_show {s : List UInt8} (hs : Ended s) (h : s.length ≤ 590) : exF (s ++ showT) = outF s ++ (gtext (dkF s).rows ++ [10]) ++ endL (dkF s) := by
 rw [exF_add hs (by rw [List.length_append]; simp [showT]; omega), show_spl]
 simp only [runF, lineF_show, List.append_nil]
theorem exF_show2 {s : List UInt8} (hs : Ended s) (h : s.length ≤ 590) : exF (s ++ (showT ++ showT)) = outF s ++ ((gtext (dkF s).rows ++ [10]) ++ (gtext (dkF s).rows ++ [10])) ++ endL (dkF s) := by
 rw [exF_add hs (by rw [List.length_append]; simp [showT]; omega), show2_spl]
 simp only [runF, lineF_show, List.append_nil]
end Go.Proofs.YtcbmhjndbpafbaaGreatDoor
