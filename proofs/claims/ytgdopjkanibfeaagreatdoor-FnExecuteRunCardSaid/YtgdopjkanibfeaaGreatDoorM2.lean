/- Water on a grid: what the water functions answer. Plain law: no program occurs here. -/
import Derived.Test.YtgdopjkanibfeaaGreatDoorM1
set_option linter.all false
set_option maxRecDepth 20000
namespace Go.SW

theorem vi_range_set {n x : Nat} {f g : Nat → Nat} {y : Int} (hx : x < n) (hy : y = (g x : Int)) (hg : ∀ j, j < n → j ≠ x → g j = f j) :
    (vi (ni ((List.range n).map f))).set x (.int .i64 y) = vi (ni ((List.range n).map g)) := by
  apply List.ext_getElem?
  intro j
  rw [List.getElem?_set]
  by_cases e : x = j
  · subst e; simp [vi, ni, hx, hy]
  · rw [if_neg e]
    by_cases hj : j < n
    · simp [vi, ni, hj, hg j hj (Ne.symm e)]
    · simp [vi, ni, hj]
theorem ni_inj : ∀ {a b : List Nat}, ni a = ni b → a = b
  | [], [], _ => rfl
  | [], _ :: _, h => by simp [ni] at h
  | _ :: _, [], h => by simp [ni] at h
  | x :: a, y :: b, h => by
    simp only [ni, List.map_cons, List.cons.injEq] at h
    rw [ni_inj (a := a) (b := b) h.2, show x = y by omega]
theorem vi_range_len (n : Nat) (f : Nat → Nat) : (vi (ni ((List.range n).map f))).length = n := by simp [vi, ni]
theorem vi_range_get {n x : Nat} (f : Nat → Nat) (hx : x < n) : (vi (ni ((List.range n).map f)))[x]? = some (.int .i64 (f x : Nat)) := by simp [vi, ni, hx]
theorem ni_range_len (n : Nat) (f : Nat → Nat) : (ni ((List.range n).map f)).length = n := by simp [ni]

section
variable (R C : Nat) (h : Nat → Int)
/-- How often j stands in the runs of the first k cells. -/
def flowTo : Nat → Nat → Nat
  | 0, _ => 0
  | k + 1, j => flowTo k j + (waterN R C h k).count j
def longTo : Nat → Nat
  | 0 => 0
  | k + 1 => max (longTo k) (waterN R C h k).length
def divP (i j : Nat) : Bool := decide (i < j) && decide (endN R C h i ≠ endN R C h j)
def divTo : Nat → Nat
  | 0 => 0
  | k + 1 => divTo k + (nearN R C k).countP (divP R C h k)
theorem flowTo_le (g : Gd R C h) : ∀ k, k ≤ R * C → ∀ j, flowTo R C h k j ≤ k * 100
  | 0, _, _ => Nat.zero_le _
  | k + 1, hk, j => by
    have h1 := flowTo_le g k (by omega) j
    have h2 := waterN_len g k (by omega)
    have h3 := g.hh k (by omega)
    have h4 : (waterN R C h k).count j ≤ (waterN R C h k).length := List.count_le_length
    simp only [flowTo]; omega
theorem longTo_le (g : Gd R C h) : ∀ k, k ≤ R * C → longTo R C h k ≤ 100
  | 0, _ => Nat.zero_le _
  | k + 1, hk => by
    have h1 := longTo_le g k (by omega)
    have h2 := waterN_len g k (by omega)
    have h3 := g.hh k (by omega)
    simp only [longTo]; omega
theorem divTo_le : ∀ k, divTo R C h k ≤ 4 * k
  | 0 => Nat.zero_le _
  | k + 1 => by
    have h1 := divTo_le k
    have h2 : (nearN R C k).countP (divP R C h k) ≤ (nearN R C k).length := List.countP_le_length
    have h3 := nearN_len R C k
    simp only [divTo]; omega
end
theorem countP_take {l : List Nat} {p : Nat → Bool} {m : Nat} (hm : m < l.length) : (l.take (m + 1)).countP p = (l.take m).countP p + if p (l.getD m 0) then 1 else 0 := by
  rw [List.take_succ_eq_append_getElem hm, List.countP_append, getD_at l 0 hm]
  simp [List.countP_cons]

/-- What the water functions answer. -/
def basinsL (rows : List (List Int)) : List Nat := if gvalid rows = true then (List.range (rows.length * rowLen rows)).map (endN rows.length (rowLen rows) (hgt rows)) else []
def flowL (rows : List (List Int)) : List Nat := if gvalid rows = true then (List.range (rows.length * rowLen rows)).map (flowTo rows.length (rowLen rows) (hgt rows) (rows.length * rowLen rows)) else []
def longOf (rows : List (List Int)) : Int := if gvalid rows = true then (longTo rows.length (rowLen rows) (hgt rows) (rows.length * rowLen rows) : Nat) else -1
def divOf (rows : List (List Int)) : Int := if gvalid rows = true then (divTo rows.length (rowLen rows) (hgt rows) (rows.length * rowLen rows) : Nat) else -1
def basinOf (rows : List (List Int)) (s : Int) : Int :=
  if gvalid rows = true ∧ 0 ≤ s ∧ s < (rows.length * rowLen rows : Nat) ∧ nextN rows.length (rowLen rows) (hgt rows) s.toNat = s.toNat then (cntp (fun i => ((endN rows.length (rowLen rows) (hgt rows) i : Nat) : Int) = s) (rows.length * rowLen rows) : Nat) else -1
end Go.SW
