/- Contracts: sides, corners, shore and Euler number of a level, both sides. -/
import Derived.Test.YtlnodngkacbfkaaJ2
import Derived.Test.YtlnodngkacbfkaaWn
import Derived.Test.YtlnodngkacbfkaaM3
set_option linter.all false
set_option maxRecDepth 20000
namespace Go.SW
section
variable (R C : Nat) (h : Nat → Int) (lv : Int)
def landB (i : Nat) : Bool := decide (lv ≤ h i)
def sideP (i j : Nat) : Bool := decide (i < j) && (landB h lv i && landB h lv j)
def sidesTo : Nat → Nat
  | 0 => 0
  | k + 1 => sidesTo k + (nearN R C k).countP (sideP h lv k)
def quadP (r c : Nat) : Prop := lv ≤ h (r * C + c) ∧ lv ≤ h (r * C + (c + 1)) ∧ lv ≤ h ((r + 1) * C + c) ∧ lv ≤ h ((r + 1) * C + (c + 1))
instance (r : Nat) : DecidablePred (quadP C h lv r) := fun c => inferInstanceAs (Decidable (lv ≤ h (r * C + c) ∧ lv ≤ h (r * C + (c + 1)) ∧ lv ≤ h ((r + 1) * C + c) ∧ lv ≤ h ((r + 1) * C + (c + 1))))
def cornTo (k : Nat) : Nat := sumN (fun r => cntp (quadP C h lv r) (C - 1)) k
def shoreTo : Nat → Int
  | 0 => 0
  | k + 1 => shoreTo k + (if lv ≤ h k then (4 : Int) - (((nearN R C k).countP (landB h lv) : Nat) : Int) else (0 : Int))
theorem sidesTo_le : ∀ k, sidesTo R C h lv k ≤ 4 * k
  | 0 => Nat.zero_le _
  | k + 1 => by
    have h1 := sidesTo_le k
    have h2 : (nearN R C k).countP (sideP h lv k) ≤ (nearN R C k).length := List.countP_le_length
    have h3 := nearN_len R C k
    simp only [sidesTo]; omega
theorem shoreTo_le : ∀ k, 0 ≤ shoreTo R C h lv k ∧ shoreTo R C h lv k ≤ 4 * k
  | 0 => by simp [shoreTo]
  | k + 1 => by
    have h1 := shoreTo_le k
    have h2 : (nearN R C k).countP (landB h lv) ≤ (nearN R C k).length := List.countP_le_length
    have h3 := nearN_len R C k
    simp only [shoreTo]; split <;> omega
theorem cornTo_le : ∀ k, cornTo C h lv k ≤ C * k
  | 0 => Nat.zero_le _
  | k + 1 => by
    have h1 := cornTo_le k
    have h2 := cntp_le (quadP C h lv k) (C - 1)
    simp only [cornTo, sumN] at h1 ⊢
    rw [Nat.mul_add]; omega
end
def sidesOf (rows : List (List Int)) (lv : Int) : Int := if lvok rows lv = true then (sidesTo rows.length (rowLen rows) (hgt rows) lv (rows.length * rowLen rows) : Nat) else -1
def cornersOf (rows : List (List Int)) (lv : Int) : Int := if lvok rows lv = true then (cornTo (rowLen rows) (hgt rows) lv (rows.length - 1) : Nat) else -1
def shoreOf (rows : List (List Int)) (lv : Int) : Int := if lvok rows lv = true then shoreTo rows.length (rowLen rows) (hgt rows) lv (rows.length * rowLen rows) else -1
theorem lv_parts {rows : List (List Int)} {lv : Int} (h : lvok rows lv = true) : gvalid rows = true ∧ 0 ≤ lv ∧ lv ≤ 99 := by
  simp only [lvok, Bool.and_eq_true, decide_eq_true_eq] at h; exact h
end Go.SW
namespace Go.Proofs.Ytlnodngkacbfkaa
open Go.RowKit Go.SW

def eulerOf (rows : List (List Int)) (lv : Int) : Int := if lvok rows lv = true then cornersOf rows lv - sidesOf rows lv + landOf rows lv else -1000

theorem corner_le {R C r c : Nat} (h1 : r < R) (h2 : c < C) : r * C + c < R * C := by
  have := Nat.mul_le_mul_right C (show r + 1 ≤ R by omega)
  rw [Nat.add_mul, Nat.one_mul] at this; omega

end Go.Proofs.Ytlnodngkacbfkaa
