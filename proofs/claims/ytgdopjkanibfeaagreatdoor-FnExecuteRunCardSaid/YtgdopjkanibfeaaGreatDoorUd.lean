/- Decimals in scripts, lines, joined words, as plain lists. -/
import Derived.Test.YtgdopjkanibfeaaGreatDoorTb
import Derived.Test.YtgdopjkanibfeaaGreatDoorUa
import Derived.Lib.Strings
import Derived.Lib.Join
set_option linter.all false
set_option maxRecDepth 20000
namespace Go.SW
open Go
theorem dec_2' {n : Nat} (h : n < 100) : dec n = if n < 10 then [UInt8.ofNat (48 + n)] else [UInt8.ofNat (48 + n / 10), UInt8.ofNat (48 + n % 10)] := by
  by_cases h10 : n < 10
  · rw [dec_lt h10, if_pos h10]
  · rw [dec_ge h10, if_neg h10, dec_lt (by omega)]; rfl
theorem mem_dec {n : Nat} (h : n < 100) {x : UInt8} (hx : x ∈ dec n) : 48 ≤ x.toNat ∧ x.toNat ≤ 57 := by
  rw [dec_2' h] at hx
  by_cases h10 : n < 10
  · rw [if_pos h10] at hx
    simp only [List.mem_cons, List.not_mem_nil, or_false] at hx
    subst hx
    rw [u8n' (by omega)]; omega
  · rw [if_neg h10] at hx
    simp only [List.mem_cons, List.not_mem_nil, or_false] at hx
    rcases hx with rfl | rfl
    · rw [u8n' (by omega)]; omega
    · rw [u8n' (by omega)]; omega
theorem dec_nospace {n : Nat} (h : n < 100) : (32 : UInt8) ∉ dec n := fun hx => by
  have := mem_dec h hx
  have : (32 : UInt8).toNat = 32 := rfl
  omega
theorem dec_noline {n : Nat} (h : n < 100) : (10 : UInt8) ∉ dec n := fun hx => by
  have := mem_dec h hx
  have : (10 : UInt8).toNat = 10 := rfl
  omega
/-- The number that the first k digits tell. -/
def nf (l : List UInt8) : Nat → Nat
  | 0 => 0
  | k + 1 => 10 * nf l k + ((l.getD k 0).toNat - 48)
theorem nf_dec {n : Nat} (h : n < 100) : nf (dec n) (dec n).length = n := by
  rw [dec_2' h]
  by_cases h10 : n < 10
  · rw [if_pos h10]
    simp only [List.length_cons, List.length_nil, nf, List.getD_cons_zero, Nat.zero_add]
    rw [u8n' (by omega)]; omega
  · rw [if_neg h10]
    simp only [List.length_cons, List.length_nil, nf, List.getD_cons_zero, List.getD_cons_succ, Nat.zero_add]
    rw [u8n' (by omega), u8n' (by omega)]; omega
theorem dec_len2 {n : Nat} (h : n < 100) : 1 ≤ (dec n).length ∧ (dec n).length ≤ 2 := by
  rw [dec_2' h]; split <;> simp
theorem nf_lt {l : List UInt8} : ∀ {k : Nat}, (∀ i, i < k → (l.getD i 0).toNat ≤ 57) → nf l k < 10 ^ k
  | 0, _ => by simp [nf]
  | k + 1, h => by
    have a := nf_lt (l := l) (k := k) fun i h1 => h i (by omega)
    have b := h k (by omega)
    simp only [nf, Nat.pow_succ]
    omega
theorem digits_dec {n : Nat} (h : n < 100) {i : Nat} (hi : i < (dec n).length) : 48 ≤ ((dec n).getD i 0).toNat ∧ ((dec n).getD i 0).toNat ≤ 57 := by
  have : (dec n).getD i 0 ∈ dec n := by
    rw [List.getD_eq_getElem?_getD, List.getElem?_eq_getElem hi, Option.getD_some]; exact List.getElem_mem hi
  exact mem_dec h this
/-- A text of lines, each with its end. -/
def lns : List (List UInt8) → List UInt8
  | [] => []
  | l :: r => l ++ 10 :: lns r
theorem spl_lns {L : List (List UInt8)} (h : ∀ l ∈ L, (10 : UInt8) ∉ l) : spl 10 (lns L) = L ++ [[]] := by
  induction L with
  | nil => rfl
  | cons a r ih => rw [lns, spl_app (h a (by simp)), ih fun l hl => h l (by simp [hl])]; rfl
def grd : List UInt8 := [103, 114, 105, 100, 32]
theorem join_jn (c : UInt8) (L : List (List UInt8)) : Lib.join L [c] = jn c L := by
  induction L with
  | nil => rfl
  | cons a r ih =>
    cases r with
    | nil => simp [Lib.join, List.intercalate, jn]
    | cons b r =>
      rw [jn_cons (by simp), ← ih]
      simp [Lib.join, List.intercalate]
theorem grd_pre (g : List UInt8) : Lib.hasPrefix (grd ++ g) grd = true ∧ Lib.trimPrefix (grd ++ g) grd = g := by
  have h : Lib.hasPrefix (grd ++ g) grd = true := by simp [Lib.hasPrefix]
  refine ⟨h, ?_⟩
  rw [Lib.trimPrefix, if_pos h, List.drop_left]
theorem not_grd {x : UInt8} {l : List UInt8} (h : x ≠ 103) : Lib.hasPrefix (x :: l) grd = false ∧ Lib.trimPrefix (x :: l) grd = x :: l := by
  have h1 : Lib.hasPrefix (x :: l) grd = false := by
    simp [Lib.hasPrefix, grd, List.isPrefixOf, Ne.symm h]
  exact ⟨h1, by rw [Lib.trimPrefix, if_neg (by rw [h1]; simp)]⟩
end Go.SW
