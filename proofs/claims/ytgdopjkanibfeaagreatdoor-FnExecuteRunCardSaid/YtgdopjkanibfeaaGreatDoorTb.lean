/- Facts on this seat's types; numbers in decimals; l6Dec, Itoa. -/
import Derived.Test.YtgdopjkanibfeaaGreatDoorTa
import Derived.Test.YtgdopjkanibfeaaGreatDoorEx
set_option linter.all false
set_option maxRecDepth 20000
namespace Go.SW
open Go Go.RowKit
/-- A number in decimals. -/
def dec (n : Nat) : List UInt8 := if n < 10 then [UInt8.ofNat (48 + n)] else dec (n / 10) ++ [UInt8.ofNat (48 + n % 10)]
termination_by n
theorem dec_lt {n : Nat} (h : n < 10) : dec n = [UInt8.ofNat (48 + n)] := by rw [dec, if_pos h]
theorem dec_ge {n : Nat} (h : ¬ n < 10) : dec n = dec (n / 10) ++ [UInt8.ofNat (48 + n % 10)] := by rw [dec, if_neg h]
theorem dec_len (n : Nat) : 1 ≤ (dec n).length ∧ (dec n).length ≤ n + 1 := by
  induction n using Nat.strongRecOn with
  | _ n ih =>
    by_cases h : n < 10
    · rw [dec_lt h]; simp
    · rw [dec_ge h]
      have := ih (n / 10) (by omega)
      simp only [List.length_append, List.length_cons, List.length_nil]
      omega
end Go.SW
namespace Go.Proofs.YtgdopjkanibfeaaGreatDoor
open Go.RowKit Go.SW
theorem aggN_pl : aggN Tryz.prog 183 = some 2 := by kernel_rfl
theorem scal_pl : scal Tryz.prog 183 = false := by kernel_rfl
theorem siz_pl : (Tryz.prog.info? 183).map (·.size) = some 2 := by kernel_rfl
theorem foff_pl0 : foff Tryz.prog 183 0 = some 0 := by kernel_rfl
theorem foff_pl1 : foff Tryz.prog 183 1 = some 1 := by kernel_rfl
theorem zero_pl : zeroC Tryz.prog 183 = some #[.int .i64 0, .int .i64 0] := by kernel_rfl
theorem bld_pl (a b : Int) : buildV Tryz.prog 183 [(0, .int .i64 a), (1, .int .i64 b)] = some (.agg #[.int .i64 a, .int .i64 b]) := by kernel_rfl
attribute [go_sem] aggN_pl scal_pl foff_pl0 foff_pl1 bld_pl
theorem aggN_sh : aggN Tryz.prog 194 = some 2 := by kernel_rfl
theorem scal_sh : scal Tryz.prog 194 = false := by kernel_rfl
theorem siz_sh : (Tryz.prog.info? 194).map (·.size) = some 2 := by kernel_rfl
theorem foff_sh0 : foff Tryz.prog 194 0 = some 0 := by kernel_rfl
theorem foff_sh1 : foff Tryz.prog 194 1 = some 1 := by kernel_rfl
theorem zero_sh : zeroC Tryz.prog 194 = some #[.int .i64 0, .int .i64 0] := by kernel_rfl
theorem bld_sh (a b : Int) : buildV Tryz.prog 194 [(0, .int .i64 a), (1, .int .i64 b)] = some (.agg #[.int .i64 a, .int .i64 b]) := by kernel_rfl
theorem bld_sh0 : buildV Tryz.prog 194 [] = some (.agg #[.int .i64 0, .int .i64 0]) := by kernel_rfl
attribute [go_sem] aggN_sh scal_sh foff_sh0 foff_sh1 bld_sh bld_sh0
theorem isStr_str : isStr Tryz.prog 9 = true := by kernel_rfl
theorem cv_i8 (x : Int) : cvV Tryz.prog 3 5 (.int .i64 x) = some (.int .u8 (IntKind.u8.wrap x)) := by kernel_rfl
theorem cvb_bs : byteSl Tryz.prog 22 9 = true := by kernel_rfl
theorem elt_s : elt Tryz.prog 62 = some (9, 1, .string (bs []), 16) := by kernel_rfl
theorem binb_neqT (a b : Bool) : binV Tryz.prog .neq 4 (.bool a) (.bool b) = some (.bool (!(a == b))) := by kernel_rfl
theorem binb_eqlT (a b : Bool) : binV Tryz.prog .eql 4 (.bool a) (.bool b) = some (.bool (a == b)) := by kernel_rfl
attribute [go_sem] isStr_str cv_i8 binb_neqT binb_eqlT

def tbl2 : List UInt8 := [48,48,48,49,48,50,48,51,48,52,48,53,48,54,48,55,48,56,48,57,49,48,49,49,49,50,49,51,49,52,49,53,49,54,49,55,49,56,49,57,50,48,50,49,50,50,50,51,50,52,50,53,50,54,50,55,50,56,50,57,51,48,51,49,51,50,51,51,51,52,51,53,51,54,51,55,51,56,51,57,52,48,52,49,52,50,52,51,52,52,52,53,52,54,52,55,52,56,52,57,53,48,53,49,53,50,53,51,53,52,53,53,53,54,53,55,53,56,53,57,54,48,54,49,54,50,54,51,54,52,54,53,54,54,54,55,54,56,54,57,55,48,55,49,55,50,55,51,55,52,55,53,55,54,55,55,55,56,55,57,56,48,56,49,56,50,56,51,56,52,56,53,56,54,56,55,56,56,56,57,57,48,57,49,57,50,57,51,57,52,57,53,57,54,57,55,57,56,57,57]
def tbl1 : List UInt8 := [48,49,50,51,52,53,54,55,56,57,97,98,99,100,101,102,103,104,105,106,107,108,109,110,111,112,113,114,115,116,117,118,119,120,121,122]
theorem tbl2_ok : ∀ n : Nat, n < 100 → List.take ((2 * n + 2) - 2 * n) (List.drop (2 * n) tbl2) = [UInt8.ofNat (48 + n / 10), UInt8.ofNat (48 + n % 10)] := by decide +kernel
theorem tbl1_ok : ∀ n : Nat, n < 10 → List.take ((n + 1) - n) (List.drop n tbl1) = [UInt8.ofNat (48 + n)] := by decide +kernel

theorem eq1 : bs [48, 49, 50, 51, 52, 53, 54, 55, 56, 57, 97, 98, 99, 100, 101, 102, 103, 104, 105, 106, 107, 108, 109, 110, 111, 112, 113, 114, 115, 116, 117, 118, 119, 120, 121, 122] = bs tbl1 := (rfl)
theorem eq2 : bs (([48, 48, 48, 49, 48, 50, 48, 51, 48, 52, 48, 53, 48, 54, 48, 55, 48, 56, 48, 57, 49, 48, 49, 49, 49, 50, 49, 51, 49, 52, 49, 53, 49, 54, 49, 55, 49, 56, 49, 57, 50, 48, 50, 49, 50, 50, 50, 51, 50, 52].append [50, 53, 50, 54, 50, 55, 50, 56, 50, 57, 51, 48, 51, 49, 51, 50, 51, 51, 51, 52, 51, 53, 51, 54, 51, 55, 51, 56, 51, 57, 52, 48, 52, 49, 52, 50, 52, 51, 52, 52, 52, 53, 52, 54, 52, 55, 52, 56, 52, 57]).append ([53, 48, 53, 49, 53, 50, 53, 51, 53, 52, 53, 53, 53, 54, 53, 55, 53, 56, 53, 57, 54, 48, 54, 49, 54, 50, 54, 51, 54, 52, 54, 53, 54, 54, 54, 55, 54, 56, 54, 57, 55, 48, 55, 49, 55, 50, 55, 51, 55, 52].append [55, 53, 55, 54, 55, 55, 55, 56, 55, 57, 56, 48, 56, 49, 56, 50, 56, 51, 56, 52, 56, 53, 56, 54, 56, 55, 56, 56, 56, 57, 57, 48, 57, 49, 57, 50, 57, 51, 57, 52, 57, 53, 57, 54, 57, 55, 57, 56, 57, 57])) = bs tbl2 := by kernel_rfl

theorem small_c (n : Nat) (hn : n < 100) (w : World) :
    Ret Tryz.prog 123 #[.int .i64 n] w fun v w' => v = .string (bs (dec n)) ∧ Ext w w' := by
  refine enter1 Tryz.func123 rfl (by kernel_rfl) (of_decide_eq_true (by kernel_rfl)) fun f a0 => ?_
  have L1 : tbl1.length = 36 := rfl
  have L2 : tbl2.length = 200 := rfl
  by_cases h10 : n < 10
  · have h3 : (n : Int) < 10 := by omega
    have e0 : (n : Int) + 1 = ((n + 1 : Nat) : Int) := by omega
    simp (disch := omega) only [go_sem, Nat.reduceEqDiff, ↓reduceIte, Nat.reduceAdd, a0, h3, e0, eq1, Int.toNat_natCast, Tryz.results123]
    exact ⟨by rw [dec_lt h10, ← tbl1_ok n h10], Ext.refl _⟩
  · have h3 : ¬ (n : Int) < 10 := by omega
    have e1 : (n : Int) * 2 = ((2 * n : Nat) : Int) := by omega
    have e2 : ((2 * n : Nat) : Int) + 2 = ((2 * n + 2 : Nat) : Int) := by omega
    simp (disch := omega) only [go_sem, Nat.reduceEqDiff, ↓reduceIte, Nat.reduceAdd, a0, h3, e1, e2, eq2, Int.toNat_natCast, Tryz.results123]
    exact ⟨by rw [dec_ge h10, dec_lt (show n / 10 < 10 by omega), tbl2_ok n hn]; rfl, Ext.refl _⟩

theorem formatInt_c (n : Nat) (hn : n < 100) (w : World) :
    Ret Tryz.prog 100 #[.int .i64 n, .int .i64 10] w fun v w' => v = .string (bs (dec n)) ∧ Ext w w' := by
  refine enter2 Tryz.func100 rfl (by kernel_rfl) (of_decide_eq_true (by kernel_rfl)) fun f a0 a1 => ?_
  have h1 : (0 : Int) ≤ n := by omega
  have h2 : (n : Int) < 100 := by omega
  have h3 : ((10 : Int) == 10) = true := rfl
  simp (disch := omega) only [go_sem, Nat.reduceEqDiff, ↓reduceIte, Nat.reduceAdd, a0, a1, h1, h2, h3]
  refine callK_pure (by kernel_rfl) (small_c n hn _) fun w1 x1 => ?_
  simp (disch := omega) only [go_sem, Nat.reduceEqDiff, ↓reduceIte, Nat.reduceAdd, Tryz.results100]
  exact ⟨trivial, x1⟩
theorem itoaI_c (n : Nat) (hn : n < 100) (w : World) :
    Ret Tryz.prog 80 #[.int .i64 n] w fun v w' => v = .string (bs (dec n)) ∧ Ext w w' := by
  refine enter1 Tryz.func80 rfl (by kernel_rfl) (of_decide_eq_true (by kernel_rfl)) fun f a0 => ?_
  simp (disch := omega) only [go_sem, Nat.reduceEqDiff, ↓reduceIte, Nat.reduceAdd, a0]
  refine callK_pure (by kernel_rfl) (formatInt_c n hn _) fun w1 x1 => ?_
  simp (disch := omega) only [go_sem, Nat.reduceEqDiff, ↓reduceIte, Nat.reduceAdd, Tryz.results80]
  exact ⟨trivial, x1⟩
theorem itoa_c (n : Nat) (hn : n < 100) (w : World) :
    Ret Tryz.prog 42 #[.int .i64 n] w fun v w' => v = .string (bs (dec n)) ∧ Ext w w' := by
  refine enter1 Tryz.func42 rfl (by kernel_rfl) (of_decide_eq_true (by kernel_rfl)) fun f a0 => ?_
  simp (disch := omega) only [go_sem, Nat.reduceEqDiff, ↓reduceIte, Nat.reduceAdd, a0]
  refine callK_pure (by kernel_rfl) (itoaI_c n hn _) fun w1 x1 => ?_
  simp (disch := omega) only [go_sem, Nat.reduceEqDiff, ↓reduceIte, Nat.reduceAdd, Tryz.results42]
  exact ⟨trivial, x1⟩
end Go.Proofs.YtgdopjkanibfeaaGreatDoor
