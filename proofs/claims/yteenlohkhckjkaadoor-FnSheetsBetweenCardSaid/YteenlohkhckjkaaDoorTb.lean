/- Facts on this seat's types; numbers in decimals; l6Dec, Itoa. -/
import Derived.Test.YteenlohkhckjkaaDoorTa
import Derived.Test.YteenlohkhckjkaaDoorEx
set_option linter.all false
set_option maxRecDepth 20000
namespace Go.SW
open Go Go.RowKit
/-- A number in decimals. -/
def dec (n : Nat) : List UInt8 := if n < 10 then [UInt8.ofNat (48 + n)] else dec (n / 10) ++ [UInt8.ofNat (48 + n % 10)]
termination_by n
theorem dec_lt {n : Nat} (h : n < 10) : dec n = [UInt8.ofNat (48 + n)] := by rw [dec, if_pos h]
theorem dec_ge {n : Nat} (h : ¬ n < 10) : dec n = dec (n / 10) ++ [UInt8.ofNat (48 + n % 10)] := by rw [dec, if_neg h]
theorem dec_len (n : Nat) : 1 ≤ (dec n).length ∧ (dec n).length ≤ n + 1 := by
  induction n using Nat.strongRecOn with
  | _ n ih =>
    by_cases h : n < 10
    · rw [dec_lt h]; simp
    · rw [dec_ge h]
      have := ih (n / 10) (by omega)
      simp only [List.length_append, List.length_cons, List.length_nil]
      omega
end Go.SW
namespace Go.Proofs.YteenlohkhckjkaaDoor
open Go.RowKit Go.SW
theorem aggN_pl : aggN Tryd.prog 49 = some 2 := by kernel_rfl
theorem scal_pl : scal Tryd.prog 49 = false := by kernel_rfl
theorem siz_pl : (Tryd.prog.info? 49).map (·.size) = some 2 := by kernel_rfl
theorem foff_pl0 : foff Tryd.prog 49 0 = some 0 := by kernel_rfl
theorem foff_pl1 : foff Tryd.prog 49 1 = some 1 := by kernel_rfl
theorem zero_pl : zeroC Tryd.prog 49 = some #[.int .i64 0, .int .i64 0] := by kernel_rfl
theorem bld_pl (a b : Int) : buildV Tryd.prog 49 [(0, .int .i64 a), (1, .int .i64 b)] = some (.agg #[.int .i64 a, .int .i64 b]) := by kernel_rfl
attribute [go_sem] aggN_pl scal_pl foff_pl0 foff_pl1 bld_pl
theorem aggN_sh : aggN Tryd.prog 56 = some 2 := by kernel_rfl
theorem scal_sh : scal Tryd.prog 56 = false := by kernel_rfl
theorem siz_sh : (Tryd.prog.info? 56).map (·.size) = some 2 := by kernel_rfl
theorem foff_sh0 : foff Tryd.prog 56 0 = some 0 := by kernel_rfl
theorem foff_sh1 : foff Tryd.prog 56 1 = some 1 := by kernel_rfl
theorem zero_sh : zeroC Tryd.prog 56 = some #[.int .i64 0, .int .i64 0] := by kernel_rfl
theorem bld_sh (a b : Int) : buildV Tryd.prog 56 [(0, .int .i64 a), (1, .int .i64 b)] = some (.agg #[.int .i64 a, .int .i64 b]) := by kernel_rfl
theorem bld_sh0 : buildV Tryd.prog 56 [] = some (.agg #[.int .i64 0, .int .i64 0]) := by kernel_rfl
attribute [go_sem] aggN_sh scal_sh foff_sh0 foff_sh1 bld_sh bld_sh0
theorem isStr_str : isStr Tryd.prog 9 = true := by kernel_rfl
theorem cv_i8 (x : Int) : cvV Tryd.prog 3 5 (.int .i64 x) = some (.int .u8 (IntKind.u8.wrap x)) := by kernel_rfl
theorem cvb_bs : byteSl Tryd.prog 33 9 = true := by kernel_rfl
theorem elt_s : elt Tryd.prog 27 = some (9, 1, .string (bs []), 16) := by kernel_rfl
theorem binb_neqT (a b : Bool) : binV Tryd.prog .neq 4 (.bool a) (.bool b) = some (.bool (!(a == b))) := by kernel_rfl
theorem binb_eqlT (a b : Bool) : binV Tryd.prog .eql 4 (.bool a) (.bool b) = some (.bool (a == b)) := by kernel_rfl
attribute [go_sem] isStr_str cv_i8 binb_neqT binb_eqlT

theorem l6Dec_c (n : Nat) (hn : n ≤ 1000000000) (w : World) :
    Ret Tryd.prog 62 #[.int .i64 n] w fun v w' => v = .string (bs (dec n)) ∧ Ext w w' := by
  induction n using Nat.strongRecOn generalizing w with
  | _ n ih =>
    refine enter1 Tryd.func62 rfl (by kernel_rfl) (of_decide_eq_true (by kernel_rfl)) fun f a0 => ?_
    have h1 : ¬ (n : Int) < -9223372036854775807 := by omega
    have h2 : ¬ (n : Int) < 0 := by omega
    by_cases h10 : n < 10
    · have h3 : (n : Int) < 10 := by omega
      simp (disch := omega) only [go_sem, Nat.reduceEqDiff, ↓reduceIte, Nat.reduceAdd, a0, h1, h2, h3]
      refine bslK_1 elt_b rfl fun w1 b1 _ x1 k1 _ => ?_
      simp (disch := omega) only [go_sem, Nat.reduceEqDiff, ↓reduceIte, Nat.reduceAdd]
      refine cvK_1 cvb_bs k1 ?_
      simp (disch := omega) only [go_sem, Nat.reduceEqDiff, ↓reduceIte, Nat.reduceAdd, Tryd.results62]
      exact ⟨by rw [dec_lt h10]; congr 4, x1⟩
    · have h3 : ¬ (n : Int) < 10 := by omega
      have e1 : (n : Int) / 10 = ((n / 10 : Nat) : Int) := rfl
      have e2 : (n : Int) % 10 = ((n % 10 : Nat) : Int) := rfl
      have hl := dec_len (n / 10)
      have hd := dec_ge h10
      have hw : ∀ w, Ret Tryd.prog 62 #[.int .i64 (n / 10 : Nat)] w fun v w' => v = .string (bs (dec (n / 10))) ∧ Ext w w' := fun w => ih (n / 10) (by omega) (by omega) w
      simp (disch := omega) only [go_sem, Nat.reduceEqDiff, ↓reduceIte, Nat.reduceAdd, a0, h1, h2, h3]
      refine QR_sch none (.st 0 (.st 1 (.st 3 (.st 4 (.st 5 (.st 6 (.alt (.ef 2 (.ef 7 (.ef 8 (.st 9 (.st 10 (.done)))))) (.ef 7 (.alt (.ef 2 (.ef 8 (.st 9 (.st 10 (.done))))) (.ef 8 (.ef 2 (.st 9 (.st 10 (.done)))))))))))))) (by kernel_rfl) (by kernel_rfl) fun w0 x0 => ?_
      have X := x0
      simp (disch := omega) only [go_sem, Nat.reduceEqDiff, ↓reduceIte, Nat.reduceAdd, a0, e1, e2]
      refine RLT_alt ?_ ?_
      · simp (disch := omega) only [go_sem, Nat.reduceEqDiff, ↓reduceIte, Nat.reduceAdd, a0, e1, e2]
        refine callK_of (by kernel_rfl) (hw _) ?_
        rintro _ w1 ⟨rfl, y1⟩
        refine nxE_of (y1.grow _) ?_
        have X := X.trans y1
        simp (disch := omega) only [go_sem, Nat.reduceEqDiff, ↓reduceIte, Nat.reduceAdd, a0, e1, e2]
        refine bslK_1 elt_b rfl fun w1 b1 _ y1 k1 _ => ?_
        refine nxE_of (y1.grow _) ?_
        have X := X.trans y1
        simp (disch := omega) only [go_sem, Nat.reduceEqDiff, ↓reduceIte, Nat.reduceAdd, a0, e1, e2]
        refine cvK_1 cvb_bs k1 ?_
        refine nxE_of (Grow.refl _ _) ?_
        simp (disch := omega) only [go_sem, Nat.reduceEqDiff, ↓reduceIte, Nat.reduceAdd, Tryd.results62]
        exact ⟨by rw [hd]; congr 4, X⟩
      · simp (disch := omega) only [go_sem, Nat.reduceEqDiff, ↓reduceIte, Nat.reduceAdd, a0, e1, e2]
        refine bslK_1 elt_b rfl fun w1 b1 _ y1 k1 _ => ?_
        refine nxE_of (y1.grow _) ?_
        have X := X.trans y1
        simp (disch := omega) only [go_sem, Nat.reduceEqDiff, ↓reduceIte, Nat.reduceAdd, a0, e1, e2]
        refine RLT_alt ?_ ?_
        · simp (disch := omega) only [go_sem, Nat.reduceEqDiff, ↓reduceIte, Nat.reduceAdd, a0, e1, e2]
          refine callK_of (by kernel_rfl) (hw _) ?_
          rintro _ w1 ⟨rfl, y1⟩
          refine nxE_of (y1.grow _) ?_
          have X := X.trans y1
          have k1 := k1.ext y1
          simp (disch := omega) only [go_sem, Nat.reduceEqDiff, ↓reduceIte, Nat.reduceAdd, a0, e1, e2]
          refine cvK_1 cvb_bs k1 ?_
          refine nxE_of (Grow.refl _ _) ?_
          simp (disch := omega) only [go_sem, Nat.reduceEqDiff, ↓reduceIte, Nat.reduceAdd, Tryd.results62]
          exact ⟨by rw [hd]; congr 4, X⟩
        · simp (disch := omega) only [go_sem, Nat.reduceEqDiff, ↓reduceIte, Nat.reduceAdd, a0, e1, e2]
          refine cvK_1 cvb_bs k1 ?_
          refine nxE_of (Grow.refl _ _) ?_
          simp (disch := omega) only [go_sem, Nat.reduceEqDiff, ↓reduceIte, Nat.reduceAdd, a0, e1, e2]
          refine callK_of (by kernel_rfl) (hw _) ?_
          rintro _ w1 ⟨rfl, y1⟩
          refine nxE_of (y1.grow _) ?_
          have X := X.trans y1
          have k1 := k1.ext y1
          simp (disch := omega) only [go_sem, Nat.reduceEqDiff, ↓reduceIte, Nat.reduceAdd, Tryd.results62]
          exact ⟨by rw [hd]; congr 4, X⟩

def tbl2 : List UInt8 := [48,48,48,49,48,50,48,51,48,52,48,53,48,54,48,55,48,56,48,57,49,48,49,49,49,50,49,51,49,52,49,53,49,54,49,55,49,56,49,57,50,48,50,49,50,50,50,51,50,52,50,53,50,54,50,55,50,56,50,57,51,48,51,49,51,50,51,51,51,52,51,53,51,54,51,55,51,56,51,57,52,48,52,49,52,50,52,51,52,52,52,53,52,54,52,55,52,56,52,57,53,48,53,49,53,50,53,51,53,52,53,53,53,54,53,55,53,56,53,57,54,48,54,49,54,50,54,51,54,52,54,53,54,54,54,55,54,56,54,57,55,48,55,49,55,50,55,51,55,52,55,53,55,54,55,55,55,56,55,57,56,48,56,49,56,50,56,51,56,52,56,53,56,54,56,55,56,56,56,57,57,48,57,49,57,50,57,51,57,52,57,53,57,54,57,55,57,56,57,57]
def tbl1 : List UInt8 := [48,49,50,51,52,53,54,55,56,57,97,98,99,100,101,102,103,104,105,106,107,108,109,110,111,112,113,114,115,116,117,118,119,120,121,122]
theorem tbl2_ok : ∀ n : Nat, n < 100 → List.take ((2 * n + 2) - 2 * n) (List.drop (2 * n) tbl2) = [UInt8.ofNat (48 + n / 10), UInt8.ofNat (48 + n % 10)] := by decide +kernel
theorem tbl1_ok : ∀ n : Nat, n < 10 → List.take ((n + 1) - n) (List.drop n tbl1) = [UInt8.ofNat (48 + n)] := by decide +kernel

theorem eq1 : bs [48, 49, 50, 51, 52, 53, 54, 55, 56, 57, 97, 98, 99, 100, 101, 102, 103, 104, 105, 106, 107, 108, 109, 110, 111, 112, 113, 114, 115, 116, 117, 118, 119, 120, 121, 122] = bs tbl1 := (rfl)
theorem eq2 : bs (([48, 48, 48, 49, 48, 50, 48, 51, 48, 52, 48, 53, 48, 54, 48, 55, 48, 56, 48, 57, 49, 48, 49, 49, 49, 50, 49, 51, 49, 52, 49, 53, 49, 54, 49, 55, 49, 56, 49, 57, 50, 48, 50, 49, 50, 50, 50, 51, 50, 52].append [50, 53, 50, 54, 50, 55, 50, 56, 50, 57, 51, 48, 51, 49, 51, 50, 51, 51, 51, 52, 51, 53, 51, 54, 51, 55, 51, 56, 51, 57, 52, 48, 52, 49, 52, 50, 52, 51, 52, 52, 52, 53, 52, 54, 52, 55, 52, 56, 52, 57]).append ([53, 48, 53, 49, 53, 50, 53, 51, 53, 52, 53, 53, 53, 54, 53, 55, 53, 56, 53, 57, 54, 48, 54, 49, 54, 50, 54, 51, 54, 52, 54, 53, 54, 54, 54, 55, 54, 56, 54, 57, 55, 48, 55, 49, 55, 50, 55, 51, 55, 52].append [55, 53, 55, 54, 55, 55, 55, 56, 55, 57, 56, 48, 56, 49, 56, 50, 56, 51, 56, 52, 56, 53, 56, 54, 56, 55, 56, 56, 56, 57, 57, 48, 57, 49, 57, 50, 57, 51, 57, 52, 57, 53, 57, 54, 57, 55, 57, 56, 57, 57])) = bs tbl2 := by kernel_rfl

theorem small_c (n : Nat) (hn : n < 100) (w : World) :
    Ret Tryd.prog 73 #[.int .i64 n] w fun v w' => v = .string (bs (dec n)) ∧ Ext w w' := by
  refine enter1 Tryd.func73 rfl (by kernel_rfl) (of_decide_eq_true (by kernel_rfl)) fun f a0 => ?_
  have L1 : tbl1.length = 36 := rfl
  have L2 : tbl2.length = 200 := rfl
  by_cases h10 : n < 10
  · have h3 : (n : Int) < 10 := by omega
    have e0 : (n : Int) + 1 = ((n + 1 : Nat) : Int) := by omega
    simp (disch := omega) only [go_sem, Nat.reduceEqDiff, ↓reduceIte, Nat.reduceAdd, a0, h3, e0, eq1, Int.toNat_natCast, Tryd.results73]
    exact ⟨by rw [dec_lt h10, ← tbl1_ok n h10], Ext.refl _⟩
  · have h3 : ¬ (n : Int) < 10 := by omega
    have e1 : (n : Int) * 2 = ((2 * n : Nat) : Int) := by omega
    have e2 : ((2 * n : Nat) : Int) + 2 = ((2 * n + 2 : Nat) : Int) := by omega
    simp (disch := omega) only [go_sem, Nat.reduceEqDiff, ↓reduceIte, Nat.reduceAdd, a0, h3, e1, e2, eq2, Int.toNat_natCast, Tryd.results73]
    exact ⟨by rw [dec_ge h10, dec_lt (show n / 10 < 10 by omega), tbl2_ok n hn]; rfl, Ext.refl _⟩

theorem formatInt_c (n : Nat) (hn : n < 100) (w : World) :
    Ret Tryd.prog 72 #[.int .i64 n, .int .i64 10] w fun v w' => v = .string (bs (dec n)) ∧ Ext w w' := by
  refine enter2 Tryd.func72 rfl (by kernel_rfl) (of_decide_eq_true (by kernel_rfl)) fun f a0 a1 => ?_
  have h1 : (0 : Int) ≤ n := by omega
  have h2 : (n : Int) < 100 := by omega
  have h3 : ((10 : Int) == 10) = true := rfl
  simp (disch := omega) only [go_sem, Nat.reduceEqDiff, ↓reduceIte, Nat.reduceAdd, a0, a1, h1, h2, h3]
  refine callK_pure (by kernel_rfl) (small_c n hn _) fun w1 x1 => ?_
  simp (disch := omega) only [go_sem, Nat.reduceEqDiff, ↓reduceIte, Nat.reduceAdd, Tryd.results72]
  exact ⟨trivial, x1⟩
theorem itoaI_c (n : Nat) (hn : n < 100) (w : World) :
    Ret Tryd.prog 71 #[.int .i64 n] w fun v w' => v = .string (bs (dec n)) ∧ Ext w w' := by
  refine enter1 Tryd.func71 rfl (by kernel_rfl) (of_decide_eq_true (by kernel_rfl)) fun f a0 => ?_
  simp (disch := omega) only [go_sem, Nat.reduceEqDiff, ↓reduceIte, Nat.reduceAdd, a0]
  refine callK_pure (by kernel_rfl) (formatInt_c n hn _) fun w1 x1 => ?_
  simp (disch := omega) only [go_sem, Nat.reduceEqDiff, ↓reduceIte, Nat.reduceAdd, Tryd.results71]
  exact ⟨trivial, x1⟩
theorem itoa_c (n : Nat) (hn : n < 100) (w : World) :
    Ret Tryd.prog 66 #[.int .i64 n] w fun v w' => v = .string (bs (dec n)) ∧ Ext w w' := by
  refine enter1 Tryd.func66 rfl (by kernel_rfl) (of_decide_eq_true (by kernel_rfl)) fun f a0 => ?_
  simp (disch := omega) only [go_sem, Nat.reduceEqDiff, ↓reduceIte, Nat.reduceAdd, a0]
  refine callK_pure (by kernel_rfl) (itoaI_c n hn _) fun w1 x1 => ?_
  simp (disch := omega) only [go_sem, Nat.reduceEqDiff, ↓reduceIte, Nat.reduceAdd, Tryd.results66]
  exact ⟨trivial, x1⟩
end Go.Proofs.YteenlohkhckjkaaDoor
