import Derived.Test.YtcbmhjndbpafbaaGreatDoorMc
import Derived.Test.YtcbmhjndbpafbaaGreatDoorMd
import Derived.Test.YtcbmhjndbpafbaaGreatDoorY4
set_option linter.all false
set_option maxRecDepth 20000
namespace Go.Proofs.YtcbmhjndbpafbaaGreatDoor
open Go.RowKit Go.SW
theorem complete_c (t : List UInt8) (hl : t.length ≤ 1000000) (w : World) : Ret Tryz.prog 12 #[.string (bs t)] w fun v w' => v = .string (bs (comp t)) ∧ Ext w w' := by
 refine enter1 Tryz.func12 rfl fun f a0 => ?_
 simp (disch := omega) only [go_sem, a0]
 refine loopN t.length (fun k f W => f 0 = .string (bs t) ∧ f 3 = .int .i64 (t.length - k : Nat) ∧ Ext w W ∧ lastN t t.length = lastN t (t.length - k)) ⟨uu, uu, Ext.refl _, rfl⟩ fun k f W hk ⟨a0, a3, xw, hn⟩ => ?_
 by_cases hlt : (0 : Int) < ((t.length - k : Nat) : Int)
 ·obtain ⟨m, hm⟩ : ∃ m, t.length - k = m + 1 := ⟨t.length - k - 1, om⟩
  rw [hm] at a3 hlt hn
  have em : ((m + 1 : Nat) : Int) - 1 = (m : Nat) := om
  cases hx : (((t.getD m 0).toNat : Int) == 10) with
  | true =>
   have hx' : t.getD m 0 = 10 := by
    have := beq_iff_eq.1 hx
    exact UInt8.toNat_inj.1 (show (t.getD m 0).toNat = 10 from om)
   rw [lastN, if_pos hx'] at hn
   simp (disch := omega) only [go_sem, a0, a3, hlt, em, Int.toNat_natCast, hx, Tryz.results12]
   exact ⟨by rw [comp, hn], xw⟩
  | false =>
   have hx' : ¬ t.getD m 0 = 10 := fun e => by rw [e] at hx; cases hx
   rw [lastN, if_neg hx'] at hn
   simp (disch := omega) only [go_sem, a0, a3, hlt, em, Int.toNat_natCast, hx]
   have e2 : t.length - (k + 1) = m := om
   exact ⟨om, uu, by rw [e2] <;> exact uu, xw, by rw [e2]; exact hn⟩
 ·have e0 : t.length - k = 0 := om
  rw [e0] at hn
  simp (disch := omega) only [go_sem, a3, hlt, Tryz.results12]
  exact ⟨by rw [comp, hn]; rfl, xw⟩
theorem fnExecuteNone_c (a : Option Addr) (l : List Int) (c : Nat) (w : World) (hl : l.length ≤ c) (hc : c ≤ maxLen) (hs : ByteS w a l) :
  Ret Tryz.prog 3 #[.slice a l.length c] w fun v w' => v = .bool true ∧ Ext w w' := by
 have hmax := maxLen_le (Nat.le_trans hl hc)
 refine enter1 Tryz.func3 rfl fun f a0 => ?_
 by_cases hbig : (1048576 : Int) < l.length
 ·simp (disch := omega) only [go_sem, a0, hbig, Tryz.results3]
  exact ⟨trivial, Ext.refl _⟩
 simp (disch := omega) only [go_sem, a0, hbig]
 refine callK_of ke (drawExecute_c _ _ _ _ hl hc hs) ?_
 rintro _ w1 ⟨t, rfl, ht, x1⟩
 simp (disch := omega) only [go_sem]
 refine callK_pure ke (implExecute_c t _) fun w2 x2 => ?_
 simp (disch := omega) only [go_sem]
 refine callK_pure ke (specExecute_c t _) fun w3 x3 => ?_
 have hne : (!(exF t == exF t)) = false := by simp
 have x13 := (x1.trans x2).trans x3
 by_cases h6 : (600 : Int) < t.length
 ·have e1 : (exF t == [116, 111, 111, 32, 108, 111, 110, 103, 10]) = true := by rw [exF, if_pos om]; rfl
  simp (disch := omega) only [go_sem, hne, h6, e1, Tryz.results3]
  exact ⟨trivial, x13⟩
 ·have n1 : (!(exF t == [])) = true := by
   have := endL_len (dkF_good t)
   rw [exF_le om]
   simp only [Bool.not_eq_true', beq_eq_false_iff_ne]
   intro e
   have := congrArg List.length e
   rw [List.length_append, List.length_nil] at this; omega
  simp (disch := omega) only [go_sem, hne, h6, n1]
  refine callK_pure ke (implExecute_c [] _) fun w4 x4 => ?_
  have e2 : (exF [] == [114, 111, 119, 115, 32, 49, 32, 99, 111, 108, 117, 109, 110, 115, 32, 49, 32, 108, 97, 98, 101, 108, 115, 32, 48, 10]) = true := by rw [exF_none]; rfl
  simp (disch := omega) only [go_sem, e2]
  refine callK_pure ke (complete_c t om _) fun w5 x5 => ?_
  simp (disch := omega) only [go_sem]
  refine callK_pure ke (implExecute_c (comp t) _) fun w6 x6 => ?_
  rw [exF_comp om]
  simp (disch := omega) only [go_sem, beq_self_eq_true, Tryz.results3]
  exact ⟨trivial, ((x13.trans x4).trans x5).trans x6⟩
end Go.Proofs.YtcbmhjndbpafbaaGreatDoor
