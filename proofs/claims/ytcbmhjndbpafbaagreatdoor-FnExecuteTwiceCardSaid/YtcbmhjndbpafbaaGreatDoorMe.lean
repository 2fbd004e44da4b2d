import Derived.Test.YtcbmhjndbpafbaaGreatDoorMc
import Derived.Test.YtcbmhjndbpafbaaGreatDoorMd
import Derived.Test.YtcbmhjndbpafbaaGreatDoorY4
set_option linter.all false
set_option maxRecDepth 20000
namespace Go.Proofs.YtcbmhjndbpafbaaGreatDoor
open Go.RowKit Go.SW
theorem complete_c (t : List UInt8) (hl : t.length ≤ 1000000) (w : World) : Ret Tryz.prog 12 #[.string (bs t)] w fun v w' => v = .string (bs (comp t)) ∧ Ext w w' := by
 refine enter1 Tryz.func12 rfl fun f a0 => ?_
 simp (disch := omega) only [go_sem, a0]
 refine loopN t.length (fun k f W => f 0 = .string (bs t) ∧ f 3 = .int .i64 (t.length - k : Nat) ∧ Ext w W ∧ lastN t t.length = lastN t (t.length - k)) ⟨uu, uu, Ext.refl _, rfl⟩ fun k f W hk ⟨a0, a3, xw, hn⟩ => ?_
 by_cases hlt : (0 : Int) < ((t.length - k : Nat) : Int)
 ·obtain ⟨m, hm⟩ : ∃ m, t.length - k = m + 1 := ⟨t.length - k - 1, om⟩
  rw [hm] at a3 hlt hn
  have em : ((m + 1 : Nat) : Int) - 1 = (m : Nat) := om
  cases hx : (((t.getD m 0).toNat : Int) == 10) with
  | true =>
   have hx' : t.getD m 0 = 10 := by
    have := beq_iff_eq.1 hx
    exact UInt8.toNat_inj.1 (show (t.getD m 0).toNat = 10 from om)
   rw [lastN, if_pos hx'] at hn
   simp (disch := omega) only [go_sem, a0, a3, hlt, em, Int.toNat_natCast, hx, Tryz.results12]
   exact ⟨by rw [comp, hn], xw⟩
  | false =>
   have hx' : ¬ t.getD m 0 = 10 := fun e => by rw [e] at hx; cases hx
   rw [lastN, if_neg hx'] at hn
   simp (disch := omega) only [go_sem, a0, a3, hlt, em, Int.toNat_natCast, hx]
   have e2 : t.length - (k + 1) = m := om
   exact ⟨om, uu, by rw [e2] <;> exact uu, xw, by rw [e2]; exact hn⟩
 ·have e0 : t.length - k = 0 := om
  rw [e0] at hn
  simp (disch := omega) only [go_sem, a3, hlt, Tryz.results12]
  exact ⟨by rw [comp, hn]; rfl, xw⟩
theorem lastLine_c (p q e : List UInt8) (hp : Ended p) (hq : q = e ++ [10]) (he : (10 : UInt8) ∉ e) (hl : (p ++ q).length ≤ 1000000) (w : World) : Ret Tryz.prog 13 #[.string (bs (p ++ q))] w fun v w' => v = .string (bs q) ∧ Ext w w' := by
 have hql : q.length = e.length + 1 := by rw [hq]; simp
 have htl : (p ++ q).length = p.length + e.length + 1 := by rw [List.length_append, hql]; omega
 have hge : ∀ i, i < e.length → (p ++ q).getD (p.length + i) 0 = e.getD i 0 := fun i hi => by
  rw [hq]; simp [List.getD_eq_getElem?_getD, List.getElem?_append_right, List.getElem?_append_left hi]
 have hpe : p.length ≠ 0 → (p ++ q).getD (p.length - 1) 0 = 10 := fun h0 => by
  rcases hp with rfl | ⟨p', rfl⟩
  ·simp at h0
  ·simp [List.getD_eq_getElem?_getD]
 have hdr : (p ++ q).drop p.length = q := by simp
 generalize p ++ q = t at *
 refine enter1 Tryz.func13 rfl fun f a0 => ?_
 simp (disch := omega) only [go_sem, a0]
 refine loopN (e.length + 1) (fun k f W => f 0 = .string (bs t) ∧ f 3 = .int .i64 ((p.length + e.length : Nat) - 1 - (k : Nat) : Int) ∧ Ext w W ∧ k ≤ e.length) ⟨uu, by simp [upd_apply]; omega, Ext.refl _, om⟩ fun k f W hk ⟨a0, a3, xw, hke⟩ => ?_
 by_cases hlt : (0 : Int) ≤ ((p.length + e.length : Nat) - 1 - (k : Nat) : Int)
 ·obtain ⟨m, hm⟩ : ∃ m : Nat, ((p.length + e.length : Nat) - 1 - (k : Nat) : Int) = m := ⟨p.length + e.length - 1 - k, om⟩
  rw [hm] at a3 hlt
  have em : (m : Int) + 1 = ((m + 1 : Nat) : Int) := om
  cases hx : (((t.getD m 0).toNat : Int) == 10) with
  | true =>
   have hx' : t.getD m 0 = 10 := by
    have := beq_iff_eq.1 hx
    exact UInt8.toNat_inj.1 (show (t.getD m 0).toNat = 10 from om)
   have ek : k = e.length := by
    rcases Nat.lt_or_ge k e.length with h | h
    ·have := hge (e.length - 1 - k) om
     rw [show p.length + (e.length - 1 - k) = m from om, hx'] at this
     exact (he (this ▸ getD_mem (d := 0) om)).elim
    ·omega
   simp (disch := omega) only [go_sem, a0, a3, hlt, em, Int.toNat_natCast, hx, Tryz.results13]
   exact ⟨by rw [show m + 1 = p.length from om, hdr], xw⟩
  | false =>
   have hkl : k ≠ e.length := fun ek => by
    have := hpe om
    rw [show p.length - 1 = m from om] at this
    rw [this] at hx
    cases hx
   simp (disch := omega) only [go_sem, a0, a3, hlt, em, Int.toNat_natCast, hx]
   exact ⟨by first | trivial | omega, uu, by simp [upd_apply]; omega, xw, om⟩
 ·have e0 : p.length = 0 := om
  have : t = q := by rw [← hdr, e0]; rfl
  simp (disch := omega) only [go_sem, a0, a3, hlt, Tryz.results13]
  exact ⟨by rw [this], xw⟩
theorem fnExecuteWhat_c (a : Option Addr) (l : List Int) (c : Nat) (w : World) (hl : l.length ≤ c) (hc : c ≤ maxLen) (hs : ByteS w a l) :
  Ret Tryz.prog 5 #[.slice a l.length c] w fun v w' => v = .bool true ∧ Ext w w' := by
 have hmax := maxLen_le (Nat.le_trans hl hc)
 refine enter1 Tryz.func5 rfl fun f a0 => ?_
 by_cases hbig : (1048576 : Int) < l.length
 ·simp (disch := omega) only [go_sem, a0, hbig, Tryz.results5]
  exact ⟨trivial, Ext.refl _⟩
 simp (disch := omega) only [go_sem, a0, hbig]
 refine callK_of ke (drawExecute_c _ _ _ _ hl hc hs) ?_
 rintro _ w1 ⟨t, rfl, ht, x1⟩
 simp (disch := omega) only [go_sem]
 refine callK_pure ke (implExecute_c t _) fun w2 x2 => ?_
 simp (disch := omega) only [go_sem]
 refine callK_pure ke (specExecute_c t _) fun w3 x3 => ?_
 have hne : (!(exF t == exF t)) = false := by simp
 have x13 := (x1.trans x2).trans x3
 have hcl := comp_len t
 have hce := comp_ended t
 simp (disch := omega) only [go_sem, hne]
 refine callK_pure ke (complete_c t om _) fun w4 x4 => ?_
 generalize comp t = s at *
 by_cases h6 : (584 : Int) < s.length
 ·simp (disch := omega) only [go_sem, h6, Tryz.results5]
  exact ⟨trivial, x13.trans x4⟩
 have hE := endL_len (dkF_good s)
 have hO := outF_ended s
 have hO2 := runF_len (spl 10 s).dropLast d0_good
 have hq := endL_eq (dkF s)
 have hno := endE_noline (dkF_good s)
 simp (disch := omega) only [go_sem, h6]
 refine callK_pure ke (implExecute_c s _) fun w5 x5 => ?_
 rw [exF_le (s := s) om]
 have hout : (outF s).length ≤ 900000 := by
  have := (spl_len_le 10 s).2
  rw [List.length_dropLast] at hO2
  show (runF d0 (spl 10 s).dropLast).2.length ≤ 900000
  omega
 have hW := exF_wrong hce om
 have hlen : (outF s ++ endL (dkF s)).length = (outF s).length + (endL (dkF s)).length := List.length_append
 have hsl : (s ++ wrongT).length ≤ 600 := by simp [wrongT]; omega
 have hL := fun w => lastLine_c (outF s) (endL (dkF s)) _ hO hq hno om w
 generalize outF s = O at *
 generalize endL (dkF s) = E at *
 have e1 : ((O ++ E).length : Int) - (E.length : Int) = (O.length : Int) := om
 have e2 : (O ++ E).take O.length = O := by simp
 have e3 : (exF (s ++ wrongT) == O ++ [119, 104, 97, 116, 10, 110, 111, 10] ++ E) = true := by rw [hW]; exact beq_self_eq_true _
 have x15 := (x13.trans x4).trans x5
 have e4 : binV Tryz.prog .add 9 (.string (bs s)) (.string (bs [122, 122, 122, 10, 115, 101, 116, 32, 57, 32, 57, 32, 57, 10])) = some (.string (bs (s ++ wrongT))) := bin_adds s wrongT (by simp [wrongT]; omega)
 have e5 : binV Tryz.prog .add 9 (.string (bs O)) (.string (bs [119, 104, 97, 116, 10, 110, 111, 10])) = some (.string (bs (O ++ [119, 104, 97, 116, 10, 110, 111, 10]))) := bin_adds _ _ sq
 simp (disch := omega) only [go_sem]
 refine QR_sch none (.st 0 (.st 1 (.st 3 (.st 4 (.st 5 (.st 6 (.st 12 (.ef 2 (.ef 7 (.st 8 (.st 9 (.st 10 (.st 11 (.ef 13 (.st 14 (.st 15 (.st 16 (.done)))))))))))))))))) ke ke fun w0 x0 => ?_
 have X := x15.trans x0
 simp (disch := omega) only [go_sem, e1, e2, e4, e5, Int.toNat_natCast]
 refine callK_of ke (implExecute_c (s ++ wrongT) _) ?_
 rintro _ w6 ⟨rfl, y6⟩
 refine nxE_of (y6.grow _) ?_
 have X := X.trans y6
 simp (disch := omega) only [go_sem, e1, e2, e4, e5, Int.toNat_natCast]
 refine callK_of ke (hL _) ?_
 rintro _ w6 ⟨rfl, y6⟩
 refine nxE_of (y6.grow _) ?_
 have X := X.trans y6
 simp (disch := omega) only [go_sem, e1, e2, e4, e5, Int.toNat_natCast]
 refine callK_of ke (hL _) ?_
 rintro _ w6 ⟨rfl, y6⟩
 refine nxE_of (y6.grow _) ?_
 have X := X.trans y6
 simp (disch := first | omega | (simp only [List.length_append, List.length_cons, List.length_nil]; omega)) only [go_sem, e3, Tryz.results5]
 exact ⟨trivial, X⟩
theorem fnExecuteTwice_c (a : Option Addr) (l : List Int) (c : Nat) (w : World) (hl : l.length ≤ c) (hc : c ≤ maxLen) (hs : ByteS w a l) :
  Ret Tryz.prog 4 #[.slice a l.length c] w fun v w' => v = .bool true ∧ Ext w w' := by
 have hmax := maxLen_le (Nat.le_trans hl hc)
 refine enter1 Tryz.func4 rfl fun f a0 => ?_
 by_cases hbig : (1048576 : Int) < l.length
 ·simp (disch := omega) only [go_sem, a0, hbig, Tryz.results4]
  exact ⟨trivial, Ext.refl _⟩
 simp (disch := omega) only [go_sem, a0, hbig]
 refine callK_of ke (drawExecute_c _ _ _ _ hl hc hs) ?_
 rintro _ w1 ⟨t, rfl, ht, x1⟩
 simp (disch := omega) only [go_sem]
 refine callK_pure ke (implExecute_c t _) fun w2 x2 => ?_
 simp (disch := omega) only [go_sem]
 refine callK_pure ke (specExecute_c t _) fun w3 x3 => ?_
 have hne : (!(exF t == exF t)) = false := by simp
 have x13 := (x1.trans x2).trans x3
 have hcl := comp_len t
 have hce := comp_ended t
 simp (disch := omega) only [go_sem, hne]
 refine callK_pure ke (complete_c t om _) fun w4 x4 => ?_
 generalize comp t = s at *
 by_cases h6 : (590 : Int) < s.length
 ·simp (disch := omega) only [go_sem, h6, Tryz.results4]
  exact ⟨trivial, x13.trans x4⟩
 have hE := endL_len (dkF_good s)
 have hO := outF_ended s
 have hO2 := runF_len (spl 10 s).dropLast d0_good
 have hq := endL_eq (dkF s)
 have hno := endE_noline (dkF_good s)
 simp (disch := omega) only [go_sem, h6]
 refine callK_pure ke (implExecute_c s _) fun w5 x5 => ?_
 rw [exF_le (s := s) om]
 have hout : (outF s).length ≤ 900000 := by
  have := (spl_len_le 10 s).2
  rw [List.length_dropLast] at hO2
  show (runF d0 (spl 10 s).dropLast).2.length ≤ 900000
  omega
 have hg : (gtext (dkF s).rows).length ≤ 147 := (dkF_good s).1.gt_len
 have hb := exF_show hce om
 have hbb := exF_show2 hce om
 have hlen : (outF s ++ endL (dkF s)).length = (outF s).length + (endL (dkF s)).length := List.length_append
 have hL := fun w => lastLine_c (outF s) (endL (dkF s)) _ hO hq hno om w
 have hG : (gtext (dkF s).rows ++ [10]).length ≤ 148 := by simp; omega
 generalize gtext (dkF s).rows ++ [10] = G at *
 generalize outF s = O at *
 generalize endL (dkF s) = E at *
 have l1 : (O ++ G).length = O.length + G.length := List.length_append
 have l2 : (O ++ G ++ E).length = (O ++ G).length + E.length := List.length_append
 have l3 : (O ++ G ++ G).length = (O ++ G).length + G.length := List.length_append
 have e1 : ((O ++ E).length : Int) - (E.length : Int) = (O.length : Int) := om
 have e2 : (O ++ E).take O.length = O := by simp
 have e6 : ((O ++ G ++ E).length : Int) - (E.length : Int) = ((O ++ G).length : Int) := om
 have e7 : ((O ++ G ++ E).drop O.length).take ((O ++ G).length - O.length) = G := by rw [l1, Nat.add_sub_cancel_left, List.append_assoc]; simp
 have e3 : (exF (s ++ (showT ++ showT)) == O ++ G ++ G ++ E) = true := by rw [hbb, beq_iff_eq]; simp only [List.append_assoc]
 have e4 : binV Tryz.prog .add 9 (.string (bs s)) (.string (bs [115, 104, 111, 119, 10])) = some (.string (bs (s ++ showT))) := bin_adds s showT (by simp [showT]; omega)
 have e5 : binV Tryz.prog .add 9 (.string (bs s)) (.string (bs [115, 104, 111, 119, 10, 115, 104, 111, 119, 10])) = some (.string (bs (s ++ (showT ++ showT)))) := bin_adds s (showT ++ showT) (by simp [showT]; omega)
 simp (disch := omega) only [go_sem]
 refine callK_pure ke (hL _) fun w6 x6 => ?_
 simp (disch := omega) only [go_sem, e4]
 refine callK_pure ke (implExecute_c (s ++ showT) _) fun w7 x7 => ?_
 rw [hb]
 simp (disch := omega) only [go_sem, e1, e6, Int.toNat_natCast, e7]
 have x17 := (((x13.trans x4).trans x5).trans x6).trans x7
 refine QR_sch none (.st 0 (.st 1 (.st 3 (.st 4 (.st 5 (.st 6 (.st 7 (.st 8 (.st 9 (.st 10 (.st 11 (.st 12 (.st 13 (.st 14 (.st 15 (.ef 2 (.st 16 (.st 17 (.done))))))))))))))))))) ke ke fun w0 x0 => ?_
 have X := x17.trans x0
 simp (disch := omega) only [go_sem, e1, e2, e5, Int.toNat_natCast]
 refine callK_of ke (implExecute_c (s ++ (showT ++ showT)) _) ?_
 rintro _ w6 ⟨rfl, y6⟩
 refine nxE_of (y6.grow _) ?_
 have X := X.trans y6
 simp (disch := omega) only [go_sem, e3, Tryz.results4]
 exact ⟨trivial, X⟩
end Go.Proofs.YtcbmhjndbpafbaaGreatDoor
