/- The laws FnPlaceName, FnPlaceFrom. -/
import Derived.Test.YteenlohkhckjkaaDoorTm
set_option linter.all false
set_option maxRecDepth 20000
namespace Go.Proofs.YteenlohkhckjkaaDoor
open Go.RowKit Go.SW

theorem fnPlaceName_c (a : Option Addr) (l : List Int) (c : Nat) (w : World) (hl : l.length ≤ c) (hc : c ≤ maxLen) (hs : ByteS w a l) :
    Ret Tryd.prog 11 #[.slice a l.length c] w fun v w' => v = .bool true ∧ Ext w w' := by
  have hmax := maxLen_le (Nat.le_trans hl hc)
  refine enter1 Tryd.func11 rfl (by kernel_rfl) (of_decide_eq_true (by kernel_rfl)) fun f a0 => ?_
  by_cases hbig : (1048576 : Int) < l.length
  · simp (disch := omega) only [go_sem, Nat.reduceEqDiff, ↓reduceIte, Nat.reduceAdd, a0, hbig, Tryd.results11]
    exact ⟨trivial, Ext.refl _⟩
  simp (disch := omega) only [go_sem, Nat.reduceEqDiff, ↓reduceIte, Nat.reduceAdd, a0, hbig]
  refine callK_of (by kernel_rfl) (drawPlaceName_c _ _ _ _ hl hc hs) ?_
  rintro _ w1 ⟨x, y, rfl, hx, hy, x1⟩
  simp (disch := omega) only [go_sem, Nat.reduceEqDiff, ↓reduceIte, Nat.reduceAdd]
  refine callK_pure (by kernel_rfl) (implPlaceName_c x y _) fun w2 x2 => ?_
  simp (disch := omega) only [go_sem, Nat.reduceEqDiff, ↓reduceIte, Nat.reduceAdd]
  refine callK_pure (by kernel_rfl) (specPlaceName_c x y _) fun w3 x3 => ?_
  have x13 := (x1.trans x2).trans x3
  have h1 : (!(placeName x y == placeName x y)) = false := by simp
  have h2 : (!(plc x y == plc x y)) = false := by simp
  cases hb : plc x y with
  | false =>
    rw [hb] at h2
    simp (disch := omega) only [go_sem, Nat.reduceEqDiff, ↓reduceIte, Nat.reduceAdd, h1, h2, beq_self_eq_true, Tryd.results11]
    exact ⟨trivial, x13⟩
  | true =>
    rw [hb] at h2
    have p := plc_iff.1 hb
    obtain ⟨m, rfl⟩ := Int.eq_ofNat_of_zero_le p.1
    obtain ⟨n, rfl⟩ := Int.eq_ofNat_of_zero_le p.2.2.1
    have s3 := placeName_nat (m := m) (n := n) (by omega) (by omega)
    obtain ⟨s1, s2⟩ := sheetOf_nat (m := m) (n := n) (by omega) (by omega)
    have pn : PNamed (fname m n) m n := ⟨by omega, by omega, rfl⟩
    obtain ⟨k1, k2, k3⟩ := pOk_of pn
    obtain ⟨f1, f2, f3, f4⟩ := fname_parts m n
    have sl := sname_len (m / 4) (n / 4)
    rw [s3] at h1
    rw [s3]
    simp (disch := omega) only [go_sem, Nat.reduceEqDiff, ↓reduceIte, Nat.reduceAdd, h1, h2]
    refine callK_pure (by kernel_rfl) (implPlaceFrom_c _ _ (by omega)) fun w4 x4 => ?_
    simp (disch := omega) only [go_sem, Nat.reduceEqDiff, ↓reduceIte, Nat.reduceAdd]
    refine callK_pure (by kernel_rfl) (implSheetOf_c _ _ _) fun w5 x5 => ?_
    have e1 : (m : Int) + 1 = ((m + 1 : Nat) : Int) := by omega
    simp (disch := omega) only [go_sem, Nat.reduceEqDiff, ↓reduceIte, Nat.reduceAdd, e1]
    refine callK_pure (by kernel_rfl) (implPlaceName_c _ _ _) fun w6 x6 => ?_
    have x16 := ((x13.trans x4).trans x5).trans x6
    have g1 : (((fname m n).length : Int) == ((sname (m / 4) (n / 4)).length : Int) + 2) = true := by rw [beq_iff_eq, f1]; omega
    by_cases hh : m + 1 < 104
    · have t1 := placeName_nat (m := m + 1) (n := n) hh (by omega)
      have t2 := (sheetOf_nat (m := m + 1) (n := n) hh (by omega)).2
      have hne : (!(fname (m + 1) n == fname m n)) = true := by
        rw [Bool.not_eq_true', beq_eq_false_iff_ne]
        intro he
        have := pn.inj ⟨hh, by omega, he.symm⟩
        omega
      simp (disch := omega) only [go_sem, Nat.reduceEqDiff, ↓reduceIte, Nat.reduceAdd, s1, s2, k1, k2, k3, g1, t1, t2, hne, beq_self_eq_true, Tryd.results11]
      exact ⟨trivial, x16⟩
    · have q : plc ((m + 1 : Nat) : Int) n = false := plc_false (by omega)
      simp (disch := omega) only [go_sem, Nat.reduceEqDiff, ↓reduceIte, Nat.reduceAdd, s1, s2, k1, k2, k3, g1, q, beq_self_eq_true, Tryd.results11]
      exact ⟨trivial, x16⟩

theorem fnPlaceFrom_c (a : Option Addr) (l : List Int) (c : Nat) (w : World) (hl : l.length ≤ c) (hc : c ≤ maxLen) (hs : ByteS w a l) :
    Ret Tryd.prog 13 #[.slice a l.length c] w fun v w' => v = .bool true ∧ Ext w w' := by
  have hmax := maxLen_le (Nat.le_trans hl hc)
  refine enter1 Tryd.func13 rfl (by kernel_rfl) (of_decide_eq_true (by kernel_rfl)) fun f a0 => ?_
  by_cases hbig : (1048576 : Int) < l.length
  · simp (disch := omega) only [go_sem, Nat.reduceEqDiff, ↓reduceIte, Nat.reduceAdd, a0, hbig, Tryd.results13]
    exact ⟨trivial, Ext.refl _⟩
  simp (disch := omega) only [go_sem, Nat.reduceEqDiff, ↓reduceIte, Nat.reduceAdd, a0, hbig]
  refine callK_of (by kernel_rfl) (drawPlaceFrom_c _ _ _ _ hl hc hs) ?_
  rintro _ w1 ⟨n, rfl, hn, x1⟩
  simp (disch := omega) only [go_sem, Nat.reduceEqDiff, ↓reduceIte, Nat.reduceAdd]
  refine callK_pure (by kernel_rfl) (implPlaceFrom_c n _ (by omega)) fun w2 x2 => ?_
  simp (disch := omega) only [go_sem, Nat.reduceEqDiff, ↓reduceIte, Nat.reduceAdd]
  refine callK_pure (by kernel_rfl) (specPlaceFrom_c n _ (by omega)) fun w3 x3 => ?_
  have x13 := (x1.trans x2).trans x3
  have h2 : (!(pOk n == pOk n)) = false := by simp
  cases hb : pOk n with
  | false =>
    rw [hb] at h2
    simp (disch := omega) only [go_sem, Nat.reduceEqDiff, ↓reduceIte, Nat.reduceAdd, h2, bne_self_eq_false, beq_self_eq_true, Tryd.results13]
    exact ⟨trivial, x13⟩
  | true =>
    rw [hb] at h2
    have pn := pOk_named hb
    have h4 := pn.len
    obtain ⟨p1, p2, p3⟩ := pn
    have s3 := placeName_nat (m := pX n) (n := pY n) p1 p2
    obtain ⟨s1, s2⟩ := sheetOf_nat (m := pX n) (n := pY n) p1 p2
    have nm := sname_lt (c := pX n / 4) (r := pY n / 4) (by omega) (by omega)
    obtain ⟨k1, k2, k3⟩ := fOk_of nm
    have f2 := (fname_parts (pX n) (pY n)).2.1
    rw [← p3] at s3 f2
    simp (disch := omega) only [go_sem, Nat.reduceEqDiff, ↓reduceIte, Nat.reduceAdd, h2, bne_self_eq_false]
    refine callK_pure (by kernel_rfl) (implPlaceName_c _ _ _) fun w4 x4 => ?_
    simp (disch := omega) only [go_sem, Nat.reduceEqDiff, ↓reduceIte, Nat.reduceAdd]
    refine callK_pure (by kernel_rfl) (implSheetOf_c _ _ _) fun w5 x5 => ?_
    rw [s1]
    simp (disch := omega) only [go_sem, Nat.reduceEqDiff, ↓reduceIte, Nat.reduceAdd]
    refine callK_pure (by kernel_rfl) (implSheetFrom_c _ _) fun w6 x6 => ?_
    have x16 := ((x13.trans x4).trans x5).trans x6
    have e5 : (n.length : Int) - 2 = (n.length - 2 : Nat) := by omega
    have g2 : ((pX n : Nat) : Int) - (4 * (pX n / 4) : Nat) < 4 := by omega
    have g4 : ((pY n : Nat) : Int) - (4 * (pY n / 4) : Nat) < 4 := by omega
    simp (disch := omega) only [go_sem, Nat.reduceEqDiff, ↓reduceIte, Nat.reduceAdd, s2, s3, k1, k2, k3, g2, g4, e5, Int.toNat_natCast, f2, beq_self_eq_true, Tryd.results13]
    exact ⟨trivial, x16⟩
end Go.Proofs.YteenlohkhckjkaaDoor
