/- The laws FnSheetBeside, FnSheetFrom, FnSheetOf. -/
import Derived.Test.YteenlohkhckjkaaDoorTj
set_option linter.all false
set_option maxRecDepth 20000
namespace Go.SW
open Go Go.RowKit
theorem bs_back {l : List UInt8} {dx dy : Int} (h : bsOk l dx dy = true) : bsOk (bsName l dx dy) (0 - dx) (0 - dy) = true ∧ bsName (bsName l dx dy) (0 - dx) (0 - dy) = l ∧ fOk l = true ∧ fOk (bsName l dx dy) = true ∧ (fCol (bsName l dx dy) : Int) = fCol l + dx ∧ (fRow (bsName l dx dy) : Int) = fRow l + dy := by
  have hb := bsOk_iff.1 h
  obtain ⟨k1, k2, k3⟩ := fOk_of (bs_named h)
  have q2 : (fCol (bsName l dx dy) : Int) = fCol l + dx := by rw [k2]; omega
  have q3 : (fRow (bsName l dx dy) : Int) = fRow l + dy := by rw [k3]; omega
  have hl := fnd_lt l
  have ok : bsOk (bsName l dx dy) (0 - dx) (0 - dy) = true := bsOk_iff.2 ⟨k1, by omega, by omega, by omega, by omega⟩
  refine ⟨ok, ?_, hb.1, k1, q2, q3⟩
  rw [bsName, if_pos ok, show ((fCol (bsName l dx dy) : Int) + (0 - dx)).toNat = fCol l by omega, show ((fRow (bsName l dx dy) : Int) + (0 - dy)).toNat = fRow l by omega]
  exact (fOk_named hb.1).2.2.symm
theorem sheetOf_nat {m n : Nat} (hm : m < 104) (hn : n < 104) : sheetOf m n = sname (m / 4) (n / 4) ∧ plc m n = true := by
  have : plc m n = true := plc_iff.2 ⟨by omega, by omega, by omega, by omega⟩
  exact ⟨by simp [sheetOf, this], this⟩
theorem placeName_nat {m n : Nat} (hm : m < 104) (hn : n < 104) : placeName m n = fname m n := by
  have : plc m n = true := plc_iff.2 ⟨by omega, by omega, by omega, by omega⟩
  simp [placeName, this]
theorem sname_lt {c r : Nat} (hc : c < 26) (hr : r < 26) : Named (sname c r) c r := ⟨hc, hr, rfl⟩
theorem plc_false {x y : Int} (h : ¬ (0 ≤ x ∧ x < 104 ∧ 0 ≤ y ∧ y < 104)) : plc x y = false := by simp [plc]; omega
end Go.SW
namespace Go.Proofs.YteenlohkhckjkaaDoor
open Go.RowKit Go.SW

theorem fnSheetBeside_c (a : Option Addr) (l : List Int) (c : Nat) (w : World) (hl : l.length ≤ c) (hc : c ≤ maxLen) (hs : ByteS w a l) :
    Ret Tryd.prog 7 #[.slice a l.length c] w fun v w' => v = .bool true ∧ Ext w w' := by
  have hmax := maxLen_le (Nat.le_trans hl hc)
  refine enter1 Tryd.func7 rfl (by kernel_rfl) (of_decide_eq_true (by kernel_rfl)) fun f a0 => ?_
  by_cases hbig : (1048576 : Int) < l.length
  · simp (disch := omega) only [go_sem, Nat.reduceEqDiff, ↓reduceIte, Nat.reduceAdd, a0, hbig, Tryd.results7]
    exact ⟨trivial, Ext.refl _⟩
  simp (disch := omega) only [go_sem, Nat.reduceEqDiff, ↓reduceIte, Nat.reduceAdd, a0, hbig]
  refine callK_of (by kernel_rfl) (drawSheetBeside_c _ _ _ _ hl hc hs) ?_
  rintro _ w1 ⟨n, dx, dy, rfl, hn, hdx, hdy, x1⟩
  simp (disch := omega) only [go_sem, Nat.reduceEqDiff, ↓reduceIte, Nat.reduceAdd]
  refine callK_pure (by kernel_rfl) (implSheetBeside_c n dx dy _) fun w2 x2 => ?_
  simp (disch := omega) only [go_sem, Nat.reduceEqDiff, ↓reduceIte, Nat.reduceAdd]
  refine callK_pure (by kernel_rfl) (specSheetBeside_c n dx dy _ hdx hdy) fun w3 x3 => ?_
  have h1 : (!(bsName n dx dy == bsName n dx dy)) = false := by simp
  have h2 : (!(bsOk n dx dy == bsOk n dx dy)) = false := by simp
  have x13 := (x1.trans x2).trans x3
  cases hb : bsOk n dx dy with
  | false =>
    rw [hb] at h2
    simp (disch := omega) only [go_sem, Nat.reduceEqDiff, ↓reduceIte, Nat.reduceAdd, h1, h2, hb, beq_self_eq_true, Tryd.results7]
    exact ⟨trivial, x13⟩
  | true =>
    rw [hb] at h2
    have hb' := bsOk_iff.1 hb
    have hlt := fnd_lt n
    obtain ⟨q1, q2, q3, q4, q5, q6⟩ := bs_back hb
    simp (disch := omega) only [go_sem, Nat.reduceEqDiff, ↓reduceIte, Nat.reduceAdd, h1, h2]
    refine callK_pure (by kernel_rfl) (implSheetBeside_c (bsName n dx dy) (0 - dx) (0 - dy) _) fun w4 x4 => ?_
    simp (disch := omega) only [go_sem, Nat.reduceEqDiff, ↓reduceIte, Nat.reduceAdd]
    refine callK_pure (by kernel_rfl) (implSheetFrom_c n _) fun w5 x5 => ?_
    simp (disch := omega) only [go_sem, Nat.reduceEqDiff, ↓reduceIte, Nat.reduceAdd]
    refine callK_pure (by kernel_rfl) (implSheetFrom_c (bsName n dx dy) _) fun w6 x6 => ?_
    have e1 : (((4 * fCol (bsName n dx dy) : Nat) : Int) == ((4 * fCol n : Nat) : Int) + dx * 4) = true := by rw [beq_iff_eq]; omega
    have e2 : (((4 * fRow (bsName n dx dy) : Nat) : Int) == ((4 * fRow n : Nat) : Int) + dy * 4) = true := by rw [beq_iff_eq]; omega
    simp (disch := omega) only [go_sem, Nat.reduceEqDiff, ↓reduceIte, Nat.reduceAdd, q1, q2, q3, q4, beq_self_eq_true, e1, e2, Tryd.results7]
    exact ⟨trivial, ((x13.trans x4).trans x5).trans x6⟩

theorem fnSheetFrom_c (a : Option Addr) (l : List Int) (c : Nat) (w : World) (hl : l.length ≤ c) (hc : c ≤ maxLen) (hs : ByteS w a l) :
    Ret Tryd.prog 9 #[.slice a l.length c] w fun v w' => v = .bool true ∧ Ext w w' := by
  have hmax := maxLen_le (Nat.le_trans hl hc)
  refine enter1 Tryd.func9 rfl (by kernel_rfl) (of_decide_eq_true (by kernel_rfl)) fun f a0 => ?_
  by_cases hbig : (1048576 : Int) < l.length
  · simp (disch := omega) only [go_sem, Nat.reduceEqDiff, ↓reduceIte, Nat.reduceAdd, a0, hbig, Tryd.results9]
    exact ⟨trivial, Ext.refl _⟩
  simp (disch := omega) only [go_sem, Nat.reduceEqDiff, ↓reduceIte, Nat.reduceAdd, a0, hbig]
  refine callK_of (by kernel_rfl) (drawSheetFrom_c _ _ _ _ hl hc hs) ?_
  rintro _ w1 ⟨n, rfl, hn, x1⟩
  simp (disch := omega) only [go_sem, Nat.reduceEqDiff, ↓reduceIte, Nat.reduceAdd]
  refine callK_pure (by kernel_rfl) (implSheetFrom_c n _) fun w2 x2 => ?_
  simp (disch := omega) only [go_sem, Nat.reduceEqDiff, ↓reduceIte, Nat.reduceAdd]
  refine callK_pure (by kernel_rfl) (specSheetFrom_c n _) fun w3 x3 => ?_
  have x13 := (x1.trans x2).trans x3
  have h2 : (!(fOk n == fOk n)) = false := by simp
  cases hb : fOk n with
  | false =>
    rw [hb] at h2
    simp (disch := omega) only [go_sem, Nat.reduceEqDiff, ↓reduceIte, Nat.reduceAdd, h2, bne_self_eq_false, beq_self_eq_true, Tryd.results9]
    exact ⟨trivial, x13⟩
  | true =>
    rw [hb] at h2
    obtain ⟨n1, n2, n3⟩ := fOk_named hb
    obtain ⟨p1, p2⟩ := sheetOf_nat (m := 4 * fCol n) (n := 4 * fRow n) (by omega) (by omega)
    have p3 := placeName_nat (m := 4 * fCol n) (n := 4 * fRow n) (by omega) (by omega)
    have d1 : 4 * fCol n / 4 = fCol n := by omega
    have d2 : 4 * fRow n / 4 = fRow n := by omega
    rw [d1, d2, ← n3] at p1
    have p4 : fname (4 * fCol n) (4 * fRow n) = n ++ [97, 97] := by
      have e1 : 4 * fCol n / 2 % 2 = 0 := by omega
      have e2 : 4 * fRow n / 2 % 2 = 0 := by omega
      have e3 : 4 * fCol n % 2 = 0 := by omega
      have e4 : 4 * fRow n % 2 = 0 := by omega
      rw [fname, d1, d2, ← n3, e1, e2, e3, e4, List.append_assoc]; rfl
    rw [p4] at p3
    have ea : binV Tryd.prog .add 9 (.string (bs n)) (.string (bs [97, 97])) = some (.string (bs (n ++ [97, 97]))) := bin_adds _ _ (by simp; omega)
    simp (disch := omega) only [go_sem, Nat.reduceEqDiff, ↓reduceIte, Nat.reduceAdd, h2, bne_self_eq_false]
    refine callK_pure (by kernel_rfl) (implSheetOf_c _ _ _) fun w4 x4 => ?_
    simp (disch := omega) only [go_sem, Nat.reduceEqDiff, ↓reduceIte, Nat.reduceAdd]
    refine callK_pure (by kernel_rfl) (implPlaceName_c _ _ _) fun w5 x5 => ?_
    simp (disch := omega) only [go_sem, Nat.reduceEqDiff, ↓reduceIte, Nat.reduceAdd]
    refine callK_pure (by kernel_rfl) (implSheetOf_c _ _ _) fun w6 x6 => ?_
    have x16 := ((x13.trans x4).trans x5).trans x6
    by_cases h0 : fCol n = 0
    · have q : plc (((4 * fCol n : Nat) : Int) - 1) ((4 * fRow n : Nat) : Int) = false := plc_false (by omega)
      have e0 : (((4 * fCol n : Nat) : Int) == 0) = true := by rw [h0]; rfl
      simp (disch := omega) only [go_sem, Nat.reduceEqDiff, ↓reduceIte, Nat.reduceAdd, p1, p2, p3, q, e0, ea, beq_self_eq_true, Tryd.results9]
      exact ⟨rfl, x16⟩
    · have e : (((4 * fCol n : Nat) : Int) - 1) = ((4 * fCol n - 1 : Nat) : Int) := by omega
      obtain ⟨s1, s2⟩ := sheetOf_nat (m := 4 * fCol n - 1) (n := 4 * fRow n) (by omega) (by omega)
      have hne : (!(sname ((4 * fCol n - 1) / 4) (4 * fRow n / 4) == n)) = true := by
        rw [Bool.not_eq_true', beq_eq_false_iff_ne]
        intro he
        have := sname_inj (by omega) (by omega) (by omega) (by omega) (he.trans n3)
        omega
      simp (disch := omega) only [go_sem, Nat.reduceEqDiff, ↓reduceIte, Nat.reduceAdd, p1, p2, p3, e, s1, s2, hne, ea, beq_self_eq_true, Tryd.results9]
      exact ⟨trivial, x16⟩

theorem fnSheetOf_c (a : Option Addr) (l : List Int) (c : Nat) (w : World) (hl : l.length ≤ c) (hc : c ≤ maxLen) (hs : ByteS w a l) :
    Ret Tryd.prog 10 #[.slice a l.length c] w fun v w' => v = .bool true ∧ Ext w w' := by
  have hmax := maxLen_le (Nat.le_trans hl hc)
  refine enter1 Tryd.func10 rfl (by kernel_rfl) (of_decide_eq_true (by kernel_rfl)) fun f a0 => ?_
  by_cases hbig : (1048576 : Int) < l.length
  · simp (disch := omega) only [go_sem, Nat.reduceEqDiff, ↓reduceIte, Nat.reduceAdd, a0, hbig, Tryd.results10]
    exact ⟨trivial, Ext.refl _⟩
  simp (disch := omega) only [go_sem, Nat.reduceEqDiff, ↓reduceIte, Nat.reduceAdd, a0, hbig]
  refine callK_of (by kernel_rfl) (drawSheetOf_c _ _ _ _ hl hc hs) ?_
  rintro _ w1 ⟨x, y, rfl, hx, hy, x1⟩
  simp (disch := omega) only [go_sem, Nat.reduceEqDiff, ↓reduceIte, Nat.reduceAdd]
  refine callK_pure (by kernel_rfl) (implSheetOf_c x y _) fun w2 x2 => ?_
  simp (disch := omega) only [go_sem, Nat.reduceEqDiff, ↓reduceIte, Nat.reduceAdd]
  refine callK_pure (by kernel_rfl) (specSheetOf_c x y _) fun w3 x3 => ?_
  have x13 := (x1.trans x2).trans x3
  have h1 : (!(sheetOf x y == sheetOf x y)) = false := by simp
  have h2 : (!(plc x y == plc x y)) = false := by simp
  cases hb : plc x y with
  | false =>
    rw [hb] at h2
    simp (disch := omega) only [go_sem, Nat.reduceEqDiff, ↓reduceIte, Nat.reduceAdd, h1, h2, beq_self_eq_true, Tryd.results10]
    exact ⟨trivial, x13⟩
  | true =>
    rw [hb] at h2
    have p := plc_iff.1 hb
    obtain ⟨m, rfl⟩ := Int.eq_ofNat_of_zero_le p.1
    obtain ⟨n, rfl⟩ := Int.eq_ofNat_of_zero_le p.2.2.1
    obtain ⟨s1, s2⟩ := sheetOf_nat (m := m) (n := n) (by omega) (by omega)
    have s3 := placeName_nat (m := m) (n := n) (by omega) (by omega)
    have nm := sname_lt (c := m / 4) (r := n / 4) (by omega) (by omega)
    obtain ⟨k1, k2, k3⟩ := fOk_of nm
    obtain ⟨f1, f2, f3, f4⟩ := fname_parts m n
    rw [s1] at h1
    rw [s1]
    simp (disch := omega) only [go_sem, Nat.reduceEqDiff, ↓reduceIte, Nat.reduceAdd, h1, h2]
    refine callK_pure (by kernel_rfl) (implSheetFrom_c _ _) fun w4 x4 => ?_
    simp (disch := omega) only [go_sem, Nat.reduceEqDiff, ↓reduceIte, Nat.reduceAdd]
    refine callK_pure (by kernel_rfl) (implPlaceName_c _ _ _) fun w5 x5 => ?_
    have e4 : (m : Int) + 4 = ((m + 4 : Nat) : Int) := by omega
    simp (disch := omega) only [go_sem, Nat.reduceEqDiff, ↓reduceIte, Nat.reduceAdd, e4]
    refine callK_pure (by kernel_rfl) (implSheetOf_c _ _ _) fun w6 x6 => ?_
    simp (disch := omega) only [go_sem, Nat.reduceEqDiff, ↓reduceIte, Nat.reduceAdd]
    refine callK_pure (by kernel_rfl) (implSheetBeside_c _ _ _ _) fun w7 x7 => ?_
    have x17 := (((x13.trans x4).trans x5).trans x6).trans x7
    have same : bsOk (sname (m / 4) (n / 4)) 1 0 = plc ((m + 4 : Nat) : Int) n ∧ sheetOf ((m + 4 : Nat) : Int) n = bsName (sname (m / 4) (n / 4)) 1 0 := by
      by_cases hh : m + 4 < 104
      · obtain ⟨t1, t2⟩ := sheetOf_nat (m := m + 4) (n := n) hh (by omega)
        have ok : bsOk (sname (m / 4) (n / 4)) 1 0 = true := bsOk_iff.2 ⟨k1, by omega, by omega, by omega, by omega⟩
        refine ⟨ok.trans t2.symm, ?_⟩
        rw [t1, bsName, if_pos ok, k2, k3]
        congr 1 <;> omega
      · have q : plc ((m + 4 : Nat) : Int) n = false := plc_false (by omega)
        have ok : bsOk (sname (m / 4) (n / 4)) 1 0 = false := by
          cases h : bsOk (sname (m / 4) (n / 4)) 1 0 with
          | false => rfl
          | true => have := bsOk_iff.1 h; omega
        exact ⟨ok.trans q.symm, by rw [sheetOf, bsName, q, ok]; rfl⟩
    have g1 : (0 : Int) ≤ (m : Int) - (4 * (m / 4) : Nat) := by omega
    have g2 : (m : Int) - (4 * (m / 4) : Nat) < 4 := by omega
    have g3 : (0 : Int) ≤ (n : Int) - (4 * (n / 4) : Nat) := by omega
    have g4 : (n : Int) - (4 * (n / 4) : Nat) < 4 := by omega
    have sl := sname_len (m / 4) (n / 4)
    have e5 : ((fname m n).length : Int) - 2 = ((fname m n).length - 2 : Nat) := by omega
    simp (disch := omega) only [go_sem, Nat.reduceEqDiff, ↓reduceIte, Nat.reduceAdd, s2, s3, k1, k2, k3, g1, g2, g3, g4, e5, Int.toNat_natCast, f2, same.1, same.2, beq_self_eq_true, Tryd.results10]
    exact ⟨trivial, x17⟩
end Go.Proofs.YteenlohkhckjkaaDoor
