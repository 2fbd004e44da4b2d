/- The law FnEuler: contract. -/
import Derived.Test.YtdlepfeckiahdaaEe
import Derived.Test.YtdlepfeckiahdaaLq
import Derived.Test.YtdlepfeckiahdaaLv
import Derived.Test.YtdlepfeckiahdaaLb
set_option linter.all false
namespace Go.Proofs.Ytdlepfeckiahdaa
open Go.RowKit Go.SW
attribute [local irreducible] callK bslK

theorem drawLevelEuler_c (a : Option Addr) (l : List Int) (c : Nat) (w : World) (hl : l.length ≤ c) (hc : c ≤ maxLen) (hs : ByteS w a l) :
    Ret Try.prog 46 #[.slice a l.length c] w fun v w' => DrawnL w w' v := by
  refine enter1 Try.func46 rfl (by kernel_rfl) (of_decide_eq_true (by kernel_rfl)) fun f a0 => ?_
  simp (disch := omega) only [go_sem, Nat.reduceEqDiff, ↓reduceIte, Nat.reduceAdd, a0]
  refine callK_of (by kernel_rfl) (l6Open_c _ _ _ _ hl hc hs) ?_
  rintro _ w1 ⟨rb, rfl, x1, hrb, r1, e1⟩
  simp (disch := omega) only [go_sem, Nat.reduceEqDiff, ↓reduceIte, Nat.reduceAdd]
  refine callK_of (by kernel_rfl) (l91Ring_c rb _ 0 _ r1 (by omega) (by omega)) ?_
  rintro _ w2 ⟨a, c, rows, A, Cp, R, lv, rfl, hR1, hR5, hl1, hl2, d, g⟩
  simp (disch := omega) only [go_sem, Nat.reduceEqDiff, ↓reduceIte, Nat.reduceAdd, Try.results46]
  exact ⟨a, c, rows, A, Cp, lv, rfl, hl1, hl2, d.at (by omega), g.ext x1 fun b hb => by simp at hb; omega⟩

theorem euler_rows {rows : List (List Int)} {lv : Int} (hv : lvok rows lv = true) : eulerOf rows lv = regionsOf rows lv - lakesOf rows lv := by
  have v := (gvalid_iff rows).1 (lv_parts hv).1
  have h := euler_all (h := hgt rows) (lv := lv) v.r1 v.c1
  simp only [eulerOf, cornersOf, sidesOf, landOf, regionsOf, compOf, lakesOf, hv, if_true]
  exact h

theorem euler_law_c (a : Option Addr) (l : List Int) (c : Nat) (w : World) (hl : l.length ≤ c) (hc : c ≤ maxLen) (hs : ByteS w a l) :
    Ret Try.prog 12 #[.slice a l.length c] w fun v w' => v = .bool true ∧ Ext w w' := by
  have hmax := maxLen_le (Nat.le_trans hl hc)
  refine enter1 Try.func12 rfl (by kernel_rfl) (of_decide_eq_true (by kernel_rfl)) fun f a0 => ?_
  by_cases hbig : (1048576 : Int) < l.length
  · simp (disch := omega) only [go_sem, Nat.reduceEqDiff, ↓reduceIte, Nat.reduceAdd, a0, hbig, Try.results12]
    exact ⟨trivial, Ext.refl _⟩
  simp (disch := omega) only [go_sem, Nat.reduceEqDiff, ↓reduceIte, Nat.reduceAdd, a0, hbig]
  refine callK_of (by kernel_rfl) (drawLevelEuler_c _ _ _ _ hl hc hs) ?_
  rintro _ w1 ⟨ga, gc, rows, A, Cp, lv, rfl, hl1, hl2, hr, x1⟩
  simp (disch := omega) only [go_sem, Nat.reduceEqDiff, ↓reduceIte, Nat.reduceAdd]
  refine callK_of (by kernel_rfl) (implLevelEuler_c _ _ _ _ _ _ _ hr) ?_
  rintro _ w2 ⟨rfl, x2⟩
  simp (disch := omega) only [go_sem, Nat.reduceEqDiff, ↓reduceIte, Nat.reduceAdd]
  refine callK_of (by kernel_rfl) (specLevelEuler_c _ _ _ _ _ _ _ (hr.ext x2)) ?_
  rintro _ w3 ⟨rfl, x3⟩
  have hne : (eulerOf rows lv != eulerOf rows lv) = false := bne_self_eq_false _
  have hee : (eulerOf rows lv == eulerOf rows lv) = true := beq_self_eq_true _
  have x13 := (x1.trans x2).trans x3
  have r3 := (hr.ext x2).ext x3
  cases hbad : (eulerOf rows lv == -1000) with
  | true =>
    simp (disch := omega) only [go_sem, Nat.reduceEqDiff, ↓reduceIte, Nat.reduceAdd, hne, hbad, hee, Try.results12]
    exact ⟨trivial, x13⟩
  | false =>
    have hv : lvok rows lv = true := by
      cases e : lvok rows lv with
      | true => rfl
      | false => simp [eulerOf, e] at hbad
    have v := (gvalid_iff rows).1 (lv_parts hv).1
    have hn49 := v.gd.le
    have hE := euler_rows hv
    have hreg : regionsOf rows lv = (compOf rows lv : Nat) := by simp [regionsOf, hv]
    have hlak : lakesOf rows lv = (lakeN rows.length (rowLen rows) (watB (hgt rows) lv) : Nat) := by simp [lakesOf, hv]
    have hlb : lakeN rows.length (rowLen rows) (watB (hgt rows) lv) ≤ rows.length * rowLen rows := cntp_le _ _
    have hrb : compOf rows lv ≤ rows.length * rowLen rows := by
      have h1 := comp_le (nearN rows.length (rowLen rows)) (landB (hgt rows) lv) (rows.length * rowLen rows)
      have h2 := cntp_le (fun i => landB (hgt rows) lv i = true) (rows.length * rowLen rows)
      simp only [compOf]; omega
    have hb : (eulerOf rows lv == regionsOf rows lv - lakesOf rows lv) = true := by rw [beq_iff_eq]; exact hE
    simp (disch := omega) only [go_sem, Nat.reduceEqDiff, ↓reduceIte, Nat.reduceAdd, hne, hbad]
    refine callK_of (by kernel_rfl) (implLevelRegions_c _ _ _ _ _ _ _ r3) ?_
    rintro _ w4 ⟨rfl, x4⟩
    simp (disch := omega) only [go_sem, Nat.reduceEqDiff, ↓reduceIte, Nat.reduceAdd]
    refine callK_of (by kernel_rfl) (implLevelLakes_c _ _ _ _ _ _ _ (r3.ext x4)) ?_
    rintro _ w5 ⟨rfl, x5⟩
    simp (disch := omega) only [go_sem, Nat.reduceEqDiff, ↓reduceIte, Nat.reduceAdd, hb, Try.results12]
    exact ⟨trivial, (x13.trans x4).trans x5⟩
end Go.Proofs.Ytdlepfeckiahdaa
