/- The level laws FnRegions and FnArea: each returns true, and nothing that was there is written. -/
import Derived.Test.YtlnodngkacbfkaaLt
import Derived.Test.YtlnodngkacbfkaaLs
set_option linter.all false
set_option maxRecDepth 20000
namespace Go.SW
open Go Go.RowKit
theorem landB_cnt (rows : List (List Int)) (lv : Int) : cntp (fun i => landB (hgt rows) lv i = true) (rows.length * rowLen rows) = cntp (fun i => lv ≤ hgt rows i) (rows.length * rowLen rows) := cntp_congr fun i _ => by simp [landB]
end Go.SW
namespace Go.Proofs.Ytlnodngkacbfkaa
open Go.RowKit Go.SW

theorem binb_eql' (a b : Bool) : binV Try.prog .eql 4 (.bool a) (.bool b) = some (.bool (a == b)) := by kernel_rfl
attribute [go_sem] binb_eql'

theorem regions_turned {rows : List (List Int)} (v : Valid rows) {lv : Int} (hv : lvok rows lv = true) : regionsOf (turned rows) lv = regionsOf rows lv := by
  obtain ⟨vm, lm, cm, hm⟩ := turned_ok v hv
  simp only [regionsOf, hv, lm, if_true, compOf, turned_len, cm]
  rw [comp_sym (turn_sym rows.length (rowLen rows)) (P := landB (hgt rows) lv) (Q := landB (hgt (turned rows)) lv) fun i hi => by simp only [landB, hm i hi]]
theorem regions_mirrored {rows : List (List Int)} (v : Valid rows) {lv : Int} (hv : lvok rows lv = true) : regionsOf (mirrored rows) lv = regionsOf rows lv := by
  obtain ⟨vm, lm, cm, hm⟩ := mirrored_ok v hv
  simp only [regionsOf, hv, lm, if_true, compOf, mirrored_len, cm]
  rw [comp_sym (mir_sym rows.length (rowLen rows)) (P := landB (hgt rows) lv) (Q := landB (hgt (mirrored rows)) lv) fun i hi => by simp only [landB, hm i hi]]

theorem drawLevelArea_c (a : Option Addr) (l : List Int) (c : Nat) (w : World) (hl : l.length ≤ c) (hc : c ≤ maxLen) (hs : ByteS w a l) :
    Ret Try.prog 90 #[.slice a l.length c] w fun v w' => ∃ a c rows A Cp lv num, v = .tuple #[.slice a rows.length c, .int .i64 lv, .int .i64 num] ∧ -2 ≤ lv ∧ lv ≤ 102 ∧ -1 ≤ num ∧ num ≤ 3 ∧ RowsAt w' a rows A Cp ∧ Ext w w' := by
  refine enter1 Try.func90 rfl (by kernel_rfl) (of_decide_eq_true (by kernel_rfl)) fun f a0 => ?_
  simp (disch := omega) only [go_sem, Nat.reduceEqDiff, ↓reduceIte, Nat.reduceAdd, a0]
  refine callK_of (by kernel_rfl) (l6Open_c _ _ _ _ hl hc hs) ?_
  rintro _ w1 ⟨rb, rfl, x1, hrb, r1, e1⟩
  simp (disch := omega) only [go_sem, Nat.reduceEqDiff, ↓reduceIte, Nat.reduceAdd]
  refine callK_of (by kernel_rfl) (l91Level_c rb _ 0 _ r1 (by omega) (by omega)) ?_
  rintro _ w2 ⟨a, c, rows, A, Cp, R, lv, rfl, hR1, hR5, hl1, hl2, d, g, r2⟩
  simp (disch := omega) only [go_sem, Nat.reduceEqDiff, ↓reduceIte, Nat.reduceAdd]
  refine callK_of (by kernel_rfl) (pick_c rb _ _ 4 _ r2 (by omega) (by omega)) ?_
  rintro _ w3 ⟨k1, rfl, hk1, g3, r3⟩
  simp (disch := omega) only [go_sem, Nat.reduceEqDiff, ↓reduceIte, Nat.reduceAdd]
  refine callK_of (by kernel_rfl) (pick_c rb _ _ 12 _ r3 (by omega) (by omega)) ?_
  rintro _ w4 ⟨k2, rfl, hk2, g4, r4⟩
  have ht : (k2 : Int).tdiv 11 = (k2 : Int) / 11 := Int.tdiv_eq_ediv_of_nonneg (by omega)
  simp (disch := omega) only [go_sem, Nat.reduceEqDiff, ↓reduceIte, Nat.reduceAdd, Try.results90]
  have d4 := (d.other g3 fun b hb => by simp at hb; omega).other g4 fun b hb => by simp at hb; omega
  refine ⟨a, c, rows, A, Cp, lv, _, rfl, hl1, hl2, ?_, ?_, d4.at (by omega), ((g.trans g3).trans g4).ext x1 fun b hb => by simp at hb; omega⟩ <;> omega

end Go.Proofs.Ytlnodngkacbfkaa
