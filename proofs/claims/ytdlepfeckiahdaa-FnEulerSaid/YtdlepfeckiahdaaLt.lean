/- Contracts: regions, numbers and areas, both sides. -/
import Derived.Test.YtdlepfeckiahdaaM7
import Derived.Test.YtdlepfeckiahdaaLn
import Derived.Test.YtdlepfeckiahdaaLb
import Derived.Test.YtdlepfeckiahdaaWs
set_option linter.all false
namespace Go.SW
/-- The land of a level, as components of neighbours. -/
def landN (rows : List (List Int)) (lv : Int) : Nat → Int := numOf (nearN rows.length (rowLen rows)) (landB (hgt rows) lv) (rows.length * rowLen rows)
def compOf (rows : List (List Int)) (lv : Int) : Nat := compN (nearN rows.length (rowLen rows)) (landB (hgt rows) lv) (rows.length * rowLen rows)
def lvCells (rows : List (List Int)) (lv k : Int) : Nat := areaN (nearN rows.length (rowLen rows)) (landB (hgt rows) lv) (rows.length * rowLen rows) k
def regionsOf (rows : List (List Int)) (lv : Int) : Int := if lvok rows lv = true then (compOf rows lv : Nat) else -1
def areaOf (rows : List (List Int)) (lv k : Int) : Int := if lvok rows lv = true ∧ 0 ≤ k ∧ k < (compOf rows lv : Nat) then (lvCells rows lv k : Nat) else -1
theorem near_ok {R C : Nat} : ∀ i, i < R * C → ∀ j ∈ nearN R C i, j < R * C := fun i hi => nearN_lt hi
end Go.SW
namespace Go.Proofs.Ytdlepfeckiahdaa
open Go.RowKit Go.SW
attribute [local irreducible] callK bslK

theorem implLevelRegions_c (a : Option Addr) (rows : List (List Int)) (A : Nat → Option Addr) (Cp : Nat → Nat) (gc : Nat) (lv : Int) (w : World) (hr : RowsAt w a rows A Cp) :
    Ret Try.prog 40 #[.slice a rows.length gc, .int .i64 lv] w fun v w' => v = .int .i64 (regionsOf rows lv) ∧ Ext w w' := by
  refine enter2 Try.func40 rfl (by kernel_rfl) (of_decide_eq_true (by kernel_rfl)) fun f a0 a1 => ?_
  simp (disch := omega) only [go_sem, Nat.reduceEqDiff, ↓reduceIte, Nat.reduceAdd, a0, a1]
  refine callK_of (by kernel_rfl) (leveled_c _ _ _ _ _ lv _ hr) ?_
  rintro _ w2 ⟨x2, (⟨hlv, cb, rfl, hcb, o⟩ | ⟨hlv, rfl⟩)⟩
  rotate_left
  · simp (disch := omega) only [go_sem, Nat.reduceEqDiff, ↓reduceIte, Nat.reduceAdd]
    refine allocK_of zero_f fun w3 fb _ x3 k3 _ => ?_
    simp (disch := omega) only [go_sem, Nat.reduceEqDiff, ↓reduceIte, Nat.reduceAdd]
    refine stK_agg siz_f (by simp) (by simp [Value.oneCell']) k3 (by simp) fun w4 k4 g4 => ?_
    have x4 : Ext w w4 := g4.ext (x2.trans x3) (by have := x2.size; omega)
    simp (disch := omega) only [go_sem, Nat.reduceEqDiff, ↓reduceIte, Nat.reduceAdd, Try.results40]
    exact ⟨by simp [regionsOf, hlv], x4⟩
  have hv : gvalid rows = true := by simp only [lvok, Bool.and_eq_true] at hlv; exact hlv.1
  have hl0 : 0 ≤ lv ∧ lv ≤ 99 := by simp only [lvok, Bool.and_eq_true, decide_eq_true_eq] at hlv; exact hlv.2
  have v := (gvalid_iff rows).1 hv
  have g := v.gd
  have hr1 := g.r1
  have hr7 := g.r7
  have hc1 := g.c1
  have hc7 := g.c7
  have hn49 := g.le
  simp (disch := omega) only [go_sem, Nat.reduceEqDiff, ↓reduceIte, Nat.reduceAdd]
  refine allocK_of zero_f fun w3 fb _ x3 k3 _ => ?_
  simp (disch := omega) only [go_sem, Nat.reduceEqDiff, ↓reduceIte, Nat.reduceAdd]
  refine stK_agg siz_f (by simp) (by simp [Value.oneCell']) k3 (by simp) fun w4 kb g4 => ?_
  have s2 := x2.size
  have s3 := x3.size
  have x4 : Ext w w4 := g4.ext (x2.trans x3) (by omega)
  have s4 := x4.size
  have hc : CellsAt w4 cb (rows.length * rowLen rows) (hgt rows) := fun i hi => (o.ext x3).grow g4.grow (by have := o.lt g.pos; simp; omega) i hi
  simp (disch := omega) only [go_sem, Nat.reduceEqDiff, ↓reduceIte, Nat.reduceAdd, a1, readCells_blk kb (n := 3) (by simp)]
  refine callK_of (by kernel_rfl) (regions_c _ _ cb (hgt rows) lv _ g hc) ?_
  rintro _ w5 ⟨b, rfl, hb, ob, x5⟩
  simp (disch := omega) only [go_sem, Nat.reduceEqDiff, ↓reduceIte, Nat.reduceAdd, Try.results40]
  exact ⟨by simp [regionsOf, compOf, hlv], x4.trans x5⟩

theorem implLevelArea_c (a : Option Addr) (rows : List (List Int)) (A : Nat → Option Addr) (Cp : Nat → Nat) (gc : Nat) (lv num : Int) (w : World) (hr : RowsAt w a rows A Cp) :
    Ret Try.prog 38 #[.slice a rows.length gc, .int .i64 lv, .int .i64 num] w fun v w' => v = .int .i64 (areaOf rows lv num) ∧ Ext w w' := by
  refine enter3 Try.func38 rfl (by kernel_rfl) (of_decide_eq_true (by kernel_rfl)) fun f a0 a1 a2 => ?_
  simp (disch := omega) only [go_sem, Nat.reduceEqDiff, ↓reduceIte, Nat.reduceAdd, a0, a1]
  refine callK_of (by kernel_rfl) (leveled_c _ _ _ _ _ lv _ hr) ?_
  rintro _ w2 ⟨x2, (⟨hlv, cb, rfl, hcb, o⟩ | ⟨hlv, rfl⟩)⟩
  rotate_left
  · simp (disch := omega) only [go_sem, Nat.reduceEqDiff, ↓reduceIte, Nat.reduceAdd]
    refine allocK_of zero_f fun w3 fb _ x3 k3 _ => ?_
    simp (disch := omega) only [go_sem, Nat.reduceEqDiff, ↓reduceIte, Nat.reduceAdd]
    refine stK_agg siz_f (by simp) (by simp [Value.oneCell']) k3 (by simp) fun w4 k4 g4 => ?_
    have x4 : Ext w w4 := g4.ext (x2.trans x3) (by have := x2.size; omega)
    simp (disch := omega) only [go_sem, Nat.reduceEqDiff, ↓reduceIte, Nat.reduceAdd, Try.results38]
    exact ⟨by simp [areaOf, hlv], x4⟩
  have hv : gvalid rows = true := by simp only [lvok, Bool.and_eq_true] at hlv; exact hlv.1
  have hl0 : 0 ≤ lv ∧ lv ≤ 99 := by simp only [lvok, Bool.and_eq_true, decide_eq_true_eq] at hlv; exact hlv.2
  have v := (gvalid_iff rows).1 hv
  have g := v.gd
  have hr1 := g.r1
  have hr7 := g.r7
  have hc1 := g.c1
  have hc7 := g.c7
  have hn49 := g.le
  simp (disch := omega) only [go_sem, Nat.reduceEqDiff, ↓reduceIte, Nat.reduceAdd]
  refine allocK_of zero_f fun w3 fb _ x3 k3 _ => ?_
  simp (disch := omega) only [go_sem, Nat.reduceEqDiff, ↓reduceIte, Nat.reduceAdd]
  refine stK_agg siz_f (by simp) (by simp [Value.oneCell']) k3 (by simp) fun w4 kb g4 => ?_
  have s2 := x2.size
  have s3 := x3.size
  have x4 : Ext w w4 := g4.ext (x2.trans x3) (by omega)
  have s4 := x4.size
  have hc : CellsAt w4 cb (rows.length * rowLen rows) (hgt rows) := fun i hi => (o.ext x3).grow g4.grow (by have := o.lt g.pos; simp; omega) i hi
  simp (disch := omega) only [go_sem, Nat.reduceEqDiff, ↓reduceIte, Nat.reduceAdd, a1, readCells_blk kb (n := 3) (by simp)]
  refine callK_of (by kernel_rfl) (regions_c _ _ cb (hgt rows) lv _ g hc) ?_
  rintro _ w5 ⟨b, rfl, hb, ob, x5⟩
  by_cases h0 : num < 0
  · simp (disch := omega) only [go_sem, Nat.reduceEqDiff, ↓reduceIte, Nat.reduceAdd, a2, h0, Try.results38]
    exact ⟨by rw [areaOf, if_neg (fun h => by omega)], x4.trans x5⟩
  by_cases h1 : ((compN (nearN rows.length (rowLen rows)) (landB (hgt rows) lv) (rows.length * rowLen rows) : Nat) : Int) ≤ num
  · simp (disch := omega) only [go_sem, Nat.reduceEqDiff, ↓reduceIte, Nat.reduceAdd, a2, h0, h1, Try.results38]
    exact ⟨by rw [areaOf, if_neg (fun h => by have := h.2.2; simp only [compOf] at this; omega)], x4.trans x5⟩
  simp (disch := omega) only [go_sem, Nat.reduceEqDiff, ↓reduceIte, Nat.reduceAdd, a2, h0, h1]
  refine loopN (rows.length * rowLen rows) (fun k f W => f 2 = .int .i64 num ∧ f 11 = .int .i64 (cntp (fun i => landN rows lv i = num) k : Nat) ∧ f 35 = .slice (some ⟨b, 0, none⟩) (rows.length * rowLen rows) (rows.length * rowLen rows) ∧ f 36 = .int .i64 (rows.length * rowLen rows : Nat) ∧ f 37 = .int .i64 k ∧ Ext w5 W) ⟨by simp [upd_apply, a2], by simp [upd_apply, cntp], (by first | assumption | (simp only [upd_apply, Nat.reduceEqDiff, ↓reduceIte] <;> first | rfl | assumption) | simp [upd_apply, *]), (by first | assumption | (simp only [upd_apply, Nat.reduceEqDiff, ↓reduceIte] <;> first | rfl | assumption) | simp [upd_apply, *]), (by first | assumption | (simp only [upd_apply, Nat.reduceEqDiff, ↓reduceIte] <;> first | rfl | assumption) | simp [upd_apply, *]), Ext.refl _⟩ fun k f W hk ⟨a2, a11, a35, a36, a37, xW⟩ => ?_
  by_cases hlt : (k : Int) < (rows.length * rowLen rows : Nat)
  · have hkn : k < rows.length * rowLen rows := by omega
    have ck : W.cell? ⟨b, k, none⟩ = some (.int .i64 (landN rows lv k)) := by rw [(ob.ext xW).cell (by omega)]; exact vi_rangeI_get _ hkn
    have hcl := cntp_le (fun i => landN rows lv i = num) k
    by_cases he : landN rows lv k = num
    · have heq : (landN rows lv k == num) = true := by simp [he]
      simp (disch := omega) only [go_sem, Nat.reduceEqDiff, ↓reduceIte, Nat.reduceAdd, a2, a11, a35, a36, a37, hlt, ck, heq]
      exact ⟨hkn, by simp [upd_apply, a2], by simp [upd_apply, cntp, he], (by first | assumption | (simp only [upd_apply, Nat.reduceEqDiff, ↓reduceIte] <;> first | rfl | assumption) | simp [upd_apply, *]), (by first | assumption | (simp only [upd_apply, Nat.reduceEqDiff, ↓reduceIte] <;> first | rfl | assumption) | simp [upd_apply, *]), (by first | assumption | (simp only [upd_apply, Nat.reduceEqDiff, ↓reduceIte] <;> first | rfl | assumption) | simp [upd_apply, *]), xW⟩
    · have heq : (landN rows lv k == num) = false := by simp [he]
      simp (disch := omega) only [go_sem, Nat.reduceEqDiff, ↓reduceIte, Nat.reduceAdd, a2, a11, a35, a36, a37, hlt, ck, heq]
      exact ⟨hkn, by simp [upd_apply, a2], by simp [upd_apply, cntp, he, a11], (by first | assumption | (simp only [upd_apply, Nat.reduceEqDiff, ↓reduceIte] <;> first | rfl | assumption) | simp [upd_apply, *]), (by first | assumption | (simp only [upd_apply, Nat.reduceEqDiff, ↓reduceIte] <;> first | rfl | assumption) | simp [upd_apply, *]), (by first | assumption | (simp only [upd_apply, Nat.reduceEqDiff, ↓reduceIte] <;> first | rfl | assumption) | simp [upd_apply, *]), xW⟩
  · obtain rfl : k = rows.length * rowLen rows := by omega
    simp (disch := omega) only [go_sem, Nat.reduceEqDiff, ↓reduceIte, Nat.reduceAdd, a11, a36, a37, hlt, Try.results38]
    refine ⟨?_, (x4.trans x5).trans xW⟩
    rw [areaOf, if_pos ⟨hlv, by omega, by simp only [compOf]; omega⟩]; rfl

theorem specLevelRegions_c (a : Option Addr) (rows : List (List Int)) (A : Nat → Option Addr) (Cp : Nat → Nat) (gc : Nat) (lv : Int) (w : World) (hr : RowsAt w a rows A Cp) :
    Ret Try.prog 42 #[.slice a rows.length gc, .int .i64 lv] w fun v w' => v = .int .i64 (regionsOf rows lv) ∧ Ext w w' := by
  refine enter2 Try.func42 rfl (by kernel_rfl) (of_decide_eq_true (by kernel_rfl)) fun f a0 a1 => ?_
  simp (disch := omega) only [go_sem, Nat.reduceEqDiff, ↓reduceIte, Nat.reduceAdd, a0, a1]
  refine callK_pure (by kernel_rfl) (l3Ok_c _ _ _ _ _ _ _ hr) fun w1 x1 => ?_
  cases hlv : lvok rows lv with
  | false =>
    simp (disch := omega) only [go_sem, Nat.reduceEqDiff, ↓reduceIte, Nat.reduceAdd, Try.results42]
    exact ⟨by simp [regionsOf, hlv], x1⟩
  | true =>
    obtain ⟨hv, hl0⟩ := lv_parts hlv
    have v := (gvalid_iff rows).1 hv
    have g := v.gd
    obtain ⟨gb, go, rb, ro, rfl, -, hg⟩ := hr.grid v
    simp (disch := omega) only [go_sem, Nat.reduceEqDiff, ↓reduceIte, Nat.reduceAdd, a0, a1]
    refine callK_of (by kernel_rfl) (l3Numbers_c gb go gc rb ro _ _ _ (hgt rows) lv _ (hg.ext x1) g) ?_
    rintro _ w2 ⟨na, nc, rfl, no, nf, x2⟩
    simp (disch := omega) only [go_sem, Nat.reduceEqDiff, ↓reduceIte, Nat.reduceAdd, Try.results42]
    exact ⟨by simp [regionsOf, compOf, hlv], x1.trans x2⟩

theorem specLevelNumbers_c (a : Option Addr) (rows : List (List Int)) (A : Nat → Option Addr) (Cp : Nat → Nat) (gc : Nat) (lv : Int) (w : World) (hr : RowsAt w a rows A Cp) :
    Ret Try.prog 78 #[.slice a rows.length gc, .int .i64 lv] w fun v w' => Ext w w' ∧ ((lvok rows lv = true ∧ ∃ na nc, v = .tuple #[.slice na (rows.length * rowLen rows) nc, .bool true] ∧ OwnS w' 3 1 na (rows.length * rowLen rows) nc (vi ((List.range (rows.length * rowLen rows)).map (landN rows lv)))) ∨
      (lvok rows lv = false ∧ ∃ na nc, v = .tuple #[.slice na 0 nc, .bool false])) := by
  refine enter2 Try.func78 rfl (by kernel_rfl) (of_decide_eq_true (by kernel_rfl)) fun f a0 a1 => ?_
  simp (disch := omega) only [go_sem, Nat.reduceEqDiff, ↓reduceIte, Nat.reduceAdd, a0, a1]
  refine callK_pure (by kernel_rfl) (l3Ok_c _ _ _ _ _ _ _ hr) fun w1 x1 => ?_
  cases hlv : lvok rows lv with
  | false =>
    simp (disch := omega) only [go_sem, Nat.reduceEqDiff, ↓reduceIte, Nat.reduceAdd]
    refine bslK_0 elt_i fun w2 b2 e2 x2 o2 _ => ?_
    simp (disch := omega) only [go_sem, Nat.reduceEqDiff, ↓reduceIte, Nat.reduceAdd, Try.results78]
    exact ⟨x1.trans x2, .inr ⟨trivial, _, _, rfl⟩⟩
  | true =>
    obtain ⟨hv, hl0⟩ := lv_parts hlv
    have v := (gvalid_iff rows).1 hv
    have g := v.gd
    obtain ⟨gb, go, rb, ro, rfl, -, hg⟩ := hr.grid v
    simp (disch := omega) only [go_sem, Nat.reduceEqDiff, ↓reduceIte, Nat.reduceAdd, a0, a1]
    refine callK_of (by kernel_rfl) (l3Numbers_c gb go gc rb ro _ _ _ (hgt rows) lv _ (hg.ext x1) g) ?_
    rintro _ w2 ⟨na, nc, rfl, no, nf, x2⟩
    simp (disch := omega) only [go_sem, Nat.reduceEqDiff, ↓reduceIte, Nat.reduceAdd, Try.results78]
    exact ⟨x1.trans x2, .inl ⟨trivial, na, nc, rfl, no⟩⟩

theorem specLevelArea_c (a : Option Addr) (rows : List (List Int)) (A : Nat → Option Addr) (Cp : Nat → Nat) (gc : Nat) (lv num : Int) (w : World) (hr : RowsAt w a rows A Cp) :
    Ret Try.prog 39 #[.slice a rows.length gc, .int .i64 lv, .int .i64 num] w fun v w' => v = .int .i64 (areaOf rows lv num) ∧ Ext w w' := by
  refine enter3 Try.func39 rfl (by kernel_rfl) (of_decide_eq_true (by kernel_rfl)) fun f a0 a1 a2 => ?_
  simp (disch := omega) only [go_sem, Nat.reduceEqDiff, ↓reduceIte, Nat.reduceAdd, a0, a1]
  refine callK_of (by kernel_rfl) (specLevelNumbers_c _ _ _ _ _ _ _ hr) ?_
  rintro _ w1 ⟨x1, (⟨hlv, na, nc, rfl, no⟩ | ⟨hlv, na, nc, rfl⟩)⟩
  · have hn49 := (((gvalid_iff rows).1 (lv_parts hlv).1).gd).le
    by_cases h0 : num < 0
    · simp (disch := omega) only [go_sem, Nat.reduceEqDiff, ↓reduceIte, Nat.reduceAdd, a2, h0, Try.results39]
      exact ⟨by rw [areaOf, if_neg (fun h => by omega)], x1⟩
    have hlen : ((List.range (rows.length * rowLen rows)).map (landN rows lv)).length = rows.length * rowLen rows := by simp
    have hcnt := count_rangeI (landN rows lv) num (rows.length * rowLen rows)
    have hap := area_pos (nb := nearN rows.length (rowLen rows)) (act := landB (hgt rows) lv) (n := rows.length * rowLen rows) (k := num) (by omega) near_ok
    have cc : ∀ W, Ext w1 W → Ret Try.prog 79 #[.slice na (rows.length * rowLen rows) nc, .int .i64 num] W fun v w' => v = .int .i64 (lvCells rows lv num : Nat) ∧ Ext W w' := fun W e => by
      have := l2Count_c na ((List.range (rows.length * rowLen rows)).map (landN rows lv)) nc num W (no.ext e).ints (by rw [hlen]; omega)
      rw [hlen, hcnt] at this
      exact this
    simp (disch := omega) only [go_sem, Nat.reduceEqDiff, ↓reduceIte, Nat.reduceAdd, a2, h0]
    refine callK_pure (by kernel_rfl) (cc _ (Ext.refl _)) fun w2 x2 => ?_
    by_cases hz : lvCells rows lv num = 0
    · have hzz : (((lvCells rows lv num : Nat) : Int) == 0) = true := by simp [hz]
      simp (disch := omega) only [go_sem, Nat.reduceEqDiff, ↓reduceIte, Nat.reduceAdd, hzz, Try.results39]
      exact ⟨by rw [areaOf, if_neg (fun h => by have h1 := hap.2 h.2.2; simp only [lvCells] at hz; omega)], x1.trans x2⟩
    · have hzz : (((lvCells rows lv num : Nat) : Int) == 0) = false := by simp [hz]
      simp (disch := omega) only [go_sem, Nat.reduceEqDiff, ↓reduceIte, Nat.reduceAdd, a2, hzz]
      refine callK_pure (by kernel_rfl) (cc _ x2) fun w3 x3 => ?_
      simp (disch := omega) only [go_sem, Nat.reduceEqDiff, ↓reduceIte, Nat.reduceAdd, Try.results39]
      refine ⟨?_, (x1.trans x2).trans x3⟩
      rw [areaOf, if_pos ⟨hlv, by omega, hap.1 (Nat.pos_of_ne_zero hz)⟩]
  · simp (disch := omega) only [go_sem, Nat.reduceEqDiff, ↓reduceIte, Nat.reduceAdd, Try.results39]
    exact ⟨by simp [areaOf, hlv], x1⟩
end Go.Proofs.Ytdlepfeckiahdaa
