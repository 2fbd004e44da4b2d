import Derived.Test.YtcbmhjndbpafbaaGreatDoorKa
import Derived.Test.YtcbmhjndbpafbaaGreatDoorK7
import Derived.Test.YtcbmhjndbpafbaaGreatDoorJ2
import Derived.Test.YtcbmhjndbpafbaaGreatDoorKb
set_option linter.all false
set_option maxRecDepth 20000
namespace Go.SW
theorem arCell_km {R C q c k m : Nat} (hm : m < 3) : arCell R C q c (3 * k + m) = if ¬ (k = 1 ∧ m = 1) ∧ 1 ≤ q + k ∧ q + k ≤ R ∧ 1 ≤ c + m ∧ c + m ≤ C then [(q + k - 1) * C + (c + m - 1)] else [] := by
 have e1 : (3 * k + m) / 3 = k := by omega
 have e2 : (3 * k + m) % 3 = m := by omega
 simp only [arCell, e1, e2]
 by_cases h : k = 1 ∧ m = 1
 ·rw [if_neg (fun h' => by omega), if_neg (fun h' => h'.1 h)]
 ·have : (3 * k + m ≠ 4) ↔ ¬ (k = 1 ∧ m = 1) := by omega
  simp only [this]
end Go.SW
namespace Go.Proofs.YtcbmhjndbpafbaaGreatDoor
open Go.RowKit Go.SW
theorem around_c (R C i : Nat) (x : Option Addr) (n cc : Nat) (w : World) (hR7 : R ≤ 7) (hC7 : C ≤ 7) (hi : i < R * C) :
  Ret Tryz.prog 214 #[.agg #[.int .i64 R, .int .i64 C, .slice x n cc], .int .i64 i] w fun v w' => ∃ a c, v = .slice a (aroundN R C i).length c ∧ OwnS w' 3 1 a (aroundN R C i).length c (vi (ni (aroundN R C i))) ∧ (∀ b, blk a = some b → w.heap.size ≤ b) ∧ Ext w w' := by
 have hC : 0 < C := Nat.pos_of_ne_zero fun e => by subst e; simp at hi
 have hRC : R * C ≤ 7 * 7 := Nat.mul_le_mul hR7 hC7
 have hm : i % C < C := Nat.mod_lt _ hC
 have hq : i / C < R := Nat.div_lt_of_lt_mul (by rw [Nat.mul_comm]; exact hi)
 have m1 : (i : Int) / (C : Int) = ((i / C : Nat) : Int) := rfl
 have m2 : (i : Int) % (C : Int) = ((i % C : Nat) : Int) := rfl
 refine enter2 Tryz.func214 rfl (by kernel_rfl) (of_decide_eq_true (by kernel_rfl)) fun f a0 a1 => ?_
 simp only [go_sem, a0]
 refine boxK_of fun w0 fb eb x0 k0 _ => ?_
 have s0 := x0.size
 have k0 : Blk w0 fb #[.int .i64 R, .int .i64 C, .slice x n cc] 70 := by simpa [Value.cells] using k0
 simp (disch := omega) only [go_sem, a1]
 refine QR_of (by kernel_rfl) (by kernel_rfl) ?_
 simp (disch := omega) only [go_sem, a1, k0.cell, Value.cells, m1, m2]
 intro w00 x00
 generalize hq' : i / C = q at *
 generalize hc' : i % C = c at *
 refine mksK_of elt_i 0 8 _ _ _ _ rfl rfl (by omega) (by omega) (by simp [maxLen]) fun w1 b1 eb1 x1 o1 _ => ?_
 have x01 := x00.trans x1
 have s00 := x00.size
 have o1 : OwnS w1 3 1 (some ⟨b1, 0, none⟩) 0 8 (vi (ni [])) := by simpa [vi, ni] using o1
 simp (disch := omega) only [go_sem]
 refine loopN 3 (fun k f W => f 2 = .pointer (some ⟨fb, 0, none⟩) ∧ f 5 = .int .i64 q ∧ f 6 = .int .i64 c ∧ f 8 = .int .i64 ((k : Int) - 1) ∧ Ext w0 W ∧ ∃ a cp, f 7 = .slice a (aroundTo R C i (3 * k)).length cp ∧ OwnS W 3 1 a (aroundTo R C i (3 * k)).length cp (vi (ni (aroundTo R C i (3 * k)))) ∧ ∀ b, blk a = some b → w0.heap.size ≤ b) ⟨uu, uu, uu, by simp [upd_apply], x01, _, _, uu, by simpa [aroundTo] using o1, fun b hb => by simp [blk] at hb; omega⟩ fun k f W hk ⟨a2, a5, a6, a8, xW, a, cp, a7, oW, fW⟩ => ?_
 by_cases hlt : (k : Int) - 1 ≤ 1
 ·simp (disch := omega) only [go_sem, a8, hlt]
  refine loopN 3 (fun m f W => f 2 = .pointer (some ⟨fb, 0, none⟩) ∧ f 5 = .int .i64 q ∧ f 6 = .int .i64 c ∧ f 8 = .int .i64 ((k : Int) - 1) ∧ f 9 = .int .i64 ((m : Int) - 1) ∧ Ext w0 W ∧ ∃ a cp, f 7 = .slice a (aroundTo R C i (3 * k + m)).length cp ∧ OwnS W 3 1 a (aroundTo R C i (3 * k + m)).length cp (vi (ni (aroundTo R C i (3 * k + m)))) ∧ ∀ b, blk a = some b → w0.heap.size ≤ b) ⟨uu, uu, uu, uu, by simp [upd_apply], xW, _, _, uu, oW, fW⟩ fun m f W hm' ⟨a2, a5, a6, a8, a9, xW, a, cp, a7, oW, fW⟩ => ?_
  by_cases hlm : (m : Int) - 1 ≤ 1
  ·have kW := k0.ext xW
   have hstep : aroundTo R C i (3 * k + (m + 1)) = aroundTo R C i (3 * k + m) ++ arCell R C q c (3 * k + m) := by rw [← hq', ← hc']; rfl
   rw [arCell_km (by omega)] at hstep
   have hlen := aroundTo_len R C i (3 * k + m)
   by_cases hmid : k = 1 ∧ m = 1
   ·have h1 : (((k : Int) - 1) != 0) = false := by simp [hmid.1]
    have h2 : (((m : Int) - 1) != 0) = false := by simp [hmid.2]
    rw [if_neg (fun h => h.1 hmid), List.append_nil] at hstep
    simp (disch := omega) only [go_sem, a8, a9, hlm, h1, h2]
    exact ⟨by first | trivial | omega, uu, uu, uu, uu, by simp [upd_apply], xW, a, cp, by rw [hstep]; exact uu, by rw [hstep]; exact oW, fW⟩
   ·have hne : (((k : Int) - 1) != 0) = true ∨ ((((k : Int) - 1) != 0) = false ∧ (((m : Int) - 1) != 0) = true) := by
     by_cases h1 : k = 1
     ·exact .inr ⟨by simp [h1], by simp; omega⟩
     ·exact .inl (by simp; omega)
    by_cases hin : 1 ≤ q + k ∧ q + k ≤ R ∧ 1 ≤ c + m ∧ c + m ≤ C
    ·rw [if_pos ⟨hmid, hin⟩] at hstep
     have hdec : decide (0 ≤ (q : Int) + ((k : Int) - 1) ∧ (q : Int) + ((k : Int) - 1) < R ∧ 0 ≤ (c : Int) + ((m : Int) - 1) ∧ (c : Int) + ((m : Int) - 1) < C) = true := by
      rw [decide_eq_true_eq]; omega
     have e1 : (q : Int) + ((k : Int) - 1) = ((q + k - 1 : Nat) : Int) := by omega
     have e2 : (c : Int) + ((m : Int) - 1) = ((c + m - 1 : Nat) : Int) := by omega
     have hlc : (q + k - 1) * C + (c + m - 1) < R * C := corner_ltN (by omega) (by omega)
     rcases hne with hne | ⟨hne1, hne⟩
     ·simp (disch := omega) only [go_sem, a2, a5, a6, a8, a9, hlm, hne, readCells_blk kW (n := 3) (by simp)]
      refine callK_of (by kernel_rfl) (has_c _ _ _ _ _ _) ?_
      rintro _ W1 ⟨rfl, y1⟩
      simp (disch := omega) only [go_sem, a2, a5, a6, a7, a8, a9, hdec, readCells_blk (kW.ext y1) (n := 3) (by simp)]
      simp only [e1, e2]
      refine callK_of (by kernel_rfl) (index_c _ C _ _ _ (q + k - 1) (c + m - 1) _ (by omega) (by omega) (by omega)) ?_
      rintro _ W2 ⟨rfl, y2⟩
      simp (disch := omega) only [go_sem]
      refine bslK_1 elt_i rfl fun W3 b3 e3 y3 k3 _ => ?_
      simp (disch := omega) only [go_sem, a7]
      refine appK_1 elt_i ((oW.ext (y1.trans y2)).ext y3) k3 rfl (by omega) (.inl (by decide)) fun W4 a4 c4 o4 g4 h4 => ?_
      have yy := (y1.trans y2).trans y3
      have sy := yy.size
      have sW := xW.size
      simp (disch := omega) only [go_sem, a9]
      refine ⟨by omega, uu, uu, uu, uu, by simp [upd_apply], g4.ext (xW.trans yy) fW, a4, c4, ?_, ?_, fun b hb => ?_⟩
      ·rw [hstep]; simp [upd_apply]
      ·rw [hstep, ← vi_ni_snoc _ _ _ rfl]; simpa using o4
      ·rcases h4 b hb with h | h
       ·exact fW b h
       ·omega
     ·simp (disch := omega) only [go_sem, a2, a5, a6, a8, a9, hlm, hne1, hne, readCells_blk kW (n := 3) (by simp)]
      refine callK_of (by kernel_rfl) (has_c _ _ _ _ _ _) ?_
      rintro _ W1 ⟨rfl, y1⟩
      simp (disch := omega) only [go_sem, a2, a5, a6, a7, a8, a9, hdec, readCells_blk (kW.ext y1) (n := 3) (by simp)]
      simp only [e1, e2]
      refine callK_of (by kernel_rfl) (index_c _ C _ _ _ (q + k - 1) (c + m - 1) _ (by omega) (by omega) (by omega)) ?_
      rintro _ W2 ⟨rfl, y2⟩
      simp (disch := omega) only [go_sem]
      refine bslK_1 elt_i rfl fun W3 b3 e3 y3 k3 _ => ?_
      simp (disch := omega) only [go_sem, a7]
      refine appK_1 elt_i ((oW.ext (y1.trans y2)).ext y3) k3 rfl (by omega) (.inl (by decide)) fun W4 a4 c4 o4 g4 h4 => ?_
      have yy := (y1.trans y2).trans y3
      have sy := yy.size
      have sW := xW.size
      simp (disch := omega) only [go_sem, a9]
      refine ⟨by omega, uu, uu, uu, uu, by simp [upd_apply], g4.ext (xW.trans yy) fW, a4, c4, ?_, ?_, fun b hb => ?_⟩
      ·rw [hstep]; simp [upd_apply]
      ·rw [hstep, ← vi_ni_snoc _ _ _ rfl]; simpa using o4
      ·rcases h4 b hb with h | h
       ·exact fW b h
       ·omega
    ·rw [if_neg (fun h => hin h.2), List.append_nil] at hstep
     have hdec : decide (0 ≤ (q : Int) + ((k : Int) - 1) ∧ (q : Int) + ((k : Int) - 1) < R ∧ 0 ≤ (c : Int) + ((m : Int) - 1) ∧ (c : Int) + ((m : Int) - 1) < C) = false := by
      rw [decide_eq_false_iff_not]; omega
     rcases hne with hne | ⟨hne1, hne⟩
     ·simp (disch := omega) only [go_sem, a2, a5, a6, a8, a9, hlm, hne, readCells_blk kW (n := 3) (by simp)]
      refine callK_of (by kernel_rfl) (has_c _ _ _ _ _ _) ?_
      rintro _ W1 ⟨rfl, y1⟩
      simp (disch := omega) only [go_sem, a9, hdec]
      exact ⟨by omega, uu, uu, uu, uu, by simp [upd_apply], xW.trans y1, a, cp, by rw [hstep]; exact uu, by rw [hstep]; exact oW.ext y1, fW⟩
     ·simp (disch := omega) only [go_sem, a2, a5, a6, a8, a9, hlm, hne1, hne, readCells_blk kW (n := 3) (by simp)]
      refine callK_of (by kernel_rfl) (has_c _ _ _ _ _ _) ?_
      rintro _ W1 ⟨rfl, y1⟩
      simp (disch := omega) only [go_sem, a9, hdec]
      exact ⟨by omega, uu, uu, uu, uu, by simp [upd_apply], xW.trans y1, a, cp, by rw [hstep]; exact uu, by rw [hstep]; exact oW.ext y1, fW⟩
  ·obtain rfl : m = 3 := by omega
   simp (disch := omega) only [go_sem, a8, a9, hlm]
   exact ⟨by omega, uu, uu, uu, by simp [upd_apply], xW, a, cp, uu, oW, fW⟩
 ·obtain rfl : k = 3 := by omega
  simp (disch := omega) only [go_sem, a7, a8, hlt, Tryz.results214]
  exact ⟨a, cp, rfl, oW, fun b hb => by have := fW b hb; omega, x0.trans xW⟩
theorem border_c (R C i : Nat) (sl : Value) (w : World) (hR7 : R ≤ 7) (hC7 : C ≤ 7) (hi : i < R * C) :
  Ret Tryz.prog 75 #[.agg #[.int .i64 R, .int .i64 C, sl], .int .i64 i] w fun v w' => v = .bool (bordB R C i) ∧ Ext w w' := by
 have hC : 0 < C := Nat.pos_of_ne_zero fun e => by subst e; simp at hi
 have hRC : R * C ≤ 7 * 7 := Nat.mul_le_mul hR7 hC7
 have hm : i % C < C := Nat.mod_lt _ hC
 have hq : i / C < R := Nat.div_lt_of_lt_mul (by rw [Nat.mul_comm]; exact hi)
 have m1 : (i : Int) / (C : Int) = ((i / C : Nat) : Int) := rfl
 have m2 : (i : Int) % (C : Int) = ((i % C : Nat) : Int) := rfl
 refine enter2 Tryz.func75 rfl (by kernel_rfl) (of_decide_eq_true (by kernel_rfl)) fun f a0 a1 => ?_
 simp only [go_sem, a0]
 refine boxK_of fun w0 fb eb x0 k0 _ => ?_
 simp (disch := omega) only [go_sem, a1]
 refine QR_of (by kernel_rfl) (by kernel_rfl) ?_
 simp (disch := omega) only [go_sem, a1, k0.cell, Value.cells, m1, m2]
 intro w00 x00
 have k1 := k0.ext x00
 simp only [bordB]
 generalize i / C = q at *
 generalize i % C = c at *
 by_cases h1 : q = 0
 ·have b1 : ((q : Int) == 0) = true := by simp [h1]
  simp (disch := omega) only [go_sem, b1, Tryz.results75]
  exact ⟨by simp [h1], x0.trans x00⟩
 have b1 : ((q : Int) == 0) = false := by simp [h1]
 by_cases h2 : q + 1 = R
 ·have b2 : ((q : Int) == (R : Int) - 1) = true := by simp; omega
  simp (disch := omega) only [go_sem, b1, b2, k1.cell, Value.cells, Tryz.results75]
  exact ⟨by simp [h2], x0.trans x00⟩
 have b2 : ((q : Int) == (R : Int) - 1) = false := by simp; omega
 by_cases h3 : c = 0
 ·have b3 : ((c : Int) == 0) = true := by simp [h3]
  simp (disch := omega) only [go_sem, b1, b2, b3, k1.cell, Value.cells, Tryz.results75]
  exact ⟨by simp [h3], x0.trans x00⟩
 have b3 : ((c : Int) == 0) = false := by simp [h3]
 by_cases h4 : c + 1 = C
 ·have b4 : ((c : Int) == (C : Int) - 1) = true := by simp; omega
  simp (disch := omega) only [go_sem, b1, b2, b3, b4, k1.cell, Value.cells, Tryz.results75]
  exact ⟨by simp [h4], x0.trans x00⟩
 have b4 : ((c : Int) == (C : Int) - 1) = false := by simp; omega
 simp (disch := omega) only [go_sem, b1, b2, b3, b4, k1.cell, Value.cells, Tryz.results75]
 exact ⟨by simp [h1, h2, h3, h4], x0.trans x00⟩
end Go.Proofs.YtcbmhjndbpafbaaGreatDoor
namespace Go.SW
open Go Go.RowKit
def watB (h : Nat → Int) (lv : Int) (i : Nat) : Bool := decide (h i < lv)
def vb (n : Nat) (f : Nat → Bool) : List Value := (List.range n).map fun j => .bool (f j)
theorem vb_set {n x : Nat} {f g : Nat → Bool} {y : Bool} (hx : x < n) (hy : y = g x) (hg : ∀ j, j < n → j ≠ x → g j = f j) : (vb n f).set x (.bool y) = vb n g := by
 apply List.ext_getElem?; intro j
 rw [List.getElem?_set]
 by_cases hj : j < n
 ·by_cases e : x = j
  ·subst e; simp [vb, hx, hy]
  ·rw [if_neg e]; simp [vb, hj, hg j hj (fun h => e h.symm)]
 ·have : x ≠ j := by omega
  rw [if_neg this]; simp [vb, hj]
theorem vb_get {n x : Nat} (f : Nat → Bool) (hx : x < n) : (vb n f)[x]? = some (.bool (f x)) := by simp [vb, hx]
theorem vb_zero (n : Nat) (f : Nat → Bool) (hf : ∀ j, j < n → f j = false) : List.replicate n (Value.bool false) = vb n f := by
 apply List.ext_getElem?; intro j
 by_cases hj : j < n
 ·simp [vb, hj, hf j hj]
 ·simp [vb, hj]
theorem vb_congr {n : Nat} {f g : Nat → Bool} (h : ∀ j, j < n → f j = g j) : vb n f = vb n g := List.map_congr_left fun j hj => by rw [h j (List.mem_range.1 hj)]
def lakesOf (rows : List (List Int)) (lv : Int) : Int := if lvok rows lv = true then (lakeN rows.length (rowLen rows) (watB (hgt rows) lv) : Nat) else -1
theorem lake_take {R C : Nat} {act : Nat → Bool} {k : Nat} (h : lakeP R C act k) : cntp (lakeP R C act) (k + 1) = cntp (lakeP R C act) k + 1 := by
 simp only [cntp]; rw [if_pos h]
theorem lake_skip {R C : Nat} {act : Nat → Bool} {k : Nat} (h : ¬ lakeP R C act k) : cntp (lakeP R C act) (k + 1) = cntp (lakeP R C act) k := by
 simp only [cntp]; rw [if_neg h, Nat.add_zero]
end Go.SW
namespace Go.Proofs.YtcbmhjndbpafbaaGreatDoor
open Go.RowKit Go.SW
attribute [local irreducible] callK bslK
theorem lakes_c (R C cb : Nat) (h : Nat → Int) (lv : Int) (w : World) (g : Gd R C h) (hc : CellsAt w cb (R * C) h) :
  Ret Tryz.prog 193 #[.agg #[.int .i64 R, .int .i64 C, .slice (some ⟨cb, 0, none⟩) (R * C) (R * C)], .int .i64 lv] w fun v w' => v = .int .i64 (lakeN R C (watB h lv) : Nat) ∧ Ext w w' := by
 have hn49 := g.le
 have hpos := g.pos
 have hnb := aro_lt (R := R) (C := C)
 have hcl := hc.lt hpos
 refine enter2 Tryz.func193 rfl (by kernel_rfl) (of_decide_eq_true (by kernel_rfl)) fun f a0 a1 => ?_
 simp only [go_sem, a0]
 refine boxK_of fun w0 fb efb x0 kb _ => ?_
 have s0 := x0.size
 have kb : Blk w0 fb #[.int .i64 R, .int .i64 C, .slice (some ⟨cb, 0, none⟩) (R * C) (R * C)] 70 := by simpa [Value.cells] using kb
 have kl := kb.lt
 simp (disch := omega) only [go_sem, kb.cell]
 refine callK_of (by kernel_rfl) (newForest_c (R * C) _ (by omega)) ?_
 rintro _ w5 ⟨tb, ub, rfl, htb, hub, t5, x5⟩
 have s5 := x5.size
 have kb5 := kb.ext x5
 have hc5 := (hc.ext x0).ext x5
 have x05 := x0.trans x5
 have tl := t5.lt
 simp (disch := omega) only [go_sem, kb5.cell]
 refine loopN (R * C) (fun k f W => f 1 = .int .i64 lv ∧ f 2 = .pointer (some ⟨fb, 0, none⟩) ∧ f 5 = .pointer (some ⟨tb, 0, none⟩) ∧ f 20 = .slice (some ⟨cb, 0, none⟩) (R * C) (R * C) ∧ f 21 = .int .i64 (R * C : Nat) ∧ f 22 = .int .i64 k ∧ Trees W tb ub (R * C) (ufTo (aroundN R C) (watB h lv) k) ∧ Grow (some ub) w5 W) ⟨uu, uu, uu, uu, uu, uu, t5, Grow.refl _ _⟩ fun k f W hk ⟨a1, a2, a5, a20, a21, a22, tW, gW⟩ => ?_
 ·by_cases hlt : (k : Int) < (R * C : Nat)
  ·have hkn : k < R * C := by omega
   have kbw := gW.blk kb5 (by simp; omega)
   have hcw := hc5.grow gW (by simp; omega)
   have ck := hcw k hkn
   simp (disch := omega) only [go_sem, a2, a5, a20, a21, a22, hlt, ck, readCells_blk kbw (n := 3) (by simp [Value.cells]), Value.cells]
   refine callK_of (by kernel_rfl) (around_c _ _ k _ _ _ _ g.r7 g.c7 hkn) ?_
   rintro _ w6 ⟨na, nc, rfl, no, nn, x6⟩
   have hn9 : (aroundN R C k).length ≤ 9 := aroundTo_len R C k 9
   have s6 := x6.size
   have sW := gW.size
   have tWl := tW.lt
   simp (disch := omega) only [go_sem]
   refine loopN (aroundN R C k).length (fun m f V => f 1 = .int .i64 lv ∧ f 2 = .pointer (some ⟨fb, 0, none⟩) ∧ f 5 = .pointer (some ⟨tb, 0, none⟩) ∧ f 6 = .int .i64 k ∧ f 7 = .int .i64 (h k) ∧ f 20 = .slice (some ⟨cb, 0, none⟩) (R * C) (R * C) ∧ f 21 = .int .i64 (R * C : Nat) ∧ f 22 = .int .i64 k ∧
    f 29 = .slice na (aroundN R C k).length nc ∧ f 30 = .int .i64 (aroundN R C k).length ∧ f 31 = .int .i64 m ∧ Trees V tb ub (R * C) (ufRow (watB h lv) k ((aroundN R C k).take m) (ufTo (aroundN R C) (watB h lv) k)) ∧ Grow (some ub) w6 V) ⟨uu, uu, uu, uu, uu, uu, uu, uu, uu, uu, uu, tW.ext x6, Grow.refl _ _⟩ fun m f V hm ⟨a1, a2, a5, a6, a7, a20, a21, a22, a29, a30, a31, tV, gV⟩ => ?_
   ·by_cases hlm : (m : Int) < (aroundN R C k).length
    ·have hml : m < (aroundN R C k).length := by omega
     obtain ⟨nb, rfl⟩ := no.some (by omega)
     have hnb' := nn nb rfl
     have hjk : (aroundN R C k).getD m 0 < R * C := aro_lt _ hkn _ (getD_mem hml)
     have g0 : V.cell? ⟨nb, m, none⟩ = some (.int .i64 ((aroundN R C k).getD m 0 : Nat)) := by rw [(no.grow gV (by simp [blk]; omega)).cell (by omega), vi_get _ _ (by rw [ni_len]; omega), ni_get _ (by omega)]
     have hstep := ufRow_take (watB h lv) k (ufTo (aroundN R C) (watB h lv) k) hml
     have kbm := gV.blk (kbw.ext x6) (by simp; omega)
     have cj := ((hcw.ext x6).grow gV (by simp; omega)) _ hjk
     generalize (aroundN R C k).getD m 0 = j at *
     simp (disch := omega) only [go_sem, a29, a30, a31, hlm, g0]
     by_cases hk2 : h k < lv
     ·by_cases hj2 : h j < lv
      ·have hp : (watB h lv k && watB h lv j) = true := by simp [watB, hk2, hj2]
       rw [if_pos hp] at hstep
       simp (disch := omega) only [go_sem, a1, a2, a5, a6, a7, a31, hk2, hj2, kbm.cell, Value.cells, cj]
       refine callK_of (by kernel_rfl) (join_c _ _ _ _ _ _ _ tV hkn hjk (by omega)) ?_
       rintro _ w7 ⟨t7, g7⟩
       simp (disch := omega) only [go_sem, a31]
       exact ⟨by omega, uu, uu, uu, uu, uu, uu, uu, uu, uu, uu, uu, by rw [hstep]; exact t7, gV.trans g7⟩
      ·have hp : ¬ (watB h lv k && watB h lv j) = true := by simp [watB]; omega
       rw [if_neg hp] at hstep
       simp (disch := omega) only [go_sem, a1, a2, a7, a31, hk2, hj2, kbm.cell, Value.cells, cj]
       exact ⟨by omega, uu, uu, uu, uu, uu, uu, uu, uu, uu, uu, uu, by rw [hstep]; exact tV, gV⟩
     ·have hp : ¬ (watB h lv k && watB h lv j) = true := by simp [watB]; omega
      rw [if_neg hp] at hstep
      simp (disch := omega) only [go_sem, a1, a7, a31, hk2]
      exact ⟨by omega, uu, uu, uu, uu, uu, uu, uu, uu, uu, uu, uu, by rw [hstep]; exact tV, gV⟩
    ·obtain rfl : m = (aroundN R C k).length := by omega
     rw [List.take_length] at tV
     simp (disch := omega) only [go_sem, a22, a30, a31, hlm]
     exact ⟨hkn, uu, uu, uu, uu, uu, uu, tV, (gW.trans (x6.grow _)).trans gV⟩
  ·obtain rfl : k = R * C := by omega
   have kbw := gW.blk kb5 (by simp; omega)
   have hcw := hc5.grow gW (by simp; omega)
   have sW := gW.size
   have tWl := tW.lt
   simp (disch := omega) only [go_sem, a2, a21, a22, hlt, kbw.cell]
   refine mksK_of elt_o (R * C) (R * C) _ _ _ _ rfl rfl (Nat.le_refl _) (by omega) (by simp [maxLen]; omega) fun w7 b7 e7 x7 o7 _ => ?_
   have s7 := x7.size
   have kb7 := kbw.ext x7
   have hc7 := hcw.ext x7
   have t7 : Trees w7 tb ub (R * C) (repF (aroundN R C) (watB h lv) (R * C)) := tW.ext x7
   simp only [Value.cells, made_int] at o7
   rw [vb_zero (R * C) (opTo R C (watB h lv) 0) (fun j _ => rfl)] at o7
   have hb7 : w0.heap.size ≤ b7 ∧ b7 ≠ ub ∧ b7 ≠ tb ∧ fb < b7 := by omega
   have e7w : Ext w w7 := by
    have := gW.ext x05 (fun b hb => by cases hb; omega)
    exact this.trans x7
   have u := rep_ok (act := watB h lv) hnb
   simp (disch := omega) only [go_sem, a2, kb7.cell]
   refine loopN (R * C) (fun k f V => f 1 = .int .i64 lv ∧ f 2 = .pointer (some ⟨fb, 0, none⟩) ∧ f 5 = .pointer (some ⟨tb, 0, none⟩) ∧ f 10 = .slice (some ⟨b7, 0, none⟩) (R * C) (R * C) ∧ f 59 = .int .i64 (R * C : Nat) ∧ f 60 = .int .i64 k ∧
    Ext w V ∧ Blk V fb #[.int .i64 R, .int .i64 C, .slice (some ⟨cb, 0, none⟩) (R * C) (R * C)] 70 ∧ CellsAt V cb (R * C) h ∧ Trees V tb ub (R * C) (repF (aroundN R C) (watB h lv) (R * C)) ∧ OwnS V 4 1 (some ⟨b7, 0, none⟩) (R * C) (R * C) (vb (R * C) (opTo R C (watB h lv) k))) ⟨uu, uu, uu, uu, uu, uu, e7w, kb7, hc7, t7, o7⟩ fun k f V hk ⟨a1, a2, a5, a10, a59, a60, xV, kV, cV, tV, oV⟩ => ?_
   by_cases hlt : (k : Int) < (R * C : Nat)
   ·have hkn : k < R * C := by omega
    simp (disch := omega) only [go_sem, a2, a59, a60, hlt, readCells_blk kV (n := 3) (by simp)]
    refine callK_pure (by kernel_rfl) (border_c _ _ _ _ _ g.r7 g.c7 hkn) fun w8 x8 => ?_
    have o8 := oV.ext x8
    have t8 := tV.ext x8
    have k8 := kV.ext x8
    have c8 := cV.ext x8
    have xw8 := xV.trans x8
    by_cases hbo : bordB R C k = true
    ·simp (disch := omega) only [go_sem, a5, a10, hbo]
     refine callK_of (by kernel_rfl) (root_c _ _ _ _ _ _ t8 hkn (by omega)) ?_
     rintro _ w9 ⟨rfl, t9, g9⟩
     have o9 := o8.grow g9 (by simp [blk]; omega)
     have hle := u.le k hkn
     simp (disch := omega) only [go_sem]
     refine stK_own siz_bool (by rfl) (by rfl) o9 (by omega) fun w10 o10 g10 => ?_
     have hset := vb_set (n := R * C) (x := repF (aroundN R C) (watB h lv) (R * C) k) (f := opTo R C (watB h lv) k) (g := opTo R C (watB h lv) (k + 1)) (y := true) (by omega) (by simp [opTo, hbo]) (fun j hj hne => by simp [opTo, hne.symm])
     rw [hset] at o10
     simp (disch := omega) only [go_sem, a60]
     refine ⟨hkn, uu, uu, uu, uu, uu, uu, g10.ext (g9.ext xw8 (fun b hb => by cases hb; omega)) (by omega), g10.grow.blk (g9.blk k8 (by simp; omega)) (by simp; omega), (c8.grow g9 (by simp; omega)).grow g10.grow (by simp; omega), t9.grow g10.grow (by simp; omega) (by simp; omega), o10⟩
    ·have hbo : bordB R C k = false := by simpa using hbo
     have e : vb (R * C) (opTo R C (watB h lv) (k + 1)) = vb (R * C) (opTo R C (watB h lv) k) := vb_congr fun j _ => by simp [opTo, hbo]
     simp (disch := omega) only [go_sem, a60, hbo]
     exact ⟨hkn, uu, uu, uu, uu, uu, uu, xw8, k8, c8, t8, by rw [e]; exact o8⟩
   ·obtain rfl : k = R * C := by omega
    simp (disch := omega) only [go_sem, a2, a59, a60, hlt, kV.cell]
    refine loopN (R * C) (fun k f V => f 1 = .int .i64 lv ∧ f 5 = .pointer (some ⟨tb, 0, none⟩) ∧ f 10 = .slice (some ⟨b7, 0, none⟩) (R * C) (R * C) ∧ f 12 = .int .i64 (cntp (lakeP R C (watB h lv)) k : Nat) ∧ f 73 = .slice (some ⟨cb, 0, none⟩) (R * C) (R * C) ∧ f 74 = .int .i64 (R * C : Nat) ∧ f 75 = .int .i64 k ∧
     Ext w V ∧ CellsAt V cb (R * C) h ∧ Trees V tb ub (R * C) (repF (aroundN R C) (watB h lv) (R * C)) ∧ OwnS V 4 1 (some ⟨b7, 0, none⟩) (R * C) (R * C) (vb (R * C) (opTo R C (watB h lv) (R * C)))) ⟨uu, uu, uu, by simp [upd_apply, cntp], uu, uu, uu, xV, cV, tV, oV⟩ fun k f V hk ⟨a1, a5, a10, a12, a73, a74, a75, xV, cV, tV, oV⟩ => ?_
    by_cases hlt : (k : Int) < (R * C : Nat)
    ·have hkn : k < R * C := by omega
     have ck := cV k hkn
     have hcnt := cntp_le (lakeP R C (watB h lv)) k
     by_cases hk2 : h k < lv
     ·have hact : watB h lv k = true := by simp [watB, hk2]
      simp (disch := omega) only [go_sem, a1, a5, a73, a74, a75, hlt, ck, hk2]
      refine callK_of (by kernel_rfl) (root_c _ _ _ _ _ _ tV hkn (by omega)) ?_
      rintro _ w8 ⟨rfl, t8, g8⟩
      have o8 := oV.grow g8 (by simp [blk]; omega)
      have c8 := cV.grow g8 (by simp; omega)
      have x8 : Ext w w8 := g8.ext xV (fun b hb => by cases hb; omega)
      by_cases hr : repF (aroundN R C) (watB h lv) (R * C) k = k
      ·have hre : (((repF (aroundN R C) (watB h lv) (R * C) k : Nat) : Int) == (k : Int)) = true := by rw [hr]; exact beq_self_eq_true _
       have c1 : w8.cell? ⟨b7, k, none⟩ = some (.bool (opTo R C (watB h lv) (R * C) k)) := by rw [o8.cell (by omega), vb_get _ hkn]
       cases hop : opTo R C (watB h lv) (R * C) k with
       | true =>
        have hno : ¬ lakeP R C (watB h lv) k := fun hh => by rw [hh.2] at hop; cases hop
        have hs := lake_skip hno
        rw [hop] at c1
        simp (disch := omega) only [go_sem, a10, a75, hre, c1]
        exact ⟨hkn, uu, uu, uu, by simp [upd_apply, hs, a12], uu, uu, uu, x8, c8, t8, o8⟩
       | false =>
        have hs := lake_take (show lakeP R C (watB h lv) k from ⟨⟨hact, hr⟩, hop⟩)
        rw [hop] at c1
        simp (disch := omega) only [go_sem, a10, a12, a75, hre, c1]
        exact ⟨hkn, uu, uu, uu, by simp [upd_apply, hs], uu, uu, uu, x8, c8, t8, o8⟩
      ·have hre : (((repF (aroundN R C) (watB h lv) (R * C) k : Nat) : Int) == (k : Int)) = false := by simp; omega
       have hs := lake_skip (R := R) (C := C) (act := watB h lv) (k := k) fun hh => hr hh.1.2
       simp (disch := omega) only [go_sem, a75, hre]
       exact ⟨hkn, uu, uu, uu, by simp [upd_apply, hs, a12], uu, uu, uu, x8, c8, t8, o8⟩
     ·have hs := lake_skip (R := R) (C := C) (act := watB h lv) (k := k) fun hh => by have := hh.1.1; simp [watB] at this; omega
      simp (disch := omega) only [go_sem, a1, a73, a74, a75, hlt, ck, hk2]
      exact ⟨hkn, uu, uu, uu, by simp [upd_apply, hs, a12], uu, uu, uu, xV, cV, tV, oV⟩
    ·obtain rfl : k = R * C := by omega
     simp (disch := omega) only [go_sem, a12, a74, a75, hlt, Tryz.results193]
     exact ⟨rfl, xV⟩
theorem implLevelLakes_c (a : Option Addr) (rows : List (List Int)) (A : Nat → Option Addr) (Cp : Nat → Nat) (gc : Nat) (lv : Int) (w : World) (hr : RowsAt w a rows A Cp) :
  Ret Tryz.prog 161 #[.slice a rows.length gc, .int .i64 lv] w fun v w' => v = .int .i64 (lakesOf rows lv) ∧ Ext w w' := by
 refine enter2 Tryz.func161 rfl (by kernel_rfl) (of_decide_eq_true (by kernel_rfl)) fun f a0 a1 => ?_
 simp (disch := omega) only [go_sem, a0, a1]
 refine callK_of (by kernel_rfl) (leveled_c _ _ _ _ _ lv _ hr) ?_
 rintro _ w2 ⟨x2, (⟨hlv, cb, rfl, hcb, o⟩ | ⟨hlv, rfl⟩)⟩
 rotate_left
 ·simp (disch := omega) only [go_sem]
  refine allocK_of zero_f fun w3 fb _ x3 k3 _ => ?_
  simp (disch := omega) only [go_sem]
  refine stK_agg siz_f (by simp) (by simp [Value.oneCell']) k3 (by simp) fun w4 k4 g4 => ?_
  have x4 : Ext w w4 := g4.ext (x2.trans x3) (by have := x2.size; omega)
  simp (disch := omega) only [go_sem, Tryz.results161]
  exact ⟨by simp [lakesOf, hlv], x4⟩
 have hv : gvalid rows = true := by simp only [lvok, Bool.and_eq_true] at hlv; exact hlv.1
 have hl0 : 0 ≤ lv ∧ lv ≤ 99 := by simp only [lvok, Bool.and_eq_true, decide_eq_true_eq] at hlv; exact hlv.2
 have v := (gvalid_iff rows).1 hv
 have g := v.gd
 have hr1 := g.r1
 have hr7 := g.r7
 have hc1 := g.c1
 have hc7 := g.c7
 have hn49 := g.le
 simp (disch := omega) only [go_sem]
 refine allocK_of zero_f fun w3 fb _ x3 k3 _ => ?_
 simp (disch := omega) only [go_sem]
 refine stK_agg siz_f (by simp) (by simp [Value.oneCell']) k3 (by simp) fun w4 kb g4 => ?_
 have s2 := x2.size
 have s3 := x3.size
 have x4 : Ext w w4 := g4.ext (x2.trans x3) (by omega)
 have s4 := x4.size
 have hc : CellsAt w4 cb (rows.length * rowLen rows) (hgt rows) := fun i hi => (o.ext x3).grow g4.grow (by have := o.lt g.pos; simp; omega) i hi
 simp (disch := omega) only [go_sem, a1, readCells_blk kb (n := 3) (by simp)]
 refine callK_pure (by kernel_rfl) (lakes_c _ _ cb (hgt rows) lv _ g hc) fun w5 x5 => ?_
 simp (disch := omega) only [go_sem, Tryz.results161]
 exact ⟨by simp [lakesOf, hlv], x4.trans x5⟩
end Go.Proofs.YtcbmhjndbpafbaaGreatDoor
namespace Go.SW
end Go.SW
namespace Go.Proofs.YtcbmhjndbpafbaaGreatDoor
open Go.RowKit Go.SW
attribute [local irreducible] callK bslK
end Go.Proofs.YtcbmhjndbpafbaaGreatDoor
