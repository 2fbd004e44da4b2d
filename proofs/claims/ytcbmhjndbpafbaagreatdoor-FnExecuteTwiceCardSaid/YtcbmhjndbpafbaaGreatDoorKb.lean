import Derived.Test.YtcbmhjndbpafbaaGreatDoorKa
set_option linter.all false
set_option maxRecDepth 20000
namespace Go.Proofs.YtcbmhjndbpafbaaGreatDoor
open Go.RowKit Go.SW
theorem aggN_t : aggN Tryz.prog 215 = some 1 := ke
theorem scal_t : scal Tryz.prog 215 = false := ke
theorem foff_t0 : foff Tryz.prog 215 0 = some 0 := ke
theorem bld_t (x : Option Addr) (n c : Nat) : buildV Tryz.prog 215 [(0, .slice x n c)] = some (.agg #[.slice x n c]) := ke
attribute [go_sem] aggN_t scal_t foff_t0 bld_t
structure Forest (w : World) (tb ub n : Nat) (up : Nat → Nat) : Prop where
 top : Blk w tb #[.slice (some ⟨ub, 0, none⟩) n n] 215
 own : OwnS w 3 1 (some ⟨ub, 0, none⟩) n n (vi (ni ((List.range n).map up)))
 ok : UpOk n up
 ne : tb ≠ ub
theorem Forest.ext {w w' : World} {tb ub n : Nat} {up : Nat → Nat} (t : Forest w tb ub n up) (x : Ext w w') : Forest w' tb ub n up := ⟨t.top.ext x, t.own.ext x, t.ok, t.ne⟩
theorem Forest.grow {w w' : World} {tb ub n : Nat} {up : Nat → Nat} {ob : Option Nat} (t : Forest w tb ub n up) (g : Grow ob w w') (h1 : ob ≠ some tb) (h2 : ob ≠ some ub) : Forest w' tb ub n up :=
 ⟨g.blk t.top h1, t.own.grow g fun b hb e => h2 (by rw [e, ← hb]; rfl), t.ok, t.ne⟩
theorem Forest.cell {w : World} {tb ub n : Nat} {up : Nat → Nat} (t : Forest w tb ub n up) {i : Nat} (hi : i < n) : w.cell? ⟨ub, i, none⟩ = some (.int .i64 (up i : Nat)) := by
 rw [t.own.cell om]; exact vi_range_get up hi
def Trees (w : World) (tb ub n : Nat) (ρ : Nat → Nat) : Prop := ∃ up, Forest w tb ub n up ∧ ∀ i, i < n → rt up i = ρ i
theorem Trees.ext {w w' : World} {tb ub n : Nat} {ρ : Nat → Nat} (t : Trees w tb ub n ρ) (x : Ext w w') : Trees w' tb ub n ρ := let ⟨up, h, e⟩ := t; ⟨up, h.ext x, e⟩
theorem Trees.grow {w w' : World} {tb ub n : Nat} {ρ : Nat → Nat} {ob : Option Nat} (t : Trees w tb ub n ρ) (g : Grow ob w w') (h1 : ob ≠ some tb) (h2 : ob ≠ some ub) : Trees w' tb ub n ρ := let ⟨up, h, e⟩ := t; ⟨up, h.grow g h1 h2, e⟩
theorem Trees.lt {w : World} {tb ub n : Nat} {ρ : Nat → Nat} (t : Trees w tb ub n ρ) : tb < w.heap.size ∧ ub < w.heap.size := let ⟨_, h, _⟩ := t; ⟨h.top.lt, h.own.blk_lt rfl⟩
theorem Trees.root {w : World} {tb ub n : Nat} {ρ : Nat → Nat} (t : Trees w tb ub n ρ) {i : Nat} (hi : i < n) : ρ i ≤ i := by
 obtain ⟨up, h, e⟩ := t
 rw [← e i hi]; exact (rt_root h.ok i hi).1
theorem newForest_c (n : Nat) (w : World) (hn : n ≤ 1048576) :
  Ret Tryz.prog 211 #[.int .i64 n] w fun v w' => ∃ tb ub, v = .pointer (some ⟨tb, 0, none⟩) ∧ w.heap.size ≤ tb ∧ w.heap.size ≤ ub ∧ Trees w' tb ub n (fun i => i) ∧ Ext w w' := by
 refine enter1 Tryz.func211 rfl fun f a0 => ?_
 simp (disch := omega) only [go_sem, a0]
 refine mksK_of elt_i n n _ _ _ _ rfl rfl (Nat.le_refl _) om (by simp [maxLen]; omega) fun w1 ub e1 x1 o1 _ => ?_
 have s1 := x1.size
 simp (disch := omega) only [go_sem]
 refine boxK_of fun w2 tb e2 x2 k2 _ => ?_
 have s2 := x2.size
 have k2 : Blk w2 tb #[.slice (some ⟨ub, 0, none⟩) n n] 215 := by simpa [Value.cells] using k2
 simp (disch := omega) only [go_sem, k2.cell]
 refine loopN n (fun k f W => f 3 = .pointer (some ⟨tb, 0, none⟩) ∧ f 13 = .int .i64 n ∧ f 14 = .int .i64 k ∧ Ext w W ∧ Blk W tb #[.slice (some ⟨ub, 0, none⟩) n n] 215 ∧ OwnS W 3 1 (some ⟨ub, 0, none⟩) n n (vi (ni ((List.range n).map fun i => if i < k then i else 0)))) ⟨uu, uu, uu, x1.trans x2, k2, ?_⟩ fun k f W hk ⟨a3, a13, a14, xw, kw, ow⟩ => ?_
 ·have n0 : (List.replicate n (Value.int .i64 0)) = vi (ni ((List.range n).map fun i => if i < 0 then i else 0)) := by
   apply List.ext_getElem?; intro j
   by_cases hj : j < n <;> simp [vi, ni, hj]
  have o2 := o1.ext x2
  simp only [Value.cells, made_int, n0] at o2
  exact o2
 ·by_cases hlt : (k : Int) < n
  ·simp (disch := omega) only [go_sem, a3, a13, a14, hlt, kw.cell]
   refine stK_own siz_int rf rf ow om fun w3 o3 g3 => ?_
   have hset := vi_range_set (n := n) (x := k) (f := fun i => if i < k then i else 0) (g := fun i => if i < k + 1 then i else 0) (y := (k : Int)) om sm (fun j hj hne => by by_cases h1 : j < k <;> by_cases h2 : j < k + 1 <;> simp [h1, h2] <;> omega)
   rw [hset] at o3
   simp (disch := omega) only [go_sem, a14]
   exact ⟨om, uu, uu, uu, g3.ext xw om, g3.grow.blk kw sq, o3⟩
  ·obtain rfl : k = n := om
   simp (disch := omega) only [go_sem, a3, a13, a14, hlt, Tryz.results211]
   have e : ((List.range k).map fun i => if i < k then i else 0) = (List.range k).map fun i => i := List.map_congr_left fun i hi => by rw [if_pos (List.mem_range.1 hi)]
   rw [e] at ow
   exact ⟨tb, ub, rfl, om, om, ⟨fun i => i, ⟨kw, ow, fun i _ => Nat.le_refl _, om⟩, fun i hi => rt_fix (n := k) (fun i _ => Nat.le_refl _) hi rfl⟩, xw⟩
theorem root_c (tb ub n i : Nat) (ρ : Nat → Nat) (w : World) (t : Trees w tb ub n ρ) (hi : i < n) (hn : n ≤ 1048576) :
  Ret Tryz.prog 213 #[.pointer (some ⟨tb, 0, none⟩), .int .i64 i] w fun v w' => v = .int .i64 (ρ i : Nat) ∧ Trees w' tb ub n ρ ∧ Grow (some ub) w w' := by
 refine enter2 Tryz.func213 rfl fun f a0 a1 => ?_
 simp (disch := omega) only [go_sem]
 refine loopX (fun m f W => f 0 = .pointer (some ⟨tb, 0, none⟩) ∧ Trees W tb ub n ρ ∧ Grow (some ub) w W ∧ ∃ j, m = j ∧ j < n ∧ f 1 = .int .i64 j ∧ ρ j = ρ i) i ⟨uu, t, Grow.refl _ _, i, rfl, hi, uu, rfl⟩ fun m f W ⟨a0, ⟨up, tW, hρ⟩, gW, j, e, hj, a1, hr⟩ => ?_
 subst e
 have cj := tW.cell hj
 have le1 := tW.ok m hj
 have le2 := tW.ok (up m) om
 by_cases hroot : up m = m
 ·have hne : (((up m : Nat) : Int) != (m : Int)) = false := by simp [hroot]
  simp (disch := omega) only [go_sem, a0, a1, tW.top.cell, cj, hne]
  have hz : rt up m = m := rt_fix tW.ok hj hroot
  have e2 : ρ i = m := by rw [← hr, ← hρ m hj]; exact hz
  simp (disch := omega) only [go_sem, a1, Tryz.results213]
  exact ⟨by rw [e2], ⟨up, tW, hρ⟩, gW⟩
 ·have hne : (((up m : Nat) : Int) != (m : Int)) = true := by simp; omega
  have cu := tW.cell (i := up m) om
  simp (disch := omega) only [go_sem, a0, a1, tW.top.cell, cj, hne]
  refine QR_tail 18 ke ke ?_
  simp (disch := omega) only [go_sem, a0, a1, tW.top.cell, cj, cu]
  intro W1 y1
  replace gW := gW.trans (y1.grow (some ub))
  replace tW := tW.ext y1
  refine stK_own siz_int rf rf tW.own om fun w2 o2 g2 => ?_
  have hset := vi_range_set (n := n) (x := m) (f := up) (g := fun k => if k = m then up (up m) else up k) (y := ((up (up m) : Nat) : Int)) hj sm (fun k hk hne => by simp [hne])
  rw [hset] at o2
  obtain ⟨ok2, hrt⟩ := rt_halve tW.ok hj
  have t2 : Forest w2 tb ub n (fun k => if k = m then up (up m) else up k) := ⟨g2.grow.blk tW.top (by simp; exact fun e => tW.ne e.symm), o2, ok2, tW.ne⟩
  have c2 := t2.cell hj
  simp only [if_pos] at c2
  simp (disch := omega) only [go_sem, a0, a1, t2.top.cell, c2]
  refine ⟨up (up m), om, uu, ⟨_, t2, fun k hk => by rw [hrt k hk]; exact hρ k hk⟩, gW.trans g2.grow, _, rfl, om, uu, ?_⟩
  rw [← hρ _ (by omega : up (up m) < n), ← hr, ← hρ m hj, ← rt_step tW.ok (by omega : up m < n), ← rt_step tW.ok hj]
theorem join_c (tb ub n a b : Nat) (ρ : Nat → Nat) (w : World) (t : Trees w tb ub n ρ) (ha : a < n) (hb : b < n) (hn : n ≤ 1048576) :
  Ret Tryz.prog 212 #[.pointer (some ⟨tb, 0, none⟩), .int .i64 a, .int .i64 b] w fun _ w' => Trees w' tb ub n (joinF ρ a b) ∧ Grow (some ub) w w' := by
 refine enter3 Tryz.func212 rfl fun f a0 a1 a2 => ?_
 have la := t.root ha
 have lb := t.root hb
 simp (disch := omega) only [go_sem, a0, a1]
 refine callK_of ke (root_c _ _ _ _ _ _ t ha hn) ?_
 rintro _ w1 ⟨rfl, t1, g1⟩
 simp (disch := omega) only [go_sem, a0, a2]
 refine callK_of ke (root_c _ _ _ _ _ _ t1 hb hn) ?_
 rintro _ w2 ⟨rfl, ⟨up, t2, hρ⟩, g2⟩
 have ra : up (ρ a) = ρ a := by rw [← hρ a ha]; exact (rt_root t2.ok a ha).2
 have rb : up (ρ b) = ρ b := by rw [← hρ b hb]; exact (rt_root t2.ok b hb).2
 by_cases hlt : ((ρ a : Nat) : Int) < (ρ b : Nat)
 ·have hlt' : ρ a < ρ b := om
  simp (disch := omega) only [go_sem, a0, hlt, t2.top.cell]
  refine stK_own siz_int rf rf t2.own om fun w3 o3 g3 => ?_
  have hset := vi_range_set (n := n) (x := ρ b) (f := up) (g := fun k => if k = ρ b then ρ a else up k) (y := ((ρ a : Nat) : Int)) om sm (fun k hk hne => by simp [hne])
  rw [hset] at o3
  obtain ⟨ok3, hrt⟩ := rt_join t2.ok (a := ρ a) (b := ρ b) om ra rb hlt'
  simp (disch := omega) only [go_sem, Tryz.results212]
  refine ⟨⟨_, ⟨g3.grow.blk t2.top (by simp; exact fun e => t2.ne e.symm), o3, ok3, t2.ne⟩, fun k hk => ?_⟩, (g1.trans g2).trans g3.grow⟩
  rw [hrt k hk]
  simp only [joinF, if_pos hlt', hρ k hk]
 ·have hlt' : ¬ ρ a < ρ b := om
  simp (disch := omega) only [go_sem, a0, hlt, t2.top.cell]
  refine stK_own siz_int rf rf t2.own om fun w3 o3 g3 => ?_
  have hset := vi_range_set (n := n) (x := ρ a) (f := up) (g := fun k => if k = ρ a then ρ b else up k) (y := ((ρ b : Nat) : Int)) om sm (fun k hk hne => by simp [hne])
  rw [hset] at o3
  simp (disch := omega) only [go_sem, Tryz.results212]
  by_cases he : ρ a = ρ b
  ·have e : (fun k => if k = ρ a then ρ b else up k) = up := by
    funext k; by_cases hk : k = ρ a
    ·rw [if_pos hk, hk, ra, he]
    ·rw [if_neg hk]
   rw [e] at o3
   refine ⟨⟨up, ⟨g3.grow.blk t2.top (by simp; exact fun e => t2.ne e.symm), o3, t2.ok, t2.ne⟩, fun k hk => ?_⟩, (g1.trans g2).trans g3.grow⟩
   simp only [joinF, if_neg hlt', hρ k hk]
   by_cases hk' : ρ k = ρ a
   ·rw [if_pos hk', hk', he]
   ·rw [if_neg hk']
  ·obtain ⟨ok3, hrt⟩ := rt_join t2.ok (a := ρ b) (b := ρ a) om rb ra om
   refine ⟨⟨_, ⟨g3.grow.blk t2.top (by simp; exact fun e => t2.ne e.symm), o3, ok3, t2.ne⟩, fun k hk => ?_⟩, (g1.trans g2).trans g3.grow⟩
   rw [hrt k hk]
   simp only [joinF, if_neg hlt', hρ k hk]
end Go.Proofs.YtcbmhjndbpafbaaGreatDoor
namespace Go.SW
open Go Go.RowKit
theorem vi_rangeI_set {n x : Nat} {f g : Nat → Int} {y : Int} (hx : x < n) (hy : y = g x) (hg : ∀ j, j < n → j ≠ x → g j = f j) :
  (vi ((List.range n).map f)).set x (.int .i64 y) = vi ((List.range n).map g) := by
 apply List.ext_getElem?; intro j
 rw [List.getElem?_set]
 by_cases hj : j < n
 ·by_cases e : x = j
  ·subst e; simp [vi, hx, hy]
  ·rw [if_neg e]; simp [vi, hj, hg j hj (fun h => e h.symm)]
 ·have : x ≠ j := om
  rw [if_neg this]; simp [vi, hj]
theorem vi_rangeI_get {n x : Nat} (f : Nat → Int) (hx : x < n) : (vi ((List.range n).map f))[x]? = some (.int .i64 (f x)) := by simp [vi, hx]
theorem vi_rangeI_zero (n : Nat) (f : Nat → Int) (hf : ∀ j, j < n → f j = 0) : List.replicate n (Value.int .i64 0) = vi ((List.range n).map f) := by
 apply List.ext_getElem?; intro j
 by_cases hj : j < n
 ·simp [vi, hj, hf j hj]
 ·simp [vi, hj]
section
variable {nb : Nat → List Nat} {act : Nat → Bool} {n : Nat}
theorem numOf_out {i : Nat} (h : act i = false) : numOf nb act n i = -1 := by simp [numOf, h]
theorem numOf_root (hnb : ∀ i, i < n → ∀ j ∈ nb i, j < n) {i : Nat} (h : act i = true) (hr : repF nb act n i = i) : numOf nb act n i = (cntp (rootB nb act n) i : Nat) := by simp [numOf, h, hr]
theorem numOf_rep (hnb : ∀ i, i < n → ∀ j ∈ nb i, j < n) {i : Nat} (hi : i < n) : numOf nb act n (repF nb act n i) = numOf nb act n i := by
 have u := rep_ok (act := act) hnb
 simp only [numOf, rep_act hnb hi, u.idem i hi]
theorem cntp_root_step (nb : Nat → List Nat) (act : Nat → Bool) (n i : Nat) : cntp (rootB nb act n) (i + 1) = cntp (rootB nb act n) i + if act i = true ∧ repF nb act n i = i then 1 else 0 := by
 simp only [cntp]
 by_cases h : act i = true ∧ repF nb act n i = i
 ·rw [if_pos h, if_pos (show rootB nb act n i from h)]
 ·rw [if_neg h, if_neg (show ¬ rootB nb act n i from h)]
end
end Go.SW
namespace Go.Proofs.YtcbmhjndbpafbaaGreatDoor
open Go.RowKit Go.SW
theorem regions_c (R C cb : Nat) (h : Nat → Int) (lv : Int) (w : World) (g : Gd R C h) (hc : CellsAt w cb (R * C) h) :
  Ret Tryz.prog 192 #[.agg #[.int .i64 R, .int .i64 C, .slice (some ⟨cb, 0, none⟩) (R * C) (R * C)], .int .i64 lv] w fun v w' => ∃ b, v = .tuple #[.int .i64 (compN (nearN R C) (landB h lv) (R * C) : Nat), .slice (some ⟨b, 0, none⟩) (R * C) (R * C)] ∧ w.heap.size ≤ b ∧
   OwnS w' 3 1 (some ⟨b, 0, none⟩) (R * C) (R * C) (vi ((List.range (R * C)).map (numOf (nearN R C) (landB h lv) (R * C)))) ∧ Ext w w' := by
 have hn49 := g.le
 have hpos := g.pos
 have hnb : ∀ i, i < R * C → ∀ j ∈ nearN R C i, j < R * C := fun i hi => nearN_lt hi
 have hcl := hc.lt hpos
 refine enter2 Tryz.func192 rfl fun f a0 a1 => ?_
 simp only [go_sem, a0]
 refine boxK_of fun w0 fb efb x0 kb _ => ?_
 have s0 := x0.size
 have kb : Blk w0 fb #[.int .i64 R, .int .i64 C, .slice (some ⟨cb, 0, none⟩) (R * C) (R * C)] 70 := by simpa [Value.cells] using kb
 have kl := kb.lt
 simp (disch := omega) only [go_sem, kb.cell]
 refine callK_of ke (newForest_c (R * C) _ om) ?_
 rintro _ w5 ⟨tb, ub, rfl, htb, hub, t5, x5⟩
 have s5 := x5.size
 have kb5 := kb.ext x5
 have hc5 := (hc.ext x0).ext x5
 have x05 := x0.trans x5
 have tl := t5.lt
 simp (disch := omega) only [go_sem, kb5.cell]
 refine loopN (R * C) (fun k f W => f 1 = .int .i64 lv ∧ f 2 = .pointer (some ⟨fb, 0, none⟩) ∧ f 6 = .pointer (some ⟨tb, 0, none⟩) ∧ f 21 = .slice (some ⟨cb, 0, none⟩) (R * C) (R * C) ∧ f 22 = .int .i64 (R * C : Nat) ∧ f 23 = .int .i64 k ∧ Trees W tb ub (R * C) (ufTo (nearN R C) (landB h lv) k) ∧ Grow (some ub) w5 W) ⟨uu, uu, uu, uu, uu, uu, t5, Grow.refl _ _⟩ fun k f W hk ⟨a1, a2, a6, a21, a22, a23, tW, gW⟩ => ?_
 ·by_cases hlt : (k : Int) < (R * C : Nat)
  ·have hkn : k < R * C := om
   have kbw := gW.blk kb5 sq
   have hcw := hc5.grow gW sq
   have ck := hcw k hkn
   simp (disch := omega) only [go_sem, a2, a6, a21, a22, a23, hlt, ck, readCells_blk kbw (n := 3) (by simp [Value.cells]), Value.cells]
   refine callK_of ke (neighbors_c _ _ k _ _ g.r7 g.c7 hkn) ?_
   rintro _ w6 ⟨na, nc, rfl, no, nn, x6⟩
   have hn4 := nearN_len R C k
   have s6 := x6.size
   have sW := gW.size
   have tWl := tW.lt
   simp (disch := omega) only [go_sem]
   refine loopN (nearN R C k).length (fun m f V => f 1 = .int .i64 lv ∧ f 2 = .pointer (some ⟨fb, 0, none⟩) ∧ f 6 = .pointer (some ⟨tb, 0, none⟩) ∧ f 7 = .int .i64 k ∧ f 8 = .int .i64 (h k) ∧ f 21 = .slice (some ⟨cb, 0, none⟩) (R * C) (R * C) ∧ f 22 = .int .i64 (R * C : Nat) ∧ f 23 = .int .i64 k ∧
    f 30 = .slice na (nearN R C k).length nc ∧ f 31 = .int .i64 (nearN R C k).length ∧ f 32 = .int .i64 m ∧ Trees V tb ub (R * C) (ufRow (landB h lv) k ((nearN R C k).take m) (ufTo (nearN R C) (landB h lv) k)) ∧ Grow (some ub) w6 V) ⟨uu, uu, uu, uu, uu, uu, uu, uu, uu, uu, uu, tW.ext x6, Grow.refl _ _⟩ fun m f V hm ⟨a1, a2, a6, a7, a8, a21, a22, a23, a30, a31, a32, tV, gV⟩ => ?_
   ·by_cases hlm : (m : Int) < (nearN R C k).length
    ·have hml : m < (nearN R C k).length := om
     obtain ⟨nb, rfl⟩ := no.some om
     have hnb' := nn nb rfl
     have hjk : (nearN R C k).getD m 0 < R * C := nearN_lt hkn _ (getD_mem hml)
     have g0 : V.cell? ⟨nb, m, none⟩ = some (.int .i64 ((nearN R C k).getD m 0 : Nat)) := by rw [(no.grow gV (by simp [blk]; omega)).cell om, vi_get _ _ (by rw [ni_len]; omega), ni_get _ om]
     have hstep := ufRow_take (landB h lv) k (ufTo (nearN R C) (landB h lv) k) hml
     have kbm := gV.blk (kbw.ext x6) sq
     have cj := ((hcw.ext x6).grow gV sq) _ hjk
     generalize (nearN R C k).getD m 0 = j at *
     simp (disch := omega) only [go_sem, a30, a31, a32, hlm, g0]
     by_cases hk2 : lv ≤ h k
     ·by_cases hj2 : lv ≤ h j
      ·have hp : (landB h lv k && landB h lv j) = true := by simp [landB, hk2, hj2]
       rw [if_pos hp] at hstep
       simp (disch := omega) only [go_sem, a1, a2, a6, a7, a8, a32, hk2, hj2, kbm.cell, Value.cells, cj]
       refine callK_of ke (join_c _ _ _ _ _ _ _ tV hkn hjk om) ?_
       rintro _ w7 ⟨t7, g7⟩
       simp (disch := omega) only [go_sem, a32]
       exact ⟨om, uu, uu, uu, uu, uu, uu, uu, uu, uu, uu, uu, by rw [hstep]; exact t7, gV.trans g7⟩
      ·have hp : ¬ (landB h lv k && landB h lv j) = true := by simp [landB, hj2]
       rw [if_neg hp] at hstep
       simp (disch := omega) only [go_sem, a1, a2, a8, a32, hk2, hj2, kbm.cell, Value.cells, cj]
       exact ⟨om, uu, uu, uu, uu, uu, uu, uu, uu, uu, uu, uu, by rw [hstep]; exact tV, gV⟩
     ·have hp : ¬ (landB h lv k && landB h lv j) = true := by simp [landB, hk2]
      rw [if_neg hp] at hstep
      simp (disch := omega) only [go_sem, a1, a8, a32, hk2]
      exact ⟨om, uu, uu, uu, uu, uu, uu, uu, uu, uu, uu, uu, by rw [hstep]; exact tV, gV⟩
    ·obtain rfl : m = (nearN R C k).length := om
     rw [List.take_length] at tV
     simp (disch := omega) only [go_sem, a23, a31, a32, hlm]
     exact ⟨hkn, uu, uu, uu, uu, uu, uu, tV, (gW.trans (x6.grow _)).trans gV⟩
  ·obtain rfl : k = R * C := om
   have kbw := gW.blk kb5 sq
   have hcw := hc5.grow gW sq
   have sW := gW.size
   have tWl := tW.lt
   simp (disch := omega) only [go_sem, a2, a22, a23, hlt, kbw.cell]
   refine mksK_of elt_i (R * C) (R * C) _ _ _ _ rfl rfl (Nat.le_refl _) om (by simp [maxLen]; omega) fun w7 b7 e7 x7 o7 _ => ?_
   have s7 := x7.size
   have kb7 := kbw.ext x7
   have hc7 := hcw.ext x7
   have t7 := tW.ext x7
   simp only [Value.cells, made_int] at o7
   rw [vi_rangeI_zero (R * C) (fun i => if i < 0 then numOf (nearN R C) (landB h lv) (R * C) i else 0) (fun j _ => by simp)] at o7
   have hb7 : w0.heap.size ≤ b7 ∧ b7 ≠ ub ∧ b7 ≠ tb := om
   have e7w : Ext w w7 := by
    have := gW.ext x05 (fun b hb => by cases hb; omega)
    exact this.trans x7
   have u := rep_ok (act := landB h lv) hnb
   simp (disch := omega) only [go_sem, a2, kb7.cell]
   refine loopN (R * C) (fun k f V => f 1 = .int .i64 lv ∧ f 6 = .pointer (some ⟨tb, 0, none⟩) ∧ f 11 = .int .i64 (cntp (rootB (nearN R C) (landB h lv) (R * C)) k : Nat) ∧ f 12 = .slice (some ⟨b7, 0, none⟩) (R * C) (R * C) ∧ f 59 = .slice (some ⟨cb, 0, none⟩) (R * C) (R * C) ∧ f 60 = .int .i64 (R * C : Nat) ∧ f 61 = .int .i64 k ∧
    Ext w V ∧ CellsAt V cb (R * C) h ∧ Trees V tb ub (R * C) (repF (nearN R C) (landB h lv) (R * C)) ∧ OwnS V 3 1 (some ⟨b7, 0, none⟩) (R * C) (R * C) (vi ((List.range (R * C)).map fun i => if i < k then numOf (nearN R C) (landB h lv) (R * C) i else 0))) ⟨uu, uu, by simp [upd_apply, cntp], uu, uu, uu, uu, e7w, hc7, t7, o7⟩ fun k f V hk ⟨a1, a6, a11, a12, a59, a60, a61, xV, cV, tV, oV⟩ => ?_
   by_cases hlt : (k : Int) < (R * C : Nat)
   ·have hkn : k < R * C := om
    have ck := cV k hkn
    have hcnt := cntp_le (rootB (nearN R C) (landB h lv) (R * C)) k
    have hstep := cntp_root_step (nearN R C) (landB h lv) (R * C) k
    simp (disch := omega) only [go_sem, a6, a59, a60, a61, hlt, ck]
    refine callK_of ke (root_c _ _ _ _ _ _ tV hkn om) ?_
    rintro _ w8 ⟨rfl, t8, g8⟩
    have o8 := oV.grow g8 (by simp [blk]; omega)
    have c8 := cV.grow g8 sq
    have x8 : Ext w w8 := g8.ext xV (fun b hb => by cases hb; omega)
    by_cases hk2 : h k < lv
    ·have hact : landB h lv k = false := by simp [landB]; omega
     simp (disch := omega) only [go_sem, a1, a12, hk2]
     refine stK_own siz_int rf rf o8 om fun w9 o9 g9 => ?_
     have hset := vi_rangeI_set (n := R * C) (x := k) (f := fun i => if i < k then numOf (nearN R C) (landB h lv) (R * C) i else 0) (g := fun i => if i < k + 1 then numOf (nearN R C) (landB h lv) (R * C) i else 0) (y := -1) hkn (by simp [numOf_out hact]) (fun j hj hne => by by_cases h1 : j < k <;> by_cases h2 : j < k + 1 <;> simp [h1, h2] <;> omega)
     rw [hset] at o9
     rw [if_neg (by rw [hact]; simp)] at hstep
     simp (disch := omega) only [go_sem, a61]
     exact ⟨hkn, uu, uu, by simp [upd_apply, a11, hstep], uu, uu, uu, uu, g9.ext x8 om, c8.grow g9.grow sq, t8.grow g9.grow sq sq, o9⟩
    ·have hact : landB h lv k = true := by simp [landB]; omega
     by_cases hr : repF (nearN R C) (landB h lv) (R * C) k = k
     ·have hre : (((repF (nearN R C) (landB h lv) (R * C) k : Nat) : Int) == (k : Int)) = true := by rw [hr]; exact beq_self_eq_true _
      simp (disch := omega) only [go_sem, a1, a11, a12, hk2, hre]
      refine stK_own siz_int rf rf o8 om fun w9 o9 g9 => ?_
      have hset := vi_rangeI_set (n := R * C) (x := k) (f := fun i => if i < k then numOf (nearN R C) (landB h lv) (R * C) i else 0) (g := fun i => if i < k + 1 then numOf (nearN R C) (landB h lv) (R * C) i else 0) (y := ((cntp (rootB (nearN R C) (landB h lv) (R * C)) k : Nat) : Int)) hkn (by simp [numOf_root hnb hact hr]) (fun j hj hne => by by_cases h1 : j < k <;> by_cases h2 : j < k + 1 <;> simp [h1, h2] <;> omega)
      rw [hset] at o9
      rw [if_pos ⟨hact, hr⟩] at hstep
      simp (disch := omega) only [go_sem, a11, a61]
      exact ⟨hkn, uu, uu, by simp [upd_apply, hstep], uu, uu, uu, uu, g9.ext x8 om, c8.grow g9.grow sq, t8.grow g9.grow sq sq, o9⟩
     ·have hle := u.le k hkn
      have hrk : repF (nearN R C) (landB h lv) (R * C) k < k := om
      have hre : (((repF (nearN R C) (landB h lv) (R * C) k : Nat) : Int) == (k : Int)) = false := by simp; omega
      have hnr := numOf_rep (act := landB h lv) hnb hkn
      have c1 : w8.cell? ⟨b7, repF (nearN R C) (landB h lv) (R * C) k, none⟩ = some (.int .i64 (numOf (nearN R C) (landB h lv) (R * C) k)) := by
       rw [o8.cell om, vi_rangeI_get _ om, if_pos hrk, hnr]
      simp (disch := omega) only [go_sem, a1, a12, hk2, hre, c1]
      refine stK_own siz_int rf rf o8 om fun w9 o9 g9 => ?_
      have hset := vi_rangeI_set (n := R * C) (x := k) (f := fun i => if i < k then numOf (nearN R C) (landB h lv) (R * C) i else 0) (g := fun i => if i < k + 1 then numOf (nearN R C) (landB h lv) (R * C) i else 0) (y := numOf (nearN R C) (landB h lv) (R * C) k) hkn sm (fun j hj hne => by by_cases h1 : j < k <;> by_cases h2 : j < k + 1 <;> simp [h1, h2] <;> omega)
      rw [hset] at o9
      rw [if_neg (fun hh => hr hh.2)] at hstep
      simp (disch := omega) only [go_sem, a61]
      exact ⟨hkn, uu, uu, by simp [upd_apply, a11, hstep], uu, uu, uu, uu, g9.ext x8 om, c8.grow g9.grow sq, t8.grow g9.grow sq sq, o9⟩
   ·obtain rfl : k = R * C := om
    simp (disch := omega) only [go_sem, a11, a12, a60, a61, hlt, Tryz.results192]
    have e : ((List.range (R * C)).map fun i => if i < R * C then numOf (nearN R C) (landB h lv) (R * C) i else 0) = (List.range (R * C)).map (numOf (nearN R C) (landB h lv) (R * C)) := List.map_congr_left fun i hi => by rw [if_pos (List.mem_range.1 hi)]
    rw [e] at oV
    exact ⟨b7, rfl, om, oV, xV⟩
attribute [local irreducible] callK bslK
theorem l3Numbers_c (gb go gc : Nat) (rb ro rc : Nat → Nat) (R C : Nat) (h : Nat → Int) (lv : Int) (w : World) (hg : GridAt w gb go rb ro rc R C h) (g : Gd R C h) :
  Ret Tryz.prog 141 #[.slice (some ⟨gb, go, none⟩) R gc, .int .i64 lv] w fun v w' => ∃ a c, v = .tuple #[.slice a (R * C) c, .int .i64 (compN (nearN R C) (landB h lv) (R * C) : Nat)] ∧
   OwnS w' 3 1 a (R * C) c (vi ((List.range (R * C)).map (numOf (nearN R C) (landB h lv) (R * C)))) ∧ (∀ b, blk a = some b → w.heap.size ≤ b) ∧ Ext w w' := by
 have hn49 := g.le
 have hpos := g.pos
 have hnb : ∀ i, i < R * C → ∀ j ∈ nearN R C i, j < R * C := fun i hi => nearN_lt hi
 have hsym : ∀ i j, i < R * C → j < R * C → j ∈ nearN R C i → i ∈ nearN R C j := fun i j hi hj h => (near_sym hi hj).1 h
 have hr1 := g.r1
 have hr7 := g.r7
 have hc7 := g.c7
 refine enter2 Tryz.func141 rfl fun f a0 a1 => ?_
 simp (disch := omega) only [go_sem, a0, a1]
 refine bslK_0 elt_i fun w1 b1 e1 x1 o1 _ => ?_
 have s1 := x1.size
 simp (disch := omega) only [go_sem]
 refine loopN (R * C) (fun k f W => f 0 = .slice (some ⟨gb, go, none⟩) R gc ∧ f 1 = .int .i64 lv ∧ f 7 = .int .i64 k ∧ (∃ a c, f 6 = .slice a k c ∧ OwnS W 3 1 a k c (vi ((List.range k).map fun _ => -1)) ∧ ∀ b, blk a = some b → w.heap.size ≤ b) ∧ Ext w W) ⟨uu, uu, uu, ⟨_, _, uu, by simpa [vi] using o1, fun b hb => by simp [blk] at hb; omega⟩, x1⟩ fun k f W hk ⟨a0, a1, a7, ⟨a, c, a6, oW, fW⟩, xW⟩ => ?_
 simp (disch := omega) only [go_sem, a0, a7]
 refine callK_pure ke (l2Cells_c gb go gc rb ro rc R C h _ (hg.ext xW) hr1 hr7 hc7) fun w2 x2 => ?_
 by_cases hlt : (k : Int) < (R * C : Nat)
 ·simp (disch := omega) only [go_sem, a6, a7, hlt]
  refine bslK_1 elt_i rfl fun w3 b3 e3 x3 k3 _ => ?_
  simp (disch := omega) only [go_sem]
  refine appK_1 elt_i ((oW.ext x2).ext x3) k3 rfl om (.inl dc) fun w4 a4 c4 o4 g4 h4 => ?_
  simp (disch := omega) only [go_sem, a7]
  refine ⟨om, uu, uu, uu, ⟨a4, c4, uu, ?_, fun b hb => ?_⟩, g4.ext ((xW.trans x2).trans x3) fW⟩
  ·rw [vi_snoc] at o4
   simpa [List.range_succ] using o4
  ·rcases h4 b hb with h | h
   ·exact fW b h
   ·have := xW.size; have := x2.size; have := x3.size; omega
 obtain rfl : k = R * C := om
 have e0 : (List.range (R * C)).map (fun _ => (-1 : Int)) = (List.range (R * C)).map (numTo (nearN R C) (landB h lv) (R * C) 0) := List.map_congr_left fun j _ => (numTo_zero j).symm
 rw [e0] at oW
 simp (disch := omega) only [go_sem, a6, a7, hlt]
 refine loopN (R * C) (fun k f V => f 0 = .slice (some ⟨gb, go, none⟩) R gc ∧ f 1 = .int .i64 lv ∧ f 6 = .slice a (R * C) c ∧ f 8 = .int .i64 (cntp (rootB (nearN R C) (landB h lv) (R * C)) k : Nat) ∧ f 9 = .int .i64 k ∧ OwnS V 3 1 a (R * C) c (vi ((List.range (R * C)).map (numTo (nearN R C) (landB h lv) (R * C) k))) ∧ Ext w V) ⟨uu, uu, uu, by simp [upd_apply, cntp], uu, oW.ext x2, xW.trans x2⟩ fun k f V hk ⟨a0, a1, a6, a8, a9, oV, xV⟩ => ?_
 obtain ⟨ob, rfl⟩ := oW.some hpos
 have hob : w.heap.size ≤ ob := fW ob rfl
 by_cases hlt : (k : Int) < (R * C : Nat)
 ·have hkn : k < R * C := om
  have ck : V.cell? ⟨ob, k, none⟩ = some (.int .i64 (numTo (nearN R C) (landB h lv) (R * C) k k)) := by rw [oV.cell om, vi_rangeI_get _ hkn]
  have hcnt := cntp_le (rootB (nearN R C) (landB h lv) (R * C)) k
  have u := rep_ok (act := landB h lv) hnb
  have hle := u.le k hkn
  by_cases hge : 0 ≤ numTo (nearN R C) (landB h lv) (R * C) k k
  ·have hno : ¬ (landB h lv k = true ∧ repF (nearN R C) (landB h lv) (R * C) k = k) := fun hh => by
    have := (numTo_neg (nb := nearN R C) (act := landB h lv) (n := R * C) k k).2 (fun h' => om)
    omega
   have e1 : (List.range (R * C)).map (numTo (nearN R C) (landB h lv) (R * C) k) = (List.range (R * C)).map (numTo (nearN R C) (landB h lv) (R * C) (k + 1)) := List.map_congr_left fun j hj => (numTo_skip hnb hkn hno (List.mem_range.1 hj)).symm
   have hs := root_skip hno
   simp (disch := omega) only [go_sem, a6, a9, hlt, ck, hge]
   exact ⟨hkn, uu, uu, uu, by simp [upd_apply, hs, a8], uu, by rw [← e1]; exact oV, xV⟩
  ·have hnr := (numTo_neg (nb := nearN R C) (act := landB h lv) (n := R * C) k k).1 om
   have hki : ((k : Nat) : Int).toNat = k := om
   simp (disch := omega) only [go_sem, a0, a1, a6, a9, hlt, ck, hge]
   refine callK_pure ke (l2Height_c gb go gc rb ro rc R C h _ (hg.ext xV) hr7 hc7 (k : Int) om om) fun w5 x5 => ?_
   by_cases hlow : h k < lv
   ·have hno : ¬ (landB h lv k = true ∧ repF (nearN R C) (landB h lv) (R * C) k = k) := fun hh => by
     have := hh.1; simp [landB] at this; omega
    have e1 : (List.range (R * C)).map (numTo (nearN R C) (landB h lv) (R * C) k) = (List.range (R * C)).map (numTo (nearN R C) (landB h lv) (R * C) (k + 1)) := List.map_congr_left fun j hj => (numTo_skip hnb hkn hno (List.mem_range.1 hj)).symm
    have hs := root_skip hno
    simp (disch := omega) only [go_sem, a1, a9, hki, hlow]
    exact ⟨hkn, uu, uu, uu, by simp [upd_apply, hs, a8], uu, by rw [← e1]; exact oV.ext x5, xV.trans x5⟩
   ·have hact : landB h lv k = true := by simp [landB]; omega
    have hroot : landB h lv k = true ∧ repF (nearN R C) (landB h lv) (R * C) k = k := ⟨hact, by
     by_cases e : repF (nearN R C) (landB h lv) (R * C) k = k
     ·exact e
     ·exact absurd ⟨hact, om⟩ hnr⟩
    simp (disch := omega) only [go_sem, a1, a6, a8, a9, hki, hlow]
    refine stK_own siz_int rf rf (oV.ext x5) om fun w6 o6 g6 => ?_
    have b0 := Bfs.one (nb := nearN R C) hkn hroot
    have hset := vi_rangeI_set (n := R * C) (x := k) (f := numTo (nearN R C) (landB h lv) (R * C) k) (g := numIn (nearN R C) (landB h lv) (R * C) k [k]) (y := ((cntp (rootB (nearN R C) (landB h lv) (R * C)) k : Nat) : Int)) hkn (by simp [numIn]) (fun j hj hne => by simp [numIn, hne])
    rw [hset] at o6
    have x6 : Ext w w6 := g6.ext (xV.trans x5) hob
    simp (disch := omega) only [go_sem, a9]
    refine bslK_1 elt_i rfl fun w7 b7 e7 x7 k7 _ => ?_
    have s6 := x6.size
    have o7 := o6.ext x7
    have obl := o6.blk_lt (b := ob) rfl
    have l7 : OwnS w7 3 1 (some ⟨b7, 0, none⟩) 1 1 (vi (ni [k])) := by
     have := OwnS.of_blk (e := 3) (n := 1) (s := 1) k7 sm (by simp [maxLen])
     simpa [vi, ni] using this
    simp (disch := omega) only [go_sem]
    refine loopN (R * C) (fun p f V => f 0 = .slice (some ⟨gb, go, none⟩) R gc ∧ f 1 = .int .i64 lv ∧ f 6 = .slice (some ⟨ob, 0, none⟩) (R * C) c ∧ f 8 = .int .i64 (cntp (rootB (nearN R C) (landB h lv) (R * C)) k : Nat) ∧ f 9 = .int .i64 k ∧ f 11 = .int .i64 p ∧ Ext w V ∧
     ∃ l : List Nat, p ≤ l.length ∧ Bfs (nearN R C) (landB h lv) (R * C) k l ∧ ClosedTo (nearN R C) (landB h lv) l p ∧ OwnS V 3 1 (some ⟨ob, 0, none⟩) (R * C) c (vi ((List.range (R * C)).map (numIn (nearN R C) (landB h lv) (R * C) k l))) ∧
      ∃ la lc, f 10 = .slice la l.length lc ∧ OwnS V 3 1 la l.length lc (vi (ni l)) ∧ ∀ b, blk la = some b → w.heap.size ≤ b ∧ b ≠ ob) ⟨uu, uu, uu, by simp [upd_apply, a8], uu, uu, x6.trans x7, [k], by simp, b0, fun k' x h1 => om, o7, _, _, uu, l7, fun b hb => by simp [blk] at hb; omega⟩ fun p f V hp ⟨a0, a1, a6, a8, a9, a11, xV, l, hpl, bl, cl, oV, la, lc, a10, ol, fl⟩ => ?_
    have hll := bl.len
    by_cases hlp : (p : Int) < (l.length : Int)
    ·have hpl' : p < l.length := om
     obtain ⟨lb, rfl⟩ := ol.some om
     have hx : l[p]? = some (l.getD p 0) := by rw [getD_at _ _ hpl']; exact List.getElem?_eq_getElem hpl'
     have hxl : l.getD p 0 ∈ l := getD_mem hpl'
     have hxn := (bl.mem _ hxl).1
     have cx : V.cell? ⟨lb, p, none⟩ = some (.int .i64 (l.getD p 0 : Nat)) := by rw [ol.cell om, vi_get _ _ (by rw [ni_len]; omega), ni_get _ hpl']
     generalize l.getD p 0 = x at *
     simp (disch := omega) only [go_sem, a0, a10, a11, hlp, cx]
     refine callK_of ke (l2Near_c gb go gc rb ro rc R C h _ (hg.ext xV) hr7 hc7 x hxn) ?_
     rintro _ w8 ⟨na, nc, rfl, no, nn, x8⟩
     have hn4 := nearN_len R C x
     have sV := xV.size
     have obV := oV.blk_lt (b := ob) rfl
     have lbV := ol.blk_lt (b := lb) rfl
     simp (disch := omega) only [go_sem]
     refine loopN (nearN R C x).length (fun m f V => f 0 = .slice (some ⟨gb, go, none⟩) R gc ∧ f 1 = .int .i64 lv ∧ f 6 = .slice (some ⟨ob, 0, none⟩) (R * C) c ∧ f 8 = .int .i64 (cntp (rootB (nearN R C) (landB h lv) (R * C)) k : Nat) ∧ f 9 = .int .i64 k ∧ f 11 = .int .i64 p ∧ f 12 = .slice na (nearN R C x).length nc ∧ f 13 = .int .i64 m ∧ Ext w V ∧ OwnS V 3 1 na (nearN R C x).length nc (vi (ni (nearN R C x))) ∧
      ∃ l : List Nat, p < l.length ∧ l[p]? = some x ∧ x ∈ l ∧ Bfs (nearN R C) (landB h lv) (R * C) k l ∧ ClosedTo (nearN R C) (landB h lv) l p ∧ (∀ j ∈ (nearN R C x).take m, landB h lv j = true → j ∈ l) ∧ OwnS V 3 1 (some ⟨ob, 0, none⟩) (R * C) c (vi ((List.range (R * C)).map (numIn (nearN R C) (landB h lv) (R * C) k l))) ∧
       ∃ la lc, f 10 = .slice la l.length lc ∧ OwnS V 3 1 la l.length lc (vi (ni l)) ∧ ∀ b, blk la = some b → w.heap.size ≤ b ∧ b ≠ ob ∧ blk na ≠ some b) ⟨uu, uu, uu, uu, uu, uu, uu, uu, xV.trans x8, no, l, hpl', hx, hxl, bl, cl, fun j hj => by simp at hj, oV.ext x8, _, _, uu, ol.ext x8, fun b hb => ⟨(fl b hb).1, (fl b hb).2, fun e => by have := nn b e; simp [blk] at hb; omega⟩⟩ fun m f V hm ⟨a0, a1, a6, a8, a9, a11, a12, a13, xV, nV, l, hpl, hx, hxl, bl, cl, hm', oV, la, lc, a10, ol, fl⟩ => ?_
     have hll := bl.len
     by_cases hlm : (m : Int) < (nearN R C x).length
     ·have hml : m < (nearN R C x).length := om
      obtain ⟨nb, rfl⟩ := nV.some om
      have hjm : (nearN R C x).getD m 0 ∈ nearN R C x := getD_mem hml
      have hjn := hnb x hxn _ hjm
      have cj : V.cell? ⟨nb, m, none⟩ = some (.int .i64 ((nearN R C x).getD m 0 : Nat)) := by rw [nV.cell om, vi_get _ _ (by rw [ni_len]; omega), ni_get _ hml]
      have htk : (nearN R C x).take (m + 1) = (nearN R C x).take m ++ [(nearN R C x).getD m 0] := by rw [List.take_succ_eq_append_getElem hml, getD_at _ _ hml]
      generalize (nearN R C x).getD m 0 = j at *
      have co : V.cell? ⟨ob, j, none⟩ = some (.int .i64 (numIn (nearN R C) (landB h lv) (R * C) k l j)) := by rw [oV.cell om, vi_rangeI_get _ hjn]
      have hneg := fun ha => numIn_neg (act := landB h lv) hnb bl hxl hjm ha
      by_cases hng : numIn (nearN R C) (landB h lv) (R * C) k l j < 0
      ·simp (disch := omega) only [go_sem, a0, a1, a6, a12, a13, hlm, cj, co, hng]
       have hji : ((j : Nat) : Int).toNat = j := om
       refine callK_pure ke (l2Height_c gb go gc rb ro rc R C h _ (hg.ext xV) hr7 hc7 (j : Int) om om) fun w9 x9 => ?_
       by_cases hhi : lv ≤ h j
       ·have ha : landB h lv j = true := by simp [landB, hhi]
        have hjl := (hneg ha).1 hng
        have cj9 := x9.cell cj
        simp (disch := omega) only [go_sem, a1, a6, a8, a12, a13, hji, hhi, cj9]
        refine stK_own siz_int rf rf (oV.ext x9) om fun w10 o10 g10 => ?_
        have n10 := (nV.ext x9).grow g10.grow (fun b hb e => by have h1 := nn nb rfl; simp [blk] at hb; simp at e; omega)
        have l10 := (ol.ext x9).grow g10.grow (fun b hb e => by cases e; exact (fl ob hb).2.1 rfl)
        have cj10 : w10.cell? ⟨nb, m, none⟩ = some (.int .i64 (j : Nat)) := by
         have := g10.grow.cell cj9 (by intro e; have h1 := nn nb rfl; simp at e; omega)
         exact this
        have hset := vi_rangeI_set (n := R * C) (x := j) (f := numIn (nearN R C) (landB h lv) (R * C) k l) (g := numIn (nearN R C) (landB h lv) (R * C) k (l ++ [j])) (y := ((cntp (rootB (nearN R C) (landB h lv) (R * C)) k : Nat) : Int)) hjn (by simp [numIn]) (fun y hy hne => by simp [numIn, hne])
        rw [hset] at o10
        have x10 : Ext w w10 := g10.ext (xV.trans x9) hob
        simp (disch := omega) only [go_sem, a10, a12, a13, cj10]
        refine bslK_1 elt_i rfl fun w11 b11 e11 x11 k11 _ => ?_
        simp (disch := omega) only [go_sem]
        refine appK_1 elt_i (l10.ext x11) k11 rfl om (.inl dc) fun w12 a12' c12 o12 g12 h12 => ?_
        have s10 := x10.size
        have s11 := x11.size
        have n11 := (n10.ext x11).blk_lt (b := nb) rfl
        have o11 := (o10.ext x11).blk_lt (b := ob) rfl
        simp (disch := omega) only [go_sem, a13]
        have hbl := bl.push hnb hxl hjm ha hjl
        refine ⟨hml, uu, uu, uu, uu, uu, uu, uu, uu, g12.ext (x10.trans x11) (fun b hb => (fl b hb).1), (n10.ext x11).grow g12 (fun b hb e => (fl b e).2.2 hb), l ++ [j], by simp; omega, by rw [List.getElem?_append_left hpl]; exact hx, by simp [hxl], hbl, cl.push om j, fun y hy hya => ?_, (o10.ext x11).grow g12 (fun b hb e => (fl b e).2.1 (by cases hb; rfl)), a12', c12, by simp [upd_apply], ?_, fun b hb => ?_⟩
        ·rw [htk] at hy
         rcases List.mem_append.1 hy with h1 | h1
         ·exact List.mem_append_left _ (hm' y h1 hya)
         ·exact List.mem_append_right _ h1
        ·rw [← vi_ni_snoc l _ _ rfl]; simpa using o12
        ·rcases h12 b hb with h1 | h1
         ·exact fl b h1
         ·exact ⟨om, om, fun e => by simp [blk] at e; omega⟩
       ·have ha : landB h lv j = false := by simp [landB]; omega
        simp (disch := omega) only [go_sem, a1, a13, hji, hhi]
        refine ⟨hml, uu, uu, uu, uu, uu, uu, uu, uu, xV.trans x9, nV.ext x9, l, hpl, hx, hxl, bl, cl, fun y hy hya => ?_, oV.ext x9, la, lc, uu, ol.ext x9, fl⟩
        rw [htk] at hy
        rcases List.mem_append.1 hy with h1 | h1
        ·exact hm' y h1 hya
        ·rw [List.mem_singleton] at h1; subst h1; rw [ha] at hya; cases hya
      ·simp (disch := omega) only [go_sem, a6, a12, a13, hlm, cj, co, hng]
       refine ⟨hml, uu, uu, uu, uu, uu, uu, uu, uu, xV, nV, l, hpl, hx, hxl, bl, cl, fun y hy hya => ?_, oV, la, lc, uu, ol, fl⟩
       rw [htk] at hy
       rcases List.mem_append.1 hy with h1 | h1
       ·exact hm' y h1 hya
       ·rw [List.mem_singleton] at h1; subst h1
        by_cases hjl : y ∈ l
        ·exact hjl
        ·exact absurd ((hneg hya).2 hjl) hng
     ·obtain rfl : m = (nearN R C x).length := om
      rw [List.take_length] at hm'
      simp (disch := omega) only [go_sem, a11, a12, a13, hlm]
      exact ⟨om, uu, uu, uu, uu, uu, uu, xV, l, om, bl, cl.step hx hm', oV, la, lc, uu, ol, fun b hb => ⟨(fl b hb).1, (fl b hb).2.1⟩⟩
    ·obtain rfl : p = l.length := om
     have hall := cl.all
     have e1 : (List.range (R * C)).map (numIn (nearN R C) (landB h lv) (R * C) k l) = (List.range (R * C)).map (numTo (nearN R C) (landB h lv) (R * C) (k + 1)) := List.map_congr_left fun j hj => numIn_end hnb hsym bl hall (List.mem_range.1 hj)
     rw [e1] at oV
     have hs := root_take hroot
     simp (disch := omega) only [go_sem, a8, a9, a10, a11, hlp]
     exact ⟨hkn, uu, uu, uu, by simp [upd_apply, hs], uu, oV, xV⟩
 ·obtain rfl : k = R * C := om
  have e1 : (List.range (R * C)).map (numTo (nearN R C) (landB h lv) (R * C) (R * C)) = (List.range (R * C)).map (numOf (nearN R C) (landB h lv) (R * C)) := List.map_congr_left fun j hj => numTo_all hnb (List.mem_range.1 hj)
  rw [e1] at oV
  simp (disch := omega) only [go_sem, a6, a8, a9, hlt, Tryz.results141]
  exact ⟨_, _, rfl, oV, fW, xV⟩
end Go.Proofs.YtcbmhjndbpafbaaGreatDoor
namespace Go.Proofs.YtcbmhjndbpafbaaGreatDoor
open Go.RowKit Go.SW
theorem gridInvert_c (a : Option Addr) (rows : List (List Int)) (A : Nat → Option Addr) (Cp : Nat → Nat) (gc : Nat) (w : World) (hr : RowsAt w a rows A Cp) (hv : gvalid rows = true) :
  Ret Tryz.prog 156 #[.slice a rows.length gc] w fun v w' => ∃ b A', v = .tuple #[.slice (some ⟨b, 0, none⟩) rows.length rows.length, .bool true] ∧ Ext w w' ∧ OwnRows w' 35 3 w.heap.size b (mkRows rows.length (rowLen rows) fun i => 99 - hgt rows i) A' := by
 have v := (gvalid_iff rows).1 hv
 have hpos : 0 < rows.length * rowLen rows := Nat.mul_pos v.r1 v.c1
 refine enter1 Tryz.func156 rfl fun f a0 => ?_
 simp (disch := omega) only [go_sem, a0]
 refine callK_of ke (fieldOf_c _ _ _ _ _ _ hr) ?_
 rintro _ w2 ⟨x2, (⟨-, cb, rfl, hcb, o⟩ | ⟨hv', rfl⟩)⟩
 rotate_left
 ·rw [hv] at hv'; cases hv'
 simp only [go_sem]
 refine allocK_of zero_f fun w3 b4 e4 x3 k4 _ => ?_
 simp only [go_sem]
 refine stK_agg siz_f sm oi k4 sm fun w4 k4 g4 => ?_
 have s2 := x2.size
 have s3 := x3.size
 have x4 : Ext w w4 := g4.ext (x2.trans x3) om
 have oc := o.cellsAt
 have hc : CellsAt w4 cb (rows.length * rowLen rows) (hgt rows) := fun i hi => by
  have := ((oc.ext x3).grow g4.grow (by have := oc.lt hpos; simp; omega)) i hi
  simpa only [hs_get rows i hi] using this
 simp (disch := omega) only [go_sem, k4.cell, List.getElem?_toArray, List.getElem?_cons_succ, List.getElem?_cons_zero]
 refine callK_of ke (made_c _ _ _ _ _ _ k4 hc v.r1 v.r7 v.c1 v.c7 fun i hi => v.hgt i hi) ?_
 rintro _ w5 ⟨b, A', rfl, x5, or⟩
 simp (disch := omega) only [go_sem, Tryz.results156]
 exact ⟨b, A', rfl, x4.trans x5, ⟨or.top, Nat.le_trans x4.size or.hb, fun r hr => let ⟨br, h1, h2, h3, oo⟩ := or.row r hr; ⟨br, h1, Nat.le_trans x4.size h2, h3, oo⟩, or.inj⟩⟩
theorem mkRows_rowLen {R C : Nat} {h : Nat → Int} (hR : 1 ≤ R) : rowLen (mkRows R C h) = C := by
 simp only [rowLen]; rw [mkRows_get om]; simp
theorem mkRows_valid {R C : Nat} {h : Nat → Int} (hR1 : 1 ≤ R) (hR : R ≤ 7) (hC1 : 1 ≤ C) (hC : C ≤ 7) (hh : ∀ i, i < R * C → 0 ≤ h i ∧ h i ≤ 99) : Valid (mkRows R C h) := by
 refine ⟨by rw [mkRows_len]; exact hR1, by rw [mkRows_len]; exact hR, by rw [mkRows_rowLen hR1]; exact hC1, by rw [mkRows_rowLen hR1]; exact hC, fun r hr => ?_, fun r c hr hc => ?_⟩
 ·rw [mkRows_len] at hr; rw [mkRows_get hr, mkRows_rowLen hR1]; simp
 ·rw [mkRows_len] at hr; rw [mkRows_rowLen hR1] at hc
  rw [mkRows_get hr]
  have hq : r * C + c < R * C := by
   have := Nat.mul_le_mul_right C (show r + 1 ≤ R from om)
   rw [Nat.add_mul, Nat.one_mul] at this; omega
  have := hh _ hq
  simpa [hc] using this
theorem made_g (gfn : FuncId) (R C fb : Nat) (H : Nat → Int) (w : World) (hgo : goB Tryz.prog gfn = true) (hclo : ∀ (r c : Nat) (W : World), Ext w W → r < R → c < C → Ret Tryz.prog gfn #[.int .i64 r, .int .i64 c, .pointer (some ⟨fb, 0, none⟩)] W fun v w' => v = .int .i64 (H (r * C + c)) ∧ Ext W w') (hR1 : 1 ≤ R) (hR : R ≤ 7) (hC1 : 1 ≤ C) (hC : C ≤ 7) (hh : ∀ i, i < R * C → 0 ≤ H i ∧ H i ≤ 99) :
  Ret Tryz.prog 185 #[.int .i64 R, .int .i64 C, .func (.func gfn) #[] #[.pointer (some ⟨fb, 0, none⟩)]] w fun v w' =>
   ∃ b A', v = .tuple #[.slice (some ⟨b, 0, none⟩) R R, .bool true] ∧ Ext w w' ∧ OwnRows w' 35 3 w.heap.size b (mkRows R C H) A' := by
 have hRC : R * C ≤ 7 * 7 := Nat.mul_le_mul hR hC
 refine enter3 Tryz.func185 rfl fun f a0 a1 a2 => ?_
 have q1 : ¬ (R : Int) < 1 := om
 have q2 : ¬ (7 : Int) < R := om
 have q3 : ¬ (C : Int) < 1 := om
 have q4 : ¬ (7 : Int) < C := om
 simp only [go_sem, a0, a1, q1, q2, q3, q4]
 refine callK_of ke (blank_c R C _ om om) ?_
 rintro _ w1 ⟨nb, rfl, x1, hnb, o1⟩
 simp only [go_sem]
 refine allocK_of zero_f fun w2 b8 e8 x2 k8 _ => ?_
 simp only [go_sem]
 have hn1 : nb < w1.heap.size := o1.blk_lt rfl
 refine stK_agg siz_f sm oi k8 sm fun w3 k3 g3 => ?_
 have o3 := (o1.ext x2).grow g3.grow (by simp [blk]; omega)
 have s1 := x1.size
 have s2 := x2.size
 have x3 : Ext w w3 := g3.ext (x1.trans x2) om
 have s3 := x3.size
 have hn3 : nb ≠ b8 := om
 simp only [go_sem, a0]
 clear k8 g3 x1 x2
 let V : Nat → Value := fun j => .int .i64 (H j)
 let S : F → World → Nat → Prop := fun f w' m => f 1 = .int .i64 C ∧ f 2 = .func (.func gfn) #[] #[.pointer (some ⟨fb, 0, none⟩)] ∧ f 8 = .pointer (some ⟨b8, 0, none⟩) ∧ f 29 = .int .i64 R ∧
  Ext w w' ∧ Blk w' b8 #[.int .i64 R, .int .i64 C, .slice (some ⟨nb, 0, none⟩) (R * C) (R * C)] 70 ∧
  ∃ xs, OwnS w' 3 1 (some ⟨nb, 0, none⟩) (R * C) (R * C) xs ∧ ∀ j, j < m → xs[j]? = some (V j)
 refine loopX (fun m f w' => ∃ r : Nat, m = R - r ∧ r ≤ R ∧ f 30 = .int .i64 r ∧ S f w' (r * C)) R ?_ fun m f w' ⟨r, hm, hr, a30, ⟨a1, a2, a8, a29, xw, kf, xs, o, hx⟩⟩ => ?_
 ·exact ⟨0, om, om, by simp [upd_apply], ⟨by simp [upd_apply, a1], by simp [upd_apply, a2], by simp [upd_apply], by simp [upd_apply], x3, k3, _, o3, fun j hj => by simp at hj⟩⟩
 ·by_cases hlt : (r : Int) < R
  ·simp (disch := omega) only [go_sem, a1, a29, a30, hlt]
   have hq : r * C + C ≤ R * C := by
    have := Nat.mul_le_mul_right C (show r + 1 ≤ R from om)
    rw [Nat.add_mul, Nat.one_mul] at this; exact this
   refine loopX (fun m f w' => ∃ c : Nat, m = C - c ∧ c ≤ C ∧ f 30 = .int .i64 r ∧ f 9 = .int .i64 r ∧ f 33 = .int .i64 C ∧ f 34 = .int .i64 c ∧ S f w' (r * C + c)) C ?_ fun m f w' ⟨c, hm, hcc, a30, a9, a33, a34, ⟨a1, a2, a8, a29, xw, kf, xs, o, hx⟩⟩ => ?_
   ·exact ⟨0, om, om, by simp [upd_apply, a30], by simp [upd_apply], by simp [upd_apply], by simp [upd_apply], ⟨by simp [upd_apply, a1], by simp [upd_apply, a2], by simp [upd_apply, a8], by simp [upd_apply, a29], xw, kf, xs, o, hx⟩⟩
   ·by_cases hltc : (c : Int) < C
    ·simp (disch := omega) only [go_sem, a2, a9, a33, a34, hltc, Array.append_empty, Array.empty_append, List.append_toArray, List.cons_append, List.nil_append]
     have hhj := hh (r * C + c) om
     refine callK_of hgo (hclo r c _ xw om om) ?_
     rintro _ w4 ⟨rfl, x4⟩
     simp (disch := omega) only [go_sem]
     refine callK_of ke (isHeight_c _ _) ?_
     rintro _ w5 ⟨rfl, x5⟩
     have hd : (0 ≤ H (r * C + c) ∧ H (r * C + c) ≤ 99) := om
     simp (disch := omega) only [go_sem, hd, and_self]
     refine QR_tail 7 ke ke ?_
     have kf5 := (kf.ext x4).ext x5
     simp (disch := omega) only [go_sem, a8, a9, kf5.cell, readCells_blk kf5 (n := 3) sm, List.getElem?_toArray, List.getElem?_cons_succ, List.getElem?_cons_zero]
     refine callK_q ke (fun w' e => index_c _ _ _ _ _ _ _ _ om om om) ?_
     simp (disch := omega) only [go_sem]
     intro w6 x6
     refine stK_own siz_int rf rf (((o.ext x4).ext x5).ext x6) om fun w7 o7 g7 => ?_
     simp (disch := omega) only [go_sem, a34]
     refine ⟨C - (c + 1), om, c + 1, rfl, om, by simp [upd_apply, a30], by simp [upd_apply, a9], by simp [upd_apply, a33], by simp [upd_apply],
      ⟨by simp [upd_apply, a1], by simp [upd_apply, a2], by simp [upd_apply, a8], by simp [upd_apply, a29], g7.ext (((xw.trans x4).trans x5).trans x6) om, g7.grow.blk (kf5.ext x6) sq, _, o7, ?_⟩⟩
     rw [← Nat.add_assoc]
     exact set_get V (by rw [o.1]; omega) rfl hx
    ·simp (disch := omega) only [go_sem, a30, a33, a34, hltc]
     exact ⟨R - (r + 1), om, r + 1, rfl, om, by simp [upd_apply], ⟨by simp [upd_apply, a1], by simp [upd_apply, a2], by simp [upd_apply, a8], by simp [upd_apply, a29], xw, kf, xs, o, fun j hj => hx j (by rw [Nat.add_mul, Nat.one_mul] at hj; omega)⟩⟩
  ·simp (disch := omega) only [go_sem, a29, a30, a8, hlt, readCells_blk kf (n := 3) sm]
   obtain rfl : r = R := om
   refine callK_of ke (lists_c r C nb (H) _ (fun i hi => by rw [o.cell om, hx i hi]) om hC1 om) ?_
   rintro _ w4 ⟨b, A', rfl, x4, or⟩
   simp (disch := omega) only [go_sem, Tryz.results185]
   exact ⟨b, A', rfl, xw.trans x4, ⟨or.top, Nat.le_trans xw.size or.hb, fun r hr => let ⟨br, h1, h2, h3, oo⟩ := or.row r hr; ⟨br, h1, Nat.le_trans xw.size h2, h3, oo⟩, or.inj⟩⟩
def turnH (R C : Nat) (h : Nat → Int) (i : Nat) : Int := h ((R - 1 - i % R) * C + i / R)
def mirrorH (C : Nat) (h : Nat → Int) (i : Nat) : Int := h (i / C * C + (C - 1 - i % C))
theorem turn1_c (fb R C cb : Nat) (h : Nat → Int) (r c : Nat) (w : World) (k : Blk w fb #[.int .i64 R, .int .i64 C, .slice (some ⟨cb, 0, none⟩) (R * C) (R * C)] 70) (hc : CellsAt w cb (R * C) h) (hR : R ≤ 7) (hC : C ≤ 7) (hr : r < C) (hcl : c < R) :
  Ret Tryz.prog 186 #[.int .i64 r, .int .i64 c, .pointer (some ⟨fb, 0, none⟩)] w fun v w' => v = .int .i64 (turnH R C h (r * R + c)) ∧ Ext w w' := by
 refine enter3 Tryz.func186 rfl fun f a0 a1 a2 => ?_
 have e : (R : Int) - 1 - (c : Int) = ((R - 1 - c : Nat) : Int) := om
 simp (disch := omega) only [go_sem, a0, a1, a2, k.cell, readCells_blk k (n := 3) sm, e]
 refine callK_of ke (at_c _ _ _ _ _ _ (R - 1 - c) r _ hc om om om (corner_le om hr)) ?_
 rintro _ w1 ⟨rfl, x1⟩
 simp (disch := omega) only [go_sem, Tryz.results186]
 obtain ⟨e1, e2⟩ := div_row R r c hcl
 exact ⟨by simp only [turnH, e1, e2], x1⟩
theorem mirror1_c (fb R C cb : Nat) (h : Nat → Int) (r c : Nat) (w : World) (k : Blk w fb #[.int .i64 R, .int .i64 C, .slice (some ⟨cb, 0, none⟩) (R * C) (R * C)] 70) (hc : CellsAt w cb (R * C) h) (hR : R ≤ 7) (hC : C ≤ 7) (hr : r < R) (hcl : c < C) :
  Ret Tryz.prog 187 #[.int .i64 r, .int .i64 c, .pointer (some ⟨fb, 0, none⟩)] w fun v w' => v = .int .i64 (mirrorH C h (r * C + c)) ∧ Ext w w' := by
 refine enter3 Tryz.func187 rfl fun f a0 a1 a2 => ?_
 have e : (C : Int) - 1 - (c : Int) = ((C - 1 - c : Nat) : Int) := om
 simp (disch := omega) only [go_sem, a0, a1, a2, k.cell, readCells_blk k (n := 3) sm, e]
 refine callK_of ke (at_c _ _ _ _ _ _ r (C - 1 - c) _ hc om om om (corner_le hr om)) ?_
 rintro _ w1 ⟨rfl, x1⟩
 simp (disch := omega) only [go_sem, Tryz.results187]
 obtain ⟨e1, e2⟩ := div_row C r c hcl
 exact ⟨by simp only [mirrorH, e1, e2], x1⟩
theorem turn_idx {R C i : Nat} (hi : i < C * R) : (R - 1 - i % R) * C + i / R < R * C := by
 have hR : 0 < R := Nat.pos_of_ne_zero fun e => by subst e; simp at hi
 have h1 : i / R < C := Nat.div_lt_of_lt_mul (by rw [Nat.mul_comm]; exact hi)
 exact corner_le om h1
theorem mirror_idx {R C i : Nat} (hi : i < R * C) : i / C * C + (C - 1 - i % C) < R * C := by
 have hC : 0 < C := Nat.pos_of_ne_zero fun e => by subst e; simp at hi
 have h1 : i / C < R := Nat.div_lt_of_lt_mul (by rw [Nat.mul_comm]; exact hi)
 exact corner_le h1 om
theorem gridTurn_c (a : Option Addr) (rows : List (List Int)) (A : Nat → Option Addr) (Cp : Nat → Nat) (gc : Nat) (w : World) (hr : RowsAt w a rows A Cp) (hv : gvalid rows = true) :
  Ret Tryz.prog 154 #[.slice a rows.length gc] w fun v w' => ∃ b A', v = .tuple #[.slice (some ⟨b, 0, none⟩) (rowLen rows) (rowLen rows), .bool true] ∧ Ext w w' ∧ OwnRows w' 35 3 w.heap.size b (mkRows (rowLen rows) (rows.length) (turnH rows.length (rowLen rows) (hgt rows))) A' := by
 have v := (gvalid_iff rows).1 hv
 have g := v.gd
 refine enter1 Tryz.func154 rfl fun f a0 => ?_
 simp (disch := omega) only [go_sem, a0]
 refine callK_of ke (fieldOf_c _ _ _ _ _ _ hr) ?_
 rintro _ w2 ⟨x2, (⟨hvt, cb, rfl, hcb, o⟩ | ⟨hv', rfl⟩)⟩
 rotate_left
 ·rw [hv] at hv'; cases hv'
 simp (disch := omega) only [go_sem]
 refine allocK_of zero_f fun w3 b4 e4 x3 k4 _ => ?_
 simp (disch := omega) only [go_sem]
 refine stK_agg siz_f sm oi k4 sm fun w4 k4 g4 => ?_
 have s2 := x2.size
 have s3 := x3.size
 have x4 : Ext w w4 := g4.ext (x2.trans x3) om
 have oc := o.cellsAt
 have hc : CellsAt w4 cb (rows.length * rowLen rows) (hgt rows) := fun i hi => by
  have := ((oc.ext x3).grow g4.grow (by have := oc.lt g.pos; simp; omega)) i hi
  simpa only [hs_get rows i hi] using this
 simp (disch := omega) only [go_sem, k4.cell]
 refine callK_of ke (made_g 186 (rowLen rows) (rows.length) b4 (turnH rows.length (rowLen rows) (hgt rows)) _ ke (fun r c W e h1 h2 => turn1_c b4 _ _ cb (hgt rows) r c W (k4.ext e) (hc.ext e) g.r7 g.c7 h1 h2) (by first | exact g.r1 | exact g.c1) (by first | exact g.r7 | exact g.c7) (by first | exact g.c1 | exact g.r1) (by first | exact g.c7 | exact g.r7) (fun i hi => g.hh _ (turn_idx hi))) ?_
 rintro _ w5 ⟨b, A', rfl, x5, or⟩
 simp (disch := omega) only [go_sem, Tryz.results154]
 exact ⟨b, A', rfl, x4.trans x5, ⟨or.top, Nat.le_trans x4.size or.hb, fun r hr => let ⟨br, h1, h2, h3, oo⟩ := or.row r hr; ⟨br, h1, Nat.le_trans x4.size h2, h3, oo⟩, or.inj⟩⟩
theorem gridMirror_c (a : Option Addr) (rows : List (List Int)) (A : Nat → Option Addr) (Cp : Nat → Nat) (gc : Nat) (w : World) (hr : RowsAt w a rows A Cp) (hv : gvalid rows = true) :
  Ret Tryz.prog 155 #[.slice a rows.length gc] w fun v w' => ∃ b A', v = .tuple #[.slice (some ⟨b, 0, none⟩) (rows.length) (rows.length), .bool true] ∧ Ext w w' ∧ OwnRows w' 35 3 w.heap.size b (mkRows (rows.length) (rowLen rows) (mirrorH (rowLen rows) (hgt rows))) A' := by
 have v := (gvalid_iff rows).1 hv
 have g := v.gd
 refine enter1 Tryz.func155 rfl fun f a0 => ?_
 simp (disch := omega) only [go_sem, a0]
 refine callK_of ke (fieldOf_c _ _ _ _ _ _ hr) ?_
 rintro _ w2 ⟨x2, (⟨hvt, cb, rfl, hcb, o⟩ | ⟨hv', rfl⟩)⟩
 rotate_left
 ·rw [hv] at hv'; cases hv'
 simp (disch := omega) only [go_sem]
 refine allocK_of zero_f fun w3 b4 e4 x3 k4 _ => ?_
 simp (disch := omega) only [go_sem]
 refine stK_agg siz_f sm oi k4 sm fun w4 k4 g4 => ?_
 have s2 := x2.size
 have s3 := x3.size
 have x4 : Ext w w4 := g4.ext (x2.trans x3) om
 have oc := o.cellsAt
 have hc : CellsAt w4 cb (rows.length * rowLen rows) (hgt rows) := fun i hi => by
  have := ((oc.ext x3).grow g4.grow (by have := oc.lt g.pos; simp; omega)) i hi
  simpa only [hs_get rows i hi] using this
 simp (disch := omega) only [go_sem, k4.cell]
 refine callK_of ke (made_g 187 (rows.length) (rowLen rows) b4 (mirrorH (rowLen rows) (hgt rows)) _ ke (fun r c W e h1 h2 => mirror1_c b4 _ _ cb (hgt rows) r c W (k4.ext e) (hc.ext e) g.r7 g.c7 h1 h2) (by first | exact g.r1 | exact g.c1) (by first | exact g.r7 | exact g.c7) (by first | exact g.c1 | exact g.r1) (by first | exact g.c7 | exact g.r7) (fun i hi => g.hh _ (mirror_idx hi))) ?_
 rintro _ w5 ⟨b, A', rfl, x5, or⟩
 simp (disch := omega) only [go_sem, Tryz.results155]
 exact ⟨b, A', rfl, x4.trans x5, ⟨or.top, Nat.le_trans x4.size or.hb, fun r hr => let ⟨br, h1, h2, h3, oo⟩ := or.row r hr; ⟨br, h1, Nat.le_trans x4.size h2, h3, oo⟩, or.inj⟩⟩
end Go.Proofs.YtcbmhjndbpafbaaGreatDoor
namespace Go.SW
def compOf (rows : List (List Int)) (lv : Int) : Nat := compN (nearN rows.length (rowLen rows)) (landB (hgt rows) lv) (rows.length * rowLen rows)
def regionsOf (rows : List (List Int)) (lv : Int) : Int := if lvok rows lv = true then (compOf rows lv : Nat) else -1
end Go.SW
namespace Go.Proofs.YtcbmhjndbpafbaaGreatDoor
open Go.RowKit Go.SW
attribute [local irreducible] callK bslK
theorem implLevelRegions_c (a : Option Addr) (rows : List (List Int)) (A : Nat → Option Addr) (Cp : Nat → Nat) (gc : Nat) (lv : Int) (w : World) (hr : RowsAt w a rows A Cp) :
  Ret Tryz.prog 160 #[.slice a rows.length gc, .int .i64 lv] w fun v w' => v = .int .i64 (regionsOf rows lv) ∧ Ext w w' := by
 refine enter2 Tryz.func160 rfl fun f a0 a1 => ?_
 simp (disch := omega) only [go_sem, a0, a1]
 refine callK_of ke (leveled_c _ _ _ _ _ lv _ hr) ?_
 rintro _ w2 ⟨x2, (⟨hlv, cb, rfl, hcb, o⟩ | ⟨hlv, rfl⟩)⟩
 rotate_left
 ·simp (disch := omega) only [go_sem]
  refine allocK_of zero_f fun w3 fb _ x3 k3 _ => ?_
  simp (disch := omega) only [go_sem]
  refine stK_agg siz_f sm oi k3 sm fun w4 k4 g4 => ?_
  have x4 : Ext w w4 := g4.ext (x2.trans x3) (by have := x2.size; omega)
  simp (disch := omega) only [go_sem, Tryz.results160]
  exact ⟨by simp [regionsOf, hlv], x4⟩
 have hv : gvalid rows = true := by simp only [lvok, Bool.and_eq_true] at hlv; exact hlv.1
 have hl0 : 0 ≤ lv ∧ lv ≤ 99 := by simp only [lvok, Bool.and_eq_true, decide_eq_true_eq] at hlv; exact hlv.2
 have v := (gvalid_iff rows).1 hv
 have g := v.gd
 have hr1 := g.r1
 have hr7 := g.r7
 have hc1 := g.c1
 have hc7 := g.c7
 have hn49 := g.le
 simp (disch := omega) only [go_sem]
 refine allocK_of zero_f fun w3 fb _ x3 k3 _ => ?_
 simp (disch := omega) only [go_sem]
 refine stK_agg siz_f sm oi k3 sm fun w4 kb g4 => ?_
 have s2 := x2.size
 have s3 := x3.size
 have x4 : Ext w w4 := g4.ext (x2.trans x3) om
 have s4 := x4.size
 have hc : CellsAt w4 cb (rows.length * rowLen rows) (hgt rows) := fun i hi => (o.ext x3).grow g4.grow (by have := o.lt g.pos; simp; omega) i hi
 simp (disch := omega) only [go_sem, a1, readCells_blk kb (n := 3) sm]
 refine callK_of ke (regions_c _ _ cb (hgt rows) lv _ g hc) ?_
 rintro _ w5 ⟨b, rfl, hb, ob, x5⟩
 simp (disch := omega) only [go_sem, Tryz.results160]
 exact ⟨by simp [regionsOf, compOf, hlv], x4.trans x5⟩
theorem specLevelRegions_c (a : Option Addr) (rows : List (List Int)) (A : Nat → Option Addr) (Cp : Nat → Nat) (gc : Nat) (lv : Int) (w : World) (hr : RowsAt w a rows A Cp) :
  Ret Tryz.prog 107 #[.slice a rows.length gc, .int .i64 lv] w fun v w' => v = .int .i64 (regionsOf rows lv) ∧ Ext w w' := by
 refine enter2 Tryz.func107 rfl fun f a0 a1 => ?_
 simp (disch := omega) only [go_sem, a0, a1]
 refine callK_pure ke (l3Ok_c _ _ _ _ _ _ _ hr) fun w1 x1 => ?_
 cases hlv : lvok rows lv with
 | false =>
  simp (disch := omega) only [go_sem, Tryz.results107]
  exact ⟨by simp [regionsOf, hlv], x1⟩
 | true =>
  obtain ⟨hv, hl0⟩ := lv_parts hlv
  have v := (gvalid_iff rows).1 hv
  have g := v.gd
  obtain ⟨gb, go, rb, ro, rfl, -, hg⟩ := hr.grid v
  simp (disch := omega) only [go_sem, a0, a1]
  refine callK_of ke (l3Numbers_c gb go gc rb ro _ _ _ (hgt rows) lv _ (hg.ext x1) g) ?_
  rintro _ w2 ⟨na, nc, rfl, no, nf, x2⟩
  simp (disch := omega) only [go_sem, Tryz.results107]
  exact ⟨by simp [regionsOf, compOf, hlv], x1.trans x2⟩
end Go.Proofs.YtcbmhjndbpafbaaGreatDoor
namespace Go.Proofs.YtcbmhjndbpafbaaGreatDoor
open Go.RowKit Go.SW
def turned (rows : List (List Int)) : List (List Int) := mkRows (rowLen rows) rows.length (turnH rows.length (rowLen rows) (hgt rows))
def mirrored (rows : List (List Int)) : List (List Int) := mkRows rows.length (rowLen rows) (mirrorH (rowLen rows) (hgt rows))
end Go.Proofs.YtcbmhjndbpafbaaGreatDoor
