/- The forest: contracts of newForest, root and join. -/
import Derived.Test.YtdlepfeckiahdaaM4
import Derived.Test.YtdlepfeckiahdaaWn
import Derived.Test.YtdlepfeckiahdaaJ4
set_option linter.all false
namespace Go.Proofs.Ytdlepfeckiahdaa
open Go.RowKit Go.SW

theorem aggN_t : aggN Try.prog 85 = some 1 := by kernel_rfl
theorem scal_t : scal Try.prog 85 = false := by kernel_rfl
theorem foff_t0 : foff Try.prog 85 0 = some 0 := by kernel_rfl
theorem bld_t (x : Option Addr) (n c : Nat) : buildV Try.prog 85 [(0, .slice x n c)] = some (.agg #[.slice x n c]) := by kernel_rfl
attribute [go_sem] aggN_t scal_t foff_t0 bld_t

/-- A forest in memory: its block, and its list. -/
structure Forest (w : World) (tb ub n : Nat) (up : Nat → Nat) : Prop where
  top : Blk w tb #[.slice (some ⟨ub, 0, none⟩) n n] 85
  own : OwnS w 3 1 (some ⟨ub, 0, none⟩) n n (vi (ni ((List.range n).map up)))
  ok : UpOk n up
  ne : tb ≠ ub
theorem Forest.ext {w w' : World} {tb ub n : Nat} {up : Nat → Nat} (t : Forest w tb ub n up) (x : Ext w w') : Forest w' tb ub n up := ⟨t.top.ext x, t.own.ext x, t.ok, t.ne⟩
theorem Forest.grow {w w' : World} {tb ub n : Nat} {up : Nat → Nat} {ob : Option Nat} (t : Forest w tb ub n up) (g : Grow ob w w') (h1 : ob ≠ some tb) (h2 : ob ≠ some ub) : Forest w' tb ub n up :=
  ⟨g.blk t.top h1, t.own.grow g fun b hb e => h2 (by rw [e, ← hb]; rfl), t.ok, t.ne⟩
theorem Forest.cell {w : World} {tb ub n : Nat} {up : Nat → Nat} (t : Forest w tb ub n up) {i : Nat} (hi : i < n) : w.cell? ⟨ub, i, none⟩ = some (.int .i64 (up i : Nat)) := by
  rw [t.own.cell (by omega)]; exact vi_range_get up hi
/-- A forest whose roots are known. -/
def Trees (w : World) (tb ub n : Nat) (ρ : Nat → Nat) : Prop := ∃ up, Forest w tb ub n up ∧ ∀ i, i < n → rt up i = ρ i
theorem Trees.ext {w w' : World} {tb ub n : Nat} {ρ : Nat → Nat} (t : Trees w tb ub n ρ) (x : Ext w w') : Trees w' tb ub n ρ := let ⟨up, h, e⟩ := t; ⟨up, h.ext x, e⟩
theorem Trees.grow {w w' : World} {tb ub n : Nat} {ρ : Nat → Nat} {ob : Option Nat} (t : Trees w tb ub n ρ) (g : Grow ob w w') (h1 : ob ≠ some tb) (h2 : ob ≠ some ub) : Trees w' tb ub n ρ := let ⟨up, h, e⟩ := t; ⟨up, h.grow g h1 h2, e⟩
theorem Trees.lt {w : World} {tb ub n : Nat} {ρ : Nat → Nat} (t : Trees w tb ub n ρ) : tb < w.heap.size ∧ ub < w.heap.size := let ⟨_, h, _⟩ := t; ⟨h.top.lt, h.own.blk_lt rfl⟩
theorem Trees.root {w : World} {tb ub n : Nat} {ρ : Nat → Nat} (t : Trees w tb ub n ρ) {i : Nat} (hi : i < n) : ρ i ≤ i := by
  obtain ⟨up, h, e⟩ := t
  rw [← e i hi]; exact (rt_root h.ok i hi).1

theorem newForest_c (n : Nat) (w : World) (hn : n ≤ 1048576) :
    Ret Try.prog 98 #[.int .i64 n] w fun v w' => ∃ tb ub, v = .pointer (some ⟨tb, 0, none⟩) ∧ w.heap.size ≤ tb ∧ w.heap.size ≤ ub ∧ Trees w' tb ub n (fun i => i) ∧ Ext w w' := by
  refine enter1 Try.func98 rfl (by kernel_rfl) (of_decide_eq_true (by kernel_rfl)) fun f a0 => ?_
  simp (disch := omega) only [go_sem, Nat.reduceEqDiff, ↓reduceIte, Nat.reduceAdd, a0]
  refine mksK_of elt_i n n _ _ _ _ rfl rfl (Nat.le_refl _) (by omega) (by simp [maxLen]; omega) fun w1 ub e1 x1 o1 _ => ?_
  have s1 := x1.size
  simp (disch := omega) only [go_sem, Nat.reduceEqDiff, ↓reduceIte, Nat.reduceAdd]
  refine boxK_of fun w2 tb e2 x2 k2 _ => ?_
  have s2 := x2.size
  have k2 : Blk w2 tb #[.slice (some ⟨ub, 0, none⟩) n n] 85 := by simpa [Value.cells] using k2
  simp (disch := omega) only [go_sem, Nat.reduceEqDiff, ↓reduceIte, Nat.reduceAdd, k2.cell]
  refine loopN n (fun k f W => f 3 = .pointer (some ⟨tb, 0, none⟩) ∧ f 13 = .int .i64 n ∧ f 14 = .int .i64 k ∧ Ext w W ∧ Blk W tb #[.slice (some ⟨ub, 0, none⟩) n n] 85 ∧ OwnS W 3 1 (some ⟨ub, 0, none⟩) n n (vi (ni ((List.range n).map fun i => if i < k then i else 0)))) ⟨(by first | assumption | (simp only [upd_apply, Nat.reduceEqDiff, ↓reduceIte] <;> first | rfl | assumption) | simp [upd_apply, *]), (by first | assumption | (simp only [upd_apply, Nat.reduceEqDiff, ↓reduceIte] <;> first | rfl | assumption) | simp [upd_apply, *]), (by first | assumption | (simp only [upd_apply, Nat.reduceEqDiff, ↓reduceIte] <;> first | rfl | assumption) | simp [upd_apply, *]), x1.trans x2, k2, ?_⟩ fun k f W hk ⟨a3, a13, a14, xw, kw, ow⟩ => ?_
  · have n0 : (List.replicate n (Value.int .i64 0)) = vi (ni ((List.range n).map fun i => if i < 0 then i else 0)) := by
      apply List.ext_getElem?; intro j
      by_cases hj : j < n <;> simp [vi, ni, hj]
    have o2 := o1.ext x2
    simp only [Value.cells, made_int, n0] at o2
    exact o2
  · by_cases hlt : (k : Int) < n
    · simp (disch := omega) only [go_sem, Nat.reduceEqDiff, ↓reduceIte, Nat.reduceAdd, a3, a13, a14, hlt, kw.cell]
      refine stK_own siz_int (by rfl) (by rfl) ow (by omega) fun w3 o3 g3 => ?_
      have hset := vi_range_set (n := n) (x := k) (f := fun i => if i < k then i else 0) (g := fun i => if i < k + 1 then i else 0) (y := (k : Int)) (by omega) (by simp) (fun j hj hne => by by_cases h1 : j < k <;> by_cases h2 : j < k + 1 <;> simp [h1, h2] <;> omega)
      rw [hset] at o3
      simp (disch := omega) only [go_sem, Nat.reduceEqDiff, ↓reduceIte, Nat.reduceAdd, a14]
      exact ⟨by omega, (by first | assumption | (simp only [upd_apply, Nat.reduceEqDiff, ↓reduceIte] <;> first | rfl | assumption) | simp [upd_apply, *]), (by first | assumption | (simp only [upd_apply, Nat.reduceEqDiff, ↓reduceIte] <;> first | rfl | assumption) | simp [upd_apply, *]), (by first | assumption | (simp only [upd_apply, Nat.reduceEqDiff, ↓reduceIte] <;> first | rfl | assumption) | simp [upd_apply, *]), g3.ext xw (by omega), g3.grow.blk kw (by simp; omega), o3⟩
    · obtain rfl : k = n := by omega
      simp (disch := omega) only [go_sem, Nat.reduceEqDiff, ↓reduceIte, Nat.reduceAdd, a3, a13, a14, hlt, Try.results98]
      have e : ((List.range k).map fun i => if i < k then i else 0) = (List.range k).map fun i => i := List.map_congr_left fun i hi => by rw [if_pos (List.mem_range.1 hi)]
      rw [e] at ow
      exact ⟨tb, ub, rfl, by omega, by omega, ⟨fun i => i, ⟨kw, ow, fun i _ => Nat.le_refl _, by omega⟩, fun i hi => rt_fix (n := k) (fun i _ => Nat.le_refl _) hi rfl⟩, xw⟩

theorem root_c (tb ub n i : Nat) (ρ : Nat → Nat) (w : World) (t : Trees w tb ub n ρ) (hi : i < n) (hn : n ≤ 1048576) :
    Ret Try.prog 100 #[.pointer (some ⟨tb, 0, none⟩), .int .i64 i] w fun v w' => v = .int .i64 (ρ i : Nat) ∧ Trees w' tb ub n ρ ∧ Grow (some ub) w w' := by
  refine enter2 Try.func100 rfl (by kernel_rfl) (of_decide_eq_true (by kernel_rfl)) fun f a0 a1 => ?_
  simp (disch := omega) only [go_sem, Nat.reduceEqDiff, ↓reduceIte, Nat.reduceAdd]
  refine loopX (fun m f W => f 0 = .pointer (some ⟨tb, 0, none⟩) ∧ Trees W tb ub n ρ ∧ Grow (some ub) w W ∧ ∃ j, m = j ∧ j < n ∧ f 1 = .int .i64 j ∧ ρ j = ρ i) i ⟨(by first | assumption | (simp only [upd_apply, Nat.reduceEqDiff, ↓reduceIte] <;> first | rfl | assumption) | simp [upd_apply, *]), t, Grow.refl _ _, i, rfl, hi, (by first | assumption | (simp only [upd_apply, Nat.reduceEqDiff, ↓reduceIte] <;> first | rfl | assumption) | simp [upd_apply, *]), rfl⟩ fun m f W ⟨a0, ⟨up, tW, hρ⟩, gW, j, e, hj, a1, hr⟩ => ?_
  subst e
  have cj := tW.cell hj
  have le1 := tW.ok m hj
  have le2 := tW.ok (up m) (by omega)
  by_cases hroot : up m = m
  · have hne : (((up m : Nat) : Int) != (m : Int)) = false := by simp [hroot]
    simp (disch := omega) only [go_sem, Nat.reduceEqDiff, ↓reduceIte, Nat.reduceAdd, a0, a1, tW.top.cell, cj, hne]
    have hz : rt up m = m := rt_fix tW.ok hj hroot
    have e2 : ρ i = m := by rw [← hr, ← hρ m hj]; exact hz
    simp (disch := omega) only [go_sem, Nat.reduceEqDiff, ↓reduceIte, Nat.reduceAdd, a1, Try.results100]
    exact ⟨by rw [e2], ⟨up, tW, hρ⟩, gW⟩
  · have hne : (((up m : Nat) : Int) != (m : Int)) = true := by simp; omega
    have cu := tW.cell (i := up m) (by omega)
    simp (disch := omega) only [go_sem, Nat.reduceEqDiff, ↓reduceIte, Nat.reduceAdd, a0, a1, tW.top.cell, cj, hne]
    refine QR_tail 18 (by kernel_rfl) (by kernel_rfl) ?_
    simp (disch := omega) only [go_sem, Nat.reduceEqDiff, ↓reduceIte, Nat.reduceAdd, a0, a1, tW.top.cell, cj, cu]
    intro W1 y1
    replace gW := gW.trans (y1.grow (some ub))
    replace tW := tW.ext y1
    refine stK_own siz_int (by rfl) (by rfl) tW.own (by omega) fun w2 o2 g2 => ?_
    have hset := vi_range_set (n := n) (x := m) (f := up) (g := fun k => if k = m then up (up m) else up k) (y := ((up (up m) : Nat) : Int)) hj (by simp) (fun k hk hne => by simp [hne])
    rw [hset] at o2
    obtain ⟨ok2, hrt⟩ := rt_halve tW.ok hj
    have t2 : Forest w2 tb ub n (fun k => if k = m then up (up m) else up k) := ⟨g2.grow.blk tW.top (by simp; exact fun e => tW.ne e.symm), o2, ok2, tW.ne⟩
    have c2 := t2.cell hj
    simp only [if_pos] at c2
    simp (disch := omega) only [go_sem, Nat.reduceEqDiff, ↓reduceIte, Nat.reduceAdd, a0, a1, t2.top.cell, c2]
    refine ⟨up (up m), by omega, (by first | assumption | (simp only [upd_apply, Nat.reduceEqDiff, ↓reduceIte] <;> first | rfl | assumption) | simp [upd_apply, *]), ⟨_, t2, fun k hk => by rw [hrt k hk]; exact hρ k hk⟩, gW.trans g2.grow, _, rfl, by omega, (by first | assumption | (simp only [upd_apply, Nat.reduceEqDiff, ↓reduceIte] <;> first | rfl | assumption) | simp [upd_apply, *]), ?_⟩
    rw [← hρ _ (by omega : up (up m) < n), ← hr, ← hρ m hj, ← rt_step tW.ok (by omega : up m < n), ← rt_step tW.ok hj]

theorem join_c (tb ub n a b : Nat) (ρ : Nat → Nat) (w : World) (t : Trees w tb ub n ρ) (ha : a < n) (hb : b < n) (hn : n ≤ 1048576) :
    Ret Try.prog 99 #[.pointer (some ⟨tb, 0, none⟩), .int .i64 a, .int .i64 b] w fun _ w' => Trees w' tb ub n (joinF ρ a b) ∧ Grow (some ub) w w' := by
  refine enter3 Try.func99 rfl (by kernel_rfl) (of_decide_eq_true (by kernel_rfl)) fun f a0 a1 a2 => ?_
  have la := t.root ha
  have lb := t.root hb
  simp (disch := omega) only [go_sem, Nat.reduceEqDiff, ↓reduceIte, Nat.reduceAdd, a0, a1]
  refine callK_of (by kernel_rfl) (root_c _ _ _ _ _ _ t ha hn) ?_
  rintro _ w1 ⟨rfl, t1, g1⟩
  simp (disch := omega) only [go_sem, Nat.reduceEqDiff, ↓reduceIte, Nat.reduceAdd, a0, a2]
  refine callK_of (by kernel_rfl) (root_c _ _ _ _ _ _ t1 hb hn) ?_
  rintro _ w2 ⟨rfl, ⟨up, t2, hρ⟩, g2⟩
  have ra : up (ρ a) = ρ a := by rw [← hρ a ha]; exact (rt_root t2.ok a ha).2
  have rb : up (ρ b) = ρ b := by rw [← hρ b hb]; exact (rt_root t2.ok b hb).2
  by_cases hlt : ((ρ a : Nat) : Int) < (ρ b : Nat)
  · have hlt' : ρ a < ρ b := by omega
    simp (disch := omega) only [go_sem, Nat.reduceEqDiff, ↓reduceIte, Nat.reduceAdd, a0, hlt, t2.top.cell]
    refine stK_own siz_int (by rfl) (by rfl) t2.own (by omega) fun w3 o3 g3 => ?_
    have hset := vi_range_set (n := n) (x := ρ b) (f := up) (g := fun k => if k = ρ b then ρ a else up k) (y := ((ρ a : Nat) : Int)) (by omega) (by simp) (fun k hk hne => by simp [hne])
    rw [hset] at o3
    obtain ⟨ok3, hrt⟩ := rt_join t2.ok (a := ρ a) (b := ρ b) (by omega) ra rb hlt'
    simp (disch := omega) only [go_sem, Nat.reduceEqDiff, ↓reduceIte, Nat.reduceAdd, Try.results99]
    refine ⟨⟨_, ⟨g3.grow.blk t2.top (by simp; exact fun e => t2.ne e.symm), o3, ok3, t2.ne⟩, fun k hk => ?_⟩, (g1.trans g2).trans g3.grow⟩
    rw [hrt k hk]
    simp only [joinF, if_pos hlt', hρ k hk]
  · have hlt' : ¬ ρ a < ρ b := by omega
    simp (disch := omega) only [go_sem, Nat.reduceEqDiff, ↓reduceIte, Nat.reduceAdd, a0, hlt, t2.top.cell]
    refine stK_own siz_int (by rfl) (by rfl) t2.own (by omega) fun w3 o3 g3 => ?_
    have hset := vi_range_set (n := n) (x := ρ a) (f := up) (g := fun k => if k = ρ a then ρ b else up k) (y := ((ρ b : Nat) : Int)) (by omega) (by simp) (fun k hk hne => by simp [hne])
    rw [hset] at o3
    simp (disch := omega) only [go_sem, Nat.reduceEqDiff, ↓reduceIte, Nat.reduceAdd, Try.results99]
    by_cases he : ρ a = ρ b
    · have e : (fun k => if k = ρ a then ρ b else up k) = up := by
        funext k; by_cases hk : k = ρ a
        · rw [if_pos hk, hk, ra, he]
        · rw [if_neg hk]
      rw [e] at o3
      refine ⟨⟨up, ⟨g3.grow.blk t2.top (by simp; exact fun e => t2.ne e.symm), o3, t2.ok, t2.ne⟩, fun k hk => ?_⟩, (g1.trans g2).trans g3.grow⟩
      simp only [joinF, if_neg hlt', hρ k hk]
      by_cases hk' : ρ k = ρ a
      · rw [if_pos hk', hk', he]
      · rw [if_neg hk']
    · obtain ⟨ok3, hrt⟩ := rt_join t2.ok (a := ρ b) (b := ρ a) (by omega) rb ra (by omega)
      refine ⟨⟨_, ⟨g3.grow.blk t2.top (by simp; exact fun e => t2.ne e.symm), o3, ok3, t2.ne⟩, fun k hk => ?_⟩, (g1.trans g2).trans g3.grow⟩
      rw [hrt k hk]
      simp only [joinF, if_neg hlt', hρ k hk]
end Go.Proofs.Ytdlepfeckiahdaa
