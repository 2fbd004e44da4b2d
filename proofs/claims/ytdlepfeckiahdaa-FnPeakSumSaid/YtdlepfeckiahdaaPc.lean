/- Piles of cells: contract of take. -/
import Derived.Test.YtdlepfeckiahdaaPb
set_option linter.all false
namespace Go.SW
open Go Go.RowKit
theorem OwnS.shrink {w : World} {e s n m c : Nat} {b : Nat} {xs : List Value} (o : OwnS w e s (Option.some ⟨b, 0, none⟩) n c xs) (hm : m ≤ n) : OwnS w e s (Option.some ⟨b, 0, none⟩) m c (xs.take (m * s)) := by
  obtain ⟨h1, h2⟩ := o
  have hle : m * s ≤ n * s := Nat.mul_le_mul_right s hm
  refine ⟨by rw [List.length_take]; omega, ?_⟩
  rcases h2 with ⟨h, _⟩ | ⟨b', cur, h3, h4, h5, h6, h7, h8⟩
  · cases h
  · exact .inr ⟨b', cur, h3, h4, by omega, h6, h7, by rw [← h8, List.take_take, Nat.min_eq_left hle]⟩
theorem vi_range_take {n m : Nat} (L : Nat → Nat) (h : m ≤ n) : (vi (ni ((List.range n).map L))).take m = vi (ni ((List.range m).map L)) := by
  simp only [vi, ni, ← List.map_take]
  rw [List.take_range, Nat.min_eq_left h]
end Go.SW
namespace Go.Proofs.Ytdlepfeckiahdaa
open Go.RowKit Go.SW
theorem take_c (R C cb : Nat) (h : Nat → Int) (pb : Nat) (a : Option Addr) (c n : Nat) (L : Nat → Nat) (w : World) (p : PileAt w pb (fvH R C cb) a c (n + 1) L) (hc : CellsAt w cb (R * C) h) (hcp : cb ≠ pb) (hca : blk a ≠ some cb) (hL : ∀ k, k < n + 1 → L k < R * C) (hp : Heap (hiB h) (n + 1) L) (hn : n ≤ 1000) :
    Ret Try.prog 105 #[.pointer (some ⟨pb, 0, none⟩)] w fun v w' => v = .int .i64 (L 0 : Nat) ∧ ∃ L', PileAt w' pb (fvH R C cb) a c n L' ∧ Heap (hiB h) n L' ∧ (∀ y, bag n L' y + (if L 0 = y then 1 else 0) = bag (n + 1) L y) ∧ (∀ k, k < n → L' k < R * C) ∧
      GrowS (fun b => b = pb ∨ blk a = some b) w w' := by
  obtain ⟨pk, po, pne⟩ := p
  obtain ⟨ub, rfl⟩ := po.some (by omega)
  have neW' : ub ≠ pb := by simpa [blk] using pne
  have hcu : ub ≠ cb := by simpa [blk] using hca
  have c0 : w.cell? ⟨ub, 0, none⟩ = some (.int .i64 (L 0 : Nat)) := by rw [po.cell (by omega)]; exact vi_range_get L (by omega)
  have cn : w.cell? ⟨ub, n, none⟩ = some (.int .i64 (L n : Nat)) := by rw [po.cell (by omega)]; exact vi_range_get L (by omega)
  have hnn : ((n + 1 : Nat) : Int) - 1 = (n : Int) := by omega
  have hcap := po.le_cap
  refine enter1 Try.func105 rfl (by kernel_rfl) (of_decide_eq_true (by kernel_rfl)) fun f a0 => ?_
  simp (disch := omega) only [go_sem, Nat.reduceEqDiff, ↓reduceIte, Nat.reduceAdd, a0, pk.cell, c0, hnn]
  refine QR_sch (some ub) (.st 0 (.st 1 (.st 2 (.st 3 (.st 4 (.st 5 (.st 6 (.st 7 (.st 8 (.st 9 (.ef 10 (.st 11 (.fin 12 (.done)))))))))))))) (by kernel_rfl) (by kernel_rfl) fun w1 x1 => ?_
  have pk1 := pk.ext x1
  have po1 := po.ext x1
  have cn1 := x1.cell cn
  simp (disch := omega) only [go_sem, Nat.reduceEqDiff, ↓reduceIte, Nat.reduceAdd, a0, pk1.cell, cn1]
  refine nxE_of (Grow.refl _ _) ?_
  simp (disch := omega) only [go_sem, Nat.reduceEqDiff, ↓reduceIte, Nat.reduceAdd]
  refine stK_own siz_int (by rfl) (by rfl) po1 (by omega) fun w2 o2 g2 => ?_
  rw [vi_range_set (n := n + 1) (x := 0) (f := L) (g := fun k => if k = 0 then L n else L k) (by omega) (by simp) (fun j hj hne => by simp [hne])] at o2
  have pk2 := g2.grow.blk pk1 (by simp; omega)
  simp (disch := omega) only [go_sem, Nat.reduceEqDiff, ↓reduceIte, Nat.reduceAdd, a0, pk2.cell]
  refine stK_blk siz_i (by rfl) (by rfl) pk2 (by simp) fun w3 pk3 g3 => ?_
  have o3 := (o2.grow g3.grow (fun b hb e => by simp [blk] at hb; simp at e; omega)).shrink (m := n) (by omega)
  rw [Nat.mul_one, vi_range_take _ (by omega)] at o3
  have pk3 : Blk w3 pb #[fvH R C cb, .slice (some ⟨ub, 0, none⟩) n c] 80 := by simpa using pk3
  have gs3 : GrowS (fun b => b = pb ∨ blk (some ⟨ub, 0, none⟩) = some b) w w3 := ((x1.toS _).trans g2.grow.toS (fun i _ h => .inr (by simpa [blk] using h))).trans g3.grow.toS (fun i _ h => .inl (by simpa using h.symm))
  have hc3 := gs3.cells hc (fun h => by rcases h with h | h; exact hcp h; exact hca h)
  simp (disch := omega) only [go_sem, Nat.reduceEqDiff, ↓reduceIte, Nat.reduceAdd]
  refine loopX (fun m f W => f 0 = .pointer (some ⟨pb, 0, none⟩) ∧ f 3 = .int .i64 (L 0 : Nat) ∧ f 4 = .int .i64 n ∧ ∃ (i : Nat) (M : Nat → Nat), m = n + 1 - i ∧ (i = 0 ∨ i < n) ∧ f 5 = .int .i64 i ∧ PileAt W pb (fvH R C cb) (some ⟨ub, 0, none⟩) c n M ∧ DnInv (hiB h) n M i ∧ (∀ y, bag n M y = bag n (fun k => if k = 0 then L n else L k) y) ∧ (∀ k, k < n → M k < R * C) ∧ CellsAt W cb (R * C) h ∧ Grow (some ub) w3 W) (n + 1) ⟨by simp [upd_apply, a0], by simp [upd_apply], by simp [upd_apply], 0, _, rfl, .inl rfl, by simp [upd_apply], ⟨pk3, o3, pne⟩, DnInv.start hp, fun _ => rfl, fun k hk => ?_, hc3, Grow.refl _ _⟩ fun m f W ⟨a0, a3, a4, i, M, hm, hin, a5, ⟨pkW, oW, _⟩, dW, bW, lW, cW, gW⟩ => ?_
  · split
    · exact hL n (by omega)
    · exact hL k (by omega)
  subst hm
  simp (disch := omega) only [go_sem, Nat.reduceEqDiff, ↓reduceIte, Nat.reduceAdd, a5]
  refine loopX (fun m f V => f 0 = .pointer (some ⟨pb, 0, none⟩) ∧ f 3 = .int .i64 (L 0 : Nat) ∧ f 4 = .int .i64 n ∧ f 5 = .int .i64 i ∧ ∃ b d : Nat, m = 2 * i + 3 - d ∧ f 6 = .int .i64 b ∧ f 7 = .int .i64 d ∧ 2 * i + 1 ≤ d ∧ d ≤ 2 * i + 3 ∧ (b = i ∨ (2 * i + 1 ≤ b ∧ b < d ∧ b < n ∧ hiB h (M b) (M i) = true)) ∧ (∀ s, 2 * i + 1 ≤ s → s < d → s < n → hiB h (M s) (M b) = false) ∧ Ext W V) 2 ⟨(by first | assumption | (simp only [upd_apply, Nat.reduceEqDiff, ↓reduceIte] <;> first | rfl | assumption) | simp [upd_apply, *]), (by first | assumption | (simp only [upd_apply, Nat.reduceEqDiff, ↓reduceIte] <;> first | rfl | assumption) | simp [upd_apply, *]), (by first | assumption | (simp only [upd_apply, Nat.reduceEqDiff, ↓reduceIte] <;> first | rfl | assumption) | simp [upd_apply, *]), (by first | assumption | (simp only [upd_apply, Nat.reduceEqDiff, ↓reduceIte] <;> first | rfl | assumption) | simp [upd_apply, *]), i, 2 * i + 1, by omega, by simp [upd_apply], by simp [upd_apply], by omega, by omega, .inl rfl, fun s h1 h2 => by omega, Ext.refl _⟩ fun m f V ⟨a0, a3, a4, a5, b, d, hm, a6, a7, hd1, hd2, hb, hs, xV⟩ => ?_
  subst hm
  have pkV := pkW.ext xV
  have oV := oW.ext xV
  have cV := cW.ext xV
  by_cases hd : d ≤ 2 * i + 2 ∧ d < n
  · have q1 : (d : Int) ≤ 2 * (i : Int) + 2 := by omega
    have q2 : (d : Int) < (n : Int) := by omega
    have cd : V.cell? ⟨ub, d, none⟩ = some (.int .i64 (M d : Nat)) := by rw [oV.cell (by omega)]; exact vi_range_get M (by omega)
    have cb' : V.cell? ⟨ub, b, none⟩ = some (.int .i64 (M b : Nat)) := by rw [oV.cell (by omega)]; exact vi_range_get M (by omega)
    simp (disch := omega) only [go_sem, Nat.reduceEqDiff, ↓reduceIte, Nat.reduceAdd, a0, a4, a5, a6, a7, q1, q2]
    refine QR_of (by kernel_rfl) (by kernel_rfl) ?_
    simp (disch := omega) only [go_sem, Nat.reduceEqDiff, ↓reduceIte, Nat.reduceAdd, a0, a6, a7, pkV.cell, cd, cb', fvH]
    refine callK_q (by kernel_rfl) (fun w' e => higher_c R C cb h (M d) (M b) _ (cV.ext e) (lW _ (by omega)) (lW _ (by omega))) ?_
    simp (disch := omega) only [go_sem, Nat.reduceEqDiff, ↓reduceIte, Nat.reduceAdd]
    intro V1 y1
    cases hh : hiB h (M d) (M b) with
    | false =>
      simp (disch := omega) only [go_sem, Nat.reduceEqDiff, ↓reduceIte, Nat.reduceAdd, a7]
      refine ⟨2 * i + 3 - (d + 1), by omega, (by first | assumption | (simp only [upd_apply, Nat.reduceEqDiff, ↓reduceIte] <;> first | rfl | assumption) | simp [upd_apply, *]), (by first | assumption | (simp only [upd_apply, Nat.reduceEqDiff, ↓reduceIte] <;> first | rfl | assumption) | simp [upd_apply, *]), (by first | assumption | (simp only [upd_apply, Nat.reduceEqDiff, ↓reduceIte] <;> first | rfl | assumption) | simp [upd_apply, *]), (by first | assumption | (simp only [upd_apply, Nat.reduceEqDiff, ↓reduceIte] <;> first | rfl | assumption) | simp [upd_apply, *]), b, d + 1, rfl, (by first | assumption | (simp only [upd_apply, Nat.reduceEqDiff, ↓reduceIte] <;> first | rfl | assumption) | simp [upd_apply, *]), by simp [upd_apply], by omega, by omega, ?_, fun s h1 h2 h3 => ?_, xV.trans y1⟩
      · rcases hb with hb | ⟨hb1, hb2, hb3, hb4⟩
        · exact .inl hb
        · exact .inr ⟨hb1, by omega, hb3, hb4⟩
      · by_cases e : s = d
        · subst e; exact hh
        · exact hs s h1 (by omega) h3
    | true =>
      simp (disch := omega) only [go_sem, Nat.reduceEqDiff, ↓reduceIte, Nat.reduceAdd, a7]
      have o := hiB_ahead h
      have hr := o.asy _ _ hh
      refine ⟨2 * i + 3 - (d + 1), by omega, (by first | assumption | (simp only [upd_apply, Nat.reduceEqDiff, ↓reduceIte] <;> first | rfl | assumption) | simp [upd_apply, *]), (by first | assumption | (simp only [upd_apply, Nat.reduceEqDiff, ↓reduceIte] <;> first | rfl | assumption) | simp [upd_apply, *]), (by first | assumption | (simp only [upd_apply, Nat.reduceEqDiff, ↓reduceIte] <;> first | rfl | assumption) | simp [upd_apply, *]), (by first | assumption | (simp only [upd_apply, Nat.reduceEqDiff, ↓reduceIte] <;> first | rfl | assumption) | simp [upd_apply, *]), d, d + 1, rfl, by simp [upd_apply, a7], by simp [upd_apply], by omega, by omega, .inr ⟨hd1, by omega, hd.2, ?_⟩, fun s h1 h2 h3 => ?_, xV.trans y1⟩
      · rcases hb with hb | ⟨hb1, hb2, hb3, hb4⟩
        · rw [← hb]; exact hh
        · cases e : hiB h (M d) (M i) with
          | true => rfl
          | false =>
            have := o.tr _ _ _ e (o.asy _ _ hb4)
            rw [hh] at this; cases this
      · by_cases e : s = d
        · subst e
          cases e2 : hiB h (M s) (M s) with
          | false => rfl
          | true => have := o.asy _ _ e2; rw [e2] at this; exact this
        · exact o.tr _ _ _ (hs s h1 (by omega) h3) hr
  · have hall : ∀ s, 0 < s → s < n → (s - 1) / 2 = i → hiB h (M s) (M b) = false := fun s s0 sn sp => hs s (by omega) (by omega) sn
    have fin : ¬ ((d : Int) ≤ 2 * (i : Int) + 2 ∧ (d : Int) < (n : Int)) := by omega
    by_cases hbi : b = i
    · have hbe : ((b : Int) == (i : Int)) = true := by simp [hbi]
      have hres : Heap (hiB h) n M := dW.done fun s s0 sn sp => by rw [← hbi]; exact hall s s0 sn sp
      have hgs : GrowS (fun b => b = pb ∨ blk (some ⟨ub, 0, none⟩) = some b) w V := gs3.trans ((gW.trans (xV.grow _)).toS) fun i _ h => .inr (by simpa [blk] using h)
      rcases Classical.em ((d : Int) ≤ 2 * (i : Int) + 2) with q1 | q1
      · have q2 : ¬ (d : Int) < (n : Int) := by omega
        simp (disch := omega) only [go_sem, Nat.reduceEqDiff, ↓reduceIte, Nat.reduceAdd, a0, a3, a4, a5, a6, a7, q1, q2, hbe, Try.results105]
        exact ⟨trivial, M, ⟨pkV, oV, pne⟩, hres, fun y => by rw [bW y]; exact bag_take n L y, lW, hgs⟩
      · simp (disch := omega) only [go_sem, Nat.reduceEqDiff, ↓reduceIte, Nat.reduceAdd, a0, a3, a4, a5, a6, a7, q1, hbe, Try.results105]
        exact ⟨trivial, M, ⟨pkV, oV, pne⟩, hres, fun y => by rw [bW y]; exact bag_take n L y, lW, hgs⟩
    · have hbe : ((b : Int) == (i : Int)) = false := by simp; omega
      obtain ⟨hb1, hb2, hbn, hb3⟩ : 2 * i + 1 ≤ b ∧ b < d ∧ b < n ∧ hiB h (M b) (M i) = true := by
        rcases hb with hb | hb
        · exact absurd hb hbi
        · exact hb
      have hcs : ((d : Int) ≤ 2 * (i : Int) + 2 ∧ ¬ (d : Int) < (n : Int)) ∨ ¬ (d : Int) ≤ 2 * (i : Int) + 2 := by omega
      have ci : V.cell? ⟨ub, i, none⟩ = some (.int .i64 (M i : Nat)) := by rw [oV.cell (by omega)]; exact vi_range_get M (by omega)
      have cp : V.cell? ⟨ub, b, none⟩ = some (.int .i64 (M b : Nat)) := by rw [oV.cell (by omega)]; exact vi_range_get M (by omega)
      rcases hcs with ⟨q1, q2⟩ | q1
      · simp (disch := omega) only [go_sem, Nat.reduceEqDiff, ↓reduceIte, Nat.reduceAdd, a4, a5, a6, a7, q1, q2, hbe]
        refine QR_sch (some ub) (.st 0 (.st 1 (.st 2 (.st 3 (.st 4 (.st 5 (.st 6 (.st 7 (.st 8 (.st 9 (.st 10 (.st 11 (.st 12 (.st 13 (.st 14 (.st 15 (.st 17 (.st 18 (.st 19 (.st 20 (.st 21 (.st 22 (.alt (.ef 16 (.ef 23 (.st 24 (.ef 25 (.st 26 (.fin 27 (.done))))))) (.ef 23 (.ef 16 (.st 24 (.ef 25 (.st 26 (.fin 27 (.done)))))))))))))))))))))))))))))) (by kernel_rfl) (by kernel_rfl) fun w5 x5 => ?_
        have pk5 := pkV.ext x5
        have o5 := oV.ext x5
        have ci5 := x5.cell ci
        have cp5 := x5.cell cp
        simp (disch := omega) only [go_sem, Nat.reduceEqDiff, ↓reduceIte, Nat.reduceAdd, a0, a5, a6, pk5.cell]
        refine RLT_alt ?_ ?_
        · simp (disch := omega) only [go_sem, Nat.reduceEqDiff, ↓reduceIte, Nat.reduceAdd, ci5, cp5]
          refine nxE_of (Grow.refl _ _) ?_
          simp (disch := omega) only [go_sem, Nat.reduceEqDiff, ↓reduceIte, Nat.reduceAdd, ci5, cp5]
          refine nxE_of (Grow.refl _ _) ?_
          simp (disch := omega) only [go_sem, Nat.reduceEqDiff, ↓reduceIte, Nat.reduceAdd]
          refine stK_own siz_int (by rfl) (by rfl) o5 (by omega) fun w6 o6 g6 => nxE_of g6.grow ?_
          rw [vi_range_set (n := n) (x := i) (f := M) (g := fun k => if k = i then M b else M k) (by omega) (by simp) (fun j hj hne => by simp [hne])] at o6
          simp (disch := omega) only [go_sem, Nat.reduceEqDiff, ↓reduceIte, Nat.reduceAdd]
          refine stK_own siz_int (by rfl) (by rfl) o6 (by omega) fun w7 o7 g7 => ?_
          rw [vi_range_set (n := n) (x := b) (f := fun k => if k = i then M b else M k) (g := swp M i b) (by omega) (by rw [(swp_at M i b).2]) (fun j hj hne => by simp [swp, hne])] at o7
          have gg : Grow (some ub) V w7 := ((x5.grow _).trans g6.grow).trans g7.grow
          simp (disch := omega) only [go_sem, Nat.reduceEqDiff, ↓reduceIte, Nat.reduceAdd]
          refine ⟨n + 1 - b, by omega, by simp [upd_apply, a0], by simp [upd_apply, a3], by simp [upd_apply, a4], b, swp M i b, rfl, by omega, (by first | trivial | rfl | simp [upd_apply, a6] | (trace_state; skip)), ⟨gg.blk pkV (by simpa using neW'), o7, pne⟩, dW.step (hiB_ahead h) (by omega) (by omega) (by omega) hb3 hall, fun y => by rw [bag_swp M (by omega) (by omega)]; exact bW y, fun k hk => ?_, cV.grow gg (by simpa using hcu), gW.trans ((xV.grow _).trans gg)⟩
          simp only [swp]
          split
          · exact lW _ (by omega)
          · split
            · exact lW _ (by omega)
            · exact lW _ hk
        · simp (disch := omega) only [go_sem, Nat.reduceEqDiff, ↓reduceIte, Nat.reduceAdd, ci5, cp5]
          refine nxE_of (Grow.refl _ _) ?_
          simp (disch := omega) only [go_sem, Nat.reduceEqDiff, ↓reduceIte, Nat.reduceAdd, ci5, cp5]
          refine nxE_of (Grow.refl _ _) ?_
          simp (disch := omega) only [go_sem, Nat.reduceEqDiff, ↓reduceIte, Nat.reduceAdd]
          refine stK_own siz_int (by rfl) (by rfl) o5 (by omega) fun w6 o6 g6 => nxE_of g6.grow ?_
          rw [vi_range_set (n := n) (x := i) (f := M) (g := fun k => if k = i then M b else M k) (by omega) (by simp) (fun j hj hne => by simp [hne])] at o6
          simp (disch := omega) only [go_sem, Nat.reduceEqDiff, ↓reduceIte, Nat.reduceAdd]
          refine stK_own siz_int (by rfl) (by rfl) o6 (by omega) fun w7 o7 g7 => ?_
          rw [vi_range_set (n := n) (x := b) (f := fun k => if k = i then M b else M k) (g := swp M i b) (by omega) (by rw [(swp_at M i b).2]) (fun j hj hne => by simp [swp, hne])] at o7
          have gg : Grow (some ub) V w7 := ((x5.grow _).trans g6.grow).trans g7.grow
          simp (disch := omega) only [go_sem, Nat.reduceEqDiff, ↓reduceIte, Nat.reduceAdd]
          refine ⟨n + 1 - b, by omega, by simp [upd_apply, a0], by simp [upd_apply, a3], by simp [upd_apply, a4], b, swp M i b, rfl, by omega, (by first | trivial | rfl | simp [upd_apply, a6] | (trace_state; skip)), ⟨gg.blk pkV (by simpa using neW'), o7, pne⟩, dW.step (hiB_ahead h) (by omega) (by omega) (by omega) hb3 hall, fun y => by rw [bag_swp M (by omega) (by omega)]; exact bW y, fun k hk => ?_, cV.grow gg (by simpa using hcu), gW.trans ((xV.grow _).trans gg)⟩
          simp only [swp]
          split
          · exact lW _ (by omega)
          · split
            · exact lW _ (by omega)
            · exact lW _ hk
      · simp (disch := omega) only [go_sem, Nat.reduceEqDiff, ↓reduceIte, Nat.reduceAdd, a4, a5, a6, a7, q1, hbe]
        refine QR_sch (some ub) (.st 0 (.st 1 (.st 2 (.st 3 (.st 4 (.st 5 (.st 6 (.st 7 (.st 8 (.st 9 (.st 10 (.st 11 (.st 12 (.st 13 (.st 14 (.st 15 (.st 17 (.st 18 (.st 19 (.st 20 (.st 21 (.st 22 (.alt (.ef 16 (.ef 23 (.st 24 (.ef 25 (.st 26 (.fin 27 (.done))))))) (.ef 23 (.ef 16 (.st 24 (.ef 25 (.st 26 (.fin 27 (.done)))))))))))))))))))))))))))))) (by kernel_rfl) (by kernel_rfl) fun w5 x5 => ?_
        have pk5 := pkV.ext x5
        have o5 := oV.ext x5
        have ci5 := x5.cell ci
        have cp5 := x5.cell cp
        simp (disch := omega) only [go_sem, Nat.reduceEqDiff, ↓reduceIte, Nat.reduceAdd, a0, a5, a6, pk5.cell]
        refine RLT_alt ?_ ?_
        · simp (disch := omega) only [go_sem, Nat.reduceEqDiff, ↓reduceIte, Nat.reduceAdd, ci5, cp5]
          refine nxE_of (Grow.refl _ _) ?_
          simp (disch := omega) only [go_sem, Nat.reduceEqDiff, ↓reduceIte, Nat.reduceAdd, ci5, cp5]
          refine nxE_of (Grow.refl _ _) ?_
          simp (disch := omega) only [go_sem, Nat.reduceEqDiff, ↓reduceIte, Nat.reduceAdd]
          refine stK_own siz_int (by rfl) (by rfl) o5 (by omega) fun w6 o6 g6 => nxE_of g6.grow ?_
          rw [vi_range_set (n := n) (x := i) (f := M) (g := fun k => if k = i then M b else M k) (by omega) (by simp) (fun j hj hne => by simp [hne])] at o6
          simp (disch := omega) only [go_sem, Nat.reduceEqDiff, ↓reduceIte, Nat.reduceAdd]
          refine stK_own siz_int (by rfl) (by rfl) o6 (by omega) fun w7 o7 g7 => ?_
          rw [vi_range_set (n := n) (x := b) (f := fun k => if k = i then M b else M k) (g := swp M i b) (by omega) (by rw [(swp_at M i b).2]) (fun j hj hne => by simp [swp, hne])] at o7
          have gg : Grow (some ub) V w7 := ((x5.grow _).trans g6.grow).trans g7.grow
          simp (disch := omega) only [go_sem, Nat.reduceEqDiff, ↓reduceIte, Nat.reduceAdd]
          refine ⟨n + 1 - b, by omega, by simp [upd_apply, a0], by simp [upd_apply, a3], by simp [upd_apply, a4], b, swp M i b, rfl, by omega, (by first | trivial | rfl | simp [upd_apply, a6] | (trace_state; skip)), ⟨gg.blk pkV (by simpa using neW'), o7, pne⟩, dW.step (hiB_ahead h) (by omega) (by omega) (by omega) hb3 hall, fun y => by rw [bag_swp M (by omega) (by omega)]; exact bW y, fun k hk => ?_, cV.grow gg (by simpa using hcu), gW.trans ((xV.grow _).trans gg)⟩
          simp only [swp]
          split
          · exact lW _ (by omega)
          · split
            · exact lW _ (by omega)
            · exact lW _ hk
        · simp (disch := omega) only [go_sem, Nat.reduceEqDiff, ↓reduceIte, Nat.reduceAdd, ci5, cp5]
          refine nxE_of (Grow.refl _ _) ?_
          simp (disch := omega) only [go_sem, Nat.reduceEqDiff, ↓reduceIte, Nat.reduceAdd, ci5, cp5]
          refine nxE_of (Grow.refl _ _) ?_
          simp (disch := omega) only [go_sem, Nat.reduceEqDiff, ↓reduceIte, Nat.reduceAdd]
          refine stK_own siz_int (by rfl) (by rfl) o5 (by omega) fun w6 o6 g6 => nxE_of g6.grow ?_
          rw [vi_range_set (n := n) (x := i) (f := M) (g := fun k => if k = i then M b else M k) (by omega) (by simp) (fun j hj hne => by simp [hne])] at o6
          simp (disch := omega) only [go_sem, Nat.reduceEqDiff, ↓reduceIte, Nat.reduceAdd]
          refine stK_own siz_int (by rfl) (by rfl) o6 (by omega) fun w7 o7 g7 => ?_
          rw [vi_range_set (n := n) (x := b) (f := fun k => if k = i then M b else M k) (g := swp M i b) (by omega) (by rw [(swp_at M i b).2]) (fun j hj hne => by simp [swp, hne])] at o7
          have gg : Grow (some ub) V w7 := ((x5.grow _).trans g6.grow).trans g7.grow
          simp (disch := omega) only [go_sem, Nat.reduceEqDiff, ↓reduceIte, Nat.reduceAdd]
          refine ⟨n + 1 - b, by omega, by simp [upd_apply, a0], by simp [upd_apply, a3], by simp [upd_apply, a4], b, swp M i b, rfl, by omega, (by first | trivial | rfl | simp [upd_apply, a6] | (trace_state; skip)), ⟨gg.blk pkV (by simpa using neW'), o7, pne⟩, dW.step (hiB_ahead h) (by omega) (by omega) (by omega) hb3 hall, fun y => by rw [bag_swp M (by omega) (by omega)]; exact bW y, fun k hk => ?_, cV.grow gg (by simpa using hcu), gW.trans ((xV.grow _).trans gg)⟩
          simp only [swp]
          split
          · exact lW _ (by omega)
          · split
            · exact lW _ (by omega)
            · exact lW _ hk
end Go.Proofs.Ytdlepfeckiahdaa
