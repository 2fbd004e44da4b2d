/- Contract: the reference's passes. -/
import Derived.Test.YtdlepfeckiahdaaQc
import Derived.Test.YtdlepfeckiahdaaPe
set_option linter.all false
namespace Go.Proofs.Ytdlepfeckiahdaa
open Go.RowKit Go.SW

theorem l4Passes_c (gb go gc : Nat) (rb ro rc : Nat → Nat) (R C : Nat) (h : Nat → Int) (a : Nat) (w : World) (hg : GridAt w gb go rb ro rc R C h) (g : Gd R C h) (ha : a < R * C) :
    Ret Try.prog 116 #[.slice (some ⟨gb, go, none⟩) R gc, .int .i64 a] w fun v w' => ∃ b, v = .slice (some ⟨b, 0, none⟩) (R * C) (R * C) ∧ w.heap.size ≤ b ∧
      OwnS w' 3 1 (some ⟨b, 0, none⟩) (R * C) (R * C) (vi ((List.range (R * C)).map (passN R C h a))) ∧ Ext w w' := by
  have hn49 := g.le
  have hpos := g.pos
  have hR7 := g.r7
  have hC7 := g.c7
  refine enter2 Try.func116 rfl (by kernel_rfl) (of_decide_eq_true (by kernel_rfl)) fun f a0 a1 => ?_
  simp (disch := omega) only [go_sem, Nat.reduceEqDiff, ↓reduceIte, Nat.reduceAdd, a0]
  refine callK_pure (by kernel_rfl) (l2Cells_c _ _ _ _ _ _ _ _ _ _ hg g.r1 g.r7 g.c7) fun w0 x0 => ?_
  simp (disch := omega) only [go_sem, Nat.reduceEqDiff, ↓reduceIte, Nat.reduceAdd]
  refine mksK_of elt_i (R * C) (R * C) _ _ _ _ rfl rfl (Nat.le_refl _) (by omega) (by simp [maxLen]; omega) fun w1 nb e1 x1 o1 _ => ?_
  have s0 := x0.size
  have s1 := x1.size
  simp only [Value.cells, made_int] at o1
  rw [vi_rangeI_zero (R * C) (fun x => if x < 0 then -1 else 0) (fun j _ => by simp)] at o1
  have hg1 := (hg.ext x0).ext x1
  simp (disch := omega) only [go_sem, Nat.reduceEqDiff, ↓reduceIte, Nat.reduceAdd]
  refine loopN (R * C) (fun k f W => f 0 = .slice (some ⟨gb, go, none⟩) R gc ∧ f 1 = .int .i64 a ∧ f 5 = .slice (some ⟨nb, 0, none⟩) (R * C) (R * C) ∧ f 6 = .int .i64 k ∧ OwnS W 3 1 (some ⟨nb, 0, none⟩) (R * C) (R * C) (vi ((List.range (R * C)).map fun x => if x < k then -1 else 0)) ∧ Grow (some nb) w1 W ∧ Ext w W) ⟨(by first | assumption | (simp only [upd_apply, Nat.reduceEqDiff, ↓reduceIte] <;> first | rfl | assumption) | simp [upd_apply, *]), (by first | assumption | (simp only [upd_apply, Nat.reduceEqDiff, ↓reduceIte] <;> first | rfl | assumption) | simp [upd_apply, *]), (by first | assumption | (simp only [upd_apply, Nat.reduceEqDiff, ↓reduceIte] <;> first | rfl | assumption) | simp [upd_apply, *]), (by first | assumption | (simp only [upd_apply, Nat.reduceEqDiff, ↓reduceIte] <;> first | rfl | assumption) | simp [upd_apply, *]), o1, Grow.refl _ _, x0.trans x1⟩ fun k f W hk ⟨a0, a1, a5, a6, oW, gW, xW⟩ => ?_
  by_cases hlt : (k : Int) < (R * C : Nat)
  · have hkn : k < R * C := by omega
    simp (disch := omega) only [go_sem, Nat.reduceEqDiff, ↓reduceIte, Nat.reduceAdd, a5, a6, hlt]
    refine stK_own siz_int (by rfl) (by rfl) oW (by omega) fun w2 o2 g2 => ?_
    rw [vi_rangeI_set (f := fun x => if x < k then -1 else 0) (g := fun x => if x < k + 1 then -1 else 0) hkn (by simp) (fun j hj hne => by
      by_cases e : j < k
      · simp [e]; omega
      · simp [e]; omega)] at o2
    simp (disch := omega) only [go_sem, Nat.reduceEqDiff, ↓reduceIte, Nat.reduceAdd, a6]
    exact ⟨hkn, (by first | assumption | (simp only [upd_apply, Nat.reduceEqDiff, ↓reduceIte] <;> first | rfl | assumption) | simp [upd_apply, *]), (by first | assumption | (simp only [upd_apply, Nat.reduceEqDiff, ↓reduceIte] <;> first | rfl | assumption) | simp [upd_apply, *]), (by first | assumption | (simp only [upd_apply, Nat.reduceEqDiff, ↓reduceIte] <;> first | rfl | assumption) | simp [upd_apply, *]), (by first | assumption | (simp only [upd_apply, Nat.reduceEqDiff, ↓reduceIte] <;> first | rfl | assumption) | simp [upd_apply, *]), o2, gW.trans g2.grow, g2.ext xW (by omega)⟩
  · have ek : k = R * C := by omega
    have hgW := hg.ext xW
    simp (disch := omega) only [go_sem, Nat.reduceEqDiff, ↓reduceIte, Nat.reduceAdd, a0, a1, a5, a6, hlt]
    refine callK_pure (by kernel_rfl) (l2Height_c gb go gc rb ro rc R C h _ hgW hR7 hC7 (a : Int) (by omega) (by omega)) fun w3 x3 => ?_
    simp (disch := omega) only [go_sem, Nat.reduceEqDiff, ↓reduceIte, Nat.reduceAdd, Int.toNat_natCast]
    refine stK_own siz_int (by rfl) (by rfl) (oW.ext x3) (by omega) fun w4 o4 g4 => ?_
    rw [vi_rangeI_set (f := fun x => if x < k then -1 else 0) (g := pasTo R C h a 0) ha (by simp [pasTo]) (fun j hj hne => by simp [pasTo, hne, ek, hj])] at o4
    have x4 : Ext w w4 := g4.ext (xW.trans x3) (by omega)
    simp (disch := omega) only [go_sem, Nat.reduceEqDiff, ↓reduceIte, Nat.reduceAdd]
    refine loopN (R * C) (fun r f V => f 0 = .slice (some ⟨gb, go, none⟩) R gc ∧ f 5 = .slice (some ⟨nb, 0, none⟩) (R * C) (R * C) ∧ f 7 = .int .i64 r ∧ OwnS V 3 1 (some ⟨nb, 0, none⟩) (R * C) (R * C) (vi ((List.range (R * C)).map (pasTo R C h a r))) ∧ Ext w V) ⟨(by first | assumption | (simp only [upd_apply, Nat.reduceEqDiff, ↓reduceIte] <;> first | rfl | assumption) | simp [upd_apply, *]), (by first | assumption | (simp only [upd_apply, Nat.reduceEqDiff, ↓reduceIte] <;> first | rfl | assumption) | simp [upd_apply, *]), (by first | assumption | (simp only [upd_apply, Nat.reduceEqDiff, ↓reduceIte] <;> first | rfl | assumption) | simp [upd_apply, *]), o4, x4⟩ fun r f V hr ⟨a0, a5, a7, oV, xV⟩ => ?_
    by_cases hlr : (r : Int) < (R * C : Nat)
    · have hrn : r < R * C := by omega
      simp (disch := omega) only [go_sem, Nat.reduceEqDiff, ↓reduceIte, Nat.reduceAdd, a5, a7, hlr]
      refine loopN (R * C) (fun i f U => f 0 = .slice (some ⟨gb, go, none⟩) R gc ∧ f 5 = .slice (some ⟨nb, 0, none⟩) (R * C) (R * C) ∧ f 7 = .int .i64 r ∧ f 8 = .int .i64 i ∧ OwnS U 3 1 (some ⟨nb, 0, none⟩) (R * C) (R * C) (vi ((List.range (R * C)).map (relTo R C h (pasTo R C h a r) i))) ∧ Ext w U) ⟨(by first | assumption | (simp only [upd_apply, Nat.reduceEqDiff, ↓reduceIte] <;> first | rfl | assumption) | simp [upd_apply, *]), (by first | assumption | (simp only [upd_apply, Nat.reduceEqDiff, ↓reduceIte] <;> first | rfl | assumption) | simp [upd_apply, *]), (by first | assumption | (simp only [upd_apply, Nat.reduceEqDiff, ↓reduceIte] <;> first | rfl | assumption) | simp [upd_apply, *]), (by first | assumption | (simp only [upd_apply, Nat.reduceEqDiff, ↓reduceIte] <;> first | rfl | assumption) | simp [upd_apply, *]), oV, xV⟩ fun i f U hi ⟨a0, a5, a7, a8, oU, xU⟩ => ?_
      by_cases hli : (i : Int) < (R * C : Nat)
      · have hin : i < R * C := by omega
        simp (disch := omega) only [go_sem, Nat.reduceEqDiff, ↓reduceIte, Nat.reduceAdd, a0, a5, a8, hli]
        refine callK_of (by kernel_rfl) (l2Near_c gb go gc rb ro rc R C h _ (hg.ext xU) hR7 hC7 i hin) ?_
        rintro _ w5 ⟨na, nc, rfl, no, nf, x5⟩
        have hn4 := nearN_len R C i
        have hnlt := nearN_lt hin
        have oU5 := oU.ext x5
        have xU5 := xU.trans x5
        have hnbl : nb < U.heap.size := oU.blk_lt rfl
        have hrel : relTo R C h (pasTo R C h a r) (i + 1) = relRow h i (nearN R C i) (relTo R C h (pasTo R C h a r) i) := rfl
        generalize hnn : nearN R C i = nn at *
        generalize relTo R C h (pasTo R C h a r) i = o at *
        simp (disch := omega) only [go_sem, Nat.reduceEqDiff, ↓reduceIte, Nat.reduceAdd]
        refine loopN nn.length (fun m f T => f 0 = .slice (some ⟨gb, go, none⟩) R gc ∧ f 5 = .slice (some ⟨nb, 0, none⟩) (R * C) (R * C) ∧ f 7 = .int .i64 r ∧ f 8 = .int .i64 i ∧ f 9 = .slice na nn.length nc ∧ f 10 = .int .i64 m ∧ OwnS T 3 1 (some ⟨nb, 0, none⟩) (R * C) (R * C) (vi ((List.range (R * C)).map (relRow h i (nn.take m) o))) ∧ OwnS T 3 1 na nn.length nc (vi (ni nn)) ∧ Ext w T) ⟨(by first | assumption | (simp only [upd_apply, Nat.reduceEqDiff, ↓reduceIte] <;> first | rfl | assumption) | simp [upd_apply, *]), (by first | assumption | (simp only [upd_apply, Nat.reduceEqDiff, ↓reduceIte] <;> first | rfl | assumption) | simp [upd_apply, *]), (by first | assumption | (simp only [upd_apply, Nat.reduceEqDiff, ↓reduceIte] <;> first | rfl | assumption) | simp [upd_apply, *]), (by first | assumption | (simp only [upd_apply, Nat.reduceEqDiff, ↓reduceIte] <;> first | rfl | assumption) | simp [upd_apply, *]), (by first | assumption | (simp only [upd_apply, Nat.reduceEqDiff, ↓reduceIte] <;> first | rfl | assumption) | simp [upd_apply, *]), (by first | assumption | (simp only [upd_apply, Nat.reduceEqDiff, ↓reduceIte] <;> first | rfl | assumption) | simp [upd_apply, *]), by simpa [relRow] using oU5, no, xU5⟩ fun m f T hm ⟨a0, a5, a7, a8, a9, a10, oT, noT, xT⟩ => ?_
        by_cases hlm : (m : Int) < nn.length
        · have hml : m < nn.length := by omega
          obtain ⟨nab, rfl⟩ := noT.some (by omega)
          have hnaf := nf nab rfl
          have hj := hnlt _ (getD_mem (d := 0) hml)
          have hst := relRow_take h i o hml
          have g0 : T.cell? ⟨nab, m, none⟩ = some (.int .i64 (nn.getD m 0 : Nat)) := by rw [noT.cell (by omega), vi_get _ _ (by rw [ni_len]; omega), ni_get _ hml]
          generalize nn.getD m 0 = j at *
          generalize relRow h i (nn.take m) o = o' at *
          have g1 : T.cell? ⟨nb, i, none⟩ = some (.int .i64 (o' i)) := by rw [oT.cell (by omega)]; exact vi_rangeI_get _ hin
          have g2 : T.cell? ⟨nb, j, none⟩ = some (.int .i64 (o' j)) := by rw [oT.cell (by omega)]; exact vi_rangeI_get _ hj
          simp (disch := omega) only [go_sem, Nat.reduceEqDiff, ↓reduceIte, Nat.reduceAdd, a9, a10, hlm]
          refine QR_tail 18 (by kernel_rfl) (by kernel_rfl) ?_
          simp (disch := omega) only [go_sem, Nat.reduceEqDiff, ↓reduceIte, Nat.reduceAdd, a0, a5, a8, a9, a10, g0, g1, g2]
          refine callK_q (by kernel_rfl) (fun w' e => l2Height_c gb go gc rb ro rc R C h _ ((hg.ext xT).ext e) hR7 hC7 (i : Int) (by omega) (by omega)) ?_
          simp (disch := omega) only [go_sem, Nat.reduceEqDiff, ↓reduceIte, Nat.reduceAdd, Int.toNat_natCast, a5, a8, a9, a10, g0, g1, g2]
          intro w6 x6
          refine stK_own siz_int (by rfl) (by rfl) (oT.ext x6) (by omega) fun w7 o7 g7 => ?_
          rw [vi_rangeI_set (f := o') (g := stp h o' i j) hin (by simp [stp]) (fun x hx hne => by simp [stp, hne])] at o7
          simp (disch := omega) only [go_sem, Nat.reduceEqDiff, ↓reduceIte, Nat.reduceAdd, a10]
          exact ⟨hml, (by first | assumption | (simp only [upd_apply, Nat.reduceEqDiff, ↓reduceIte] <;> first | rfl | assumption) | simp [upd_apply, *]), (by first | assumption | (simp only [upd_apply, Nat.reduceEqDiff, ↓reduceIte] <;> first | rfl | assumption) | simp [upd_apply, *]), (by first | assumption | (simp only [upd_apply, Nat.reduceEqDiff, ↓reduceIte] <;> first | rfl | assumption) | simp [upd_apply, *]), (by first | assumption | (simp only [upd_apply, Nat.reduceEqDiff, ↓reduceIte] <;> first | rfl | assumption) | simp [upd_apply, *]), (by first | assumption | (simp only [upd_apply, Nat.reduceEqDiff, ↓reduceIte] <;> first | rfl | assumption) | simp [upd_apply, *]), (by first | assumption | (simp only [upd_apply, Nat.reduceEqDiff, ↓reduceIte] <;> first | rfl | assumption) | simp [upd_apply, *]), by rw [hst]; exact o7, (noT.ext x6).grow g7.grow (fun b hb e => by have h1 : nab = b := (by simpa [blk] using hb); have h2 : nb = b := (by simpa using e); omega), g7.ext (xT.trans x6) (by omega)⟩
        · have em : m = nn.length := by omega
          rw [em, List.take_length] at oT
          simp (disch := omega) only [go_sem, Nat.reduceEqDiff, ↓reduceIte, Nat.reduceAdd, a8, a9, a10, hlm]
          exact ⟨hin, (by first | assumption | (simp only [upd_apply, Nat.reduceEqDiff, ↓reduceIte] <;> first | rfl | assumption) | simp [upd_apply, *]), (by first | assumption | (simp only [upd_apply, Nat.reduceEqDiff, ↓reduceIte] <;> first | rfl | assumption) | simp [upd_apply, *]), (by first | assumption | (simp only [upd_apply, Nat.reduceEqDiff, ↓reduceIte] <;> first | rfl | assumption) | simp [upd_apply, *]), (by first | assumption | (simp only [upd_apply, Nat.reduceEqDiff, ↓reduceIte] <;> first | rfl | assumption) | simp [upd_apply, *]), by rw [hrel]; exact oT, xT⟩
      · have ei : i = R * C := by omega
        rw [ei] at oU
        simp (disch := omega) only [go_sem, Nat.reduceEqDiff, ↓reduceIte, Nat.reduceAdd, a5, a7, a8, hli]
        exact ⟨hrn, (by first | assumption | (simp only [upd_apply, Nat.reduceEqDiff, ↓reduceIte] <;> first | rfl | assumption) | simp [upd_apply, *]), (by first | assumption | (simp only [upd_apply, Nat.reduceEqDiff, ↓reduceIte] <;> first | rfl | assumption) | simp [upd_apply, *]), (by first | assumption | (simp only [upd_apply, Nat.reduceEqDiff, ↓reduceIte] <;> first | rfl | assumption) | simp [upd_apply, *]), oU, xU⟩
    · have er : r = R * C := by omega
      rw [er] at oV
      have e : (List.range (R * C)).map (pasTo R C h a (R * C)) = (List.range (R * C)).map (passN R C h a) := List.map_congr_left fun x hx => pas_end g ha (List.mem_range.1 hx)
      rw [e] at oV
      simp (disch := omega) only [go_sem, Nat.reduceEqDiff, ↓reduceIte, Nat.reduceAdd, a5, a7, hlr, Try.results116]
      exact ⟨nb, by first | rfl | trivial, by omega, oV, xV⟩
end Go.Proofs.Ytdlepfeckiahdaa
