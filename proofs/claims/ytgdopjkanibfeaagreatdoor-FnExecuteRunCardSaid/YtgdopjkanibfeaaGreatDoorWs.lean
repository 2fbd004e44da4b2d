/- Contracts: the water functions of the reference. -/
import Derived.Test.YtgdopjkanibfeaaGreatDoorWz
set_option linter.all false
set_option maxRecDepth 20000
namespace Go.SW
theorem count_vi_take {l : List Int} {x : Int} {k : Nat} (hk : k < l.length) : (l.take (k + 1)).count x = (l.take k).count x + if l.getD k 0 = x then 1 else 0 := by
  rw [List.take_succ_eq_append_getElem hk, List.count_append, getD_at l 0 hk]
  simp [List.count_cons]
theorem count_range (f : Nat → Nat) (s : Int) : ∀ n, (ni ((List.range n).map f)).count s = cntp (fun i => ((f i : Nat) : Int) = s) n
  | 0 => by simp [ni, cntp]
  | n + 1 => by
    have ih := count_range f s n
    simp only [ni, List.map_map] at ih ⊢
    rw [List.range_succ, List.map_append, List.count_append, ih]
    simp [cntp, List.count_cons]
theorem basin_count {rows : List (List Int)} (hv : gvalid rows = true) (s : Int) : basinOf rows s = if (ni (basinsL rows)).count s = 0 then (-1 : Int) else ((ni (basinsL rows)).count s : Nat) := by
  have v := (gvalid_iff rows).1 hv
  have g := v.gd
  have e : (ni (basinsL rows)).count s = cntp (fun i => ((endN rows.length (rowLen rows) (hgt rows) i : Nat) : Int) = s) (rows.length * rowLen rows) := by
    simp only [basinsL, hv, if_true]; exact count_range _ _ _
  rw [e, basinOf]
  by_cases h : gvalid rows = true ∧ 0 ≤ s ∧ s < (rows.length * rowLen rows : Nat) ∧ nextN rows.length (rowLen rows) (hgt rows) s.toNat = s.toNat
  · rw [if_pos h]
    have h1 := cntp_pos (fun i => ((endN rows.length (rowLen rows) (hgt rows) i : Nat) : Int) = s) (rows.length * rowLen rows) s.toNat (by omega) (by
      rw [endN_sink g (by omega) h.2.2.2]; omega)
    rw [if_neg (by omega)]
  · rw [if_neg h]
    have h1 := cntp_zero (fun i => ((endN rows.length (rowLen rows) (hgt rows) i : Nat) : Int) = s) (rows.length * rowLen rows) (fun i hi he => by
      have := endN_lt g i hi
      refine h ⟨hv, by omega, by omega, ?_⟩
      have e2 : s.toNat = endN rows.length (rowLen rows) (hgt rows) i := by omega
      rw [e2]; exact this.2)
    rw [h1]; rfl
end Go.SW
namespace Go.Proofs.YtgdopjkanibfeaaGreatDoor
open Go.RowKit Go.SW

theorem l2Next_c (gb go gc : Nat) (rb ro rc : Nat → Nat) (R C : Nat) (h : Nat → Int) (w : World) (hg : GridAt w gb go rb ro rc R C h) (hR7 : R ≤ 7) (hC7 : C ≤ 7) (i : Nat) (hi : i < R * C) :
    Ret Tryz.prog 83 #[.slice (some ⟨gb, go, none⟩) R gc, .int .i64 i] w fun v w' => v = .int .i64 (nextN R C h i : Nat) ∧ Ext w w' := by
  have hRC : R * C ≤ 7 * 7 := Nat.mul_le_mul hR7 hC7
  refine enter2 Tryz.func83 rfl (by kernel_rfl) (of_decide_eq_true (by kernel_rfl)) fun f a0 a1 => ?_
  simp (disch := omega) only [go_sem, Nat.reduceEqDiff, ↓reduceIte, Nat.reduceAdd, a0, a1]
  refine callK_of (by kernel_rfl) (l2Near_c gb go gc rb ro rc R C h _ hg hR7 hC7 i hi) ?_
  rintro _ w1 ⟨a, c, rfl, o, -, x1⟩
  have hn4 := nearN_len R C i
  simp (disch := omega) only [go_sem, Nat.reduceEqDiff, ↓reduceIte, Nat.reduceAdd]
  refine loopN (nearN R C i).length (fun k f w' => f 0 = .slice (some ⟨gb, go, none⟩) R gc ∧ f 5 = .int .i64 (lowL h ((nearN R C i).take k) i : Nat) ∧ f 6 = .slice a (nearN R C i).length c ∧ f 7 = .int .i64 k ∧ Ext w1 w') ⟨(by first | assumption | (simp only [upd_apply, Nat.reduceEqDiff, ↓reduceIte] <;> first | rfl | assumption) | simp [upd_apply, *]), by simp [upd_apply, a1, lowL], (by first | assumption | (simp only [upd_apply, Nat.reduceEqDiff, ↓reduceIte] <;> first | rfl | assumption) | simp [upd_apply, *]), (by first | assumption | (simp only [upd_apply, Nat.reduceEqDiff, ↓reduceIte] <;> first | rfl | assumption) | simp [upd_apply, *]), Ext.refl _⟩ fun k f w' hk ⟨a0, a5, a6, a7, xw⟩ => ?_
  by_cases hlt : (k : Int) < (nearN R C i).length
  · obtain ⟨b, rfl⟩ := o.some (by omega)
    have hjk : (nearN R C i).getD k 0 < R * C := nearN_lt hi _ (getD_mem (by omega))
    have hlow : lowL h ((nearN R C i).take k) i < R * C := lowL_lt (fun j hj => nearN_lt hi _ (List.mem_of_mem_take hj)) hi
    have g0 : w'.cell? ⟨b, k, none⟩ = some (.int .i64 ((nearN R C i).getD k 0 : Nat)) := by rw [(o.ext xw).cell (by omega), vi_get _ _ (by rw [ni_len]; omega), ni_get _ (by omega)]
    have hstep := lowL_take h (nearN R C i) i (k := k) (by omega)
    generalize (nearN R C i).getD k 0 = j at *
    generalize lowL h ((nearN R C i).take k) i = m at *
    have hgw := (hg.ext x1).ext xw
    simp (disch := omega) only [go_sem, Nat.reduceEqDiff, ↓reduceIte, Nat.reduceAdd, a0, a6, a7, hlt, g0]
    refine callK_pure (by kernel_rfl) (l2Height_c gb go gc rb ro rc R C h _ hgw hR7 hC7 j (by omega) (by omega)) fun w2 x2 => ?_
    simp (disch := omega) only [go_sem, Nat.reduceEqDiff, ↓reduceIte, Nat.reduceAdd, a0, a5]
    refine callK_pure (by kernel_rfl) (l2Height_c gb go gc rb ro rc R C h _ (hgw.ext x2) hR7 hC7 m (by omega) (by omega)) fun w3 x3 => ?_
    have g3 := (Ext.cell (x2.trans x3)) g0
    by_cases hh : h j < h m
    · rw [if_pos hh] at hstep
      simp (disch := omega) only [go_sem, Nat.reduceEqDiff, ↓reduceIte, Nat.reduceAdd, a6, a7, hh, g3]
      exact ⟨by omega, (by first | assumption | (simp only [upd_apply, Nat.reduceEqDiff, ↓reduceIte] <;> first | rfl | assumption) | simp [upd_apply, *]), by simp [upd_apply, hstep], (by first | assumption | (simp only [upd_apply, Nat.reduceEqDiff, ↓reduceIte] <;> first | rfl | assumption) | simp [upd_apply, *]), (by first | assumption | (simp only [upd_apply, Nat.reduceEqDiff, ↓reduceIte] <;> first | rfl | assumption) | simp [upd_apply, *]), (xw.trans x2).trans x3⟩
    · rw [if_neg hh] at hstep
      simp (disch := omega) only [go_sem, Nat.reduceEqDiff, ↓reduceIte, Nat.reduceAdd, a6, a7, hh]
      exact ⟨by omega, (by first | assumption | (simp only [upd_apply, Nat.reduceEqDiff, ↓reduceIte] <;> first | rfl | assumption) | simp [upd_apply, *]), by simp [upd_apply, hstep, a5], (by first | assumption | (simp only [upd_apply, Nat.reduceEqDiff, ↓reduceIte] <;> first | rfl | assumption) | simp [upd_apply, *]), (by first | assumption | (simp only [upd_apply, Nat.reduceEqDiff, ↓reduceIte] <;> first | rfl | assumption) | simp [upd_apply, *]), (xw.trans x2).trans x3⟩
  · obtain rfl : k = (nearN R C i).length := by omega
    simp (disch := omega) only [go_sem, Nat.reduceEqDiff, ↓reduceIte, Nat.reduceAdd, a5, a6, a7, hlt, List.take_length, Tryz.results83]
    exact ⟨rfl, x1.trans xw⟩

theorem l2Run_c (gb go gc : Nat) (rb ro rc : Nat → Nat) (R C : Nat) (h : Nat → Int) (w : World) (hg : GridAt w gb go rb ro rc R C h) (g : Gd R C h) (i : Nat) (hi : i < R * C) :
    Ret Tryz.prog 51 #[.slice (some ⟨gb, go, none⟩) R gc, .int .i64 i] w fun v w' => Got1 w w' (ni (waterN R C h i)) v := by
  have hRC := g.le
  refine enter2 Tryz.func51 rfl (by kernel_rfl) (of_decide_eq_true (by kernel_rfl)) fun f a0 a1 => ?_
  simp (disch := omega) only [go_sem, Nat.reduceEqDiff, ↓reduceIte, Nat.reduceAdd, a1]
  refine bslK_1 elt_i rfl fun w1 b1 e1 x1 k1 _ => ?_
  simp (disch := omega) only [go_sem, Nat.reduceEqDiff, ↓reduceIte, Nat.reduceAdd]
  refine loopX (fun n f W => ∃ (pre : List Nat) (cur : Nat), n = (waterN R C h cur).length ∧ cur < R * C ∧ pre ++ waterN R C h cur = waterN R C h i ∧ f 0 = .slice (some ⟨gb, go, none⟩) R gc ∧ f 1 = .int .i64 cur ∧
    (∃ a c, f 5 = .slice a (pre ++ [cur]).length c ∧ OwnS W 3 1 a (pre ++ [cur]).length c (vi (ni (pre ++ [cur]))) ∧ (∀ b, blk a = some b → w.heap.size ≤ b)) ∧ Ext w W) (waterN R C h i).length ?_ ?_
  · refine ⟨[], i, rfl, hi, rfl, (by first | assumption | (simp only [upd_apply, Nat.reduceEqDiff, ↓reduceIte] <;> first | rfl | assumption) | simp [upd_apply, *]), (by first | assumption | (simp only [upd_apply, Nat.reduceEqDiff, ↓reduceIte] <;> first | rfl | assumption) | simp [upd_apply, *]), ⟨some ⟨b1, 0, none⟩, 1, by simp [upd_apply], ?_, fun b hb => by simp [blk] at hb; omega⟩, x1⟩
    have := OwnS.of_blk (e := 3) (n := 1) (s := 1) k1 (by simp) (by simp [maxLen])
    simpa [vi, ni] using this
  · rintro n f W ⟨pre, cur, rfl, hcur, hrun, a0, a1, ⟨a, c, a5, o, hb⟩, xw⟩
    have hgw := hg.ext xw
    have hlen : (pre ++ [cur]).length ≤ 100 := by
      have h1 := waterN_len g i hi
      have h2 := g.hh i hi
      have h3 := waterN_ne g hcur
      have h4 := List.length_pos_iff.2 h3
      rw [← hrun, List.length_append] at h1
      simp only [List.length_append, List.length_singleton]; omega
    simp (disch := omega) only [go_sem, Nat.reduceEqDiff, ↓reduceIte, Nat.reduceAdd, a0, a1]
    refine callK_pure (by kernel_rfl) (l2Next_c gb go gc rb ro rc R C h _ hgw g.r7 g.c7 cur hcur) fun w2 x2 => ?_
    by_cases hs : nextN R C h cur = cur
    · have hbq : (((nextN R C h cur : Nat) : Int) != (cur : Int)) = false := by simp [hs]
      simp (disch := omega) only [go_sem, Nat.reduceEqDiff, ↓reduceIte, Nat.reduceAdd, a1, a5, hbq, Tryz.results51]
      have e : pre ++ [cur] = waterN R C h i := by rw [← hrun, waterN_sink g hcur hs]
      rw [e] at o
      refine ⟨a, c, by rw [e, ni_len], by rw [ni_len]; exact o.ext x2, hb, xw.trans x2⟩
    · have hbq : (((nextN R C h cur : Nat) : Int) != (cur : Int)) = true := by simp; omega
      simp (disch := omega) only [go_sem, Nat.reduceEqDiff, ↓reduceIte, Nat.reduceAdd, a0, a1, hbq]
      refine callK_pure (by kernel_rfl) (l2Next_c gb go gc rb ro rc R C h _ (hgw.ext x2) g.r7 g.c7 cur hcur) fun w3 x3 => ?_
      simp (disch := omega) only [go_sem, Nat.reduceEqDiff, ↓reduceIte, Nat.reduceAdd, a5]
      refine bslK_1 elt_i rfl fun w4 b4 e4 x4 k4 _ => ?_
      simp (disch := omega) only [go_sem, Nat.reduceEqDiff, ↓reduceIte, Nat.reduceAdd]
      have xx := ((xw.trans x2).trans x3).trans x4
      refine appK_1 elt_i (((o.ext x2).ext x3).ext x4) k4 rfl (by omega) (.inl (by decide)) fun w5 a5' c5 o5 g5 h5 => ?_
      simp (disch := omega) only [go_sem, Nat.reduceEqDiff, ↓reduceIte, Nat.reduceAdd]
      have hst := waterN_step g hcur hs
      refine ⟨(waterN R C h (nextN R C h cur)).length, by rw [hst]; simp, pre ++ [cur], nextN R C h cur, rfl, nextN_lt hcur, by rw [← hrun, hst]; simp, (by first | assumption | (simp only [upd_apply, Nat.reduceEqDiff, ↓reduceIte] <;> first | rfl | assumption) | simp [upd_apply, *]), (by first | assumption | (simp only [upd_apply, Nat.reduceEqDiff, ↓reduceIte] <;> first | rfl | assumption) | simp [upd_apply, *]), ⟨a5', c5, by simp [upd_apply], ?_, fun b hb2 => ?_⟩, g5.ext xx hb⟩
      · rw [← vi_ni_snoc (pre ++ [cur]) _ _ rfl]; simpa using o5
      · rcases h5 b hb2 with h | h
        · exact hb b h
        · have := xx.size; omega

theorem l1Cell_c (a : Option Addr) (rows : List (List Int)) (A : Nat → Option Addr) (Cp : Nat → Nat) (gc : Nat) (r c : Int) (w : World) (hr : RowsAt w a rows A Cp) :
    Ret Tryz.prog 50 #[.slice a rows.length gc, .int .i64 r, .int .i64 c] w fun v w' => v = .bool (cellok rows r c) ∧ Ext w w' := by
  refine enter3 Tryz.func50 rfl (by kernel_rfl) (of_decide_eq_true (by kernel_rfl)) fun f a0 a1 a2 => ?_
  simp (disch := omega) only [go_sem, Nat.reduceEqDiff, ↓reduceIte, Nat.reduceAdd, a0]
  refine callK_pure (by kernel_rfl) (gridValid_c _ _ _ _ _ _ hr) fun w1 x1 => ?_
  cases hv : gvalid rows with
  | false =>
    simp (disch := omega) only [go_sem, Nat.reduceEqDiff, ↓reduceIte, Nat.reduceAdd, Tryz.results50]
    exact ⟨by simp [cellok, hv], x1⟩
  | true =>
    have v := (gvalid_iff rows).1 hv
    have hr7 := v.r7
    have hr1 := v.r1
    have hc7 := v.c7
    simp (disch := omega) only [go_sem, Nat.reduceEqDiff, ↓reduceIte, Nat.reduceAdd, a0, a1]
    refine callK_pure (by kernel_rfl) (l6In_c _ _ _ _) fun w2 x2 => ?_
    by_cases h1 : 0 ≤ r ∧ r ≤ (rows.length : Int) - 1
    case neg =>
      simp (disch := omega) only [go_sem, Nat.reduceEqDiff, ↓reduceIte, Nat.reduceAdd, h1, Tryz.results50]
      exact ⟨by simp [cellok, hv]; omega, x1.trans x2⟩
    obtain ⟨gb, go, rb, ro, rfl, -, hg⟩ := hr.grid v
    have g0 := ((hg.ext x1).ext x2).row 0 (by omega)
    simp only [Nat.add_zero] at g0
    simp (disch := omega) only [go_sem, Nat.reduceEqDiff, ↓reduceIte, Nat.reduceAdd, a0, a2, h1, g0, and_self]
    refine callK_pure (by kernel_rfl) (l6In_c _ _ _ _) fun w3 x3 => ?_
    simp (disch := omega) only [go_sem, Nat.reduceEqDiff, ↓reduceIte, Nat.reduceAdd, Tryz.results50]
    refine ⟨?_, (x1.trans x2).trans x3⟩
    simp only [cellok, hv, Bool.true_and]
    congr 1
    exact decide_eq_decide.2 (by omega)

theorem specWaterRun_c (a : Option Addr) (rows : List (List Int)) (A : Nat → Option Addr) (Cp : Nat → Nat) (gc : Nat) (r c : Int) (w : World) (hr : RowsAt w a rows A Cp) :
    Ret Tryz.prog 18 #[.slice a rows.length gc, .int .i64 r, .int .i64 c] w fun v w' => Got w w' (ni (runOf rows r c)) (cellok rows r c) v := by
  refine enter3 Tryz.func18 rfl (by kernel_rfl) (of_decide_eq_true (by kernel_rfl)) fun f a0 a1 a2 => ?_
  simp (disch := omega) only [go_sem, Nat.reduceEqDiff, ↓reduceIte, Nat.reduceAdd, a0, a1, a2]
  refine callK_pure (by kernel_rfl) (l1Cell_c _ _ _ _ _ _ _ _ hr) fun w1 x1 => ?_
  cases hok : cellok rows r c with
  | false =>
    simp (disch := omega) only [go_sem, Nat.reduceEqDiff, ↓reduceIte, Nat.reduceAdd]
    refine bslK_0 elt_i fun w2 b2 e2 x2 o2 _ => ?_
    simp (disch := omega) only [go_sem, Nat.reduceEqDiff, ↓reduceIte, Nat.reduceAdd, Tryz.results18]
    have s1 := x1.size
    exact ⟨_, _, by simp [runOf, hok, ni]; exact ⟨rfl, rfl⟩, by simpa [runOf, hok, ni, vi] using o2, fun b hb => by simp [blk] at hb; omega, x1.trans x2⟩
  | true =>
    obtain ⟨rn, cn, rfl, rfl, h1, h2, h3⟩ := cell_idx hok
    have hv : gvalid rows = true := by simp only [cellok, Bool.and_eq_true] at hok; exact hok.1
    have v := (gvalid_iff rows).1 hv
    have g := v.gd
    have hr7 := v.r7
    have hc7 := v.c7
    have hn49 := g.le
    obtain ⟨gb, go, rb, ro, rfl, -, hg⟩ := hr.grid v
    have g0 := (hg.ext x1).row 0 (by omega)
    simp only [Nat.add_zero] at g0
    have e1 : (rn : Int) * (rowLen rows : Int) + (cn : Int) = ((rn * rowLen rows + cn : Nat) : Int) := by simp
    have e2 : (rn : Int) * (rowLen rows : Int) = ((rn * rowLen rows : Nat) : Int) := by simp
    have e3 : ((rn * rowLen rows : Nat) : Int) + (cn : Int) = ((rn * rowLen rows + cn : Nat) : Int) := by simp
    simp (disch := omega) only [go_sem, Nat.reduceEqDiff, ↓reduceIte, Nat.reduceAdd, a0, a1, a2, g0, e2, e3]
    refine callK_of (by kernel_rfl) (l2Run_c gb go gc rb ro Cp _ _ _ _ (hg.ext x1) g _ h3) ?_
    rintro _ w2 ⟨ra, rc, rfl, o, hb, x2⟩
    simp (disch := omega) only [go_sem, Nat.reduceEqDiff, ↓reduceIte, Nat.reduceAdd, Tryz.results18]
    exact ⟨ra, rc, by simp [runOf, hok], by simpa [runOf, hok] using o, fun b h => Nat.le_trans x1.size (hb b h), x1.trans x2⟩

end Go.Proofs.YtgdopjkanibfeaaGreatDoor
