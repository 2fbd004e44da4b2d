/- Contracts: the water functions of the reference, second part. -/
import Derived.Test.YtikmkdoifbjfjaaWs
set_option linter.all false
namespace Go.SW
theorem runOf_short (rows : List (List Int)) (r c : Int) : (ni (runOf rows r c)).length ≤ 1000000 := by
  rw [ni_len, runOf]
  split
  · rename_i hok
    obtain ⟨rn, cn, rfl, rfl, h1, h2, h3⟩ := cell_idx hok
    have hv : gvalid rows = true := by simp only [cellok, Bool.and_eq_true] at hok; exact hok.1
    have g := ((gvalid_iff rows).1 hv).gd
    have := waterN_len g _ h3
    have := g.hh _ h3
    simp only [Int.toNat_natCast]; omega
  · simp
theorem flowL_short (rows : List (List Int)) : (ni (flowL rows)).length ≤ 1000000 := by
  rw [ni_len, flowL]
  split
  · rename_i hv; have := ((gvalid_iff rows).1 hv).gd.le; simp; omega
  · simp
theorem basinsL_short (rows : List (List Int)) : (ni (basinsL rows)).length ≤ 1000000 := by
  rw [ni_len, basinsL]
  split
  · rename_i hv; have := ((gvalid_iff rows).1 hv).gd.le; simp; omega
  · simp
end Go.SW
namespace Go.Proofs.Ytikmkdoifbjfjaa
open Go.RowKit Go.SW

theorem specWaterFlow_c (a : Option Addr) (rows : List (List Int)) (A : Nat → Option Addr) (Cp : Nat → Nat) (gc : Nat) (w : World) (hr : RowsAt w a rows A Cp) :
    Ret Try.prog 31 #[.slice a rows.length gc] w fun v w' => Got w w' (ni (flowL rows)) (gvalid rows) v := by
  refine enter1 Try.func31 rfl (by kernel_rfl) (of_decide_eq_true (by kernel_rfl)) fun f a0 => ?_
  simp (disch := omega) only [go_sem, Nat.reduceEqDiff, ↓reduceIte, Nat.reduceAdd, a0]
  refine callK_pure (by kernel_rfl) (gridValid_c _ _ _ _ _ _ hr) fun w1 x1 => ?_
  have s1 := x1.size
  cases hv : gvalid rows with
  | false =>
    simp (disch := omega) only [go_sem, Nat.reduceEqDiff, ↓reduceIte, Nat.reduceAdd]
    refine bslK_0 elt_i fun w2 b2 e2 x2 o2 _ => ?_
    simp (disch := omega) only [go_sem, Nat.reduceEqDiff, ↓reduceIte, Nat.reduceAdd, Try.results31]
    exact ⟨_, _, by simp [flowL, hv, ni]; exact ⟨rfl, rfl⟩, by simpa [flowL, hv, ni, vi] using o2, fun b hb => by simp [blk] at hb; omega, x1.trans x2⟩
  | true =>
    have v := (gvalid_iff rows).1 hv
    have g := v.gd
    have hn49 := g.le
    obtain ⟨gb, go, rb, ro, rfl, -, hg⟩ := hr.grid v
    simp (disch := omega) only [go_sem, Nat.reduceEqDiff, ↓reduceIte, Nat.reduceAdd, a0]
    refine callK_pure (by kernel_rfl) (l2Cells_c _ _ _ _ _ _ _ _ _ _ (hg.ext x1) v.r1 v.r7 v.c7) fun w2 x2 => ?_
    simp (disch := omega) only [go_sem, Nat.reduceEqDiff, ↓reduceIte, Nat.reduceAdd]
    refine mksK_of elt_i _ _ _ _ _ _ rfl rfl (Nat.le_refl _) (by omega) (by simp [maxLen]; omega) fun w5 b5 e5 x5 o5 _ => ?_
    have n0 : (List.replicate (rows.length * rowLen rows) (Value.int .i64 0)) = vi (ni ((List.range (rows.length * rowLen rows)).map (flowTo rows.length (rowLen rows) (hgt rows) 0))) := by
      apply List.ext_getElem?; intro j
      by_cases hj : j < rows.length * rowLen rows <;> simp [vi, ni, flowTo, hj]
    simp only [Value.cells, made_int, n0] at o5
    have x25 := (x1.trans x2).trans x5
    have s2 := (x1.trans x2).size
    simp (disch := omega) only [go_sem, Nat.reduceEqDiff, ↓reduceIte, Nat.reduceAdd]
    refine loopN (rows.length * rowLen rows) (fun k f W => f 0 = .slice (some ⟨gb, go, none⟩) rows.length gc ∧ f 4 = .slice (some ⟨b5, 0, none⟩) (rows.length * rowLen rows) (rows.length * rowLen rows) ∧ f 5 = .int .i64 k ∧ Ext w W ∧
      OwnS W 3 1 (some ⟨b5, 0, none⟩) (rows.length * rowLen rows) (rows.length * rowLen rows) (vi (ni ((List.range (rows.length * rowLen rows)).map (flowTo rows.length (rowLen rows) (hgt rows) k))))) ⟨(by first | assumption | (simp only [upd_apply, Nat.reduceEqDiff, ↓reduceIte] <;> first | rfl | assumption) | simp [upd_apply, *]), (by first | assumption | (simp only [upd_apply, Nat.reduceEqDiff, ↓reduceIte] <;> first | rfl | assumption) | simp [upd_apply, *]), (by first | assumption | (simp only [upd_apply, Nat.reduceEqDiff, ↓reduceIte] <;> first | rfl | assumption) | simp [upd_apply, *]), x25, o5⟩ fun k f W hk ⟨a0, a4, a5, xw, o⟩ => ?_
    by_cases hlt : (k : Int) < (rows.length * rowLen rows : Nat)
    · have hkn : k < rows.length * rowLen rows := by omega
      have hwl := waterN_len g k hkn
      have hhi := g.hh k hkn
      simp (disch := omega) only [go_sem, Nat.reduceEqDiff, ↓reduceIte, Nat.reduceAdd, a0, a4, a5, hlt]
      refine callK_of (by kernel_rfl) (l2Run_c gb go gc rb ro Cp _ _ _ _ (hg.ext xw) g k hkn) ?_
      rintro _ w3 ⟨ra, rc, rfl, orun, hrb, x3⟩
      rw [ni_len] at orun
      have hbl : b5 < W.heap.size := o.blk_lt (b := b5) rfl
      simp (disch := omega) only [go_sem, Nat.reduceEqDiff, ↓reduceIte, Nat.reduceAdd]
      refine loopN (waterN rows.length (rowLen rows) (hgt rows) k).length (fun m f V => f 0 = .slice (some ⟨gb, go, none⟩) rows.length gc ∧ f 4 = .slice (some ⟨b5, 0, none⟩) (rows.length * rowLen rows) (rows.length * rowLen rows) ∧ f 5 = .int .i64 k ∧ f 6 = .slice ra (waterN rows.length (rowLen rows) (hgt rows) k).length rc ∧ f 7 = .int .i64 m ∧ Ext w V ∧
        OwnS V 3 1 (some ⟨b5, 0, none⟩) (rows.length * rowLen rows) (rows.length * rowLen rows) (vi (ni ((List.range (rows.length * rowLen rows)).map fun j => flowTo rows.length (rowLen rows) (hgt rows) k j + ((waterN rows.length (rowLen rows) (hgt rows) k).take m).count j))) ∧
        OwnS V 3 1 ra (waterN rows.length (rowLen rows) (hgt rows) k).length rc (vi (ni (waterN rows.length (rowLen rows) (hgt rows) k)))) ⟨(by first | assumption | (simp only [upd_apply, Nat.reduceEqDiff, ↓reduceIte] <;> first | rfl | assumption) | simp [upd_apply, *]), (by first | assumption | (simp only [upd_apply, Nat.reduceEqDiff, ↓reduceIte] <;> first | rfl | assumption) | simp [upd_apply, *]), (by first | assumption | (simp only [upd_apply, Nat.reduceEqDiff, ↓reduceIte] <;> first | rfl | assumption) | simp [upd_apply, *]), by simp [upd_apply, ni_len], (by first | assumption | (simp only [upd_apply, Nat.reduceEqDiff, ↓reduceIte] <;> first | rfl | assumption) | simp [upd_apply, *]), xw.trans x3, by simpa using o.ext x3, orun⟩ fun m f V hm ⟨a0, a4, a5, a6, a7, xv, oV, rV⟩ => ?_
      by_cases hlm : (m : Int) < (waterN rows.length (rowLen rows) (hgt rows) k).length
      · obtain ⟨rbk, rfl⟩ := rV.some (by omega)
        have hx : (waterN rows.length (rowLen rows) (hgt rows) k).getD m 0 ∈ waterN rows.length (rowLen rows) (hgt rows) k := getD_mem (by omega)
        have hxl := waterN_lt g k hkn _ hx
        have gx : V.cell? ⟨rbk, m, none⟩ = some (.int .i64 ((waterN rows.length (rowLen rows) (hgt rows) k).getD m 0 : Nat)) := by
          rw [rV.cell (by omega), vi_get _ _ (by rw [ni_len]; omega), ni_get _ (by omega)]
        have htake : (waterN rows.length (rowLen rows) (hgt rows) k).take (m + 1) = (waterN rows.length (rowLen rows) (hgt rows) k).take m ++ [(waterN rows.length (rowLen rows) (hgt rows) k).getD m 0] := by
          rw [List.take_succ_eq_append_getElem (by omega), getD_at _ _ (by omega)]
        generalize (waterN rows.length (rowLen rows) (hgt rows) k).getD m 0 = xn at *
        have hfl := flowTo_le _ _ _ g k (by omega) xn
        have hcl : ((waterN rows.length (rowLen rows) (hgt rows) k).take m).count xn ≤ ((waterN rows.length (rowLen rows) (hgt rows) k).take m).length := List.count_le_length
        rw [List.length_take] at hcl
        have c1 : V.cell? ⟨b5, xn, none⟩ = some (.int .i64 ((flowTo rows.length (rowLen rows) (hgt rows) k xn + ((waterN rows.length (rowLen rows) (hgt rows) k).take m).count xn : Nat) : Int)) := by
          rw [oV.cell (by omega)]; exact vi_range_get (fun j => flowTo rows.length (rowLen rows) (hgt rows) k j + ((waterN rows.length (rowLen rows) (hgt rows) k).take m).count j) hxl
        have hne : rbk ≠ b5 := by
          have := hrb rbk rfl; intro e; omega
        simp (disch := omega) only [go_sem, Nat.reduceEqDiff, ↓reduceIte, Nat.reduceAdd, a4, a6, a7, hlm]
        refine QR_tail 14 (by kernel_rfl) (by kernel_rfl) ?_
        simp (disch := omega) only [go_sem, Nat.reduceEqDiff, ↓reduceIte, Nat.reduceAdd, a4, a6, a7, gx, c1]
        intro V0 y0
        refine stK_own siz_int (by rfl) (by rfl) (oV.ext y0) hxl fun V1 q1 g1 => ?_
        simp (disch := omega) only [go_sem, Nat.reduceEqDiff, ↓reduceIte, Nat.reduceAdd, a7]
        have hset := vi_range_set (n := rows.length * rowLen rows) (x := xn) (f := fun j => flowTo rows.length (rowLen rows) (hgt rows) k j + ((waterN rows.length (rowLen rows) (hgt rows) k).take m).count j) (g := fun j => flowTo rows.length (rowLen rows) (hgt rows) k j + ((waterN rows.length (rowLen rows) (hgt rows) k).take (m + 1)).count j)
          (y := ((flowTo rows.length (rowLen rows) (hgt rows) k xn + ((waterN rows.length (rowLen rows) (hgt rows) k).take m).count xn : Nat) : Int) + 1) hxl (by simp [htake, List.count_append]; omega) (fun j hj hne => by simp [htake, List.count_append, List.count_cons]; omega)
        rw [hset] at q1
        exact ⟨by omega, (by first | assumption | (simp only [upd_apply, Nat.reduceEqDiff, ↓reduceIte] <;> first | rfl | assumption) | simp [upd_apply, *]), (by first | assumption | (simp only [upd_apply, Nat.reduceEqDiff, ↓reduceIte] <;> first | rfl | assumption) | simp [upd_apply, *]), (by first | assumption | (simp only [upd_apply, Nat.reduceEqDiff, ↓reduceIte] <;> first | rfl | assumption) | simp [upd_apply, *]), (by first | assumption | (simp only [upd_apply, Nat.reduceEqDiff, ↓reduceIte] <;> first | rfl | assumption) | simp [upd_apply, *]), (by first | assumption | (simp only [upd_apply, Nat.reduceEqDiff, ↓reduceIte] <;> first | rfl | assumption) | simp [upd_apply, *]), g1.ext (xv.trans y0) (by omega), q1, (rV.ext y0).grow g1.grow (by simp [blk]; omega)⟩
      · obtain rfl : m = (waterN rows.length (rowLen rows) (hgt rows) k).length := by omega
        simp (disch := omega) only [go_sem, Nat.reduceEqDiff, ↓reduceIte, Nat.reduceAdd, a5, a6, a7, hlm]
        rw [List.take_length] at oV
        exact ⟨hkn, (by first | assumption | (simp only [upd_apply, Nat.reduceEqDiff, ↓reduceIte] <;> first | rfl | assumption) | simp [upd_apply, *]), (by first | assumption | (simp only [upd_apply, Nat.reduceEqDiff, ↓reduceIte] <;> first | rfl | assumption) | simp [upd_apply, *]), (by first | assumption | (simp only [upd_apply, Nat.reduceEqDiff, ↓reduceIte] <;> first | rfl | assumption) | simp [upd_apply, *]), xv, oV⟩
    · obtain rfl : k = rows.length * rowLen rows := by omega
      simp (disch := omega) only [go_sem, Nat.reduceEqDiff, ↓reduceIte, Nat.reduceAdd, a4, a5, hlt, Try.results31]
      have e : flowL rows = (List.range (rows.length * rowLen rows)).map (flowTo rows.length (rowLen rows) (hgt rows) (rows.length * rowLen rows)) := by simp [flowL, hv]
      rw [e]
      exact ⟨_, _, by rw [ni_range_len], by rw [ni_range_len]; exact o, fun b hb => by simp [blk] at hb; omega, xw⟩

theorem specWaterDivide_c (a : Option Addr) (rows : List (List Int)) (A : Nat → Option Addr) (Cp : Nat → Nat) (gc : Nat) (w : World) (hr : RowsAt w a rows A Cp) :
    Ret Try.prog 33 #[.slice a rows.length gc] w fun v w' => v = .int .i64 (divOf rows) ∧ Ext w w' := by
  refine enter1 Try.func33 rfl (by kernel_rfl) (of_decide_eq_true (by kernel_rfl)) fun f a0 => ?_
  simp (disch := omega) only [go_sem, Nat.reduceEqDiff, ↓reduceIte, Nat.reduceAdd, a0]
  refine callK_of (by kernel_rfl) (specWaterBasins_c _ _ _ _ _ _ hr) ?_
  rintro _ w1 ⟨ba, bc, rfl, o, -, x1⟩
  cases hv : gvalid rows with
  | false =>
    simp (disch := omega) only [go_sem, Nat.reduceEqDiff, ↓reduceIte, Nat.reduceAdd, Try.results33]
    exact ⟨by simp [divOf, hv], x1⟩
  | true =>
    have v := (gvalid_iff rows).1 hv
    have g := v.gd
    have hn49 := g.le
    obtain ⟨gb, go, rb, ro, rfl, -, hg⟩ := hr.grid v
    have el : (ni (basinsL rows)).length = rows.length * rowLen rows := by simp [basinsL, hv, ni]
    have eg : ∀ i, i < rows.length * rowLen rows → (vi (ni (basinsL rows)))[i]? = some (.int .i64 (endN rows.length (rowLen rows) (hgt rows) i : Nat)) := fun i hi => by
      simp only [basinsL, hv, if_true]; exact vi_range_get _ hi
    rw [el] at o ⊢
    obtain ⟨bb, rfl⟩ := o.some g.pos
    have oc : ∀ {W : World}, Ext w1 W → ∀ i, i < rows.length * rowLen rows → W.cell? ⟨bb, i, none⟩ = some (.int .i64 (endN rows.length (rowLen rows) (hgt rows) i : Nat)) := fun e i hi => by
      rw [(o.ext e).cell (by omega), eg i hi]
    simp (disch := omega) only [go_sem, Nat.reduceEqDiff, ↓reduceIte, Nat.reduceAdd]
    refine loopN (rows.length * rowLen rows) (fun k f W => f 0 = .slice (some ⟨gb, go, none⟩) rows.length gc ∧ f 3 = .slice (some ⟨bb, 0, none⟩) (rows.length * rowLen rows) bc ∧ f 5 = .int .i64 (divTo rows.length (rowLen rows) (hgt rows) k : Nat) ∧ f 6 = .int .i64 k ∧ Ext w1 W) ⟨(by first | assumption | (simp only [upd_apply, Nat.reduceEqDiff, ↓reduceIte] <;> first | rfl | assumption) | simp [upd_apply, *]), (by first | assumption | (simp only [upd_apply, Nat.reduceEqDiff, ↓reduceIte] <;> first | rfl | assumption) | simp [upd_apply, *]), (by first | assumption | (simp only [upd_apply, Nat.reduceEqDiff, ↓reduceIte] <;> first | rfl | assumption) | simp [upd_apply, *]), (by first | assumption | (simp only [upd_apply, Nat.reduceEqDiff, ↓reduceIte] <;> first | rfl | assumption) | simp [upd_apply, *]), Ext.refl _⟩ fun k f W hk ⟨a0, a3, a5, a6, xw⟩ => ?_
    by_cases hlt : (k : Int) < (rows.length * rowLen rows : Nat)
    · have hkn : k < rows.length * rowLen rows := by omega
      have hdl := divTo_le rows.length (rowLen rows) (hgt rows) k
      simp (disch := omega) only [go_sem, Nat.reduceEqDiff, ↓reduceIte, Nat.reduceAdd, a0, a3, a6, hlt]
      refine callK_of (by kernel_rfl) (l2Near_c gb go gc rb ro Cp _ _ _ _ ((hg.ext x1).ext xw) g.r7 g.c7 k hkn) ?_
      rintro _ w6 ⟨na, nc, rfl, no, -, x6⟩
      have hn4 := nearN_len rows.length (rowLen rows) k
      simp (disch := omega) only [go_sem, Nat.reduceEqDiff, ↓reduceIte, Nat.reduceAdd]
      refine loopN (nearN rows.length (rowLen rows) k).length (fun m f V => f 0 = .slice (some ⟨gb, go, none⟩) rows.length gc ∧ f 3 = .slice (some ⟨bb, 0, none⟩) (rows.length * rowLen rows) bc ∧ f 5 = .int .i64 (divTo rows.length (rowLen rows) (hgt rows) k + ((nearN rows.length (rowLen rows) k).take m).countP (divP rows.length (rowLen rows) (hgt rows) k) : Nat) ∧ f 6 = .int .i64 k ∧
        f 7 = .slice na (nearN rows.length (rowLen rows) k).length nc ∧ f 8 = .int .i64 m ∧ Ext w6 V) ⟨(by first | assumption | (simp only [upd_apply, Nat.reduceEqDiff, ↓reduceIte] <;> first | rfl | assumption) | simp [upd_apply, *]), (by first | assumption | (simp only [upd_apply, Nat.reduceEqDiff, ↓reduceIte] <;> first | rfl | assumption) | simp [upd_apply, *]), by simp [upd_apply, a5], (by first | assumption | (simp only [upd_apply, Nat.reduceEqDiff, ↓reduceIte] <;> first | rfl | assumption) | simp [upd_apply, *]), (by first | assumption | (simp only [upd_apply, Nat.reduceEqDiff, ↓reduceIte] <;> first | rfl | assumption) | simp [upd_apply, *]), (by first | assumption | (simp only [upd_apply, Nat.reduceEqDiff, ↓reduceIte] <;> first | rfl | assumption) | simp [upd_apply, *]), Ext.refl _⟩ fun m f V hm ⟨a0, a3, a5, a6, a7, a8, xm⟩ => ?_
      by_cases hlm : (m : Int) < (nearN rows.length (rowLen rows) k).length
      · obtain ⟨nb, rfl⟩ := no.some (by omega)
        have hcp : ((nearN rows.length (rowLen rows) k).take m).countP (divP rows.length (rowLen rows) (hgt rows) k) ≤ 4 := by
          have h1 : ((nearN rows.length (rowLen rows) k).take m).countP (divP rows.length (rowLen rows) (hgt rows) k) ≤ ((nearN rows.length (rowLen rows) k).take m).length := List.countP_le_length
          rw [List.length_take] at h1; omega
        have hjk : (nearN rows.length (rowLen rows) k).getD m 0 < rows.length * rowLen rows := nearN_lt hkn _ (getD_mem (by omega))
        have g0 : V.cell? ⟨nb, m, none⟩ = some (.int .i64 ((nearN rows.length (rowLen rows) k).getD m 0 : Nat)) := by rw [(no.ext xm).cell (by omega), vi_get _ _ (by rw [ni_len]; omega), ni_get _ (by omega)]
        have hstep := countP_take (l := nearN rows.length (rowLen rows) k) (p := divP rows.length (rowLen rows) (hgt rows) k) (m := m) (by omega)
        generalize ((nearN rows.length (rowLen rows) k).take m).countP (divP rows.length (rowLen rows) (hgt rows) k) = q at *
        generalize (nearN rows.length (rowLen rows) k).getD m 0 = j at *
        have xv := (xw.trans x6).trans xm
        have cj := oc xv j hjk
        have ck := oc xv k hkn
        simp (disch := omega) only [go_sem, Nat.reduceEqDiff, ↓reduceIte, Nat.reduceAdd, a7, a8, hlm]
        refine QR_of (by kernel_rfl) (by kernel_rfl) ?_
        by_cases hij : (k : Int) < (j : Int)
        · by_cases he : endN rows.length (rowLen rows) (hgt rows) k = endN rows.length (rowLen rows) (hgt rows) j
          · have hbq : (((endN rows.length (rowLen rows) (hgt rows) j : Nat) : Int) != ((endN rows.length (rowLen rows) (hgt rows) k : Nat) : Int)) = false := by simp [he]
            have hp : divP rows.length (rowLen rows) (hgt rows) k j = false := by simp [divP, he]
            rw [hp] at hstep
            simp (disch := omega) only [go_sem, Nat.reduceEqDiff, ↓reduceIte, Nat.reduceAdd, a3, a6, a7, a8, g0, hij, cj, ck, hbq]
            exact fun W2 x2 => ⟨by omega, (by first | assumption | (simp only [upd_apply, Nat.reduceEqDiff, ↓reduceIte] <;> first | rfl | assumption) | simp [upd_apply, *]), (by first | assumption | (simp only [upd_apply, Nat.reduceEqDiff, ↓reduceIte] <;> first | rfl | assumption) | simp [upd_apply, *]), by simp [upd_apply, hstep, a5], (by first | assumption | (simp only [upd_apply, Nat.reduceEqDiff, ↓reduceIte] <;> first | rfl | assumption) | simp [upd_apply, *]), (by first | assumption | (simp only [upd_apply, Nat.reduceEqDiff, ↓reduceIte] <;> first | rfl | assumption) | simp [upd_apply, *]), (by first | assumption | (simp only [upd_apply, Nat.reduceEqDiff, ↓reduceIte] <;> first | rfl | assumption) | simp [upd_apply, *]), xm.trans x2⟩
          · have hbq : (((endN rows.length (rowLen rows) (hgt rows) j : Nat) : Int) != ((endN rows.length (rowLen rows) (hgt rows) k : Nat) : Int)) = true := by simp; omega
            have hp : divP rows.length (rowLen rows) (hgt rows) k j = true := by simp [divP, he]; omega
            rw [hp] at hstep
            simp (disch := omega) only [go_sem, Nat.reduceEqDiff, ↓reduceIte, Nat.reduceAdd, a3, a5, a6, a7, a8, g0, hij, cj, ck, hbq]
            exact fun W2 x2 => ⟨by omega, (by first | assumption | (simp only [upd_apply, Nat.reduceEqDiff, ↓reduceIte] <;> first | rfl | assumption) | simp [upd_apply, *]), (by first | assumption | (simp only [upd_apply, Nat.reduceEqDiff, ↓reduceIte] <;> first | rfl | assumption) | simp [upd_apply, *]), by simp [upd_apply, hstep]; omega, (by first | assumption | (simp only [upd_apply, Nat.reduceEqDiff, ↓reduceIte] <;> first | rfl | assumption) | simp [upd_apply, *]), (by first | assumption | (simp only [upd_apply, Nat.reduceEqDiff, ↓reduceIte] <;> first | rfl | assumption) | simp [upd_apply, *]), (by first | assumption | (simp only [upd_apply, Nat.reduceEqDiff, ↓reduceIte] <;> first | rfl | assumption) | simp [upd_apply, *]), xm.trans x2⟩
        · have hp : divP rows.length (rowLen rows) (hgt rows) k j = false := by simp [divP]; omega
          rw [hp] at hstep
          simp (disch := omega) only [go_sem, Nat.reduceEqDiff, ↓reduceIte, Nat.reduceAdd, a6, a7, a8, g0, hij]
          exact fun W2 x2 => ⟨by omega, (by first | assumption | (simp only [upd_apply, Nat.reduceEqDiff, ↓reduceIte] <;> first | rfl | assumption) | simp [upd_apply, *]), (by first | assumption | (simp only [upd_apply, Nat.reduceEqDiff, ↓reduceIte] <;> first | rfl | assumption) | simp [upd_apply, *]), by simp [upd_apply, hstep, a5], (by first | assumption | (simp only [upd_apply, Nat.reduceEqDiff, ↓reduceIte] <;> first | rfl | assumption) | simp [upd_apply, *]), (by first | assumption | (simp only [upd_apply, Nat.reduceEqDiff, ↓reduceIte] <;> first | rfl | assumption) | simp [upd_apply, *]), (by first | assumption | (simp only [upd_apply, Nat.reduceEqDiff, ↓reduceIte] <;> first | rfl | assumption) | simp [upd_apply, *]), xm.trans x2⟩
      · obtain rfl : m = (nearN rows.length (rowLen rows) k).length := by omega
        simp (disch := omega) only [go_sem, Nat.reduceEqDiff, ↓reduceIte, Nat.reduceAdd, a6, a7, a8, hlm]
        refine ⟨hkn, (by first | assumption | (simp only [upd_apply, Nat.reduceEqDiff, ↓reduceIte] <;> first | rfl | assumption) | simp [upd_apply, *]), (by first | assumption | (simp only [upd_apply, Nat.reduceEqDiff, ↓reduceIte] <;> first | rfl | assumption) | simp [upd_apply, *]), by simp [upd_apply, a5, divTo], (by first | assumption | (simp only [upd_apply, Nat.reduceEqDiff, ↓reduceIte] <;> first | rfl | assumption) | simp [upd_apply, *]), (xw.trans x6).trans xm⟩
    · obtain rfl : k = rows.length * rowLen rows := by omega
      simp (disch := omega) only [go_sem, Nat.reduceEqDiff, ↓reduceIte, Nat.reduceAdd, a3, a5, a6, hlt, Try.results33]
      exact ⟨by simp [divOf, hv], x1.trans xw⟩

end Go.Proofs.Ytikmkdoifbjfjaa
