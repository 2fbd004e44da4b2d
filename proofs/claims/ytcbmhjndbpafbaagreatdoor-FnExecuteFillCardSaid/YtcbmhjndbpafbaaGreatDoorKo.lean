/- Ko: the texts Uv as one. -/
import Derived.Test.YtcbmhjndbpafbaaGreatDoorK9
import Derived.Test.YtcbmhjndbpafbaaGreatDoorK4
import Derived.Test.YtcbmhjndbpafbaaGreatDoorKm
set_option linter.all false
set_option maxRecDepth 20000
/- A line that fills, a line that shows; the law FnExecuteFill. -/
namespace Go.Proofs.YtcbmhjndbpafbaaGreatDoor
open Go.RowKit Go.SW
theorem drawWaterFill_c (a : Option Addr) (l : List Int) (c : Nat) (w : World) (hl : l.length ≤ c) (hc : c ≤ maxLen) (hs : ByteS w a l) :
    Ret Tryz.prog 14 #[.slice a l.length c] w fun v w' => DrawnG w w' v := by
  refine enter1 Tryz.func14 rfl (by kernel_rfl) (of_decide_eq_true (by kernel_rfl)) fun f a0 => ?_
  simp (disch := omega) only [go_sem, Nat.reduceEqDiff, ↓reduceIte, Nat.reduceAdd, a0]
  refine callK_of (by kernel_rfl) (l6Open_c _ _ _ _ hl hc hs) ?_
  rintro _ w1 ⟨rb, rfl, x1, hrb, r1, e1⟩
  simp (disch := omega) only [go_sem, Nat.reduceEqDiff, ↓reduceIte, Nat.reduceAdd]
  refine callK_of (by kernel_rfl) (l91Grid_c rb _ 0 _ r1 (by omega) (by omega)) ?_
  rintro _ w2 ⟨a, c, rows, A, Cp, R, rfl, hR1, hR5, d, g, r2⟩
  simp (disch := omega) only [go_sem, Nat.reduceEqDiff, ↓reduceIte, Nat.reduceAdd, Tryz.results14]
  exact ⟨a, c, rows, A, Cp, rfl, d.at (by omega), g.ext x1 fun b hb => by simp at hb; omega⟩


theorem deskFill_c (d nb : Nat) (rows : List (List Int)) (X : Nat → Prop) (w : World) (hd : Desk w 51 d rows X) (hX : ∀ x, X x → x < w.heap.size) (hgv : gvalid rows = true) :
    Ret Tryz.prog 123 #[.pointer (some ⟨d, 0, none⟩), .slice (some ⟨nb, 0, none⟩) 0 0] w fun v w' => v = .tuple #[.string (bs [111, 107, 10]), .bool true] ∧ Grow (some d) w w' ∧ Desk w' 51 d (fillOf rows) X := by
  obtain ⟨a, A, Cp, gc, k, rr, h1, h2⟩ := hd.ex
  have vf := fillOf_valid ((gvalid_iff rows).1 hgv)
  have hfl : (fillOf rows).length = rows.length := by simp [fillOf, mkRows_len]
  have ld := k.lt
  refine enter2 Tryz.func123 rfl (by kernel_rfl) (of_decide_eq_true (by kernel_rfl)) fun f a0 a1 => ?_
  simp (disch := omega) only [go_sem, Nat.reduceEqDiff, ↓reduceIte, Nat.reduceAdd, a0, k.cell]
  refine callK_of (by kernel_rfl) (implWaterFill_c _ _ _ _ _ _ rr) ?_
  rintro _ w2 (⟨-, b, A', rfl, x2, or⟩ | ⟨hv', -⟩)
  rotate_left
  · rw [hgv] at hv'; cases hv'
  simp (disch := omega) only [go_sem, Nat.reduceEqDiff, ↓reduceIte, Nat.reduceAdd]
  refine callK_of (by kernel_rfl) (become_c d _ _ _ _ _ _ (k.ext x2)) ?_
  rintro _ w3 ⟨rfl, g3, k3⟩
  rw [← hfl] at k3
  simp (disch := omega) only [go_sem, Nat.reduceEqDiff, ↓reduceIte, Nat.reduceAdd, Tryz.results123]
  exact ⟨trivial, (x2.grow _).trans g3.grow, desk_new vf or g3 k3 hX ld⟩

theorem deskShow_c (d nb : Nat) (rows : List (List Int)) (X : Nat → Prop) (w : World) (hd : Desk w 51 d rows X) (hgv : gvalid rows = true) :
    Ret Tryz.prog 124 #[.pointer (some ⟨d, 0, none⟩), .slice (some ⟨nb, 0, none⟩) 0 0] w fun v w' => v = .tuple #[.string (bs (gtext rows ++ [10])), .bool true] ∧ Ext w w' := by
  obtain ⟨a, A, Cp, gc, k, rr, h1, h2⟩ := hd.ex
  have v := (gvalid_iff rows).1 hgv
  have hR7 := v.r7
  have hC7 := v.c7
  have hgl := v.gt_len
  have e1 : binV Tryz.prog .add 9 (.string (bs (gtext rows))) (.string (bs [10])) = some (.string (bs (gtext rows ++ [10]))) := bin_adds _ _ (by simp; omega)
  refine enter2 Tryz.func124 rfl (by kernel_rfl) (of_decide_eq_true (by kernel_rfl)) fun f a0 a1 => ?_
  simp (disch := omega) only [go_sem, Nat.reduceEqDiff, ↓reduceIte, Nat.reduceAdd, a0, k.cell]
  refine callK_pure (by kernel_rfl) (implGridText_c _ _ _ _ _ _ rr hgv) fun w2 x2 => ?_
  simp (disch := omega) only [go_sem, Nat.reduceEqDiff, ↓reduceIte, Nat.reduceAdd, e1, Tryz.results124]
  exact ⟨trivial, x2⟩

theorem ansFill (rows : List (List Int)) (hgv : gvalid rows = true) : Ans [102, 105, 108, 108] [111, 107, 10] rows (fillOf rows) := by
  have hs : spl 32 [102, 105, 108, 108] = [102, 105, 108, 108] :: ([] : List Nat).map dec := by decide
  refine ans_of fun d X w dk hX => ?_
  refine Ret.mono (obey_c d _ [102, 105, 108, 108] [] 4 123 w (fun v W W' => v = .tuple #[.string (bs [111, 107, 10]), .bool true] ∧ Grow (some d) W W' ∧ Desk W' 51 d (fillOf rows) X) (by simp) (not_grd (by decide)).1 hs (by simp) (by simp) rfl (by kernel_rfl) fun W nb e kn => ?_) fun v w' ⟨W, e, hv, g2, dk2⟩ => ⟨hv, (e.grow _).trans g2, dk2⟩
  refine Ret.mono (deskFill_c d nb rows X W (dk.ext e) (fun x hx => by have := hX x hx; have := e.size; omega) hgv) fun v W' ⟨hv, g2, dk2⟩ => ⟨_, _, hv, hv, g2, dk2⟩

theorem ansShow (rows : List (List Int)) (hgv : gvalid rows = true) : Ans [115, 104, 111, 119] (gtext rows ++ [10]) rows rows := by
  have hs : spl 32 [115, 104, 111, 119] = [115, 104, 111, 119] :: ([] : List Nat).map dec := by decide
  refine ans_of fun d X w dk hX => ?_
  refine Ret.mono (obey_c d _ [115, 104, 111, 119] [] 5 124 w (fun v W W' => v = .tuple #[.string (bs (gtext rows ++ [10])), .bool true] ∧ Ext W W') (by simp) (not_grd (by decide)).1 hs (by simp) (by simp) rfl (by kernel_rfl) fun W nb e kn => ?_) fun v w' ⟨W, e, hv, e2⟩ => ⟨hv, (e.trans e2).grow _, (dk.ext e).ext e2⟩
  refine Ret.mono (deskShow_c d nb rows X W (dk.ext e) hgv) fun v W' ⟨hv, e2⟩ => ⟨_, _, hv, hv, e2⟩

theorem endT_len' {R C : Nat} (hR : R < 100) (hC : C < 100) : (endT R C).length ≤ 100 := by
  have e1 := dec_len2 hR
  have e2 := dec_len2 hC
  have e3 := dec_len2 (n := 0) (by omega)
  unfold endT
  generalize dec 0 = z at e3 ⊢
  simp; omega

set_option maxHeartbeats 1000000 in
theorem fnExecuteFill_c (a : Option Addr) (l : List Int) (c : Nat) (w : World) (hl : l.length ≤ c) (hc : c ≤ maxLen) (hs : ByteS w a l) :
    Ret Tryz.prog 6 #[.slice a l.length c] w fun v w' => v = .bool true ∧ Ext w w' := by
  have hmax := maxLen_le (Nat.le_trans hl hc)
  refine enter1 Tryz.func6 rfl (by kernel_rfl) (of_decide_eq_true (by kernel_rfl)) fun f a0 => ?_
  by_cases hbig : (1048576 : Int) < l.length
  · simp (disch := omega) only [go_sem, Nat.reduceEqDiff, ↓reduceIte, Nat.reduceAdd, a0, hbig, Tryz.results6]
    exact ⟨trivial, Ext.refl _⟩
  simp (disch := omega) only [go_sem, Nat.reduceEqDiff, ↓reduceIte, Nat.reduceAdd, a0, hbig]
  refine callK_of (by kernel_rfl) (drawWaterFill_c _ _ _ _ hl hc hs) ?_
  rintro _ w1 ⟨ga, gc, rows, A, Cp, rfl, hr, x1⟩
  simp (disch := omega) only [go_sem, Nat.reduceEqDiff, ↓reduceIte, Nat.reduceAdd]
  refine callK_of (by kernel_rfl) (implWaterFill2_c _ _ _ _ _ _ hr) ?_
  rintro _ w2 ⟨ia, ic, Ai, Ci, rfl, ri, x2⟩
  simp (disch := omega) only [go_sem, Nat.reduceEqDiff, ↓reduceIte, Nat.reduceAdd]
  refine callK_of (by kernel_rfl) (specWaterFill_c _ _ _ _ _ _ (hr.ext x2)) ?_
  rintro _ w3 ⟨sa, sc, As, Cs, rfl, rs, x3⟩
  have x13 := (x1.trans x2).trans x3
  have r3 := (hr.ext x2).ext x3
  have i3 := ri.ext x3
  simp (disch := omega) only [go_sem, Nat.reduceEqDiff, ↓reduceIte, Nat.reduceAdd, bne_self_eq_false, beq_self_eq_true, Bool.not_true, Bool.not_false]
  refine callK_pure (by kernel_rfl) (sameGrid_c ia sa _ _ _ _ _ ic sc _ i3 rs) fun w4 x4 => ?_
  cases hgv : gvalid rows with
  | false =>
    simp only [hgv, Bool.false_eq_true, if_false] at i3 rs ⊢
    simp (disch := omega) only [go_sem, Nat.reduceEqDiff, ↓reduceIte, Nat.reduceAdd, Bool.not_true, Bool.not_false, beq_self_eq_true]
    refine callK_pure (by kernel_rfl) (sameGrid_c ia sa [] _ _ _ _ ic sc _ (i3.ext x4) (rs.ext x4)) fun w5 x5 => ?_
    simp (disch := omega) only [go_sem, Nat.reduceEqDiff, ↓reduceIte, Nat.reduceAdd, Tryz.results6]
    exact ⟨trivial, (x13.trans x4).trans x5⟩
  | true =>
  simp only [hgv, if_true] at i3 rs ⊢
  have v := (gvalid_iff rows).1 hgv
  have vf := fillOf_valid v
  have hgf : gvalid (fillOf rows) = true := (gvalid_iff _).2 vf
  have hR7 := v.r7
  have hC7 := v.c7
  have hgl := v.gt_len
  have hfR : (fillOf rows).length = rows.length := by simp [fillOf, mkRows_len]
  have hfC : rowLen (fillOf rows) = rowLen rows := mkRows_rowLen v.r1
  have hgl2 := vf.gt_len
  have hends := endT_len' (R := rows.length) (C := rowLen rows) (by omega) (by omega)
  simp (disch := omega) only [go_sem, Nat.reduceEqDiff, ↓reduceIte, Nat.reduceAdd, Bool.not_true, Bool.not_false]
  refine callK_pure (by kernel_rfl) (implGridText_c _ _ _ _ _ _ (r3.ext x4) hgv) fun w5 x5 => ?_
  have e1 : binV Tryz.prog .add 9 (.string (bs [103, 114, 105, 100, 32])) (.string (bs (gtext rows))) = some (.string (bs ([103, 114, 105, 100, 32] ++ gtext rows))) := bin_adds _ _ (by simp; omega)
  have e2 : binV Tryz.prog .add 9 (.string (bs ([103, 114, 105, 100, 32] ++ gtext rows))) (.string (bs [10, 102, 105, 108, 108, 10, 115, 104, 111, 119, 10])) = some (.string (bs ([103, 114, 105, 100, 32] ++ gtext rows ++ [10, 102, 105, 108, 108, 10, 115, 104, 111, 119, 10]))) := bin_adds _ _ (by simp; omega)
  have eT : [103, 114, 105, 100, 32] ++ gtext rows ++ [10, 102, 105, 108, 108, 10, 115, 104, 111, 119, 10] = lns [grd ++ gtext rows, [102, 105, 108, 108], [115, 104, 111, 119]] := by simp [lns, grd]
  have hS : Scr [grd ++ gtext rows, [102, 105, 108, 108], [115, 104, 111, 119]] ([111, 107, 10] ++ ([111, 107, 10] ++ (gtext (fillOf rows) ++ [10]))) [[0]] (fillOf rows) :=
    ⟨_, _, rows, rfl, ansGrid [[0]] rows hgv, _, _, fillOf rows, rfl, ansFill rows hgv, _, [], fillOf rows, by rw [List.append_nil], ansShow _ hgf, rfl, rfl⟩
  have HNL : ∀ l ∈ [grd ++ gtext rows, [102, 105, 108, 108], [115, 104, 111, 119]], (10 : UInt8) ∉ l := fun l hl hx => by
    simp only [List.mem_cons, List.not_mem_nil, or_false] at hl
    rcases hl with rfl | rfl | rfl
    · rcases List.mem_append.1 hx with h | h
      · revert h; decide
      · exact gtext_noline v.rng h
    · revert hx; decide
    · revert hx; decide
  simp (disch := omega) only [go_sem, Nat.reduceEqDiff, ↓reduceIte, Nat.reduceAdd, e1, e2]
  rw [eT]
  refine callK_pure (by kernel_rfl) (execute_c _ _ (fillOf rows) _ hS HNL (by rw [← eT]; simp; omega) (by simp; omega) vf) fun w6 x6 => ?_
  simp (disch := omega) only [go_sem, Nat.reduceEqDiff, ↓reduceIte, Nat.reduceAdd]
  refine callK_pure (by kernel_rfl) (implGridText_c _ _ _ _ _ _ (((i3.ext x4).ext x5).ext x6) hgf) fun w7 x7 => ?_
  have f1 : binV Tryz.prog .add 9 (.string (bs [111, 107, 10, 111, 107, 10])) (.string (bs (gtext (fillOf rows)))) = some (.string (bs ([111, 107, 10, 111, 107, 10] ++ gtext (fillOf rows)))) := bin_adds _ _ (by simp; omega)
  have f2 : binV Tryz.prog .add 9 (.string (bs ([111, 107, 10, 111, 107, 10] ++ gtext (fillOf rows)))) (.string (bs [10])) = some (.string (bs ([111, 107, 10, 111, 107, 10] ++ gtext (fillOf rows) ++ [10]))) := bin_adds _ _ (by simp; omega)
  simp (disch := omega) only [go_sem, Nat.reduceEqDiff, ↓reduceIte, Nat.reduceAdd, f1, f2]
  refine callK_pure (by kernel_rfl) (endLine_c _ _ _ _ _ _ ((((r3.ext x4).ext x5).ext x6).ext x7) v) fun w8 x8 => ?_
  have f3 : binV Tryz.prog .add 9 (.string (bs ([111, 107, 10, 111, 107, 10] ++ gtext (fillOf rows) ++ [10]))) (.string (bs (endT rows.length (rowLen rows)))) = some (.string (bs ([111, 107, 10, 111, 107, 10] ++ gtext (fillOf rows) ++ [10] ++ endT rows.length (rowLen rows)))) := bin_adds _ _ (by simp; omega)
  have f4 : ([111, 107, 10] ++ ([111, 107, 10] ++ (gtext (fillOf rows) ++ [10])) ++ endT (fillOf rows).length (rowLen (fillOf rows)) == [111, 107, 10, 111, 107, 10] ++ gtext (fillOf rows) ++ [10] ++ endT rows.length (rowLen rows)) = true := by rw [beq_iff_eq, hfR, hfC]; simp
  simp (disch := omega) only [go_sem, Nat.reduceEqDiff, ↓reduceIte, Nat.reduceAdd, f3, f4, Tryz.results6]
  exact ⟨trivial, ((((x13.trans x4).trans x5).trans x6).trans x7).trans x8⟩
end Go.Proofs.YtcbmhjndbpafbaaGreatDoor

