/- The law FnExecuteRun. -/
import Derived.Test.YtgdopjkanibfeaaGreatDoorUm
import Derived.Test.YtgdopjkanibfeaaGreatDoorHl
import Derived.Test.YtgdopjkanibfeaaGreatDoorD4
set_option linter.all false
set_option maxRecDepth 20000
namespace Go.Proofs.YtgdopjkanibfeaaGreatDoor
open Go.RowKit Go.SW

theorem rows_i64len {rows : List (List Int)} (v : Valid rows) : rows.length ≤ maxLen := by have := v.r7; simp [maxLen]; omega

set_option maxHeartbeats 1000000 in
theorem fnExecuteRun_c (a : Option Addr) (l : List Int) (c : Nat) (w : World) (hl : l.length ≤ c) (hc : c ≤ maxLen) (hs : ByteS w a l) :
    Ret Tryz.prog 4 #[.slice a l.length c] w fun v w' => v = .bool true ∧ Ext w w' := by
  have hmax := maxLen_le (Nat.le_trans hl hc)
  refine enter1 Tryz.func4 rfl (by kernel_rfl) (of_decide_eq_true (by kernel_rfl)) fun f a0 => ?_
  by_cases hbig : (1048576 : Int) < l.length
  · simp (disch := omega) only [go_sem, Nat.reduceEqDiff, ↓reduceIte, Nat.reduceAdd, a0, hbig, Tryz.results4]
    exact ⟨trivial, Ext.refl _⟩
  simp (disch := omega) only [go_sem, Nat.reduceEqDiff, ↓reduceIte, Nat.reduceAdd, a0, hbig]
  refine callK_of (by kernel_rfl) (drawWaterRun_c _ _ _ _ hl hc hs) ?_
  rintro _ w1 ⟨ga, gc, rows, A, Cp, r, cc, rfl, hr, x1⟩
  simp (disch := omega) only [go_sem, Nat.reduceEqDiff, ↓reduceIte, Nat.reduceAdd]
  refine callK_of (by kernel_rfl) (waterRun_c _ _ _ _ _ r cc _ hr) ?_
  rintro _ w2 ⟨oa, oc, rfl, oo, hoa, x2⟩
  simp (disch := omega) only [go_sem, Nat.reduceEqDiff, ↓reduceIte, Nat.reduceAdd]
  refine callK_of (by kernel_rfl) (specWaterRun_c _ _ _ _ _ r cc _ (hr.ext x2)) ?_
  rintro _ w3 ⟨sa, sc, rfl, so, hsa, x3⟩
  have hk : (cellok rows r cc != cellok rows r cc) = false := bne_self_eq_false _
  have hk2 : (!(cellok rows r cc == cellok rows r cc)) = false := by simp
  have hd : decide (ni (runOf rows r cc) = ni (runOf rows r cc)) = true := decide_eq_true rfl
  have x13 := (x1.trans x2).trans x3
  have r3 := (hr.ext x2).ext x3
  have o3 := oo.ext x3
  have hlen := runOf_short rows r cc
  have hmx : (ni (runOf rows r cc)).length ≤ maxLen := by simp [maxLen]; omega
  cases hok : cellok rows r cc with
  | false =>
    rw [hok] at hk hk2
    simp (disch := omega) only [go_sem, Nat.reduceEqDiff, ↓reduceIte, Nat.reduceAdd, hk, hk2]
    refine callK_pure (by kernel_rfl) (sameInts_c oa sa _ _ oc sc _ o3.ints so.ints hmx) fun w4 x4 => ?_
    simp (disch := omega) only [go_sem, Nat.reduceEqDiff, ↓reduceIte, Nat.reduceAdd, hd, beq_self_eq_true]
    refine callK_pure (by kernel_rfl) (sameInts_c oa sa _ _ oc sc _ (o3.ext x4).ints (so.ext x4).ints hmx) fun w5 x5 => ?_
    simp (disch := omega) only [go_sem, Nat.reduceEqDiff, ↓reduceIte, Nat.reduceAdd, hd, Tryz.results4]
    exact ⟨trivial, (x13.trans x4).trans x5⟩
  | true =>
    rw [hok] at hk hk2
    have hgv : gvalid rows = true := by simp only [cellok, Bool.and_eq_true] at hok; exact hok.1
    have hrc : 0 ≤ r ∧ r < rows.length ∧ 0 ≤ cc ∧ cc < rowLen rows := by simp only [cellok, Bool.and_eq_true, decide_eq_true_eq] at hok; exact hok.2
    have v := (gvalid_iff rows).1 hgv
    have hR7 := v.r7
    have hC7 := v.c7
    have hgl := v.gt_len
    obtain ⟨m, rfl⟩ := Int.eq_ofNat_of_zero_le hrc.1
    obtain ⟨n, rfl⟩ := Int.eq_ofNat_of_zero_le hrc.2.2.1
    have d1 := dec_len2 (n := m) (by omega)
    have d2 := dec_len2 (n := n) (by omega)
    have g := v.gd
    have hn49 := g.le
    have hi : m * rowLen rows + n < rows.length * rowLen rows := by
      have := Nat.mul_le_mul_right (rowLen rows) (show m + 1 ≤ rows.length by omega)
      rw [Nat.succ_mul] at this
      omega
    have hrun : runOf rows m n = waterN rows.length (rowLen rows) (hgt rows) (m * rowLen rows + n) := by rw [runOf, if_pos hok]; simp
    have hcells : ∀ x ∈ ni (runOf rows m n), 0 ≤ x ∧ x ≤ 99 := fun x hx => by
      rw [hrun] at hx
      obtain ⟨j, hj, rfl⟩ := List.mem_map.1 hx
      have := waterN_lt g _ hi j hj
      omega
    have hl1000 : (ni (runOf rows m n)).length ≤ 1000 := by
      rw [ni_len, hrun]
      have h1 := waterN_len g _ hi
      have h2 := g.hh _ hi
      omega
    have hsp := sp_len hl1000 hcells
    have hans := ansRun rows m n (by omega) (by omega) hok
    have hends : (endT rows.length (rowLen rows)).length ≤ 100 := by
      have e1 := dec_len2 (n := rows.length) (by omega)
      have e2 := dec_len2 (n := rowLen rows) (by omega)
      have e3 := dec_len2 (n := 0) (by omega)
      unfold endT
      generalize dec 0 = z at e3 ⊢
      simp; omega
    simp (disch := omega) only [go_sem, Nat.reduceEqDiff, ↓reduceIte, Nat.reduceAdd, hk, hk2]
    refine callK_pure (by kernel_rfl) (sameInts_c oa sa _ _ oc sc _ o3.ints so.ints hmx) fun w4 x4 => ?_
    simp (disch := omega) only [go_sem, Nat.reduceEqDiff, ↓reduceIte, Nat.reduceAdd, hd]
    refine callK_pure (by kernel_rfl) (implGridText_c _ _ _ _ _ _ (r3.ext x4) hgv) fun w5 x5 => ?_
    have e1 : binV Tryz.prog .add 9 (.string (bs [103, 114, 105, 100, 32])) (.string (bs (gtext rows))) = some (.string (bs ([103, 114, 105, 100, 32] ++ gtext rows))) := bin_adds _ _ (by simp; omega)
    have e2 : binV Tryz.prog .add 9 (.string (bs ([103, 114, 105, 100, 32] ++ gtext rows))) (.string (bs [10, 114, 117, 110, 32])) = some (.string (bs ([103, 114, 105, 100, 32] ++ gtext rows ++ [10, 114, 117, 110, 32]))) := bin_adds _ _ (by simp; omega)
    simp (disch := omega) only [go_sem, Nat.reduceEqDiff, ↓reduceIte, Nat.reduceAdd, e1, e2]
    refine callK_pure (by kernel_rfl) (digits_c m (by omega) _) fun w6 x6 => ?_
    have e3 : binV Tryz.prog .add 9 (.string (bs ([103, 114, 105, 100, 32] ++ gtext rows ++ [10, 114, 117, 110, 32]))) (.string (bs (dec m))) = some (.string (bs ([103, 114, 105, 100, 32] ++ gtext rows ++ [10, 114, 117, 110, 32] ++ dec m))) := bin_adds _ _ (by simp; omega)
    have e4 : binV Tryz.prog .add 9 (.string (bs ([103, 114, 105, 100, 32] ++ gtext rows ++ [10, 114, 117, 110, 32] ++ dec m))) (.string (bs [32])) = some (.string (bs ([103, 114, 105, 100, 32] ++ gtext rows ++ [10, 114, 117, 110, 32] ++ dec m ++ [32]))) := bin_adds _ _ (by simp; omega)
    simp (disch := omega) only [go_sem, Nat.reduceEqDiff, ↓reduceIte, Nat.reduceAdd, e3, e4]
    refine callK_pure (by kernel_rfl) (digits_c n (by omega) _) fun w7 x7 => ?_
    have e5 : binV Tryz.prog .add 9 (.string (bs ([103, 114, 105, 100, 32] ++ gtext rows ++ [10, 114, 117, 110, 32] ++ dec m ++ [32]))) (.string (bs (dec n))) = some (.string (bs ([103, 114, 105, 100, 32] ++ gtext rows ++ [10, 114, 117, 110, 32] ++ dec m ++ [32] ++ dec n))) := bin_adds _ _ (by simp; omega)
    have e6 : binV Tryz.prog .add 9 (.string (bs ([103, 114, 105, 100, 32] ++ gtext rows ++ [10, 114, 117, 110, 32] ++ dec m ++ [32] ++ dec n))) (.string (bs [10])) = some (.string (bs ([103, 114, 105, 100, 32] ++ gtext rows ++ [10, 114, 117, 110, 32] ++ dec m ++ [32] ++ dec n ++ [10]))) := bin_adds _ _ (by simp; omega)
    have eT : [103, 114, 105, 100, 32] ++ gtext rows ++ [10, 114, 117, 110, 32] ++ dec m ++ [32] ++ dec n ++ [10] = lns [grd ++ gtext rows, [114, 117, 110, 32] ++ dec m ++ [32] ++ dec n] := by simp [lns, grd]
    have hS : Scr [grd ++ gtext rows, [114, 117, 110, 32] ++ dec m ++ [32] ++ dec n] ([111, 107, 10] ++ (sp (ni (runOf rows m n)) ++ [10])) [[0]] rows := ⟨_, _, rows, rfl, ansGrid [[0]] rows hgv, _, [], rows, by rw [List.append_nil], hans, rfl, rfl⟩
    have HNL : ∀ l ∈ [grd ++ gtext rows, [114, 117, 110, 32] ++ dec m ++ [32] ++ dec n], (10 : UInt8) ∉ l := fun l hl hx => by
      simp only [List.mem_cons, List.not_mem_nil, or_false] at hl
      rcases hl with rfl | rfl
      · rcases List.mem_append.1 hx with h | h
        · revert h; decide
        · exact gtext_noline v.rng h
      · simp only [List.mem_append] at hx
        rcases hx with ((h | h) | h) | h
        · revert h; decide
        · exact dec_noline (by omega) h
        · revert h; decide
        · exact dec_noline (by omega) h
    simp (disch := omega) only [go_sem, Nat.reduceEqDiff, ↓reduceIte, Nat.reduceAdd, e5, e6]
    rw [eT]
    refine callK_pure (by kernel_rfl) (execute_c _ _ rows _ hS HNL (by rw [← eT]; simp; omega) (by simp; omega) v) fun w8 x8 => ?_
    have x48 := (((x4.trans x5).trans x6).trans x7).trans x8
    simp (disch := omega) only [go_sem, Nat.reduceEqDiff, ↓reduceIte, Nat.reduceAdd]
    refine callK_pure (by kernel_rfl) (lawSpaced_c oa _ oc _ (o3.ext x48).ints hl1000 hcells) fun w9 x9 => ?_
    have f1 : binV Tryz.prog .add 9 (.string (bs [111, 107, 10])) (.string (bs (sp (ni (runOf rows m n))))) = some (.string (bs ([111, 107, 10] ++ sp (ni (runOf rows m n))))) := bin_adds _ _ (by simp; omega)
    have f2 : binV Tryz.prog .add 9 (.string (bs ([111, 107, 10] ++ sp (ni (runOf rows m n))))) (.string (bs [10])) = some (.string (bs ([111, 107, 10] ++ sp (ni (runOf rows m n)) ++ [10]))) := bin_adds _ _ (by simp; omega)
    simp (disch := omega) only [go_sem, Nat.reduceEqDiff, ↓reduceIte, Nat.reduceAdd, f1, f2]
    refine callK_pure (by kernel_rfl) (endLine_c _ _ _ _ _ _ ((r3.ext x48).ext x9) v) fun w10 x10 => ?_
    have f3 : binV Tryz.prog .add 9 (.string (bs ([111, 107, 10] ++ sp (ni (runOf rows m n)) ++ [10]))) (.string (bs (endT rows.length (rowLen rows)))) = some (.string (bs ([111, 107, 10] ++ sp (ni (runOf rows m n)) ++ [10] ++ endT rows.length (rowLen rows)))) := bin_adds _ _ (by simp; omega)
    have f4 : ([111, 107, 10] ++ (sp (ni (runOf rows m n)) ++ [10]) ++ endT rows.length (rowLen rows) == [111, 107, 10] ++ sp (ni (runOf rows m n)) ++ [10] ++ endT rows.length (rowLen rows)) = true := by rw [beq_iff_eq]; simp only [List.append_assoc]
    simp (disch := omega) only [go_sem, Nat.reduceEqDiff, ↓reduceIte, Nat.reduceAdd, f3, f4, Tryz.results4]
    exact ⟨trivial, ((x13.trans x48).trans x9).trans x10⟩
end Go.Proofs.YtgdopjkanibfeaaGreatDoor
