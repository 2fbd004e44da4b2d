/- Ke: the texts Uo as one. -/
import Derived.Test.YtgdopjkanibfeaaGreatDoorK9
import Derived.Test.YtgdopjkanibfeaaGreatDoorKc
import Derived.Test.YtgdopjkanibfeaaGreatDoorKb
import Derived.Test.YtgdopjkanibfeaaGreatDoorKd
set_option linter.all false
set_option maxRecDepth 20000
/- A line that asks for land; the law FnExecuteLand. -/
namespace Go.Proofs.YtgdopjkanibfeaaGreatDoor
open Go.RowKit Go.SW

theorem blk_ints {w : World} {b : Nat} {L : List Int} {T : TypeId} (k : Blk w b (vi L).toArray T) : IntS w (some ⟨b, 0, none⟩) L := by
  refine ⟨fun _ => ⟨b, 0, rfl⟩, fun b' o' h i hi => ?_⟩
  simp only [Option.some.injEq, Addr.mk.injEq] at h
  obtain ⟨rfl, rfl, _⟩ := h
  rw [Nat.zero_add]
  exact vi_cell k hi

/-- What is told of a level. -/
def land3 (rows : List (List Int)) (lv : Int) : List Int := [landOf rows lv, regionsOf rows lv, lakesOf rows lv]
theorem land3_rng {rows : List (List Int)} {lv : Int} (h : lvok rows lv = true) : ∀ x ∈ land3 rows lv, 0 ≤ x ∧ x ≤ 99 := by
  obtain ⟨hv, -⟩ := lv_parts h
  have hn := ((gvalid_iff rows).1 hv).gd.le
  have h1 := cntp_le (fun i => lv ≤ hgt rows i) (rows.length * rowLen rows)
  have h2 : compOf rows lv ≤ rows.length * rowLen rows := cntp_le _ _
  have h3 : lakeN rows.length (rowLen rows) (watB (hgt rows) lv) ≤ rows.length * rowLen rows := cntp_le _ _
  intro x hx
  simp only [land3, landOf, regionsOf, lakesOf, if_pos h, List.mem_cons, List.not_mem_nil, or_false] at hx
  rcases hx with rfl | rfl | rfl <;> omega

theorem deskLand_c (d nb lv : Nat) (rows : List (List Int)) (X : Nat → Prop) (w : World) (hd : Desk w 61 d rows X) (kn : Blk w nb (vi [(lv : Int)]).toArray 3) (hok : lvok rows lv = true) :
    Ret Tryz.prog 117 #[.pointer (some ⟨d, 0, none⟩), .slice (some ⟨nb, 0, none⟩) 1 1] w fun v w' => v = .tuple #[.string (bs (sp (land3 rows lv) ++ [10])), .bool true] ∧ Ext w w' := by
  obtain ⟨a, A, Cp, gc, k, rr, h1, h2⟩ := hd.ex
  have n0 : ∀ {W : World}, Ext w W → W.cell? ⟨nb, 0, none⟩ = some (.int .i64 lv) := fun x => vi_cell (kn.ext x) (i := 0) (by simp)
  have hrg := land3_rng hok
  have hl0 : landOf rows lv ≠ -1 := by
    have := hrg (landOf rows lv) (by simp [land3])
    omega
  have hne : (landOf rows lv == -1) = false := beq_eq_false_iff_ne.2 hl0
  refine enter2 Tryz.func117 rfl (by kernel_rfl) (of_decide_eq_true (by kernel_rfl)) fun f a0 a1 => ?_
  have ex : Ext w w := Ext.refl _
  simp (disch := omega) only [go_sem, Nat.reduceEqDiff, ↓reduceIte, Nat.reduceAdd]
  refine QR_sch none (.st 0 (.st 1 (.st 2 (.st 3 (.st 4 (.st 5 (.st 6 (.ef 7 (.st 8 (.done)))))))))) (by kernel_rfl) (by kernel_rfl) fun w0 x0 => ?_
  have X := ex.trans x0
  have k := k.ext x0
  simp (disch := omega) only [go_sem, Nat.reduceEqDiff, ↓reduceIte, Nat.reduceAdd, a0, a1, k.cell, n0 x0, Int.reduceToNat, ldS_none]
  refine callK_of (by kernel_rfl) (implLevelLand_c _ _ _ _ _ _ _ (rr.ext X)) ?_
  rintro _ w1 ⟨rfl, y1⟩
  refine nxE_of (y1.grow _) ?_
  have X := X.trans y1
  have k := k.ext y1
  skip
  simp (disch := omega) only [go_sem, Nat.reduceEqDiff, ↓reduceIte, Nat.reduceAdd, hne]
  have X0 := X
  refine QR_sch none (.st 0 (.st 1 (.st 2 (.st 3 (.st 4 (.st 5 (.st 6 (.st 7 (.st 9 (.st 10 (.st 11 (.st 12 (.st 13 (.st 14 (.st 15 (.ef 8 (.ef 16 (.ef 17 (.ef 18 (.st 19 (.st 20 (.done)))))))))))))))))))))) (by kernel_rfl) (by kernel_rfl) fun w0 x0 => ?_
  have X := X0.trans x0
  have k := k.ext x0
  simp (disch := omega) only [go_sem, Nat.reduceEqDiff, ↓reduceIte, Nat.reduceAdd, a0, a1, k.cell, n0 X, Int.reduceToNat, ldS_none]
  refine callK_of (by kernel_rfl) (implLevelRegions_c _ _ _ _ _ _ _ (rr.ext X)) ?_
  rintro _ w1 ⟨rfl, y1⟩
  refine nxE_of (y1.grow _) ?_
  have X := X.trans y1
  have k := k.ext y1
  simp (disch := omega) only [go_sem, Nat.reduceEqDiff, ↓reduceIte, Nat.reduceAdd, a0, a1, k.cell, n0 X, Int.reduceToNat, ldS_none]
  refine callK_of (by kernel_rfl) (implLevelLakes_c _ _ _ _ _ _ _ (rr.ext X)) ?_
  rintro _ w1 ⟨rfl, y1⟩
  refine nxE_of (y1.grow _) ?_
  have X := X.trans y1
  have k := k.ext y1
  simp (disch := omega) only [go_sem, Nat.reduceEqDiff, ↓reduceIte, Nat.reduceAdd, a0, a1, k.cell, n0 X, Int.reduceToNat, ldS_none]
  refine bslK_n (vi (land3 rows lv)) elt_i (by simp [vi, land3, Value.cells]) rfl (by omega) (by omega) rfl fun w1 bz ez y1 kz _ => ?_
  refine nxE_of (y1.grow _) ?_
  have X := X.trans y1
  have k := k.ext y1
  simp (disch := omega) only [go_sem, Nat.reduceEqDiff, ↓reduceIte, Nat.reduceAdd, a0, a1, k.cell, n0 X, Int.reduceToNat, ldS_none]
  refine callK_of (by kernel_rfl) (implSpaced_c _ (land3 rows lv) 3 _ (blk_ints kz) (by simp [land3]) hrg) ?_
  rintro _ w1 ⟨rfl, y1⟩
  refine nxE_of (y1.grow _) ?_
  have X := X.trans y1
  have k := k.ext y1
  have kz := kz.ext y1
  simp (disch := omega) only [go_sem, Nat.reduceEqDiff, ↓reduceIte, Nat.reduceAdd, Tryz.results117]
  exact ⟨trivial, X⟩

theorem ansLand (rows : List (List Int)) (lv : Nat) (hlv : lv < 100) (hok : lvok rows lv = true) : Ans ([108, 97, 110, 100, 32] ++ dec lv) (sp (land3 rows lv) ++ [10]) rows rows := by
  have hd1 := dec_len2 hlv
  have hs : spl 32 ([108, 97, 110, 100, 32] ++ dec lv) = [108, 97, 110, 100] :: [lv].map dec := by
    have e : ([108, 97, 110, 100, 32] ++ dec lv : List UInt8) = [108, 97, 110, 100] ++ 32 :: dec lv := by simp
    rw [e, spl_app (by decide), spl_none (dec_nospace hlv)]; rfl
  refine ans_of fun d X w dk hX => ?_
  refine Ret.mono (obey_c d _ [108, 97, 110, 100] [lv] 7 117 w (fun v W W' => v = .tuple #[.string (bs (sp (land3 rows lv) ++ [10])), .bool true] ∧ Ext W W') (by simp; omega) (not_grd (by decide)).1 hs (by simp; omega) (by simp) rfl (by kernel_rfl) fun W nb e kn => ?_) fun v w' ⟨W, e, hv, e2⟩ => ⟨hv, (e.trans e2).grow _, (dk.ext e).ext e2⟩
  refine Ret.mono (deskLand_c d nb lv rows X W (dk.ext e) kn hok) fun v W' ⟨hv, e2⟩ => ⟨_, _, hv, hv, e2⟩

theorem endT_len {R C : Nat} (hR : R < 100) (hC : C < 100) : (endT R C).length ≤ 100 := by
  have e1 := dec_len2 hR
  have e2 := dec_len2 hC
  have e3 := dec_len2 (n := 0) (by omega)
  unfold endT
  generalize dec 0 = z at e3 ⊢
  simp; omega

set_option maxHeartbeats 1000000 in
theorem fnExecuteLand_c (a : Option Addr) (l : List Int) (c : Nat) (w : World) (hl : l.length ≤ c) (hc : c ≤ maxLen) (hs : ByteS w a l) :
    Ret Tryz.prog 6 #[.slice a l.length c] w fun v w' => v = .bool true ∧ Ext w w' := by
  have hmax := maxLen_le (Nat.le_trans hl hc)
  refine enter1 Tryz.func6 rfl (by kernel_rfl) (of_decide_eq_true (by kernel_rfl)) fun f a0 => ?_
  by_cases hbig : (1048576 : Int) < l.length
  · simp (disch := omega) only [go_sem, Nat.reduceEqDiff, ↓reduceIte, Nat.reduceAdd, a0, hbig, Tryz.results6]
    exact ⟨trivial, Ext.refl _⟩
  simp (disch := omega) only [go_sem, Nat.reduceEqDiff, ↓reduceIte, Nat.reduceAdd, a0, hbig]
  refine callK_of (by kernel_rfl) (drawLevelLakes_c _ _ _ _ hl hc hs) ?_
  rintro _ w1 ⟨ga, gc, rows, A, Cp, lv, rfl, hv1, hv2, hr, x1⟩
  simp (disch := omega) only [go_sem, Nat.reduceEqDiff, ↓reduceIte, Nat.reduceAdd]
  refine callK_pure (by kernel_rfl) (implLevelLakes_c _ _ _ _ _ lv _ hr) fun w2 x2 => ?_
  simp (disch := omega) only [go_sem, Nat.reduceEqDiff, ↓reduceIte, Nat.reduceAdd]
  refine callK_pure (by kernel_rfl) (specLevelLakes_c _ _ _ _ _ lv _ (hr.ext x2)) fun w3 x3 => ?_
  have x13 := (x1.trans x2).trans x3
  have r3 := (hr.ext x2).ext x3
  cases hok : lvok rows lv with
  | false =>
    have hneg : lakesOf rows lv < 0 := by simp [lakesOf, hok]
    simp (disch := omega) only [go_sem, Nat.reduceEqDiff, ↓reduceIte, Nat.reduceAdd, bne_self_eq_false, hneg, beq_self_eq_true, Tryz.results6]
    exact ⟨trivial, x13⟩
  | true =>
    obtain ⟨hgv, h0, h99⟩ := lv_parts hok
    have v := (gvalid_iff rows).1 hgv
    have hR7 := v.r7
    have hC7 := v.c7
    have hgl := v.gt_len
    obtain ⟨m, rfl⟩ := Int.eq_ofNat_of_zero_le h0
    have hrg := land3_rng hok
    have hnn : ¬ lakesOf rows m < 0 := by have := hrg (lakesOf rows m) (by simp [land3]); omega
    have d1 := dec_len2 (n := m) (by omega)
    have hsp := sp_len (L := land3 rows m) (by simp [land3]) hrg
    have hans := ansLand rows m (by omega) hok
    have hends := endT_len (R := rows.length) (C := rowLen rows) (by omega) (by omega)
    simp (disch := omega) only [go_sem, Nat.reduceEqDiff, ↓reduceIte, Nat.reduceAdd, bne_self_eq_false, hnn]
    refine callK_pure (by kernel_rfl) (implLevelLand_c _ _ _ _ _ _ _ r3) fun w4 x4 => ?_
    simp (disch := omega) only [go_sem, Nat.reduceEqDiff, ↓reduceIte, Nat.reduceAdd]
    refine callK_pure (by kernel_rfl) (implLevelRegions_c _ _ _ _ _ _ _ (r3.ext x4)) fun w5 x5 => ?_
    simp (disch := omega) only [go_sem, Nat.reduceEqDiff, ↓reduceIte, Nat.reduceAdd]
    refine bslK_n (vi (land3 rows m)) elt_i (by simp [vi, land3, Value.cells]) rfl (by omega) (by omega) rfl fun w6 bz ez x6 kz _ => ?_
    have x46 := (x4.trans x5).trans x6
    simp (disch := omega) only [go_sem, Nat.reduceEqDiff, ↓reduceIte, Nat.reduceAdd]
    refine callK_pure (by kernel_rfl) (implGridText_c _ _ _ _ _ _ (r3.ext x46) hgv) fun w7 x7 => ?_
    have e1 : binV Tryz.prog .add 9 (.string (bs [103, 114, 105, 100, 32])) (.string (bs (gtext rows))) = some (.string (bs ([103, 114, 105, 100, 32] ++ gtext rows))) := bin_adds _ _ (by simp; omega)
    have e2 : binV Tryz.prog .add 9 (.string (bs ([103, 114, 105, 100, 32] ++ gtext rows))) (.string (bs [10, 108, 97, 110, 100, 32])) = some (.string (bs ([103, 114, 105, 100, 32] ++ gtext rows ++ [10, 108, 97, 110, 100, 32]))) := bin_adds _ _ (by simp; omega)
    simp (disch := omega) only [go_sem, Nat.reduceEqDiff, ↓reduceIte, Nat.reduceAdd, e1, e2]
    refine callK_pure (by kernel_rfl) (digits_c m (by omega) _) fun w8 x8 => ?_
    have e3 : binV Tryz.prog .add 9 (.string (bs ([103, 114, 105, 100, 32] ++ gtext rows ++ [10, 108, 97, 110, 100, 32]))) (.string (bs (dec m))) = some (.string (bs ([103, 114, 105, 100, 32] ++ gtext rows ++ [10, 108, 97, 110, 100, 32] ++ dec m))) := bin_adds _ _ (by simp; omega)
    have e4 : binV Tryz.prog .add 9 (.string (bs ([103, 114, 105, 100, 32] ++ gtext rows ++ [10, 108, 97, 110, 100, 32] ++ dec m))) (.string (bs [10])) = some (.string (bs ([103, 114, 105, 100, 32] ++ gtext rows ++ [10, 108, 97, 110, 100, 32] ++ dec m ++ [10]))) := bin_adds _ _ (by simp; omega)
    have eT : [103, 114, 105, 100, 32] ++ gtext rows ++ [10, 108, 97, 110, 100, 32] ++ dec m ++ [10] = lns [grd ++ gtext rows, [108, 97, 110, 100, 32] ++ dec m] := by simp [lns, grd]
    have hS : Scr [grd ++ gtext rows, [108, 97, 110, 100, 32] ++ dec m] ([111, 107, 10] ++ (sp (land3 rows m) ++ [10])) [[0]] rows := ⟨_, _, rows, rfl, ansGrid [[0]] rows hgv, _, [], rows, by rw [List.append_nil], hans, rfl, rfl⟩
    have HNL : ∀ l ∈ [grd ++ gtext rows, [108, 97, 110, 100, 32] ++ dec m], (10 : UInt8) ∉ l := fun l hl hx => by
      simp only [List.mem_cons, List.not_mem_nil, or_false] at hl
      rcases hl with rfl | rfl
      · rcases List.mem_append.1 hx with h | h
        · revert h; decide
        · exact gtext_noline v.rng h
      · simp only [List.mem_append] at hx
        rcases hx with h | h
        · revert h; decide
        · exact dec_noline (by omega) h
    simp (disch := omega) only [go_sem, Nat.reduceEqDiff, ↓reduceIte, Nat.reduceAdd, e3, e4]
    rw [eT]
    refine callK_pure (by kernel_rfl) (execute_c _ _ rows _ hS HNL (by rw [← eT]; simp; omega) (by simp; omega) v) fun w9 x9 => ?_
    have x79 := (x7.trans x8).trans x9
    simp (disch := omega) only [go_sem, Nat.reduceEqDiff, ↓reduceIte, Nat.reduceAdd]
    refine callK_pure (by kernel_rfl) (lawSpaced_c _ (land3 rows m) 3 _ (blk_ints (kz.ext x79)) (by simp [land3]) hrg) fun w10 x10 => ?_
    have f1 : binV Tryz.prog .add 9 (.string (bs [111, 107, 10])) (.string (bs (sp (land3 rows m)))) = some (.string (bs ([111, 107, 10] ++ sp (land3 rows m)))) := bin_adds _ _ (by simp; omega)
    have f2 : binV Tryz.prog .add 9 (.string (bs ([111, 107, 10] ++ sp (land3 rows m)))) (.string (bs [10])) = some (.string (bs ([111, 107, 10] ++ sp (land3 rows m) ++ [10]))) := bin_adds _ _ (by simp; omega)
    simp (disch := omega) only [go_sem, Nat.reduceEqDiff, ↓reduceIte, Nat.reduceAdd, f1, f2]
    refine callK_pure (by kernel_rfl) (endLine_c _ _ _ _ _ _ (((r3.ext x46).ext x79).ext x10) v) fun w11 x11 => ?_
    have f3 : binV Tryz.prog .add 9 (.string (bs ([111, 107, 10] ++ sp (land3 rows m) ++ [10]))) (.string (bs (endT rows.length (rowLen rows)))) = some (.string (bs ([111, 107, 10] ++ sp (land3 rows m) ++ [10] ++ endT rows.length (rowLen rows)))) := bin_adds _ _ (by simp; omega)
    have f4 : ([111, 107, 10] ++ (sp (land3 rows m) ++ [10]) ++ endT rows.length (rowLen rows) == [111, 107, 10] ++ sp (land3 rows m) ++ [10] ++ endT rows.length (rowLen rows)) = true := by rw [beq_iff_eq]; simp only [List.append_assoc]
    simp (disch := omega) only [go_sem, Nat.reduceEqDiff, ↓reduceIte, Nat.reduceAdd, f3, f4, Tryz.results6]
    exact ⟨trivial, (((x13.trans x46).trans x79).trans x10).trans x11⟩
end Go.Proofs.YtgdopjkanibfeaaGreatDoor

