/- Numbers in a line; the last line; the grid of a text. -/
import Derived.Test.YtgdopjkanibfeaaGreatDoorUh
set_option linter.all false
set_option maxRecDepth 20000
namespace Go.SW
open Go Go.RowKit
def endT (R C : Nat) : List UInt8 := [114, 111, 119, 115, 32] ++ dec R ++ [32, 99, 111, 108, 117, 109, 110, 115, 32] ++ dec C ++ [32, 108, 97, 98, 101, 108, 115, 32] ++ dec 0 ++ [10]
end Go.SW
namespace Go.Proofs.YtgdopjkanibfeaaGreatDoor
open Go.RowKit Go.SW

theorem mkRows_self {rows : List (List Int)} (v : Valid rows) : mkRows rows.length (rowLen rows) (hgt rows) = rows := by
  apply List.ext_getElem
  · rw [mkRows_len]
  · intro r h1 h2
    have e := mkRows_get (R := rows.length) (C := rowLen rows) (h := hgt rows) h2
    rw [getD_at _ _ h1] at e
    rw [e]
    have hl := v.len r h2
    rw [getD_at _ _ h2] at hl
    apply List.ext_getElem
    · simp [hl]
    · intro c h3 h4
      have hc : c < rowLen rows := by simpa using h3
      simp only [List.getElem_map, List.getElem_range]
      rw [hgt_rc hc, getD_at _ _ h2, getD_at _ _ h4]

theorem vst_cell {w : World} {b : Nat} {l : List (List UInt8)} {T : TypeId} (k : Blk w b (vst l).toArray T) {i : Nat} (h : i < l.length) : w.cell? ⟨b, i, none⟩ = some (.string (bs (l.getD i []))) := by
  rw [k.cell, List.getElem?_toArray, vst_get l i h]

theorem implSpaced_c (a : Option Addr) (L : List Int) (c : Nat) (w : World) (hi : IntS w a L) (hL : L.length ≤ 1000) (h : ∀ x ∈ L, 0 ≤ x ∧ x ≤ 99) :
    Ret Tryz.prog 137 #[.slice a L.length c] w fun v w' => v = .string (bs (sp L ++ [10])) ∧ Ext w w' := by
  have hsl := sp_len hL h
  refine enter1 Tryz.func137 rfl (by kernel_rfl) (of_decide_eq_true (by kernel_rfl)) fun f a0 => ?_
  simp (disch := omega) only [go_sem, Nat.reduceEqDiff, ↓reduceIte, Nat.reduceAdd, a0]
  refine mksK_of elt_s L.length L.length _ _ _ _ rfl rfl (Nat.le_refl _) (by omega) (by simp [maxLen]; omega) fun w1 b e1 x1 o1 _ => ?_
  simp (disch := omega) only [go_sem, Nat.reduceEqDiff, ↓reduceIte, Nat.reduceAdd, a0]
  refine loopN L.length (fun k f W => f 3 = .slice (some ⟨b, 0, none⟩) L.length L.length ∧ f 9 = .slice a L.length c ∧ f 10 = .int .i64 L.length ∧ f 11 = .int .i64 k ∧ Ext w W ∧ ∃ ys, OwnS W 9 1 (some ⟨b, 0, none⟩) L.length L.length ys ∧ ∀ j, j < k → ys[j]? = some (.string (bs (dec (L.getD j 0).toNat))))
    ⟨(by first | assumption | (simp only [upd_apply, Nat.reduceEqDiff, ↓reduceIte] <;> first | rfl | assumption) | simp [upd_apply, *]), (by first | assumption | (simp only [upd_apply, Nat.reduceEqDiff, ↓reduceIte] <;> first | rfl | assumption) | simp [upd_apply, *]), (by first | assumption | (simp only [upd_apply, Nat.reduceEqDiff, ↓reduceIte] <;> first | rfl | assumption) | simp [upd_apply, *]), (by first | assumption | (simp only [upd_apply, Nat.reduceEqDiff, ↓reduceIte] <;> first | rfl | assumption) | simp [upd_apply, *]), x1, _, o1, fun j hj => by omega⟩ fun k f W hk ⟨a3, a9, a10, a11, xw, ys, oy, hy⟩ => ?_
  by_cases hlt : (k : Int) < (L.length : Int)
  · have hkL : k < L.length := by omega
    obtain ⟨b1, o1', rfl⟩ := hi.head (by intro e; rw [e] at hkL; simp at hkL)
    have hx := h _ (getD_mem (d := 0) hkL)
    have g1 := (hi.ext xw).cell b1 o1' rfl k hkL
    have en : L.getD k 0 = (((L.getD k 0).toNat : Nat) : Int) := by omega
    rw [en] at g1
    simp (disch := omega) only [go_sem, Nat.reduceEqDiff, ↓reduceIte, Nat.reduceAdd, a3, a9, a10, a11, hlt, g1]
    refine callK_pure (by kernel_rfl) (itoa_c (L.getD k 0).toNat (by omega) _) fun w2 x2 => ?_
    simp (disch := omega) only [go_sem, Nat.reduceEqDiff, ↓reduceIte, Nat.reduceAdd]
    refine stK_own siz_str (by rfl) (by rfl) (oy.ext x2) (by omega) fun w3 o3 g3 => ?_
    simp (disch := omega) only [go_sem, Nat.reduceEqDiff, ↓reduceIte, Nat.reduceAdd, a11]
    exact ⟨by omega, (by first | assumption | (simp only [upd_apply, Nat.reduceEqDiff, ↓reduceIte] <;> first | rfl | assumption) | simp [upd_apply, *]), (by first | assumption | (simp only [upd_apply, Nat.reduceEqDiff, ↓reduceIte] <;> first | rfl | assumption) | simp [upd_apply, *]), (by first | assumption | (simp only [upd_apply, Nat.reduceEqDiff, ↓reduceIte] <;> first | rfl | assumption) | simp [upd_apply, *]), (by first | assumption | (simp only [upd_apply, Nat.reduceEqDiff, ↓reduceIte] <;> first | rfl | assumption) | simp [upd_apply, *]), g3.ext (xw.trans x2) (by omega), _, o3, set_get (fun j => .string (bs (dec (L.getD j 0).toNat))) (by rw [oy.1]; omega) rfl hy⟩
  · obtain rfl : k = L.length := by omega
    obtain ⟨cs, kb, hcs, hcl⟩ := oy.toBlk
    have ev : ys = vst (L.map fun x => dec x.toNat) := by
      apply List.ext_getElem?
      intro j
      by_cases hj : j < L.length
      · rw [hy j hj, vst_get _ _ (by simpa using hj)]
        simp [hj]
      · rw [List.getElem?_eq_none (by rw [oy.1]; omega), List.getElem?_eq_none (by rw [vst_len, List.length_map]; omega)]
    have kb' : Blk W b (vst (L.map fun x => dec x.toNat)).toArray 9 := by rw [← ev, ← hcl]; exact kb
    have ej : jn 32 (L.map fun x => dec x.toNat) = sp L := rfl
    have hlens : ∀ l ∈ L.map (fun x => dec x.toNat), l.length ≤ 1000000 := fun l hl => by
      obtain ⟨x, hx, rfl⟩ := List.mem_map.1 hl
      have := (dec_len2 (n := x.toNat) (by have := h x hx; omega)).2
      omega
    have ea : binV Tryz.prog .add 9 (.string (bs (sp L))) (.string (bs [10])) = some (.string (bs (sp L ++ [10]))) := bin_adds1 _ _ (by omega)
    simp (disch := omega) only [go_sem, Nat.reduceEqDiff, ↓reduceIte, Nat.reduceAdd, a3, a10, a11, hlt]
    refine callK_pure (by kernel_rfl) (join_c b L.length L.length _ 32 _ kb' (by simp) (Nat.le_refl _) (by simp; omega) hlens) fun w2 x2 => ?_
    simp (disch := omega) only [go_sem, Nat.reduceEqDiff, ↓reduceIte, Nat.reduceAdd, ej, ea, Tryz.results137]
    exact ⟨trivial, xw.trans x2⟩

theorem endLine_c (a : Option Addr) (rows : List (List Int)) (A : Nat → Option Addr) (Cp : Nat → Nat) (gc : Nat) (w : World) (hr : RowsAt w a rows A Cp) (v : Valid rows) :
    Ret Tryz.prog 15 #[.slice a rows.length gc, .int .i64 0] w fun v w' => v = .string (bs (endT rows.length (rowLen rows))) ∧ Ext w w' := by
  have hR7 := v.r7
  have hR1 := v.r1
  have hC7 := v.c7
  have d1 := dec_len2 (n := rows.length) (by omega)
  have d2 := dec_len2 (n := rowLen rows) (by omega)
  have d3 := dec_len2 (n := 0) (by omega)
  obtain ⟨b, o, rfl⟩ := hr.head v.ne
  have g0 : ∀ {W : World}, Ext w W → W.cell? ⟨b, o, none⟩ = some (.slice (A 0) (rowLen rows) (Cp 0)) := fun x => by
    have := (hr.ext x).row b o rfl 0 v.r1
    rw [Nat.add_zero] at this
    exact this
  have e1 : binV Tryz.prog .add 9 (.string (bs [114, 111, 119, 115, 32])) (.string (bs (dec rows.length))) = some (.string (bs ([114, 111, 119, 115, 32] ++ dec rows.length))) := bin_adds _ _ (by simp; omega)
  have e2 : binV Tryz.prog .add 9 (.string (bs ([114, 111, 119, 115, 32] ++ dec rows.length))) (.string (bs [32, 99, 111, 108, 117, 109, 110, 115, 32])) = some (.string (bs ([114, 111, 119, 115, 32] ++ dec rows.length ++ [32, 99, 111, 108, 117, 109, 110, 115, 32]))) := bin_adds _ _ (by simp; omega)
  have e3 : binV Tryz.prog .add 9 (.string (bs ([114, 111, 119, 115, 32] ++ dec rows.length ++ [32, 99, 111, 108, 117, 109, 110, 115, 32]))) (.string (bs (dec (rowLen rows)))) = some (.string (bs ([114, 111, 119, 115, 32] ++ dec rows.length ++ [32, 99, 111, 108, 117, 109, 110, 115, 32] ++ dec (rowLen rows)))) := bin_adds _ _ (by simp; omega)
  have e4 : binV Tryz.prog .add 9 (.string (bs ([114, 111, 119, 115, 32] ++ dec rows.length ++ [32, 99, 111, 108, 117, 109, 110, 115, 32] ++ dec (rowLen rows)))) (.string (bs [32, 108, 97, 98, 101, 108, 115, 32])) = some (.string (bs ([114, 111, 119, 115, 32] ++ dec rows.length ++ [32, 99, 111, 108, 117, 109, 110, 115, 32] ++ dec (rowLen rows) ++ [32, 108, 97, 98, 101, 108, 115, 32]))) := bin_adds _ _ (by simp; omega)
  have e5 : binV Tryz.prog .add 9 (.string (bs ([114, 111, 119, 115, 32] ++ dec rows.length ++ [32, 99, 111, 108, 117, 109, 110, 115, 32] ++ dec (rowLen rows) ++ [32, 108, 97, 98, 101, 108, 115, 32]))) (.string (bs (dec 0))) = some (.string (bs ([114, 111, 119, 115, 32] ++ dec rows.length ++ [32, 99, 111, 108, 117, 109, 110, 115, 32] ++ dec (rowLen rows) ++ [32, 108, 97, 98, 101, 108, 115, 32] ++ dec 0))) := bin_adds _ _ (by simp; omega)
  have e6 : binV Tryz.prog .add 9 (.string (bs ([114, 111, 119, 115, 32] ++ dec rows.length ++ [32, 99, 111, 108, 117, 109, 110, 115, 32] ++ dec (rowLen rows) ++ [32, 108, 97, 98, 101, 108, 115, 32] ++ dec 0))) (.string (bs [10])) = some (.string (bs ([114, 111, 119, 115, 32] ++ dec rows.length ++ [32, 99, 111, 108, 117, 109, 110, 115, 32] ++ dec (rowLen rows) ++ [32, 108, 97, 98, 101, 108, 115, 32] ++ dec 0 ++ [10]))) := bin_adds _ _ (by simp; omega)
  refine enter2 Tryz.func15 rfl (by kernel_rfl) (of_decide_eq_true (by kernel_rfl)) fun f a0 a1 => ?_
  simp (disch := omega) only [go_sem, Nat.reduceEqDiff, ↓reduceIte, Nat.reduceAdd]
  refine QR_sch none (.st 0 (.st 1 (.st 5 (.st 6 (.st 7 (.st 8 (.st 12 (.ef 2 (.st 3 (.st 4 (.ef 9 (.st 10 (.st 11 (.ef 13 (.st 14 (.st 15 (.st 16 (.done)))))))))))))))))) (by kernel_rfl) (by kernel_rfl) fun w0 x0 => ?_
  have X := x0
  simp (disch := omega) only [go_sem, Nat.reduceEqDiff, ↓reduceIte, Nat.reduceAdd, a0, a1, e1, e2, e3, e4, e5, e6, g0 x0]
  refine callK_of (by kernel_rfl) (digits_c rows.length (by omega) _) ?_
  rintro _ w1 ⟨rfl, y1⟩
  have x0 := x0.trans y1
  refine nxE_of (y1.grow _) ?_
  have X := X.trans y1
  simp (disch := omega) only [go_sem, Nat.reduceEqDiff, ↓reduceIte, Nat.reduceAdd, a0, a1, e1, e2, e3, e4, e5, e6, g0 x0]
  refine callK_of (by kernel_rfl) (digits_c (rowLen rows) (by omega) _) ?_
  rintro _ w1 ⟨rfl, y1⟩
  have x0 := x0.trans y1
  refine nxE_of (y1.grow _) ?_
  have X := X.trans y1
  simp (disch := omega) only [go_sem, Nat.reduceEqDiff, ↓reduceIte, Nat.reduceAdd, a0, a1, e1, e2, e3, e4, e5, e6, g0 x0]
  refine callK_of (by kernel_rfl) (digits_c 0 (by omega) _) ?_
  rintro _ w1 ⟨rfl, y1⟩
  have x0 := x0.trans y1
  refine nxE_of (y1.grow _) ?_
  have X := X.trans y1
  simp (disch := omega) only [go_sem, Nat.reduceEqDiff, ↓reduceIte, Nat.reduceAdd, e1, e2, e3, e4, e5, e6, Tryz.results15]
  exact ⟨rfl, X⟩
end Go.Proofs.YtgdopjkanibfeaaGreatDoor
