/- Slices of strings; the sheets of a rectangle on both sides. -/
import Derived.Test.YteenlohkhckjkaaDoorTg
set_option linter.all false
set_option maxRecDepth 20000
namespace Go.SW
open Go Go.RowKit
def vst (L : List (List UInt8)) : List Value := L.map fun l => Value.string (bs l)
theorem vst_len (L : List (List UInt8)) : (vst L).length = L.length := by simp [vst]
theorem vst_snoc (L : List (List UInt8)) (l : List UInt8) : vst L ++ [.string (bs l)] = vst (L ++ [l]) := by simp [vst]
theorem vst_get (L : List (List UInt8)) (i : Nat) (h : i < L.length) : (vst L)[i]? = some (.string (bs (L.getD i []))) := by simp [vst, h]
theorem vst_ext {xs : List Value} {L : List (List UInt8)} (hn : xs.length = L.length) (h : ∀ j, j < L.length → xs[j]? = some (.string (bs (L.getD j [])))) : xs = vst L := by
  apply List.ext_getElem?
  intro j
  by_cases hj : j < L.length
  · rw [h j hj, vst_get L j hj]
  · rw [List.getElem?_eq_none (by omega), List.getElem?_eq_none (by rw [vst_len]; omega)]
/-- A slice of strings at a that reads as L. -/
structure StrS (w : World) (a : Option Addr) (L : List (List UInt8)) : Prop where
  head : L ≠ [] → ∃ b o, a = some ⟨b, o, none⟩
  cell : ∀ b o, a = some ⟨b, o, none⟩ → ∀ i : Nat, i < L.length → w.cell? ⟨b, o + i, none⟩ = some (.string (bs (L.getD i [])))
theorem StrS.ext {w w' : World} {a : Option Addr} {L : List (List UInt8)} (h : StrS w a L) (e : Ext w w') : StrS w' a L :=
  ⟨h.head, fun b o ha i h1 => e.cell (h.cell b o ha i h1)⟩
theorem OwnS.strs {w : World} {e n c : Nat} {a : Option Addr} {L : List (List UInt8)} (h : OwnS w e 1 a n c (vst L)) : StrS w a L := by
  have hn : L.length = n := by have := h.1; rw [vst_len] at this; omega
  refine ⟨fun hne => ?_, fun b o ha i h1 => ?_⟩
  · obtain ⟨b, rfl⟩ := h.some (by rw [← hn]; exact List.length_pos_iff.2 hne)
    exact ⟨b, 0, rfl⟩
  · obtain ⟨b', rfl⟩ := h.some (by omega)
    simp only [Option.some.injEq, Addr.mk.injEq] at ha
    obtain ⟨rfl, rfl, _⟩ := ha
    rw [Nat.zero_add, h.cell (by omega), vst_get L i h1]
/-- Marks from k on. -/
def tmarks (k n : Nat) : List (List UInt8) := (List.range n).map fun j => 109 :: dec (k + j)
theorem tmarks_len (k n : Nat) : (tmarks k n).length = n := by simp [tmarks]
theorem tmarks_get (k : Nat) {n j : Nat} (h : j < n) : (tmarks k n).getD j [] = 109 :: dec (k + j) := by simp [tmarks, h]
end Go.SW
namespace Go.Proofs.YteenlohkhckjkaaDoor
open Go.RowKit Go.SW

theorem placeSheetI (x y : Int) (c r : Nat) (hx : 0 ≤ x ∧ x < 104) (hy : 0 ≤ y ∧ y < 104) (hc : x.toNat / 4 = c) (hr : y.toNat / 4 = r) (w : World) : Ret Tryd.prog 50 #[.agg #[.int .i64 x, .int .i64 y]] w fun v w' => v = .agg #[.int .i64 r, .int .i64 c] ∧ Ext w w' := by
  obtain ⟨m, rfl⟩ := Int.eq_ofNat_of_zero_le hx.1
  obtain ⟨n, rfl⟩ := Int.eq_ofNat_of_zero_le hy.1
  subst hc hr
  exact placeSheet_c m n (by omega) (by omega) w

theorem specSheetsBetween_c (ax ay bx dy : Int) (w : World) : Ret Tryd.prog 20 #[.int .i64 ax, .int .i64 ay, .int .i64 bx, .int .i64 dy] w fun v w' => ∃ a c, v = .tuple #[.slice a (btList ax ay bx dy).length c, .bool (btOk ax ay bx dy)] ∧ Ext w w' ∧ OwnS w' 9 1 a (btList ax ay bx dy).length c (vst (btList ax ay bx dy)) ∧ ∀ b, blk a = some b → w.heap.size ≤ b := by
  have bad : btOk ax ay bx dy = false → btList ax ay bx dy = [] := fun h => by simp [btList, h]
  refine enter4 Tryd.func20 rfl (by kernel_rfl) (of_decide_eq_true (by kernel_rfl)) fun f a0 a1 a2 a3 => ?_
  simp (disch := omega) only [go_sem, Nat.reduceEqDiff, ↓reduceIte, Nat.reduceAdd]
  refine bslK_0 elt_s fun w1 b e1 x1 o1 s1 => ?_
  simp (disch := omega) only [go_sem, Nat.reduceEqDiff, ↓reduceIte, Nat.reduceAdd, a0, a1]
  refine callK_pure (by kernel_rfl) (l7Place_c ax ay _) fun w2 x2 => ?_
  have o2 := o1.ext x2
  cases h1 : plc ax ay with
  | false =>
    have hb : btOk ax ay bx dy = false := by simp [btOk, h1]
    simp (disch := omega) only [go_sem, Nat.reduceEqDiff, ↓reduceIte, Nat.reduceAdd, Tryd.results20]
    refine ⟨some ⟨b, 0, none⟩, 0, by rw [bad hb, hb]; rfl, x1.trans x2, by rw [bad hb]; exact o2, fun b' h => ?_⟩
    simp only [blk_some, Option.some.injEq] at h; omega
  | true =>
    simp (disch := omega) only [go_sem, Nat.reduceEqDiff, ↓reduceIte, Nat.reduceAdd, a2, a3]
    refine callK_pure (by kernel_rfl) (l7Place_c bx dy _) fun w3 x3 => ?_
    have o3 := o2.ext x3
    cases h2 : plc bx dy with
    | false =>
      have hb : btOk ax ay bx dy = false := by simp [btOk, h2]
      simp (disch := omega) only [go_sem, Nat.reduceEqDiff, ↓reduceIte, Nat.reduceAdd, Tryd.results20]
      refine ⟨some ⟨b, 0, none⟩, 0, by rw [bad hb, hb]; rfl, (x1.trans x2).trans x3, by rw [bad hb]; exact o3, fun b' h => ?_⟩
      simp only [blk_some, Option.some.injEq] at h; omega
    | true =>
      have p1 := plc_iff.1 h1
      have p2 := plc_iff.1 h2
      have hx1 := hi4_lt (show ax < 104 by omega) (show bx < 104 by omega)
      have hy1 := hi4_lt (show ay < 104 by omega) (show dy < 104 by omega)
      have wx := wid_lo ax bx
      have wy := wid_lo ay dy
      have lx := wid_pos ax bx
      have ly := wid_pos ay dy
      have ex0 : min ax bx / 4 = (lo4 ax bx : Nat) := by unfold lo4; omega
      have ex1 : max ax bx / 4 = (hi4 ax bx : Nat) := by unfold hi4; omega
      have ey0 : min ay dy / 4 = (lo4 ay dy : Nat) := by unfold lo4; omega
      have ey1 : max ay dy / 4 = (hi4 ay dy : Nat) := by unfold hi4; omega
      have hlist : btList ax ay bx dy = if btOk ax ay bx dy then nams (lo4 ax bx) (lo4 ay dy) (wid ax bx) (wid ay dy * wid ax bx) else [] := rfl
      have hok : btOk ax ay bx dy = decide (wid ay dy * wid ax bx ≤ 20) := by simp [btOk, h1, h2]
      generalize hW : wid ax bx = W at *
      generalize hH : wid ay dy = H at *
      generalize hi4 ax bx = X1 at *
      generalize hi4 ay dy = Y1 at *
      generalize lo4 ax bx = X0 at *
      generalize lo4 ay dy = Y0 at *
      have hHW : H * W ≤ 26 * 26 := Nat.mul_le_mul (by omega) (by omega)
      simp (disch := omega) only [go_sem, Nat.reduceEqDiff, ↓reduceIte, Nat.reduceAdd, a1, a3, ey0]
      refine loopN H (fun k f w' => f 0 = .int .i64 ax ∧ f 1 = .int .i64 ay ∧ f 2 = .int .i64 bx ∧ f 3 = .int .i64 dy ∧ f 11 = .int .i64 (Y0 + k : Nat) ∧ Ext w w' ∧ ∃ a c, f 10 = .slice a (k * W) c ∧ OwnS w' 9 1 a (k * W) c (vst (nams X0 Y0 W (k * W))) ∧ ∀ b, blk a = some b → w.heap.size ≤ b)
        ⟨(by first | assumption | (simp only [upd_apply, Nat.reduceEqDiff, ↓reduceIte] <;> first | rfl | assumption) | simp [upd_apply, *]), (by first | assumption | (simp only [upd_apply, Nat.reduceEqDiff, ↓reduceIte] <;> first | rfl | assumption) | simp [upd_apply, *]), (by first | assumption | (simp only [upd_apply, Nat.reduceEqDiff, ↓reduceIte] <;> first | rfl | assumption) | simp [upd_apply, *]), (by first | assumption | (simp only [upd_apply, Nat.reduceEqDiff, ↓reduceIte] <;> first | rfl | assumption) | simp [upd_apply, *]), (by first | assumption | (simp only [upd_apply, Nat.reduceEqDiff, ↓reduceIte] <;> first | rfl | assumption) | simp [upd_apply, *]), (x1.trans x2).trans x3, some ⟨b, 0, none⟩, 0, by simp [upd_apply], by simpa [nams, vst] using o3, fun b' h => by simp only [blk_some, Option.some.injEq] at h; omega⟩ fun k f w4 hk ⟨a0, a1, a2, a3, a11, x4, a, c, a10, o4, ha⟩ => ?_
      have hkW : k * W ≤ H * W := Nat.mul_le_mul_right _ hk
      by_cases hlt : ((Y0 + k : Nat) : Int) ≤ (Y1 : Int)
      · have hk' : k < H := by omega
        have hkW' : (k + 1) * W ≤ H * W := Nat.mul_le_mul_right _ hk'
        rw [Nat.succ_mul] at hkW'
        simp (disch := omega) only [go_sem, Nat.reduceEqDiff, ↓reduceIte, Nat.reduceAdd, a1, a3, a11, ey1, hlt, a0, a2, ex0]
        refine loopN W (fun j f w' => f 0 = .int .i64 ax ∧ f 1 = .int .i64 ay ∧ f 2 = .int .i64 bx ∧ f 3 = .int .i64 dy ∧ f 11 = .int .i64 (Y0 + k : Nat) ∧ f 12 = .int .i64 (X0 + j : Nat) ∧ Ext w w' ∧ ∃ a c, f 10 = .slice a (k * W + j) c ∧ OwnS w' 9 1 a (k * W + j) c (vst (nams X0 Y0 W (k * W + j))) ∧ ∀ b, blk a = some b → w.heap.size ≤ b)
          ⟨(by first | assumption | (simp only [upd_apply, Nat.reduceEqDiff, ↓reduceIte] <;> first | rfl | assumption) | simp [upd_apply, *]), (by first | assumption | (simp only [upd_apply, Nat.reduceEqDiff, ↓reduceIte] <;> first | rfl | assumption) | simp [upd_apply, *]), (by first | assumption | (simp only [upd_apply, Nat.reduceEqDiff, ↓reduceIte] <;> first | rfl | assumption) | simp [upd_apply, *]), (by first | assumption | (simp only [upd_apply, Nat.reduceEqDiff, ↓reduceIte] <;> first | rfl | assumption) | simp [upd_apply, *]), (by first | assumption | (simp only [upd_apply, Nat.reduceEqDiff, ↓reduceIte] <;> first | rfl | assumption) | simp [upd_apply, *]), (by first | assumption | (simp only [upd_apply, Nat.reduceEqDiff, ↓reduceIte] <;> first | rfl | assumption) | simp [upd_apply, *]), x4, a, c, (by first | assumption | (simp only [upd_apply, Nat.reduceEqDiff, ↓reduceIte] <;> first | rfl | assumption) | simp [upd_apply, *]), o4, ha⟩ fun j f w5 hj ⟨a0, a1, a2, a3, a11, a12, x5, a, c, a10, o5, ha⟩ => ?_
        by_cases hlj : ((X0 + j : Nat) : Int) ≤ (X1 : Int)
        · simp (disch := omega) only [go_sem, Nat.reduceEqDiff, ↓reduceIte, Nat.reduceAdd, a0, a2, a12, ex1, hlj, a11]
          refine callK_pure (by kernel_rfl) (l7Name_c (X0 + j) (Y0 + k) (by omega) (by omega) _) fun w6 x6 => ?_
          simp (disch := omega) only [go_sem, Nat.reduceEqDiff, ↓reduceIte, Nat.reduceAdd, a10]
          refine bslK_1 elt_s rfl fun w7 b7 _ x7 k7 _ => ?_
          simp (disch := omega) only [go_sem, Nat.reduceEqDiff, ↓reduceIte, Nat.reduceAdd, a10]
          refine appK_1 elt_s ((o5.ext x6).ext x7) k7 rfl (by omega) (.inr ⟨by omega, by decide⟩) fun w8 a8 c8 o8 g8 h8 => ?_
          simp (disch := omega) only [go_sem, Nat.reduceEqDiff, ↓reduceIte, Nat.reduceAdd, a12]
          rw [vst_snoc, ← nam_rc (c0 := X0) (r0 := Y0) (show j < W by omega), ← nams_succ] at o8
          have s5 := x5.size
          have s6 := (x6.trans x7).size
          refine ⟨by omega, (by first | assumption | (simp only [upd_apply, Nat.reduceEqDiff, ↓reduceIte] <;> first | rfl | assumption) | simp [upd_apply, *]), (by first | assumption | (simp only [upd_apply, Nat.reduceEqDiff, ↓reduceIte] <;> first | rfl | assumption) | simp [upd_apply, *]), (by first | assumption | (simp only [upd_apply, Nat.reduceEqDiff, ↓reduceIte] <;> first | rfl | assumption) | simp [upd_apply, *]), (by first | assumption | (simp only [upd_apply, Nat.reduceEqDiff, ↓reduceIte] <;> first | rfl | assumption) | simp [upd_apply, *]), (by first | assumption | (simp only [upd_apply, Nat.reduceEqDiff, ↓reduceIte] <;> first | rfl | assumption) | simp [upd_apply, *]), by simp [upd_apply]; omega, g8.ext ((x5.trans x6).trans x7) ha, a8, c8, by simp [upd_apply]; omega, o8, fun b' hb' => ?_⟩
          rcases h8 b' hb' with h | h
          · exact ha b' h
          · omega
        · obtain rfl : j = W := by omega
          simp (disch := omega) only [go_sem, Nat.reduceEqDiff, ↓reduceIte, Nat.reduceAdd, a0, a2, a12, ex1, hlj, a11]
          refine ⟨hk', (by first | assumption | (simp only [upd_apply, Nat.reduceEqDiff, ↓reduceIte] <;> first | rfl | assumption) | simp [upd_apply, *]), (by first | assumption | (simp only [upd_apply, Nat.reduceEqDiff, ↓reduceIte] <;> first | rfl | assumption) | simp [upd_apply, *]), (by first | assumption | (simp only [upd_apply, Nat.reduceEqDiff, ↓reduceIte] <;> first | rfl | assumption) | simp [upd_apply, *]), (by first | assumption | (simp only [upd_apply, Nat.reduceEqDiff, ↓reduceIte] <;> first | rfl | assumption) | simp [upd_apply, *]), by simp [upd_apply]; omega, x5, a, c, ?_, ?_, ha⟩
          · rw [Nat.succ_mul]; simp [upd_apply, a10]
          · rw [Nat.succ_mul]; exact o5
      · obtain rfl : k = H := by omega
        by_cases hbig : (20 : Int) < ((k * W : Nat) : Int)
        · have hb : btOk ax ay bx dy = false := by rw [hok, decide_eq_false_iff_not]; omega
          simp (disch := omega) only [go_sem, Nat.reduceEqDiff, ↓reduceIte, Nat.reduceAdd, a1, a3, a11, ey1, hlt, a10, hbig]
          refine bslK_0 elt_s fun w5 b5 e5 x5 o5 s5 => ?_
          simp (disch := omega) only [go_sem, Nat.reduceEqDiff, ↓reduceIte, Nat.reduceAdd, Tryd.results20]
          refine ⟨some ⟨b5, 0, none⟩, 0, by rw [bad hb, hb]; rfl, x4.trans x5, by rw [bad hb]; exact o5, fun b' h => ?_⟩
          have := x4.size
          simp only [blk_some, Option.some.injEq] at h; omega
        · have hb : btOk ax ay bx dy = true := by rw [hok, decide_eq_true_eq]; omega
          rw [hb, if_pos rfl] at hlist
          simp (disch := omega) only [go_sem, Nat.reduceEqDiff, ↓reduceIte, Nat.reduceAdd, a1, a3, a11, ey1, hlt, a10, hbig, Tryd.results20]
          exact ⟨a, c, by rw [hlist, nams_len, hb], x4, by rw [hlist, nams_len]; exact o4, ha⟩

theorem implSheetsBetween_c (ax ay bx dy : Int) (w : World) : Ret Tryd.prog 21 #[.int .i64 ax, .int .i64 ay, .int .i64 bx, .int .i64 dy] w fun v w' => ∃ a c, v = .tuple #[.slice a (btList ax ay bx dy).length c, .bool (btOk ax ay bx dy)] ∧ Ext w w' ∧ OwnS w' 9 1 a (btList ax ay bx dy).length c (vst (btList ax ay bx dy)) ∧ ∀ b, blk a = some b → w.heap.size ≤ b := by
  have bad : btOk ax ay bx dy = false → btList ax ay bx dy = [] := fun h => by simp [btList, h]
  have badv : btOk ax ay bx dy = false → ∀ w', Ext w w' → ∃ a c, Value.tuple #[.slice none 0 0, .bool false] = .tuple #[.slice a (btList ax ay bx dy).length c, .bool (btOk ax ay bx dy)] ∧ Ext w w' ∧ OwnS w' 9 1 a (btList ax ay bx dy).length c (vst (btList ax ay bx dy)) ∧ ∀ b, blk a = some b → w.heap.size ≤ b := fun h w' x =>
    ⟨none, 0, by rw [bad h, h]; rfl, x, by rw [bad h]; exact OwnS.nil _ _ _, fun b hb => by cases hb⟩
  refine enter4 Tryd.func21 rfl (by kernel_rfl) (of_decide_eq_true (by kernel_rfl)) fun f a0 a1 a2 a3 => ?_
  simp (disch := omega) only [go_sem, Nat.reduceEqDiff, ↓reduceIte, Nat.reduceAdd, a0, a1, a2, a3]
  refine allocK_of zero_pl fun w1 b1 _ x1 k1 s1 => ?_
  simp (disch := omega) only [go_sem, Nat.reduceEqDiff, ↓reduceIte, Nat.reduceAdd]
  refine allocK_of zero_pl fun w2 b2 _ x2 k2 s2 => ?_
  simp (disch := omega) only [go_sem, Nat.reduceEqDiff, ↓reduceIte, Nat.reduceAdd]
  refine stK_agg siz_pl (by simp) (by simp [Value.oneCell']) (k1.ext x2) (by simp) fun w3 k3 g3 => ?_
  simp (disch := omega) only [go_sem, Nat.reduceEqDiff, ↓reduceIte, Nat.reduceAdd]
  refine stK_agg siz_pl (by simp) (by simp [Value.oneCell']) (g3.blk k2 (by omega)) (by simp) fun w4 k4 g4 => ?_
  have x4 := g4.ext (g3.ext (x1.trans x2) (by omega)) (by omega)
  have k3 := g4.blk k3 (by omega)
  simp (disch := omega) only [go_sem, Nat.reduceEqDiff, ↓reduceIte, Nat.reduceAdd, readCells_blk k3 (n := 2) (by simp [Value.cells])]
  refine callK_pure (by kernel_rfl) (placeThere_c ax ay _) fun w5 x5 => ?_
  cases h1 : plc ax ay with
  | false =>
    simp (disch := omega) only [go_sem, Nat.reduceEqDiff, ↓reduceIte, Nat.reduceAdd, Tryd.results21]
    exact badv (by simp [btOk, h1]) _ (x4.trans x5)
  | true =>
    have k4 := k4.ext x5
    simp (disch := omega) only [go_sem, Nat.reduceEqDiff, ↓reduceIte, Nat.reduceAdd, readCells_blk k4 (n := 2) (by simp [Value.cells])]
    refine callK_pure (by kernel_rfl) (placeThere_c bx dy _) fun w6 x6 => ?_
    cases h2 : plc bx dy with
    | false =>
      simp (disch := omega) only [go_sem, Nat.reduceEqDiff, ↓reduceIte, Nat.reduceAdd, Tryd.results21]
      exact badv (by simp [btOk, h2]) _ ((x4.trans x5).trans x6)
    | true =>
      have p1 := plc_iff.1 h1
      have p2 := plc_iff.1 h2
      have hx1 := hi4_lt (show ax < 104 by omega) (show bx < 104 by omega)
      have hy1 := hi4_lt (show ay < 104 by omega) (show dy < 104 by omega)
      have wx := wid_lo ax bx
      have wy := wid_lo ay dy
      have lx := wid_pos ax bx
      have ly := wid_pos ay dy
      have x6' := (x4.trans x5).trans x6
      simp (disch := omega) only [go_sem, Nat.reduceEqDiff, ↓reduceIte, Nat.reduceAdd, a0, a1, a2, a3]
      refine callK_pure (by kernel_rfl) (placeSheetI (min ax bx) (min ay dy) (lo4 ax bx) (lo4 ay dy) (by omega) (by omega) rfl rfl _) fun w7 x7 => ?_
      simp (disch := omega) only [go_sem, Nat.reduceEqDiff, ↓reduceIte, Nat.reduceAdd]
      refine allocK_of zero_sh fun w8 b8 _ x8 k8 s8 => ?_
      simp (disch := omega) only [go_sem, Nat.reduceEqDiff, ↓reduceIte, Nat.reduceAdd]
      refine stK_agg siz_sh (by simp) (by simp [Value.oneCell']) k8 (by simp) fun w9 k9 g9 => ?_
      have s7 := (x6'.trans x7).size
      have x9 := g9.ext ((x6'.trans x7).trans x8) (by omega)
      simp (disch := omega) only [go_sem, Nat.reduceEqDiff, ↓reduceIte, Nat.reduceAdd, a0, a1, a2, a3]
      refine callK_pure (by kernel_rfl) (placeSheetI (max ax bx) (max ay dy) (hi4 ax bx) (hi4 ay dy) (by omega) (by omega) rfl rfl _) fun w10 x10 => ?_
      simp (disch := omega) only [go_sem, Nat.reduceEqDiff, ↓reduceIte, Nat.reduceAdd]
      refine allocK_of zero_sh fun w11 b11 _ x11 k11 s11 => ?_
      simp (disch := omega) only [go_sem, Nat.reduceEqDiff, ↓reduceIte, Nat.reduceAdd]
      refine stK_agg siz_sh (by simp) (by simp [Value.oneCell']) k11 (by simp) fun w12 k12 g12 => ?_
      have s9 := (x9.trans x10).size
      have x12 := g12.ext ((x9.trans x10).trans x11) (by omega)
      have k9 := g12.blk ((k9.ext x10).ext x11) (by have := k9.lt; have := x10.size; omega)
      have hlist : btList ax ay bx dy = if btOk ax ay bx dy then nams (lo4 ax bx) (lo4 ay dy) (wid ax bx) (wid ay dy * wid ax bx) else [] := rfl
      have hok : btOk ax ay bx dy = decide (wid ay dy * wid ax bx ≤ 20) := by simp [btOk, h1, h2]
      have eW : (hi4 ax bx : Int) - (lo4 ax bx : Int) + 1 = (wid ax bx : Nat) := by omega
      have eH : (hi4 ay dy : Int) - (lo4 ay dy : Int) + 1 = (wid ay dy : Nat) := by omega
      generalize hW : wid ax bx = W at *
      generalize hH : wid ay dy = H at *
      generalize hi4 ax bx = X1 at *
      generalize hi4 ay dy = Y1 at *
      generalize lo4 ax bx = X0 at *
      generalize lo4 ay dy = Y0 at *
      have hHW : H * W ≤ 26 * 26 := Nat.mul_le_mul (by omega) (by omega)
      have eHW : (H : Int) * (W : Int) = ((H * W : Nat) : Int) := by simp
      by_cases hbig : (20 : Int) < ((H * W : Nat) : Int)
      · have hb : btOk ax ay bx dy = false := by rw [hok, decide_eq_false_iff_not]; omega
        simp (disch := omega) only [go_sem, Nat.reduceEqDiff, ↓reduceIte, Nat.reduceAdd, k12.cell, k9.cell, Value.cells, eW, eH, eHW, hbig, Tryd.results21]
        exact badv hb _ x12
      have hb : btOk ax ay bx dy = true := by rw [hok, decide_eq_true_eq]; omega
      rw [hb, if_pos rfl] at hlist
      simp (disch := omega) only [go_sem, Nat.reduceEqDiff, ↓reduceIte, Nat.reduceAdd, k12.cell, k9.cell, Value.cells, eW, eH, eHW, hbig]
      refine bslK_0 elt_s fun w13 b13 e13 x13 o13 s13 => ?_
      have l9 := k9.lt
      have l12 := k12.lt
      have k9 := k9.ext x13
      simp (disch := omega) only [go_sem, Nat.reduceEqDiff, ↓reduceIte, Nat.reduceAdd, k9.cell, Value.cells]
      refine loopN H (fun k f w' => f 12 = .pointer (some ⟨b8, 0, none⟩) ∧ f 13 = .pointer (some ⟨b11, 0, none⟩) ∧ f 15 = .int .i64 (Y0 + k : Nat) ∧ Ext w w' ∧ Blk w' b8 #[.int .i64 Y0, .int .i64 X0] 56 ∧ Blk w' b11 #[.int .i64 Y1, .int .i64 X1] 56 ∧ ∃ a c, f 14 = .slice a (k * W) c ∧ OwnS w' 9 1 a (k * W) c (vst (nams X0 Y0 W (k * W))) ∧ ∀ b, blk a = some b → w.heap.size ≤ b ∧ b ≠ b8 ∧ b ≠ b11)
        ⟨(by first | assumption | (simp only [upd_apply, Nat.reduceEqDiff, ↓reduceIte] <;> first | rfl | assumption) | simp [upd_apply, *]), (by first | assumption | (simp only [upd_apply, Nat.reduceEqDiff, ↓reduceIte] <;> first | rfl | assumption) | simp [upd_apply, *]), (by first | assumption | (simp only [upd_apply, Nat.reduceEqDiff, ↓reduceIte] <;> first | rfl | assumption) | simp [upd_apply, *]), x12.trans x13, k9, k12.ext x13, some ⟨b13, 0, none⟩, 0, by simp [upd_apply], by simpa [nams, vst] using o13, fun b' h => by simp only [blk_some, Option.some.injEq] at h; have := x12.size; omega⟩ fun k f w4 hk ⟨a12, a13, a15, x4, q8, q11, a, c, a14, o4, ha⟩ => ?_
      have hkW : k * W ≤ H * W := Nat.mul_le_mul_right _ hk
      by_cases hlt : ((Y0 + k : Nat) : Int) ≤ (Y1 : Int)
      · have hk' : k < H := by omega
        have hkW' : (k + 1) * W ≤ H * W := Nat.mul_le_mul_right _ hk'
        rw [Nat.succ_mul] at hkW'
        simp (disch := omega) only [go_sem, Nat.reduceEqDiff, ↓reduceIte, Nat.reduceAdd, a12, a13, a15, q8.cell, q11.cell, hlt]
        refine loopN W (fun j f w' => f 12 = .pointer (some ⟨b8, 0, none⟩) ∧ f 13 = .pointer (some ⟨b11, 0, none⟩) ∧ f 15 = .int .i64 (Y0 + k : Nat) ∧ f 16 = .int .i64 (X0 + j : Nat) ∧ Ext w w' ∧ Blk w' b8 #[.int .i64 Y0, .int .i64 X0] 56 ∧ Blk w' b11 #[.int .i64 Y1, .int .i64 X1] 56 ∧ ∃ a c, f 14 = .slice a (k * W + j) c ∧ OwnS w' 9 1 a (k * W + j) c (vst (nams X0 Y0 W (k * W + j))) ∧ ∀ b, blk a = some b → w.heap.size ≤ b ∧ b ≠ b8 ∧ b ≠ b11)
          ⟨(by first | assumption | (simp only [upd_apply, Nat.reduceEqDiff, ↓reduceIte] <;> first | rfl | assumption) | simp [upd_apply, *]), (by first | assumption | (simp only [upd_apply, Nat.reduceEqDiff, ↓reduceIte] <;> first | rfl | assumption) | simp [upd_apply, *]), (by first | assumption | (simp only [upd_apply, Nat.reduceEqDiff, ↓reduceIte] <;> first | rfl | assumption) | simp [upd_apply, *]), (by first | assumption | (simp only [upd_apply, Nat.reduceEqDiff, ↓reduceIte] <;> first | rfl | assumption) | simp [upd_apply, *]), x4, q8, q11, a, c, (by first | assumption | (simp only [upd_apply, Nat.reduceEqDiff, ↓reduceIte] <;> first | rfl | assumption) | simp [upd_apply, *]), o4, ha⟩ fun j f w5 hj ⟨a12, a13, a15, a16, x5, q8, q11, a, c, a14, o5, ha⟩ => ?_
        by_cases hlj : ((X0 + j : Nat) : Int) ≤ (X1 : Int)
        · simp (disch := omega) only [go_sem, Nat.reduceEqDiff, ↓reduceIte, Nat.reduceAdd, a13, a15, a16, q11.cell, hlj]
          refine callK_pure (by kernel_rfl) (sheetName_c (X0 + j) (Y0 + k) (by omega) (by omega) _) fun w6 x6 => ?_
          simp (disch := omega) only [go_sem, Nat.reduceEqDiff, ↓reduceIte, Nat.reduceAdd, a14]
          refine bslK_1 elt_s rfl fun w7 b7 _ x7 k7 _ => ?_
          simp (disch := omega) only [go_sem, Nat.reduceEqDiff, ↓reduceIte, Nat.reduceAdd, a14]
          refine appK_1 elt_s ((o5.ext x6).ext x7) k7 rfl (by omega) (.inr ⟨by omega, by decide⟩) fun w8 a8 c8 o8 g8 h8 => ?_
          simp (disch := omega) only [go_sem, Nat.reduceEqDiff, ↓reduceIte, Nat.reduceAdd, a16]
          rw [vst_snoc, ← nam_rc (c0 := X0) (r0 := Y0) (show j < W by omega), ← nams_succ] at o8
          have s5 := x5.size
          have s6 := (x6.trans x7).size
          have l8 := ((q8.ext x6).ext x7).lt
          have l11 := ((q11.ext x6).ext x7).lt
          refine ⟨by omega, (by first | assumption | (simp only [upd_apply, Nat.reduceEqDiff, ↓reduceIte] <;> first | rfl | assumption) | simp [upd_apply, *]), (by first | assumption | (simp only [upd_apply, Nat.reduceEqDiff, ↓reduceIte] <;> first | rfl | assumption) | simp [upd_apply, *]), (by first | assumption | (simp only [upd_apply, Nat.reduceEqDiff, ↓reduceIte] <;> first | rfl | assumption) | simp [upd_apply, *]), by simp [upd_apply]; omega, g8.ext ((x5.trans x6).trans x7) fun b hb => (ha b hb).1, g8.blk ((q8.ext x6).ext x7) (fun e => (ha _ e).2.1 rfl), g8.blk ((q11.ext x6).ext x7) (fun e => (ha _ e).2.2 rfl), a8, c8, by simp [upd_apply]; omega, o8, fun b' hb' => ?_⟩
          rcases h8 b' hb' with h | h
          · exact ha b' h
          · omega
        · obtain rfl : j = W := by omega
          simp (disch := omega) only [go_sem, Nat.reduceEqDiff, ↓reduceIte, Nat.reduceAdd, a13, a15, a16, q11.cell, hlj]
          refine ⟨hk', (by first | assumption | (simp only [upd_apply, Nat.reduceEqDiff, ↓reduceIte] <;> first | rfl | assumption) | simp [upd_apply, *]), (by first | assumption | (simp only [upd_apply, Nat.reduceEqDiff, ↓reduceIte] <;> first | rfl | assumption) | simp [upd_apply, *]), by simp [upd_apply]; omega, x5, q8, q11, a, c, ?_, ?_, ha⟩
          · rw [Nat.succ_mul]; simp [upd_apply, a14]
          · rw [Nat.succ_mul]; exact o5
      · obtain rfl : k = H := by omega
        simp (disch := omega) only [go_sem, Nat.reduceEqDiff, ↓reduceIte, Nat.reduceAdd, a13, a15, q11.cell, hlt, a14, Tryd.results21]
        exact ⟨a, c, by rw [hlist, nams_len, hb], x4, by rw [hlist, nams_len]; exact o4, fun b hb => (ha b hb).1⟩
end Go.Proofs.YteenlohkhckjkaaDoor
