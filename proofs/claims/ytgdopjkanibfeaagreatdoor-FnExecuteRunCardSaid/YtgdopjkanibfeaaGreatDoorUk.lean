/- Orders and lines: what a desk does. -/
import Derived.Test.YtgdopjkanibfeaaGreatDoorUj
import Derived.Test.YtgdopjkanibfeaaGreatDoorUp
set_option linter.all false
set_option maxRecDepth 20000
namespace Go.Proofs.YtgdopjkanibfeaaGreatDoor
open Go.RowKit Go.SW

theorem zero_or : zeroC Tryz.prog 117 = some #[.int .i64 0, .nilFunc] := by kernel_rfl
theorem siz_or : (Tryz.prog.info? 117).map (·.size) = some 2 := by kernel_rfl
theorem foff_or0 : foff Tryz.prog 117 0 = some 0 := by kernel_rfl
theorem foff_or1 : foff Tryz.prog 117 1 = some 1 := by kernel_rfl
theorem aggN_or : aggN Tryz.prog 117 = some 2 := by kernel_rfl
theorem scal_or : scal Tryz.prog 117 = false := by kernel_rfl
theorem bld_or (n : Int) (g : Nat) : buildV Tryz.prog 117 [(0, .int .i64 n), (1, .func (.func g) #[] #[])] = some (.agg #[.int .i64 n, .func (.func g) #[] #[]]) := by kernel_rfl
theorem key_or : keyOk Tryz.prog 119 = some (9, 117, .string) := by kernel_rfl
theorem scal_fo : scal Tryz.prog 115 = true := by kernel_rfl
attribute [go_sem] foff_or0 foff_or1 aggN_or scal_or bld_or scal_fo

def ord (s : List UInt8) (n : Int) (g : Nat) (i : Nat) : MapEntry := ⟨.string (bs s), .agg #[.int .i64 n, .func (.func g) #[] #[]], i⟩
def ordL : Array MapEntry := #[ord [115, 101, 116] 3 110 0, ord [116, 117, 114, 110] 0 111 1, ord [109, 105, 114, 114, 111, 114] 0 112 2, ord [105, 110, 118, 101, 114, 116] 0 113 3, ord [102, 105, 108, 108] 0 114 4, ord [115, 104, 111, 119] 0 115 5, ord [114, 117, 110] 2 116 6, ord [108, 97, 110, 100] 1 117 7, ord [112, 101, 97, 107, 115] 0 118 8, ord [115, 101, 101, 115] 3 119 9, ord [110, 97, 109, 101] 4 120 10, ord [109, 97, 112] 0 121 11, ord [112, 108, 97, 99, 101] 2 122 12]

def OrdAt (w : World) (b : Nat) : Prop := w.heap[b]? = some (.map ordL 13)
theorem OrdAt.ext {w w' : World} {b : Nat} (h : OrdAt w b) (x : Ext w w') : OrdAt w' b := by
  unfold OrdAt; rw [Below.block x b (Array.getElem?_eq_some_iff.1 h).1]; exact h
theorem orders_c (w : World) : Ret Tryz.prog 98 #[] w fun v w' => ∃ b, v = .map (some b) ∧ Ext w w' ∧ OrdAt w' b := by
  refine enter0 Tryz.func98 rfl (by kernel_rfl) fun f => ?_
  simp (disch := omega) only [go_sem, Nat.reduceEqDiff, ↓reduceIte, Nat.reduceAdd]
  refine mmK_of fun w0 b e1 x1 h0 _ => ?_
  have hb : w.heap.size ≤ b := by omega
  simp (disch := omega) only [go_sem, Nat.reduceEqDiff, ↓reduceIte, Nat.reduceAdd]
  refine insK_new key_or h0 rfl fun w1 h0 g => ?_
  have x1 := g.ext x1 hb
  simp (disch := omega) only [go_sem, Nat.reduceEqDiff, ↓reduceIte, Nat.reduceAdd]
  refine insK_new key_or h0 rfl fun w2 h0 g => ?_
  have x1 := g.ext x1 hb
  simp (disch := omega) only [go_sem, Nat.reduceEqDiff, ↓reduceIte, Nat.reduceAdd]
  refine insK_new key_or h0 rfl fun w3 h0 g => ?_
  have x1 := g.ext x1 hb
  simp (disch := omega) only [go_sem, Nat.reduceEqDiff, ↓reduceIte, Nat.reduceAdd]
  refine insK_new key_or h0 rfl fun w4 h0 g => ?_
  have x1 := g.ext x1 hb
  simp (disch := omega) only [go_sem, Nat.reduceEqDiff, ↓reduceIte, Nat.reduceAdd]
  refine insK_new key_or h0 rfl fun w5 h0 g => ?_
  have x1 := g.ext x1 hb
  simp (disch := omega) only [go_sem, Nat.reduceEqDiff, ↓reduceIte, Nat.reduceAdd]
  refine insK_new key_or h0 rfl fun w6 h0 g => ?_
  have x1 := g.ext x1 hb
  simp (disch := omega) only [go_sem, Nat.reduceEqDiff, ↓reduceIte, Nat.reduceAdd]
  refine insK_new key_or h0 rfl fun w7 h0 g => ?_
  have x1 := g.ext x1 hb
  simp (disch := omega) only [go_sem, Nat.reduceEqDiff, ↓reduceIte, Nat.reduceAdd]
  refine insK_new key_or h0 rfl fun w8 h0 g => ?_
  have x1 := g.ext x1 hb
  simp (disch := omega) only [go_sem, Nat.reduceEqDiff, ↓reduceIte, Nat.reduceAdd]
  refine insK_new key_or h0 rfl fun w9 h0 g => ?_
  have x1 := g.ext x1 hb
  simp (disch := omega) only [go_sem, Nat.reduceEqDiff, ↓reduceIte, Nat.reduceAdd]
  refine insK_new key_or h0 rfl fun w10 h0 g => ?_
  have x1 := g.ext x1 hb
  simp (disch := omega) only [go_sem, Nat.reduceEqDiff, ↓reduceIte, Nat.reduceAdd]
  refine insK_new key_or h0 rfl fun w11 h0 g => ?_
  have x1 := g.ext x1 hb
  simp (disch := omega) only [go_sem, Nat.reduceEqDiff, ↓reduceIte, Nat.reduceAdd]
  refine insK_new key_or h0 rfl fun w12 h0 g => ?_
  have x1 := g.ext x1 hb
  simp (disch := omega) only [go_sem, Nat.reduceEqDiff, ↓reduceIte, Nat.reduceAdd]
  refine insK_new key_or h0 rfl fun w13 h0 g => ?_
  have x1 := g.ext x1 hb
  simp (disch := omega) only [go_sem, Nat.reduceEqDiff, ↓reduceIte, Nat.reduceAdd, Tryz.results98]
  exact ⟨b, rfl, x1, h0⟩

theorem become_c (d : Nat) (x y : Value) (a : Option Addr) (n c : Nat) (w : World) (k : Blk w d #[x, y] 61) :
    Ret Tryz.prog 96 #[.pointer (some ⟨d, 0, none⟩), .slice a n c, .bool true] w fun v w' => v = .tuple #[.string (bs [111, 107, 10]), .bool true] ∧ Wrote d w w' ∧ Blk w' d #[.slice a n c, y] 61 := by
  refine enter3 Tryz.func96 rfl (by kernel_rfl) (of_decide_eq_true (by kernel_rfl)) fun f a0 a1 a2 => ?_
  simp (disch := omega) only [go_sem, Nat.reduceEqDiff, ↓reduceIte, Nat.reduceAdd, a0, a1, a2]
  refine stK_blk siz_ii (by rfl) (by rfl) k (by simp) fun w1 k1 g1 => ?_
  simp (disch := omega) only [go_sem, Nat.reduceEqDiff, ↓reduceIte, Nat.reduceAdd, Tryz.results96]
  exact ⟨trivial, g1, by simpa using k1⟩

theorem obey_c (d : Nat) (l word : List UInt8) (nums : List Nat) (i g : Nat) (w : World) (R : Value → World → World → Prop) (hl : l.length ≤ 1000) (hg : Lib.hasPrefix l grd = false) (hs : spl 32 l = word :: nums.map dec)
    (hn : ∀ n ∈ nums, n < 100) (hl3 : nums.length ≤ 3)
    (hf : Instr.findNow .string (.string (bs word)) ordL.toList 0 = some (some (i, .agg #[.int .i64 nums.length, .func (.func g) #[] #[]]))) (hgo : goB Tryz.prog g = true)
    (hcall : ∀ W nb, Ext w W → Blk W nb (vi (nums.map Int.ofNat)).toArray 3 → Ret Tryz.prog g #[.pointer (some ⟨d, 0, none⟩), .slice (some ⟨nb, 0, none⟩) nums.length nums.length] W fun v W' => ∃ s b, v = .tuple #[.string s, .bool b] ∧ R v W W') :
    Ret Tryz.prog 79 #[.pointer (some ⟨d, 0, none⟩), .string (bs l)] w fun v w' => ∃ W, Ext w W ∧ R v W w' := by
  have hsl : (spl 32 l).length = nums.length + 1 := by rw [hs]; simp
  refine enter2 Tryz.func79 rfl (by kernel_rfl) (of_decide_eq_true (by kernel_rfl)) fun f a0 a1 => ?_
  simp (disch := omega) only [go_sem, Nat.reduceEqDiff, ↓reduceIte, Nat.reduceAdd, a1]
  refine callK_pure (by kernel_rfl) (cutPrefix_c l grd _) fun w1 x1 => ?_
  rw [hg]
  simp (disch := omega) only [go_sem, Nat.reduceEqDiff, ↓reduceIte, Nat.reduceAdd, a1]
  refine callK_of (by kernel_rfl) (split_c l 32 _ (by omega)) ?_
  rintro _ w3 ⟨sb, rfl, x3, esb, ks⟩
  rw [hsl]
  rw [hs] at ks
  have x13 := x1.trans x3
  have ex : Ext w3 w3 := Ext.refl _
  have lsb := ks.lt
  have hne : (((nums.length + 1 : Nat) : Int) != ((nums.length : Nat) : Int) + 1) = false := by rw [bne_eq_false_iff_eq]; omega
  have hwk : ∀ {W : World} {k : Nat}, k < nums.length → Ext w3 W → W.cell? ⟨sb, k + 1, none⟩ = some (.string (bs (dec (nums.getD k 0)))) := fun {W k} hk x => by
    rw [vst_cell (ks.ext x) (i := k + 1) (by simpa using hk)]
    simp [hk]
  have hw0 : ∀ {W : World}, Ext w3 W → W.cell? ⟨sb, 0, none⟩ = some (.string (bs word)) := fun x => vst_cell (ks.ext x) (i := 0) (by simp)
  simp (disch := omega) only [go_sem, Nat.reduceEqDiff, ↓reduceIte, Nat.reduceAdd]
  refine Go.SWP.QR_sch (fun k => w3.heap.size ≤ k) (.st 1 (.st 2 (.st 3 (.alt (.ef 0 (.alt (.ef 4 (.st 5 (.st 6 (.st 7 (.ef 8 (.ef 9 (.st 10 (.done)))))))) (.ef 8 (.ef 4 (.st 5 (.st 6 (.st 7 (.ef 9 (.st 10 (.done)))))))))) (.ef 8 (.ef 0 (.ef 4 (.st 5 (.st 6 (.st 7 (.ef 9 (.st 10 (.done))))))))))))) (by kernel_rfl) (by kernel_rfl) fun w0 x0 => ?_
  have sz := x0.size
  have X := ex.trans x0
  simp (disch := omega) only [go_sem, Nat.reduceEqDiff, ↓reduceIte, Nat.reduceAdd, hw0 x0]
  refine Go.SWP.RLT_alt ?_ ?_
  · simp (disch := omega) only [go_sem, Nat.reduceEqDiff, ↓reduceIte, Nat.reduceAdd, hw0 x0]
    refine callK_of (by kernel_rfl) (orders_c _) ?_
    rintro _ w4 ⟨mb, rfl, y1, hm⟩
    have x0 := x0.trans y1
    refine Go.SWP.nxE_of (y1.growP _) ?_
    have sz := y1.size
    have X := X.trans y1
    simp (disch := omega) only [go_sem, Nat.reduceEqDiff, ↓reduceIte, Nat.reduceAdd, hw0 x0]
    refine Go.SWP.RLT_alt ?_ ?_
    · simp (disch := omega) only [go_sem, Nat.reduceEqDiff, ↓reduceIte, Nat.reduceAdd, hw0 x0]
      refine lkK_some key_or hm hf ?_
      refine Go.SWP.nxE_of (GrowP.refl _ _) ?_
      simp (disch := omega) only [go_sem, Nat.reduceEqDiff, ↓reduceIte, Nat.reduceAdd, hw0 x0]
      refine allocK_of zero_or fun w4 qb eq y1 kq _ => ?_
      have x0 := x0.trans y1
      refine Go.SWP.nxE_of (y1.growP _) ?_
      have sz := y1.size
      have X := X.trans y1
      have hm := hm.ext y1
      simp (disch := omega) only [go_sem, Nat.reduceEqDiff, ↓reduceIte, Nat.reduceAdd, hw0 x0]
      refine stK_agg siz_or (by simp) (by simp [Value.oneCell']) kq (by simp) fun w4 kq g1 => ?_
      refine Go.SWP.nxE_of (g1.grow.growP fun x e => by cases e; omega) ?_
      have X := g1.ext X (by omega)
      simp (disch := omega) only [go_sem, Nat.reduceEqDiff, ↓reduceIte, Nat.reduceAdd, kq.cell, hne]
      refine mksK_of elt_i nums.length nums.length _ _ _ _ rfl rfl (Nat.le_refl _) (by omega) (by simp [maxLen]; omega) fun w5 nb e5 x5 o5 _ => ?_
      have sX := X.size
      have lq := kq.lt
      simp (disch := omega) only [go_sem, Nat.reduceEqDiff, ↓reduceIte, Nat.reduceAdd]
      refine loopN nums.length (fun k f W => f 0 = .pointer (some ⟨d, 0, none⟩) ∧ f 8 = .slice (some ⟨sb, 0, none⟩) (nums.length + 1) (nums.length + 1) ∧ f 9 = .pointer (some ⟨qb, 0, none⟩) ∧ f 11 = .slice (some ⟨nb, 0, none⟩) nums.length nums.length ∧ f 53 = .int .i64 nums.length ∧ f 54 = .int .i64 k ∧ Ext w3 W ∧ Blk W qb #[.int .i64 nums.length, .func (.func g) #[] #[]] 117 ∧ ∃ ys, OwnS W 3 1 (some ⟨nb, 0, none⟩) nums.length nums.length ys ∧ ∀ j, j < k → ys[j]? = some (.int .i64 (nums.getD j 0 : Nat))) ⟨(by first | assumption | (simp only [upd_apply, Nat.reduceEqDiff, ↓reduceIte] <;> first | rfl | assumption) | simp [upd_apply, *]), (by first | assumption | (simp only [upd_apply, Nat.reduceEqDiff, ↓reduceIte] <;> first | rfl | assumption) | simp [upd_apply, *]), (by first | assumption | (simp only [upd_apply, Nat.reduceEqDiff, ↓reduceIte] <;> first | rfl | assumption) | simp [upd_apply, *]), (by first | assumption | (simp only [upd_apply, Nat.reduceEqDiff, ↓reduceIte] <;> first | rfl | assumption) | simp [upd_apply, *]), (by first | assumption | (simp only [upd_apply, Nat.reduceEqDiff, ↓reduceIte] <;> first | rfl | assumption) | simp [upd_apply, *]), (by first | assumption | (simp only [upd_apply, Nat.reduceEqDiff, ↓reduceIte] <;> first | rfl | assumption) | simp [upd_apply, *]), X.trans x5, kq.ext x5, _, o5, fun j hj => by omega⟩ fun k f W hk ⟨a0, a8, a9, a11, a53, a54, xw, kq, ys, oy, hy⟩ => ?_
      by_cases hlt : (k : Int) < (nums.length : Int)
      · have hkn : k < nums.length := by omega
        have ek : (k : Int) + 1 = ((k + 1 : Nat) : Int) := by omega
        have hcw := hwk hkn xw
        have hnk := hn _ (getD_mem (d := 0) hkn)
        simp (disch := omega) only [go_sem, Nat.reduceEqDiff, ↓reduceIte, Nat.reduceAdd, a8, a11, a53, a54, hlt, ek, hcw]
        refine callK_pure (by kernel_rfl) (numberOf_c (nums.getD k 0) hnk _) fun w6 x6 => ?_
        simp (disch := omega) only [go_sem, Nat.reduceEqDiff, ↓reduceIte, Nat.reduceAdd]
        refine stK_own siz_int (by rfl) (by rfl) (oy.ext x6) (by omega) fun w7 o7 g7 => ?_
        simp (disch := omega) only [go_sem, Nat.reduceEqDiff, ↓reduceIte, Nat.reduceAdd, a54, ek]
        exact ⟨by omega, (by first | assumption | (simp only [upd_apply, Nat.reduceEqDiff, ↓reduceIte] <;> first | rfl | assumption) | simp [upd_apply, *]), (by first | assumption | (simp only [upd_apply, Nat.reduceEqDiff, ↓reduceIte] <;> first | rfl | assumption) | simp [upd_apply, *]), (by first | assumption | (simp only [upd_apply, Nat.reduceEqDiff, ↓reduceIte] <;> first | rfl | assumption) | simp [upd_apply, *]), (by first | assumption | (simp only [upd_apply, Nat.reduceEqDiff, ↓reduceIte] <;> first | rfl | assumption) | simp [upd_apply, *]), (by first | assumption | (simp only [upd_apply, Nat.reduceEqDiff, ↓reduceIte] <;> first | rfl | assumption) | simp [upd_apply, *]), (by first | assumption | (simp only [upd_apply, Nat.reduceEqDiff, ↓reduceIte] <;> first | rfl | assumption) | simp [upd_apply, *]), g7.ext (xw.trans x6) (by omega), g7.blk (kq.ext x6) (by omega), _, o7, set_get (fun j => .int .i64 (nums.getD j 0 : Nat)) (by rw [oy.1]; omega) rfl hy⟩
      · obtain rfl : k = nums.length := by omega
        obtain ⟨cs, kb, hcs, hcl⟩ := oy.toBlk
        have ev : ys = vi (nums.map Int.ofNat) := vi_ext (by rw [oy.1, List.length_map]; omega) fun j hj => by rw [hy j (by simpa using hj)]; simp [show j < nums.length by simpa using hj]
        have kb' : Blk W nb (vi (nums.map Int.ofNat)).toArray 3 := by rw [← ev, ← hcl]; exact kb
        simp (disch := omega) only [go_sem, Nat.reduceEqDiff, ↓reduceIte, Nat.reduceAdd, a0, a9, a11, a53, a54, hlt, kq.cell]
        refine callK_of hgo (hcall W nb (x13.trans xw) kb') ?_
        rintro _ w8 ⟨s, b, rfl, hR⟩
        simp (disch := omega) only [go_sem, Nat.reduceEqDiff, ↓reduceIte, Nat.reduceAdd, Tryz.results79]
        exact ⟨W, x13.trans xw, hR⟩
    · simp (disch := omega) only [go_sem, Nat.reduceEqDiff, ↓reduceIte, Nat.reduceAdd, hw0 x0]
      refine allocK_of zero_or fun w4 qb eq y1 kq _ => ?_
      have x0 := x0.trans y1
      refine Go.SWP.nxE_of (y1.growP _) ?_
      have sz := y1.size
      have X := X.trans y1
      have hm := hm.ext y1
      simp (disch := omega) only [go_sem, Nat.reduceEqDiff, ↓reduceIte, Nat.reduceAdd, hw0 x0]
      refine lkK_some key_or hm hf ?_
      refine Go.SWP.nxE_of (GrowP.refl _ _) ?_
      simp (disch := omega) only [go_sem, Nat.reduceEqDiff, ↓reduceIte, Nat.reduceAdd, hw0 x0]
      refine stK_agg siz_or (by simp) (by simp [Value.oneCell']) kq (by simp) fun w4 kq g1 => ?_
      refine Go.SWP.nxE_of (g1.grow.growP fun x e => by cases e; omega) ?_
      have X := g1.ext X (by omega)
      simp (disch := omega) only [go_sem, Nat.reduceEqDiff, ↓reduceIte, Nat.reduceAdd, kq.cell, hne]
      refine mksK_of elt_i nums.length nums.length _ _ _ _ rfl rfl (Nat.le_refl _) (by omega) (by simp [maxLen]; omega) fun w5 nb e5 x5 o5 _ => ?_
      have sX := X.size
      have lq := kq.lt
      simp (disch := omega) only [go_sem, Nat.reduceEqDiff, ↓reduceIte, Nat.reduceAdd]
      refine loopN nums.length (fun k f W => f 0 = .pointer (some ⟨d, 0, none⟩) ∧ f 8 = .slice (some ⟨sb, 0, none⟩) (nums.length + 1) (nums.length + 1) ∧ f 9 = .pointer (some ⟨qb, 0, none⟩) ∧ f 11 = .slice (some ⟨nb, 0, none⟩) nums.length nums.length ∧ f 53 = .int .i64 nums.length ∧ f 54 = .int .i64 k ∧ Ext w3 W ∧ Blk W qb #[.int .i64 nums.length, .func (.func g) #[] #[]] 117 ∧ ∃ ys, OwnS W 3 1 (some ⟨nb, 0, none⟩) nums.length nums.length ys ∧ ∀ j, j < k → ys[j]? = some (.int .i64 (nums.getD j 0 : Nat))) ⟨(by first | assumption | (simp only [upd_apply, Nat.reduceEqDiff, ↓reduceIte] <;> first | rfl | assumption) | simp [upd_apply, *]), (by first | assumption | (simp only [upd_apply, Nat.reduceEqDiff, ↓reduceIte] <;> first | rfl | assumption) | simp [upd_apply, *]), (by first | assumption | (simp only [upd_apply, Nat.reduceEqDiff, ↓reduceIte] <;> first | rfl | assumption) | simp [upd_apply, *]), (by first | assumption | (simp only [upd_apply, Nat.reduceEqDiff, ↓reduceIte] <;> first | rfl | assumption) | simp [upd_apply, *]), (by first | assumption | (simp only [upd_apply, Nat.reduceEqDiff, ↓reduceIte] <;> first | rfl | assumption) | simp [upd_apply, *]), (by first | assumption | (simp only [upd_apply, Nat.reduceEqDiff, ↓reduceIte] <;> first | rfl | assumption) | simp [upd_apply, *]), X.trans x5, kq.ext x5, _, o5, fun j hj => by omega⟩ fun k f W hk ⟨a0, a8, a9, a11, a53, a54, xw, kq, ys, oy, hy⟩ => ?_
      by_cases hlt : (k : Int) < (nums.length : Int)
      · have hkn : k < nums.length := by omega
        have ek : (k : Int) + 1 = ((k + 1 : Nat) : Int) := by omega
        have hcw := hwk hkn xw
        have hnk := hn _ (getD_mem (d := 0) hkn)
        simp (disch := omega) only [go_sem, Nat.reduceEqDiff, ↓reduceIte, Nat.reduceAdd, a8, a11, a53, a54, hlt, ek, hcw]
        refine callK_pure (by kernel_rfl) (numberOf_c (nums.getD k 0) hnk _) fun w6 x6 => ?_
        simp (disch := omega) only [go_sem, Nat.reduceEqDiff, ↓reduceIte, Nat.reduceAdd]
        refine stK_own siz_int (by rfl) (by rfl) (oy.ext x6) (by omega) fun w7 o7 g7 => ?_
        simp (disch := omega) only [go_sem, Nat.reduceEqDiff, ↓reduceIte, Nat.reduceAdd, a54, ek]
        exact ⟨by omega, (by first | assumption | (simp only [upd_apply, Nat.reduceEqDiff, ↓reduceIte] <;> first | rfl | assumption) | simp [upd_apply, *]), (by first | assumption | (simp only [upd_apply, Nat.reduceEqDiff, ↓reduceIte] <;> first | rfl | assumption) | simp [upd_apply, *]), (by first | assumption | (simp only [upd_apply, Nat.reduceEqDiff, ↓reduceIte] <;> first | rfl | assumption) | simp [upd_apply, *]), (by first | assumption | (simp only [upd_apply, Nat.reduceEqDiff, ↓reduceIte] <;> first | rfl | assumption) | simp [upd_apply, *]), (by first | assumption | (simp only [upd_apply, Nat.reduceEqDiff, ↓reduceIte] <;> first | rfl | assumption) | simp [upd_apply, *]), (by first | assumption | (simp only [upd_apply, Nat.reduceEqDiff, ↓reduceIte] <;> first | rfl | assumption) | simp [upd_apply, *]), g7.ext (xw.trans x6) (by omega), g7.blk (kq.ext x6) (by omega), _, o7, set_get (fun j => .int .i64 (nums.getD j 0 : Nat)) (by rw [oy.1]; omega) rfl hy⟩
      · obtain rfl : k = nums.length := by omega
        obtain ⟨cs, kb, hcs, hcl⟩ := oy.toBlk
        have ev : ys = vi (nums.map Int.ofNat) := vi_ext (by rw [oy.1, List.length_map]; omega) fun j hj => by rw [hy j (by simpa using hj)]; simp [show j < nums.length by simpa using hj]
        have kb' : Blk W nb (vi (nums.map Int.ofNat)).toArray 3 := by rw [← ev, ← hcl]; exact kb
        simp (disch := omega) only [go_sem, Nat.reduceEqDiff, ↓reduceIte, Nat.reduceAdd, a0, a9, a11, a53, a54, hlt, kq.cell]
        refine callK_of hgo (hcall W nb (x13.trans xw) kb') ?_
        rintro _ w8 ⟨s, b, rfl, hR⟩
        simp (disch := omega) only [go_sem, Nat.reduceEqDiff, ↓reduceIte, Nat.reduceAdd, Tryz.results79]
        exact ⟨W, x13.trans xw, hR⟩
  · simp (disch := omega) only [go_sem, Nat.reduceEqDiff, ↓reduceIte, Nat.reduceAdd, hw0 x0]
    refine allocK_of zero_or fun w4 qb eq y1 kq _ => ?_
    have x0 := x0.trans y1
    refine Go.SWP.nxE_of (y1.growP _) ?_
    have sz := y1.size
    have X := X.trans y1
    simp (disch := omega) only [go_sem, Nat.reduceEqDiff, ↓reduceIte, Nat.reduceAdd, hw0 x0]
    refine callK_of (by kernel_rfl) (orders_c _) ?_
    rintro _ w4 ⟨mb, rfl, y1, hm⟩
    have x0 := x0.trans y1
    refine Go.SWP.nxE_of (y1.growP _) ?_
    have sz := y1.size
    have X := X.trans y1
    have kq := kq.ext y1
    simp (disch := omega) only [go_sem, Nat.reduceEqDiff, ↓reduceIte, Nat.reduceAdd, hw0 x0]
    refine lkK_some key_or hm hf ?_
    refine Go.SWP.nxE_of (GrowP.refl _ _) ?_
    simp (disch := omega) only [go_sem, Nat.reduceEqDiff, ↓reduceIte, Nat.reduceAdd, hw0 x0]
    refine stK_agg siz_or (by simp) (by simp [Value.oneCell']) kq (by simp) fun w4 kq g1 => ?_
    refine Go.SWP.nxE_of (g1.grow.growP fun x e => by cases e; omega) ?_
    have X := g1.ext X (by omega)
    simp (disch := omega) only [go_sem, Nat.reduceEqDiff, ↓reduceIte, Nat.reduceAdd, kq.cell, hne]
    refine mksK_of elt_i nums.length nums.length _ _ _ _ rfl rfl (Nat.le_refl _) (by omega) (by simp [maxLen]; omega) fun w5 nb e5 x5 o5 _ => ?_
    have sX := X.size
    have lq := kq.lt
    simp (disch := omega) only [go_sem, Nat.reduceEqDiff, ↓reduceIte, Nat.reduceAdd]
    refine loopN nums.length (fun k f W => f 0 = .pointer (some ⟨d, 0, none⟩) ∧ f 8 = .slice (some ⟨sb, 0, none⟩) (nums.length + 1) (nums.length + 1) ∧ f 9 = .pointer (some ⟨qb, 0, none⟩) ∧ f 11 = .slice (some ⟨nb, 0, none⟩) nums.length nums.length ∧ f 53 = .int .i64 nums.length ∧ f 54 = .int .i64 k ∧ Ext w3 W ∧ Blk W qb #[.int .i64 nums.length, .func (.func g) #[] #[]] 117 ∧ ∃ ys, OwnS W 3 1 (some ⟨nb, 0, none⟩) nums.length nums.length ys ∧ ∀ j, j < k → ys[j]? = some (.int .i64 (nums.getD j 0 : Nat))) ⟨(by first | assumption | (simp only [upd_apply, Nat.reduceEqDiff, ↓reduceIte] <;> first | rfl | assumption) | simp [upd_apply, *]), (by first | assumption | (simp only [upd_apply, Nat.reduceEqDiff, ↓reduceIte] <;> first | rfl | assumption) | simp [upd_apply, *]), (by first | assumption | (simp only [upd_apply, Nat.reduceEqDiff, ↓reduceIte] <;> first | rfl | assumption) | simp [upd_apply, *]), (by first | assumption | (simp only [upd_apply, Nat.reduceEqDiff, ↓reduceIte] <;> first | rfl | assumption) | simp [upd_apply, *]), (by first | assumption | (simp only [upd_apply, Nat.reduceEqDiff, ↓reduceIte] <;> first | rfl | assumption) | simp [upd_apply, *]), (by first | assumption | (simp only [upd_apply, Nat.reduceEqDiff, ↓reduceIte] <;> first | rfl | assumption) | simp [upd_apply, *]), X.trans x5, kq.ext x5, _, o5, fun j hj => by omega⟩ fun k f W hk ⟨a0, a8, a9, a11, a53, a54, xw, kq, ys, oy, hy⟩ => ?_
    by_cases hlt : (k : Int) < (nums.length : Int)
    · have hkn : k < nums.length := by omega
      have ek : (k : Int) + 1 = ((k + 1 : Nat) : Int) := by omega
      have hcw := hwk hkn xw
      have hnk := hn _ (getD_mem (d := 0) hkn)
      simp (disch := omega) only [go_sem, Nat.reduceEqDiff, ↓reduceIte, Nat.reduceAdd, a8, a11, a53, a54, hlt, ek, hcw]
      refine callK_pure (by kernel_rfl) (numberOf_c (nums.getD k 0) hnk _) fun w6 x6 => ?_
      simp (disch := omega) only [go_sem, Nat.reduceEqDiff, ↓reduceIte, Nat.reduceAdd]
      refine stK_own siz_int (by rfl) (by rfl) (oy.ext x6) (by omega) fun w7 o7 g7 => ?_
      simp (disch := omega) only [go_sem, Nat.reduceEqDiff, ↓reduceIte, Nat.reduceAdd, a54, ek]
      exact ⟨by omega, (by first | assumption | (simp only [upd_apply, Nat.reduceEqDiff, ↓reduceIte] <;> first | rfl | assumption) | simp [upd_apply, *]), (by first | assumption | (simp only [upd_apply, Nat.reduceEqDiff, ↓reduceIte] <;> first | rfl | assumption) | simp [upd_apply, *]), (by first | assumption | (simp only [upd_apply, Nat.reduceEqDiff, ↓reduceIte] <;> first | rfl | assumption) | simp [upd_apply, *]), (by first | assumption | (simp only [upd_apply, Nat.reduceEqDiff, ↓reduceIte] <;> first | rfl | assumption) | simp [upd_apply, *]), (by first | assumption | (simp only [upd_apply, Nat.reduceEqDiff, ↓reduceIte] <;> first | rfl | assumption) | simp [upd_apply, *]), (by first | assumption | (simp only [upd_apply, Nat.reduceEqDiff, ↓reduceIte] <;> first | rfl | assumption) | simp [upd_apply, *]), g7.ext (xw.trans x6) (by omega), g7.blk (kq.ext x6) (by omega), _, o7, set_get (fun j => .int .i64 (nums.getD j 0 : Nat)) (by rw [oy.1]; omega) rfl hy⟩
    · obtain rfl : k = nums.length := by omega
      obtain ⟨cs, kb, hcs, hcl⟩ := oy.toBlk
      have ev : ys = vi (nums.map Int.ofNat) := vi_ext (by rw [oy.1, List.length_map]; omega) fun j hj => by rw [hy j (by simpa using hj)]; simp [show j < nums.length by simpa using hj]
      have kb' : Blk W nb (vi (nums.map Int.ofNat)).toArray 3 := by rw [← ev, ← hcl]; exact kb
      simp (disch := omega) only [go_sem, Nat.reduceEqDiff, ↓reduceIte, Nat.reduceAdd, a0, a9, a11, a53, a54, hlt, kq.cell]
      refine callK_of hgo (hcall W nb (x13.trans xw) kb') ?_
      rintro _ w8 ⟨s, b, rfl, hR⟩
      simp (disch := omega) only [go_sem, Nat.reduceEqDiff, ↓reduceIte, Nat.reduceAdd, Tryz.results79]
      exact ⟨W, x13.trans xw, hR⟩
end Go.Proofs.YtgdopjkanibfeaaGreatDoor
