/- K9: the texts Uk Ul Um as one. -/
import Derived.Test.YtcbmhjndbpafbaaGreatDoorK8
import Derived.Test.YtcbmhjndbpafbaaGreatDoorKp
import Derived.Recover
set_option linter.all false
set_option maxRecDepth 20000
/- Orders and lines: what a desk does. -/
namespace Go.Proofs.YtcbmhjndbpafbaaGreatDoor
open Go.RowKit Go.SW

theorem zero_or : zeroC Tryz.prog 130 = some #[.int .i64 0, .nilFunc] := by kernel_rfl
theorem siz_or : (Tryz.prog.info? 130).map (·.size) = some 2 := by kernel_rfl
theorem foff_or0 : foff Tryz.prog 130 0 = some 0 := by kernel_rfl
theorem foff_or1 : foff Tryz.prog 130 1 = some 1 := by kernel_rfl
theorem aggN_or : aggN Tryz.prog 130 = some 2 := by kernel_rfl
theorem scal_or : scal Tryz.prog 130 = false := by kernel_rfl
theorem bld_or (n : Int) (g : Nat) : buildV Tryz.prog 130 [(0, .int .i64 n), (1, .func (.func g) #[] #[])] = some (.agg #[.int .i64 n, .func (.func g) #[] #[]]) := by kernel_rfl
theorem key_or : keyOk Tryz.prog 132 = some (9, 130, .string) := by kernel_rfl
theorem scal_fo : scal Tryz.prog 128 = true := by kernel_rfl
attribute [go_sem] foff_or0 foff_or1 aggN_or scal_or bld_or scal_fo

def ord (s : List UInt8) (n : Int) (g : Nat) (i : Nat) : MapEntry := ⟨.string (bs s), .agg #[.int .i64 n, .func (.func g) #[] #[]], i⟩
def ordL : Array MapEntry := #[ord [115, 101, 116] 3 119 0, ord [116, 117, 114, 110] 0 120 1, ord [109, 105, 114, 114, 111, 114] 0 121 2, ord [105, 110, 118, 101, 114, 116] 0 122 3, ord [102, 105, 108, 108] 0 123 4, ord [115, 104, 111, 119] 0 124 5, ord [114, 117, 110] 2 125 6, ord [108, 97, 110, 100] 1 126 7, ord [112, 101, 97, 107, 115] 0 127 8, ord [115, 101, 101, 115] 3 128 9, ord [110, 97, 109, 101] 4 129 10, ord [109, 97, 112] 0 130 11, ord [112, 108, 97, 99, 101] 2 131 12]

def OrdAt (w : World) (b : Nat) : Prop := w.heap[b]? = some (.map ordL 13)
theorem OrdAt.ext {w w' : World} {b : Nat} (h : OrdAt w b) (x : Ext w w') : OrdAt w' b := by
  unfold OrdAt; rw [Below.block x b (Array.getElem?_eq_some_iff.1 h).1]; exact h
theorem orders_c (w : World) : Ret Tryz.prog 94 #[] w fun v w' => ∃ b, v = .map (some b) ∧ Ext w w' ∧ OrdAt w' b := by
  refine enter0 Tryz.func94 rfl (by kernel_rfl) fun f => ?_
  simp (disch := omega) only [go_sem, Nat.reduceEqDiff, ↓reduceIte, Nat.reduceAdd]
  refine mmK_of fun w0 b e1 x1 h0 _ => ?_
  have hb : w.heap.size ≤ b := by omega
  simp (disch := omega) only [go_sem, Nat.reduceEqDiff, ↓reduceIte, Nat.reduceAdd]
  refine insK_new key_or h0 rfl fun w1 h0 g => ?_
  have x1 := g.ext x1 hb
  simp (disch := omega) only [go_sem, Nat.reduceEqDiff, ↓reduceIte, Nat.reduceAdd]
  refine insK_new key_or h0 rfl fun w2 h0 g => ?_
  have x1 := g.ext x1 hb
  simp (disch := omega) only [go_sem, Nat.reduceEqDiff, ↓reduceIte, Nat.reduceAdd]
  refine insK_new key_or h0 rfl fun w3 h0 g => ?_
  have x1 := g.ext x1 hb
  simp (disch := omega) only [go_sem, Nat.reduceEqDiff, ↓reduceIte, Nat.reduceAdd]
  refine insK_new key_or h0 rfl fun w4 h0 g => ?_
  have x1 := g.ext x1 hb
  simp (disch := omega) only [go_sem, Nat.reduceEqDiff, ↓reduceIte, Nat.reduceAdd]
  refine insK_new key_or h0 rfl fun w5 h0 g => ?_
  have x1 := g.ext x1 hb
  simp (disch := omega) only [go_sem, Nat.reduceEqDiff, ↓reduceIte, Nat.reduceAdd]
  refine insK_new key_or h0 rfl fun w6 h0 g => ?_
  have x1 := g.ext x1 hb
  simp (disch := omega) only [go_sem, Nat.reduceEqDiff, ↓reduceIte, Nat.reduceAdd]
  refine insK_new key_or h0 rfl fun w7 h0 g => ?_
  have x1 := g.ext x1 hb
  simp (disch := omega) only [go_sem, Nat.reduceEqDiff, ↓reduceIte, Nat.reduceAdd]
  refine insK_new key_or h0 rfl fun w8 h0 g => ?_
  have x1 := g.ext x1 hb
  simp (disch := omega) only [go_sem, Nat.reduceEqDiff, ↓reduceIte, Nat.reduceAdd]
  refine insK_new key_or h0 rfl fun w9 h0 g => ?_
  have x1 := g.ext x1 hb
  simp (disch := omega) only [go_sem, Nat.reduceEqDiff, ↓reduceIte, Nat.reduceAdd]
  refine insK_new key_or h0 rfl fun w10 h0 g => ?_
  have x1 := g.ext x1 hb
  simp (disch := omega) only [go_sem, Nat.reduceEqDiff, ↓reduceIte, Nat.reduceAdd]
  refine insK_new key_or h0 rfl fun w11 h0 g => ?_
  have x1 := g.ext x1 hb
  simp (disch := omega) only [go_sem, Nat.reduceEqDiff, ↓reduceIte, Nat.reduceAdd]
  refine insK_new key_or h0 rfl fun w12 h0 g => ?_
  have x1 := g.ext x1 hb
  simp (disch := omega) only [go_sem, Nat.reduceEqDiff, ↓reduceIte, Nat.reduceAdd]
  refine insK_new key_or h0 rfl fun w13 h0 g => ?_
  have x1 := g.ext x1 hb
  simp (disch := omega) only [go_sem, Nat.reduceEqDiff, ↓reduceIte, Nat.reduceAdd, Tryz.results94]
  exact ⟨b, rfl, x1, h0⟩

theorem become_c (d : Nat) (x y : Value) (a : Option Addr) (n c : Nat) (w : World) (k : Blk w d #[x, y] 51) :
    Ret Tryz.prog 92 #[.pointer (some ⟨d, 0, none⟩), .slice a n c, .bool true] w fun v w' => v = .tuple #[.string (bs [111, 107, 10]), .bool true] ∧ Wrote d w w' ∧ Blk w' d #[.slice a n c, y] 51 := by
  refine enter3 Tryz.func92 rfl (by kernel_rfl) (of_decide_eq_true (by kernel_rfl)) fun f a0 a1 a2 => ?_
  simp (disch := omega) only [go_sem, Nat.reduceEqDiff, ↓reduceIte, Nat.reduceAdd, a0, a1, a2]
  refine stK_blk siz_ii (by rfl) (by rfl) k (by simp) fun w1 k1 g1 => ?_
  simp (disch := omega) only [go_sem, Nat.reduceEqDiff, ↓reduceIte, Nat.reduceAdd, Tryz.results92]
  exact ⟨trivial, g1, by simpa using k1⟩

theorem obey_c (d : Nat) (l word : List UInt8) (nums : List Nat) (i g : Nat) (w : World) (R : Value → World → World → Prop) (hl : l.length ≤ 1000) (hg : Lib.hasPrefix l grd = false) (hs : spl 32 l = word :: nums.map dec)
    (hn : ∀ n ∈ nums, n < 100) (hl3 : nums.length ≤ 3)
    (hf : Instr.findNow .string (.string (bs word)) ordL.toList 0 = some (some (i, .agg #[.int .i64 nums.length, .func (.func g) #[] #[]]))) (hgo : goB Tryz.prog g = true)
    (hcall : ∀ W nb, Ext w W → Blk W nb (vi (nums.map Int.ofNat)).toArray 3 → Ret Tryz.prog g #[.pointer (some ⟨d, 0, none⟩), .slice (some ⟨nb, 0, none⟩) nums.length nums.length] W fun v W' => ∃ s b, v = .tuple #[.string s, .bool b] ∧ R v W W') :
    Ret Tryz.prog 65 #[.pointer (some ⟨d, 0, none⟩), .string (bs l)] w fun v w' => ∃ W, Ext w W ∧ R v W w' := by
  have hsl : (spl 32 l).length = nums.length + 1 := by rw [hs]; simp
  refine enter2 Tryz.func65 rfl (by kernel_rfl) (of_decide_eq_true (by kernel_rfl)) fun f a0 a1 => ?_
  simp (disch := omega) only [go_sem, Nat.reduceEqDiff, ↓reduceIte, Nat.reduceAdd, a1]
  refine callK_pure (by kernel_rfl) (cutPrefix_c l grd _) fun w1 x1 => ?_
  rw [hg]
  simp (disch := omega) only [go_sem, Nat.reduceEqDiff, ↓reduceIte, Nat.reduceAdd, a1]
  refine callK_of (by kernel_rfl) (split_c l 32 _ (by omega)) ?_
  rintro _ w3 ⟨sb, rfl, x3, esb, ks⟩
  rw [hsl]
  rw [hs] at ks
  have x13 := x1.trans x3
  have ex : Ext w3 w3 := Ext.refl _
  have lsb := ks.lt
  have hne : (((nums.length + 1 : Nat) : Int) != ((nums.length : Nat) : Int) + 1) = false := by rw [bne_eq_false_iff_eq]; omega
  have hwk : ∀ {W : World} {k : Nat}, k < nums.length → Ext w3 W → W.cell? ⟨sb, k + 1, none⟩ = some (.string (bs (dec (nums.getD k 0)))) := fun {W k} hk x => by
    rw [vst_cell (ks.ext x) (i := k + 1) (by simpa using hk)]
    simp [hk]
  have hw0 : ∀ {W : World}, Ext w3 W → W.cell? ⟨sb, 0, none⟩ = some (.string (bs word)) := fun x => vst_cell (ks.ext x) (i := 0) (by simp)
  simp (disch := omega) only [go_sem, Nat.reduceEqDiff, ↓reduceIte, Nat.reduceAdd]
  refine Go.SWP.QR_sch (fun k => w3.heap.size ≤ k) (.st 1 (.st 2 (.st 3 (.alt (.ef 0 (.alt (.ef 4 (.st 5 (.st 6 (.st 7 (.ef 8 (.ef 9 (.st 10 (.done)))))))) (.ef 8 (.ef 4 (.st 5 (.st 6 (.st 7 (.ef 9 (.st 10 (.done)))))))))) (.ef 8 (.ef 0 (.ef 4 (.st 5 (.st 6 (.st 7 (.ef 9 (.st 10 (.done))))))))))))) (by kernel_rfl) (by kernel_rfl) fun w0 x0 => ?_
  have sz := x0.size
  have X := ex.trans x0
  simp (disch := omega) only [go_sem, Nat.reduceEqDiff, ↓reduceIte, Nat.reduceAdd, hw0 x0]
  refine Go.SWP.RLT_alt ?_ ?_
  · simp (disch := omega) only [go_sem, Nat.reduceEqDiff, ↓reduceIte, Nat.reduceAdd, hw0 x0]
    refine callK_of (by kernel_rfl) (orders_c _) ?_
    rintro _ w4 ⟨mb, rfl, y1, hm⟩
    have x0 := x0.trans y1
    refine Go.SWP.nxE_of (y1.growP _) ?_
    have sz := y1.size
    have X := X.trans y1
    simp (disch := omega) only [go_sem, Nat.reduceEqDiff, ↓reduceIte, Nat.reduceAdd, hw0 x0]
    refine Go.SWP.RLT_alt ?_ ?_
    · simp (disch := omega) only [go_sem, Nat.reduceEqDiff, ↓reduceIte, Nat.reduceAdd, hw0 x0]
      refine lkK_some key_or hm hf ?_
      refine Go.SWP.nxE_of (GrowP.refl _ _) ?_
      simp (disch := omega) only [go_sem, Nat.reduceEqDiff, ↓reduceIte, Nat.reduceAdd, hw0 x0]
      refine allocK_of zero_or fun w4 qb eq y1 kq _ => ?_
      have x0 := x0.trans y1
      refine Go.SWP.nxE_of (y1.growP _) ?_
      have sz := y1.size
      have X := X.trans y1
      have hm := hm.ext y1
      simp (disch := omega) only [go_sem, Nat.reduceEqDiff, ↓reduceIte, Nat.reduceAdd, hw0 x0]
      refine stK_agg siz_or (by simp) (by simp [Value.oneCell']) kq (by simp) fun w4 kq g1 => ?_
      refine Go.SWP.nxE_of (g1.grow.growP fun x e => by cases e; omega) ?_
      have X := g1.ext X (by omega)
      simp (disch := omega) only [go_sem, Nat.reduceEqDiff, ↓reduceIte, Nat.reduceAdd, kq.cell, hne]
      refine mksK_of elt_i nums.length nums.length _ _ _ _ rfl rfl (Nat.le_refl _) (by omega) (by simp [maxLen]; omega) fun w5 nb e5 x5 o5 _ => ?_
      have sX := X.size
      have lq := kq.lt
      simp (disch := omega) only [go_sem, Nat.reduceEqDiff, ↓reduceIte, Nat.reduceAdd]
      refine loopN nums.length (fun k f W => f 0 = .pointer (some ⟨d, 0, none⟩) ∧ f 8 = .slice (some ⟨sb, 0, none⟩) (nums.length + 1) (nums.length + 1) ∧ f 9 = .pointer (some ⟨qb, 0, none⟩) ∧ f 11 = .slice (some ⟨nb, 0, none⟩) nums.length nums.length ∧ f 53 = .int .i64 nums.length ∧ f 54 = .int .i64 k ∧ Ext w3 W ∧ Blk W qb #[.int .i64 nums.length, .func (.func g) #[] #[]] 130 ∧ ∃ ys, OwnS W 3 1 (some ⟨nb, 0, none⟩) nums.length nums.length ys ∧ ∀ j, j < k → ys[j]? = some (.int .i64 (nums.getD j 0 : Nat))) ⟨(by first | assumption | (simp only [upd_apply, Nat.reduceEqDiff, ↓reduceIte] <;> first | rfl | assumption) | simp [upd_apply, *]), (by first | assumption | (simp only [upd_apply, Nat.reduceEqDiff, ↓reduceIte] <;> first | rfl | assumption) | simp [upd_apply, *]), (by first | assumption | (simp only [upd_apply, Nat.reduceEqDiff, ↓reduceIte] <;> first | rfl | assumption) | simp [upd_apply, *]), (by first | assumption | (simp only [upd_apply, Nat.reduceEqDiff, ↓reduceIte] <;> first | rfl | assumption) | simp [upd_apply, *]), (by first | assumption | (simp only [upd_apply, Nat.reduceEqDiff, ↓reduceIte] <;> first | rfl | assumption) | simp [upd_apply, *]), (by first | assumption | (simp only [upd_apply, Nat.reduceEqDiff, ↓reduceIte] <;> first | rfl | assumption) | simp [upd_apply, *]), X.trans x5, kq.ext x5, _, o5, fun j hj => by omega⟩ fun k f W hk ⟨a0, a8, a9, a11, a53, a54, xw, kq, ys, oy, hy⟩ => ?_
      by_cases hlt : (k : Int) < (nums.length : Int)
      · have hkn : k < nums.length := by omega
        have ek : (k : Int) + 1 = ((k + 1 : Nat) : Int) := by omega
        have hcw := hwk hkn xw
        have hnk := hn _ (getD_mem (d := 0) hkn)
        simp (disch := omega) only [go_sem, Nat.reduceEqDiff, ↓reduceIte, Nat.reduceAdd, a8, a11, a53, a54, hlt, ek, hcw]
        refine callK_pure (by kernel_rfl) (numberOf_c (nums.getD k 0) hnk _) fun w6 x6 => ?_
        simp (disch := omega) only [go_sem, Nat.reduceEqDiff, ↓reduceIte, Nat.reduceAdd]
        refine stK_own siz_int (by rfl) (by rfl) (oy.ext x6) (by omega) fun w7 o7 g7 => ?_
        simp (disch := omega) only [go_sem, Nat.reduceEqDiff, ↓reduceIte, Nat.reduceAdd, a54, ek]
        exact ⟨by omega, (by first | assumption | (simp only [upd_apply, Nat.reduceEqDiff, ↓reduceIte] <;> first | rfl | assumption) | simp [upd_apply, *]), (by first | assumption | (simp only [upd_apply, Nat.reduceEqDiff, ↓reduceIte] <;> first | rfl | assumption) | simp [upd_apply, *]), (by first | assumption | (simp only [upd_apply, Nat.reduceEqDiff, ↓reduceIte] <;> first | rfl | assumption) | simp [upd_apply, *]), (by first | assumption | (simp only [upd_apply, Nat.reduceEqDiff, ↓reduceIte] <;> first | rfl | assumption) | simp [upd_apply, *]), (by first | assumption | (simp only [upd_apply, Nat.reduceEqDiff, ↓reduceIte] <;> first | rfl | assumption) | simp [upd_apply, *]), (by first | assumption | (simp only [upd_apply, Nat.reduceEqDiff, ↓reduceIte] <;> first | rfl | assumption) | simp [upd_apply, *]), g7.ext (xw.trans x6) (by omega), g7.blk (kq.ext x6) (by omega), _, o7, set_get (fun j => .int .i64 (nums.getD j 0 : Nat)) (by rw [oy.1]; omega) rfl hy⟩
      · obtain rfl : k = nums.length := by omega
        obtain ⟨cs, kb, hcs, hcl⟩ := oy.toBlk
        have ev : ys = vi (nums.map Int.ofNat) := vi_ext (by rw [oy.1, List.length_map]; omega) fun j hj => by rw [hy j (by simpa using hj)]; simp [show j < nums.length by simpa using hj]
        have kb' : Blk W nb (vi (nums.map Int.ofNat)).toArray 3 := by rw [← ev, ← hcl]; exact kb
        simp (disch := omega) only [go_sem, Nat.reduceEqDiff, ↓reduceIte, Nat.reduceAdd, a0, a9, a11, a53, a54, hlt, kq.cell]
        refine callK_of hgo (hcall W nb (x13.trans xw) kb') ?_
        rintro _ w8 ⟨s, b, rfl, hR⟩
        simp (disch := omega) only [go_sem, Nat.reduceEqDiff, ↓reduceIte, Nat.reduceAdd, Tryz.results65]
        exact ⟨W, x13.trans xw, hR⟩
    · simp (disch := omega) only [go_sem, Nat.reduceEqDiff, ↓reduceIte, Nat.reduceAdd, hw0 x0]
      refine allocK_of zero_or fun w4 qb eq y1 kq _ => ?_
      have x0 := x0.trans y1
      refine Go.SWP.nxE_of (y1.growP _) ?_
      have sz := y1.size
      have X := X.trans y1
      have hm := hm.ext y1
      simp (disch := omega) only [go_sem, Nat.reduceEqDiff, ↓reduceIte, Nat.reduceAdd, hw0 x0]
      refine lkK_some key_or hm hf ?_
      refine Go.SWP.nxE_of (GrowP.refl _ _) ?_
      simp (disch := omega) only [go_sem, Nat.reduceEqDiff, ↓reduceIte, Nat.reduceAdd, hw0 x0]
      refine stK_agg siz_or (by simp) (by simp [Value.oneCell']) kq (by simp) fun w4 kq g1 => ?_
      refine Go.SWP.nxE_of (g1.grow.growP fun x e => by cases e; omega) ?_
      have X := g1.ext X (by omega)
      simp (disch := omega) only [go_sem, Nat.reduceEqDiff, ↓reduceIte, Nat.reduceAdd, kq.cell, hne]
      refine mksK_of elt_i nums.length nums.length _ _ _ _ rfl rfl (Nat.le_refl _) (by omega) (by simp [maxLen]; omega) fun w5 nb e5 x5 o5 _ => ?_
      have sX := X.size
      have lq := kq.lt
      simp (disch := omega) only [go_sem, Nat.reduceEqDiff, ↓reduceIte, Nat.reduceAdd]
      refine loopN nums.length (fun k f W => f 0 = .pointer (some ⟨d, 0, none⟩) ∧ f 8 = .slice (some ⟨sb, 0, none⟩) (nums.length + 1) (nums.length + 1) ∧ f 9 = .pointer (some ⟨qb, 0, none⟩) ∧ f 11 = .slice (some ⟨nb, 0, none⟩) nums.length nums.length ∧ f 53 = .int .i64 nums.length ∧ f 54 = .int .i64 k ∧ Ext w3 W ∧ Blk W qb #[.int .i64 nums.length, .func (.func g) #[] #[]] 130 ∧ ∃ ys, OwnS W 3 1 (some ⟨nb, 0, none⟩) nums.length nums.length ys ∧ ∀ j, j < k → ys[j]? = some (.int .i64 (nums.getD j 0 : Nat))) ⟨(by first | assumption | (simp only [upd_apply, Nat.reduceEqDiff, ↓reduceIte] <;> first | rfl | assumption) | simp [upd_apply, *]), (by first | assumption | (simp only [upd_apply, Nat.reduceEqDiff, ↓reduceIte] <;> first | rfl | assumption) | simp [upd_apply, *]), (by first | assumption | (simp only [upd_apply, Nat.reduceEqDiff, ↓reduceIte] <;> first | rfl | assumption) | simp [upd_apply, *]), (by first | assumption | (simp only [upd_apply, Nat.reduceEqDiff, ↓reduceIte] <;> first | rfl | assumption) | simp [upd_apply, *]), (by first | assumption | (simp only [upd_apply, Nat.reduceEqDiff, ↓reduceIte] <;> first | rfl | assumption) | simp [upd_apply, *]), (by first | assumption | (simp only [upd_apply, Nat.reduceEqDiff, ↓reduceIte] <;> first | rfl | assumption) | simp [upd_apply, *]), X.trans x5, kq.ext x5, _, o5, fun j hj => by omega⟩ fun k f W hk ⟨a0, a8, a9, a11, a53, a54, xw, kq, ys, oy, hy⟩ => ?_
      by_cases hlt : (k : Int) < (nums.length : Int)
      · have hkn : k < nums.length := by omega
        have ek : (k : Int) + 1 = ((k + 1 : Nat) : Int) := by omega
        have hcw := hwk hkn xw
        have hnk := hn _ (getD_mem (d := 0) hkn)
        simp (disch := omega) only [go_sem, Nat.reduceEqDiff, ↓reduceIte, Nat.reduceAdd, a8, a11, a53, a54, hlt, ek, hcw]
        refine callK_pure (by kernel_rfl) (numberOf_c (nums.getD k 0) hnk _) fun w6 x6 => ?_
        simp (disch := omega) only [go_sem, Nat.reduceEqDiff, ↓reduceIte, Nat.reduceAdd]
        refine stK_own siz_int (by rfl) (by rfl) (oy.ext x6) (by omega) fun w7 o7 g7 => ?_
        simp (disch := omega) only [go_sem, Nat.reduceEqDiff, ↓reduceIte, Nat.reduceAdd, a54, ek]
        exact ⟨by omega, (by first | assumption | (simp only [upd_apply, Nat.reduceEqDiff, ↓reduceIte] <;> first | rfl | assumption) | simp [upd_apply, *]), (by first | assumption | (simp only [upd_apply, Nat.reduceEqDiff, ↓reduceIte] <;> first | rfl | assumption) | simp [upd_apply, *]), (by first | assumption | (simp only [upd_apply, Nat.reduceEqDiff, ↓reduceIte] <;> first | rfl | assumption) | simp [upd_apply, *]), (by first | assumption | (simp only [upd_apply, Nat.reduceEqDiff, ↓reduceIte] <;> first | rfl | assumption) | simp [upd_apply, *]), (by first | assumption | (simp only [upd_apply, Nat.reduceEqDiff, ↓reduceIte] <;> first | rfl | assumption) | simp [upd_apply, *]), (by first | assumption | (simp only [upd_apply, Nat.reduceEqDiff, ↓reduceIte] <;> first | rfl | assumption) | simp [upd_apply, *]), g7.ext (xw.trans x6) (by omega), g7.blk (kq.ext x6) (by omega), _, o7, set_get (fun j => .int .i64 (nums.getD j 0 : Nat)) (by rw [oy.1]; omega) rfl hy⟩
      · obtain rfl : k = nums.length := by omega
        obtain ⟨cs, kb, hcs, hcl⟩ := oy.toBlk
        have ev : ys = vi (nums.map Int.ofNat) := vi_ext (by rw [oy.1, List.length_map]; omega) fun j hj => by rw [hy j (by simpa using hj)]; simp [show j < nums.length by simpa using hj]
        have kb' : Blk W nb (vi (nums.map Int.ofNat)).toArray 3 := by rw [← ev, ← hcl]; exact kb
        simp (disch := omega) only [go_sem, Nat.reduceEqDiff, ↓reduceIte, Nat.reduceAdd, a0, a9, a11, a53, a54, hlt, kq.cell]
        refine callK_of hgo (hcall W nb (x13.trans xw) kb') ?_
        rintro _ w8 ⟨s, b, rfl, hR⟩
        simp (disch := omega) only [go_sem, Nat.reduceEqDiff, ↓reduceIte, Nat.reduceAdd, Tryz.results65]
        exact ⟨W, x13.trans xw, hR⟩
  · simp (disch := omega) only [go_sem, Nat.reduceEqDiff, ↓reduceIte, Nat.reduceAdd, hw0 x0]
    refine allocK_of zero_or fun w4 qb eq y1 kq _ => ?_
    have x0 := x0.trans y1
    refine Go.SWP.nxE_of (y1.growP _) ?_
    have sz := y1.size
    have X := X.trans y1
    simp (disch := omega) only [go_sem, Nat.reduceEqDiff, ↓reduceIte, Nat.reduceAdd, hw0 x0]
    refine callK_of (by kernel_rfl) (orders_c _) ?_
    rintro _ w4 ⟨mb, rfl, y1, hm⟩
    have x0 := x0.trans y1
    refine Go.SWP.nxE_of (y1.growP _) ?_
    have sz := y1.size
    have X := X.trans y1
    have kq := kq.ext y1
    simp (disch := omega) only [go_sem, Nat.reduceEqDiff, ↓reduceIte, Nat.reduceAdd, hw0 x0]
    refine lkK_some key_or hm hf ?_
    refine Go.SWP.nxE_of (GrowP.refl _ _) ?_
    simp (disch := omega) only [go_sem, Nat.reduceEqDiff, ↓reduceIte, Nat.reduceAdd, hw0 x0]
    refine stK_agg siz_or (by simp) (by simp [Value.oneCell']) kq (by simp) fun w4 kq g1 => ?_
    refine Go.SWP.nxE_of (g1.grow.growP fun x e => by cases e; omega) ?_
    have X := g1.ext X (by omega)
    simp (disch := omega) only [go_sem, Nat.reduceEqDiff, ↓reduceIte, Nat.reduceAdd, kq.cell, hne]
    refine mksK_of elt_i nums.length nums.length _ _ _ _ rfl rfl (Nat.le_refl _) (by omega) (by simp [maxLen]; omega) fun w5 nb e5 x5 o5 _ => ?_
    have sX := X.size
    have lq := kq.lt
    simp (disch := omega) only [go_sem, Nat.reduceEqDiff, ↓reduceIte, Nat.reduceAdd]
    refine loopN nums.length (fun k f W => f 0 = .pointer (some ⟨d, 0, none⟩) ∧ f 8 = .slice (some ⟨sb, 0, none⟩) (nums.length + 1) (nums.length + 1) ∧ f 9 = .pointer (some ⟨qb, 0, none⟩) ∧ f 11 = .slice (some ⟨nb, 0, none⟩) nums.length nums.length ∧ f 53 = .int .i64 nums.length ∧ f 54 = .int .i64 k ∧ Ext w3 W ∧ Blk W qb #[.int .i64 nums.length, .func (.func g) #[] #[]] 130 ∧ ∃ ys, OwnS W 3 1 (some ⟨nb, 0, none⟩) nums.length nums.length ys ∧ ∀ j, j < k → ys[j]? = some (.int .i64 (nums.getD j 0 : Nat))) ⟨(by first | assumption | (simp only [upd_apply, Nat.reduceEqDiff, ↓reduceIte] <;> first | rfl | assumption) | simp [upd_apply, *]), (by first | assumption | (simp only [upd_apply, Nat.reduceEqDiff, ↓reduceIte] <;> first | rfl | assumption) | simp [upd_apply, *]), (by first | assumption | (simp only [upd_apply, Nat.reduceEqDiff, ↓reduceIte] <;> first | rfl | assumption) | simp [upd_apply, *]), (by first | assumption | (simp only [upd_apply, Nat.reduceEqDiff, ↓reduceIte] <;> first | rfl | assumption) | simp [upd_apply, *]), (by first | assumption | (simp only [upd_apply, Nat.reduceEqDiff, ↓reduceIte] <;> first | rfl | assumption) | simp [upd_apply, *]), (by first | assumption | (simp only [upd_apply, Nat.reduceEqDiff, ↓reduceIte] <;> first | rfl | assumption) | simp [upd_apply, *]), X.trans x5, kq.ext x5, _, o5, fun j hj => by omega⟩ fun k f W hk ⟨a0, a8, a9, a11, a53, a54, xw, kq, ys, oy, hy⟩ => ?_
    by_cases hlt : (k : Int) < (nums.length : Int)
    · have hkn : k < nums.length := by omega
      have ek : (k : Int) + 1 = ((k + 1 : Nat) : Int) := by omega
      have hcw := hwk hkn xw
      have hnk := hn _ (getD_mem (d := 0) hkn)
      simp (disch := omega) only [go_sem, Nat.reduceEqDiff, ↓reduceIte, Nat.reduceAdd, a8, a11, a53, a54, hlt, ek, hcw]
      refine callK_pure (by kernel_rfl) (numberOf_c (nums.getD k 0) hnk _) fun w6 x6 => ?_
      simp (disch := omega) only [go_sem, Nat.reduceEqDiff, ↓reduceIte, Nat.reduceAdd]
      refine stK_own siz_int (by rfl) (by rfl) (oy.ext x6) (by omega) fun w7 o7 g7 => ?_
      simp (disch := omega) only [go_sem, Nat.reduceEqDiff, ↓reduceIte, Nat.reduceAdd, a54, ek]
      exact ⟨by omega, (by first | assumption | (simp only [upd_apply, Nat.reduceEqDiff, ↓reduceIte] <;> first | rfl | assumption) | simp [upd_apply, *]), (by first | assumption | (simp only [upd_apply, Nat.reduceEqDiff, ↓reduceIte] <;> first | rfl | assumption) | simp [upd_apply, *]), (by first | assumption | (simp only [upd_apply, Nat.reduceEqDiff, ↓reduceIte] <;> first | rfl | assumption) | simp [upd_apply, *]), (by first | assumption | (simp only [upd_apply, Nat.reduceEqDiff, ↓reduceIte] <;> first | rfl | assumption) | simp [upd_apply, *]), (by first | assumption | (simp only [upd_apply, Nat.reduceEqDiff, ↓reduceIte] <;> first | rfl | assumption) | simp [upd_apply, *]), (by first | assumption | (simp only [upd_apply, Nat.reduceEqDiff, ↓reduceIte] <;> first | rfl | assumption) | simp [upd_apply, *]), g7.ext (xw.trans x6) (by omega), g7.blk (kq.ext x6) (by omega), _, o7, set_get (fun j => .int .i64 (nums.getD j 0 : Nat)) (by rw [oy.1]; omega) rfl hy⟩
    · obtain rfl : k = nums.length := by omega
      obtain ⟨cs, kb, hcs, hcl⟩ := oy.toBlk
      have ev : ys = vi (nums.map Int.ofNat) := vi_ext (by rw [oy.1, List.length_map]; omega) fun j hj => by rw [hy j (by simpa using hj)]; simp [show j < nums.length by simpa using hj]
      have kb' : Blk W nb (vi (nums.map Int.ofNat)).toArray 3 := by rw [← ev, ← hcl]; exact kb
      simp (disch := omega) only [go_sem, Nat.reduceEqDiff, ↓reduceIte, Nat.reduceAdd, a0, a9, a11, a53, a54, hlt, kq.cell]
      refine callK_of hgo (hcall W nb (x13.trans xw) kb') ?_
      rintro _ w8 ⟨s, b, rfl, hR⟩
      simp (disch := omega) only [go_sem, Nat.reduceEqDiff, ↓reduceIte, Nat.reduceAdd, Tryz.results65]
      exact ⟨W, x13.trans xw, hR⟩
end Go.Proofs.YtcbmhjndbpafbaaGreatDoor

/- A line with a grid; a line that asks for a run; what a line answers. -/
namespace Go.Proofs.YtcbmhjndbpafbaaGreatDoor
open Go.RowKit Go.SW

/-- A desk's new grid, made by a call. -/
theorem desk_new {W W1 : World} {d b : Nat} {n0 : Nat} {rows : List (List Int)} {A : Nat → Option Addr} {X : Nat → Prop} (v : Valid rows) (or : OwnRows W 35 3 n0 b rows A) (g : Wrote d W W1) (k : Blk W1 d #[.slice (some ⟨b, 0, none⟩) rows.length rows.length, .slice none 0 0] 51) (hX : ∀ x, X x → x < n0) (hd : d < n0) : Desk W1 51 d rows X := by
  have hR7 := v.r7
  have hC7 := v.c7
  have hr : RowsAt W (some ⟨b, 0, none⟩) rows A _ := or.at (fun l hl x hx => by have := v.rng l hl x hx; exact ⟨by omega, by omega⟩) (by simp [maxLen]; omega) fun l hl => by rw [v.rlen l hl]; simp [maxLen]; omega
  obtain ⟨xs, ot, _⟩ := or.top
  have hb := or.hb
  have s := g.size
  refine ⟨_, A, _, _, k, hr.kept (fun x hx _ => ?_) (fun i hi x hx _ => ?_), fun x hx => ?_, fun i hi x hx => ?_⟩
  · simp only [blk_some, Option.some.injEq] at hx
    exact g.other x (by omega)
  · obtain ⟨br, h1, h2, h3, oo⟩ := or.row i hi
    rw [h1] at hx
    simp only [blk_some, Option.some.injEq] at hx
    exact g.other x (by omega)
  · have hlt := ot.blk_lt hx
    simp only [blk_some, Option.some.injEq] at hx
    exact ⟨fun e => by have := hX x e; omega, by omega, by omega⟩
  · obtain ⟨br, h1, h2, h3, oo⟩ := or.row i hi
    have hlt := oo.blk_lt hx
    rw [h1] at hx
    simp only [blk_some, Option.some.injEq] at hx
    exact ⟨fun e => by have := hX x e; omega, by omega, by omega⟩

theorem obeyGrid_c (d : Nat) (rows rows' : List (List Int)) (X : Nat → Prop) (w : World) (hd : Desk w 51 d rows X) (hX : ∀ x, X x → x < w.heap.size) (hgv : gvalid rows' = true) :
    Ret Tryz.prog 65 #[.pointer (some ⟨d, 0, none⟩), .string (bs (grd ++ gtext rows'))] w fun v w' => v = .tuple #[.string (bs [111, 107, 10]), .bool true] ∧ Grow (some d) w w' ∧ Desk w' 51 d rows' X := by
  obtain ⟨a, A, Cp, gc, k, r, h1, h2⟩ := hd.ex
  have v := (gvalid_iff rows').1 hgv
  refine enter2 Tryz.func65 rfl (by kernel_rfl) (of_decide_eq_true (by kernel_rfl)) fun f a0 a1 => ?_
  simp (disch := omega) only [go_sem, Nat.reduceEqDiff, ↓reduceIte, Nat.reduceAdd, a1]
  refine callK_pure (by kernel_rfl) (cutPrefix_c _ grd _) fun w1 x1 => ?_
  rw [(grd_pre _).1, (grd_pre _).2]
  simp (disch := omega) only [go_sem, Nat.reduceEqDiff, ↓reduceIte, Nat.reduceAdd, a0]
  refine callK_of (by kernel_rfl) (implGridFrom_c rows' hgv _) ?_
  rintro _ w2 ⟨b, A', rfl, x2, or⟩
  have s1 := x1.size
  have ld := k.lt
  simp (disch := omega) only [go_sem, Nat.reduceEqDiff, ↓reduceIte, Nat.reduceAdd, a0]
  refine callK_of (by kernel_rfl) (become_c d _ _ _ _ _ _ ((k.ext x1).ext x2)) ?_
  rintro _ w3 ⟨rfl, g3, k3⟩
  simp (disch := omega) only [go_sem, Nat.reduceEqDiff, ↓reduceIte, Nat.reduceAdd, Tryz.results65]
  exact ⟨trivial, ((x1.trans x2).grow _).trans g3.grow, desk_new v or g3 k3 (fun x hx => by have := hX x hx; omega) (by omega)⟩

theorem vi_cell {w : World} {b : Nat} {l : List Int} {T : TypeId} (k : Blk w b (vi l).toArray T) {i : Nat} (h : i < l.length) : w.cell? ⟨b, i, none⟩ = some (.int .i64 (l.getD i 0)) := by
  rw [k.cell, List.getElem?_toArray, vi_get l i h]

theorem deskRun_c (d nb r c : Nat) (rows : List (List Int)) (X : Nat → Prop) (w : World) (hd : Desk w 51 d rows X) (kn : Blk w nb (vi [(r : Int), (c : Int)]).toArray 3) (hcells : (ni (runOf rows r c)).length ≤ 1000) (hr : ∀ x ∈ ni (runOf rows r c), 0 ≤ x ∧ x ≤ 99) :
    Ret Tryz.prog 125 #[.pointer (some ⟨d, 0, none⟩), .slice (some ⟨nb, 0, none⟩) 2 2] w fun v w' => v = .tuple #[.string (bs (sp (ni (runOf rows r c)) ++ [10])), .bool (cellok rows r c)] ∧ Ext w w' := by
  obtain ⟨a, A, Cp, gc, k, rr, h1, h2⟩ := hd.ex
  have n0 : ∀ {W : World}, Ext w W → W.cell? ⟨nb, 0, none⟩ = some (.int .i64 r) := fun x => vi_cell (kn.ext x) (i := 0) (by simp)
  have n1 : ∀ {W : World}, Ext w W → W.cell? ⟨nb, 1, none⟩ = some (.int .i64 c) := fun x => vi_cell (kn.ext x) (i := 1) (by simp)
  refine enter2 Tryz.func125 rfl (by kernel_rfl) (of_decide_eq_true (by kernel_rfl)) fun f a0 a1 => ?_
  have ex : Ext w w := Ext.refl _
  simp (disch := omega) only [go_sem, Nat.reduceEqDiff, ↓reduceIte, Nat.reduceAdd]
  refine QR_sch none (.st 0 (.st 1 (.st 2 (.st 3 (.st 4 (.st 5 (.st 6 (.st 7 (.st 8 (.st 9 (.ef 10 (.st 11 (.st 12 (.st 13 (.st 14 (.st 15 (.done))))))))))))))))) (by kernel_rfl) (by kernel_rfl) fun w0 x0 => ?_
  have X := ex.trans x0
  have k := k.ext x0
  simp (disch := omega) only [go_sem, Nat.reduceEqDiff, ↓reduceIte, Nat.reduceAdd, a0, a1, k.cell, n0 x0, n1 x0, Int.reduceToNat, ldS_none]
  refine callK_of (by kernel_rfl) (waterRun_c _ _ _ _ _ _ _ _ (rr.ext X)) ?_
  rintro _ w1 ⟨ra, rc, rfl, oo, hra, y1⟩
  refine nxE_of (y1.grow _) ?_
  have X := X.trans y1
  have k := k.ext y1
  skip
  simp (disch := omega) only [go_sem, Nat.reduceEqDiff, ↓reduceIte, Nat.reduceAdd]
  refine callK_pure (by kernel_rfl) (implSpaced_c ra _ rc _ oo.ints hcells hr) fun w2 x2 => ?_
  simp (disch := omega) only [go_sem, Nat.reduceEqDiff, ↓reduceIte, Nat.reduceAdd, Tryz.results125]
  exact ⟨trivial, X.trans x2⟩

theorem answerIdle_c (p : Addr) (w : World) : CallsD Tryz.prog 64 #[.pointer (some p)] .returning w fun e u' w' => e = .returned (.tuple #[]) ∧ u' = .returning ∧ w' = w := by
  refine callsD_of_wpS Tryz.func64 rfl fun c₀ cs hu => ?_
  apply wpS_seq
  apply wpS_region
  simp [wpOpsS, go_sem, recoverD, hu, Tryz.ntmps64, Exit.thenS]
  apply wpS_seq
  apply wpS_region
  simp [wpOpsS, go_sem, Exit.thenS]
  refine wpS_cond (t := false) (by simp [Act.eval, Array.replicate]) ?_
  simp only [Bool.false_eq_true, if_false]
  refine wpS_of_wp (wp_skip ?_)
  cases c₀
  simp_all [bodyPostS, results, Tryz.results64]

theorem answer_c (d : Nat) (l out : List UInt8) (w : World) (R : World → World → Prop) (hR : ∀ W, Ext w W → W.heap.size = w.heap.size + 1 → Ret Tryz.prog 65 #[.pointer (some ⟨d, 0, none⟩), .string (bs l)] W fun v w' => v = .tuple #[.string (bs out), .bool true] ∧ Grow (some d) W w' ∧ R W w') (hdw : d < w.heap.size) :
    Ret Tryz.prog 32 #[.pointer (some ⟨d, 0, none⟩), .string (bs l)] w fun v w' => v = .string (bs out) ∧ ∃ W W', Ext w W ∧ Grow (some d) W W' ∧ R W W' ∧ Wrote w.heap.size W' w' := by
  have hmf : ∀ (fn : Fn) (first cap : Array Value) (w : World), (Instr.makeFunc fn first cap).run Tryz.prog w = .ok (.func fn first cap) w := fun _ _ _ _ => rfl
  unfold Ret
  go_enter_defers Tryz.func32, Tryz.ntmps32
  go_wp2_with (go_at_call 65; refine Calls.mono (hR _ (ext_alloc w _) (by simp)) ?_; rintro e w2 ⟨v, rfl, rfl, g, hr⟩; have k2 := g.blk (heap_alloc_new w (.cells #[.string (bs [])] 9) : Blk (w.alloc (.cells #[.string (bs [])] 9)) w.heap.size #[.string (bs [])] 9) (by simp; omega); have hc : w2.cell? ⟨w.heap.size, 0, none⟩ = some (.string (bs [])) := (by rw [k2.cell]; rfl); have hz : w2.frozen? ⟨w.heap.size, 0, none⟩ = false := k2.frozen 0)
  have k3 := Blk.put k2 0 (.string (bs out))
  have hc3 : (w2.setCell ⟨w.heap.size, 0, none⟩ (.string (bs out))).cell? ⟨w.heap.size, 0, none⟩ = some (.string (bs out)) := by rw [k3.cell]; rfl
  refine leaves_cons (f := 64) (args := #[.pointer (some ⟨w.heap.size, 0, none⟩)]) (by simp) (by simp [go_sem]) ?_
  refine (answerIdle_c ⟨w.heap.size, 0, none⟩ _).mono ?_
  rintro e u' w'' ⟨rfl, rfl, rfl⟩
  have fin : ∃ W W', Ext w W ∧ Grow (some d) W W' ∧ R W W' ∧ Wrote w.heap.size W' (w2.setCell ⟨w.heap.size, 0, none⟩ (.string (bs out))) := ⟨_, w2, ext_alloc w _, g, hr, wrote_setCell w2 ⟨w.heap.size, 0, none⟩ _⟩
  obtain ⟨W, W', f1, f2, f3, f4⟩ := fin
  simp [Leaves, settle, results, Tryz.results32, go_sem, hc3]
  exact ⟨W, f1, W', f2, f3, f4⟩

/-- A line and its answer, by what the desk holds. -/
def Ans (l out : List UInt8) (rows rows' : List (List Int)) : Prop :=
  ∀ (d : Nat) (X : Nat → Prop) (w : World), Desk w 51 d rows X → (∀ x, X x → x < w.heap.size ∧ x ≠ d) →
    Ret Tryz.prog 32 #[.pointer (some ⟨d, 0, none⟩), .string (bs l)] w fun v w' => v = .string (bs out) ∧ Grow (some d) w w' ∧ Desk w' 51 d rows' X
theorem ans_of {l out : List UInt8} {rows rows' : List (List Int)} (h : ∀ (d : Nat) (X : Nat → Prop) (w : World), Desk w 51 d rows X → (∀ x, X x → x < w.heap.size) →
    Ret Tryz.prog 65 #[.pointer (some ⟨d, 0, none⟩), .string (bs l)] w fun v w' => v = .tuple #[.string (bs out), .bool true] ∧ Grow (some d) w w' ∧ Desk w' 51 d rows' X) : Ans l out rows rows' := by
  intro d X w dk hX
  obtain ⟨a, A, Cp, gc, k, r, h1, h2⟩ := dk.ex
  have hd := k.lt
  refine Ret.mono (answer_c d l out w (fun _ W' => Desk W' 51 d rows' (fun x => X x ∨ x = w.heap.size)) (fun W e hs => ?_) hd) fun v w' ⟨hv, W, W', e, g, hr, gw⟩ => ⟨hv, ?_, ?_⟩
  · have dk' : Desk W 51 d rows (fun x => X x ∨ x = w.heap.size) := (dk.avoid fun y hy => hy.elim .inl fun e => .inr (by omega)).ext e
    exact h d _ W dk' fun x hx => hx.elim (fun hx => by have := (hX x hx).1; omega) (fun e => by omega)
  · exact ((e.grow _).trans g).fresh gw.grow fun b hb => by cases hb; exact Nat.le_refl _
  · exact (hr.grow (gw.grow.growP (X := fun x => x = w.heap.size) fun x e => by cases e; rfl) (fun y hy => .inr hy) (by omega)).avoid fun y hy => .inl (.inl hy)

theorem ansGrid (rows rows' : List (List Int)) (hgv : gvalid rows' = true) : Ans (grd ++ gtext rows') [111, 107, 10] rows rows' :=
  ans_of fun d X w dk hX => obeyGrid_c d rows rows' X w dk hX hgv

theorem ansRun (rows : List (List Int)) (r c : Nat) (hr : r < 100) (hc : c < 100) (hok : cellok rows r c = true) : Ans ([114, 117, 110, 32] ++ dec r ++ [32] ++ dec c) (sp (ni (runOf rows r c)) ++ [10]) rows rows := by
  have hv : gvalid rows = true := by simp only [cellok, Bool.and_eq_true] at hok; exact hok.1
  have hrc : 0 ≤ (r : Int) ∧ (r : Int) < rows.length ∧ 0 ≤ (c : Int) ∧ (c : Int) < rowLen rows := by simp only [cellok, Bool.and_eq_true, decide_eq_true_eq] at hok; exact hok.2
  have g := ((gvalid_iff rows).1 hv).gd
  have hi : r * rowLen rows + c < rows.length * rowLen rows := by
    have := Nat.mul_le_mul_right (rowLen rows) (show r + 1 ≤ rows.length by omega)
    rw [Nat.succ_mul] at this
    omega
  have hrun : runOf rows r c = waterN rows.length (rowLen rows) (hgt rows) (r * rowLen rows + c) := by rw [runOf, if_pos hok]; simp
  have hn49 := g.le
  have hcells : ∀ x ∈ ni (runOf rows r c), 0 ≤ x ∧ x ≤ 99 := fun x hx => by
    rw [hrun] at hx
    obtain ⟨j, hj, rfl⟩ := List.mem_map.1 hx
    have := waterN_lt g _ hi j hj
    omega
  have hlen : (ni (runOf rows r c)).length ≤ 1000 := by
    rw [ni_len, hrun]
    have h1 := waterN_len g _ hi
    have h2 := g.hh _ hi
    omega
  have hd1 := dec_len2 hr
  have hd2 := dec_len2 hc
  have hs : spl 32 ([114, 117, 110, 32] ++ dec r ++ [32] ++ dec c) = [114, 117, 110] :: [r, c].map dec := by
    have e : ([114, 117, 110, 32] ++ dec r ++ [32] ++ dec c : List UInt8) = [114, 117, 110] ++ 32 :: (dec r ++ 32 :: dec c) := by simp
    rw [e, spl_app (by decide), spl_app (dec_nospace hr), spl_none (dec_nospace hc)]; rfl
  refine ans_of fun d X w dk hX => ?_
  refine Ret.mono (obey_c d _ [114, 117, 110] [r, c] 6 125 w (fun v W W' => v = .tuple #[.string (bs (sp (ni (runOf rows r c)) ++ [10])), .bool true] ∧ Ext W W') (by simp; omega) (not_grd (by decide)).1 hs (by simp; omega) (by simp) rfl (by kernel_rfl) fun W nb e kn => ?_) fun v w' ⟨W, e, hv, e2⟩ => ⟨hv, (e.trans e2).grow _, (dk.ext e).ext e2⟩
  refine Ret.mono (deskRun_c d nb r c rows X W (dk.ext e) kn hlen hcells) fun v W' ⟨hv, e2⟩ => ⟨_, _, hv, by rw [hv, hok], e2⟩
end Go.Proofs.YtcbmhjndbpafbaaGreatDoor

/- A script is run: impl.Execute. -/
namespace Go.Proofs.YtcbmhjndbpafbaaGreatDoor
open Go.RowKit Go.SW

theorem scal_labs : scal Tryz.prog 33 = true := by kernel_rfl
attribute [go_sem] scal_labs

/-- Lines and what they answer, one behind the other. -/
def Scr : List (List UInt8) → List UInt8 → List (List Int) → List (List Int) → Prop
  | [], out, r, r' => out = [] ∧ r = r'
  | l :: L, out, r, r' => ∃ o1 o2 r1, out = o1 ++ o2 ∧ Ans l o1 r r1 ∧ Scr L o2 r1 r'

/-- The state of a run: the desk d, the builder bb, the lines sb. -/
def St (w W : World) (d bb sb : Nat) (cs : Array Value) (rows : List (List Int)) (l : List UInt8) : Prop :=
  ∃ bf, Bld W 56 5 bb l bf ∧ Desk W 51 d rows (fun x => x = bb ∨ bf = some x) ∧ (∀ x, bf = some x → x ≠ d ∧ x ≠ sb ∧ w.heap.size ≤ x) ∧ Ext w W ∧ Blk W sb cs 9 ∧ d ≠ bb ∧ sb ≠ bb ∧ sb ≠ d ∧ w.heap.size ≤ d ∧ w.heap.size ≤ bb

theorem St.ext {w W W' : World} {d bb sb : Nat} {cs : Array Value} {rows : List (List Int)} {l : List UInt8} (h : St w W d bb sb cs rows l) (e : Ext W W') : St w W' d bb sb cs rows l := by
  obtain ⟨bf, hb, dk, hf, x, ks, r⟩ := h
  exact ⟨bf, hb.ext e, dk.ext e, hf, x.trans e, ks.ext e, r⟩

theorem st_write {w W : World} {d bb sb : Nat} {cs : Array Value} {rows : List (List Int)} {l : List UInt8} (h : St w W d bb sb cs rows l) (m : List UInt8) (hlen : l.length + m.length ≤ 1000000) :
    Ret Tryz.prog 31 #[.pointer (some ⟨bb, 0, none⟩), .string (bs m)] W fun v W' => v = .tuple #[.int .i64 m.length, .nilIface] ∧ St w W' d bb sb cs rows (l ++ m) := by
  obtain ⟨bf, hb, dk, hf, x, ks, n1, n2, n3, h1, h2⟩ := h
  have lsb := ks.lt
  have ld : d < W.heap.size := by obtain ⟨a, A, Cp, gc, k, _⟩ := dk.ex; exact k.lt
  refine Ret.mono (writeString_c bb l m bf W hb hlen) fun v W' ⟨hv, bf', hb', g, hn⟩ => ⟨hv, bf', hb', ?_, fun y hy => ?_, g.ext x fun b hb => ?_, g.blk ks fun e => ?_, n1, n2, n3, h1, h2⟩
  · have dk1 : Desk W 51 d rows (fun x => (x = bb ∨ bf = some x) ∨ bf' = some x) := dk.avoid fun y hy => hy.elim .inl fun e => (hn y e).elim (fun e => .inl (.inr e)) .inr
    exact (dk1.grow g (fun y hy => .inl hy) (fun e => e.elim n1 fun e => (hf d e).1 rfl)).avoid fun y hy => .inl (hy.elim (fun e => .inl (.inl e)) .inr)
  · rcases hn y hy with e | e
    · exact hf y e
    · have := x.size; exact ⟨by omega, by omega, by omega⟩
  · exact hb.elim (fun e => by omega) fun e => (hf b e).2.2
  · exact e.elim n2 fun e => (hf sb e).2.1 rfl

theorem st_answer {w W : World} {d bb sb : Nat} {cs : Array Value} {rows rows' : List (List Int)} {l line out : List UInt8} (h : St w W d bb sb cs rows l) (ha : Ans line out rows rows') :
    Ret Tryz.prog 32 #[.pointer (some ⟨d, 0, none⟩), .string (bs line)] W fun v W' => v = .string (bs out) ∧ St w W' d bb sb cs rows' l := by
  obtain ⟨bf, hb, dk, hf, x, ks, n1, n2, n3, h1, h2⟩ := h
  have lb := hb.lt
  refine Ret.mono (ha d _ W dk fun y hy => hy.elim (fun e => ⟨by omega, by omega⟩) fun e => ⟨lb.2 y e, (hf y e).1⟩) fun v W' ⟨hv, g, dk'⟩ => ⟨hv, bf, hb.grow g (by simpa using n1) (fun y hy e => by cases e; exact (hf _ hy).1 rfl), dk', hf, g.ext x (fun b hb => by cases hb; exact h1), g.blk ks (fun e => by cases e; exact n3 rfl), n1, n2, n3, h1, h2⟩

theorem lns_mem_len {L : List (List UInt8)} {l : List UInt8} (h : l ∈ L) : l.length ≤ (lns L).length := by
  induction L with
  | nil => cases h
  | cons a r ih =>
    simp only [lns, List.length_append, List.length_cons]
    rcases List.mem_cons.1 h with rfl | h
    · omega
    · have := ih h; omega
theorem lns_len {L : List (List UInt8)} : L.length ≤ (lns L).length := by
  induction L with
  | nil => exact Nat.le_refl _
  | cons a r ih => simp only [lns, List.length_append, List.length_cons]; omega

theorem execute_c (L : List (List UInt8)) (out : List UInt8) (rows' : List (List Int)) (w : World) (hS : Scr L out [[0]] rows') (hnl : ∀ l ∈ L, (10 : UInt8) ∉ l) (hlen : (lns L).length ≤ 600) (hout : out.length ≤ 100000) (v : Valid rows') :
    Ret Tryz.prog 10 #[.string (bs (lns L))] w fun u w' => u = .string (bs (out ++ endT rows'.length (rowLen rows'))) ∧ Ext w w' := by
  have h600 : ¬ (600 : Int) < ((lns L).length : Int) := by omega
  have hLl := lns_len (L := L)
  have hR1 := v.r1
  have hR7 := v.r7
  have hC7 := v.c7
  have d1 := dec_len2 (n := rows'.length) (by omega)
  have d2 := dec_len2 (n := rowLen rows') (by omega)
  have d3 := dec_len2 (n := 0) (by omega)
  refine enter1 Tryz.func10 rfl (by kernel_rfl) (of_decide_eq_true (by kernel_rfl)) fun f a0 => ?_
  simp (disch := omega) only [go_sem, Nat.reduceEqDiff, ↓reduceIte, Nat.reduceAdd, a0, h600]
  refine bslK_1 elt_i rfl fun w1 b1 e1 x1 k1 s1 => ?_
  simp (disch := omega) only [go_sem, Nat.reduceEqDiff, ↓reduceIte, Nat.reduceAdd]
  refine bslK_1 elt_ii rfl fun w2 b2 e2 x2 k2 s2 => ?_
  simp (disch := omega) only [go_sem, Nat.reduceEqDiff, ↓reduceIte, Nat.reduceAdd]
  refine boxK_of fun w3 d e3 x3 k3 s3 => ?_
  simp (disch := omega) only [go_sem, Nat.reduceEqDiff, ↓reduceIte, Nat.reduceAdd, a0]
  refine callK_of (by kernel_rfl) (split_c (lns L) 10 _ (by omega)) ?_
  rintro _ w4 ⟨sb, rfl, x4, esb, ks⟩
  rw [spl_lns hnl] at ks ⊢
  have hl1 : (L ++ [[]]).length = L.length + 1 := by simp
  rw [hl1]
  simp (disch := omega) only [go_sem, Nat.reduceEqDiff, ↓reduceIte, Nat.reduceAdd]
  refine allocK_of zero_bd fun w5 bb e5 x5 k5 s5 => ?_
  have z1 := x1.size
  have z4 := x4.size
  have lsb := ks.lt
  have x13 := (x1.trans x2).trans x3
  have x35 := x4.trans x5
  have hst : St w w5 d bb sb (vst (L ++ [[]])).toArray [[0]] [] := by
    refine ⟨none, ⟨_, none, 0, k5, .inl rfl, OwnS.nil _ _ _, rfl, by simp⟩, ⟨some ⟨b2, 0, none⟩, fun _ => some ⟨b1, 0, none⟩, fun _ => 1, 1, k3.ext x35, ?_, fun b hb => ?_, fun r hr b hb => ?_⟩, (fun x hx => by cases hx), x13.trans x35, ks.ext x5, by omega, by omega, by omega, by omega, by omega⟩
    · have k2' := (k2.ext x3).ext x35
      have k1' := ((k1.ext x2).ext x3).ext x35
      refine ⟨fun _ => ⟨b2, 0, rfl⟩, fun b o hbo r hr => ?_, fun r hr => ⟨fun _ => ⟨b1, 0, rfl⟩, fun b o hbo i hi => ?_⟩, fun l hl x hx => ?_, fun l hl => ?_, by simp [maxLen]⟩
      · simp only [Option.some.injEq, Addr.mk.injEq] at hbo
        obtain ⟨rfl, rfl, _⟩ := hbo
        obtain rfl : r = 0 := by simpa using hr
        rw [Nat.zero_add, k2'.cell]; rfl
      · simp only [Option.some.injEq, Addr.mk.injEq] at hbo
        obtain ⟨rfl, rfl, _⟩ := hbo
        obtain rfl : r = 0 := by simpa using hr
        obtain rfl : i = 0 := by simpa using hi
        rw [Nat.zero_add, k1'.cell]; rfl
      · simp only [List.mem_singleton] at hl
        subst hl
        simp only [List.mem_singleton] at hx
        subst hx
        exact ⟨by omega, by omega⟩
      · simp only [List.mem_singleton] at hl
        subst hl
        simp [maxLen]
    · simp only [blk_some, Option.some.injEq] at hb
      subst hb
      exact ⟨fun e => e.elim (by omega) (fun e => by cases e), by omega, by omega⟩
    · simp only [blk_some, Option.some.injEq] at hb
      subst hb
      exact ⟨fun e => e.elim (by omega) (fun e => by cases e), by omega, by omega⟩
  have el : ((L.length + 1 : Nat) : Int) - 1 = ((L.length : Nat) : Int) := by omega
  simp (disch := omega) only [go_sem, Nat.reduceEqDiff, ↓reduceIte, Nat.reduceAdd, el, Int.toNat_natCast]
  refine loopN L.length (fun k f W => f 3 = .pointer (some ⟨d, 0, none⟩) ∧ f 5 = .pointer (some ⟨bb, 0, none⟩) ∧ f 21 = .slice (some ⟨sb, 0, none⟩) L.length (L.length + 1) ∧ f 22 = .int .i64 L.length ∧ f 23 = .int .i64 k ∧ ∃ o1 o2 rk, out = o1 ++ o2 ∧ Scr (L.drop k) o2 rk rows' ∧ St w W d bb sb (vst (L ++ [[]])).toArray rk o1)
    ⟨(by first | assumption | (simp only [upd_apply, Nat.reduceEqDiff, ↓reduceIte] <;> first | rfl | assumption) | simp [upd_apply, *]), (by first | assumption | (simp only [upd_apply, Nat.reduceEqDiff, ↓reduceIte] <;> first | rfl | assumption) | simp [upd_apply, *]), (by first | assumption | (simp only [upd_apply, Nat.reduceEqDiff, ↓reduceIte] <;> first | rfl | assumption) | simp [upd_apply, *]), (by first | assumption | (simp only [upd_apply, Nat.reduceEqDiff, ↓reduceIte] <;> first | rfl | assumption) | simp [upd_apply, *]), (by first | assumption | (simp only [upd_apply, Nat.reduceEqDiff, ↓reduceIte] <;> first | rfl | assumption) | simp [upd_apply, *]), [], out, [[0]], rfl, hS, hst⟩ fun k f W hk ⟨a3, a5, a21, a22, a23, o1, o2, rk, ho, hsc, hst⟩ => ?_
  have hol : o1.length + o2.length = out.length := by rw [ho, List.length_append]
  by_cases hlt : (k : Int) < (L.length : Int)
  · have hkL : k < L.length := by omega
    rw [List.drop_eq_getElem_cons hkL] at hsc
    obtain ⟨p1, p2, r1, rfl, hans, hsc2⟩ := hsc
    rw [List.length_append] at hol
    have hcell : W.cell? ⟨sb, k, none⟩ = some (.string (bs L[k])) := by
      obtain ⟨bf, _, _, _, _, ks, _⟩ := hst
      rw [vst_cell ks (by simp; omega)]
      simp [List.getElem?_append_left hkL, hkL]
    simp (disch := omega) only [go_sem, Nat.reduceEqDiff, ↓reduceIte, Nat.reduceAdd, a3, a5, a21, a22, a23, hlt, hcell]
    refine callK_of (by kernel_rfl) (st_answer hst hans) ?_
    rintro _ w6 ⟨rfl, hst6⟩
    simp (disch := omega) only [go_sem, Nat.reduceEqDiff, ↓reduceIte, Nat.reduceAdd, a5]
    refine callK_of (by kernel_rfl) (st_write hst6 p1 (by omega)) ?_
    rintro _ w7 ⟨rfl, hst7⟩
    simp (disch := omega) only [go_sem, Nat.reduceEqDiff, ↓reduceIte, Nat.reduceAdd, a23]
    exact ⟨by omega, (by first | assumption | (simp only [upd_apply, Nat.reduceEqDiff, ↓reduceIte] <;> first | rfl | assumption) | simp [upd_apply, *]), (by first | assumption | (simp only [upd_apply, Nat.reduceEqDiff, ↓reduceIte] <;> first | rfl | assumption) | simp [upd_apply, *]), (by first | assumption | (simp only [upd_apply, Nat.reduceEqDiff, ↓reduceIte] <;> first | rfl | assumption) | simp [upd_apply, *]), (by first | assumption | (simp only [upd_apply, Nat.reduceEqDiff, ↓reduceIte] <;> first | rfl | assumption) | simp [upd_apply, *]), (by first | assumption | (simp only [upd_apply, Nat.reduceEqDiff, ↓reduceIte] <;> first | rfl | assumption) | simp [upd_apply, *]), o1 ++ p1, p2, r1, by rw [ho, List.append_assoc], hsc2, hst7⟩
  · obtain rfl : k = L.length := by omega
    rw [List.drop_length] at hsc
    obtain ⟨rfl, rfl⟩ := hsc
    rw [List.append_nil] at ho
    subst ho
    have row0 : ∀ {W : World} {l : List UInt8}, St w W d bb sb (vst (L ++ [[]])).toArray rk l → ∃ a A gc gr, Blk W d #[.slice a rk.length gc, .slice none 0 0] 51 ∧ ∃ b o, a = some ⟨b, o, none⟩ ∧ W.cell? ⟨b, o, none⟩ = some (.slice A (rowLen rk) gr) := fun ⟨bf, hb, dk, _⟩ => by
      obtain ⟨a, A, Cp, gc, k, r, h1, h2⟩ := dk.ex
      obtain ⟨b, o, rfl⟩ := r.head v.ne
      have := r.row b o rfl 0 v.r1
      rw [Nat.add_zero] at this
      exact ⟨_, A 0, gc, Cp 0, k, b, o, rfl, this⟩
    obtain ⟨a, A, gc, gr, kd, -⟩ := row0 hst
    have c1 : binV Tryz.prog .add 9 (.string (bs [114, 111, 119, 115, 32])) (.string (bs (dec rk.length))) = some (.string (bs ([114, 111, 119, 115, 32] ++ dec rk.length))) := bin_adds _ _ (by simp; omega)
    have c2' : binV Tryz.prog .add 9 (.string (bs [32, 99, 111, 108, 117, 109, 110, 115, 32])) (.string (bs (dec (rowLen rk)))) = some (.string (bs ([32, 99, 111, 108, 117, 109, 110, 115, 32] ++ dec (rowLen rk)))) := bin_adds _ _ (by simp; omega)
    have c3 : binV Tryz.prog .add 9 (.string (bs [32, 108, 97, 98, 101, 108, 115, 32])) (.string (bs (dec 0))) = some (.string (bs ([32, 108, 97, 98, 101, 108, 115, 32] ++ dec 0))) := bin_adds _ _ (by simp; omega)
    have c4 : binV Tryz.prog .add 9 (.string (bs ([32, 108, 97, 98, 101, 108, 115, 32] ++ dec 0))) (.string (bs [10])) = some (.string (bs ([32, 108, 97, 98, 101, 108, 115, 32] ++ dec 0 ++ [10]))) := bin_adds _ _ (by simp; omega)
    simp (disch := omega) only [go_sem, Nat.reduceEqDiff, ↓reduceIte, Nat.reduceAdd, a3, a5, a22, a23, hlt, kd.cell]
    refine callK_pure (by kernel_rfl) (itoa_c rk.length (by omega) _) fun w6 x6 => ?_
    simp (disch := omega) only [go_sem, Nat.reduceEqDiff, ↓reduceIte, Nat.reduceAdd, a5, c1]
    refine callK_of (by kernel_rfl) (st_write (hst.ext x6) _ (by simp; omega)) ?_
    rintro _ w7 ⟨rfl, st7⟩
    obtain ⟨a, A, gc, gr, kd, b, o, rfl, hrow⟩ := row0 st7
    simp (disch := omega) only [go_sem, Nat.reduceEqDiff, ↓reduceIte, Nat.reduceAdd, a3, kd.cell, hrow]
    refine callK_pure (by kernel_rfl) (itoa_c (rowLen rk) (by omega) _) fun w8 x8 => ?_
    simp (disch := omega) only [go_sem, Nat.reduceEqDiff, ↓reduceIte, Nat.reduceAdd, a5, c2']
    refine callK_of (by kernel_rfl) (st_write (st7.ext x8) _ (by simp; omega)) ?_
    rintro _ w9 ⟨rfl, st9⟩
    obtain ⟨a, A, gc, gr, kd, -⟩ := row0 st9
    simp (disch := omega) only [go_sem, Nat.reduceEqDiff, ↓reduceIte, Nat.reduceAdd, a3, kd.cell]
    refine callK_pure (by kernel_rfl) (itoa_c 0 (by omega) _) fun w10 x10 => ?_
    simp (disch := omega) only [go_sem, Nat.reduceEqDiff, ↓reduceIte, Nat.reduceAdd, a5, c3, c4]
    have m3 : (out ++ ([114, 111, 119, 115, 32] ++ dec rk.length) ++ ([32, 99, 111, 108, 117, 109, 110, 115, 32] ++ dec (rowLen rk))).length + ([32, 108, 97, 98, 101, 108, 115, 32] ++ dec 0 ++ [10] : List UInt8).length ≤ 1000000 := by
      generalize dec 0 = z at d3 ⊢
      simp; omega
    refine callK_of (by kernel_rfl) (st_write (st9.ext x10) ([32, 108, 97, 98, 101, 108, 115, 32] ++ dec 0 ++ [10]) m3) ?_
    rintro _ w11 ⟨rfl, st11⟩
    obtain ⟨bf, hb, dk, hf, x, ks, n1, n2, n3, h1, h2⟩ := st11
    simp (disch := omega) only [go_sem, Nat.reduceEqDiff, ↓reduceIte, Nat.reduceAdd, a5]
    have hfin := builderString_c w.heap.size bb _ bf _ hb h2 (fun x hx => (hf x hx).2.2) x.size
    refine callK_of (by kernel_rfl) (hfin) ?_
    rintro _ w12 ⟨rfl, x12⟩
    simp (disch := omega) only [go_sem, Nat.reduceEqDiff, ↓reduceIte, Nat.reduceAdd, Tryz.results10]
    exact ⟨by simp only [endT, List.append_assoc, List.cons_append, List.nil_append], Below.trans x x12⟩
end Go.Proofs.YtcbmhjndbpafbaaGreatDoor

