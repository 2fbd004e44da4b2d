/- Contracts: reading a field's cell, turning a grid over. -/
import Derived.Test.YtlnodngkacbfkaaCd
import Derived.Test.YtlnodngkacbfkaaSwi
import Derived.Test.YtlnodngkacbfkaaG2
set_option linter.all false
set_option maxRecDepth 20000
namespace Go.Proofs.Ytlnodngkacbfkaa
open Go.RowKit Go.SW

theorem at_c (a : Int) (C cb n cc : Nat) (h : Nat → Int) (r c : Nat) (w : World) (hc : CellsAt w cb n h) (hC : C ≤ 1000) (hr : r ≤ 1000) (hcl : c ≤ 1000) (hlt : r * C + c < n) :
    Ret Try.prog 95 #[.agg #[.int .i64 a, .int .i64 C, .slice (some ⟨cb, 0, none⟩) n cc], .int .i64 r, .int .i64 c] w fun v w' => v = .int .i64 (h (r * C + c)) ∧ Ext w w' := by
  refine enter3 Try.func95 rfl (by kernel_rfl) (of_decide_eq_true (by kernel_rfl)) fun f a0 a1 a2 => ?_
  simp only [go_sem, Nat.reduceEqDiff, ↓reduceIte, a0]
  refine boxK_of fun w1 b _ x1 k1 _ => ?_
  have c1 := (hc.ext x1) _ hlt
  simp (disch := omega) only [go_sem, Nat.reduceEqDiff, ↓reduceIte]
  refine QR_of (by kernel_rfl) (by kernel_rfl) ?_
  simp (disch := omega) only [go_sem, Nat.reduceEqDiff, ↓reduceIte, Nat.reduceAdd, a1, a2, k1.cell, Value.cells, readCells_blk k1 (n := 3) (by simp [Value.cells]), List.getElem?_toArray, List.getElem?_cons_succ, List.getElem?_cons_zero]
  refine callK_q (by kernel_rfl) (fun w' e => index_c _ _ _ _ _ _ _ _ hC hr hcl) ?_
  simp (disch := omega) only [go_sem, Nat.reduceEqDiff, ↓reduceIte, c1, Try.results95]
  exact fun w' e => ⟨trivial, x1.trans e⟩

theorem invert1_c (fb : Nat) (R : Int) (C cb n : Nat) (h : Nat → Int) (r c : Nat) (w : World) (k : Blk w fb #[.int .i64 R, .int .i64 C, .slice (some ⟨cb, 0, none⟩) n n] 51) (hc : CellsAt w cb n h) (hC : C ≤ 1000) (hr : r ≤ 1000) (hcl : c ≤ 1000) (hlt : r * C + c < n) (hh : 0 ≤ h (r * C + c) ∧ h (r * C + c) ≤ 99) :
    Ret Try.prog 106 #[.int .i64 r, .int .i64 c, .pointer (some ⟨fb, 0, none⟩)] w fun v w' => v = .int .i64 (99 - h (r * C + c)) ∧ Ext w w' := by
  refine enter3 Try.func106 rfl (by kernel_rfl) (of_decide_eq_true (by kernel_rfl)) fun f a0 a1 a2 => ?_
  simp only [go_sem, Nat.reduceEqDiff, ↓reduceIte, a0, a1, a2, readCells_blk k (n := 3) (by simp)]
  refine callK_of (by kernel_rfl) (at_c _ _ _ _ _ _ _ _ _ hc hC hr hcl hlt) ?_
  rintro _ w1 ⟨rfl, x1⟩
  simp (disch := omega) only [go_sem, Nat.reduceEqDiff, ↓reduceIte, Try.results106]
  exact ⟨trivial, x1⟩

/-- A grid of R rows and C columns as a list of rows. -/
def mkRows (R C : Nat) (h : Nat → Int) : List (List Int) := (List.range R).map fun r => (List.range C).map fun c => h (r * C + c)
theorem mkRows_len (R C : Nat) (h : Nat → Int) : (mkRows R C h).length = R := by simp [mkRows]
theorem mkRows_get {R C : Nat} {h : Nat → Int} {r : Nat} (hr : r < R) : (mkRows R C h).getD r [] = (List.range C).map fun c => h (r * C + c) := by simp [mkRows, hr]

theorem lists_c (R C cb : Nat) (h : Nat → Int) (w : World) (hc : CellsAt w cb (R * C) h) (hR : R ≤ 1000) (hC1 : 1 ≤ C) (hC : C ≤ 1000) :
    Ret Try.prog 76 #[.agg #[.int .i64 R, .int .i64 C, .slice (some ⟨cb, 0, none⟩) (R * C) (R * C)]] w fun v w' => ∃ b A', v = .slice (some ⟨b, 0, none⟩) R R ∧ Ext w w' ∧ OwnRows w' 24 3 w.heap.size b (mkRows R C h) A' := by
  have hRC : R * C ≤ 1000 * 1000 := Nat.mul_le_mul hR hC
  refine enter1 Try.func76 rfl (by kernel_rfl) (of_decide_eq_true (by kernel_rfl)) fun f a0 => ?_
  simp only [go_sem, Nat.reduceEqDiff, ↓reduceIte, a0]
  refine boxK_of fun w0 fb _ x0 k0 _ => ?_
  simp (disch := omega) only [go_sem, Nat.reduceEqDiff, ↓reduceIte, k0.cell, Value.cells]
  refine mksK_of elt_ii R R _ _ _ _ rfl rfl (Nat.le_refl _) (by omega) (by simp [maxLen]; omega) fun w1 b eb x1 o1 _ => ?_
  simp (disch := omega) only [go_sem, Nat.reduceEqDiff, ↓reduceIte]
  have k1 : Blk w1 fb #[.int .i64 R, .int .i64 C, .slice (some ⟨cb, 0, none⟩) (R * C) (R * C)] 51 := k0.ext x1
  have s0 := x0.size
  have s1 := x1.size
  have hfb := k0.lt
  refine loopX (fun m f w' => ∃ (k : Nat) (xs : List Value) (A' : Nat → Option Addr), m = R - k ∧ k ≤ R ∧ f 1 = .pointer (some ⟨fb, 0, none⟩) ∧ f 3 = .slice (some ⟨b, 0, none⟩) R R ∧ f 9 = .int .i64 R ∧ f 10 = .int .i64 k ∧ Ext w w' ∧ Ext w0 w' ∧
      OwnS w' 24 1 (some ⟨b, 0, none⟩) R R xs ∧ (∀ j, j < k → xs[j]? = some (.slice (A' j) C C)) ∧
      (∀ r, r < k → ∃ br, A' r = some ⟨br, 0, none⟩ ∧ w.heap.size ≤ br ∧ br ≠ b ∧ OwnS w' 3 1 (A' r) C C (vi ((List.range C).map fun c => h (r * C + c)))) ∧
      (∀ r s, r < k → s < k → blk (A' r) = blk (A' s) → r = s)) R ?_ fun m f w' ⟨k, xs, A', hm, hk, a1, a3, a9, a10, xw, xw0, o, hx, hrow, hinj⟩ => ?_
  · exact ⟨0, _, fun _ => none, by omega, by omega, by simp [upd_apply], by simp [upd_apply], by simp [upd_apply], by simp [upd_apply], x0.trans x1, x1, o1, fun j hj => by omega, fun j hj => by omega, fun j _ hj => by omega⟩
  · by_cases hlt : (k : Int) < R
    · have kf : Blk w' fb #[.int .i64 R, .int .i64 C, .slice (some ⟨cb, 0, none⟩) (R * C) (R * C)] 51 := k0.ext xw0
      simp (disch := omega) only [go_sem, Nat.reduceEqDiff, ↓reduceIte, Nat.reduceAdd, a1, a3, a9, a10, hlt, kf.cell, List.getElem?_toArray, List.getElem?_cons_succ, List.getElem?_cons_zero]
      refine mksK_of elt_i C C _ _ _ _ rfl rfl (Nat.le_refl _) (by omega) (by simp [maxLen]; omega) fun w2 bk ebk x2 ok _ => ?_
      have hbw : b < w'.heap.size := o.blk_lt rfl
      have s2 := x2.size
      have sw := xw.size
      have sw0 := xw0.size
      simp (disch := omega) only [go_sem, Nat.reduceEqDiff, ↓reduceIte]
      refine stK_own siz_i (by rfl) (by rfl) (o.ext x2) (by omega) fun w3 o3 g3 => ?_
      have kf3 := g3.grow.blk (kf.ext x2) (by simp; omega)
      have c3 : w3.cell? ⟨b, k, none⟩ = some (.slice (some ⟨bk, 0, none⟩) C C) := by rw [o3.cell (by omega), List.getElem?_set_self (by rw [o.1]; omega)]
      have hq : k * C + C ≤ R * C := by
        have := Nat.mul_le_mul_right C (show k + 1 ≤ R by omega)
        rw [Nat.add_mul, Nat.one_mul] at this; exact this
      have m1 : (k : Int) * (C : Int) = ((k * C : Nat) : Int) := by simp
      have m2 : ((k : Int) + 1) * (C : Int) = ((k * C + C : Nat) : Int) := by rw [Int.add_mul]; simp
      simp (disch := omega) only [go_sem, Nat.reduceEqDiff, ↓reduceIte]
      refine QR_tail 16 (by kernel_rfl) (by kernel_rfl) ?_
      simp (disch := omega) only [go_sem, Nat.reduceEqDiff, ↓reduceIte, Nat.reduceAdd, a1, a3, kf3.cell, c3, List.getElem?_toArray, List.getElem?_cons_succ, List.getElem?_cons_zero, m1, m2]
      intro w4 x4
      have hc4 : CellsAt w4 cb (R * C) h := (((hc.ext xw).ext x2).grow g3.grow (by have := hc.lt (Nat.mul_pos (show 0 < R by omega) hC1); simp; omega)).ext x4
      obtain ⟨cs, kb, hcs, -⟩ := ((ok.grow g3.grow (by simp [blk]; omega)).ext x4).toBlk
      refine cpyK_all elt_i kb hcs (by omega) ((vi ((List.range C).map fun c => h (k * C + c)))) (by simp [vi]) (fun j u hu => ?_) (by simp [vi, Value.oneCell']) fun w5 k5 g5 => ?_
      · have hj : j < C := by
          have := (List.getElem?_eq_some_iff.1 hu).1
          simpa [vi] using this
        rw [vi_get _ _ (by simpa using hj)] at hu
        simp only [Option.some.injEq] at hu
        subst hu
        rw [add_mk, hc4 _ (by omega)]
        simp [hj]
      · simp (disch := omega) only [go_sem, Nat.reduceEqDiff, ↓reduceIte, a10]
        have s4 := x4.size
        have s3 := g3.grow.size
        have lt : ∀ j, j < k → ∀ bj, blk (A' j) = some bj → bj < bk := fun j hj bj hbj => by
          obtain ⟨br, h1, h2, h3, oo⟩ := hrow j hj
          have := oo.blk_lt hbj; omega
        refine ⟨R - (k + 1), by omega, k + 1, _, fun j => if j = k then some ⟨bk, 0, none⟩ else A' j, rfl, by omega, by simp [upd_apply, a1], by simp [upd_apply, a3], by simp [upd_apply, a9], by simp [upd_apply],
          g5.ext ((g3.ext (xw.trans x2) (by omega)).trans x4) (by omega), g5.ext ((g3.ext (xw0.trans x2) (by omega)).trans x4) (by omega), (o3.ext x4).grow g5.grow (by simp [blk]; omega), ?_, ?_, ?_⟩
        · refine set_get (fun j => .slice (if j = k then some ⟨bk, 0, none⟩ else A' j) C C) (by rw [o.1]; omega) (by simp) fun j hj => ?_
          rw [if_neg (by omega)]; exact hx j hj
        · intro r hr2
          by_cases e : r = k
          · subst e
            exact ⟨bk, by simp, by omega, by omega, by
              have := OwnS.of_blk (e := 3) (n := C) (s := 1) k5 (by simp [vi]) (by simp [maxLen]; omega)
              simpa using this⟩
          · obtain ⟨br, h1, h2, h3, oo⟩ := hrow r (by omega)
            refine ⟨br, by simp [e, h1], h2, h3, ?_⟩
            have o5 := ((((oo.ext x2).grow g3.grow (by rw [h1]; simp [blk]; omega)).ext x4).grow g5.grow (by
              have := lt r (by omega) br (by rw [h1]; rfl)
              rw [h1]; simp [blk]; omega))
            simpa [e] using o5
        · intro r s hr2 hs2 he
          by_cases e1 : r = k <;> by_cases e2 : s = k
          · omega
          · simp only [e1, e2, if_true, if_false, blk_some] at he
            have := lt s (by omega) bk he.symm; omega
          · simp only [e1, e2, if_true, if_false, blk_some] at he
            have := lt r (by omega) bk he; omega
          · simp only [e1, e2, if_false] at he
            exact hinj r s (by omega) (by omega) he
    · simp (disch := omega) only [go_sem, Nat.reduceEqDiff, ↓reduceIte, a3, a9, a10, hlt, Try.results76]
      have e : k = R := by omega
      subst e
      have hl : ∀ r, r < k → ((mkRows k C h).getD r []).length = C := fun r hr => by rw [mkRows_get hr]; simp
      refine ⟨b, A', rfl, xw, ⟨xs, by rw [mkRows_len]; exact o, fun r hr => ?_⟩, by omega, fun r hr => ?_, fun r s hr hs => hinj r s (by simpa [mkRows_len] using hr) (by simpa [mkRows_len] using hs)⟩
      · rw [mkRows_len] at hr; rw [hx r hr, hl r hr]
      · rw [mkRows_len] at hr
        obtain ⟨br, h1, h2, h3, oo⟩ := hrow r hr
        exact ⟨br, h1, h2, h3, by rw [hl r hr, mkRows_get hr]; exact oo⟩

/-- made, with GridInvert's function. -/
theorem made_c (R C fb cb : Nat) (h : Nat → Int) (w : World) (k : Blk w fb #[.int .i64 R, .int .i64 C, .slice (some ⟨cb, 0, none⟩) (R * C) (R * C)] 51) (hc : CellsAt w cb (R * C) h) (hR1 : 1 ≤ R) (hR : R ≤ 7) (hC1 : 1 ≤ C) (hC : C ≤ 7) (hh : ∀ i, i < R * C → 0 ≤ h i ∧ h i ≤ 99) :
    Ret Try.prog 93 #[.int .i64 R, .int .i64 C, .func (.func 106) #[] #[.pointer (some ⟨fb, 0, none⟩)]] w fun v w' =>
      ∃ b A', v = .tuple #[.slice (some ⟨b, 0, none⟩) R R, .bool true] ∧ Ext w w' ∧ OwnRows w' 24 3 w.heap.size b (mkRows R C fun i => 99 - h i) A' := by
  have hRC : R * C ≤ 7 * 7 := Nat.mul_le_mul hR hC
  have hfb := k.lt
  have hcb := hc.lt (Nat.mul_pos (show 0 < R by omega) hC1)
  refine enter3 Try.func93 rfl (by kernel_rfl) (of_decide_eq_true (by kernel_rfl)) fun f a0 a1 a2 => ?_
  have q1 : ¬ (R : Int) < 1 := by omega
  have q2 : ¬ (7 : Int) < R := by omega
  have q3 : ¬ (C : Int) < 1 := by omega
  have q4 : ¬ (7 : Int) < C := by omega
  simp only [go_sem, Nat.reduceEqDiff, ↓reduceIte, a0, a1, q1, q2, q3, q4]
  refine callK_of (by kernel_rfl) (blank_c R C _ (by omega) (by omega)) ?_
  rintro _ w1 ⟨nb, rfl, x1, hnb, o1⟩
  simp only [go_sem, Nat.reduceEqDiff, ↓reduceIte]
  refine allocK_of zero_f fun w2 b8 e8 x2 k8 _ => ?_
  simp only [go_sem, Nat.reduceEqDiff, ↓reduceIte]
  have hn1 : nb < w1.heap.size := o1.blk_lt rfl
  refine stK_agg siz_f (by simp) (by simp [Value.oneCell']) k8 (by simp) fun w3 k3 g3 => ?_
  have o3 := (o1.ext x2).grow g3.grow (by simp [blk]; omega)
  have s1 := x1.size
  have s2 := x2.size
  have x3 : Ext w w3 := g3.ext (x1.trans x2) (by omega)
  have s3 := x3.size
  have hn3 : nb ≠ b8 := by omega
  simp only [go_sem, Nat.reduceEqDiff, ↓reduceIte, a0]
  clear k8 g3 x1 x2
  let V : Nat → Value := fun j => .int .i64 (99 - h j)
  let S : F → World → Nat → Prop := fun f w' m => f 1 = .int .i64 C ∧ f 2 = .func (.func 106) #[] #[.pointer (some ⟨fb, 0, none⟩)] ∧ f 8 = .pointer (some ⟨b8, 0, none⟩) ∧ f 29 = .int .i64 R ∧
    Ext w w' ∧ Blk w' b8 #[.int .i64 R, .int .i64 C, .slice (some ⟨nb, 0, none⟩) (R * C) (R * C)] 51 ∧
    ∃ xs, OwnS w' 3 1 (some ⟨nb, 0, none⟩) (R * C) (R * C) xs ∧ ∀ j, j < m → xs[j]? = some (V j)
  refine loopX (fun m f w' => ∃ r : Nat, m = R - r ∧ r ≤ R ∧ f 30 = .int .i64 r ∧ S f w' (r * C)) R ?_ fun m f w' ⟨r, hm, hr, a30, ⟨a1, a2, a8, a29, xw, kf, xs, o, hx⟩⟩ => ?_
  · exact ⟨0, by omega, by omega, by simp [upd_apply], ⟨by simp [upd_apply, a1], by simp [upd_apply, a2], by simp [upd_apply], by simp [upd_apply], x3, k3, _, o3, fun j hj => by simp at hj⟩⟩
  · by_cases hlt : (r : Int) < R
    · simp (disch := omega) only [go_sem, Nat.reduceEqDiff, ↓reduceIte, a1, a29, a30, hlt]
      have hq : r * C + C ≤ R * C := by
        have := Nat.mul_le_mul_right C (show r + 1 ≤ R by omega)
        rw [Nat.add_mul, Nat.one_mul] at this; exact this
      refine loopX (fun m f w' => ∃ c : Nat, m = C - c ∧ c ≤ C ∧ f 30 = .int .i64 r ∧ f 9 = .int .i64 r ∧ f 33 = .int .i64 C ∧ f 34 = .int .i64 c ∧ S f w' (r * C + c)) C ?_ fun m f w' ⟨c, hm, hcc, a30, a9, a33, a34, ⟨a1, a2, a8, a29, xw, kf, xs, o, hx⟩⟩ => ?_
      · exact ⟨0, by omega, by omega, by simp [upd_apply, a30], by simp [upd_apply], by simp [upd_apply], by simp [upd_apply], ⟨by simp [upd_apply, a1], by simp [upd_apply, a2], by simp [upd_apply, a8], by simp [upd_apply, a29], xw, kf, xs, o, hx⟩⟩
      · by_cases hltc : (c : Int) < C
        · simp (disch := omega) only [go_sem, Nat.reduceEqDiff, ↓reduceIte, a2, a9, a33, a34, hltc, Array.append_empty, Array.empty_append, List.append_toArray, List.cons_append, List.nil_append]
          have hhj := hh (r * C + c) (by omega)
          refine callK_of (by kernel_rfl) (invert1_c fb R C cb (R * C) h r c _ (k.ext xw) (hc.ext xw) (by omega) (by omega) (by omega) (by omega) hhj) ?_
          rintro _ w4 ⟨rfl, x4⟩
          simp (disch := omega) only [go_sem, Nat.reduceEqDiff, ↓reduceIte]
          refine callK_of (by kernel_rfl) (isHeight_c _ _) ?_
          rintro _ w5 ⟨rfl, x5⟩
          have hd : (0 ≤ 99 - h (r * C + c) ∧ 99 - h (r * C + c) ≤ 99) := by omega
          simp (disch := omega) only [go_sem, Nat.reduceEqDiff, ↓reduceIte, hd, and_self]
          refine QR_tail 7 (by kernel_rfl) (by kernel_rfl) ?_
          have kf5 := (kf.ext x4).ext x5
          simp (disch := omega) only [go_sem, Nat.reduceEqDiff, ↓reduceIte, Nat.reduceAdd, a8, a9, kf5.cell, readCells_blk kf5 (n := 3) (by simp), List.getElem?_toArray, List.getElem?_cons_succ, List.getElem?_cons_zero]
          refine callK_q (by kernel_rfl) (fun w' e => index_c _ _ _ _ _ _ _ _ (by omega) (by omega) (by omega)) ?_
          simp (disch := omega) only [go_sem, Nat.reduceEqDiff, ↓reduceIte]
          intro w6 x6
          refine stK_own siz_int (by rfl) (by rfl) (((o.ext x4).ext x5).ext x6) (by omega) fun w7 o7 g7 => ?_
          simp (disch := omega) only [go_sem, Nat.reduceEqDiff, ↓reduceIte, a34]
          refine ⟨C - (c + 1), by omega, c + 1, rfl, by omega, by simp [upd_apply, a30], by simp [upd_apply, a9], by simp [upd_apply, a33], by simp [upd_apply],
            ⟨by simp [upd_apply, a1], by simp [upd_apply, a2], by simp [upd_apply, a8], by simp [upd_apply, a29], g7.ext (((xw.trans x4).trans x5).trans x6) (by omega), g7.grow.blk (kf5.ext x6) (by simp; omega), _, o7, ?_⟩⟩
          rw [← Nat.add_assoc]
          exact set_get V (by rw [o.1]; omega) rfl hx
        · simp (disch := omega) only [go_sem, Nat.reduceEqDiff, ↓reduceIte, a30, a33, a34, hltc]
          exact ⟨R - (r + 1), by omega, r + 1, rfl, by omega, by simp [upd_apply], ⟨by simp [upd_apply, a1], by simp [upd_apply, a2], by simp [upd_apply, a8], by simp [upd_apply, a29], xw, kf, xs, o, fun j hj => hx j (by rw [Nat.add_mul, Nat.one_mul] at hj; omega)⟩⟩
    · simp (disch := omega) only [go_sem, Nat.reduceEqDiff, ↓reduceIte, a29, a30, a8, hlt, readCells_blk kf (n := 3) (by simp)]
      obtain rfl : r = R := by omega
      refine callK_of (by kernel_rfl) (lists_c r C nb (fun i => 99 - h i) _ (fun i hi => by rw [o.cell (by omega), hx i hi]) (by omega) hC1 (by omega)) ?_
      rintro _ w4 ⟨b, A', rfl, x4, or⟩
      simp (disch := omega) only [go_sem, Nat.reduceEqDiff, ↓reduceIte, Try.results93]
      exact ⟨b, A', rfl, xw.trans x4, ⟨or.top, Nat.le_trans xw.size or.hb, fun r hr => let ⟨br, h1, h2, h3, oo⟩ := or.row r hr; ⟨br, h1, Nat.le_trans xw.size h2, h3, oo⟩, or.inj⟩⟩

end Go.Proofs.Ytlnodngkacbfkaa
