/- The law FnProminence: contract. -/
import Derived.Test.YtlnodngkacbfkaaQj
set_option linter.all false
set_option maxRecDepth 20000
namespace Go.SW
open Go Go.RowKit
section
variable {R C : Nat} {h h' : Nat → Int}
theorem rch_shift (d : Int) (e : ∀ i, i < R * C → h' i = h i + d) {a x : Nat} (ha : a < R * C) (hx : x < R * C) {lv : Int} (r : Rch R C h a lv x) : Rch R C h' a (lv + d) x := by
  have e0 := e a ha
  have := r.lea
  exact r.closed ha hx (p := fun y => Rch R C h' a (lv + d) y) (fun i hi j hj h1 h2 q => by
    have := e j (nearN_lt hi j hj)
    exact q.edge hi hj (by omega)) (Rch.self (by omega))
theorem pass_shift (g : Gd R C h) (g' : Gd R C h') {d : Int} (hd : 0 ≤ d) (e : ∀ i, i < R * C → h' i = h i + d) {a x : Nat} (ha : a < R * C) (hx : x < R * C) : passN R C h' a x = passN R C h a x + d := by
  obtain ⟨j, hj, ej⟩ := mnN_at2 h (R * C) g.pos
  have h1 := g.hh j hj
  have h2 := pass_min g ha hx
  refine (pass_uniq g' ha hx (by omega) fun lv h0 => ?_).symm
  by_cases hl : lv < d
  · exact ⟨fun _ => rch_all (fun i hi => by have := e i hi; have := g.hh i hi; omega) ha hx, fun _ => by omega⟩
  · have hp := pass_ok g ha hx (show 0 ≤ lv - d by omega)
    constructor
    · intro hle
      have := rch_shift d e ha hx (hp.1 (by omega))
      rwa [show lv - d + d = lv by omega] at this
    · intro r
      have := rch_shift (h := h') (h' := h) (-d) (fun i hi => by have := e i hi; omega) ha hx r
      have := hp.2 (by rwa [show lv + -d = lv - d by omega] at this)
      omega
theorem mn_shift {d : Int} (e : ∀ i, i < R * C → h' i = h i + d) (hpos : 0 < R * C) : mnN h' (R * C) = mnN h (R * C) + d := by
  obtain ⟨j, hj, ej⟩ := mnN_at2 h (R * C) hpos
  obtain ⟨i, hi, ei⟩ := mnN_at2 h' (R * C) hpos
  have h1 := mnN_le2 h' (R * C) j hj
  have h2 := mnN_le2 h (R * C) i hi
  have := e i hi
  have := e j hj
  omega
theorem hiB_shift {d : Int} (e : ∀ i, i < R * C → h' i = h i + d) {i j : Nat} (hi : i < R * C) (hj : j < R * C) : hiB h' i j = hiB h i j := by
  have := e i hi
  have := e j hj
  rw [Bool.eq_iff_iff]
  simp only [hiB, decide_eq_true_eq]
  omega
theorem best_shift (g : Gd R C h) (g' : Gd R C h') {d : Int} (hd : 0 ≤ d) (e : ∀ i, i < R * C → h' i = h i + d) {a : Nat} (ha : a < R * C) : ∀ k, k ≤ R * C → (bestTo R C h a k = -1 ∧ bestTo R C h' a k = -1) ∨ (0 ≤ bestTo R C h a k ∧ bestTo R C h' a k = bestTo R C h a k + d)
  | 0, _ => .inl ⟨rfl, rfl⟩
  | k + 1, hk => by
    have ih := best_shift g g' hd e ha k (by omega)
    obtain ⟨j, hj, ej⟩ := mnN_at2 h (R * C) g.pos
    have h1 := g.hh j hj
    have h2 := pass_min g ha (show k < R * C by omega)
    have h3 := pass_shift g g' hd e ha (show k < R * C by omega)
    have h4 := hiB_shift e (show k < R * C by omega) ha
    simp only [bestTo, h4]
    cases hb : hiB h k a with
    | true =>
      simp only [if_true]
      right
      rcases ih with ⟨e1, e2⟩ | ⟨e1, e2⟩ <;> omega
    | false => simpa using ih
theorem prom_shift (g : Gd R C h) (g' : Gd R C h') {d : Int} (hd : 0 ≤ d) (e : ∀ i, i < R * C → h' i = h i + d) {a : Nat} (ha : a < R * C) : promN R C h' a = promN R C h a := by
  have hb := best_shift g g' hd e ha (R * C) (Nat.le_refl _)
  have hm := mn_shift e g.pos
  have he := e a ha
  have hk : keyN R C h' a = keyN R C h a + d := by
    rw [keyN, keyN]
    rcases hb with ⟨e1, e2⟩ | ⟨e1, e2⟩
    · rw [if_neg (by omega), if_neg (by omega)]; exact hm
    · rw [if_pos (by omega), if_pos (by omega)]; exact e2
  rw [promN, promN, hk]; omega
theorem peakB_shift {d : Int} (e : ∀ i, i < R * C → h' i = h i + d) {a : Nat} (ha : a < R * C) : peakB R C h' a = peakB R C h a := by
  rw [Bool.eq_iff_iff, peakB, peakB, List.all_eq_true, List.all_eq_true]
  constructor <;> intro hh j hj <;> have h1 := hh j hj <;> rw [hiB_shift e (nearN_lt ha j hj) ha] at * <;> exact h1
end
end Go.SW
namespace Go.Proofs.Ytlnodngkacbfkaa
open Go.RowKit Go.SW
/-- made, with a function that tells the heights H, which need not be heights. -/
theorem made_r (gfn : FuncId) (R C fb xb : Nat) (H : Nat → Int) (w : World) (hgo : goB Try.prog gfn = true) (hclo : ∀ (r c : Nat) (W : World), Ext w W → r < R → c < C → Ret Try.prog gfn #[.int .i64 r, .int .i64 c, .pointer (some ⟨fb, 0, none⟩), .pointer (some ⟨xb, 0, none⟩)] W fun v w' => v = .int .i64 (H (r * C + c)) ∧ Ext W w') (hR1 : 1 ≤ R) (hR : R ≤ 7) (hC1 : 1 ≤ C) (hC : C ≤ 7) :
    Ret Try.prog 93 #[.int .i64 R, .int .i64 C, .func (.func gfn) #[] #[.pointer (some ⟨fb, 0, none⟩), .pointer (some ⟨xb, 0, none⟩)]] w fun v w' =>
      (v = .tuple #[.slice none 0 0, .bool false] ∧ Ext w w') ∨ ((∀ i, i < R * C → 0 ≤ H i ∧ H i ≤ 99) ∧ ∃ b A', v = .tuple #[.slice (some ⟨b, 0, none⟩) R R, .bool true] ∧ Ext w w' ∧ OwnRows w' 24 3 w.heap.size b (mkRows R C H) A') := by
  have hRC : R * C ≤ 7 * 7 := Nat.mul_le_mul hR hC
  refine enter3 Try.func93 rfl (by kernel_rfl) (of_decide_eq_true (by kernel_rfl)) fun f a0 a1 a2 => ?_
  have q1 : ¬ (R : Int) < 1 := by omega
  have q2 : ¬ (7 : Int) < R := by omega
  have q3 : ¬ (C : Int) < 1 := by omega
  have q4 : ¬ (7 : Int) < C := by omega
  simp only [go_sem, Nat.reduceEqDiff, ↓reduceIte, a0, a1, q1, q2, q3, q4]
  refine callK_of (by kernel_rfl) (blank_c R C _ (by omega) (by omega)) ?_
  rintro _ w1 ⟨nb, rfl, x1, hnb, o1⟩
  simp only [go_sem, Nat.reduceEqDiff, ↓reduceIte]
  refine allocK_of zero_f fun w2 b8 e8 x2 k8 _ => ?_
  simp only [go_sem, Nat.reduceEqDiff, ↓reduceIte]
  have hn1 : nb < w1.heap.size := o1.blk_lt rfl
  refine stK_agg siz_f (by simp) (by simp [Value.oneCell']) k8 (by simp) fun w3 k3 g3 => ?_
  have o3 := (o1.ext x2).grow g3.grow (by simp [blk]; omega)
  have s1 := x1.size
  have s2 := x2.size
  have x3 : Ext w w3 := g3.ext (x1.trans x2) (by omega)
  have s3 := x3.size
  have hn3 : nb ≠ b8 := by omega
  simp only [go_sem, Nat.reduceEqDiff, ↓reduceIte, a0]
  clear k8 g3 x1 x2
  let V : Nat → Value := fun j => .int .i64 (H j)
  let S : F → World → Nat → Prop := fun f w' m => f 1 = .int .i64 C ∧ f 2 = .func (.func gfn) #[] #[.pointer (some ⟨fb, 0, none⟩), .pointer (some ⟨xb, 0, none⟩)] ∧ f 8 = .pointer (some ⟨b8, 0, none⟩) ∧ f 29 = .int .i64 R ∧
    Ext w w' ∧ Blk w' b8 #[.int .i64 R, .int .i64 C, .slice (some ⟨nb, 0, none⟩) (R * C) (R * C)] 51 ∧
    (∀ i, i < m → 0 ≤ H i ∧ H i ≤ 99) ∧ ∃ xs, OwnS w' 3 1 (some ⟨nb, 0, none⟩) (R * C) (R * C) xs ∧ ∀ j, j < m → xs[j]? = some (V j)
  refine loopX (fun m f w' => ∃ r : Nat, m = R - r ∧ r ≤ R ∧ f 30 = .int .i64 r ∧ S f w' (r * C)) R ?_ fun m f w' ⟨r, hm, hr, a30, ⟨a1, a2, a8, a29, xw, kf, hok, xs, o, hx⟩⟩ => ?_
  · exact ⟨0, by omega, by omega, by simp [upd_apply], ⟨by simp [upd_apply, a1], by simp [upd_apply, a2], by simp [upd_apply], by simp [upd_apply], x3, k3, fun i hi => by simp at hi, _, o3, fun j hj => by simp at hj⟩⟩
  · by_cases hlt : (r : Int) < R
    · simp (disch := omega) only [go_sem, Nat.reduceEqDiff, ↓reduceIte, a1, a29, a30, hlt]
      have hq : r * C + C ≤ R * C := by
        have := Nat.mul_le_mul_right C (show r + 1 ≤ R by omega)
        rw [Nat.add_mul, Nat.one_mul] at this; exact this
      refine loopX (fun m f w' => ∃ c : Nat, m = C - c ∧ c ≤ C ∧ f 30 = .int .i64 r ∧ f 9 = .int .i64 r ∧ f 33 = .int .i64 C ∧ f 34 = .int .i64 c ∧ S f w' (r * C + c)) C ?_ fun m f w' ⟨c, hm, hcc, a30, a9, a33, a34, ⟨a1, a2, a8, a29, xw, kf, hok, xs, o, hx⟩⟩ => ?_
      · exact ⟨0, by omega, by omega, by simp [upd_apply, a30], by simp [upd_apply], by simp [upd_apply], by simp [upd_apply], ⟨by simp [upd_apply, a1], by simp [upd_apply, a2], by simp [upd_apply, a8], by simp [upd_apply, a29], xw, kf, hok, xs, o, hx⟩⟩
      · by_cases hltc : (c : Int) < C
        · simp (disch := omega) only [go_sem, Nat.reduceEqDiff, ↓reduceIte, a2, a9, a33, a34, hltc, Array.append_empty, Array.empty_append, List.append_toArray, List.cons_append, List.nil_append]
          refine callK_of hgo (hclo r c _ xw (by omega) (by omega)) ?_
          rintro _ w4 ⟨rfl, x4⟩
          simp (disch := omega) only [go_sem, Nat.reduceEqDiff, ↓reduceIte]
          refine callK_of (by kernel_rfl) (isHeight_c _ _) ?_
          rintro _ w5 ⟨rfl, x5⟩
          rcases Classical.em (0 ≤ H (r * C + c) ∧ H (r * C + c) ≤ 99) with hd | hd
          rotate_left
          · have hdd : decide (0 ≤ H (r * C + c) ∧ H (r * C + c) ≤ 99) = false := decide_eq_false hd
            simp (disch := omega) only [go_sem, Nat.reduceEqDiff, ↓reduceIte, hdd, Bool.not_false, Try.results93]
            exact .inl ⟨by first | rfl | trivial, (xw.trans x4).trans x5⟩
          have hdd : decide (0 ≤ H (r * C + c) ∧ H (r * C + c) ≤ 99) = true := decide_eq_true hd
          simp (disch := omega) only [go_sem, Nat.reduceEqDiff, ↓reduceIte, hdd, Bool.not_true]
          refine QR_tail 7 (by kernel_rfl) (by kernel_rfl) ?_
          have kf5 := (kf.ext x4).ext x5
          simp (disch := omega) only [go_sem, Nat.reduceEqDiff, ↓reduceIte, Nat.reduceAdd, a8, a9, kf5.cell, readCells_blk kf5 (n := 3) (by simp), List.getElem?_toArray, List.getElem?_cons_succ, List.getElem?_cons_zero]
          refine callK_q (by kernel_rfl) (fun w' e => index_c _ _ _ _ _ _ _ _ (by omega) (by omega) (by omega)) ?_
          simp (disch := omega) only [go_sem, Nat.reduceEqDiff, ↓reduceIte]
          intro w6 x6
          refine stK_own siz_int (by rfl) (by rfl) (((o.ext x4).ext x5).ext x6) (by omega) fun w7 o7 g7 => ?_
          simp (disch := omega) only [go_sem, Nat.reduceEqDiff, ↓reduceIte, a34]
          refine ⟨C - (c + 1), by omega, c + 1, rfl, by omega, by simp [upd_apply, a30], by simp [upd_apply, a9], by simp [upd_apply, a33], by simp [upd_apply],
            ⟨by simp [upd_apply, a1], by simp [upd_apply, a2], by simp [upd_apply, a8], by simp [upd_apply, a29], g7.ext (((xw.trans x4).trans x5).trans x6) (by omega), g7.grow.blk (kf5.ext x6) (by simp; omega), fun i hi => ?_, _, o7, ?_⟩⟩
          · by_cases e : i = r * C + c
            · subst e; exact hd
            · exact hok i (by omega)
          rw [← Nat.add_assoc]
          exact set_get V (by rw [o.1]; omega) rfl hx
        · simp (disch := omega) only [go_sem, Nat.reduceEqDiff, ↓reduceIte, a30, a33, a34, hltc]
          exact ⟨R - (r + 1), by omega, r + 1, rfl, by omega, by simp [upd_apply], ⟨by simp [upd_apply, a1], by simp [upd_apply, a2], by simp [upd_apply, a8], by simp [upd_apply, a29], xw, kf, fun j hj => hok j (by rw [Nat.add_mul, Nat.one_mul] at hj; omega), xs, o, fun j hj => hx j (by rw [Nat.add_mul, Nat.one_mul] at hj; omega)⟩⟩
    · simp (disch := omega) only [go_sem, Nat.reduceEqDiff, ↓reduceIte, a29, a30, a8, hlt, readCells_blk kf (n := 3) (by simp)]
      obtain rfl : r = R := by omega
      refine callK_of (by kernel_rfl) (lists_c r C nb (H) _ (fun i hi => by rw [o.cell (by omega), hx i hi]) (by omega) hC1 (by omega)) ?_
      rintro _ w4 ⟨b, A', rfl, x4, or⟩
      simp (disch := omega) only [go_sem, Nat.reduceEqDiff, ↓reduceIte, Try.results93]
      exact .inr ⟨hok, b, A', rfl, xw.trans x4, ⟨or.top, Nat.le_trans xw.size or.hb, fun r hr => let ⟨br, h1, h2, h3, oo⟩ := or.row r hr; ⟨br, h1, Nat.le_trans xw.size h2, h3, oo⟩, or.inj⟩⟩


theorem raise1_c (fb xb : Nat) (R : Int) (C cb n : Nat) (h : Nat → Int) (d : Int) (r c : Nat) (w : World) (k : Blk w fb #[.int .i64 R, .int .i64 C, .slice (some ⟨cb, 0, none⟩) n n] 51) (kx : Blk w xb #[.int .i64 d] 3) (hc : CellsAt w cb n h) (hC : C ≤ 1000) (hr : r ≤ 1000) (hcl : c ≤ 1000) (hlt : r * C + c < n) (hd : -99 ≤ d ∧ d ≤ 99) (hh : 0 ≤ h (r * C + c) ∧ h (r * C + c) ≤ 99) :
    Ret Try.prog 94 #[.int .i64 r, .int .i64 c, .pointer (some ⟨fb, 0, none⟩), .pointer (some ⟨xb, 0, none⟩)] w fun v w' => v = .int .i64 (h (r * C + c) + d) ∧ Ext w w' := by
  refine enter4 Try.func94 rfl (by kernel_rfl) (of_decide_eq_true (by kernel_rfl)) fun f a0 a1 a2 a3 => ?_
  simp (disch := omega) only [go_sem, Nat.reduceEqDiff, ↓reduceIte, Nat.reduceAdd]
  refine QR_of (by kernel_rfl) (by kernel_rfl) ?_
  simp (disch := omega) only [go_sem, Nat.reduceEqDiff, ↓reduceIte, Nat.reduceAdd, a0, a1, a2, a3, readCells_blk k (n := 3) (by simp), kx.cell]
  refine callK_q (by kernel_rfl) (fun w' e => at_c _ _ _ _ _ _ _ _ _ (hc.ext e) hC hr hcl hlt) ?_
  simp (disch := omega) only [go_sem, Nat.reduceEqDiff, ↓reduceIte, Nat.reduceAdd, a3, kx.cell]
  intro w1 x1
  simp (disch := omega) only [go_sem, Nat.reduceEqDiff, ↓reduceIte, Nat.reduceAdd, Try.results94]
  exact ⟨by first | rfl | trivial, x1⟩

theorem gridRaise_c (a : Option Addr) (rows : List (List Int)) (A : Nat → Option Addr) (Cp : Nat → Nat) (gc : Nat) (w : World) (hr : RowsAt w a rows A Cp) (hv : gvalid rows = true) :
    Ret Try.prog 59 #[.slice a rows.length gc, .int .i64 1] w fun u w' =>
      (u = .tuple #[.slice none 0 0, .bool false] ∧ Ext w w') ∨ ((∀ i, i < rows.length * rowLen rows → hgt rows i + 1 ≤ 99) ∧ ∃ b A', u = .tuple #[.slice (some ⟨b, 0, none⟩) rows.length rows.length, .bool true] ∧ Ext w w' ∧ OwnRows w' 24 3 w.heap.size b (mkRows rows.length (rowLen rows) fun i => hgt rows i + 1) A') := by
  have v := (gvalid_iff rows).1 hv
  have g := v.gd
  refine enter2 Try.func59 rfl (by kernel_rfl) (of_decide_eq_true (by kernel_rfl)) fun f a0 a1 => ?_
  simp only [go_sem, Nat.reduceEqDiff, ↓reduceIte, a1]
  refine boxK_of fun w0 xb exb x0 kx _ => ?_
  have kx : Blk w0 xb #[.int .i64 1] 3 := by simpa [Value.cells] using kx
  simp (disch := omega) only [go_sem, Nat.reduceEqDiff, ↓reduceIte, Nat.reduceAdd, a0]
  refine callK_of (by kernel_rfl) (fieldOf_c _ _ _ _ _ _ (hr.ext x0)) ?_
  rintro _ w2 ⟨x2, (⟨hvt, cb, rfl, hcb, o⟩ | ⟨hv', -⟩)⟩
  rotate_left
  · rw [hv] at hv'; cases hv'
  simp (disch := omega) only [go_sem, Nat.reduceEqDiff, ↓reduceIte, Nat.reduceAdd]
  refine allocK_of zero_f fun w3 b4 e4 x3 k4 _ => ?_
  simp (disch := omega) only [go_sem, Nat.reduceEqDiff, ↓reduceIte, Nat.reduceAdd]
  refine stK_agg siz_f (by simp) (by simp [Value.oneCell']) k4 (by simp) fun w4 k4 g4 => ?_
  have s0 := x0.size
  have s2 := x2.size
  have s3 := x3.size
  have x4 : Ext w w4 := g4.ext ((x0.trans x2).trans x3) (by omega)
  have oc := o.cellsAt
  have hc : CellsAt w4 cb (rows.length * rowLen rows) (hgt rows) := fun i hi => by
    have := ((oc.ext x3).grow g4.grow (by have := oc.lt g.pos; simp; omega)) i hi
    simpa only [hs_get rows i hi] using this
  have kl := kx.lt
  have kx4 := g4.grow.blk ((kx.ext x2).ext x3) (by simp; omega)
  have q1 : ¬ (1 : Int) < -99 := by omega
  have q2 : ¬ (99 : Int) < 1 := by omega
  simp (disch := omega) only [go_sem, Nat.reduceEqDiff, ↓reduceIte, Nat.reduceAdd, kx4.cell, k4.cell, q1, q2]
  have idx : ∀ r c, r < rows.length → c < rowLen rows → r * rowLen rows + c < rows.length * rowLen rows := fun r c h1 h2 => by
    have := Nat.mul_le_mul_right (rowLen rows) (show r + 1 ≤ rows.length by omega)
    rw [Nat.add_mul, Nat.one_mul] at this; omega
  have hr7 := g.r7
  have hc7 := g.c7
  refine callK_of (by kernel_rfl) (made_r 94 rows.length (rowLen rows) b4 xb (fun i => hgt rows i + 1) _ (by kernel_rfl) (fun r c W e h1 h2 => raise1_c b4 xb _ _ cb _ (hgt rows) 1 r c W (k4.ext e) (kx4.ext e) (hc.ext e) (by omega) (by omega) (by omega) (idx r c h1 h2) (by omega) (g.hh _ (idx r c h1 h2))) g.r1 g.r7 g.c1 g.c7) ?_
  rintro _ w5 (⟨rfl, x5⟩ | ⟨hall, b, A', rfl, x5, or⟩)
  · simp (disch := omega) only [go_sem, Nat.reduceEqDiff, ↓reduceIte, Nat.reduceAdd, Try.results59]
    exact .inl ⟨by first | rfl | trivial, x4.trans x5⟩
  · simp (disch := omega) only [go_sem, Nat.reduceEqDiff, ↓reduceIte, Nat.reduceAdd, Try.results59]
    have s4 := x4.size
    exact .inr ⟨fun i hi => (hall i hi).2, b, A', by first | rfl | trivial, x4.trans x5, ⟨or.top, Nat.le_trans s4 or.hb, fun r hr => let ⟨br, h1, h2, h3, oo⟩ := or.row r hr; ⟨br, h1, Nat.le_trans s4 h2, h3, oo⟩, or.inj⟩⟩

theorem raised_pk {rows : List (List Int)} (v : Valid rows) (hall : ∀ i, i < rows.length * rowLen rows → hgt rows i + 1 ≤ 99) {n : Nat} (hn : n < rows.length * rowLen rows) (hp : pkOf rows n = true) :
    promOf (mkRows rows.length (rowLen rows) fun i => hgt rows i + 1) n = promN rows.length (rowLen rows) (hgt rows) n := by
  have vv := mkRows_valid (h := fun i => hgt rows i + 1) v.r1 v.r7 v.c1 v.c7 fun i hi => by have := v.hgt i hi; have := hall i hi; omega
  have gv := (gvalid_iff _).2 vv
  have e : ∀ i, i < rows.length * rowLen rows → hgt (mkRows rows.length (rowLen rows) fun i => hgt rows i + 1) i = hgt rows i + 1 := fun i hi => mkRows_hgt v.r1 hi
  have g' : Gd rows.length (rowLen rows) (hgt (mkRows rows.length (rowLen rows) fun i => hgt rows i + 1)) := by
    have := vv.gd
    rwa [mkRows_len, mkRows_rowLen v.r1] at this
  obtain ⟨m, em, hv, hm, hpk⟩ := pk_parts hp
  have : n = m := by omega
  subst this
  have hpk' : pkOf (mkRows rows.length (rowLen rows) fun i => hgt rows i + 1) n = true := by
    rw [pkOf, gv, mkRows_len, mkRows_rowLen v.r1, Int.toNat_natCast, Bool.true_and, decide_eq_true (show (0 : Int) ≤ (n : Int) ∧ (n : Int) < (rows.length * rowLen rows : Nat) by omega), Bool.true_and, peakB_shift e hn, hpk]
  rw [promOf, if_pos hpk', mkRows_len, mkRows_rowLen v.r1, Int.toNat_natCast]
  exact prom_shift v.gd g' (by omega) e hn

theorem prominence_law_c (a : Option Addr) (l : List Int) (c : Nat) (w : World) (hl : l.length ≤ c) (hc : c ≤ maxLen) (hs : ByteS w a l) :
    Ret Try.prog 15 #[.slice a l.length c] w fun v w' => v = .bool true ∧ Ext w w' := by
  have hmax := maxLen_le (Nat.le_trans hl hc)
  refine enter1 Try.func15 rfl (by kernel_rfl) (of_decide_eq_true (by kernel_rfl)) fun f a0 => ?_
  by_cases hbig : (1048576 : Int) < l.length
  · simp (disch := omega) only [go_sem, Nat.reduceEqDiff, ↓reduceIte, Nat.reduceAdd, a0, hbig, Try.results15]
    exact ⟨trivial, Ext.refl _⟩
  simp (disch := omega) only [go_sem, Nat.reduceEqDiff, ↓reduceIte, Nat.reduceAdd, a0, hbig]
  refine callK_of (by kernel_rfl) (drawPeakProminence_c _ _ _ _ hl hc hs) ?_
  rintro _ w1 ⟨ga, gc, rows, A, Cp, i, rfl, hib, hr, x1⟩
  simp (disch := omega) only [go_sem, Nat.reduceEqDiff, ↓reduceIte, Nat.reduceAdd]
  refine callK_pure (by kernel_rfl) (implPeakProminence_c _ _ _ _ _ i _ hr) fun w2 x2 => ?_
  simp (disch := omega) only [go_sem, Nat.reduceEqDiff, ↓reduceIte, Nat.reduceAdd]
  refine callK_pure (by kernel_rfl) (specPeakProminence_c _ _ _ _ _ i _ (hr.ext x2)) fun w3 x3 => ?_
  have hne : (promOf rows i != promOf rows i) = false := bne_self_eq_false _
  have hee : (promOf rows i == promOf rows i) = true := beq_self_eq_true _
  have x13 := (x1.trans x2).trans x3
  cases hpk : pkOf rows i with
  | false =>
    have hlt : promOf rows i < 0 := by simp [promOf, hpk]
    simp (disch := omega) only [go_sem, Nat.reduceEqDiff, ↓reduceIte, Nat.reduceAdd, hne, hlt, hee, Try.results15]
    exact ⟨trivial, x13⟩
  | true =>
    obtain ⟨n, rfl, hv, hn, hp⟩ := pk_parts hpk
    have v := (gvalid_iff rows).1 hv
    have g := v.gd
    have hn49 := g.le
    have hprom : promOf rows (n : Int) = promN rows.length (rowLen rows) (hgt rows) n := by simp [promOf, hpk]
    have hkey : pkeyOf rows (n : Int) = keyN rows.length (rowLen rows) (hgt rows) n := by simp [pkeyOf, hpk]
    have hkb := keyN_bnd g n
    have hkl := keyN_le g hn
    have hhn := g.hh n hn
    have hpd : promN rows.length (rowLen rows) (hgt rows) n = hgt rows n - keyN rows.length (rowLen rows) (hgt rows) n := rfl
    have hnn : ¬ promN rows.length (rowLen rows) (hgt rows) n < 0 := by omega
    have hb1 : (promN rows.length (rowLen rows) (hgt rows) n + keyN rows.length (rowLen rows) (hgt rows) n == hgt rows n) = true := by rw [beq_iff_eq]; omega
    have hP : peakListOf rows = peaksL rows.length (rowLen rows) (hgt rows) := by rw [peakListOf, if_pos hv]
    obtain ⟨x, lt, hpx, hxn, hxm, htop⟩ := peaks_top g
    have h0x : (peakListOf rows).getD 0 0 = x := by rw [hP, hpx]; rfl
    have hppos : 0 < (peakListOf rows).length := by rw [hP, hpx]; simp
    have hnpos : 0 < (ni (peakListOf rows)).length := by rw [ni_len]; exact hppos
    have hr3 := (hr.ext x2).ext x3
    have hrange : rangeOf rows = .tuple #[.int .i64 (mnN (hgt rows) (rows.length * rowLen rows)), .int .i64 (mxN (hgt rows) (rows.length * rowLen rows)), .bool true] := by simp [rangeOf, hv]
    obtain ⟨i1, hi1, e1⟩ := mnN_at2 (hgt rows) _ g.pos
    obtain ⟨i2, hi2, e2⟩ := mxN_at (hgt rows) _ g.pos
    have hh1 := g.hh i1 hi1
    have hh2 := g.hh i2 hi2
    rw [hprom] at hne
    simp (disch := omega) only [go_sem, Nat.reduceEqDiff, ↓reduceIte, Nat.reduceAdd, hprom, hne, hnn]
    refine callK_of (by kernel_rfl) (gridRaise_c _ _ _ _ _ _ hr3 hv) ?_
    rintro _ w4 (⟨rfl, x4⟩ | ⟨hall, b, A', rfl, x4, or⟩)
    · skip
      simp (disch := omega) only [go_sem, Nat.reduceEqDiff, ↓reduceIte, Nat.reduceAdd]
      refine callK_of (by kernel_rfl) (implGridRange_c _ _ _ _ _ _ (hr3.ext x4)) ?_
      rintro _ w5 ⟨rfl, x5⟩
      simp (disch := omega) only [go_sem, Nat.reduceEqDiff, ↓reduceIte, Nat.reduceAdd, hrange]
      refine callK_of (by kernel_rfl) (peakList_c _ _ _ _ _ _ ((hr3.ext x4).ext x5)) ?_
      rintro _ w6 ⟨pa, pc, rfl, po, pf, x6⟩
      obtain ⟨pb, rfl⟩ := po.some (by omega)
      have g0 : w6.cell? ⟨pb, 0, none⟩ = some (.int .i64 (x : Nat)) := by rw [po.cell (by omega), vi_get _ _ hnpos, ni_get _ hppos, h0x]
      have x46 := (x4.trans x5).trans x6
      simp (disch := omega) only [go_sem, Nat.reduceEqDiff, ↓reduceIte, Nat.reduceAdd, g0]
      refine callK_pure (by kernel_rfl) (implPeakKey_c _ _ _ _ _ (n : Int) _ (hr3.ext x46)) fun w7 x7 => ?_
      simp (disch := omega) only [go_sem, Nat.reduceEqDiff, ↓reduceIte, Nat.reduceAdd, hkey]
      refine callK_pure (by kernel_rfl) (heightOf_c _ _ _ _ _ _ ((hr3.ext x46).ext x7) v (n : Int) (by omega) (by omega)) fun w8 x8 => ?_
      have x48 := (x46.trans x7).trans x8
      by_cases hnx : n = x
      · have hb : ((n : Int) != (x : Int)) = false := by rw [hnx]; exact bne_self_eq_false _
        have hb3 : (promN rows.length (rowLen rows) (hgt rows) n == mxN (hgt rows) (rows.length * rowLen rows) - mnN (hgt rows) (rows.length * rowLen rows)) = true := by
          rw [beq_iff_eq, promN, hnx, keyN_top htop, hxm]
        simp (disch := omega) only [go_sem, Nat.reduceEqDiff, ↓reduceIte, Nat.reduceAdd, Int.toNat_natCast, hb1, hb, hb3, Try.results15]
        exact ⟨trivial, x13.trans x48⟩
      · have hb : ((n : Int) != (x : Int)) = true := by simp; omega
        simp (disch := omega) only [go_sem, Nat.reduceEqDiff, ↓reduceIte, Nat.reduceAdd, Int.toNat_natCast, hb1, hb, Try.results15]
        exact ⟨trivial, x13.trans x48⟩
    · have hq := raised_pk v hall hn hpk
      have hr' := or.at (mkRows_i64 fun j hj => by have := v.hgt j hj; simp only [I64]; omega) (by rw [mkRows_len]; exact hr.lens) (mkRows_lens (by have := v.c7; simp only [maxLen]; omega))
      simp (disch := omega) only [go_sem, Nat.reduceEqDiff, ↓reduceIte, Nat.reduceAdd]
      refine callK_of (by kernel_rfl) (implGridRange_c _ _ _ _ _ _ (hr3.ext x4)) ?_
      rintro _ w5 ⟨rfl, x5⟩
      simp (disch := omega) only [go_sem, Nat.reduceEqDiff, ↓reduceIte, Nat.reduceAdd, hrange]
      refine callK_of (by kernel_rfl) (peakList_c _ _ _ _ _ _ ((hr3.ext x4).ext x5)) ?_
      rintro _ w6 ⟨pa, pc, rfl, po, pf, x6⟩
      obtain ⟨pb, rfl⟩ := po.some (by omega)
      have g0 : w6.cell? ⟨pb, 0, none⟩ = some (.int .i64 (x : Nat)) := by rw [po.cell (by omega), vi_get _ _ hnpos, ni_get _ hppos, h0x]
      have x46 := (x4.trans x5).trans x6
      simp (disch := omega) only [go_sem, Nat.reduceEqDiff, ↓reduceIte, Nat.reduceAdd, g0]
      refine callK_pure (by kernel_rfl) (implPeakKey_c _ _ _ _ _ (n : Int) _ (hr3.ext x46)) fun w7 x7 => ?_
      simp (disch := omega) only [go_sem, Nat.reduceEqDiff, ↓reduceIte, Nat.reduceAdd, hkey]
      refine callK_pure (by kernel_rfl) (heightOf_c _ _ _ _ _ _ ((hr3.ext x46).ext x7) v (n : Int) (by omega) (by omega)) fun w8 x8 => ?_
      have x48 := (x46.trans x7).trans x8
      have pI := implPeakProminence_c _ _ _ _ rows.length (n : Int) _ (((hr'.ext (x5.trans x6)).ext x7).ext x8)
      rw [mkRows_len] at pI
      simp (disch := omega) only [go_sem, Nat.reduceEqDiff, ↓reduceIte, Nat.reduceAdd, Int.toNat_natCast, hb1]
      refine callK_pure (by kernel_rfl) (pI) fun w9 x9 => ?_
      have hb2 : (promN rows.length (rowLen rows) (hgt rows) n == promN rows.length (rowLen rows) (hgt rows) n) = true := beq_self_eq_true _
      by_cases hnx : n = x
      · have hb : ((n : Int) != (x : Int)) = false := by rw [hnx]; exact bne_self_eq_false _
        have hb3 : (promN rows.length (rowLen rows) (hgt rows) n == mxN (hgt rows) (rows.length * rowLen rows) - mnN (hgt rows) (rows.length * rowLen rows)) = true := by
          rw [beq_iff_eq, promN, hnx, keyN_top htop, hxm]
        simp (disch := omega) only [go_sem, Nat.reduceEqDiff, ↓reduceIte, Nat.reduceAdd, hq, hb2, hb, hb3, Try.results15]
        exact ⟨trivial, (x13.trans x48).trans x9⟩
      · have hb : ((n : Int) != (x : Int)) = true := by simp; omega
        simp (disch := omega) only [go_sem, Nat.reduceEqDiff, ↓reduceIte, Nat.reduceAdd, hq, hb2, hb, Try.results15]
        exact ⟨trivial, (x13.trans x48).trans x9⟩
end Go.Proofs.Ytlnodngkacbfkaa
