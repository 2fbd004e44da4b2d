/- Contracts: sides, corners, shore and Euler number of the reference; grids turned and mirrored. -/
import Derived.Test.YtlnodngkacbfkaaLa
import Derived.Test.YtlnodngkacbfkaaLl
set_option linter.all false
set_option maxRecDepth 20000
namespace Go.Proofs.Ytlnodngkacbfkaa
open Go.RowKit Go.SW

/-- made, with a function that tells the heights H. -/
theorem made_g (gfn : FuncId) (R C fb : Nat) (H : Nat → Int) (w : World) (hgo : goB Try.prog gfn = true) (hclo : ∀ (r c : Nat) (W : World), Ext w W → r < R → c < C → Ret Try.prog gfn #[.int .i64 r, .int .i64 c, .pointer (some ⟨fb, 0, none⟩)] W fun v w' => v = .int .i64 (H (r * C + c)) ∧ Ext W w') (hR1 : 1 ≤ R) (hR : R ≤ 7) (hC1 : 1 ≤ C) (hC : C ≤ 7) (hh : ∀ i, i < R * C → 0 ≤ H i ∧ H i ≤ 99) :
    Ret Try.prog 93 #[.int .i64 R, .int .i64 C, .func (.func gfn) #[] #[.pointer (some ⟨fb, 0, none⟩)]] w fun v w' =>
      ∃ b A', v = .tuple #[.slice (some ⟨b, 0, none⟩) R R, .bool true] ∧ Ext w w' ∧ OwnRows w' 24 3 w.heap.size b (mkRows R C H) A' := by
  have hRC : R * C ≤ 7 * 7 := Nat.mul_le_mul hR hC
  refine enter3 Try.func93 rfl (by kernel_rfl) (of_decide_eq_true (by kernel_rfl)) fun f a0 a1 a2 => ?_
  have q1 : ¬ (R : Int) < 1 := by omega
  have q2 : ¬ (7 : Int) < R := by omega
  have q3 : ¬ (C : Int) < 1 := by omega
  have q4 : ¬ (7 : Int) < C := by omega
  simp only [go_sem, Nat.reduceEqDiff, ↓reduceIte, a0, a1, q1, q2, q3, q4]
  refine callK_of (by kernel_rfl) (blank_c R C _ (by omega) (by omega)) ?_
  rintro _ w1 ⟨nb, rfl, x1, hnb, o1⟩
  simp only [go_sem, Nat.reduceEqDiff, ↓reduceIte]
  refine allocK_of zero_f fun w2 b8 e8 x2 k8 _ => ?_
  simp only [go_sem, Nat.reduceEqDiff, ↓reduceIte]
  have hn1 : nb < w1.heap.size := o1.blk_lt rfl
  refine stK_agg siz_f (by simp) (by simp [Value.oneCell']) k8 (by simp) fun w3 k3 g3 => ?_
  have o3 := (o1.ext x2).grow g3.grow (by simp [blk]; omega)
  have s1 := x1.size
  have s2 := x2.size
  have x3 : Ext w w3 := g3.ext (x1.trans x2) (by omega)
  have s3 := x3.size
  have hn3 : nb ≠ b8 := by omega
  simp only [go_sem, Nat.reduceEqDiff, ↓reduceIte, a0]
  clear k8 g3 x1 x2
  let V : Nat → Value := fun j => .int .i64 (H j)
  let S : F → World → Nat → Prop := fun f w' m => f 1 = .int .i64 C ∧ f 2 = .func (.func gfn) #[] #[.pointer (some ⟨fb, 0, none⟩)] ∧ f 8 = .pointer (some ⟨b8, 0, none⟩) ∧ f 29 = .int .i64 R ∧
    Ext w w' ∧ Blk w' b8 #[.int .i64 R, .int .i64 C, .slice (some ⟨nb, 0, none⟩) (R * C) (R * C)] 51 ∧
    ∃ xs, OwnS w' 3 1 (some ⟨nb, 0, none⟩) (R * C) (R * C) xs ∧ ∀ j, j < m → xs[j]? = some (V j)
  refine loopX (fun m f w' => ∃ r : Nat, m = R - r ∧ r ≤ R ∧ f 30 = .int .i64 r ∧ S f w' (r * C)) R ?_ fun m f w' ⟨r, hm, hr, a30, ⟨a1, a2, a8, a29, xw, kf, xs, o, hx⟩⟩ => ?_
  · exact ⟨0, by omega, by omega, by simp [upd_apply], ⟨by simp [upd_apply, a1], by simp [upd_apply, a2], by simp [upd_apply], by simp [upd_apply], x3, k3, _, o3, fun j hj => by simp at hj⟩⟩
  · by_cases hlt : (r : Int) < R
    · simp (disch := omega) only [go_sem, Nat.reduceEqDiff, ↓reduceIte, a1, a29, a30, hlt]
      have hq : r * C + C ≤ R * C := by
        have := Nat.mul_le_mul_right C (show r + 1 ≤ R by omega)
        rw [Nat.add_mul, Nat.one_mul] at this; exact this
      refine loopX (fun m f w' => ∃ c : Nat, m = C - c ∧ c ≤ C ∧ f 30 = .int .i64 r ∧ f 9 = .int .i64 r ∧ f 33 = .int .i64 C ∧ f 34 = .int .i64 c ∧ S f w' (r * C + c)) C ?_ fun m f w' ⟨c, hm, hcc, a30, a9, a33, a34, ⟨a1, a2, a8, a29, xw, kf, xs, o, hx⟩⟩ => ?_
      · exact ⟨0, by omega, by omega, by simp [upd_apply, a30], by simp [upd_apply], by simp [upd_apply], by simp [upd_apply], ⟨by simp [upd_apply, a1], by simp [upd_apply, a2], by simp [upd_apply, a8], by simp [upd_apply, a29], xw, kf, xs, o, hx⟩⟩
      · by_cases hltc : (c : Int) < C
        · simp (disch := omega) only [go_sem, Nat.reduceEqDiff, ↓reduceIte, a2, a9, a33, a34, hltc, Array.append_empty, Array.empty_append, List.append_toArray, List.cons_append, List.nil_append]
          have hhj := hh (r * C + c) (by omega)
          refine callK_of hgo (hclo r c _ xw (by omega) (by omega)) ?_
          rintro _ w4 ⟨rfl, x4⟩
          simp (disch := omega) only [go_sem, Nat.reduceEqDiff, ↓reduceIte]
          refine callK_of (by kernel_rfl) (isHeight_c _ _) ?_
          rintro _ w5 ⟨rfl, x5⟩
          have hd : (0 ≤ H (r * C + c) ∧ H (r * C + c) ≤ 99) := by omega
          simp (disch := omega) only [go_sem, Nat.reduceEqDiff, ↓reduceIte, hd, and_self]
          refine QR_tail 7 (by kernel_rfl) (by kernel_rfl) ?_
          have kf5 := (kf.ext x4).ext x5
          simp (disch := omega) only [go_sem, Nat.reduceEqDiff, ↓reduceIte, Nat.reduceAdd, a8, a9, kf5.cell, readCells_blk kf5 (n := 3) (by simp), List.getElem?_toArray, List.getElem?_cons_succ, List.getElem?_cons_zero]
          refine callK_q (by kernel_rfl) (fun w' e => index_c _ _ _ _ _ _ _ _ (by omega) (by omega) (by omega)) ?_
          simp (disch := omega) only [go_sem, Nat.reduceEqDiff, ↓reduceIte]
          intro w6 x6
          refine stK_own siz_int (by rfl) (by rfl) (((o.ext x4).ext x5).ext x6) (by omega) fun w7 o7 g7 => ?_
          simp (disch := omega) only [go_sem, Nat.reduceEqDiff, ↓reduceIte, a34]
          refine ⟨C - (c + 1), by omega, c + 1, rfl, by omega, by simp [upd_apply, a30], by simp [upd_apply, a9], by simp [upd_apply, a33], by simp [upd_apply],
            ⟨by simp [upd_apply, a1], by simp [upd_apply, a2], by simp [upd_apply, a8], by simp [upd_apply, a29], g7.ext (((xw.trans x4).trans x5).trans x6) (by omega), g7.grow.blk (kf5.ext x6) (by simp; omega), _, o7, ?_⟩⟩
          rw [← Nat.add_assoc]
          exact set_get V (by rw [o.1]; omega) rfl hx
        · simp (disch := omega) only [go_sem, Nat.reduceEqDiff, ↓reduceIte, a30, a33, a34, hltc]
          exact ⟨R - (r + 1), by omega, r + 1, rfl, by omega, by simp [upd_apply], ⟨by simp [upd_apply, a1], by simp [upd_apply, a2], by simp [upd_apply, a8], by simp [upd_apply, a29], xw, kf, xs, o, fun j hj => hx j (by rw [Nat.add_mul, Nat.one_mul] at hj; omega)⟩⟩
    · simp (disch := omega) only [go_sem, Nat.reduceEqDiff, ↓reduceIte, a29, a30, a8, hlt, readCells_blk kf (n := 3) (by simp)]
      obtain rfl : r = R := by omega
      refine callK_of (by kernel_rfl) (lists_c r C nb (H) _ (fun i hi => by rw [o.cell (by omega), hx i hi]) (by omega) hC1 (by omega)) ?_
      rintro _ w4 ⟨b, A', rfl, x4, or⟩
      simp (disch := omega) only [go_sem, Nat.reduceEqDiff, ↓reduceIte, Try.results93]
      exact ⟨b, A', rfl, xw.trans x4, ⟨or.top, Nat.le_trans xw.size or.hb, fun r hr => let ⟨br, h1, h2, h3, oo⟩ := or.row r hr; ⟨br, h1, Nat.le_trans xw.size h2, h3, oo⟩, or.inj⟩⟩


def turnH (R C : Nat) (h : Nat → Int) (i : Nat) : Int := h ((R - 1 - i % R) * C + i / R)
def mirrorH (C : Nat) (h : Nat → Int) (i : Nat) : Int := h (i / C * C + (C - 1 - i % C))

theorem turn_idx {R C i : Nat} (hi : i < C * R) : (R - 1 - i % R) * C + i / R < R * C := by
  have hR : 0 < R := Nat.pos_of_ne_zero fun e => by subst e; simp at hi
  have h1 : i / R < C := Nat.div_lt_of_lt_mul (by rw [Nat.mul_comm]; exact hi)
  exact corner_le (by omega) h1
theorem mirror_idx {R C i : Nat} (hi : i < R * C) : i / C * C + (C - 1 - i % C) < R * C := by
  have hC : 0 < C := Nat.pos_of_ne_zero fun e => by subst e; simp at hi
  have h1 : i / C < R := Nat.div_lt_of_lt_mul (by rw [Nat.mul_comm]; exact hi)
  exact corner_le h1 (by omega)

end Go.Proofs.Ytlnodngkacbfkaa
