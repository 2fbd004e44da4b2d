/- Contracts: grids, both sides. -/
import Derived.Test.YtlnodngkacbfkaaF
import Derived.Test.YtlnodngkacbfkaaSwh
set_option linter.all false
set_option maxRecDepth 20000
namespace Go.SW
theorem gv_false {rows : List (List Int)} (h : ¬ Valid rows) : gvalid rows = false := by
  cases hg : gvalid rows with
  | false => rfl
  | true => exact absurd ((gvalid_iff rows).1 hg) h
def hs (rows : List (List Int)) : List Int := (List.range (rows.length * rowLen rows)).map (hgt rows)
theorem hs_len (rows : List (List Int)) : (hs rows).length = rows.length * rowLen rows := by simp [hs]
theorem hs_get (rows : List (List Int)) (i : Nat) (h : i < rows.length * rowLen rows) : (hs rows).getD i 0 = hgt rows i := by simp [hs, h]
end Go.SW
namespace Go.Proofs.Ytlnodngkacbfkaa
open Go.RowKit Go.SW

theorem isHeight_c (x : Int) (w : World) :
    Ret Try.prog 74 #[.int .i64 x] w fun v w' => v = .bool (decide (0 ≤ x ∧ x ≤ 99)) ∧ Ext w w' := by
  refine enter1 Try.func74 rfl (by kernel_rfl) (of_decide_eq_true (by kernel_rfl)) fun f a0 => ?_
  by_cases h : 0 ≤ x <;>
    simp only [go_sem, Nat.reduceEqDiff, ↓reduceIte, a0, h, Try.results74, Ext.refl, and_true, true_and, false_and]

theorem l6In_c (n lo hi : Int) (w : World) :
    Ret Try.prog 96 #[.int .i64 n, .int .i64 lo, .int .i64 hi] w fun v w' => v = .bool (decide (lo ≤ n ∧ n ≤ hi)) ∧ Ext w w' := by
  refine enter3 Try.func96 rfl (by kernel_rfl) (of_decide_eq_true (by kernel_rfl)) fun f a0 a1 a2 => ?_
  by_cases h : lo ≤ n <;>
    simp only [go_sem, Nat.reduceEqDiff, ↓reduceIte, a0, a1, a2, h, Try.results96, Ext.refl, and_true, true_and, false_and]

theorem index_c (a : Int) (C : Nat) (x : Option Addr) (n cc : Nat) (r c : Nat) (w : World) (hC : C ≤ 1000) (hr : r ≤ 1000) (hc : c ≤ 1000) :
    Ret Try.prog 75 #[.agg #[.int .i64 a, .int .i64 C, .slice x n cc], .int .i64 r, .int .i64 c] w fun v w' => v = .int .i64 (r * C + c : Nat) ∧ Ext w w' := by
  have h1 : r * C ≤ 1000 * 1000 := Nat.mul_le_mul hr hC
  have h2 : (r : Int) * C = ((r * C : Nat) : Int) := by simp
  refine enter3 Try.func75 rfl (by kernel_rfl) (of_decide_eq_true (by kernel_rfl)) fun f a0 a1 a2 => ?_
  simp only [go_sem, Nat.reduceEqDiff, ↓reduceIte, a0]
  refine boxK_of fun w1 b _ x1 k1 _ => ?_
  simp (disch := omega) only [go_sem, Nat.reduceEqDiff, ↓reduceIte, Nat.reduceAdd, a0, a1, a2, k1.cell, Value.cells, h2, Try.results75]
  exact ⟨by simp, x1⟩

theorem blank_c (R C : Nat) (w : World) (hR : R ≤ 1000) (hC : C ≤ 1000) :
    Ret Try.prog 98 #[.int .i64 R, .int .i64 C] w fun v w' => ∃ b, v = .agg #[.int .i64 R, .int .i64 C, .slice (some ⟨b, 0, none⟩) (R * C) (R * C)] ∧ Ext w w' ∧ w.heap.size ≤ b ∧
      OwnS w' 3 1 (some ⟨b, 0, none⟩) (R * C) (R * C) (List.replicate (R * C) (.int .i64 0)) := by
  have h1 : R * C ≤ 1000 * 1000 := Nat.mul_le_mul hR hC
  have h2 : (R : Int) * C = ((R * C : Nat) : Int) := by simp
  refine enter2 Try.func98 rfl (by kernel_rfl) (of_decide_eq_true (by kernel_rfl)) fun f a0 a1 => ?_
  simp only [go_sem, Nat.reduceEqDiff, ↓reduceIte]
  refine allocK_of zero_f fun w1 b1 e1 x1 k1 _ => ?_
  simp (disch := omega) only [go_sem, Nat.reduceEqDiff, ↓reduceIte, a0, a1, h2]
  refine mksK_of elt_i (R * C) (R * C) _ _ _ _ rfl rfl (Nat.le_refl _) (by omega) (by simp [maxLen]; omega) fun w2 b eb x2 o2 _ => ?_
  simp only [go_sem, Nat.reduceEqDiff, ↓reduceIte]
  have hl := k1.lt
  refine stK_agg siz_f (by simp) (by simp [Value.oneCell']) (k1.ext x2) (by simp) fun w3 k3 g3 => ?_
  simp only [go_sem, Nat.reduceEqDiff, ↓reduceIte, Try.results98, readCells_blk k3 (n := 3) (by simp)]
  refine ⟨b, rfl, g3.ext (x1.trans x2) (by omega), by have := x1.size; omega, ?_⟩
  rw [← made_int]
  exact o2.grow g3.grow (by simp [blk]; omega)

/-- What fieldOf hands back. -/
def FieldOf (w : World) (rows : List (List Int)) (v : Value) (w' : World) : Prop :=
  Ext w w' ∧ ((gvalid rows = true ∧ ∃ cb, v = .tuple #[.agg #[.int .i64 rows.length, .int .i64 (rowLen rows), .slice (some ⟨cb, 0, none⟩) (rows.length * rowLen rows) (rows.length * rowLen rows)], .bool true] ∧ w.heap.size ≤ cb ∧
      OwnS w' 3 1 (some ⟨cb, 0, none⟩) (rows.length * rowLen rows) (rows.length * rowLen rows) (vi (hs rows))) ∨
    (gvalid rows = false ∧ v = .tuple #[.agg #[.int .i64 0, .int .i64 0, .slice none 0 0], .bool false]))

theorem fieldOf_c (a : Option Addr) (rows : List (List Int)) (A : Nat → Option Addr) (Cp : Nat → Nat) (gc : Nat) (w : World) (hr : RowsAt w a rows A Cp) :
    Ret Try.prog 66 #[.slice a rows.length gc] w (FieldOf w rows) := by
  refine enter1 Try.func66 rfl (by kernel_rfl) (of_decide_eq_true (by kernel_rfl)) fun f a0 => ?_
  simp only [go_sem, Nat.reduceEqDiff, ↓reduceIte]
  refine allocK_of zero_f fun w1 b2 e1 x1 k1 _ => ?_
  have hb2 := k1.lt
  -- any way out with false
  have out : ∀ (w' : World), Ext w1 w' → ∀ {K : Value → World → Prop}, (∀ w'', Ext w w'' → Blk w'' b2 #[.int .i64 0, .int .i64 0, .slice none 0 0] 51 → K undef w'') →
      stK Try.prog 51 (.pointer (some ⟨b2, 0, none⟩)) (.agg #[.int .i64 0, .int .i64 0, .slice none 0 0]) K w' := by
    intro w' x K hK
    exact stK_agg siz_f (by simp) (by simp [Value.oneCell']) (k1.ext x) (by simp) fun w3 k3 g3 => hK w3 (g3.ext (x1.trans x) (by omega)) k3
  have fin : ∀ {w'' : World}, Ext w w'' → gvalid rows = false → FieldOf w rows (.tuple #[.agg #[.int .i64 0, .int .i64 0, .slice none 0 0], .bool false]) w'' := fun x hv => ⟨x, .inr ⟨hv, rfl⟩⟩
  by_cases hR1 : rows.length < 1
  · have hv := gv_false (rows := rows) (fun v => by have := v.r1; omega)
    have hR1' : (rows.length : Int) < 1 := by omega
    simp only [go_sem, Nat.reduceEqDiff, ↓reduceIte, a0, hR1']
    refine out w1 (Ext.refl _) fun w3 x3 k3 => ?_
    simp only [go_sem, Nat.reduceEqDiff, ↓reduceIte, Try.results66, readCells_blk k3 (n := 3) (by simp)]
    exact fin x3 hv
  by_cases hR7 : 7 < rows.length
  · have hv := gv_false (rows := rows) (fun v => by have := v.r7; omega)
    have hR1' : ¬ (rows.length : Int) < 1 := by omega
    have hR7' : (7 : Int) < rows.length := by omega
    simp only [go_sem, Nat.reduceEqDiff, ↓reduceIte, a0, hR1', hR7']
    refine out w1 (Ext.refl _) fun w3 x3 k3 => ?_
    simp only [go_sem, Nat.reduceEqDiff, ↓reduceIte, Try.results66, readCells_blk k3 (n := 3) (by simp)]
    exact fin x3 hv
  obtain ⟨gb, go, rfl⟩ := hr.head (by intro e; rw [e] at hR1; simp at hR1)
  have hR1' : ¬ (rows.length : Int) < 1 := by omega
  have hR7' : ¬ (7 : Int) < rows.length := by omega
  have g0 := (hr.ext x1).row gb go rfl 0 (by omega)
  simp only [Nat.add_zero] at g0
  rw [show (rows.getD 0 []).length = rowLen rows from rfl] at g0
  by_cases hC1 : rowLen rows < 1
  · have hv := gv_false (rows := rows) (fun v => by have := v.c1; omega)
    have hC1' : (rowLen rows : Int) < 1 := by omega
    simp (disch := omega) only [go_sem, Nat.reduceEqDiff, ↓reduceIte, a0, hR1', hR7', g0, hC1']
    refine out w1 (Ext.refl _) fun w3 x3 k3 => ?_
    simp only [go_sem, Nat.reduceEqDiff, ↓reduceIte, Try.results66, readCells_blk k3 (n := 3) (by simp)]
    exact fin x3 hv
  by_cases hC7 : 7 < rowLen rows
  · have hv := gv_false (rows := rows) (fun v => by have := v.c7; omega)
    have hC1' : ¬ (rowLen rows : Int) < 1 := by omega
    have hC7' : (7 : Int) < rowLen rows := by omega
    simp (disch := omega) only [go_sem, Nat.reduceEqDiff, ↓reduceIte, a0, hR1', hR7', g0, hC1', hC7']
    refine out w1 (Ext.refl _) fun w3 x3 k3 => ?_
    simp only [go_sem, Nat.reduceEqDiff, ↓reduceIte, Try.results66, readCells_blk k3 (n := 3) (by simp)]
    exact fin x3 hv
  have hC1' : ¬ (rowLen rows : Int) < 1 := by omega
  have hC7' : ¬ (7 : Int) < rowLen rows := by omega
  simp (disch := omega) only [go_sem, Nat.reduceEqDiff, ↓reduceIte, a0, hR1', hR7', g0, hC1', hC7']
  refine callK_of (by kernel_rfl) (blank_c rows.length (rowLen rows) _ (by omega) (by omega)) ?_
  rintro _ w2 ⟨cb, rfl, x2, hcb, o2⟩
  simp only [go_sem, Nat.reduceEqDiff, ↓reduceIte]
  refine allocK_of zero_f fun w3 b6 e6 x3 k3 _ => ?_
  simp only [go_sem, Nat.reduceEqDiff, ↓reduceIte]
  have hcb2 : cb < w2.heap.size := o2.blk_lt rfl
  refine stK_agg siz_f (by simp) (by simp [Value.oneCell']) k3 (by simp) fun w4 k4 g4 => ?_
  have o4 := (o2.ext x3).grow g4.grow (by simp [blk]; omega)
  have k14 := g4.blk ((k1.ext x2).ext x3) (by omega)
  have x4 : Ext w w4 := g4.ext ((x1.trans x2).trans x3) (by have := x1.size; have := x2.size; omega)
  simp only [go_sem, Nat.reduceEqDiff, ↓reduceIte, a0]
  have hC : rowLen rows ≤ 7 := by omega
  have hR : rows.length ≤ 7 := by omega
  have hne6 : cb ≠ b6 := by omega
  have hne2 : cb ≠ b2 := by have := x1.size; omega
  have hne26 : b2 ≠ b6 := by have := x2.size; omega
  clear k3 g4 k1 o2 x1 x2 x3 a0 g0 out
  have hRC : rows.length * rowLen rows ≤ 7 * 7 := Nat.mul_le_mul hR hC
  -- the state that both loops keep
  let S : F → World → Nat → Prop := fun f w' m => f 2 = .pointer (some ⟨b2, 0, none⟩) ∧ f 5 = .int .i64 (rowLen rows) ∧ f 6 = .pointer (some ⟨b6, 0, none⟩) ∧ f 34 = .slice (some ⟨gb, go, none⟩) rows.length gc ∧ f 35 = .int .i64 rows.length ∧
    Ext w w' ∧ Blk w' b2 #[.int .i64 0, .int .i64 0, .slice none 0 0] 51 ∧
    Blk w' b6 #[.int .i64 rows.length, .int .i64 (rowLen rows), .slice (some ⟨cb, 0, none⟩) (rows.length * rowLen rows) (rows.length * rowLen rows)] 51 ∧
    ∃ xs, OwnS w' 3 1 (some ⟨cb, 0, none⟩) (rows.length * rowLen rows) (rows.length * rowLen rows) xs ∧ ∀ j, j < m → xs[j]? = some (.int .i64 (hgt rows j))
  let V : Nat → Prop := fun k => ∀ r, r < k → (rows.getD r []).length = rowLen rows ∧ ∀ c, c < rowLen rows → 0 ≤ (rows.getD r []).getD c 0 ∧ (rows.getD r []).getD c 0 ≤ 99
  have out : ∀ {w' : World} {K : Value → World → Prop}, Ext w w' → Blk w' b2 #[.int .i64 0, .int .i64 0, .slice none 0 0] 51 → (∀ w'', Ext w w'' → Blk w'' b2 #[.int .i64 0, .int .i64 0, .slice none 0 0] 51 → K undef w'') →
      stK Try.prog 51 (.pointer (some ⟨b2, 0, none⟩)) (.agg #[.int .i64 0, .int .i64 0, .slice none 0 0]) K w' := by
    intro w' K x k hK
    exact stK_agg siz_f (by simp) (by simp [Value.oneCell']) k (by simp) fun w3 k3 g3 => hK w3 (g3.ext x (by omega)) k3
  refine loopX (fun m f w' => ∃ k : Nat, m = rows.length - k ∧ k ≤ rows.length ∧ f 36 = .int .i64 k ∧ S f w' (k * rowLen rows) ∧ V k) rows.length ?_ fun m f w' ⟨k, hm, hk, a36, ⟨a2, a5, a6, a34, a35, xw, k2, k6, xs, o, hx⟩, hV⟩ => ?_
  · refine ⟨0, by omega, by omega, by simp [upd_apply], ⟨by simp [upd_apply], by simp [upd_apply], by simp [upd_apply], by simp [upd_apply, *], by simp [upd_apply], x4, k14, k4, _, o4, fun j hj => ?_⟩, fun r hr => by omega⟩
    simp at hj
  · by_cases hlt : (k : Int) < rows.length
    · have hr' := hr.ext xw
      have g0 := hr'.row gb go rfl k (by omega)
      by_cases hlen : (rows.getD k []).length = rowLen rows
      · have hne : (((rows.getD k []).length : Int) != (rowLen rows : Int)) = false := bne_eq_false_iff_eq.2 (by rw [hlen])
        simp (disch := omega) only [go_sem, Nat.reduceEqDiff, ↓reduceIte, a5, a34, a35, a36, hlt, g0, hne]
        refine loopX (fun m f w' => ∃ c : Nat, m = rowLen rows - c ∧ c ≤ rowLen rows ∧ f 36 = .int .i64 k ∧ f 7 = .int .i64 k ∧ f 46 = .slice (A k) (rows.getD k []).length (Cp k) ∧ f 47 = .int .i64 (rows.getD k []).length ∧ f 48 = .int .i64 c ∧ S f w' (k * rowLen rows + c) ∧
          ∀ c', c' < c → 0 ≤ (rows.getD k []).getD c' 0 ∧ (rows.getD k []).getD c' 0 ≤ 99) (rowLen rows) ?_ fun m' f w' ⟨c, hm', hc, a36, a7, a46, a47, a48, ⟨a2, a5, a6, a34, a35, xw, k2, k6, xs, o, hx⟩, hVc⟩ => ?_
        · exact ⟨0, by omega, by omega, by simp [upd_apply, a36], by simp [upd_apply], by simp [upd_apply], by simp [upd_apply], by simp [upd_apply], ⟨by simp [upd_apply, a2], by simp [upd_apply, a5], by simp [upd_apply, a6], by simp [upd_apply, a34], by simp [upd_apply, a35], xw, k2, k6, xs, o, hx⟩, fun c' hc' => by omega⟩
        · by_cases hltc : (c : Int) < (rows.getD k []).length
          · obtain ⟨rb, ro, hA⟩ := (hr'.ints k (by omega)).head (by intro e; rw [e] at hltc; simp at hltc; omega)
            have g1 := ((hr.ext xw).ints k (by omega)).cell rb ro hA c (by omega)
            simp (disch := omega) only [go_sem, Nat.reduceEqDiff, ↓reduceIte, a46, a47, a48, hltc, hA, g1]
            refine callK_of (by kernel_rfl) (isHeight_c _ _) ?_
            rintro _ w5 ⟨rfl, x5⟩
            by_cases hh : 0 ≤ (rows.getD k []).getD c 0 ∧ (rows.getD k []).getD c 0 ≤ 99
            · simp only [go_sem, Nat.reduceEqDiff, ↓reduceIte, hh, and_self]
              refine QR_tail 8 (by kernel_rfl) (by kernel_rfl) ?_
              have k65 := k6.ext x5
              simp (disch := omega) only [go_sem, Nat.reduceEqDiff, ↓reduceIte, Nat.reduceAdd, a6, a7, k65.cell, readCells_blk k65 (n := 3) (by simp)]
              refine callK_q (by kernel_rfl) (fun w' e => index_c _ _ _ _ _ _ _ _ (by omega) (by omega) (by omega)) ?_
              have hlt2 : k * rowLen rows + c < rows.length * rowLen rows := by
                have := Nat.mul_le_mul_right (rowLen rows) (show k + 1 ≤ rows.length by omega)
                rw [Nat.add_mul, Nat.one_mul] at this; omega
              simp (disch := omega) only [go_sem, Nat.reduceEqDiff, ↓reduceIte]
              intro w6 x6
              refine stK_own siz_int (by rfl) (by rfl) ((o.ext x5).ext x6) (by omega) fun w7 o7 g7 => ?_
              simp (disch := omega) only [go_sem, Nat.reduceEqDiff, ↓reduceIte, a48]
              obtain ⟨e1, e2⟩ := div_row (rowLen rows) k c (by omega)
              refine ⟨rowLen rows - (c + 1), by omega, c + 1, rfl, by omega, by simp [upd_apply, a36], by simp [upd_apply, a7], by simp [upd_apply, a46, hA], by simp [upd_apply, a47], by simp [upd_apply],
                ⟨by simp [upd_apply, a2], by simp [upd_apply, a5], by simp [upd_apply, a6], by simp [upd_apply, a34], by simp [upd_apply, a35], g7.ext ((xw.trans x5).trans x6) (by omega),
                  g7.blk ((k2.ext x5).ext x6) (by omega), g7.blk ((k6.ext x5).ext x6) (by omega), _, o7, ?_⟩, fun c' hc' => ?_⟩
              · rw [← Nat.add_assoc]
                exact set_get (fun j => .int .i64 (hgt rows j)) (by rw [o.1]; omega) (by simp only [hgt, e1, e2]) hx
              · by_cases e : c' = c
                · subst e; exact hh
                · exact hVc c' (by omega)
            · simp only [go_sem, Nat.reduceEqDiff, ↓reduceIte, hh, a2]
              refine out (xw.trans x5) (k2.ext x5) fun w6 x6 k => ?_
              simp only [go_sem, Nat.reduceEqDiff, ↓reduceIte, Try.results66, readCells_blk k (n := 3) (by simp), a2]
              exact fin x6 (gv_false fun v => hh (v.cell _ _ (by omega) (by omega)))
          · simp (disch := omega) only [go_sem, Nat.reduceEqDiff, ↓reduceIte, a36, a46, a47, a48, hltc]
            have e : c = rowLen rows := by omega
            refine ⟨rows.length - (k + 1), by omega, k + 1, rfl, by omega, by simp [upd_apply], ⟨by simp [upd_apply, a2], by simp [upd_apply, a5], by simp [upd_apply, a6], by simp [upd_apply, a34], by simp [upd_apply, a35], xw, k2, k6, xs, o, fun j hj => hx j (by rw [Nat.add_mul, Nat.one_mul] at hj; omega)⟩, fun r hr2 => ?_⟩
            by_cases e2 : r = k
            · subst e2; exact ⟨hlen, fun c' hc' => hVc c' (by omega)⟩
            · exact hV r (by omega)
      · have hne : (((rows.getD k []).length : Int) != (rowLen rows : Int)) = true := bne_iff_ne.2 (by omega)
        simp (disch := omega) only [go_sem, Nat.reduceEqDiff, ↓reduceIte, a2, a5, a34, a35, a36, hlt, g0, hne]
        refine out xw k2 fun w6 x6 k => ?_
        simp only [go_sem, Nat.reduceEqDiff, ↓reduceIte, Try.results66, readCells_blk k (n := 3) (by simp), a2]
        exact fin x6 (gv_false fun v => hlen (v.len _ (by omega)))
    · simp only [go_sem, Nat.reduceEqDiff, ↓reduceIte, a2, a5, a6, a34, a35, a36, hlt, readCells_blk k6 (n := 3) (by simp)]
      have e : k = rows.length := by omega
      subst e
      refine stK_agg siz_f (by simp) (by simp [Value.oneCell']) k2 (by simp) fun w6 k26 g6 => ?_
      simp only [go_sem, Nat.reduceEqDiff, ↓reduceIte, Try.results66, readCells_blk k26 (n := 3) (by simp), a2]
      refine ⟨g6.ext xw (by omega), .inl ⟨(gvalid_iff rows).2 ⟨by omega, hR, by omega, hC, fun r hr => (hV r hr).1, fun r c hr hc => (hV r hr).2 c hc⟩, cb, rfl, by omega, ?_⟩⟩
      have : xs = vi (hs rows) := vi_ext (by rw [o.1, hs_len]; omega) (fun j hj => by rw [hs_len] at hj; rw [hx j hj, hs_get rows j hj])
      rw [← this]
      exact o.grow g6.grow (by simp [blk]; omega)

end Go.Proofs.Ytlnodngkacbfkaa
