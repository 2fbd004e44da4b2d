/- Contracts: the range of a grid and the greatest level, both sides. -/
import Derived.Test.YtlnodngkacbfkaaCd
set_option linter.all false
set_option maxRecDepth 20000
namespace Go.SW
/-- The least and the greatest of the first n numbers and of the first one. -/
def mnN (h : Nat → Int) : Nat → Int
  | 0 => h 0
  | n + 1 => min (mnN h n) (h n)
def mxN (h : Nat → Int) : Nat → Int
  | 0 => h 0
  | n + 1 => max (mxN h n) (h n)
theorem mxN_ge (h : Nat → Int) : ∀ (n i : Nat), i < n → h i ≤ mxN h n
  | n + 1, i, hi => by
    simp only [mxN]
    by_cases e : i = n
    · subst e; omega
    · have := mxN_ge h n i (by omega); omega
theorem mxN_at (h : Nat → Int) : ∀ (n : Nat), 0 < n → ∃ i, i < n ∧ mxN h n = h i
  | n + 1, _ => by
    simp only [mxN]
    by_cases h0 : n = 0
    · subst h0; exact ⟨0, by omega, by simp [mxN]⟩
    · obtain ⟨i, hi, e⟩ := mxN_at h n (by omega)
      by_cases hm : mxN h n ≤ h n
      · exact ⟨n, by omega, by omega⟩
      · exact ⟨i, by omega, by omega⟩
theorem cntp_pos (p : Nat → Prop) [DecidablePred p] : ∀ (n i : Nat), i < n → p i → 1 ≤ cntp p n
  | n + 1, i, hi, hp => by
    simp only [cntp]
    by_cases e : i = n
    · subst e; simp [hp]
    · have := cntp_pos p n i (by omega) hp; omega
theorem cntp_zero (p : Nat → Prop) [DecidablePred p] : ∀ (n : Nat), (∀ i, i < n → ¬ p i) → cntp p n = 0
  | 0, _ => rfl
  | n + 1, h => by
    simp only [cntp, cntp_zero p n (fun i hi => h i (by omega)), if_neg (h n (by omega))]
theorem cntp_le_of (p q : Nat → Prop) [DecidablePred p] [DecidablePred q] (h : ∀ i, p i → q i) : ∀ n, cntp p n ≤ cntp q n
  | 0 => by simp [cntp]
  | n + 1 => by
    have ih := cntp_le_of p q h n
    simp only [cntp]
    by_cases hp : p n
    · rw [if_pos hp, if_pos (h n hp)]; omega
    · rw [if_neg hp]; omega
theorem cntp_all (p : Nat → Prop) [DecidablePred p] : ∀ n, (∀ i, i < n → p i) → cntp p n = n
  | 0, _ => rfl
  | n + 1, h => by simp only [cntp, cntp_all p n (fun i hi => h i (by omega)), if_pos (h n (by omega))]
theorem Valid.hgt {rows : List (List Int)} (v : Valid rows) (i : Nat) (hi : i < rows.length * rowLen rows) : 0 ≤ hgt rows i ∧ hgt rows i ≤ 99 := by
  have hc := v.c1
  exact v.cell _ _ (Nat.div_lt_of_lt_mul (by rw [Nat.mul_comm]; exact hi)) (Nat.mod_lt _ (by omega))
end Go.SW
namespace Go.Proofs.Ytlnodngkacbfkaa
open Go.RowKit Go.SW

/-- What GridRange answers. -/
def rangeOf (rows : List (List Int)) : Value :=
  if gvalid rows = true then .tuple #[.int .i64 (mnN (hgt rows) (rows.length * rowLen rows)), .int .i64 (mxN (hgt rows) (rows.length * rowLen rows)), .bool true] else .tuple #[.int .i64 0, .int .i64 0, .bool false]
def greatestOf (rows : List (List Int)) : Int := if gvalid rows = true then mxN (hgt rows) (rows.length * rowLen rows) else -1

theorem specGridRange_c (a : Option Addr) (rows : List (List Int)) (A : Nat → Option Addr) (Cp : Nat → Nat) (gc : Nat) (w : World) (hr : RowsAt w a rows A Cp) :
    Ret Try.prog 113 #[.slice a rows.length gc] w fun v w' => v = rangeOf rows ∧ Ext w w' := by
  refine enter1 Try.func113 rfl (by kernel_rfl) (of_decide_eq_true (by kernel_rfl)) fun f a0 => ?_
  simp (disch := omega) only [go_sem, Nat.reduceEqDiff, ↓reduceIte, a0]
  refine callK_of (by kernel_rfl) (gridValid_c _ _ _ _ _ _ hr) ?_
  rintro _ w1 ⟨rfl, x1⟩
  cases hv : gvalid rows with
  | false =>
    simp only [go_sem, Nat.reduceEqDiff, ↓reduceIte, Try.results113]
    exact ⟨by simp [rangeOf, hv], x1⟩
  | true =>
    have v := (gvalid_iff rows).1 hv
    obtain ⟨gb, go, rb, ro, rfl, -, hg⟩ := (hr.ext x1).grid v
    have hr1 := v.r1
    have hc1 := v.c1
    have hr7 := v.r7
    have hc7 := v.c7
    have g0 := hg.row 0 (by omega)
    have gc0 := hg.cell 0 0 (by omega) (by omega)
    simp only [Nat.add_zero, Nat.zero_mul] at g0 gc0
    have hRC : rows.length * rowLen rows ≤ 7 * 7 := Nat.mul_le_mul hr7 hc7
    simp (disch := omega) only [go_sem, Nat.reduceEqDiff, ↓reduceIte, a0, g0, gc0]
    let h := hgt rows
    refine loopX (fun m f w' => ∃ r : Nat, m = rows.length - r ∧ r ≤ rows.length ∧ f 0 = .slice (some ⟨gb, go, none⟩) rows.length gc ∧ f 5 = .int .i64 (mnN h (r * rowLen rows)) ∧ f 6 = .int .i64 (mxN h (r * rowLen rows)) ∧ f 7 = .int .i64 r ∧ Ext w1 w') rows.length ?_ fun m f w' ⟨r, hm, hrl, a0, a5, a6, a7, xw⟩ => ?_
    · exact ⟨0, by omega, by omega, by simp [upd_apply, a0], by simp [upd_apply, mnN, h], by simp [upd_apply, mxN, h], by simp [upd_apply], Ext.refl _⟩
    · by_cases hlt : (r : Int) < rows.length
      · simp (disch := omega) only [go_sem, Nat.reduceEqDiff, ↓reduceIte, a0, a7, hlt]
        refine loopX (fun m f w' => ∃ c : Nat, m = rowLen rows - c ∧ c ≤ rowLen rows ∧ f 0 = .slice (some ⟨gb, go, none⟩) rows.length gc ∧ f 5 = .int .i64 (mnN h (r * rowLen rows + c)) ∧ f 6 = .int .i64 (mxN h (r * rowLen rows + c)) ∧ f 7 = .int .i64 r ∧ f 8 = .int .i64 c ∧ Ext w1 w') (rowLen rows) ?_ fun m f w' ⟨c, hm, hcl, a0, a5, a6, a7, a8, xw⟩ => ?_
        · exact ⟨0, by omega, by omega, by simp [upd_apply, a0], by simp [upd_apply, a5], by simp [upd_apply, a6], by simp [upd_apply, a7], by simp [upd_apply], xw⟩
        · have hg' := hg.ext xw
          have gr := hg'.row r (by omega)
          by_cases hlt2 : (c : Int) < rowLen rows
          · have gcc := hg'.cell r c (by omega) (by omega)
            simp (disch := omega) only [go_sem, Nat.reduceEqDiff, ↓reduceIte, a0, a5, a6, a7, a8, gr, hlt2, gcc]
            exact ⟨rowLen rows - (c + 1), by omega, c + 1, rfl, by omega, by simp [upd_apply, a0], by simp [upd_apply, ← Nat.add_assoc, mnN, h], by simp [upd_apply, ← Nat.add_assoc, mxN, h], by simp [upd_apply, a7], by simp [upd_apply], xw⟩
          · simp (disch := omega) only [go_sem, Nat.reduceEqDiff, ↓reduceIte, a0, a5, a6, a7, a8, gr, hlt2]
            have e : (r + 1) * rowLen rows = r * rowLen rows + c := by rw [Nat.add_mul, Nat.one_mul]; omega
            exact ⟨rows.length - (r + 1), by omega, r + 1, rfl, by omega, by simp [upd_apply, a0], by simp [upd_apply, a5, e], by simp [upd_apply, a6, e], by simp [upd_apply], xw⟩
      · simp (disch := omega) only [go_sem, Nat.reduceEqDiff, ↓reduceIte, a0, a5, a6, a7, hlt, Try.results113]
        exact ⟨by rw [show r = rows.length by omega]; simp [rangeOf, hv, h], x1.trans xw⟩

theorem implGridRange_c (a : Option Addr) (rows : List (List Int)) (A : Nat → Option Addr) (Cp : Nat → Nat) (gc : Nat) (w : World) (hr : RowsAt w a rows A Cp) :
    Ret Try.prog 31 #[.slice a rows.length gc] w fun v w' => v = rangeOf rows ∧ Ext w w' := by
  refine enter1 Try.func31 rfl (by kernel_rfl) (of_decide_eq_true (by kernel_rfl)) fun f a0 => ?_
  simp (disch := omega) only [go_sem, Nat.reduceEqDiff, ↓reduceIte, a0]
  refine callK_of (by kernel_rfl) (fieldOf_c _ _ _ _ _ _ hr) ?_
  rintro _ w2 ⟨x2, (⟨hv, cb, rfl, hcb, o⟩ | ⟨hv, rfl⟩)⟩
  all_goals
    simp only [go_sem, Nat.reduceEqDiff, ↓reduceIte]
    refine allocK_of zero_f fun w3 b6 e6 x3 k6 _ => ?_
    simp only [go_sem, Nat.reduceEqDiff, ↓reduceIte]
    refine stK_agg siz_f (by simp) (by simp [Value.oneCell']) k6 (by simp) fun w4 k6 g4 => ?_
    have x4 : Ext w w4 := g4.ext (x2.trans x3) (by have := x2.size; omega)
  · have v := (gvalid_iff rows).1 hv
    have hr1 := v.r1
    have hc1 := v.c1
    have hpos : 0 < rows.length * rowLen rows := Nat.mul_pos hr1 hc1
    have hRC : rows.length * rowLen rows ≤ 7 * 7 := Nat.mul_le_mul v.r7 v.c7
    have oc := o.cellsAt
    have hc : CellsAt w4 cb (rows.length * rowLen rows) (hgt rows) := fun i hi => by
      have := ((oc.ext x3).grow g4.grow (by have := oc.lt hpos; simp; omega)) i hi
      simpa only [hs_get rows i hi] using this
    have c0 := hc 0 hpos
    simp (disch := omega) only [go_sem, Nat.reduceEqDiff, ↓reduceIte]
    refine QR_of (by kernel_rfl) (by kernel_rfl) ?_
    simp (disch := omega) only [go_sem, Nat.reduceEqDiff, ↓reduceIte, Nat.reduceAdd, k6.cell, List.getElem?_toArray, List.getElem?_cons_succ, List.getElem?_cons_zero, c0]
    intro w5 x5
    have k65 := k6.ext x5
    simp (disch := omega) only [go_sem, Nat.reduceEqDiff, ↓reduceIte, Nat.reduceAdd, k65.cell, List.getElem?_toArray, List.getElem?_cons_succ, List.getElem?_cons_zero]
    let h := hgt rows
    let n := rows.length * rowLen rows
    refine loopX (fun m f w' => ∃ k : Nat, m = n - k ∧ k ≤ n ∧ f 7 = .int .i64 (mnN h k) ∧ f 8 = .int .i64 (mxN h k) ∧ f 27 = .slice (some ⟨cb, 0, none⟩) n n ∧ f 28 = .int .i64 n ∧ f 29 = .int .i64 k ∧ Ext w4 w') n ?_ fun m f w' ⟨k, hm, hk, a7, a8, a27, a28, a29, xw⟩ => ?_
    · exact ⟨0, by omega, by omega, by simp [upd_apply, mnN, h], by simp [upd_apply, mxN, h], by simp [upd_apply, n], by simp [upd_apply, n], by simp [upd_apply], x5⟩
    · by_cases hlt : (k : Int) < n
      · have ck := (hc.ext xw) k (by omega)
        simp (disch := omega) only [go_sem, Nat.reduceEqDiff, ↓reduceIte, a7, a8, a27, a28, a29, hlt, ck]
        exact ⟨n - (k + 1), by omega, k + 1, rfl, by omega, by simp [upd_apply, mnN, h], by simp [upd_apply, mxN, h], by simp [upd_apply, a27], by simp [upd_apply, a28], by simp [upd_apply], xw⟩
      · simp (disch := omega) only [go_sem, Nat.reduceEqDiff, ↓reduceIte, a7, a8, a28, a29, hlt, Try.results31]
        exact ⟨by rw [show k = n by omega]; simp [rangeOf, hv, h, n], x4.trans xw⟩
  · simp only [go_sem, Nat.reduceEqDiff, ↓reduceIte, Try.results31]
    exact ⟨by simp [rangeOf, hv], x4⟩

end Go.Proofs.Ytlnodngkacbfkaa
