/- Keys and prominences: both sides. -/
import Derived.Test.YtdlepfeckiahdaaQd
import Derived.Test.YtdlepfeckiahdaaQe
import Derived.Test.YtdlepfeckiahdaaPk
set_option linter.all false
namespace Go.SW
open Go Go.RowKit
theorem mnN_le2 (h : Nat → Int) : ∀ (n i : Nat), i < n → mnN h n ≤ h i
  | n + 1, i, hi => by
    simp only [mnN]
    by_cases e : i = n
    · subst e; omega
    · have := mnN_le2 h n i (by omega); omega
theorem mnN_at2 (h : Nat → Int) : ∀ (n : Nat), 0 < n → ∃ i, i < n ∧ mnN h n = h i
  | n + 1, _ => by
    simp only [mnN]
    by_cases h0 : n = 0
    · subst h0; exact ⟨0, by omega, by simp [mnN]⟩
    · obtain ⟨i, hi, e⟩ := mnN_at2 h n (by omega)
      by_cases hm : h n ≤ mnN h n
      · exact ⟨n, by omega, by omega⟩
      · exact ⟨i, by omega, by omega⟩
def leastTo (h : Nat → Int) (i : Nat) : Nat → Int
  | 0 => h i
  | k + 1 => min (leastTo h i k) (h k)
theorem leastTo_le (h : Nat → Int) (i : Nat) : ∀ k, leastTo h i k ≤ h i ∧ (∀ j, j < k → leastTo h i k ≤ h j) ∧ (leastTo h i k = h i ∨ ∃ j, j < k ∧ leastTo h i k = h j)
  | 0 => ⟨Int.le_refl _, fun j hj => by omega, .inl rfl⟩
  | k + 1 => by
    obtain ⟨h1, h2, h3⟩ := leastTo_le h i k
    simp only [leastTo]
    refine ⟨by omega, fun j hj => ?_, ?_⟩
    · by_cases e : j = k
      · subst e; omega
      · have := h2 j (by omega); omega
    · by_cases hm : h k ≤ leastTo h i k
      · exact .inr ⟨k, by omega, by omega⟩
      · rcases h3 with e | ⟨j, hj, e⟩
        · exact .inl (by omega)
        · exact .inr ⟨j, by omega, by omega⟩
theorem leastTo_end {h : Nat → Int} {n i : Nat} (hi : i < n) : leastTo h i n = mnN h n := by
  obtain ⟨h1, h2, h3⟩ := leastTo_le h i n
  obtain ⟨j, hj, e⟩ := mnN_at2 h n (by omega)
  have h4 := h2 j hj
  have h5 : mnN h n ≤ leastTo h i n := by
    rcases h3 with e2 | ⟨k, hk, e2⟩
    · rw [e2]; exact mnN_le2 h n i hi
    · rw [e2]; exact mnN_le2 h n k hk
  omega
def bestTo (R C : Nat) (h : Nat → Int) (i : Nat) : Nat → Int
  | 0 => -1
  | k + 1 => if hiB h k i then max (bestTo R C h i k) (passN R C h i k) else bestTo R C h i k
theorem bestTo_bnd (R C : Nat) (h : Nat → Int) (i : Nat) : ∀ k, -1 ≤ bestTo R C h i k ∧ bestTo R C h i k ≤ 99
  | 0 => ⟨Int.le_refl _, by simp [bestTo]⟩
  | k + 1 => by
    have ih := bestTo_bnd R C h i k
    have h1 := pass_ge R C h i k
    have h2 := pass_le R C h i k
    simp only [bestTo]
    split <;> omega
/-- The key of a peak. -/
def keyN (R C : Nat) (h : Nat → Int) (i : Nat) : Int := if 0 ≤ bestTo R C h i (R * C) then bestTo R C h i (R * C) else mnN h (R * C)
def promN (R C : Nat) (h : Nat → Int) (i : Nat) : Int := h i - keyN R C h i
theorem keyN_bnd {R C : Nat} {h : Nat → Int} (g : Gd R C h) (i : Nat) : 0 ≤ keyN R C h i ∧ keyN R C h i ≤ 99 := by
  have h1 := bestTo_bnd R C h i (R * C)
  obtain ⟨j, hj, e⟩ := mnN_at2 h (R * C) g.pos
  have h2 := g.hh j hj
  rw [keyN]; split <;> omega
def pkeyOf (rows : List (List Int)) (i : Int) : Int := if pkOf rows i = true then keyN rows.length (rowLen rows) (hgt rows) i.toNat else -1
def promOf (rows : List (List Int)) (i : Int) : Int := if pkOf rows i = true then promN rows.length (rowLen rows) (hgt rows) i.toNat else -1
def pbOf (rows : List (List Int)) (a b : Int) : Int := if gvalid rows = true ∧ (0 ≤ a ∧ a < (rows.length * rowLen rows : Nat)) ∧ (0 ≤ b ∧ b < (rows.length * rowLen rows : Nat)) then passN rows.length (rowLen rows) (hgt rows) a.toNat b.toNat else -1
theorem pk_parts {rows : List (List Int)} {i : Int} (h : pkOf rows i = true) : ∃ n : Nat, i = (n : Int) ∧ gvalid rows = true ∧ n < rows.length * rowLen rows ∧ peakB rows.length (rowLen rows) (hgt rows) n = true := by
  simp only [pkOf, Bool.and_eq_true, decide_eq_true_eq] at h
  obtain ⟨hv, ⟨h0, h1⟩, hp⟩ := h
  obtain ⟨n, rfl⟩ := Int.eq_ofNat_of_zero_le h0
  exact ⟨n, rfl, hv, by omega, by simpa using hp⟩
end Go.SW
namespace Go.Proofs.Ytdlepfeckiahdaa
open Go.RowKit Go.SW

theorem key_c (R C cb : Nat) (h : Nat → Int) (a : Nat) (w : World) (g : Gd R C h) (hc : CellsAt w cb (R * C) h) (ha : a < R * C) :
    Ret Try.prog 87 #[.agg #[.int .i64 R, .int .i64 C, .slice (some ⟨cb, 0, none⟩) (R * C) (R * C)], .int .i64 a] w fun v w' => v = .int .i64 (keyN R C h a) ∧ Ext w w' := by
  have hn49 := g.le
  have hpos := g.pos
  refine enter2 Try.func87 rfl (by kernel_rfl) (of_decide_eq_true (by kernel_rfl)) fun f a0 a1 => ?_
  simp only [go_sem, Nat.reduceEqDiff, ↓reduceIte, a0]
  refine boxK_of fun w0 fb efb x0 kb _ => ?_
  have s0 := x0.size
  have kb : Blk w0 fb #[.int .i64 R, .int .i64 C, .slice (some ⟨cb, 0, none⟩) (R * C) (R * C)] 45 := by simpa [Value.cells] using kb
  have hc0 := hc.ext x0
  simp (disch := omega) only [go_sem, Nat.reduceEqDiff, ↓reduceIte, Nat.reduceAdd, a1, readCells_blk kb (n := 3) (by simp)]
  refine callK_of (by kernel_rfl) (passes_c R C cb h a _ g hc0 ha) ?_
  rintro _ w1 ⟨pb, rfl, hpb, po, x1⟩
  have kb1 := kb.ext x1
  have hc1 := hc0.ext x1
  simp (disch := omega) only [go_sem, Nat.reduceEqDiff, ↓reduceIte, Nat.reduceAdd]
  refine loopN (R * C) (fun k f W => f 1 = .int .i64 a ∧ f 2 = .pointer (some ⟨fb, 0, none⟩) ∧ f 5 = .int .i64 (bestTo R C h a k) ∧ f 13 = .slice (some ⟨pb, 0, none⟩) (R * C) (R * C) ∧ f 14 = .int .i64 (R * C : Nat) ∧ f 15 = .int .i64 k ∧ Ext w1 W) ⟨(by first | assumption | (simp only [upd_apply, Nat.reduceEqDiff, ↓reduceIte] <;> first | rfl | assumption) | simp [upd_apply, *]), (by first | assumption | (simp only [upd_apply, Nat.reduceEqDiff, ↓reduceIte] <;> first | rfl | assumption) | simp [upd_apply, *]), by simp [upd_apply, bestTo], (by first | assumption | (simp only [upd_apply, Nat.reduceEqDiff, ↓reduceIte] <;> first | rfl | assumption) | simp [upd_apply, *]), (by first | assumption | (simp only [upd_apply, Nat.reduceEqDiff, ↓reduceIte] <;> first | rfl | assumption) | simp [upd_apply, *]), (by first | assumption | (simp only [upd_apply, Nat.reduceEqDiff, ↓reduceIte] <;> first | rfl | assumption) | simp [upd_apply, *]), Ext.refl _⟩ fun k f W hk ⟨a1, a2, a5, a13, a14, a15, xW⟩ => ?_
  by_cases hlt : (k : Int) < (R * C : Nat)
  · have hkn : k < R * C := by omega
    have ck : W.cell? ⟨pb, k, none⟩ = some (.int .i64 (passN R C h a k)) := by rw [(po.ext xW).cell (by omega)]; exact vi_rangeI_get _ hkn
    simp (disch := omega) only [go_sem, Nat.reduceEqDiff, ↓reduceIte, Nat.reduceAdd, a1, a2, a13, a14, a15, hlt, ck, readCells_blk (kb1.ext xW) (n := 3) (by simp)]
    refine callK_pure (by kernel_rfl) (higher_c R C cb h k a _ (hc1.ext xW) hkn ha) fun w2 x2 => ?_
    cases hh : hiB h k a with
    | true =>
      simp (disch := omega) only [go_sem, Nat.reduceEqDiff, ↓reduceIte, Nat.reduceAdd, a5, a15]
      exact ⟨hkn, (by first | assumption | (simp only [upd_apply, Nat.reduceEqDiff, ↓reduceIte] <;> first | rfl | assumption) | simp [upd_apply, *]), (by first | assumption | (simp only [upd_apply, Nat.reduceEqDiff, ↓reduceIte] <;> first | rfl | assumption) | simp [upd_apply, *]), by simp [upd_apply, bestTo, hh], (by first | assumption | (simp only [upd_apply, Nat.reduceEqDiff, ↓reduceIte] <;> first | rfl | assumption) | simp [upd_apply, *]), (by first | assumption | (simp only [upd_apply, Nat.reduceEqDiff, ↓reduceIte] <;> first | rfl | assumption) | simp [upd_apply, *]), (by first | assumption | (simp only [upd_apply, Nat.reduceEqDiff, ↓reduceIte] <;> first | rfl | assumption) | simp [upd_apply, *]), xW.trans x2⟩
    | false =>
      simp (disch := omega) only [go_sem, Nat.reduceEqDiff, ↓reduceIte, Nat.reduceAdd, a15]
      exact ⟨hkn, (by first | assumption | (simp only [upd_apply, Nat.reduceEqDiff, ↓reduceIte] <;> first | rfl | assumption) | simp [upd_apply, *]), (by first | assumption | (simp only [upd_apply, Nat.reduceEqDiff, ↓reduceIte] <;> first | rfl | assumption) | simp [upd_apply, *]), by simp [upd_apply, bestTo, hh, a5], (by first | assumption | (simp only [upd_apply, Nat.reduceEqDiff, ↓reduceIte] <;> first | rfl | assumption) | simp [upd_apply, *]), (by first | assumption | (simp only [upd_apply, Nat.reduceEqDiff, ↓reduceIte] <;> first | rfl | assumption) | simp [upd_apply, *]), (by first | assumption | (simp only [upd_apply, Nat.reduceEqDiff, ↓reduceIte] <;> first | rfl | assumption) | simp [upd_apply, *]), xW.trans x2⟩
  · have ek : k = R * C := by omega
    rw [ek] at a5
    by_cases hb : 0 ≤ bestTo R C h a (R * C)
    · simp (disch := omega) only [go_sem, Nat.reduceEqDiff, ↓reduceIte, Nat.reduceAdd, a5, a14, a15, hlt, hb, Try.results87]
      exact ⟨by rw [keyN, if_pos hb], (x0.trans x1).trans xW⟩
    · have kbW := kb1.ext xW
      have hcW := hc1.ext xW
      have ca := hcW a ha
      simp (disch := omega) only [go_sem, Nat.reduceEqDiff, ↓reduceIte, Nat.reduceAdd, a1, a2, a5, a14, a15, hlt, hb, kbW.cell, ca]
      refine loopN (R * C) (fun k f V => f 8 = .int .i64 (leastTo h a k) ∧ f 37 = .slice (some ⟨cb, 0, none⟩) (R * C) (R * C) ∧ f 38 = .int .i64 (R * C : Nat) ∧ f 39 = .int .i64 k ∧ Ext w V ∧ CellsAt V cb (R * C) h) ⟨by simp [upd_apply, leastTo], (by first | assumption | (simp only [upd_apply, Nat.reduceEqDiff, ↓reduceIte] <;> first | rfl | assumption) | simp [upd_apply, *]), (by first | assumption | (simp only [upd_apply, Nat.reduceEqDiff, ↓reduceIte] <;> first | rfl | assumption) | simp [upd_apply, *]), (by first | assumption | (simp only [upd_apply, Nat.reduceEqDiff, ↓reduceIte] <;> first | rfl | assumption) | simp [upd_apply, *]), (x0.trans x1).trans xW, hcW⟩ fun k f V hk ⟨a8, a37, a38, a39, xV, cV⟩ => ?_
      by_cases hlk : (k : Int) < (R * C : Nat)
      · have hkn : k < R * C := by omega
        have ck := cV k hkn
        simp (disch := omega) only [go_sem, Nat.reduceEqDiff, ↓reduceIte, Nat.reduceAdd, a8, a37, a38, a39, hlk, ck]
        exact ⟨hkn, by simp [upd_apply, leastTo], (by first | assumption | (simp only [upd_apply, Nat.reduceEqDiff, ↓reduceIte] <;> first | rfl | assumption) | simp [upd_apply, *]), (by first | assumption | (simp only [upd_apply, Nat.reduceEqDiff, ↓reduceIte] <;> first | rfl | assumption) | simp [upd_apply, *]), (by first | assumption | (simp only [upd_apply, Nat.reduceEqDiff, ↓reduceIte] <;> first | rfl | assumption) | simp [upd_apply, *]), xV, cV⟩
      · have ek : k = R * C := by omega
        rw [ek, leastTo_end ha] at a8
        simp (disch := omega) only [go_sem, Nat.reduceEqDiff, ↓reduceIte, Nat.reduceAdd, a8, a38, a39, hlk, Try.results87]
        exact ⟨by rw [keyN, if_neg hb], xV⟩

theorem prominence_c (R C cb : Nat) (h : Nat → Int) (a : Nat) (w : World) (g : Gd R C h) (hc : CellsAt w cb (R * C) h) (ha : a < R * C) :
    Ret Try.prog 88 #[.agg #[.int .i64 R, .int .i64 C, .slice (some ⟨cb, 0, none⟩) (R * C) (R * C)], .int .i64 a] w fun v w' => v = .int .i64 (promN R C h a) ∧ Ext w w' := by
  have hn49 := g.le
  have hk := keyN_bnd g a
  have hha := g.hh a ha
  refine enter2 Try.func88 rfl (by kernel_rfl) (of_decide_eq_true (by kernel_rfl)) fun f a0 a1 => ?_
  simp only [go_sem, Nat.reduceEqDiff, ↓reduceIte, a0]
  refine boxK_of fun w0 fb efb x0 kb _ => ?_
  have kb : Blk w0 fb #[.int .i64 R, .int .i64 C, .slice (some ⟨cb, 0, none⟩) (R * C) (R * C)] 45 := by simpa [Value.cells] using kb
  have hc0 := hc.ext x0
  have ca := hc0 a ha
  simp (disch := omega) only [go_sem, Nat.reduceEqDiff, ↓reduceIte, Nat.reduceAdd]
  refine QR_of (by kernel_rfl) (by kernel_rfl) ?_
  simp (disch := omega) only [go_sem, Nat.reduceEqDiff, ↓reduceIte, Nat.reduceAdd, a1, kb.cell, ca, readCells_blk kb (n := 3) (by simp)]
  refine callK_q (by kernel_rfl) (fun w' e => key_c R C cb h a _ g (hc0.ext e) ha) ?_
  simp (disch := omega) only [go_sem, Nat.reduceEqDiff, ↓reduceIte, Nat.reduceAdd]
  intro w1 x1
  simp (disch := omega) only [go_sem, Nat.reduceEqDiff, ↓reduceIte, Nat.reduceAdd, Try.results88]
  exact ⟨by first | rfl | trivial, x0.trans x1⟩

theorem implPeakKey_c (a : Option Addr) (rows : List (List Int)) (A : Nat → Option Addr) (Cp : Nat → Nat) (gc : Nat) (i : Int) (w : World) (hr : RowsAt w a rows A Cp) :
    Ret Try.prog 49 #[.slice a rows.length gc, .int .i64 i] w fun v w' => v = .int .i64 (pkeyOf rows i) ∧ Ext w w' := by
  refine enter2 Try.func49 rfl (by kernel_rfl) (of_decide_eq_true (by kernel_rfl)) fun f a0 a1 => ?_
  simp (disch := omega) only [go_sem, Nat.reduceEqDiff, ↓reduceIte, Nat.reduceAdd, a0]
  refine callK_of (by kernel_rfl) (fieldOf_c _ _ _ _ _ _ hr) ?_
  rintro _ w2 ⟨x2, (⟨hvt, cb, rfl, hcb, o⟩ | ⟨hv', rfl⟩)⟩
  rotate_left
  · simp (disch := omega) only [go_sem, Nat.reduceEqDiff, ↓reduceIte, Nat.reduceAdd]
    refine allocK_of zero_f fun w3 fb _ x3 k3 _ => ?_
    simp (disch := omega) only [go_sem, Nat.reduceEqDiff, ↓reduceIte, Nat.reduceAdd]
    refine stK_agg siz_f (by simp) (by simp [Value.oneCell']) k3 (by simp) fun w4 k4 g4 => ?_
    have x4 : Ext w w4 := g4.ext (x2.trans x3) (by have := x2.size; omega)
    have hv : gvalid rows = false := hv'
    simp (disch := omega) only [go_sem, Nat.reduceEqDiff, ↓reduceIte, Nat.reduceAdd, Try.results49]
    exact ⟨by simp [pkeyOf, pkOf, hv], x4⟩
  have hv : gvalid rows = true := hvt
  have v := (gvalid_iff rows).1 hv
  have g := v.gd
  have hn49 := g.le
  simp (disch := omega) only [go_sem, Nat.reduceEqDiff, ↓reduceIte, Nat.reduceAdd]
  refine allocK_of zero_f fun w3 fb _ x3 k3 _ => ?_
  simp (disch := omega) only [go_sem, Nat.reduceEqDiff, ↓reduceIte, Nat.reduceAdd]
  refine stK_agg siz_f (by simp) (by simp [Value.oneCell']) k3 (by simp) fun w4 kb g4 => ?_
  have s2 := x2.size
  have s3 := x3.size
  have x4 : Ext w w4 := g4.ext (x2.trans x3) (by omega)
  have s4 := x4.size
  have hc : CellsAt w4 cb (rows.length * rowLen rows) (hgt rows) := fun i hi => by
    have := ((o.cellsAt.ext x3).grow g4.grow (by have := o.cellsAt.lt g.pos; simp; omega)) i hi
    simpa only [hs_get rows i hi] using this
  simp (disch := omega) only [go_sem, Nat.reduceEqDiff, ↓reduceIte, Nat.reduceAdd, a1, readCells_blk kb (n := 3) (by simp)]
  refine callK_pure (by kernel_rfl) (peak_c _ _ cb (hgt rows) i _ g hc) fun w5 x5 => ?_
  have ep : (decide (0 ≤ i ∧ i < (rows.length * rowLen rows : Nat)) && peakB rows.length (rowLen rows) (hgt rows) i.toNat) = pkOf rows i := by simp [pkOf, hv]
  cases hp : pkOf rows i with
  | false =>
    simp (disch := omega) only [go_sem, Nat.reduceEqDiff, ↓reduceIte, Nat.reduceAdd, ep, hp, Bool.not_false, Try.results49]
    exact ⟨by simp [pkeyOf, hp], x4.trans x5⟩
  | true =>
    obtain ⟨n, rfl, -, hn, hpk⟩ := pk_parts hp
    have hd : decide (0 ≤ (n : Int) ∧ (n : Int) < (rows.length * rowLen rows : Nat)) = true := decide_eq_true ⟨by omega, by omega⟩
    simp (disch := omega) only [go_sem, Nat.reduceEqDiff, ↓reduceIte, Nat.reduceAdd, hd, Int.toNat_natCast, hpk, Bool.and_true, Bool.not_true, a1, readCells_blk (kb.ext x5) (n := 3) (by simp)]
    refine callK_pure (by kernel_rfl) (key_c _ _ cb (hgt rows) n _ g (hc.ext x5) hn) fun w6 x6 => ?_
    simp (disch := omega) only [go_sem, Nat.reduceEqDiff, ↓reduceIte, Nat.reduceAdd, Try.results49]
    exact ⟨by simp [pkeyOf, hp], (x4.trans x5).trans x6⟩

theorem specPeakKey_c (a : Option Addr) (rows : List (List Int)) (A : Nat → Option Addr) (Cp : Nat → Nat) (gc : Nat) (i : Int) (w : World) (hr : RowsAt w a rows A Cp) :
    Ret Try.prog 110 #[.slice a rows.length gc, .int .i64 i] w fun v w' => v = .int .i64 (pkeyOf rows i) ∧ Ext w w' := by
  refine enter2 Try.func110 rfl (by kernel_rfl) (of_decide_eq_true (by kernel_rfl)) fun f a0 a1 => ?_
  simp (disch := omega) only [go_sem, Nat.reduceEqDiff, ↓reduceIte, Nat.reduceAdd, a0, a1]
  refine callK_pure (by kernel_rfl) (specPeakIs_c _ _ _ _ _ i _ hr) fun w1 x1 => ?_
  cases hp : pkOf rows i with
  | false =>
    simp (disch := omega) only [go_sem, Nat.reduceEqDiff, ↓reduceIte, Nat.reduceAdd, Bool.not_false, Try.results110]
    exact ⟨by simp [pkeyOf, hp], x1⟩
  | true =>
    obtain ⟨n, rfl, hv, hn, hpk⟩ := pk_parts hp
    have v := (gvalid_iff rows).1 hv
    have g := v.gd
    have hn49 := g.le
    obtain ⟨gb, go, rb, ro, rfl, -, hg⟩ := hr.grid v
    have hk : pkeyOf rows (n : Int) = keyN rows.length (rowLen rows) (hgt rows) n := by simp [pkeyOf, hp]
    simp (disch := omega) only [go_sem, Nat.reduceEqDiff, ↓reduceIte, Nat.reduceAdd, Bool.not_true, a0, a1]
    refine callK_of (by kernel_rfl) (l4Passes_c gb go gc rb ro Cp _ _ _ n _ (hg.ext x1) g hn) ?_
    rintro _ w2 ⟨pb, rfl, hpb, po, x2⟩
    have hg2 := (hg.ext x1).ext x2
    simp (disch := omega) only [go_sem, Nat.reduceEqDiff, ↓reduceIte, Nat.reduceAdd]
    refine loopN (rows.length * rowLen rows) (fun k f W => f 0 = .slice (some ⟨gb, go, none⟩) rows.length gc ∧ f 1 = .int .i64 n ∧ f 5 = .slice (some ⟨pb, 0, none⟩) (rows.length * rowLen rows) (rows.length * rowLen rows) ∧ f 6 = .int .i64 (bestTo rows.length (rowLen rows) (hgt rows) n k) ∧ f 7 = .int .i64 k ∧ Ext w2 W) ⟨(by first | assumption | (simp only [upd_apply, Nat.reduceEqDiff, ↓reduceIte] <;> first | rfl | assumption) | simp [upd_apply, *]), (by first | assumption | (simp only [upd_apply, Nat.reduceEqDiff, ↓reduceIte] <;> first | rfl | assumption) | simp [upd_apply, *]), (by first | assumption | (simp only [upd_apply, Nat.reduceEqDiff, ↓reduceIte] <;> first | rfl | assumption) | simp [upd_apply, *]), by simp [upd_apply, bestTo], (by first | assumption | (simp only [upd_apply, Nat.reduceEqDiff, ↓reduceIte] <;> first | rfl | assumption) | simp [upd_apply, *]), Ext.refl _⟩ fun k f W hk' ⟨a0, a1, a5, a6, a7, xW⟩ => ?_
    by_cases hlt : (k : Int) < (rows.length * rowLen rows : Nat)
    · have hkn : k < rows.length * rowLen rows := by omega
      simp (disch := omega) only [go_sem, Nat.reduceEqDiff, ↓reduceIte, Nat.reduceAdd, a0, a1, a5, a7, hlt]
      refine callK_pure (by kernel_rfl) (l4Higher_c gb go gc rb ro Cp _ _ _ k n _ (hg2.ext xW) g.r7 g.c7 hkn hn) fun w3 x3 => ?_
      have ck : w3.cell? ⟨pb, k, none⟩ = some (.int .i64 (passN rows.length (rowLen rows) (hgt rows) n k)) := by rw [(po.ext (xW.trans x3)).cell (by omega)]; exact vi_rangeI_get _ hkn
      cases hh : hiB (hgt rows) k n with
      | true =>
        simp (disch := omega) only [go_sem, Nat.reduceEqDiff, ↓reduceIte, Nat.reduceAdd, a5, a6, a7, ck]
        exact ⟨hkn, (by first | assumption | (simp only [upd_apply, Nat.reduceEqDiff, ↓reduceIte] <;> first | rfl | assumption) | simp [upd_apply, *]), (by first | assumption | (simp only [upd_apply, Nat.reduceEqDiff, ↓reduceIte] <;> first | rfl | assumption) | simp [upd_apply, *]), (by first | assumption | (simp only [upd_apply, Nat.reduceEqDiff, ↓reduceIte] <;> first | rfl | assumption) | simp [upd_apply, *]), by simp [upd_apply, bestTo, hh], (by first | assumption | (simp only [upd_apply, Nat.reduceEqDiff, ↓reduceIte] <;> first | rfl | assumption) | simp [upd_apply, *]), xW.trans x3⟩
      | false =>
        simp (disch := omega) only [go_sem, Nat.reduceEqDiff, ↓reduceIte, Nat.reduceAdd, a7]
        exact ⟨hkn, (by first | assumption | (simp only [upd_apply, Nat.reduceEqDiff, ↓reduceIte] <;> first | rfl | assumption) | simp [upd_apply, *]), (by first | assumption | (simp only [upd_apply, Nat.reduceEqDiff, ↓reduceIte] <;> first | rfl | assumption) | simp [upd_apply, *]), (by first | assumption | (simp only [upd_apply, Nat.reduceEqDiff, ↓reduceIte] <;> first | rfl | assumption) | simp [upd_apply, *]), by simp [upd_apply, bestTo, hh, a6], (by first | assumption | (simp only [upd_apply, Nat.reduceEqDiff, ↓reduceIte] <;> first | rfl | assumption) | simp [upd_apply, *]), xW.trans x3⟩
    · have ek : k = rows.length * rowLen rows := by omega
      rw [ek] at a6
      by_cases hb : bestTo rows.length (rowLen rows) (hgt rows) n (rows.length * rowLen rows) < 0
      · simp (disch := omega) only [go_sem, Nat.reduceEqDiff, ↓reduceIte, Nat.reduceAdd, a0, a5, a6, a7, hlt, hb]
        refine callK_of (by kernel_rfl) (specGridRange_c _ _ _ _ _ _ (((hr.ext x1).ext x2).ext xW)) ?_
        rintro _ w3 ⟨rfl, x3⟩
        have hrange : rangeOf rows = .tuple #[.int .i64 (mnN (hgt rows) (rows.length * rowLen rows)), .int .i64 (mxN (hgt rows) (rows.length * rowLen rows)), .bool true] := by simp [rangeOf, hv]
        simp (disch := omega) only [go_sem, Nat.reduceEqDiff, ↓reduceIte, Nat.reduceAdd, hrange, Try.results110]
        exact ⟨by rw [hk, keyN, if_neg (by omega)], ((x1.trans x2).trans xW).trans x3⟩
      · simp (disch := omega) only [go_sem, Nat.reduceEqDiff, ↓reduceIte, Nat.reduceAdd, a0, a5, a6, a7, hlt, hb, Try.results110]
        exact ⟨by rw [hk, keyN, if_pos (by omega)], (x1.trans x2).trans xW⟩

theorem specPeakProminence_c (a : Option Addr) (rows : List (List Int)) (A : Nat → Option Addr) (Cp : Nat → Nat) (gc : Nat) (i : Int) (w : World) (hr : RowsAt w a rows A Cp) :
    Ret Try.prog 91 #[.slice a rows.length gc, .int .i64 i] w fun v w' => v = .int .i64 (promOf rows i) ∧ Ext w w' := by
  refine enter2 Try.func91 rfl (by kernel_rfl) (of_decide_eq_true (by kernel_rfl)) fun f a0 a1 => ?_
  simp (disch := omega) only [go_sem, Nat.reduceEqDiff, ↓reduceIte, Nat.reduceAdd, a0, a1]
  refine callK_pure (by kernel_rfl) (specPeakKey_c _ _ _ _ _ i _ hr) fun w1 x1 => ?_
  cases hp : pkOf rows i with
  | false =>
    have hlt : pkeyOf rows i < 0 := by simp [pkeyOf, hp]
    simp (disch := omega) only [go_sem, Nat.reduceEqDiff, ↓reduceIte, Nat.reduceAdd, hlt, Try.results91]
    exact ⟨by simp [promOf, hp], x1⟩
  | true =>
    obtain ⟨n, rfl, hv, hn, hpk⟩ := pk_parts hp
    have v := (gvalid_iff rows).1 hv
    have g := v.gd
    have hn49 := g.le
    obtain ⟨gb, go, rb, ro, rfl, -, hg⟩ := hr.grid v
    have hk : pkeyOf rows (n : Int) = keyN rows.length (rowLen rows) (hgt rows) n := by simp [pkeyOf, hp]
    have hkb := keyN_bnd g n
    have hhn := g.hh n hn
    have hlt : ¬ keyN rows.length (rowLen rows) (hgt rows) n < 0 := by omega
    simp (disch := omega) only [go_sem, Nat.reduceEqDiff, ↓reduceIte, Nat.reduceAdd, hk, hlt, a0, a1]
    refine callK_pure (by kernel_rfl) (l2Height_c gb go gc rb ro Cp _ _ _ _ (hg.ext x1) g.r7 g.c7 (n : Int) (by omega) (by omega)) fun w2 x2 => ?_
    simp (disch := omega) only [go_sem, Nat.reduceEqDiff, ↓reduceIte, Nat.reduceAdd, Int.toNat_natCast, Try.results91]
    exact ⟨by simp [promOf, promN, hp], x1.trans x2⟩

end Go.Proofs.Ytdlepfeckiahdaa
