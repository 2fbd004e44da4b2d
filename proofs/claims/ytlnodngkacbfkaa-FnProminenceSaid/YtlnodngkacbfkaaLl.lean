/- The law FnLand: it returns true, and nothing that was there is written. -/
import Derived.Test.YtlnodngkacbfkaaJ2
import Derived.Test.YtlnodngkacbfkaaHl
set_option linter.all false
set_option maxRecDepth 20000
namespace Go.Proofs.Ytlnodngkacbfkaa
open Go.RowKit Go.SW

theorem gridInvert_c (a : Option Addr) (rows : List (List Int)) (A : Nat → Option Addr) (Cp : Nat → Nat) (gc : Nat) (w : World) (hr : RowsAt w a rows A Cp) (hv : gvalid rows = true) :
    Ret Try.prog 78 #[.slice a rows.length gc] w fun v w' => ∃ b A', v = .tuple #[.slice (some ⟨b, 0, none⟩) rows.length rows.length, .bool true] ∧ Ext w w' ∧ OwnRows w' 24 3 w.heap.size b (mkRows rows.length (rowLen rows) fun i => 99 - hgt rows i) A' := by
  have v := (gvalid_iff rows).1 hv
  have hpos : 0 < rows.length * rowLen rows := Nat.mul_pos v.r1 v.c1
  refine enter1 Try.func78 rfl (by kernel_rfl) (of_decide_eq_true (by kernel_rfl)) fun f a0 => ?_
  simp (disch := omega) only [go_sem, Nat.reduceEqDiff, ↓reduceIte, a0]
  refine callK_of (by kernel_rfl) (fieldOf_c _ _ _ _ _ _ hr) ?_
  rintro _ w2 ⟨x2, (⟨-, cb, rfl, hcb, o⟩ | ⟨hv', rfl⟩)⟩
  rotate_left
  · rw [hv] at hv'; cases hv'
  simp only [go_sem, Nat.reduceEqDiff, ↓reduceIte]
  refine allocK_of zero_f fun w3 b4 e4 x3 k4 _ => ?_
  simp only [go_sem, Nat.reduceEqDiff, ↓reduceIte]
  refine stK_agg siz_f (by simp) (by simp [Value.oneCell']) k4 (by simp) fun w4 k4 g4 => ?_
  have s2 := x2.size
  have s3 := x3.size
  have x4 : Ext w w4 := g4.ext (x2.trans x3) (by omega)
  have oc := o.cellsAt
  have hc : CellsAt w4 cb (rows.length * rowLen rows) (hgt rows) := fun i hi => by
    have := ((oc.ext x3).grow g4.grow (by have := oc.lt hpos; simp; omega)) i hi
    simpa only [hs_get rows i hi] using this
  simp (disch := omega) only [go_sem, Nat.reduceEqDiff, ↓reduceIte, Nat.reduceAdd, k4.cell, List.getElem?_toArray, List.getElem?_cons_succ, List.getElem?_cons_zero]
  refine callK_of (by kernel_rfl) (made_c _ _ _ _ _ _ k4 hc v.r1 v.r7 v.c1 v.c7 fun i hi => v.hgt i hi) ?_
  rintro _ w5 ⟨b, A', rfl, x5, or⟩
  simp (disch := omega) only [go_sem, Nat.reduceEqDiff, ↓reduceIte, Try.results78]
  exact ⟨b, A', rfl, x4.trans x5, ⟨or.top, Nat.le_trans x4.size or.hb, fun r hr => let ⟨br, h1, h2, h3, oo⟩ := or.row r hr; ⟨br, h1, Nat.le_trans x4.size h2, h3, oo⟩, or.inj⟩⟩

theorem mkRows_rowLen {R C : Nat} {h : Nat → Int} (hR : 1 ≤ R) : rowLen (mkRows R C h) = C := by
  simp only [rowLen]; rw [mkRows_get (by omega)]; simp
theorem mkRows_hgt {R C : Nat} {h : Nat → Int} (hR : 1 ≤ R) {i : Nat} (hi : i < R * C) : hgt (mkRows R C h) i = h i := by
  have hC : 0 < C := Nat.pos_of_ne_zero fun e => by subst e; simp at hi
  have hq : i / C < R := Nat.div_lt_of_lt_mul (by rw [Nat.mul_comm]; exact hi)
  simp only [hgt, mkRows_rowLen hR]
  rw [mkRows_get hq]
  have hm : i % C < C := Nat.mod_lt _ hC
  have e : i / C * C + i % C = i := by rw [Nat.mul_comm]; exact Nat.div_add_mod i C
  simp [hm, e]
theorem mkRows_valid {R C : Nat} {h : Nat → Int} (hR1 : 1 ≤ R) (hR : R ≤ 7) (hC1 : 1 ≤ C) (hC : C ≤ 7) (hh : ∀ i, i < R * C → 0 ≤ h i ∧ h i ≤ 99) : Valid (mkRows R C h) := by
  refine ⟨by rw [mkRows_len]; exact hR1, by rw [mkRows_len]; exact hR, by rw [mkRows_rowLen hR1]; exact hC1, by rw [mkRows_rowLen hR1]; exact hC, fun r hr => ?_, fun r c hr hc => ?_⟩
  · rw [mkRows_len] at hr; rw [mkRows_get hr, mkRows_rowLen hR1]; simp
  · rw [mkRows_len] at hr; rw [mkRows_rowLen hR1] at hc
    rw [mkRows_get hr]
    have hq : r * C + c < R * C := by
      have := Nat.mul_le_mul_right C (show r + 1 ≤ R by omega)
      rw [Nat.add_mul, Nat.one_mul] at this; omega
    have := hh _ hq
    simpa [hc] using this
theorem cntp_compl (p q : Nat → Prop) [DecidablePred p] [DecidablePred q] : ∀ n, (∀ i, i < n → (q i ↔ ¬ p i)) → cntp p n + cntp q n = n
  | 0, _ => rfl
  | n + 1, h => by
    have ih := cntp_compl p q n fun i hi => h i (by omega)
    have hn := h n (by omega)
    simp only [cntp]
    by_cases hp : p n
    · rw [if_pos hp, if_neg (fun hq => (hn.1 hq) hp)]; omega
    · rw [if_neg hp, if_pos (hn.2 hp)]; omega

theorem land_inv {rows : List (List Int)} (v : Valid rows) (lv : Int) (h1 : 1 ≤ lv) (h2 : lv ≤ 99) :
    landOf rows lv + landOf (mkRows rows.length (rowLen rows) fun i => 99 - hgt rows i) (99 - lv + 1) = (rows.length * rowLen rows : Nat) := by
  have hv := (gvalid_iff rows).2 v
  have vi := mkRows_valid (h := fun i => 99 - hgt rows i) v.r1 v.r7 v.c1 v.c7 (fun i hi => by have := v.hgt i hi; omega)
  have hvi := (gvalid_iff _).2 vi
  have e1 : lvok rows lv = true := by simp [lvok, hv]; omega
  have e2 : lvok (mkRows rows.length (rowLen rows) fun i => 99 - hgt rows i) (99 - lv + 1) = true := by simp [lvok, hvi]; omega
  have := cntp_compl (fun i => lv ≤ hgt rows i) (fun i => 99 - lv + 1 ≤ hgt (mkRows rows.length (rowLen rows) fun i => 99 - hgt rows i) i) (rows.length * rowLen rows) (fun i hi => by
    rw [mkRows_hgt v.r1 hi]; omega)
  simp only [landOf, e1, e2, if_true, mkRows_len, mkRows_rowLen v.r1]
  omega

end Go.Proofs.Ytlnodngkacbfkaa
