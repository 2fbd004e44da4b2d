/- The law FnLand: it returns true, and nothing that was there is written. -/
import Derived.Test.YtdlepfeckiahdaaJ2
import Derived.Test.YtdlepfeckiahdaaHl
set_option linter.all false
namespace Go.Proofs.Ytdlepfeckiahdaa
open Go.RowKit Go.SW

theorem gridInvert_c (a : Option Addr) (rows : List (List Int)) (A : Nat → Option Addr) (Cp : Nat → Nat) (gc : Nat) (w : World) (hr : RowsAt w a rows A Cp) (hv : gvalid rows = true) :
    Ret Try.prog 25 #[.slice a rows.length gc] w fun v w' => ∃ b A', v = .tuple #[.slice (some ⟨b, 0, none⟩) rows.length rows.length, .bool true] ∧ Ext w w' ∧ OwnRows w' 40 3 w.heap.size b (mkRows rows.length (rowLen rows) fun i => 99 - hgt rows i) A' := by
  have v := (gvalid_iff rows).1 hv
  have hpos : 0 < rows.length * rowLen rows := Nat.mul_pos v.r1 v.c1
  refine enter1 Try.func25 rfl (by kernel_rfl) (of_decide_eq_true (by kernel_rfl)) fun f a0 => ?_
  simp (disch := omega) only [go_sem, Nat.reduceEqDiff, ↓reduceIte, a0]
  refine callK_of (by kernel_rfl) (fieldOf_c _ _ _ _ _ _ hr) ?_
  rintro _ w2 ⟨x2, (⟨-, cb, rfl, hcb, o⟩ | ⟨hv', rfl⟩)⟩
  rotate_left
  · rw [hv] at hv'; cases hv'
  simp only [go_sem, Nat.reduceEqDiff, ↓reduceIte]
  refine allocK_of zero_f fun w3 b4 e4 x3 k4 _ => ?_
  simp only [go_sem, Nat.reduceEqDiff, ↓reduceIte]
  refine stK_agg siz_f (by simp) (by simp [Value.oneCell']) k4 (by simp) fun w4 k4 g4 => ?_
  have s2 := x2.size
  have s3 := x3.size
  have x4 : Ext w w4 := g4.ext (x2.trans x3) (by omega)
  have oc := o.cellsAt
  have hc : CellsAt w4 cb (rows.length * rowLen rows) (hgt rows) := fun i hi => by
    have := ((oc.ext x3).grow g4.grow (by have := oc.lt hpos; simp; omega)) i hi
    simpa only [hs_get rows i hi] using this
  simp (disch := omega) only [go_sem, Nat.reduceEqDiff, ↓reduceIte, Nat.reduceAdd, k4.cell, List.getElem?_toArray, List.getElem?_cons_succ, List.getElem?_cons_zero]
  refine callK_of (by kernel_rfl) (made_c _ _ _ _ _ _ k4 hc v.r1 v.r7 v.c1 v.c7 fun i hi => v.hgt i hi) ?_
  rintro _ w5 ⟨b, A', rfl, x5, or⟩
  simp (disch := omega) only [go_sem, Nat.reduceEqDiff, ↓reduceIte, Try.results25]
  exact ⟨b, A', rfl, x4.trans x5, ⟨or.top, Nat.le_trans x4.size or.hb, fun r hr => let ⟨br, h1, h2, h3, oo⟩ := or.row r hr; ⟨br, h1, Nat.le_trans x4.size h2, h3, oo⟩, or.inj⟩⟩

theorem mkRows_rowLen {R C : Nat} {h : Nat → Int} (hR : 1 ≤ R) : rowLen (mkRows R C h) = C := by
  simp only [rowLen]; rw [mkRows_get (by omega)]; simp
theorem mkRows_hgt {R C : Nat} {h : Nat → Int} (hR : 1 ≤ R) {i : Nat} (hi : i < R * C) : hgt (mkRows R C h) i = h i := by
  have hC : 0 < C := Nat.pos_of_ne_zero fun e => by subst e; simp at hi
  have hq : i / C < R := Nat.div_lt_of_lt_mul (by rw [Nat.mul_comm]; exact hi)
  simp only [hgt, mkRows_rowLen hR]
  rw [mkRows_get hq]
  have hm : i % C < C := Nat.mod_lt _ hC
  have e : i / C * C + i % C = i := by rw [Nat.mul_comm]; exact Nat.div_add_mod i C
  simp [hm, e]
theorem mkRows_valid {R C : Nat} {h : Nat → Int} (hR1 : 1 ≤ R) (hR : R ≤ 7) (hC1 : 1 ≤ C) (hC : C ≤ 7) (hh : ∀ i, i < R * C → 0 ≤ h i ∧ h i ≤ 99) : Valid (mkRows R C h) := by
  refine ⟨by rw [mkRows_len]; exact hR1, by rw [mkRows_len]; exact hR, by rw [mkRows_rowLen hR1]; exact hC1, by rw [mkRows_rowLen hR1]; exact hC, fun r hr => ?_, fun r c hr hc => ?_⟩
  · rw [mkRows_len] at hr; rw [mkRows_get hr, mkRows_rowLen hR1]; simp
  · rw [mkRows_len] at hr; rw [mkRows_rowLen hR1] at hc
    rw [mkRows_get hr]
    have hq : r * C + c < R * C := by
      have := Nat.mul_le_mul_right C (show r + 1 ≤ R by omega)
      rw [Nat.add_mul, Nat.one_mul] at this; omega
    have := hh _ hq
    simpa [hc] using this
theorem cntp_compl (p q : Nat → Prop) [DecidablePred p] [DecidablePred q] : ∀ n, (∀ i, i < n → (q i ↔ ¬ p i)) → cntp p n + cntp q n = n
  | 0, _ => rfl
  | n + 1, h => by
    have ih := cntp_compl p q n fun i hi => h i (by omega)
    have hn := h n (by omega)
    simp only [cntp]
    by_cases hp : p n
    · rw [if_pos hp, if_neg (fun hq => (hn.1 hq) hp)]; omega
    · rw [if_neg hp, if_pos (hn.2 hp)]; omega

theorem land_inv {rows : List (List Int)} (v : Valid rows) (lv : Int) (h1 : 1 ≤ lv) (h2 : lv ≤ 99) :
    landOf rows lv + landOf (mkRows rows.length (rowLen rows) fun i => 99 - hgt rows i) (99 - lv + 1) = (rows.length * rowLen rows : Nat) := by
  have hv := (gvalid_iff rows).2 v
  have vi := mkRows_valid (h := fun i => 99 - hgt rows i) v.r1 v.r7 v.c1 v.c7 (fun i hi => by have := v.hgt i hi; omega)
  have hvi := (gvalid_iff _).2 vi
  have e1 : lvok rows lv = true := by simp [lvok, hv]; omega
  have e2 : lvok (mkRows rows.length (rowLen rows) fun i => 99 - hgt rows i) (99 - lv + 1) = true := by simp [lvok, hvi]; omega
  have := cntp_compl (fun i => lv ≤ hgt rows i) (fun i => 99 - lv + 1 ≤ hgt (mkRows rows.length (rowLen rows) fun i => 99 - hgt rows i) i) (rows.length * rowLen rows) (fun i hi => by
    rw [mkRows_hgt v.r1 hi]; omega)
  simp only [landOf, e1, e2, if_true, mkRows_len, mkRows_rowLen v.r1]
  omega

theorem drawLand_c (a : Option Addr) (l : List Int) (c : Nat) (w : World) (hl : l.length ≤ c) (hc : c ≤ maxLen) (hs : ByteS w a l) :
    Ret Try.prog 24 #[.slice a l.length c] w fun v w' => ∃ a c rows A Cp lv, v = .tuple #[.slice a rows.length c, .int .i64 lv] ∧ -2 ≤ lv ∧ lv ≤ 102 ∧ RowsAt w' a rows A Cp ∧ Ext w w' := by
  refine enter1 Try.func24 rfl (by kernel_rfl) (of_decide_eq_true (by kernel_rfl)) fun f a0 => ?_
  simp only [go_sem, Nat.reduceEqDiff, ↓reduceIte, a0]
  refine callK_of (by kernel_rfl) (l6Open_c _ _ _ _ hl hc hs) ?_
  rintro _ w1 ⟨rb, rfl, x1, hrb, r1, e1⟩
  simp only [go_sem, Nat.reduceEqDiff, ↓reduceIte]
  refine callK_of (by kernel_rfl) (l91Level_c rb _ 0 _ r1 (by omega) (by omega)) ?_
  rintro _ w2 ⟨a, c, rows, A, Cp, R, lv, rfl, hR1, hR5, hl1, hl2, d, g, r2⟩
  simp only [go_sem, Nat.reduceEqDiff, ↓reduceIte, Try.results24]
  exact ⟨a, c, rows, A, Cp, lv, rfl, hl1, hl2, d.at (by omega), g.ext x1 fun b hb => by simp at hb; omega⟩

theorem land_law_c (a : Option Addr) (l : List Int) (c : Nat) (w : World) (hl : l.length ≤ c) (hc : c ≤ maxLen) (hs : ByteS w a l) :
    Ret Try.prog 5 #[.slice a l.length c] w fun v w' => v = .bool true ∧ Ext w w' := by
  have hmax := maxLen_le (Nat.le_trans hl hc)
  refine enter1 Try.func5 rfl (by kernel_rfl) (of_decide_eq_true (by kernel_rfl)) fun f a0 => ?_
  by_cases hbig : (1048576 : Int) < l.length
  · simp only [go_sem, Nat.reduceEqDiff, ↓reduceIte, a0, hbig, Try.results5]
    exact ⟨trivial, Ext.refl _⟩
  simp only [go_sem, Nat.reduceEqDiff, ↓reduceIte, a0, hbig]
  refine callK_of (by kernel_rfl) (drawLand_c _ _ _ _ hl hc hs) ?_
  rintro _ w1 ⟨ga, gc, rows, A, Cp, lv, rfl, hl1, hl2, hr, x1⟩
  simp only [go_sem, Nat.reduceEqDiff, ↓reduceIte]
  refine callK_of (by kernel_rfl) (implLevelLand_c _ _ _ _ _ _ _ hr) ?_
  rintro _ w2 ⟨rfl, x2⟩
  simp only [go_sem, Nat.reduceEqDiff, ↓reduceIte]
  refine callK_of (by kernel_rfl) (specLevelLand_c _ _ _ _ _ _ _ (hr.ext x2)) ?_
  rintro _ w3 ⟨rfl, x3⟩
  have hne : (landOf rows lv != landOf rows lv) = false := bne_self_eq_false _
  have x13 := (x1.trans x2).trans x3
  have r3 := (hr.ext x2).ext x3
  cases hv : lvok rows lv with
  | false =>
    have hlt : landOf rows lv < 0 := by simp [landOf, hv]
    simp only [go_sem, Nat.reduceEqDiff, ↓reduceIte, hne, hlt, beq_self_eq_true, Try.results5]
    exact ⟨trivial, x13⟩
  | true =>
    have hlv : gvalid rows = true ∧ 0 ≤ lv ∧ lv ≤ 99 := by simpa [lvok] using hv
    have v := (gvalid_iff rows).1 hlv.1
    have hn := lv_le hv
    have hland : ∀ x, -1 ≤ landOf rows x ∧ landOf rows x ≤ 49 := fun x => by
      simp only [landOf]; split
      · have := cntp_le (fun i => x ≤ hgt rows i) (rows.length * rowLen rows); omega
      · omega
    have hnn : ¬ landOf rows lv < 0 := by simp only [landOf, hv, if_true]; omega
    have hmono : landOf rows (lv + 1) ≤ landOf rows lv := by
      simp only [landOf, hv, if_true]
      split
      · have := cntp_le_of (fun i => lv + 1 ≤ hgt rows i) (fun i => lv ≤ hgt rows i) (fun i h => by omega) (rows.length * rowLen rows); omega
      · omega
    have h0 : landOf rows 0 = (rows.length * rowLen rows : Nat) := by
      have h1 : lvok rows 0 = true := by simp [lvok, hlv.1]
      have h2 := cntp_all (fun i => (0 : Int) ≤ hgt rows i) (rows.length * rowLen rows) (fun i hi => (v.hgt i hi).1)
      simp only [landOf, h1, if_true, h2]
    simp (disch := omega) only [go_sem, Nat.reduceEqDiff, ↓reduceIte, hne, hnn]
    refine callK_of (by kernel_rfl) (implLevelLand_c _ _ _ _ _ _ _ r3) ?_
    rintro _ w4 ⟨rfl, x4⟩
    simp (disch := omega) only [go_sem, Nat.reduceEqDiff, ↓reduceIte]
    refine callK_of (by kernel_rfl) (gridInvert_c _ _ _ _ _ _ (r3.ext x4) hlv.1) ?_
    rintro _ w5 ⟨b, A', rfl, x5, or⟩
    simp (disch := omega) only [go_sem, Nat.reduceEqDiff, ↓reduceIte]
    have r5 := (r3.ext x4).ext x5
    have vi := mkRows_valid (h := fun i => 99 - hgt rows i) v.r1 v.r7 v.c1 v.c7 (fun i hi => by have := v.hgt i hi; omega)
    have hrow : ∀ l ∈ mkRows rows.length (rowLen rows) (fun i => 99 - hgt rows i), l.length ≤ 7 ∧ ∀ x ∈ l, 0 ≤ x ∧ x ≤ 99 := fun l hl => by
      obtain ⟨r, hr, rfl⟩ := List.getElem_of_mem hl
      have e := getD_at _ [] hr
      have hlen := vi.len r hr
      rw [e] at hlen
      refine ⟨by rw [hlen]; exact vi.c7, fun x hx => ?_⟩
      obtain ⟨c, hc, rfl⟩ := List.getElem_of_mem hx
      have := vi.cell r c hr (by rw [← hlen]; exact hc)
      rw [e, getD_at _ _ hc] at this
      exact this
    have rinv := or.at (fun l hl x hx => by have := (hrow l hl).2 x hx; simp [I64]; omega) (by rw [mkRows_len]; exact r5.lens) (fun l hl => by have := (hrow l hl).1; simp [maxLen]; omega)
    have hcall := implLevelLand_c _ _ _ _ rows.length (99 - lv + 1) _ rinv
    rw [mkRows_len] at hcall
    refine callK_of (by kernel_rfl) hcall ?_
    rintro _ w6 ⟨rfl, x6⟩
    have r6 := r5.ext x6
    have x16 := ((x13.trans x4).trans x5).trans x6
    simp (disch := omega) only [go_sem, Nat.reduceEqDiff, ↓reduceIte, hmono]
    refine callK_of (by kernel_rfl) (implLevelLand_c _ _ _ _ _ _ _ r6) ?_
    rintro _ w7 ⟨rfl, x7⟩
    simp (disch := omega) only [go_sem, Nat.reduceEqDiff, ↓reduceIte]
    refine callK_of (by kernel_rfl) (cellsOf_c _ _ _ _ _ _ (r6.ext x7) v) ?_
    rintro _ w8 ⟨rfl, x8⟩
    have h0' : (landOf rows 0 == ((rows.length * rowLen rows : Nat) : Int)) = true := by rw [h0]; exact beq_self_eq_true _
    by_cases hz : lv = 0
    · have hz' : (lv == 0) = true := by simp [hz]
      simp (disch := omega) only [go_sem, Nat.reduceEqDiff, ↓reduceIte, h0', hz', Try.results5]
      exact ⟨trivial, (x16.trans x7).trans x8⟩
    · have hz' : (lv == 0) = false := by simp [hz]
      have hsum := land_inv v lv (by omega) (by omega)
      have hb1 := hland lv
      simp (disch := omega) only [go_sem, Nat.reduceEqDiff, ↓reduceIte, h0', hz', hsum]
      refine callK_of (by kernel_rfl) (cellsOf_c _ _ _ _ _ _ ((r6.ext x7).ext x8) v) ?_
      rintro _ w9 ⟨rfl, x9⟩
      have hs' : (((rows.length * rowLen rows : Nat) : Int) == ((rows.length * rowLen rows : Nat) : Int)) = true := beq_self_eq_true _
      simp (disch := omega) only [go_sem, Nat.reduceEqDiff, ↓reduceIte, hs', Try.results5]
      exact ⟨trivial, ((x16.trans x7).trans x8).trans x9⟩

end Go.Proofs.Ytdlepfeckiahdaa
