/- The law FnPits: contract. -/
import Derived.Test.YtlnodngkacbfkaaPi
set_option linter.all false
set_option maxRecDepth 20000
namespace Go.Proofs.Ytlnodngkacbfkaa
open Go.RowKit Go.SW
theorem sink_iff {R C : Nat} {h : Nat → Int} {i : Nat} : nextN R C h i = i ↔ ∀ j ∈ nearN R C i, h i ≤ h j := by
  constructor
  · intro e j hj
    have := nextN_le (h := h) hj
    rw [e] at this; exact this
  · intro hj
    rcases nextN_ne (R := R) (C := C) (h := h) i with e | e
    · exact e
    · rcases nextN_mem (R := R) (C := C) (h := h) i with e2 | e2
      · exact e2
      · have := hj _ e2; omega
theorem mem_pitsOf {rows : List (List Int)} (hv : gvalid rows = true) {i : Nat} : i ∈ pitsOf rows ↔ i < rows.length * rowLen rows ∧ peakB rows.length (rowLen rows) (fun i => 99 - hgt rows i) i = true := by
  rw [pitsOf, if_pos hv, peaksL, mem_peaksTo]
theorem pit_sink {rows : List (List Int)} (hv : gvalid rows = true) {i : Nat} (hi : i ∈ pitsOf rows) : i ∈ sinksOf rows := by
  obtain ⟨h1, h2⟩ := (mem_pitsOf hv).1 hi
  simp only [sinksOf, hv, if_true]
  refine (sinksTo_mem _ _ _ _ _).2 ⟨h1, sink_iff.2 fun j hj => ?_⟩
  rw [peakB, List.all_eq_true] at h2
  have := h2 j hj
  simp only [hiB, Bool.not_eq_true', decide_eq_false_iff_not] at this
  omega
theorem alone_pit {rows : List (List Int)} (hv : gvalid rows = true) {i : Nat} (hi : i ∈ sinksOf rows) (ha : ∀ j ∈ nearN rows.length (rowLen rows) i, hgt rows j ≠ hgt rows i) : i ∈ pitsOf rows := by
  simp only [sinksOf, hv, if_true] at hi
  obtain ⟨h1, h2⟩ := (sinksTo_mem _ _ _ _ _).1 hi
  refine (mem_pitsOf hv).2 ⟨h1, ?_⟩
  rw [peakB, List.all_eq_true]
  intro j hj
  have h3 := sink_iff.1 h2 j hj
  have h4 := ha j hj
  simp only [hiB, Bool.not_eq_true', decide_eq_false_iff_not]
  omega
theorem sinks_lt {rows : List (List Int)} (hv : gvalid rows = true) {i : Nat} (hi : i ∈ sinksOf rows) : i < rows.length * rowLen rows := by
  simp only [sinksOf, hv, if_true] at hi
  exact ((sinksTo_mem _ _ _ _ _).1 hi).1

theorem pits_c (a : Option Addr) (l : List Int) (c : Nat) (w : World) (hl : l.length ≤ c) (hc : c ≤ maxLen) (hs : ByteS w a l) :
    Ret Try.prog 10 #[.slice a l.length c] w fun v w' => v = .bool true ∧ Ext w w' := by
  have hmax := maxLen_le (Nat.le_trans hl hc)
  refine enter1 Try.func10 rfl (by kernel_rfl) (of_decide_eq_true (by kernel_rfl)) fun f a0 => ?_
  by_cases hbig : (1048576 : Int) < l.length
  · simp (disch := omega) only [go_sem, Nat.reduceEqDiff, ↓reduceIte, Nat.reduceAdd, a0, hbig, Try.results10]
    exact ⟨trivial, Ext.refl _⟩
  simp (disch := omega) only [go_sem, Nat.reduceEqDiff, ↓reduceIte, Nat.reduceAdd, a0, hbig]
  refine callK_of (by kernel_rfl) (drawPitList_c _ _ _ _ hl hc hs) ?_
  rintro _ w1 ⟨ga, gc, rows, A, Cp, rfl, hr, x1⟩
  simp (disch := omega) only [go_sem, Nat.reduceEqDiff, ↓reduceIte, Nat.reduceAdd]
  refine callK_of (by kernel_rfl) (pitList_c _ _ _ _ _ _ hr) ?_
  rintro _ w2 ⟨oa, oc, rfl, oo, of, x2⟩
  simp (disch := omega) only [go_sem, Nat.reduceEqDiff, ↓reduceIte, Nat.reduceAdd]
  refine callK_of (by kernel_rfl) (specPitList_c _ _ _ _ _ _ (hr.ext x2)) ?_
  rintro _ w3 ⟨sa, sc, rfl, so, sf, x3⟩
  have hde : decide (ni (pitsOf rows) = ni (pitsOf rows)) = true := decide_eq_true rfl
  have hmx : (ni (pitsOf rows)).length ≤ maxLen := by have := pitsOf_short rows; simp only [maxLen]; omega
  simp (disch := omega) only [go_sem, Nat.reduceEqDiff, ↓reduceIte, Nat.reduceAdd]
  refine callK_pure (by kernel_rfl) (sameInts_c _ _ _ _ _ _ _ (oo.ints.ext x3) so.ints hmx) fun w4 x4 => ?_
  have x23 := x2.trans x3
  have x24 := x23.trans x4
  have x14 := x1.trans x24
  by_cases hl0 : (((ni (pitsOf rows)).length : Int) == 0) = true
  · simp (disch := omega) only [go_sem, Nat.reduceEqDiff, ↓reduceIte, Nat.reduceAdd, hde, hl0]
    refine callK_pure (by kernel_rfl) (sameInts_c _ _ _ _ _ _ _ ((oo.ints.ext x3).ext x4) (so.ints.ext x4) hmx) fun w5 x5 => ?_
    simp (disch := omega) only [go_sem, Nat.reduceEqDiff, ↓reduceIte, Nat.reduceAdd, hde, Try.results10]
    exact ⟨trivial, x14.trans x5⟩
  · have hl0 : (((ni (pitsOf rows)).length : Int) == 0) = false := by simpa using hl0
    have hv : gvalid rows = true := by
      cases e : gvalid rows with
      | true => rfl
      | false => simp [pitsOf, e, ni] at hl0
    have v := (gvalid_iff rows).1 hv
    have g := v.gd
    have hn49 := g.le
    obtain ⟨gb, go, rb, ro, rfl, -, hg⟩ := hr.grid v
    have hr4 := hr.ext x24
    have hg4 := hg.ext x24
    have hpl : (pitsOf rows).length ≤ 1000000 := by have := pitsOf_short rows; rwa [ni_len] at this
    have hsl : (ni (sinksOf rows)).length ≤ maxLen ∧ (sinksOf rows).length ≤ 49 := by
      have := sinksTo_len rows.length (rowLen rows) (hgt rows) (rows.length * rowLen rows)
      rw [ni_len]
      simp only [sinksOf, hv, if_true, maxLen]; omega
    have hsl1 := hsl.1
    have o4 := (oo.ext x3).ext x4
    simp (disch := omega) only [go_sem, Nat.reduceEqDiff, ↓reduceIte, Nat.reduceAdd, hde, hl0]
    refine callK_of (by kernel_rfl) (waterSinks_c _ _ _ _ _ _ hr4) ?_
    rintro _ w5 ⟨ta, tc, rfl, to, tf, x5⟩
    simp (disch := omega) only [go_sem, Nat.reduceEqDiff, ↓reduceIte, Nat.reduceAdd]
    refine loopN (ni (pitsOf rows)).length (fun k f W => f 3 = .slice (some ⟨gb, go, none⟩) rows.length gc ∧ f 4 = .slice oa (ni (pitsOf rows)).length oc ∧ f 6 = .slice ta (ni (sinksOf rows)).length tc ∧ f 7 = .int .i64 k ∧ Ext w5 W) ⟨(by first | assumption | (simp only [upd_apply, Nat.reduceEqDiff, ↓reduceIte] <;> first | rfl | assumption) | simp [upd_apply, *]), (by first | assumption | (simp only [upd_apply, Nat.reduceEqDiff, ↓reduceIte] <;> first | rfl | assumption) | simp [upd_apply, *]), (by first | assumption | (simp only [upd_apply, Nat.reduceEqDiff, ↓reduceIte] <;> first | rfl | assumption) | simp [upd_apply, *]), (by first | assumption | (simp only [upd_apply, Nat.reduceEqDiff, ↓reduceIte] <;> first | rfl | assumption) | simp [upd_apply, *]), Ext.refl _⟩ fun k f W hk ⟨a3, a4, a6, a7, xW⟩ => ?_
    by_cases hlt : (k : Int) < (ni (pitsOf rows)).length
    · have hkl : k < (pitsOf rows).length := by rw [ni_len] at hlt; omega
      obtain ⟨ob, rfl⟩ := o4.some (by rw [ni_len]; omega)
      have x5W := x5.trans xW
      have g0 : W.cell? ⟨ob, k, none⟩ = some (.int .i64 ((pitsOf rows).getD k 0 : Nat)) := by rw [(o4.ext x5W).cell (by rw [ni_len]; omega), vi_get _ _ (by rw [ni_len]; omega), ni_get _ hkl]
      have hin : decide ((((pitsOf rows).getD k 0 : Nat) : Int) ∈ ni (sinksOf rows)) = true := decide_eq_true (mem_ni.2 (pit_sink hv (getD_mem hkl)))
      generalize (pitsOf rows).getD k 0 = y at *
      simp (disch := omega) only [go_sem, Nat.reduceEqDiff, ↓reduceIte, Nat.reduceAdd, a4, a6, a7, hlt, g0]
      refine callK_pure (by kernel_rfl) (hasInt_c _ _ _ (y : Int) _ (to.ext xW).ints hsl1) fun w6 x6 => ?_
      simp (disch := omega) only [go_sem, Nat.reduceEqDiff, ↓reduceIte, Nat.reduceAdd, hin, a7]
      exact ⟨by rw [ni_len]; omega, (by first | assumption | (simp only [upd_apply, Nat.reduceEqDiff, ↓reduceIte] <;> first | rfl | assumption) | simp [upd_apply, *]), (by first | assumption | (simp only [upd_apply, Nat.reduceEqDiff, ↓reduceIte] <;> first | rfl | assumption) | simp [upd_apply, *]), (by first | assumption | (simp only [upd_apply, Nat.reduceEqDiff, ↓reduceIte] <;> first | rfl | assumption) | simp [upd_apply, *]), (by first | assumption | (simp only [upd_apply, Nat.reduceEqDiff, ↓reduceIte] <;> first | rfl | assumption) | simp [upd_apply, *]), xW.trans x6⟩
    · simp (disch := omega) only [go_sem, Nat.reduceEqDiff, ↓reduceIte, Nat.reduceAdd, a4, a7, hlt]
      refine loopN (ni (sinksOf rows)).length (fun k f V => f 3 = .slice (some ⟨gb, go, none⟩) rows.length gc ∧ f 4 = .slice oa (ni (pitsOf rows)).length oc ∧ f 6 = .slice ta (ni (sinksOf rows)).length tc ∧ f 8 = .int .i64 k ∧ Ext w5 V) ⟨(by first | assumption | (simp only [upd_apply, Nat.reduceEqDiff, ↓reduceIte] <;> first | rfl | assumption) | simp [upd_apply, *]), (by first | assumption | (simp only [upd_apply, Nat.reduceEqDiff, ↓reduceIte] <;> first | rfl | assumption) | simp [upd_apply, *]), (by first | assumption | (simp only [upd_apply, Nat.reduceEqDiff, ↓reduceIte] <;> first | rfl | assumption) | simp [upd_apply, *]), (by first | assumption | (simp only [upd_apply, Nat.reduceEqDiff, ↓reduceIte] <;> first | rfl | assumption) | simp [upd_apply, *]), xW⟩ fun k f V hk ⟨a3, a4, a6, a8, xV⟩ => ?_
      by_cases hlt : (k : Int) < (ni (sinksOf rows)).length
      · have hkl : k < (sinksOf rows).length := by rw [ni_len] at hlt; omega
        obtain ⟨tb, rfl⟩ := to.some (by rw [ni_len]; omega)
        have cell : ∀ U, Ext w5 U → U.cell? ⟨tb, k, none⟩ = some (.int .i64 ((sinksOf rows).getD k 0 : Nat)) := fun U e => by rw [(to.ext e).cell (by rw [ni_len]; omega), vi_get _ _ (by rw [ni_len]; omega), ni_get _ hkl]
        have hym : (sinksOf rows).getD k 0 ∈ sinksOf rows := getD_mem hkl
        generalize (sinksOf rows).getD k 0 = y at *
        have hyn := sinks_lt hv hym
        have g0 := cell _ xV
        have x5V := x5.trans xV
        simp (disch := omega) only [go_sem, Nat.reduceEqDiff, ↓reduceIte, Nat.reduceAdd, a3, a4, a6, a8, hlt, g0]
        refine callK_of (by kernel_rfl) (nearOf_c gb go gc rb ro Cp _ _ _ _ (hg4.ext x5V) g.r7 g.c7 y hyn) ?_
        rintro _ w6 ⟨na, nc, rfl, no, nf, x6⟩
        have hn4 := nearN_len rows.length (rowLen rows) y
        have hnlt : ∀ j ∈ nearN rows.length (rowLen rows) y, j < rows.length * rowLen rows := nearN_lt hyn
        have hV6 := xV.trans x6
        generalize hnn : nearN rows.length (rowLen rows) y = nn at *
        simp (disch := omega) only [go_sem, Nat.reduceEqDiff, ↓reduceIte, Nat.reduceAdd]
        refine loopN nn.length (fun m f U => f 3 = .slice (some ⟨gb, go, none⟩) rows.length gc ∧ f 4 = .slice oa (ni (pitsOf rows)).length oc ∧ f 6 = .slice (some ⟨tb, 0, none⟩) (ni (sinksOf rows)).length tc ∧ f 8 = .int .i64 k ∧ (∃ b : Bool, f 9 = .bool b ∧ (b = true → ∀ j ∈ nn.take m, hgt rows j ≠ hgt rows y)) ∧ f 10 = .slice na nn.length nc ∧ f 11 = .int .i64 m ∧ Ext w6 U) ⟨(by first | assumption | (simp only [upd_apply, Nat.reduceEqDiff, ↓reduceIte] <;> first | rfl | assumption) | simp [upd_apply, *]), (by first | assumption | (simp only [upd_apply, Nat.reduceEqDiff, ↓reduceIte] <;> first | rfl | assumption) | simp [upd_apply, *]), (by first | assumption | (simp only [upd_apply, Nat.reduceEqDiff, ↓reduceIte] <;> first | rfl | assumption) | simp [upd_apply, *]), (by first | assumption | (simp only [upd_apply, Nat.reduceEqDiff, ↓reduceIte] <;> first | rfl | assumption) | simp [upd_apply, *]), ⟨true, by simp [upd_apply], fun _ j hj => by simp at hj⟩, (by first | assumption | (simp only [upd_apply, Nat.reduceEqDiff, ↓reduceIte] <;> first | rfl | assumption) | simp [upd_apply, *]), (by first | assumption | (simp only [upd_apply, Nat.reduceEqDiff, ↓reduceIte] <;> first | rfl | assumption) | simp [upd_apply, *]), Ext.refl _⟩ fun m f U hm ⟨a3, a4, a6, a8, ⟨b, a9, hb⟩, a10, a11, xU⟩ => ?_
        have x6U := hV6.trans xU
        have g1 := cell _ x6U
        by_cases hlm : (m : Int) < nn.length
        · have hml : m < nn.length := by omega
          obtain ⟨nb, rfl⟩ := no.some (by omega)
          have hj := hnlt _ (getD_mem (d := 0) hml)
          have g2 : U.cell? ⟨nb, m, none⟩ = some (.int .i64 (nn.getD m 0 : Nat)) := by rw [(no.ext xU).cell (by omega), vi_get _ _ (by rw [ni_len]; omega), ni_get _ hml]
          have htk : nn.take (m + 1) = nn.take m ++ [nn.getD m 0] := by rw [List.take_succ_eq_append_getElem hml, getD_at nn 0 hml]
          generalize nn.getD m 0 = j at *
          cases b with
          | false =>
            simp (disch := omega) only [go_sem, Nat.reduceEqDiff, ↓reduceIte, Nat.reduceAdd, a10, a11, hlm]
            refine QR_of (by kernel_rfl) (by kernel_rfl) ?_
            simp (disch := omega) only [go_sem, Nat.reduceEqDiff, ↓reduceIte, Nat.reduceAdd, a9]
            intro U1 z1
            simp (disch := omega) only [go_sem, Nat.reduceEqDiff, ↓reduceIte, Nat.reduceAdd, a11]
            exact ⟨hml, (by first | assumption | (simp only [upd_apply, Nat.reduceEqDiff, ↓reduceIte] <;> first | rfl | assumption) | simp [upd_apply, *]), (by first | assumption | (simp only [upd_apply, Nat.reduceEqDiff, ↓reduceIte] <;> first | rfl | assumption) | simp [upd_apply, *]), (by first | assumption | (simp only [upd_apply, Nat.reduceEqDiff, ↓reduceIte] <;> first | rfl | assumption) | simp [upd_apply, *]), (by first | assumption | (simp only [upd_apply, Nat.reduceEqDiff, ↓reduceIte] <;> first | rfl | assumption) | simp [upd_apply, *]), ⟨false, by simp [upd_apply], fun h => by cases h⟩, (by first | assumption | (simp only [upd_apply, Nat.reduceEqDiff, ↓reduceIte] <;> first | rfl | assumption) | simp [upd_apply, *]), (by first | assumption | (simp only [upd_apply, Nat.reduceEqDiff, ↓reduceIte] <;> first | rfl | assumption) | simp [upd_apply, *]), xU.trans z1⟩
          | true =>
            simp (disch := omega) only [go_sem, Nat.reduceEqDiff, ↓reduceIte, Nat.reduceAdd, a10, a11, hlm]
            refine QR_of (by kernel_rfl) (by kernel_rfl) ?_
            simp (disch := omega) only [go_sem, Nat.reduceEqDiff, ↓reduceIte, Nat.reduceAdd, a3, a6, a8, a9, a10, a11, g1, g2]
            refine callK_q (by kernel_rfl) (fun w' e => heightOf_c _ _ _ _ _ _ (((hr4.ext x5).ext x6U).ext e) v (j : Int) (by omega) (by omega)) ?_
            simp (disch := omega) only [go_sem, Nat.reduceEqDiff, ↓reduceIte, Nat.reduceAdd, a3, a6, a8, g1]
            refine callK_q (by kernel_rfl) (fun w' e => heightOf_c _ _ _ _ _ _ (((hr4.ext x5).ext x6U).ext e) v (y : Int) (by omega) (by omega)) ?_
            by_cases hjy : hgt rows j = hgt rows y
            · have hne : (hgt rows j != hgt rows y) = false := by simp [hjy]
              simp (disch := omega) only [go_sem, Nat.reduceEqDiff, ↓reduceIte, Nat.reduceAdd, Int.toNat_natCast, hne]
              intro U1 z1
              simp (disch := omega) only [go_sem, Nat.reduceEqDiff, ↓reduceIte, Nat.reduceAdd, a11]
              exact ⟨hml, (by first | assumption | (simp only [upd_apply, Nat.reduceEqDiff, ↓reduceIte] <;> first | rfl | assumption) | simp [upd_apply, *]), (by first | assumption | (simp only [upd_apply, Nat.reduceEqDiff, ↓reduceIte] <;> first | rfl | assumption) | simp [upd_apply, *]), (by first | assumption | (simp only [upd_apply, Nat.reduceEqDiff, ↓reduceIte] <;> first | rfl | assumption) | simp [upd_apply, *]), (by first | assumption | (simp only [upd_apply, Nat.reduceEqDiff, ↓reduceIte] <;> first | rfl | assumption) | simp [upd_apply, *]), ⟨false, by simp [upd_apply], fun h => by cases h⟩, (by first | assumption | (simp only [upd_apply, Nat.reduceEqDiff, ↓reduceIte] <;> first | rfl | assumption) | simp [upd_apply, *]), (by first | assumption | (simp only [upd_apply, Nat.reduceEqDiff, ↓reduceIte] <;> first | rfl | assumption) | simp [upd_apply, *]), xU.trans z1⟩
            · have hne : (hgt rows j != hgt rows y) = true := by simp [hjy]
              simp (disch := omega) only [go_sem, Nat.reduceEqDiff, ↓reduceIte, Nat.reduceAdd, Int.toNat_natCast, hne]
              intro U1 z1
              simp (disch := omega) only [go_sem, Nat.reduceEqDiff, ↓reduceIte, Nat.reduceAdd, a11]
              refine ⟨hml, (by first | assumption | (simp only [upd_apply, Nat.reduceEqDiff, ↓reduceIte] <;> first | rfl | assumption) | simp [upd_apply, *]), (by first | assumption | (simp only [upd_apply, Nat.reduceEqDiff, ↓reduceIte] <;> first | rfl | assumption) | simp [upd_apply, *]), (by first | assumption | (simp only [upd_apply, Nat.reduceEqDiff, ↓reduceIte] <;> first | rfl | assumption) | simp [upd_apply, *]), (by first | assumption | (simp only [upd_apply, Nat.reduceEqDiff, ↓reduceIte] <;> first | rfl | assumption) | simp [upd_apply, *]), ⟨true, by simp [upd_apply], fun _ i hi => ?_⟩, (by first | assumption | (simp only [upd_apply, Nat.reduceEqDiff, ↓reduceIte] <;> first | rfl | assumption) | simp [upd_apply, *]), (by first | assumption | (simp only [upd_apply, Nat.reduceEqDiff, ↓reduceIte] <;> first | rfl | assumption) | simp [upd_apply, *]), xU.trans z1⟩
              rw [htk] at hi
              rcases List.mem_append.1 hi with h' | h'
              · exact hb rfl i h'
              · have : i = j := by simpa using h'
                rw [this]; exact hjy
        · have e : m = nn.length := by omega
          rw [e, List.take_length] at hb
          cases b with
          | false =>
            simp (disch := omega) only [go_sem, Nat.reduceEqDiff, ↓reduceIte, Nat.reduceAdd, a8, a9, a10, a11, hlm]
            exact ⟨by rw [ni_len]; omega, (by first | assumption | (simp only [upd_apply, Nat.reduceEqDiff, ↓reduceIte] <;> first | rfl | assumption) | simp [upd_apply, *]), (by first | assumption | (simp only [upd_apply, Nat.reduceEqDiff, ↓reduceIte] <;> first | rfl | assumption) | simp [upd_apply, *]), (by first | assumption | (simp only [upd_apply, Nat.reduceEqDiff, ↓reduceIte] <;> first | rfl | assumption) | simp [upd_apply, *]), (by first | assumption | (simp only [upd_apply, Nat.reduceEqDiff, ↓reduceIte] <;> first | rfl | assumption) | simp [upd_apply, *]), x6U⟩
          | true =>
            have hin : decide ((y : Int) ∈ ni (pitsOf rows)) = true := decide_eq_true (mem_ni.2 (alone_pit hv hym (by rw [hnn]; exact hb rfl)))
            simp (disch := omega) only [go_sem, Nat.reduceEqDiff, ↓reduceIte, Nat.reduceAdd, a4, a6, a8, a9, a10, a11, hlm, g1]
            refine callK_pure (by kernel_rfl) (hasInt_c _ _ _ (y : Int) _ ((o4.ext x5).ext x6U).ints hmx) fun w7 x7 => ?_
            simp (disch := omega) only [go_sem, Nat.reduceEqDiff, ↓reduceIte, Nat.reduceAdd, hin, a8]
            exact ⟨by rw [ni_len]; omega, (by first | assumption | (simp only [upd_apply, Nat.reduceEqDiff, ↓reduceIte] <;> first | rfl | assumption) | simp [upd_apply, *]), (by first | assumption | (simp only [upd_apply, Nat.reduceEqDiff, ↓reduceIte] <;> first | rfl | assumption) | simp [upd_apply, *]), (by first | assumption | (simp only [upd_apply, Nat.reduceEqDiff, ↓reduceIte] <;> first | rfl | assumption) | simp [upd_apply, *]), (by first | assumption | (simp only [upd_apply, Nat.reduceEqDiff, ↓reduceIte] <;> first | rfl | assumption) | simp [upd_apply, *]), x6U.trans x7⟩
      · simp (disch := omega) only [go_sem, Nat.reduceEqDiff, ↓reduceIte, Nat.reduceAdd, a6, a8, hlt, Try.results10]
        exact ⟨trivial, (x14.trans x5).trans xV⟩
end Go.Proofs.Ytlnodngkacbfkaa
