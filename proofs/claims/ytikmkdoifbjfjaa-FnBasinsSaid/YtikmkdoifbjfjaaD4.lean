/- The draw functions of the water laws; the helpers of the laws. -/
import Derived.Test.YtikmkdoifbjfjaaD3
set_option linter.all false
namespace Go.Proofs.Ytikmkdoifbjfjaa
open Go.RowKit Go.SW

theorem specWaterSinks_c (a : Option Addr) (rows : List (List Int)) (A : Nat → Option Addr) (Cp : Nat → Nat) (gc : Nat) (w : World) (hr : RowsAt w a rows A Cp) :
    Ret Try.prog 67 #[.slice a rows.length gc] w fun v w' => Got1 w w' (ni (sinksOf rows)) v := by
  refine enter1 Try.func67 rfl (by kernel_rfl) (of_decide_eq_true (by kernel_rfl)) fun f a0 => ?_
  simp (disch := omega) only [go_sem, Nat.reduceEqDiff, ↓reduceIte, Nat.reduceAdd]
  refine bslK_0 elt_i fun w0 b0 e0 x0 o0 _ => ?_
  simp (disch := omega) only [go_sem, Nat.reduceEqDiff, ↓reduceIte, Nat.reduceAdd, a0]
  refine callK_pure (by kernel_rfl) (gridValid_c _ _ _ _ _ _ (hr.ext x0)) fun w1 x1 => ?_
  have x01 := x0.trans x1
  cases hv : gvalid rows with
  | false =>
    simp (disch := omega) only [go_sem, Nat.reduceEqDiff, ↓reduceIte, Nat.reduceAdd, Try.results67]
    exact ⟨_, _, by simp [sinksOf, hv, ni]; exact ⟨rfl, rfl⟩, by simpa [sinksOf, hv, ni, vi] using o0.ext x1, fun b hb => by simp [blk] at hb; omega, x01⟩
  | true =>
    have v := (gvalid_iff rows).1 hv
    have g := v.gd
    have hn49 := g.le
    obtain ⟨gb, go, rb, ro, rfl, -, hg⟩ := hr.grid v
    let S := sinksTo rows.length (rowLen rows) (hgt rows)
    simp (disch := omega) only [go_sem, Nat.reduceEqDiff, ↓reduceIte, Nat.reduceAdd]
    refine loopN (rows.length * rowLen rows) (fun k f W => f 0 = .slice (some ⟨gb, go, none⟩) rows.length gc ∧ (∃ a c, f 3 = .slice a (S k).length c ∧ OwnS W 3 1 a (S k).length c (vi (ni (S k))) ∧ (∀ b, blk a = some b → w.heap.size ≤ b)) ∧ f 4 = .int .i64 k ∧ Ext w W) ⟨(by first | assumption | (simp only [upd_apply, Nat.reduceEqDiff, ↓reduceIte] <;> first | rfl | assumption) | simp [upd_apply, *]), ⟨_, _, by simp [upd_apply, S, sinksTo]; exact ⟨rfl, rfl⟩, by simpa [S, sinksTo, vi, ni] using o0.ext x1, fun b hb => by simp [blk] at hb; omega⟩, (by first | assumption | (simp only [upd_apply, Nat.reduceEqDiff, ↓reduceIte] <;> first | rfl | assumption) | simp [upd_apply, *]), x01⟩ fun k f W hk ⟨a0, ⟨a, c, a3, o, hb⟩, a4, xw⟩ => ?_
    simp (disch := omega) only [go_sem, Nat.reduceEqDiff, ↓reduceIte, Nat.reduceAdd, a0, a4]
    refine callK_pure (by kernel_rfl) (l2Cells_c _ _ _ _ _ _ _ _ _ _ (hg.ext xw) v.r1 v.r7 v.c7) fun w2 x2 => ?_
    by_cases hlt : (k : Int) < (rows.length * rowLen rows : Nat)
    · have hkn : k < rows.length * rowLen rows := by omega
      have hlen : (S k).length ≤ k := sinksTo_len rows.length (rowLen rows) (hgt rows) k
      simp (disch := omega) only [go_sem, Nat.reduceEqDiff, ↓reduceIte, Nat.reduceAdd, a0, a4, hlt]
      refine callK_pure (by kernel_rfl) (l2Next_c gb go gc rb ro Cp _ _ _ _ ((hg.ext xw).ext x2) g.r7 g.c7 k hkn) fun w3 x3 => ?_
      by_cases hs : nextN rows.length (rowLen rows) (hgt rows) k = k
      · have hbq : (((nextN rows.length (rowLen rows) (hgt rows) k : Nat) : Int) == (k : Int)) = true := by simp [hs]
        simp (disch := omega) only [go_sem, Nat.reduceEqDiff, ↓reduceIte, Nat.reduceAdd, a3, a4, hbq]
        refine bslK_1 elt_i rfl fun w7 b7 _ x7 k7 _ => ?_
        simp (disch := omega) only [go_sem, Nat.reduceEqDiff, ↓reduceIte, Nat.reduceAdd]
        refine appK_1 elt_i (((o.ext x2).ext x3).ext x7) k7 rfl (by omega) (.inl (by decide)) fun w8 a8 c8 o8 g8 h8 => ?_
        simp (disch := omega) only [go_sem, Nat.reduceEqDiff, ↓reduceIte, Nat.reduceAdd, a4]
        have xx := ((xw.trans x2).trans x3).trans x7
        have e : S (k + 1) = S k ++ [k] := by simp only [S, sinksTo]; rw [if_pos hs]
        refine ⟨hkn, (by first | assumption | (simp only [upd_apply, Nat.reduceEqDiff, ↓reduceIte] <;> first | rfl | assumption) | simp [upd_apply, *]), ⟨a8, c8, by rw [e]; simp [upd_apply], by rw [e, ← vi_ni_snoc (S k) k _ rfl]; simpa using o8, fun b hb2 => ?_⟩, (by first | assumption | (simp only [upd_apply, Nat.reduceEqDiff, ↓reduceIte] <;> first | rfl | assumption) | simp [upd_apply, *]), g8.ext xx hb⟩
        rcases h8 b hb2 with h | h
        · exact hb b h
        · have := xx.size; omega
      · have hbq : (((nextN rows.length (rowLen rows) (hgt rows) k : Nat) : Int) == (k : Int)) = false := by simp; omega
        have e : S (k + 1) = S k := by simp only [S, sinksTo]; rw [if_neg hs, List.append_nil]
        simp (disch := omega) only [go_sem, Nat.reduceEqDiff, ↓reduceIte, Nat.reduceAdd, a4, hbq]
        exact ⟨hkn, (by first | assumption | (simp only [upd_apply, Nat.reduceEqDiff, ↓reduceIte] <;> first | rfl | assumption) | simp [upd_apply, *]), ⟨a, c, by rw [e]; simp [upd_apply, a3], by rw [e]; exact (o.ext x2).ext x3, hb⟩, (by first | assumption | (simp only [upd_apply, Nat.reduceEqDiff, ↓reduceIte] <;> first | rfl | assumption) | simp [upd_apply, *]), (xw.trans x2).trans x3⟩
    · obtain rfl : k = rows.length * rowLen rows := by omega
      simp (disch := omega) only [go_sem, Nat.reduceEqDiff, ↓reduceIte, Nat.reduceAdd, a3, hlt, Try.results67]
      have e : sinksOf rows = S (rows.length * rowLen rows) := by simp [sinksOf, hv, S]
      exact ⟨a, c, by rw [e, ni_len], by rw [e, ni_len]; exact o.ext x2, hb, xw.trans x2⟩

/-- A grid has been drawn. -/
def DrawnG (w w' : World) (v : Value) : Prop := ∃ a c rows A Cp, v = .slice a rows.length c ∧ RowsAt w' a rows A Cp ∧ Ext w w'

theorem drawWaterLongest_c (a : Option Addr) (l : List Int) (c : Nat) (w : World) (hl : l.length ≤ c) (hc : c ≤ maxLen) (hs : ByteS w a l) :
    Ret Try.prog 26 #[.slice a l.length c] w fun v w' => DrawnG w w' v := by
  refine enter1 Try.func26 rfl (by kernel_rfl) (of_decide_eq_true (by kernel_rfl)) fun f a0 => ?_
  simp (disch := omega) only [go_sem, Nat.reduceEqDiff, ↓reduceIte, Nat.reduceAdd, a0]
  refine callK_of (by kernel_rfl) (l6Open_c _ _ _ _ hl hc hs) ?_
  rintro _ w1 ⟨rb, rfl, x1, hrb, r1, e1⟩
  simp (disch := omega) only [go_sem, Nat.reduceEqDiff, ↓reduceIte, Nat.reduceAdd]
  refine callK_of (by kernel_rfl) (l91Grid_c rb _ 0 _ r1 (by omega) (by omega)) ?_
  rintro _ w2 ⟨a, c, rows, A, Cp, R, rfl, hR1, hR5, d, g, r2⟩
  simp (disch := omega) only [go_sem, Nat.reduceEqDiff, ↓reduceIte, Nat.reduceAdd, Try.results26]
  exact ⟨a, c, rows, A, Cp, rfl, d.at (by omega), g.ext x1 fun b hb => by simp at hb; omega⟩

theorem drawWaterFlow_c (a : Option Addr) (l : List Int) (c : Nat) (w : World) (hl : l.length ≤ c) (hc : c ≤ maxLen) (hs : ByteS w a l) :
    Ret Try.prog 37 #[.slice a l.length c] w fun v w' => DrawnG w w' v := by
  refine enter1 Try.func37 rfl (by kernel_rfl) (of_decide_eq_true (by kernel_rfl)) fun f a0 => ?_
  simp (disch := omega) only [go_sem, Nat.reduceEqDiff, ↓reduceIte, Nat.reduceAdd, a0]
  refine callK_of (by kernel_rfl) (l6Open_c _ _ _ _ hl hc hs) ?_
  rintro _ w1 ⟨rb, rfl, x1, hrb, r1, e1⟩
  simp (disch := omega) only [go_sem, Nat.reduceEqDiff, ↓reduceIte, Nat.reduceAdd]
  refine callK_of (by kernel_rfl) (l91Grid_c rb _ 0 _ r1 (by omega) (by omega)) ?_
  rintro _ w2 ⟨a, c, rows, A, Cp, R, rfl, hR1, hR5, d, g, r2⟩
  simp (disch := omega) only [go_sem, Nat.reduceEqDiff, ↓reduceIte, Nat.reduceAdd, Try.results37]
  exact ⟨a, c, rows, A, Cp, rfl, d.at (by omega), g.ext x1 fun b hb => by simp at hb; omega⟩

theorem drawWaterBasins_c (a : Option Addr) (l : List Int) (c : Nat) (w : World) (hl : l.length ≤ c) (hc : c ≤ maxLen) (hs : ByteS w a l) :
    Ret Try.prog 46 #[.slice a l.length c] w fun v w' => DrawnG w w' v := by
  refine enter1 Try.func46 rfl (by kernel_rfl) (of_decide_eq_true (by kernel_rfl)) fun f a0 => ?_
  simp (disch := omega) only [go_sem, Nat.reduceEqDiff, ↓reduceIte, Nat.reduceAdd, a0]
  refine callK_of (by kernel_rfl) (l6Open_c _ _ _ _ hl hc hs) ?_
  rintro _ w1 ⟨rb, rfl, x1, hrb, r1, e1⟩
  simp (disch := omega) only [go_sem, Nat.reduceEqDiff, ↓reduceIte, Nat.reduceAdd]
  refine callK_of (by kernel_rfl) (l91Grid_c rb _ 0 _ r1 (by omega) (by omega)) ?_
  rintro _ w2 ⟨a, c, rows, A, Cp, R, rfl, hR1, hR5, d, g, r2⟩
  simp (disch := omega) only [go_sem, Nat.reduceEqDiff, ↓reduceIte, Nat.reduceAdd, Try.results46]
  exact ⟨a, c, rows, A, Cp, rfl, d.at (by omega), g.ext x1 fun b hb => by simp at hb; omega⟩

theorem drawWaterDivide_c (a : Option Addr) (l : List Int) (c : Nat) (w : World) (hl : l.length ≤ c) (hc : c ≤ maxLen) (hs : ByteS w a l) :
    Ret Try.prog 47 #[.slice a l.length c] w fun v w' => DrawnG w w' v := by
  refine enter1 Try.func47 rfl (by kernel_rfl) (of_decide_eq_true (by kernel_rfl)) fun f a0 => ?_
  simp (disch := omega) only [go_sem, Nat.reduceEqDiff, ↓reduceIte, Nat.reduceAdd, a0]
  refine callK_of (by kernel_rfl) (l6Open_c _ _ _ _ hl hc hs) ?_
  rintro _ w1 ⟨rb, rfl, x1, hrb, r1, e1⟩
  simp (disch := omega) only [go_sem, Nat.reduceEqDiff, ↓reduceIte, Nat.reduceAdd]
  refine callK_of (by kernel_rfl) (l91Grid_c rb _ 0 _ r1 (by omega) (by omega)) ?_
  rintro _ w2 ⟨a, c, rows, A, Cp, R, rfl, hR1, hR5, d, g, r2⟩
  simp (disch := omega) only [go_sem, Nat.reduceEqDiff, ↓reduceIte, Nat.reduceAdd, Try.results47]
  exact ⟨a, c, rows, A, Cp, rfl, d.at (by omega), g.ext x1 fun b hb => by simp at hb; omega⟩


theorem drawWaterRun_c (a : Option Addr) (l : List Int) (c : Nat) (w : World) (hl : l.length ≤ c) (hc : c ≤ maxLen) (hs : ByteS w a l) :
    Ret Try.prog 41 #[.slice a l.length c] w fun v w' => ∃ a c rows A Cp r cc, v = .tuple #[.slice a rows.length c, .int .i64 r, .int .i64 cc] ∧ RowsAt w' a rows A Cp ∧ Ext w w' := by
  refine enter1 Try.func41 rfl (by kernel_rfl) (of_decide_eq_true (by kernel_rfl)) fun f a0 => ?_
  simp (disch := omega) only [go_sem, Nat.reduceEqDiff, ↓reduceIte, Nat.reduceAdd, a0]
  refine callK_of (by kernel_rfl) (l6Open_c _ _ _ _ hl hc hs) ?_
  rintro _ w1 ⟨rb, rfl, x1, hrb, r1, e1⟩
  simp (disch := omega) only [go_sem, Nat.reduceEqDiff, ↓reduceIte, Nat.reduceAdd]
  refine callK_of (by kernel_rfl) (l91Cell_c rb _ 0 _ r1 (by omega) (by omega)) ?_
  rintro _ w2 ⟨a, c, rows, A, Cp, R, r, cc, rfl, hR1, hR5, -, d, g, r2⟩
  simp (disch := omega) only [go_sem, Nat.reduceEqDiff, ↓reduceIte, Nat.reduceAdd, Try.results41]
  exact ⟨a, c, rows, A, Cp, r, cc, rfl, d.at (by omega), g.ext x1 fun b hb => by simp at hb; omega⟩

theorem drawWaterBasin_c (a : Option Addr) (l : List Int) (c : Nat) (w : World) (hl : l.length ≤ c) (hc : c ≤ maxLen) (hs : ByteS w a l) :
    Ret Try.prog 45 #[.slice a l.length c] w fun v w' => ∃ a c rows A Cp s, v = .tuple #[.slice a rows.length c, .int .i64 s] ∧ RowsAt w' a rows A Cp ∧ Ext w w' := by
  refine enter1 Try.func45 rfl (by kernel_rfl) (of_decide_eq_true (by kernel_rfl)) fun f a0 => ?_
  simp (disch := omega) only [go_sem, Nat.reduceEqDiff, ↓reduceIte, Nat.reduceAdd, a0]
  refine callK_of (by kernel_rfl) (l6Open_c _ _ _ _ hl hc hs) ?_
  rintro _ w1 ⟨rb, rfl, x1, hrb, r1, e1⟩
  simp (disch := omega) only [go_sem, Nat.reduceEqDiff, ↓reduceIte, Nat.reduceAdd]
  refine callK_of (by kernel_rfl) (l91Grid_c rb _ 0 _ r1 (by omega) (by omega)) ?_
  rintro _ w2 ⟨a, c, rows, A, Cp, R, rfl, hR1, hR5, d, g, r2⟩
  have s2 := g.size
  simp (disch := omega) only [go_sem, Nat.reduceEqDiff, ↓reduceIte, Nat.reduceAdd]
  refine callK_of (by kernel_rfl) (specWaterSinks_c _ _ _ _ _ _ (d.at (by omega))) ?_
  rintro _ w3 ⟨sa, sc, rfl, so, sf, x3⟩
  have s3 := x3.size
  have d3 := d.ext x3
  have r3 := r2.ext x3
  have g3 : Grow (some rb) w1 w3 := g.trans (x3.grow _)
  have hlen : (ni (sinksOf rows)).length ≤ 49 := by
    rw [ni_len, sinksOf]
    split
    · rename_i hv
      have := ((gvalid_iff rows).1 hv).gd.le
      have := sinksTo_len rows.length (rowLen rows) (hgt rows) (rows.length * rowLen rows)
      omega
    · simp
  have last : ∀ {W : World} {lim : Nat} {K : Value → World → Prop} (f : F), Grow (some rb) w1 W → Drawn W w1.heap.size R a c rows A Cp → Rdr W rb (rb + 1) lim → lim ≤ 1000 → (∀ (k : Nat) W', Grow (some rb) w1 W' → Drawn W' w1.heap.size R a c rows A Cp → (k = 0 ∨ (k : Int) < 27) → K (.int .i64 k) W') →
      callK false Try.prog 68 #[.pointer (some ⟨rb, 0, none⟩), .int .i64 27] K W := by
    intro W lim K f gW dW rW hlim hK
    refine callK_of (by kernel_rfl) (pick_c rb (rb + 1) lim 27 _ rW (by omega) (by omega)) ?_
    rintro _ w5 ⟨k, rfl, hk, g5, r5⟩
    exact hK k w5 (gW.trans g5) (dW.other g5 fun b hb => by simp at hb; omega) hk
  by_cases h0 : (0 : Int) < (ni (sinksOf rows)).length
  · simp (disch := omega) only [go_sem, Nat.reduceEqDiff, ↓reduceIte, Nat.reduceAdd, h0]
    refine callK_of (by kernel_rfl) (pick_c rb _ _ 4 _ r3 (by omega) (by omega)) ?_
    rintro _ w4 ⟨k, rfl, hk, g4, r4⟩
    have s4 := g4.size
    have d4 := d3.other g4 fun b hb => by simp at hb; omega
    by_cases hk0 : (0 : Int) < (k : Int)
    · simp (disch := omega) only [go_sem, Nat.reduceEqDiff, ↓reduceIte, Nat.reduceAdd, hk0]
      refine QR_sch (some rb) (.st 0 (.st 1 (.st 2 (.st 3 (.st 4 (.ef 5 (.st 6 (.st 7 (.st 8 (.st 9 (.done))))))))))) (by kernel_rfl) (by kernel_rfl) fun w5 x5 => ?_
      have s5 := x5.size
      simp (disch := omega) only [go_sem, Nat.reduceEqDiff, ↓reduceIte, Nat.reduceAdd]
      refine callK_of (by kernel_rfl) (pick_c rb _ _ _ _ (r4.ext x5) (by omega) (by omega)) ?_
      rintro _ w6 ⟨j, rfl, hj, g6, r6⟩
      refine nxE_of g6 ?_
      obtain ⟨sb, rfl⟩ := so.some (by omega)
      have hsb := sf sb rfl
      have so6 := (((so.grow g4 fun b hb e => by simp only [blk_some, Option.some.injEq] at hb e; omega).ext x5).grow g6 fun b hb e => by simp only [blk_some, Option.some.injEq] at hb e; omega)
      have cj : w6.cell? ⟨sb, j, none⟩ = some (.int .i64 ((ni (sinksOf rows)).getD j 0)) := by
        rw [so6.cell (by omega), vi_get _ _ (by omega)]
      simp (disch := omega) only [go_sem, Nat.reduceEqDiff, ↓reduceIte, Nat.reduceAdd, cj, Try.results45]
      exact ⟨a, c, rows, A, Cp, _, rfl, ((d4.ext x5).other g6 fun b hb => by simp at hb; omega).at (by omega), (((g3.trans g4).trans (x5.grow _)).trans g6).ext x1 fun b hb => by simp at hb; omega⟩
    · simp (disch := omega) only [go_sem, Nat.reduceEqDiff, ↓reduceIte, Nat.reduceAdd, hk0]
      refine last f (g3.trans g4) d4 r4 (by omega) fun k' W' gW dW hk' => ?_
      simp (disch := omega) only [go_sem, Nat.reduceEqDiff, ↓reduceIte, Nat.reduceAdd, Try.results45]
      exact ⟨a, c, rows, A, Cp, _, rfl, dW.at (by omega), gW.ext x1 fun b hb => by simp at hb; omega⟩
  · simp (disch := omega) only [go_sem, Nat.reduceEqDiff, ↓reduceIte, Nat.reduceAdd, h0]
    refine last f g3 d3 r3 (by omega) fun k' W' gW dW hk' => ?_
    simp (disch := omega) only [go_sem, Nat.reduceEqDiff, ↓reduceIte, Nat.reduceAdd, Try.results45]
    exact ⟨a, c, rows, A, Cp, _, rfl, dW.at (by omega), gW.ext x1 fun b hb => by simp at hb; omega⟩

end Go.Proofs.Ytikmkdoifbjfjaa
