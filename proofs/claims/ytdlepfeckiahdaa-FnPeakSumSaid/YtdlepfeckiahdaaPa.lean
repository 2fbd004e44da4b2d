/- Contracts: ranks and peaks, both sides. -/
import Derived.Test.YtdlepfeckiahdaaWn
import Derived.Test.YtdlepfeckiahdaaWy
import Derived.Test.YtdlepfeckiahdaaJ2
set_option linter.all false
namespace Go.SW
def hiB (h : Nat → Int) (a b : Nat) : Bool := decide (h b < h a ∨ (h a = h b ∧ a < b))
def peakB (R C : Nat) (h : Nat → Int) (i : Nat) : Bool := (nearN R C i).all fun j => !hiB h j i
end Go.SW
namespace Go.Proofs.Ytdlepfeckiahdaa
open Go.RowKit Go.SW

theorem higher_c (R C cb : Nat) (h : Nat → Int) (a b : Nat) (w : World) (hc : CellsAt w cb (R * C) h) (ha : a < R * C) (hb : b < R * C) :
    Ret Try.prog 103 #[.agg #[.int .i64 R, .int .i64 C, .slice (some ⟨cb, 0, none⟩) (R * C) (R * C)], .int .i64 a, .int .i64 b] w fun v w' => v = .bool (hiB h a b) ∧ Ext w w' := by
  refine enter3 Try.func103 rfl (by kernel_rfl) (of_decide_eq_true (by kernel_rfl)) fun f a0 a1 a2 => ?_
  simp only [go_sem, Nat.reduceEqDiff, ↓reduceIte, a0]
  refine boxK_of fun w0 fb eb x0 k0 _ => ?_
  have hc0 := hc.ext x0
  simp (disch := omega) only [go_sem, Nat.reduceEqDiff, ↓reduceIte, Nat.reduceAdd, a1, a2]
  refine QR_of (by kernel_rfl) (by kernel_rfl) ?_
  have ca := hc0 a ha
  have cb' := hc0 b hb
  simp (disch := omega) only [go_sem, Nat.reduceEqDiff, ↓reduceIte, Nat.reduceAdd, a1, a2, k0.cell, Value.cells, ca, cb']
  intro w1 x1
  have k1 := k0.ext x1
  have ca1 := x1.cell ca
  have cb1 := x1.cell cb'
  by_cases he : h a = h b
  · have hne : (h a != h b) = false := by simp [he]
    by_cases hl : (a : Int) < (b : Int)
    · simp (disch := omega) only [go_sem, Nat.reduceEqDiff, ↓reduceIte, Nat.reduceAdd, a1, a2, hne, hl, Try.results103]
      exact ⟨by simp [hiB, he]; omega, x0.trans x1⟩
    · simp (disch := omega) only [go_sem, Nat.reduceEqDiff, ↓reduceIte, Nat.reduceAdd, a1, a2, hne, hl, Try.results103]
      exact ⟨by simp [hiB, he]; omega, x0.trans x1⟩
  · have hne : (h a != h b) = true := by simp [he]
    simp (disch := omega) only [go_sem, Nat.reduceEqDiff, ↓reduceIte, Nat.reduceAdd, a1, a2, hne]
    refine QR_of (by kernel_rfl) (by kernel_rfl) ?_
    by_cases hl : h b < h a
    · simp (disch := omega) only [go_sem, Nat.reduceEqDiff, ↓reduceIte, Nat.reduceAdd, a1, a2, k1.cell, Value.cells, ca1, cb1, hl]
      intro w2 x2
      simp (disch := omega) only [go_sem, Nat.reduceEqDiff, ↓reduceIte, Nat.reduceAdd, Try.results103]
      exact ⟨by simp [hiB, hl], (x0.trans x1).trans x2⟩
    · simp (disch := omega) only [go_sem, Nat.reduceEqDiff, ↓reduceIte, Nat.reduceAdd, a1, a2, k1.cell, Value.cells, ca1, cb1, hl]
      intro w2 x2
      simp (disch := omega) only [go_sem, Nat.reduceEqDiff, ↓reduceIte, Nat.reduceAdd, Try.results103]
      exact ⟨by simp [hiB, hl, he], (x0.trans x1).trans x2⟩

theorem cell_c (R C cb : Nat) (i : Int) (w : World) (hn : R * C ≤ 49) :
    Ret Try.prog 106 #[.agg #[.int .i64 R, .int .i64 C, .slice (some ⟨cb, 0, none⟩) (R * C) (R * C)], .int .i64 i] w fun v w' => v = .bool (decide (0 ≤ i ∧ i < (R * C : Nat))) ∧ Ext w w' := by
  refine enter2 Try.func106 rfl (by kernel_rfl) (of_decide_eq_true (by kernel_rfl)) fun f a0 a1 => ?_
  simp only [go_sem, Nat.reduceEqDiff, ↓reduceIte, a0]
  refine boxK_of fun w0 fb eb x0 k0 _ => ?_
  by_cases h1 : 0 ≤ i <;> by_cases h2 : i < (R * C : Nat) <;>
    (simp (disch := omega) only [go_sem, Nat.reduceEqDiff, ↓reduceIte, Nat.reduceAdd, a1, k0.cell, Value.cells, h1, h2, Try.results106]; exact ⟨by first | trivial | simp [h1, h2], x0⟩)

theorem all_take {l : List Nat} {p : Nat → Bool} {m : Nat} (hm : m < l.length) : (l.take (m + 1)).all p = ((l.take m).all p && p (l.getD m 0)) := by
  rw [List.take_succ_eq_append_getElem hm, List.all_append, getD_at l 0 hm]; simp

theorem peak_c (R C cb : Nat) (h : Nat → Int) (i : Int) (w : World) (g : Gd R C h) (hc : CellsAt w cb (R * C) h) :
    Ret Try.prog 86 #[.agg #[.int .i64 R, .int .i64 C, .slice (some ⟨cb, 0, none⟩) (R * C) (R * C)], .int .i64 i] w fun v w' => v = .bool (decide (0 ≤ i ∧ i < (R * C : Nat)) && peakB R C h i.toNat) ∧ Ext w w' := by
  have hn49 := g.le
  refine enter2 Try.func86 rfl (by kernel_rfl) (of_decide_eq_true (by kernel_rfl)) fun f a0 a1 => ?_
  simp only [go_sem, Nat.reduceEqDiff, ↓reduceIte, a0]
  refine boxK_of fun w0 fb eb x0 k0 _ => ?_
  have k0 : Blk w0 fb #[.int .i64 R, .int .i64 C, .slice (some ⟨cb, 0, none⟩) (R * C) (R * C)] 45 := by simpa [Value.cells] using k0
  have hc0 := hc.ext x0
  simp (disch := omega) only [go_sem, Nat.reduceEqDiff, ↓reduceIte, Nat.reduceAdd, a1, readCells_blk k0 (n := 3) (by simp)]
  refine callK_pure (by kernel_rfl) (cell_c _ _ _ _ _ hn49) fun w1 x1 => ?_
  by_cases hin : 0 ≤ i ∧ i < (R * C : Nat)
  · obtain ⟨n, rfl⟩ : ∃ n : Nat, i = n := ⟨i.toNat, by omega⟩
    have hnn : n < R * C := by omega
    have hd : decide (0 ≤ (n : Int) ∧ (n : Int) < (R * C : Nat)) = true := decide_eq_true hin
    rw [hd, Int.toNat_natCast, Bool.true_and]
    simp (disch := omega) only [go_sem, Nat.reduceEqDiff, ↓reduceIte, Nat.reduceAdd, a1, hd, readCells_blk (k0.ext x1) (n := 3) (by simp)]
    refine callK_of (by kernel_rfl) (neighbors_c _ _ n _ _ g.r7 g.c7 hnn) ?_
    rintro _ w2 ⟨na, nc, rfl, no, -, x2⟩
    have hn4 := nearN_len R C n
    have x12 := x1.trans x2
    simp (disch := omega) only [go_sem, Nat.reduceEqDiff, ↓reduceIte, Nat.reduceAdd]
    refine loopN (nearN R C n).length (fun m f V => f 1 = .int .i64 n ∧ f 2 = .pointer (some ⟨fb, 0, none⟩) ∧ f 13 = .slice na (nearN R C n).length nc ∧ f 14 = .int .i64 (nearN R C n).length ∧ f 15 = .int .i64 m ∧ ((nearN R C n).take m).all (fun j => !hiB h j n) = true ∧ Ext w2 V) ⟨(by first | assumption | (simp only [upd_apply, Nat.reduceEqDiff, ↓reduceIte] <;> first | rfl | assumption) | simp [upd_apply, *]), (by first | assumption | (simp only [upd_apply, Nat.reduceEqDiff, ↓reduceIte] <;> first | rfl | assumption) | simp [upd_apply, *]), (by first | assumption | (simp only [upd_apply, Nat.reduceEqDiff, ↓reduceIte] <;> first | rfl | assumption) | simp [upd_apply, *]), (by first | assumption | (simp only [upd_apply, Nat.reduceEqDiff, ↓reduceIte] <;> first | rfl | assumption) | simp [upd_apply, *]), (by first | assumption | (simp only [upd_apply, Nat.reduceEqDiff, ↓reduceIte] <;> first | rfl | assumption) | simp [upd_apply, *]), by simp, Ext.refl _⟩ fun m f V hm ⟨a1, a2, a13, a14, a15, hall, xm⟩ => ?_
    by_cases hlm : (m : Int) < (nearN R C n).length
    · have hml : m < (nearN R C n).length := by omega
      obtain ⟨nb, rfl⟩ := no.some (by omega)
      have hjk : (nearN R C n).getD m 0 < R * C := nearN_lt hnn _ (getD_mem hml)
      have hjm : (nearN R C n).getD m 0 ∈ nearN R C n := getD_mem hml
      have g0 : V.cell? ⟨nb, m, none⟩ = some (.int .i64 ((nearN R C n).getD m 0 : Nat)) := by rw [(no.ext xm).cell (by omega), vi_get _ _ (by rw [ni_len]; omega), ni_get _ hml]
      have hstep := all_take (l := nearN R C n) (p := fun j => !hiB h j n) hml
      rw [hall, Bool.true_and] at hstep
      generalize (nearN R C n).getD m 0 = j at *
      simp (disch := omega) only [go_sem, Nat.reduceEqDiff, ↓reduceIte, Nat.reduceAdd, a1, a2, a13, a14, a15, hlm, g0, readCells_blk ((k0.ext x12).ext xm) (n := 3) (by simp)]
      refine callK_pure (by kernel_rfl) (higher_c R C cb h j n _ ((hc0.ext x12).ext xm) hjk hnn) fun w3 x3 => ?_
      cases hh : hiB h j n with
      | true =>
        have hp : peakB R C h n = false := by
          cases e : peakB R C h n with
          | false => rfl
          | true => have := List.all_eq_true.1 e j hjm; rw [hh] at this; cases this
        simp (disch := omega) only [go_sem, Nat.reduceEqDiff, ↓reduceIte, Nat.reduceAdd, Try.results86]
        exact ⟨by rw [hp], ((x0.trans x12).trans xm).trans x3⟩
      | false =>
        rw [hh] at hstep
        simp (disch := omega) only [go_sem, Nat.reduceEqDiff, ↓reduceIte, Nat.reduceAdd, a15]
        exact ⟨hml, (by first | assumption | (simp only [upd_apply, Nat.reduceEqDiff, ↓reduceIte] <;> first | rfl | assumption) | simp [upd_apply, *]), (by first | assumption | (simp only [upd_apply, Nat.reduceEqDiff, ↓reduceIte] <;> first | rfl | assumption) | simp [upd_apply, *]), (by first | assumption | (simp only [upd_apply, Nat.reduceEqDiff, ↓reduceIte] <;> first | rfl | assumption) | simp [upd_apply, *]), (by first | assumption | (simp only [upd_apply, Nat.reduceEqDiff, ↓reduceIte] <;> first | rfl | assumption) | simp [upd_apply, *]), (by first | assumption | (simp only [upd_apply, Nat.reduceEqDiff, ↓reduceIte] <;> first | rfl | assumption) | simp [upd_apply, *]), hstep, xm.trans x3⟩
    · obtain rfl : m = (nearN R C n).length := by omega
      rw [List.take_length] at hall
      simp (disch := omega) only [go_sem, Nat.reduceEqDiff, ↓reduceIte, Nat.reduceAdd, a14, a15, hlm, Try.results86]
      exact ⟨by rw [peakB, hall], (x0.trans x12).trans xm⟩
  · have hd : decide (0 ≤ i ∧ i < (R * C : Nat)) = false := decide_eq_false hin
    simp (disch := omega) only [go_sem, Nat.reduceEqDiff, ↓reduceIte, Nat.reduceAdd, hd, Try.results86]
    exact ⟨by rw [Bool.false_and], x0.trans x1⟩

theorem l4Higher_c (gb go gc : Nat) (rb ro rc : Nat → Nat) (R C : Nat) (h : Nat → Int) (a b : Nat) (w : World) (hg : GridAt w gb go rb ro rc R C h) (hR7 : R ≤ 7) (hC7 : C ≤ 7) (ha : a < R * C) (hb : b < R * C) :
    Ret Try.prog 109 #[.slice (some ⟨gb, go, none⟩) R gc, .int .i64 a, .int .i64 b] w fun v w' => v = .bool (hiB h a b) ∧ Ext w w' := by
  refine enter3 Try.func109 rfl (by kernel_rfl) (of_decide_eq_true (by kernel_rfl)) fun f a0 a1 a2 => ?_
  have ea : ((a : Nat) : Int).toNat = a := by omega
  have eb : ((b : Nat) : Int).toNat = b := by omega
  have hh := fun W (e : Ext w W) (i : Nat) (hi : i < R * C) => l2Height_c gb go gc rb ro rc R C h W (hg.ext e) hR7 hC7 (i : Int) (by omega) (by omega)
  simp (disch := omega) only [go_sem, Nat.reduceEqDiff, ↓reduceIte, Nat.reduceAdd, a0, a1]
  refine callK_pure (by kernel_rfl) (hh _ (Ext.refl _) a ha) fun w1 x1 => ?_
  simp (disch := omega) only [go_sem, Nat.reduceEqDiff, ↓reduceIte, Nat.reduceAdd, a0, a2]
  refine callK_pure (by kernel_rfl) (hh _ x1 b hb) fun w2 x2 => ?_
  have x12 := x1.trans x2
  by_cases hl : h b < h a
  · simp (disch := omega) only [go_sem, Nat.reduceEqDiff, ↓reduceIte, Nat.reduceAdd, ea, eb, hl, Try.results109]
    have hv : hiB h a b = true := by simp [hiB, hl]
    rw [hv]
    exact ⟨by first | trivial | rfl | simp only [tup, updO_some, updO_none, upd_apply, Nat.reduceEqDiff, ↓reduceIte], x12⟩
  simp (disch := omega) only [go_sem, Nat.reduceEqDiff, ↓reduceIte, Nat.reduceAdd, a0, a1, ea, eb, hl]
  refine callK_pure (by kernel_rfl) (hh _ x12 a ha) fun w3 x3 => ?_
  simp (disch := omega) only [go_sem, Nat.reduceEqDiff, ↓reduceIte, Nat.reduceAdd, a0, a2]
  refine callK_pure (by kernel_rfl) (hh _ (x12.trans x3) b hb) fun w4 x4 => ?_
  have x14 := (x12.trans x3).trans x4
  by_cases he : h a = h b
  · have hbe : (h a == h b) = true := by simp [he]
    by_cases hab : (a : Int) < (b : Int)
    · simp (disch := omega) only [go_sem, Nat.reduceEqDiff, ↓reduceIte, Nat.reduceAdd, ea, eb, a1, a2, hbe, hab, Try.results109]
      exact ⟨by simp [hiB, he]; omega, x14⟩
    · simp (disch := omega) only [go_sem, Nat.reduceEqDiff, ↓reduceIte, Nat.reduceAdd, ea, eb, a1, a2, hbe, hab, Try.results109]
      exact ⟨by simp [hiB, he]; omega, x14⟩
  · have hbe : (h a == h b) = false := by simp [he]
    simp (disch := omega) only [go_sem, Nat.reduceEqDiff, ↓reduceIte, Nat.reduceAdd, ea, eb, hbe, Try.results109]
    exact ⟨by simp [hiB, he, hl], x14⟩

theorem l4Peak_c (gb go gc : Nat) (rb ro rc : Nat → Nat) (R C : Nat) (h : Nat → Int) (n : Nat) (w : World) (hg : GridAt w gb go rb ro rc R C h) (hR7 : R ≤ 7) (hC7 : C ≤ 7) (hnn : n < R * C) :
    Ret Try.prog 108 #[.slice (some ⟨gb, go, none⟩) R gc, .int .i64 n] w fun v w' => v = .bool (peakB R C h n) ∧ Ext w w' := by
  refine enter2 Try.func108 rfl (by kernel_rfl) (of_decide_eq_true (by kernel_rfl)) fun f a0 a1 => ?_
  simp (disch := omega) only [go_sem, Nat.reduceEqDiff, ↓reduceIte, Nat.reduceAdd, a0, a1]
  refine callK_of (by kernel_rfl) (l2Near_c gb go gc rb ro rc R C h _ hg hR7 hC7 n hnn) ?_
  rintro _ w2 ⟨na, nc, rfl, no, -, x2⟩
  have hn4 := nearN_len R C n
  simp (disch := omega) only [go_sem, Nat.reduceEqDiff, ↓reduceIte, Nat.reduceAdd]
  refine loopN (nearN R C n).length (fun m f V => f 0 = .slice (some ⟨gb, go, none⟩) R gc ∧ f 1 = .int .i64 n ∧ f 5 = .slice na (nearN R C n).length nc ∧ f 6 = .int .i64 m ∧ ((nearN R C n).take m).all (fun j => !hiB h j n) = true ∧ Ext w2 V) ⟨(by first | assumption | (simp only [upd_apply, Nat.reduceEqDiff, ↓reduceIte] <;> first | rfl | assumption) | simp [upd_apply, *]), (by first | assumption | (simp only [upd_apply, Nat.reduceEqDiff, ↓reduceIte] <;> first | rfl | assumption) | simp [upd_apply, *]), (by first | assumption | (simp only [upd_apply, Nat.reduceEqDiff, ↓reduceIte] <;> first | rfl | assumption) | simp [upd_apply, *]), (by first | assumption | (simp only [upd_apply, Nat.reduceEqDiff, ↓reduceIte] <;> first | rfl | assumption) | simp [upd_apply, *]), by simp, Ext.refl _⟩ fun m f V hm ⟨a0, a1, a5, a6, hall, xm⟩ => ?_
  by_cases hlm : (m : Int) < (nearN R C n).length
  · have hml : m < (nearN R C n).length := by omega
    obtain ⟨nb, rfl⟩ := no.some (by omega)
    have hjk : (nearN R C n).getD m 0 < R * C := nearN_lt hnn _ (getD_mem hml)
    have hjm : (nearN R C n).getD m 0 ∈ nearN R C n := getD_mem hml
    have g0 : V.cell? ⟨nb, m, none⟩ = some (.int .i64 ((nearN R C n).getD m 0 : Nat)) := by rw [(no.ext xm).cell (by omega), vi_get _ _ (by rw [ni_len]; omega), ni_get _ hml]
    have hstep := all_take (l := nearN R C n) (p := fun j => !hiB h j n) hml
    rw [hall, Bool.true_and] at hstep
    generalize (nearN R C n).getD m 0 = j at *
    simp (disch := omega) only [go_sem, Nat.reduceEqDiff, ↓reduceIte, Nat.reduceAdd, a0, a1, a5, a6, hlm, g0]
    refine callK_pure (by kernel_rfl) (l4Higher_c gb go gc rb ro rc R C h j n _ ((hg.ext x2).ext xm) hR7 hC7 hjk hnn) fun w3 x3 => ?_
    cases hh : hiB h j n with
    | true =>
      have hp : peakB R C h n = false := by
        cases e : peakB R C h n with
        | false => rfl
        | true => have := List.all_eq_true.1 e j hjm; rw [hh] at this; cases this
      simp (disch := omega) only [go_sem, Nat.reduceEqDiff, ↓reduceIte, Nat.reduceAdd, Try.results108]
      exact ⟨by rw [hp], (x2.trans xm).trans x3⟩
    | false =>
      rw [hh] at hstep
      simp (disch := omega) only [go_sem, Nat.reduceEqDiff, ↓reduceIte, Nat.reduceAdd, a6]
      exact ⟨hml, (by first | assumption | (simp only [upd_apply, Nat.reduceEqDiff, ↓reduceIte] <;> first | rfl | assumption) | simp [upd_apply, *]), (by first | assumption | (simp only [upd_apply, Nat.reduceEqDiff, ↓reduceIte] <;> first | rfl | assumption) | simp [upd_apply, *]), (by first | assumption | (simp only [upd_apply, Nat.reduceEqDiff, ↓reduceIte] <;> first | rfl | assumption) | simp [upd_apply, *]), (by first | assumption | (simp only [upd_apply, Nat.reduceEqDiff, ↓reduceIte] <;> first | rfl | assumption) | simp [upd_apply, *]), hstep, xm.trans x3⟩
  · obtain rfl : m = (nearN R C n).length := by omega
    rw [List.take_length] at hall
    simp (disch := omega) only [go_sem, Nat.reduceEqDiff, ↓reduceIte, Nat.reduceAdd, a5, a6, hlm, Try.results108]
    exact ⟨by rw [peakB, hall], x2.trans xm⟩
end Go.Proofs.Ytdlepfeckiahdaa
