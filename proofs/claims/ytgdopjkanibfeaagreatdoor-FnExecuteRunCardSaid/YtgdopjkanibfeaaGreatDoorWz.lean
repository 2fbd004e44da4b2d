/- Contracts: the water functions of the program, second part. -/
import Derived.Test.YtgdopjkanibfeaaGreatDoorWy
import Derived.Test.YtgdopjkanibfeaaGreatDoorM2
set_option linter.all false
set_option maxRecDepth 20000
namespace Go.SW
def runOf (rows : List (List Int)) (r c : Int) : List Nat := if cellok rows r c = true then waterN rows.length (rowLen rows) (hgt rows) (r.toNat * rowLen rows + c.toNat) else []
end Go.SW
namespace Go.Proofs.YtgdopjkanibfeaaGreatDoor
open Go.RowKit Go.SW

theorem got_bad (w w' : World) (x : Ext w w') : Got w w' (ni []) false (.tuple #[.slice none 0 0, .bool false]) := ⟨none, 0, rfl, OwnS.nil _ _ _, fun b hb => (by cases hb), x⟩

theorem waterRun_c (a : Option Addr) (rows : List (List Int)) (A : Nat → Option Addr) (Cp : Nat → Nat) (gc : Nat) (r c : Int) (w : World) (hr : RowsAt w a rows A Cp) :
    Ret Tryz.prog 17 #[.slice a rows.length gc, .int .i64 r, .int .i64 c] w fun v w' => Got w w' (ni (runOf rows r c)) (cellok rows r c) v := by
  refine enterD3 (y := false) Tryz.func17 rfl (by kernel_rfl) (of_decide_eq_true (by kernel_rfl)) fun f a0 a1 a2 => ?_
  simp (disch := omega) only [go_sem, Nat.reduceEqDiff, ↓reduceIte, Nat.reduceAdd, a0]
  refine callK_of (by kernel_rfl) (fieldOf_c _ _ _ _ _ _ hr) ?_
  rintro _ w2 ⟨x2, (⟨hvt, cb, rfl, hcb, o⟩ | ⟨hv', rfl⟩)⟩
  rotate_left
  · simp (disch := omega) only [go_sem, Nat.reduceEqDiff, ↓reduceIte, Nat.reduceAdd]
    refine allocK_of zero_f fun w3 fb _ x3 k3 _ => ?_
    simp (disch := omega) only [go_sem, Nat.reduceEqDiff, ↓reduceIte, Nat.reduceAdd]
    refine stK_agg siz_f (by simp) (by simp [Value.oneCell']) k3 (by simp) fun w4 k4 g4 => ?_
    have x4 : Ext w w4 := g4.ext (x2.trans x3) (by have := x2.size; omega)
    have hv : gvalid rows = false := hv'
    simp (disch := omega) only [go_sem, Nat.reduceEqDiff, ↓reduceIte, Nat.reduceAdd]
    refine ⟨trivial, fun w' hw _ => ?_⟩
    rw [hw rfl]
    simp (disch := omega) only [go_sem, Nat.reduceEqDiff, ↓reduceIte, Nat.reduceAdd, Tryz.results17]
    have hok : cellok rows r c = false := by simp [cellok, hv]
    simpa [runOf, hok] using got_bad w w4 x4
  have hv : gvalid rows = true := hvt
  have v := (gvalid_iff rows).1 hv
  have g := v.gd
  have hn49 := g.le
  simp (disch := omega) only [go_sem, Nat.reduceEqDiff, ↓reduceIte, Nat.reduceAdd]
  refine allocK_of zero_f fun w3 fb _ x3 k3 _ => ?_
  simp (disch := omega) only [go_sem, Nat.reduceEqDiff, ↓reduceIte, Nat.reduceAdd]
  refine stK_agg siz_f (by simp) (by simp [Value.oneCell']) k3 (by simp) fun w4 kb g4 => ?_
  have s2 := x2.size
  have s3 := x3.size
  have x4 : Ext w w4 := g4.ext (x2.trans x3) (by omega)
  have s4 := x4.size
  have hc : CellsAt w4 cb (rows.length * rowLen rows) (hgt rows) := fun i hi => by
    have := ((o.cellsAt.ext x3).grow g4.grow (by have := o.cellsAt.lt g.pos; simp; omega)) i hi
    simpa only [hs_get rows i hi] using this
  simp (disch := omega) only [go_sem, Nat.reduceEqDiff, ↓reduceIte, Nat.reduceAdd, a1, a2, readCells_blk kb (n := 3) (by simp)]
  refine callK_pure (by kernel_rfl) (has_c _ _ _ _ _ _) fun w5 x5 => ?_
  have kb := kb.ext x5
  have hc := hc.ext x5
  by_cases hh : 0 ≤ r ∧ r < (rows.length : Int) ∧ 0 ≤ c ∧ c < (rowLen rows : Int)
  case neg =>
    have hok : cellok rows r c = false := by simp only [cellok, hv, decide_eq_false hh, Bool.true_and]
    simp (disch := omega) only [go_sem, Nat.reduceEqDiff, ↓reduceIte, Nat.reduceAdd, hh]
    refine ⟨trivial, fun w' hw _ => ?_⟩
    rw [hw rfl]
    simp (disch := omega) only [go_sem, Nat.reduceEqDiff, ↓reduceIte, Nat.reduceAdd, Tryz.results17]
    simpa [runOf, hok] using got_bad w w5 (x4.trans x5)
  have hok : cellok rows r c = true := by simp [cellok, hv, hh]
  obtain ⟨rn, cn, rfl, rfl, h1, h2, h3⟩ := cell_idx hok
  have hr7 := g.r7
  have hc7 := g.c7
  have s5 := x5.size
  simp only [go_sem, Nat.reduceEqDiff, ↓reduceIte, hh, and_self]
  refine bslK_0 elt_i fun w6 b6 e6 x6 o6 _ => ?_
  have s6 := x6.size
  simp (disch := omega) only [go_sem, Nat.reduceEqDiff, ↓reduceIte, Nat.reduceAdd]
  refine allocK_of zero_i fun w7 lb e7 x7 k7 _ => ?_
  have s7 := x7.size
  simp (disch := omega) only [go_sem, Nat.reduceEqDiff, ↓reduceIte, Nat.reduceAdd]
  refine stK_blk siz_i (by rfl) (by rfl) k7 (by simp) fun w8 k8 g8 => ?_
  have k8 : Blk w8 lb #[.slice (some ⟨b6, 0, none⟩) 0 0] 25 := by simpa using k8
  have hfb := kb.lt
  have kb8 := g8.grow.blk ((kb.ext x6).ext x7) (by simp; omega)
  have hc8 : CellsAt w8 cb _ _ := fun i hi => g8.grow.cell (((hc.ext x6).ext x7) i hi) (by have := hc.lt g.pos; simp; omega)
  have x8 : Ext w w8 := g8.ext (((x4.trans x5).trans x6).trans x7) (by omega)
  have o8 := (o6.ext x7).grow g8.grow (by simp [blk]; omega)
  simp (disch := omega) only [go_sem, Nat.reduceEqDiff, ↓reduceIte, Nat.reduceAdd, a1, a2]
  refine drawD ?_ (of_decide_eq_true (by kernel_rfl))
  refine QR_tail 5 (by kernel_rfl) (by kernel_rfl) ?_
  simp (disch := omega) only [go_sem, Nat.reduceEqDiff, ↓reduceIte, Nat.reduceAdd, a1, a2, readCells_blk kb8 (n := 3) (by simp)]
  refine callK_q (by kernel_rfl) (fun w' e => index_c _ _ _ _ _ rn cn _ (by omega) (by omega) (by omega)) ?_
  simp (disch := omega) only [go_sem, Nat.reduceEqDiff, ↓reduceIte, Nat.reduceAdd]
  intro w9 x9
  refine callK_of (by kernel_rfl) (run_c rows.length (rowLen rows) cb _ _) ?_
  rintro _ w10 ⟨ib, rb, rfl, kI, kF, hib, hrb, x10⟩
  have xw := (x8.trans x9).trans x10
  have s9 := x9.size
  have s10 := x10.size
  have s8 := x8.size
  have h8 := k8.lt
  have k10 := (k8.ext x9).ext x10
  have o10 := (o8.ext x9).ext x10
  simp (disch := omega) only [go_sem, Nat.reduceEqDiff, ↓reduceIte, Nat.reduceAdd]
  have hcbl := hc.lt g.pos
  have hcb10 : cb < w10.heap.size := by omega
  have hc10 : CellsAt w10 cb _ _ := (hc8.ext x9).ext x10
  refine rangeD1 (by decide) (by simp [ev, upd_apply]) (by kernel_rfl)
    (fun pre W => Ext w W ∧ (∃ a c, Blk W lb #[.slice a pre.length c] 25 ∧ OwnS W 3 1 a pre.length c (vi pre) ∧ (∀ b, blk a = some b → w.heap.size ≤ b ∧ b ≠ lb ∧ b ≠ ib ∧ b ≠ rb ∧ b ≠ cb)) ∧ RunIn W rows.length (rowLen rows) cb ib rb (rn * rowLen rows + cn) (hgt rows) ∧ w10.heap.size ≤ W.heap.size)
    (fun x f' => f' 10 = .pointer (some ⟨lb, 0, none⟩) ∧ f' 11 = .int .i64 x) _ (run1_c rows.length (rowLen rows) cb ib rb _ (hgt rows) g h3)
    (fun pre W ⟨e, _, k, _⟩ => k)
    (fun pre ob A B ⟨e, ⟨a, c, j1, j2, j3⟩, ⟨j4, j5, j6⟩, j7⟩ gg r => ⟨r.ext gg e xw.size, ⟨a, c, r.blk gg j1, r.own gg j2, j3⟩, ⟨r.blk gg j4, r.blk gg j5, fun i hi => r.cell gg (j6 i hi)⟩, Nat.le_trans j7 gg.size⟩)
    ⟨xw, ⟨_, _, k10, by simpa [vi] using o10, fun b hb => by simp [blk] at hb; omega⟩, ⟨kI, kF, hc10⟩, Nat.le_refl _⟩ ?_ ?_ ?_
  · intro Fc hF x W K hK
    simp (disch := omega) only [go_sem, Nat.reduceEqDiff, ↓reduceIte, Nat.reduceAdd]
    exact ⟨trivial, hK _ ⟨(by first | assumption | (simp only [upd_apply, Nat.reduceEqDiff, ↓reduceIte] <;> first | rfl | assumption) | simp [upd_apply, *]), (by first | assumption | (simp only [upd_apply, Nat.reduceEqDiff, ↓reduceIte] <;> first | rfl | assumption) | simp [upd_apply, *])⟩⟩
  · rintro Fc hF pre x f' W ⟨a10, a11⟩ ⟨e, ⟨a, c, j1, j2, j3⟩, ⟨j4, j5, j6⟩, j7⟩ hp
    have hpl := hp.length_le
    have hwl := waterN_len g _ h3
    have hhi := g.hh _ h3
    rw [ni_len] at hpl
    simp only [List.length_append, List.length_singleton] at hpl
    have l1 := j1.lt
    have l4 := j4.lt
    have l5 := j5.lt
    simp (disch := omega) only [go_sem, Nat.reduceEqDiff, ↓reduceIte, Nat.reduceAdd, a10, a11, j1.cell]
    refine bslK_1 elt_i rfl fun W1 b1 e1 y1 q1 _ => ?_
    simp (disch := omega) only [go_sem, Nat.reduceEqDiff, ↓reduceIte, Nat.reduceAdd]
    refine appK_1 elt_i (j2.ext y1) q1 rfl (by omega) (.inl (by decide)) fun W2 a2 c2 o2 g2 h2 => ?_
    have t1 := y1.size
    have t2 := g2.size
    have n1 := g2.blk (j1.ext y1) (fun e => (j3 _ e).2.1 rfl)
    simp (disch := omega) only [go_sem, Nat.reduceEqDiff, ↓reduceIte, Nat.reduceAdd, a10]
    refine stK_blk siz_i (by rfl) (by rfl) n1 (by simp) fun W3 q3 g3 => ?_
    have x3 : Ext w W3 := g3.ext (g2.ext (e.trans y1) fun b hb => (j3 b hb).1) (by omega)
    simp (disch := omega) only [go_sem, Nat.reduceEqDiff, ↓reduceIte, Nat.reduceAdd]
    refine ⟨⟨x3, ⟨a2, c2, by simpa using q3, ?_, fun b hb => ?_⟩, ⟨g3.grow.blk (g2.blk (j4.ext y1) fun e => (j3 _ e).2.2.1 rfl) (by simp; omega), g3.grow.blk (g2.blk (j5.ext y1) fun e => (j3 _ e).2.2.2.1 rfl) (by simp; omega), fun i hi => g3.grow.cell (g2.cell (j6.ext y1 i hi) fun e => (j3 _ e).2.2.2.2 rfl) (by have := hc.lt g.pos; simp; omega)⟩, ?_⟩, ?_⟩
    · have := o2.grow g3.grow (fun b hb e => by
        simp only [Option.some.injEq] at e; subst e
        rcases h2 _ hb with h | h
        · exact (j3 _ h).2.1 rfl
        · omega)
      rw [vi_snoc] at this
      simpa using this
    · rcases h2 b hb with h | h
      · exact j3 b h
      · have := e.size; exact ⟨by omega, by omega, by omega, by omega, by omega⟩
    · have := g3.grow.size; omega
    · exact (y1.nk.trans (g2.nk (j2.ext y1).cells)).trans (g3.grow.nk fun b hb => by cases hb; exact n1.cells)
  · rintro W ⟨e, ⟨a, c, j1, j2, j3⟩, -, j7⟩ hd hlt
    simp (disch := omega) only [go_sem, Nat.reduceEqDiff, ↓reduceIte, Nat.reduceAdd, j1.cell]
    refine ⟨Marks.cons trivial trivial xw.size hd, fun w' _ off => ?_⟩
    simp (disch := omega) only [go_sem, Nat.reduceEqDiff, ↓reduceIte, Nat.reduceAdd, Tryz.results17]
    have er : runOf rows rn cn = waterN rows.length (rowLen rows) (hgt rows) (rn * rowLen rows + cn) := by simp [runOf, hok]
    rw [er, hok]
    exact ⟨a, c, rfl, off.own j2, fun b hb => (j3 b hb).1, off.ext e (Nat.le_refl _)⟩

end Go.Proofs.YtgdopjkanibfeaaGreatDoor
