/- Piles of cells: contracts of put and take. -/
import Derived.Test.YtdlepfeckiahdaaPa
import Derived.Test.YtdlepfeckiahdaaMh
import Derived.Test.YtdlepfeckiahdaaJ4
set_option linter.all false
namespace Go.SW
open Go Go.RowKit
/-- Blocks of S alone have been written, of those that were there. -/
structure GrowS (S : Nat → Prop) (w w' : World) : Prop where
  os : w'.os = w.os
  tape : w'.tape = w.tape
  output : w'.output = w.output
  size : w.heap.size ≤ w'.heap.size
  other : ∀ b, b < w.heap.size → ¬ S b → w'.heap[b]? = w.heap[b]?
theorem GrowS.refl (S : Nat → Prop) (w : World) : GrowS S w w := ⟨rfl, rfl, rfl, Nat.le_refl _, fun _ _ _ => rfl⟩
theorem GrowS.trans {S T : Nat → Prop} {a b c : World} (h : GrowS S a b) (k : GrowS T b c) (hT : ∀ i, i < a.heap.size → T i → S i) : GrowS S a c :=
  ⟨k.os.trans h.os, k.tape.trans h.tape, k.output.trans h.output, Nat.le_trans h.size k.size, fun i hi hs => (k.other i (Nat.lt_of_lt_of_le hi h.size) fun ht => hs (hT i hi ht)).trans (h.other i hi hs)⟩
theorem Grow.toS {ob : Option Nat} {w w' : World} (g : Grow ob w w') : GrowS (fun b => ob = some b) w w' := ⟨g.os, g.tape, g.output, g.size, fun b hb hs => g.other b hb hs⟩
theorem Ext.toS {w w' : World} (e : Ext w w') (S : Nat → Prop) : GrowS S w w' := ⟨e.os, e.tape, e.output, Below.size e, fun b hb _ => Below.block e b hb⟩
theorem GrowS.own {S : Nat → Prop} {w w' : World} (g : GrowS S w w') {e s n c : Nat} {a : Option Addr} {xs : List Value} (o : OwnS w e s a n c xs) (h : ∀ b, blk a = some b → ¬ S b) : OwnS w' e s a n c xs :=
  o.kept fun b hb => g.other b (o.blk_lt hb) (h b hb)
theorem GrowS.blk {S : Nat → Prop} {w w' : World} (g : GrowS S w w') {b : Nat} {cs : Array Value} {T : TypeId} (k : Blk w b cs T) (h : ¬ S b) : Blk w' b cs T := by
  unfold Blk; rw [g.other b k.lt h]; exact k
theorem GrowS.cells {S : Nat → Prop} {w w' : World} (g : GrowS S w w') {cb n : Nat} {h : Nat → Int} (c : CellsAt w cb n h) (hs : ¬ S cb) : CellsAt w' cb n h := fun i hi => by
  have hc := c i hi
  rw [World.cell?_of_block (g.other cb (World.block_lt_of_cell? w _ hc) hs)]; exact hc
theorem GrowS.ext {S : Nat → Prop} {w0 w w' : World} (g : GrowS S w w') (e : Ext w0 w) (h : ∀ b, S b → w0.heap.size ≤ b) : Ext w0 w' :=
  Below.trans e ⟨g.os, g.tape, g.output, g.size, fun k hk => g.other k (Nat.lt_of_lt_of_le hk e.size) (fun hs => by have := h k hs; omega)⟩
end Go.SW
namespace Go.SW
theorem hiB_ahead (h : Nat → Int) : Ahead (hiB h) := by
  refine ⟨fun a b e => ?_, fun a b c e1 e2 => ?_⟩
  · simp only [hiB, decide_eq_true_eq, decide_eq_false_iff_not] at *; omega
  · simp only [hiB, decide_eq_false_iff_not] at *; omega
end Go.SW
namespace Go.Proofs.Ytdlepfeckiahdaa
open Go.RowKit Go.SW
theorem aggN_p : aggN Try.prog 80 = some 2 := by kernel_rfl
theorem scal_p : scal Try.prog 80 = false := by kernel_rfl
theorem foff_p0 : foff Try.prog 80 0 = some 0 := by kernel_rfl
theorem foff_p1 : foff Try.prog 80 1 = some 1 := by kernel_rfl
theorem scal_fn : scal Try.prog 78 = true := by kernel_rfl
attribute [go_sem] scal_fn aggN_p scal_p foff_p0 foff_p1

/-- The function value f.higher. -/
def fvH (R C cb : Nat) : Value := .func (.func 103) #[.agg #[.int .i64 R, .int .i64 C, .slice (some ⟨cb, 0, none⟩) (R * C) (R * C)]] #[]
/-- A pile in memory. -/
def PileAt (w : World) (pb : Nat) (fv : Value) (a : Option Addr) (c n : Nat) (L : Nat → Nat) : Prop := Blk w pb #[fv, .slice a n c] 80 ∧ OwnS w 3 1 a n c (vi (ni ((List.range n).map L))) ∧ blk a ≠ some pb
theorem put_c (R C cb : Nat) (h : Nat → Int) (pb : Nat) (a : Option Addr) (c n : Nat) (L : Nat → Nat) (x : Nat) (w : World) (p : PileAt w pb (fvH R C cb) a c n L) (hc : CellsAt w cb (R * C) h) (hcp : cb ≠ pb) (hca : blk a ≠ some cb) (hL : ∀ k, k < n → L k < R * C) (hx : x < R * C) (hp : Heap (hiB h) n L) (hn : n ≤ 1000) :
    Ret Try.prog 104 #[.pointer (some ⟨pb, 0, none⟩), .int .i64 x] w fun _ w' => ∃ a' c' L', PileAt w' pb (fvH R C cb) a' c' (n + 1) L' ∧ Heap (hiB h) (n + 1) L' ∧ (∀ y, bag (n + 1) L' y = bag n L y + if x = y then 1 else 0) ∧
      (∀ b, blk a' = some b → blk a = some b ∨ w.heap.size ≤ b) ∧ GrowS (fun b => b = pb ∨ blk a = some b) w w' := by
  obtain ⟨pk, po, pne⟩ := p
  refine enter2 Try.func104 rfl (by kernel_rfl) (of_decide_eq_true (by kernel_rfl)) fun f a0 a1 => ?_
  simp (disch := omega) only [go_sem, Nat.reduceEqDiff, ↓reduceIte, Nat.reduceAdd, a0, a1, pk.cell]
  refine bslK_1 elt_i rfl fun w1 b1 e1 x1 k1 _ => ?_
  simp (disch := omega) only [go_sem, Nat.reduceEqDiff, ↓reduceIte, Nat.reduceAdd]
  refine appK_1 elt_i (po.ext x1) k1 rfl (by omega) (.inl (by decide)) fun w2 a2 c2 o2 g2 h2 => ?_
  have s1 := x1.size
  have pl := pk.lt
  have pk2 := g2.blk (pk.ext x1) (by intro e; exact pne e)
  simp (disch := omega) only [go_sem, Nat.reduceEqDiff, ↓reduceIte, Nat.reduceAdd]
  refine stK_blk siz_i (by rfl) (by rfl) pk2 (by simp) fun w3 pk3 g3 => ?_
  have pk3 : Blk w3 pb #[fvH R C cb, .slice a2 (n + 1) c2] 80 := by simpa using pk3
  have hne2 : blk a2 ≠ some pb := fun e => by
    rcases h2 pb e with h | h
    · exact pne h
    · omega
  have eL : vi (ni ((List.range n).map L)) ++ [.int .i64 (x : Int)] = vi (ni ((List.range (n + 1)).map fun k => if k = n then x else L k)) := by
    rw [vi_ni_snoc _ x _ rfl, List.range_succ, List.map_append]
    congr 2
    have : (List.range n).map L = (List.range n).map fun k => if k = n then x else L k := List.map_congr_left fun k hk => by
      have := List.mem_range.1 hk; rw [if_neg (by omega)]
    rw [this]; simp
  rw [eL] at o2
  have o3 := o2.grow g3.grow (fun b hb e => by cases e; exact hne2 hb)
  have gs3 : GrowS (fun b => b = pb ∨ blk a = some b) w w3 := ((x1.toS _).trans g2.toS (fun i _ h => .inr h)).trans g3.grow.toS (fun i _ h => .inl (by simpa using h.symm))
  have hcb2 : blk a2 ≠ some cb := fun e => by
    rcases h2 cb e with h | h
    · exact hca h
    · have := hc.lt (by omega); omega
  have hc3 := gs3.cells hc (fun h => by rcases h with h | h; exact hcp h; exact hca h)
  simp (disch := omega) only [go_sem, Nat.reduceEqDiff, ↓reduceIte, Nat.reduceAdd, a0, pk3.cell]
  refine loopX (fun m f W => f 0 = .pointer (some ⟨pb, 0, none⟩) ∧ ∃ (i : Nat) (M : Nat → Nat), m = i ∧ i ≤ n ∧ f 4 = .int .i64 i ∧ PileAt W pb (fvH R C cb) a2 c2 (n + 1) M ∧ UpInv (hiB h) (n + 1) M i ∧ (∀ y, bag (n + 1) M y = bag n L y + if x = y then 1 else 0) ∧ (∀ k, k < n + 1 → M k < R * C) ∧ CellsAt W cb (R * C) h ∧ GrowS (fun b => b = pb ∨ blk a2 = some b) w3 W) n ⟨by simp [upd_apply, a0], n, _, rfl, Nat.le_refl _, by simp [upd_apply], ⟨pk3, o3, hne2⟩, UpInv.start hp x, fun y => bag_put n L x y, fun k hk => ?_, hc3, GrowS.refl _ _⟩ fun m f W ⟨a0, i, M, hm, hin, a4, ⟨pkW, oW, neW⟩, uW, bW, lW, cW, gW⟩ => ?_
  · split
    · exact hx
    · exact hL k (by omega)
  subst hm
  have h2' : ∀ b, blk a2 = some b → blk a = some b ∨ w.heap.size ≤ b := fun b hb => (h2 b hb).imp id fun h => by omega
  obtain ⟨ub, rfl⟩ := oW.some (by omega)
  by_cases h0 : (0 : Int) < (m : Int)
  · have hq : ((m : Int) - 1) / 2 = (((m - 1) / 2 : Nat) : Int) := by omega
    have ci : W.cell? ⟨ub, m, none⟩ = some (.int .i64 (M m : Nat)) := by rw [oW.cell (by omega)]; exact vi_range_get M (by omega)
    have cp : W.cell? ⟨ub, (m - 1) / 2, none⟩ = some (.int .i64 (M ((m - 1) / 2) : Nat)) := by rw [oW.cell (by omega)]; exact vi_range_get M (by omega)
    simp (disch := omega) only [go_sem, Nat.reduceEqDiff, ↓reduceIte, Nat.reduceAdd, a0, a4, h0, hq]
    refine QR_of (by kernel_rfl) (by kernel_rfl) ?_
    simp (disch := omega) only [go_sem, Nat.reduceEqDiff, ↓reduceIte, Nat.reduceAdd, a0, a4, pkW.cell, ci, cp, fvH]
    refine callK_q (by kernel_rfl) (fun w' e => higher_c R C cb h (M m) (M ((m - 1) / 2)) _ (cW.ext e) (lW _ (by omega)) (lW _ (by omega))) ?_
    simp (disch := omega) only [go_sem, Nat.reduceEqDiff, ↓reduceIte, Nat.reduceAdd]
    intro W1 y1
    replace pkW := pkW.ext y1
    replace oW := oW.ext y1
    replace cW := cW.ext y1
    replace ci := y1.cell ci
    replace cp := y1.cell cp
    replace gW : GrowS (fun b => b = pb ∨ blk (some ⟨ub, 0, none⟩) = some b) w3 W1 := gW.trans (y1.toS _) fun _ _ h => h
    cases hh : hiB h (M m) (M ((m - 1) / 2)) with
    | false =>
      simp (disch := omega) only [go_sem, Nat.reduceEqDiff, ↓reduceIte, Nat.reduceAdd, Try.results104]
      exact ⟨_, c2, M, ⟨pkW, oW, neW⟩, uW.done (.inr hh), bW, h2', gs3.trans gW fun i hi hs => by
        rcases hs with hs | hs
        · exact .inl hs
        · rcases h2 i hs with h' | h'
          · exact .inr h'
          · omega⟩
    | true =>
      simp (disch := omega) only [go_sem, Nat.reduceEqDiff, ↓reduceIte, Nat.reduceAdd]
      refine QR_sch (some ub) (.st 0 (.st 1 (.st 2 (.st 3 (.st 4 (.st 5 (.st 6 (.st 7 (.st 8 (.st 9 (.st 10 (.st 11 (.st 12 (.st 13 (.st 14 (.st 15 (.st 17 (.st 18 (.st 19 (.st 20 (.st 21 (.st 22 (.alt (.ef 16 (.ef 23 (.st 24 (.ef 25 (.st 26 (.fin 27 (.done))))))) (.ef 23 (.ef 16 (.st 24 (.ef 25 (.st 26 (.fin 27 (.done)))))))))))))))))))))))))))))) (by kernel_rfl) (by kernel_rfl) fun w5 x5 => ?_
      have neW' : ub ≠ pb := by simpa [blk] using neW
      have pk5 := pkW.ext x5
      have o5 := oW.ext x5
      have ci5 := x5.cell ci
      have cp5 := x5.cell cp
      simp (disch := omega) only [go_sem, Nat.reduceEqDiff, ↓reduceIte, Nat.reduceAdd, a0, a4, pk5.cell]
      refine RLT_alt ?_ ?_
      · simp (disch := omega) only [go_sem, Nat.reduceEqDiff, ↓reduceIte, Nat.reduceAdd, ci5, cp5]
        refine nxE_of (Grow.refl _ _) ?_
        simp (disch := omega) only [go_sem, Nat.reduceEqDiff, ↓reduceIte, Nat.reduceAdd, ci5, cp5]
        refine nxE_of (Grow.refl _ _) ?_
        simp (disch := omega) only [go_sem, Nat.reduceEqDiff, ↓reduceIte, Nat.reduceAdd]
        refine stK_own siz_int (by rfl) (by rfl) o5 (by omega) fun w6 o6 g6 => nxE_of g6.grow ?_
        rw [vi_range_set (n := n + 1) (x := m) (f := M) (g := fun k => if k = m then M ((m - 1) / 2) else M k) (by omega) (by simp) (fun j hj hne => by simp [hne])] at o6
        simp (disch := omega) only [go_sem, Nat.reduceEqDiff, ↓reduceIte, Nat.reduceAdd]
        refine stK_own siz_int (by rfl) (by rfl) o6 (by omega) fun w7 o7 g7 => ?_
        rw [vi_range_set (n := n + 1) (x := (m - 1) / 2) (f := fun k => if k = m then M ((m - 1) / 2) else M k) (g := swp M m ((m - 1) / 2)) (by omega) (by rw [(swp_at M m ((m - 1) / 2)).2]) (fun j hj hne => by simp [swp, hne])] at o7
        have gg : Grow (some ub) W1 w7 := ((x5.grow _).trans g6.grow).trans g7.grow
        simp (disch := omega) only [go_sem, Nat.reduceEqDiff, ↓reduceIte, Nat.reduceAdd]
        refine ⟨(m - 1) / 2, by omega, by simp [upd_apply, a0], (m - 1) / 2, swp M m ((m - 1) / 2), rfl, by omega, by simp [upd_apply], ⟨gg.blk pkW (by simpa [blk] using neW), o7, neW⟩, uW.step (hiB_ahead h) (by omega) (by omega) hh, fun y => by rw [bag_swp M (by omega) (by omega)]; exact bW y, fun k hk => ?_, cW.grow gg (by simpa [blk] using hcb2), gW.trans gg.toS fun i _ h => .inr (by simpa [blk] using h)⟩
        simp only [swp]
        split
        · exact lW _ (by omega)
        · split
          · exact lW _ (by omega)
          · exact lW _ hk
      · simp (disch := omega) only [go_sem, Nat.reduceEqDiff, ↓reduceIte, Nat.reduceAdd, ci5, cp5]
        refine nxE_of (Grow.refl _ _) ?_
        simp (disch := omega) only [go_sem, Nat.reduceEqDiff, ↓reduceIte, Nat.reduceAdd, ci5, cp5]
        refine nxE_of (Grow.refl _ _) ?_
        simp (disch := omega) only [go_sem, Nat.reduceEqDiff, ↓reduceIte, Nat.reduceAdd]
        refine stK_own siz_int (by rfl) (by rfl) o5 (by omega) fun w6 o6 g6 => nxE_of g6.grow ?_
        rw [vi_range_set (n := n + 1) (x := m) (f := M) (g := fun k => if k = m then M ((m - 1) / 2) else M k) (by omega) (by simp) (fun j hj hne => by simp [hne])] at o6
        simp (disch := omega) only [go_sem, Nat.reduceEqDiff, ↓reduceIte, Nat.reduceAdd]
        refine stK_own siz_int (by rfl) (by rfl) o6 (by omega) fun w7 o7 g7 => ?_
        rw [vi_range_set (n := n + 1) (x := (m - 1) / 2) (f := fun k => if k = m then M ((m - 1) / 2) else M k) (g := swp M m ((m - 1) / 2)) (by omega) (by rw [(swp_at M m ((m - 1) / 2)).2]) (fun j hj hne => by simp [swp, hne])] at o7
        have gg : Grow (some ub) W1 w7 := ((x5.grow _).trans g6.grow).trans g7.grow
        simp (disch := omega) only [go_sem, Nat.reduceEqDiff, ↓reduceIte, Nat.reduceAdd]
        refine ⟨(m - 1) / 2, by omega, by simp [upd_apply, a0], (m - 1) / 2, swp M m ((m - 1) / 2), rfl, by omega, by simp [upd_apply], ⟨gg.blk pkW (by simpa [blk] using neW), o7, neW⟩, uW.step (hiB_ahead h) (by omega) (by omega) hh, fun y => by rw [bag_swp M (by omega) (by omega)]; exact bW y, fun k hk => ?_, cW.grow gg (by simpa [blk] using hcb2), gW.trans gg.toS fun i _ h => .inr (by simpa [blk] using h)⟩
        simp only [swp]
        split
        · exact lW _ (by omega)
        · split
          · exact lW _ (by omega)
          · exact lW _ hk
  · obtain rfl : m = 0 := by omega
    simp (disch := omega) only [go_sem, Nat.reduceEqDiff, ↓reduceIte, Nat.reduceAdd, a4, h0, Try.results104]
    exact ⟨_, c2, M, ⟨pkW, oW, neW⟩, uW.done (.inl rfl), bW, h2', gs3.trans gW fun i hi hs => by
      rcases hs with hs | hs
      · exact .inl hs
      · rcases h2 i hs with h' | h'
        · exact .inr h'
        · omega⟩
end Go.Proofs.Ytdlepfeckiahdaa
