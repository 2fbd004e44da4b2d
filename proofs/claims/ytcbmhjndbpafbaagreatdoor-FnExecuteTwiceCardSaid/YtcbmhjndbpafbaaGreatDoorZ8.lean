import Derived.Test.YtcbmhjndbpafbaaGreatDoorZ7
import Derived.Test.YtcbmhjndbpafbaaGreatDoorZ5
set_option linter.all false
set_option maxRecDepth 20000
namespace Go.SW
open Go Go.RowKit
theorem appK_row {P : Program} {T ty eo ei bs : Nat} {z : Value} {k : Value → World → Prop} {B : Nat} {W w : World} (ht : elt P T = some (eo, 1, z, bs)) (hbs : bs ≤ 1000) {oa : Option Addr} {oc : Nat} {rs : List (List Int)} {A : Nat → Option Addr} {Cp : Nat → Nat} (br : BRows W eo ei B oa oc rs A Cp)
  (x : Ext W w) (hB : B ≤ W.heap.size) {aN : Option Addr} {cN : Nat} {l : List Int} (hN : OwnS w ei 1 aN l.length cN (vi l)) (fN : ∀ b, blk aN = some b → W.heap.size ≤ b) {b7 : Nat} (k7 : Blk w b7 #[.slice aN l.length cN] eo) (hlen : rs.length < 2000)
  (h : ∀ w' a' c' A' Cp', BRows w' eo ei B a' c' (rs ++ [l]) A' Cp' → Grow (blk oa) w w' → (∀ b, blk a' = some b → blk oa = some b ∨ w.heap.size ≤ b) → k (.slice a' (rs ++ [l]).length c') w') :
  biK P .append #[T, T] ty #[.slice oa rs.length oc, .slice (some ⟨b7, 0, none⟩) 1 1] k w := by
 have br7 := br.ext x
 obtain ⟨xs, ox, hxs⟩ := br7.top
 have sx := x.size
 refine appK_1 ht ox k7 rfl om (.inr ⟨om, hbs⟩) fun w8 a8 c8 o8 g8 h8 => ?_
 have hp := br7.push hN (fun b hb => ⟨by have := fN b hb; omega, fun e => by have := fN b hb; have := br.lt (.inl e); omega, fun r hr e => by have := fN b hb; have := br.lt (.inr ⟨r, hr, e⟩); omega⟩) ox hxs o8 g8 h8 om
 have := h w8 a8 c8 _ _ hp g8 h8
 rwa [List.length_append, List.length_singleton] at this
def FreshR (B : Nat) (a : Option Addr) (n : Nat) (A : Nat → Option Addr) : Prop := ∀ b, (blk a = some b ∨ ∃ r, r < n ∧ blk (A r) = some b) → B ≤ b
theorem freshB {w : World} {eo ei B c : Nat} {a : Option Addr} {rows : List (List Int)} {A : Nat → Option Addr} {Cp : Nat → Nat} (h : BRows w eo ei B a c rows A Cp) : FreshR B a rows.length A := fun b hb => hb.elim (h.ha b) fun ⟨r, hr, e⟩ => (h.far r hr b e).1
theorem FreshR.low {B B' n : Nat} {a : Option Addr} {A : Nat → Option Addr} (h : FreshR B a n A) (hB : B' ≤ B) : FreshR B' a n A := fun b hb => Nat.le_trans hB (h b hb)
theorem rows_wrote {w w' : World} {a : Option Addr} {rows : List (List Int)} {A : Nat → Option Addr} {Cp : Nat → Nat} {B d : Nat} (h : RowsAt w a rows A Cp) (f : FreshR B a rows.length A) (g : Wrote d w w') (hd : d < B) : RowsAt w' a rows A Cp :=
 h.kept (fun b hb _ => g.other b (by have := f b (.inl hb); omega)) fun r hr b hb _ => g.other b (by have := f b (.inr ⟨r, hr, hb⟩); omega)
end Go.SW
namespace Go.Proofs.YtcbmhjndbpafbaaGreatDoor
open Go.RowKit Go.SW
theorem mkRow_take {C : Nat} {h : Nat → Int} {r c : Nat} (hc : c < C) : vi ((mkRow C h r).take c) ++ [Value.int .i64 (h (r * C + c))] = vi ((mkRow C h r).take (c + 1)) := by
 rw [take_snoc 0 (by rw [mkRow_len]; exact hc), mkRow_get hc, vi_snoc]
theorem rows_at {R C : Nat} {h : Nat → Int} (hh : ∀ i, i < R * C → I64 (h i)) (hR : R ≤ 100) (hC : C ≤ 100) {w : World} {eo ei B c : Nat} {a : Option Addr} {A : Nat → Option Addr} {Cp : Nat → Nat} (br : BRows w eo ei B a c (mkRows R C h) A Cp) : RowsAt w a (mkRows R C h) A Cp :=
 br.at (mkRows_i64 hh) (by rw [mkRows_len]; simp [maxLen]; omega) fun l hl => by
  simp only [mkRows, List.mem_map] at hl
  obtain ⟨r, -, rfl⟩ := hl
  simp [maxLen]; omega
theorem turnH_at {R C c j : Nat} (h : Nat → Int) (hj : j < R) : turnH R C h (c * R + j) = h ((R - 1 - j) * C + c) := by
 obtain ⟨q1, q2⟩ := div_row R c j hj
 rw [turnH, q1, q2]
theorem mirrorH_at {C r j : Nat} (h : Nat → Int) (hj : j < C) : mirrorH C h (r * C + j) = h (r * C + (C - 1 - j)) := by
 obtain ⟨q1, q2⟩ := div_row C r j hj
 rw [mirrorH, q1, q2]
theorem setR_eq {R C r c : Nat} (h : Nat → Int) (y : Int) (hr : r < R) (hc : c < C) : (mkRows R C h).set r ((mkRow C h r).set c y) = mkRows R C fun i => if i = r * C + c then y else h i := by
 apply List.ext_getElem
 ·rw [List.length_set, mkRows_len, mkRows_len]
 ·intro n h1 h2
  rw [List.length_set, mkRows_len] at h1
  have e1 : (mkRows R C fun i => if i = r * C + c then y else h i)[n]'h2 = mkRow C (fun i => if i = r * C + c then y else h i) n := by simp [mkRows, mkRow]
  rw [e1, List.getElem_set]
  have e2 : ∀ hh, (mkRows R C h)[n]'hh = mkRow C h n := fun hh => by simp [mkRows, mkRow]
  by_cases e : r = n
  ·subst e
   rw [if_pos rfl]
   apply List.ext_getElem
   ·rw [List.length_set, mkRow_len, mkRow_len]
   ·intro m h3 h4
    rw [List.length_set, mkRow_len] at h3
    rw [List.getElem_set]
    by_cases em : c = m
    ·subst em; simp [mkRow]
    ·rw [if_neg em]
     simp only [mkRow, List.getElem_map, List.getElem_range]
     rw [if_neg om]
  ·rw [if_neg e, e2]
   apply List.ext_getElem
   ·rw [mkRow_len, mkRow_len]
   ·intro m h3 h4
    rw [mkRow_len] at h3
    simp only [mkRow, List.getElem_map, List.getElem_range]
    rw [if_neg]
    intro e3
    obtain ⟨q1, q2⟩ := div_row C r c hc
    obtain ⟨q3, q4⟩ := div_row C n m h3
    rw [e3, q1] at q3
    exact e q3
theorem specGridTurn_c (a : Option Addr) (rows : List (List Int)) (A : Nat → Option Addr) (Cp : Nat → Nat) (gc : Nat) (w : World) (hr : RowsAt w a rows A Cp) (v : Valid rows) :
  Ret Tryz.prog 100 #[.slice a rows.length gc] w fun u w' => ∃ a' c' A' Cp', u = .tuple #[.slice a' (turned rows).length c', .bool true] ∧ RowsAt w' a' (turned rows) A' Cp' ∧ Ext w w' ∧ FreshR w.heap.size a' (turned rows).length A' := by
 have hgv := (gvalid_iff rows).2 v
 have hg64 : ∀ i, i < rowLen rows * rows.length → I64 (turnH rows.length (rowLen rows) (hgt rows) i) := fun i hi => by
  have := v.gd.hh _ (turn_idx hi)
  exact ⟨by unfold turnH; omega, by unfold turnH; omega⟩
 obtain ⟨gb, go, rb, ro, rfl, -, hg⟩ := hr.grid v
 have hR1 := v.r1
 have hC1 := v.c1
 have hR7 := v.r7
 have hC7 := v.c7
 refine enter1 Tryz.func100 rfl fun f a0 => ?_
 simp (disch := omega) only [go_sem]
 refine bslK_0 elt_ii fun w0 b0 e0 x0 o0 _ => ?_
 simp (disch := omega) only [go_sem, a0]
 refine callK_pure ke (gridValid_c _ _ _ _ _ _ (hr.ext x0)) fun w1 x1 => ?_
 rw [hgv]
 have x01 := x0.trans x1
 unfold turned
 generalize rows.length = R at *
 generalize rowLen rows = C at *
 generalize hgt rows = h at *
 simp (disch := omega) only [go_sem]
 refine loopN C (fun i f W => f 0 = .slice (some ⟨gb, go, none⟩) R gc ∧ f 5 = .int .i64 i ∧ Ext w W ∧ ∃ a c rs A Cp, rs = (List.range i).map (mkRow R (turnH R C h)) ∧ f 4 = .slice a rs.length c ∧ BRows W 35 3 w.heap.size a c rs A Cp)
  ⟨uu, uu, x01, _, _, [], fun _ => none, fun _ => 0, rfl, by simp only [upd_apply, Nat.reduceEqDiff, ↓reduceIte]; rfl, (BRows.nil o0 (fun b hb => by simp [blk] at hb; omega) _ _).ext x1⟩ fun i f W hi ⟨a0, a5, xw, oa, oc, rs, A', Cp', hrs, a4, br⟩ => ?_
 have hrl : rs.length = i := by rw [hrs]; simp
 have hgW := hg.ext xw
 have g0 := hgW.row 0 om
 rw [Nat.add_zero] at g0
 have sw := xw.size
 by_cases hlt : (i : Int) < (C : Int)
 ·have hiC : i < C := om
  simp (disch := omega) only [go_sem, a0, a5, hlt, Int.reduceToNat, g0]
  refine bslK_0 elt_i fun w5 b5 e5 x5 o5 _ => ?_
  have hg5 := hgW.ext x5
  simp (disch := omega) only [go_sem, a0]
  refine loopN R (fun j f V => f 0 = .slice (some ⟨gb, go, none⟩) R gc ∧ f 4 = .slice oa rs.length oc ∧ f 5 = .int .i64 i ∧ f 7 = .int .i64 ((R : Int) - 1 - j) ∧ Ext W V ∧ ∃ ra rc, f 6 = .slice ra j rc ∧ OwnS V 3 1 ra j rc (vi ((mkRow R (turnH R C h) i).take j)) ∧ ∀ b, blk ra = some b → W.heap.size ≤ b)
   ⟨uu, uu, uu, by simp [upd_apply], x5, _, _, uu, by simpa [vi] using o5, fun b hb => by simp [blk] at hb; omega⟩ fun j f V hj ⟨a0, a4, a5, a7, xv, ra, rc, a6, orow, hra⟩ => ?_
  have sv := xv.size
  by_cases hlj : (0 : Int) ≤ (R : Int) - 1 - j
  ·have hjR : j < R := om
   have ej : (R : Int) - 1 - j = ((R - 1 - j : Nat) : Int) := om
   have hgV := hgW.ext xv
   have r0 := hgV.row (R - 1 - j) om
   have c0 := hgV.cell (R - 1 - j) i om hiC
   have ht := turnH_at (C := C) (c := i) h hjR
   have hmk := mkRow_take (h := turnH R C h) (r := i) hjR
   rw [ht] at hmk
   rw [ej] at a7 hlj
   have hRj : ((R - 1 - j : Nat) : Int) < (R : Int) := om
   simp (disch := omega) only [go_sem, a0, a5, a6, a7, hlj, Int.toNat_natCast, r0, c0]
   refine bslK_1 elt_i rfl fun w8 b8 e8 x8 k8 _ => ?_
   simp (disch := omega) only [go_sem, a6]
   refine appK_1 elt_i (orow.ext x8) k8 rfl om (.inl dc) fun w9 a9 c9 o9 g9 h9 => ?_
   rw [hmk] at o9
   have s8 := x8.size
   simp (disch := omega) only [go_sem, a7]
   refine ⟨hjR, uu, uu, uu, by simp [upd_apply]; omega, g9.ext (xv.trans x8) hra, a9, c9, uu, o9, fun b hb => (h9 b hb).elim (hra b) fun h => om⟩
  ·obtain rfl : j = R := om
   rw [take_full _ (mkRow_len _ _ _)] at orow
   have hl7 : (mkRow j (turnH j C h) i).length = j := mkRow_len _ _ _
   simp (disch := omega) only [go_sem, a4, a6, a7, hlj]
   refine bslK_1 elt_ii rfl fun w7 b7 e7 x7 k7 _ => ?_
   have s7 := x7.size
   simp (disch := omega) only [go_sem, a4]
   refine appK_row (l := mkRow j (turnH j C h) i) elt_ii dc br (xv.trans x7) sw (by rw [hl7]; exact orow.ext x7) hra (by rw [hl7]; exact k7) om fun w8 a8 c8 A8 Cp8 br8 g8 _ => ?_
   simp (disch := omega) only [go_sem, a5]
   exact ⟨hiC, uu, uu, g8.ext (xw.trans (xv.trans x7)) br.ha, a8, c8, _, A8, Cp8, by rw [hrs]; simp [List.range_succ], uu, br8⟩
 ·have e : i = C := om
  rw [e] at hrs hrl
  rw [← mkRows_eq] at hrs
  subst hrs
  simp (disch := omega) only [go_sem, a0, a4, a5, hlt, Int.reduceToNat, g0, Tryz.results100]
  exact ⟨oa, oc, A', Cp', rfl, rows_at hg64 om om br, xw, freshB br⟩
theorem specGridMirror_c (a : Option Addr) (rows : List (List Int)) (A : Nat → Option Addr) (Cp : Nat → Nat) (gc : Nat) (w : World) (hr : RowsAt w a rows A Cp) (v : Valid rows) :
  Ret Tryz.prog 101 #[.slice a rows.length gc] w fun u w' => ∃ a' c' A' Cp', u = .tuple #[.slice a' (mirrored rows).length c', .bool true] ∧ RowsAt w' a' (mirrored rows) A' Cp' ∧ Ext w w' ∧ FreshR w.heap.size a' (mirrored rows).length A' := by
 have hgv := (gvalid_iff rows).2 v
 have hg64 : ∀ i, i < rows.length * rowLen rows → I64 (mirrorH (rowLen rows) (hgt rows) i) := fun i hi => by
  have := v.gd.hh _ (mirror_idx hi)
  exact ⟨by unfold mirrorH; omega, by unfold mirrorH; omega⟩
 have hval : ∀ {W}, Ext w W → Ret Tryz.prog 42 #[.slice a rows.length gc] W fun v w' => v = .bool true ∧ Ext W w' := fun x => by
  have := gridValid_c a rows A Cp gc _ (hr.ext x)
  rwa [hgv] at this
 obtain ⟨gb, go, rb, ro, rfl, -, hg⟩ := hr.grid v
 have hR1 := v.r1
 have hC1 := v.c1
 have hR7 := v.r7
 have hC7 := v.c7
 refine enter1 Tryz.func101 rfl fun f a0 => ?_
 simp (disch := omega) only [go_sem]
 refine bslK_0 elt_ii fun w0 b0 e0 x0 o0 _ => ?_
 unfold mirrored
 generalize rows.length = R at *
 generalize rowLen rows = C at *
 generalize hgt rows = h at *
 simp (disch := omega) only [go_sem]
 refine loopN R (fun i f W => f 0 = .slice (some ⟨gb, go, none⟩) R gc ∧ f 5 = .int .i64 i ∧ Ext w W ∧ ∃ a c rs A Cp, rs = (List.range i).map (mkRow C (mirrorH C h)) ∧ f 4 = .slice a rs.length c ∧ BRows W 35 3 w.heap.size a c rs A Cp)
  ⟨uu, uu, x0, _, _, [], fun _ => none, fun _ => 0, rfl, by simp only [upd_apply, Nat.reduceEqDiff, ↓reduceIte]; rfl, BRows.nil o0 (fun b hb => by simp [blk] at hb; omega) _ _⟩ fun i f W hi ⟨a0, a5, xw, oa, oc, rs, A', Cp', hrs, a4, br⟩ => ?_
 have hrl : rs.length = i := by rw [hrs]; simp
 by_cases hlt : (i : Int) < (R : Int)
 ·have hiR : i < R := om
  simp (disch := omega) only [go_sem, a0, a5, hlt]
  refine callK_pure ke (hval xw) fun w4 x4 => ?_
  simp (disch := omega) only [go_sem, a0, a5]
  refine bslK_0 elt_i fun w5 b5 e5 x5 o5 _ => ?_
  have x45 := x4.trans x5
  have s45 := x45.size
  have s4 := x4.size
  have sw := xw.size
  have hg5 := (hg.ext xw).ext x45
  have g0 := hg5.row i hiR
  simp (disch := omega) only [go_sem, a0, a5, g0]
  refine loopN C (fun j f V => f 0 = .slice (some ⟨gb, go, none⟩) R gc ∧ f 4 = .slice oa rs.length oc ∧ f 5 = .int .i64 i ∧ f 7 = .int .i64 ((C : Int) - 1 - j) ∧ Ext W V ∧ ∃ ra rc, f 6 = .slice ra j rc ∧ OwnS V 3 1 ra j rc (vi ((mkRow C (mirrorH C h) i).take j)) ∧ ∀ b, blk ra = some b → W.heap.size ≤ b)
   ⟨uu, uu, uu, by simp [upd_apply], x45, _, _, uu, by simpa [vi] using o5, fun b hb => by simp [blk] at hb; omega⟩ fun j f V hj ⟨a0, a4, a5, a7, xv, ra, rc, a6, orow, hra⟩ => ?_
  have sv := xv.size
  by_cases hlj : (0 : Int) ≤ (C : Int) - 1 - j
  ·have hjC : j < C := om
   have ej : (C : Int) - 1 - j = ((C - 1 - j : Nat) : Int) := om
   have hgV := (hg.ext xw).ext xv
   have r0 := hgV.row i hiR
   have c0 := hgV.cell i (C - 1 - j) hiR om
   have ht := mirrorH_at (r := i) h hjC
   have hmk := mkRow_take (h := mirrorH C h) (r := i) hjC
   rw [ht] at hmk
   rw [ej] at a7 hlj
   have hCj : ((C - 1 - j : Nat) : Int) < (C : Int) := om
   simp (disch := omega) only [go_sem, a0, a5, a6, a7, hlj, Int.toNat_natCast, r0, c0]
   refine bslK_1 elt_i rfl fun w8 b8 e8 x8 k8 _ => ?_
   simp (disch := omega) only [go_sem, a6]
   refine appK_1 elt_i (orow.ext x8) k8 rfl om (.inl dc) fun w9 a9 c9 o9 g9 h9 => ?_
   rw [hmk] at o9
   have s8 := x8.size
   simp (disch := omega) only [go_sem, a7]
   refine ⟨hjC, uu, uu, uu, by simp [upd_apply]; omega, g9.ext (xv.trans x8) hra, a9, c9, uu, o9, fun b hb => (h9 b hb).elim (hra b) fun h => om⟩
  ·obtain rfl : j = C := om
   rw [take_full _ (mkRow_len _ _ _)] at orow
   have hl7 : (mkRow j (mirrorH j h) i).length = j := mkRow_len _ _ _
   simp (disch := omega) only [go_sem, a4, a6, a7, hlj]
   refine bslK_1 elt_ii rfl fun w7 b7 e7 x7 k7 _ => ?_
   have s7 := x7.size
   simp (disch := omega) only [go_sem, a4]
   refine appK_row (l := mkRow j (mirrorH j h) i) elt_ii dc br (xv.trans x7) sw (by rw [hl7]; exact orow.ext x7) hra (by rw [hl7]; exact k7) om fun w8 a8 c8 A8 Cp8 br8 g8 _ => ?_
   simp (disch := omega) only [go_sem, a5]
   exact ⟨hiR, uu, uu, g8.ext (xw.trans (xv.trans x7)) br.ha, a8, c8, _, A8, Cp8, by rw [hrs]; simp [List.range_succ], uu, br8⟩
 ·have e : i = R := om
  rw [e] at hrs hrl
  rw [← mkRows_eq] at hrs
  subst hrs
  simp (disch := omega) only [go_sem, a0, a4, a5, hlt]
  refine callK_pure ke (hval xw) fun w4 x4 => ?_
  simp (disch := omega) only [go_sem, Tryz.results101]
  exact ⟨oa, oc, A', Cp', rfl, (rows_at hg64 om om br).ext x4, xw.trans x4, freshB br⟩
theorem specGridSet_c (a : Option Addr) (rows : List (List Int)) (A : Nat → Option Addr) (Cp : Nat → Nat) (gc : Nat) (r c h : Nat) (w : World) (hr : RowsAt w a rows A Cp) (v : Valid rows) :
  Ret Tryz.prog 69 #[.slice a rows.length gc, .int .i64 r, .int .i64 c, .int .i64 h] w fun u w' => Ext w w' ∧ ((¬ (cellok rows r c = true ∧ h ≤ 99) ∧ ∃ a' n' c', u = .tuple #[.slice a' n' c', .bool false]) ∨ ((cellok rows r c = true ∧ h ≤ 99) ∧ ∃ a' c' A' Cp', u = .tuple #[.slice a' (setR rows r c h).length c', .bool true] ∧ RowsAt w' a' (setR rows r c h) A' Cp' ∧ FreshR w.heap.size a' (setR rows r c h).length A')) := by
 have hR7 := v.r7
 have hC7 := v.c7
 refine enter4 Tryz.func69 rfl fun f a0 a1 a2 a3 => ?_
 simp (disch := omega) only [go_sem, a0, a1, a2]
 refine callK_pure ke (l1Cell_c _ _ _ _ _ _ _ _ hr) fun w1 x1 => ?_
 cases hok : cellok rows r c with
 | false =>
  simp (disch := omega) only [go_sem]
  refine bslK_0 elt_ii fun w2 b2 e2 x2 o2 _ => ?_
  simp (disch := omega) only [go_sem, Tryz.results69]
  exact ⟨x1.trans x2, .inl ⟨by simp, _, _, _, rfl⟩⟩
 | true =>
 simp (disch := omega) only [go_sem, a3]
 refine callK_pure ke (l6In_c _ _ _ _) fun w2 x2 => ?_
 by_cases hh : h ≤ 99
 rotate_left
 ·have hd : decide ((0 : Int) ≤ (h : Int) ∧ (h : Int) ≤ 99) = false := decide_eq_false om
  simp (disch := omega) only [go_sem, hd]
  refine bslK_0 elt_ii fun w3 b2 e2 x3 o2 _ => ?_
  simp (disch := omega) only [go_sem, Tryz.results69]
  exact ⟨(x1.trans x2).trans x3, .inl ⟨fun h' => hh h'.2, _, _, _, rfl⟩⟩
 have hd : decide ((0 : Int) ≤ (h : Int) ∧ (h : Int) ≤ 99) = true := decide_eq_true om
 have hrc : 0 ≤ (r : Int) ∧ (r : Int) < rows.length ∧ 0 ≤ (c : Int) ∧ (c : Int) < rowLen rows := by simp only [cellok, Bool.and_eq_true, decide_eq_true_eq] at hok; exact hok.2
 have x12 := x1.trans x2
 simp (disch := omega) only [go_sem, hd, a0]
 refine callK_of ke (l1Copy_c _ _ _ _ _ _ (hr.ext x12) v) ?_
 rintro _ w3 ⟨ca, cc, Ac, Cc, rfl, br, x3⟩
 have hrR : r < rows.length := om
 have hcC : c < rowLen rows := om
 have hml : (mkRows rows.length (rowLen rows) (hgt rows)).length = rows.length := mkRows_len _ _ _
 have h64 : ∀ i, i < rows.length * rowLen rows → I64 (hgt rows i) := fun i hi => by have := v.gd.hh i hi; exact ⟨om, om⟩
 have hrow := mkRows_row (R := rows.length) (C := rowLen rows) (h := hgt rows) hrR
 obtain ⟨xs, ox, hxs⟩ := br.top
 rw [hml] at ox
 obtain ⟨cb, rfl⟩ := ox.some om
 have hxr := hxs r (by rw [hml]; exact hrR)
 rw [hrow, mkRow_len] at hxr
 have hc0 : w3.cell? ⟨cb, r, none⟩ = some (.slice (Ac r) (rowLen rows) (Cc r)) := by rw [ox.cell om]; exact hxr
 have orow := br.row r (by rw [hml]; exact hrR)
 rw [hrow, mkRow_len] at orow
 obtain ⟨rb, hrb⟩ := orow.some om
 rw [hrb] at orow hc0
 simp (disch := omega) only [go_sem, a1, a2, a3, hc0]
 refine stK_own siz_int rf rf orow om fun w4 o4 g4 => ?_
 rw [vi_set] at o4
 have hl : ((mkRow (rowLen rows) (hgt rows) r).set c h).length = rowLen rows := by rw [List.length_set, mkRow_len]
 have brs := br.setRow (r := r) (by rw [hml]; exact hrR) (l := (mkRow (rowLen rows) (hgt rows) r).set c h) (by rw [hl, hrow, mkRow_len]) (by rw [hl, hrb]; exact o4) (by rw [hrb]; exact g4.grow)
 rw [setR_eq _ _ hrR hcC] at brs
 have hfar := (br.far r (by rw [hml]; exact hrR) rb (by rw [hrb]; rfl)).1
 have s12 := x12.size
 simp (disch := omega) only [go_sem, Tryz.results69]
 have hsl : (setR rows r c h).length = rows.length := by simp [setR, mkRows_len]
 refine ⟨g4.ext (x12.trans x3) om, .inr ⟨⟨trivial, hh⟩, some ⟨cb, 0, none⟩, cc, Ac, Cc, by rw [hsl], rows_at (fun i hi => ?_) om om brs, (freshB brs).low s12⟩⟩
 have := h64 i hi
 split
 ·exact ⟨om, om⟩
 ·exact this
theorem specProfileRow_c (a : Option Addr) (rows : List (List Int)) (A : Nat → Option Addr) (Cp : Nat → Nat) (gc : Nat) (r : Nat) (w : World) (hr : RowsAt w a rows A Cp) (v : Valid rows) :
  Ret Tryz.prog 143 #[.slice a rows.length gc, .int .i64 r] w fun u w' => Ext w w' ∧ ((rows.length ≤ r ∧ ∃ b c, u = .tuple #[.slice b 0 c, .bool false]) ∨ (r < rows.length ∧ ∃ b c, u = .tuple #[.slice b (rowLen rows) c, .bool true] ∧ IntS w' b (rows.getD r []))) := by
 have hgv := (gvalid_iff rows).2 v
 have hC1 := v.c1
 have hC7 := v.c7
 refine enter2 Tryz.func143 rfl fun f a0 a1 => ?_
 simp (disch := omega) only [go_sem, a0, a1]
 refine callK_pure ke (l1Cell_c _ _ _ _ _ _ _ _ hr) fun w1 x1 => ?_
 by_cases hin : r < rows.length
 rotate_left
 ·have hok : cellok rows r 0 = false := by simp only [cellok, hgv, Bool.true_and, decide_eq_false_iff_not]; omega
  simp (disch := omega) only [go_sem, hok]
  refine bslK_0 elt_i fun w2 b2 e2 x2 o2 _ => ?_
  simp (disch := omega) only [go_sem, Tryz.results143]
  exact ⟨x1.trans x2, .inl ⟨om, _, _, rfl⟩⟩
 have hok : cellok rows r 0 = true := by simp only [cellok, hgv, Bool.true_and, decide_eq_true_eq]; omega
 have hlen := v.len r hin
 obtain ⟨gb, go, rb, ro, rfl, hA, hg⟩ := hr.grid v
 simp (disch := omega) only [go_sem, hok]
 refine bslK_0 elt_i fun w2 b2 e2 x2 o2 _ => ?_
 have x12 := x1.trans x2
 have r0 := (hg.ext x12).row r hin
 have ri := (hr.ext x12).ints r hin
 rw [hA r hin] at ri
 simp (disch := omega) only [go_sem, a0, a1, r0]
 refine appK_of elt_i dc o2 (m := rowLen rows) (vi (rows.getD r [])) (by rw [vi_len, hlen]; omega) (fun j u hu => ?_) (by simp [vi, Value.oneCell']) (by simp only [maxLen]; omega) om fun w6 a6 c6 o6 g6 h6 => ?_
 ·have hj : j < (rows.getD r []).length := by
   have := (List.getElem?_eq_some_iff.1 hu).1
   rwa [vi_len] at this
  rw [vi_get _ _ hj] at hu
  simp only [Option.some.injEq] at hu
  subst hu
  rw [add_mk]
  exact ri.cell _ _ rfl j hj
 simp only [List.nil_append, Nat.zero_add] at o6 ⊢
 have s1 := x1.size
 simp (disch := omega) only [go_sem, Tryz.results143]
 exact ⟨g6.ext x12 (fun b hb => by have h2 : b2 = b := (by simpa [blk] using hb); omega), .inr ⟨hin, _, _, rfl, o6.ints⟩⟩
end Go.Proofs.YtcbmhjndbpafbaaGreatDoor
namespace Go.SW
open Go Go.RowKit
def gmid (rows : List (List Int)) (k j : Nat) : List UInt8 := gpre rows k ++ (if k = 0 then [] else [47]) ++ rpre (rows.getD k []) j
theorem gmid_next {rows : List (List Int)} {k : Nat} (hk : k < rows.length) {n : Nat} (hn : (rows.getD k []).length = n) : gmid rows k n = gpre rows (k + 1) := by
 rw [gmid, gpre_succ hk, ← hn, rpre_all]
theorem gmid_0 (rows : List (List Int)) (k : Nat) : gmid rows k 0 = gpre rows k ++ (if k = 0 then [] else [47]) := by rw [gmid, rpre_zero, List.append_nil]
theorem gmid_succ {rows : List (List Int)} {k j : Nat} (hj : j < (rows.getD k []).length) : gmid rows k (j + 1) = gmid rows k j ++ (if j = 0 then [] else [32]) ++ c2 ((rows.getD k []).getD j 0) := by
 simp only [gmid]
 rw [rpre_succ hj]
 simp only [List.append_assoc]
theorem gmid_len {rows : List (List Int)} (v : Valid rows) {k : Nat} (hk : k < rows.length) (j : Nat) : (gmid rows k j).length ≤ 300 := by
 have h1 := gpre_len v k
 have h2 := rpre_len v hk j
 simp only [gmid, List.length_append]
 split
 ·rw [List.length_nil]; omega
 ·rw [List.length_singleton]; omega
theorem dec_digit {n : Nat} (h : n < 10) : dec n = [UInt8.ofNat (48 + n)] := dec_lt h
end Go.SW
namespace Go.Proofs.YtcbmhjndbpafbaaGreatDoor
open Go.RowKit Go.SW
theorem specGridText_c (a : Option Addr) (rows : List (List Int)) (A : Nat → Option Addr) (Cp : Nat → Nat) (gc : Nat) (w : World) (hr : RowsAt w a rows A Cp) :
  Ret Tryz.prog 59 #[.slice a rows.length gc] w fun u w' => u = .string (bs (if gvalid rows then gtext rows else [])) ∧ Ext w w' := by
 cases hgv : gvalid rows with
 | false =>
  refine enter1 Tryz.func59 rfl fun f a0 => ?_
  by_cases h0 : 0 < rows.length
  ·have hlt : (0 : Int) < (rows.length : Int) := om
   simp (disch := omega) only [go_sem]
   refine loopN 0 (fun i f W => f 0 = .slice a rows.length gc ∧ f 3 = .string (bs []) ∧ f 4 = .int .i64 0 ∧ Ext w W) ⟨uu, uu, uu, Ext.refl _⟩ fun i f W hi ⟨a0, a3, a4, xw⟩ => ?_
   simp (disch := omega) only [go_sem, a0, a4, hlt]
   refine callK_pure ke (gridValid_c _ _ _ _ _ _ (hr.ext xw)) fun w1 x1 => ?_
   rw [hgv]
   simp (disch := omega) only [go_sem, a3, Tryz.results59]
   exact ⟨by simp, xw.trans x1⟩
  ·have hlt : ¬ (0 : Int) < (rows.length : Int) := om
   simp (disch := omega) only [go_sem]
   refine loopN 0 (fun i f W => f 0 = .slice a rows.length gc ∧ f 3 = .string (bs []) ∧ f 4 = .int .i64 0 ∧ Ext w W) ⟨uu, uu, uu, Ext.refl _⟩ fun i f W hi ⟨a0, a3, a4, xw⟩ => ?_
   simp (disch := omega) only [go_sem, a0, a4, hlt, a3, Tryz.results59]
   exact ⟨by simp, xw⟩
 | true =>
 have v := (gvalid_iff rows).1 hgv
 simp only [if_true]
 have hval : ∀ {W}, Ext w W → Ret Tryz.prog 42 #[.slice a rows.length gc] W fun v w' => v = .bool true ∧ Ext W w' := fun x => by
  have := gridValid_c a rows A Cp gc _ (hr.ext x)
  rwa [hgv] at this
 obtain ⟨gb, go, rb, ro, rfl, -, hg⟩ := hr.grid v
 have hR7 := v.r7
 have hC7 := v.c7
 refine enter1 Tryz.func59 rfl fun f a0 => ?_
 simp (disch := omega) only [go_sem]
 refine loopN rows.length (fun i f W => f 0 = .slice (some ⟨gb, go, none⟩) rows.length gc ∧ f 3 = .string (bs (gpre rows i)) ∧ f 4 = .int .i64 i ∧ Ext w W) ⟨uu, uu, uu, Ext.refl _⟩ fun i f W hi ⟨a0, a3, a4, xw⟩ => ?_
 by_cases hlt : (i : Int) < (rows.length : Int)
 ·have hiR : i < rows.length := om
  have hlen := v.len i hiR
  have hgl := gpre_len v i
  have hm0 := gmid_0 rows i
  have key : ∀ (f : F) (W1 : World), f 0 = .slice (some ⟨gb, go, none⟩) rows.length gc → f 3 = .string (bs (gmid rows i 0)) → f 4 = .int .i64 i → f 5 = .int .i64 0 → Ext w W1 → True := fun _ _ _ _ _ _ _ => trivial
  simp (disch := omega) only [go_sem, a0, a4, hlt]
  refine callK_pure ke (hval xw) fun w1 x1 => ?_
  have xw1 := xw.trans x1
  simp (disch := omega) only [go_sem, a4]
  refine cd_cut (fun f W => f 0 = .slice (some ⟨gb, go, none⟩) rows.length gc ∧ f 3 = .string (bs (gmid rows i 0)) ∧ f 4 = .int .i64 i ∧ Ext w W) (fun f W ⟨a0, a3, a4, xw⟩ => ?_) ?_
  rotate_left
  ·by_cases h0 : (0 : Int) < (i : Int)
   ·rw [if_neg (show ¬ i = 0 from om)] at hm0
    have e1 : binV Tryz.prog .add 9 (.string (bs (gpre rows i))) (.string (bs [47])) = some (.string (bs (gpre rows i ++ [47]))) := bin_adds _ _ sq
    rw [← hm0] at e1
    simp (disch := omega) only [go_sem, a3, h0, e1]
    exact ⟨uu, uu, uu, xw1⟩
   ·rw [if_pos (show i = 0 from om), List.append_nil] at hm0
    rw [← hm0] at a3
    simp (disch := omega) only [go_sem, a3, h0]
    exact ⟨uu, uu, uu, xw1⟩
  simp (disch := omega) only [go_sem]
  refine loopN (rowLen rows) (fun j f V => f 0 = .slice (some ⟨gb, go, none⟩) rows.length gc ∧ f 3 = .string (bs (gmid rows i j)) ∧ f 4 = .int .i64 i ∧ f 5 = .int .i64 j ∧ Ext w V) ⟨uu, uu, uu, uu, xw⟩ fun j f V hj ⟨a0, a3, a4, a5, xv⟩ => ?_
  have hgV := hg.ext xv
  have r0 := hgV.row i hiR
  have hml := gmid_len v hiR j
  by_cases hlj : (j : Int) < (rowLen rows : Int)
  ·have hjC : j < rowLen rows := om
   have c0 := hgV.cell i j hiR hjC
   rw [hgt_at v hiR hjC] at c0
   have hrg := v.cell i j hiR hjC
   have hsc := gmid_succ (rows := rows) (k := i) (j := j) om
   generalize hh : (rows.getD i []).getD j 0 = h at *
   have ed : h / 10 = ((h.toNat / 10 : Nat) : Int) := om
   have em : h % 10 = ((h.toNat % 10 : Nat) : Int) := om
   have d1 := dec_digit (n := h.toNat / 10) om
   have d2 := dec_digit (n := h.toNat % 10) om
   simp (disch := omega) only [go_sem, a0, a4, a5, hlj, r0]
   refine cd_cut (fun f V' => f 0 = .slice (some ⟨gb, go, none⟩) rows.length gc ∧ f 3 = .string (bs (gmid rows i j ++ (if j = 0 then [] else [32]))) ∧ f 4 = .int .i64 i ∧ f 5 = .int .i64 j ∧ V' = V) (fun f V' ⟨a0, a3, a4, a5, eV⟩ => ?_) ?_
   rotate_left
   ·by_cases h0 : (0 : Int) < (j : Int)
    ·have e1 : binV Tryz.prog .add 9 (.string (bs (gmid rows i j))) (.string (bs [32])) = some (.string (bs (gmid rows i j ++ [32]))) := bin_adds _ _ sq
     rw [if_neg (show ¬ j = 0 from om)]
     simp (disch := omega) only [go_sem, a3, h0, e1]
     exact ⟨uu, uu, uu, uu, by first | rfl | trivial⟩
    ·rw [if_pos (show j = 0 from om), List.append_nil]
     simp (disch := omega) only [go_sem, a3, h0]
     exact ⟨uu, uu, uu, uu, by first | rfl | trivial⟩
   subst eV
   generalize hT : gmid rows i j ++ (if j = 0 then [] else [32]) = T at *
   have hTl : T.length ≤ 301 := by rw [← hT, List.length_append]; split <;> simp <;> omega
   have e2 : binV Tryz.prog .add 9 (.string (bs T)) (.string (bs (dec (h.toNat / 10)))) = some (.string (bs (T ++ dec (h.toNat / 10)))) := bin_adds _ _ (by rw [d1]; simp; omega)
   have e3 : binV Tryz.prog .add 9 (.string (bs (T ++ dec (h.toNat / 10)))) (.string (bs (dec (h.toNat % 10)))) = some (.string (bs (T ++ dec (h.toNat / 10) ++ dec (h.toNat % 10)))) := bin_adds _ _ (by rw [d1, d2]; simp; omega)
   have e4 : T ++ dec (h.toNat / 10) ++ dec (h.toNat % 10) = gmid rows i (j + 1) := by rw [hsc, d1, d2, c2]; simp
   rw [e4] at e3
   have ex : Ext V' V' := Ext.refl _
   have rr : ∀ {V2}, Ext V' V2 → V2.cell? ⟨gb, go + i, none⟩ = some (.slice (some ⟨rb i, ro i, none⟩) (rowLen rows) (Cp i)) := fun x => (hgV.ext x).row i hiR
   have cc : ∀ {V2}, Ext V' V2 → V2.cell? ⟨rb i, ro i + j, none⟩ = some (.int .i64 h) := fun x => x.cell c0
   simp (disch := omega) only [go_sem]
   refine QR_sch none (.st 0 (.st 1 (.st 2 (.st 3 (.st 4 (.st 5 (.st 6 (.st 7 (.st 8 (.st 11 (.st 12 (.st 13 (.st 14 (.st 15 (.st 16 (.st 17 (.st 18 (.ef 9 (.st 10 (.ef 19 (.st 20 (.st 21 (.done))))))))))))))))))))))) ke ke fun w0 x0 => ?_
   have X := ex.trans x0
   simp (disch := omega) only [go_sem, a0, a3, a4, a5, rr x0, cc x0, Int.toNat_natCast, ldS_none, ed, em, e2, e3]
   refine callK_of ke (l6Dec_c (h.toNat / 10) om _) ?_
   rintro _ w2 ⟨rfl, y1⟩
   refine nxE_of (y1.grow _) ?_
   have X := X.trans y1
   simp (disch := omega) only [go_sem, a0, a3, a4, a5, rr x0, cc x0, Int.toNat_natCast, ldS_none, ed, em, e2, e3]
   refine callK_of ke (l6Dec_c (h.toNat % 10) om _) ?_
   rintro _ w2 ⟨rfl, y1⟩
   refine nxE_of (y1.grow _) ?_
   have X := X.trans y1
   simp (disch := omega) only [go_sem, a5, e3]
   exact ⟨hjC, uu, uu, uu, uu, xv.trans X⟩
  ·obtain rfl : j = rowLen rows := om
   rw [gmid_next hiR hlen] at a3
   simp (disch := omega) only [go_sem, a0, a3, a4, a5, hlj, r0]
   exact ⟨hiR, uu, uu, uu, xv⟩
 ·obtain rfl : i = rows.length := om
  rw [gpre_all] at a3
  simp (disch := omega) only [go_sem, a0, a3, a4, hlt, Tryz.results59]
  exact ⟨by first | rfl | trivial, xw⟩
end Go.Proofs.YtcbmhjndbpafbaaGreatDoor
namespace Go.SW
open Go Go.RowKit
theorem gfrom_two {s : List UInt8} {rows : List (List Int)} (h : gfrom s = some rows) : ∀ l ∈ spl 47 s, ∀ t ∈ spl 32 l, t.length = 2 := fun l hl t ht => by
 have h2 := (gfrom_iff s).1 (by have := (gfrom_some h).2.2; rw [h, ← this])
 exact (twoB_iff.1 (h2.1 l hl t ht)).1
theorem gfrom_not2 {s : List UInt8} {l t : List UInt8} (hl : l ∈ spl 47 s) (ht : t ∈ spl 32 l) (h : t.length ≠ 2) : gfrom s = none := by
 cases hg : gfrom s with
 | none => rfl
 | some rows => exact (h (gfrom_two hg l hl t ht)).elim
theorem gfrom_end {s : List UInt8} (h2 : ∀ l ∈ spl 47 s, ∀ t ∈ spl 32 l, t.length = 2) : (gfrom s).isSome = ((if gvalid (gparse s) then gtext (gparse s) else []) == s) := by
 have hs : s ≠ [] := fun e => by
  subst e
  have := h2 [] (by simp [spl]) [] (by simp [spl])
  simp at this
 unfold gfrom
 cases hv : gvalid (gparse s) with
 | false =>
  simp only [Bool.false_eq_true, false_and, if_false, Option.isSome_none]
  symm
  rw [beq_eq_false_iff_ne]
  exact fun e => hs e.symm
 | true =>
  simp only [true_and, if_true]
  by_cases e : gtext (gparse s) = s
  ·rw [if_pos e]; simp [e]
  ·rw [if_neg e]; simp [e]
end Go.SW
namespace Go.Proofs.YtcbmhjndbpafbaaGreatDoor
open Go.RowKit Go.SW
set_option maxHeartbeats 1000000 in
theorem specGridFrom_c (s : List UInt8) (hs : s.length ≤ 1000) (w : World) :
  Ret Tryz.prog 68 #[.string (bs s)] w fun u w' => ∃ a n c, u = .tuple #[.slice a n c, .bool (gfrom s).isSome] ∧ Ext w w' ∧ ∀ rows, gfrom s = some rows → n = rows.length ∧ ∃ A Cp, RowsAt w' a rows A Cp ∧ FreshR w.heap.size a rows.length A := by
 have hsl := spl_len_le 47 s
 have hgp := gparse_len s
 refine enter1 Tryz.func68 rfl fun f a0 => ?_
 simp (disch := omega) only [go_sem]
 refine bslK_0 elt_ii fun w1 b0 e0 x0 o0 _ => ?_
 simp (disch := omega) only [go_sem, a0]
 refine callK_of ke (l1Cut_c s 47 _ om) ?_
 rintro _ w2' ⟨sb, sc, rfl, x2, hsb, os⟩
 have x12 := x0.trans x2
 have s1 := x0.size
 simp (disch := omega) only [go_sem]
 refine loopN (spl 47 s).length (fun k f W => f 0 = .string (bs s) ∧ f 5 = .slice (some ⟨sb, 0, none⟩) (spl 47 s).length sc ∧ f 6 = .int .i64 k ∧ Ext w W ∧ OwnS W 9 1 (some ⟨sb, 0, none⟩) (spl 47 s).length sc (vst (spl 47 s)) ∧ (∀ i, i < k → ∀ t ∈ spl 32 ((spl 47 s).getD i []), t.length = 2) ∧ ∃ a c rs A Cp, rs = (gparse s).take k ∧ f 4 = .slice a rs.length c ∧ BRows W 35 3 w.heap.size a c rs A Cp ∧ ∀ b, blk a = some b → b ≠ sb)
  ⟨uu, uu, uu, x12, os, fun i hi => om, _, _, [], fun _ => none, fun _ => 0, rfl, by simp only [upd_apply, Nat.reduceEqDiff, ↓reduceIte]; rfl, (BRows.nil o0 (fun b hb => by simp [blk] at hb; omega) _ _).ext x2, fun b hb => by simp [blk] at hb; omega⟩ fun k f W hk ⟨a0, a5, a6, xw, os, htwo, oa, oc, rs, A', Cp', hrs, a4, br, hsb'⟩ => ?_
 have hrl : rs.length = k := by rw [hrs, List.length_take]; omega
 have sw := xw.size
 by_cases hlt : (k : Int) < ((spl 47 s).length : Int)
 ·have hkR : k < (spl 47 s).length := om
  have hcell : W.cell? ⟨sb, k, none⟩ = some (.string (bs ((spl 47 s).getD k []))) := by rw [os.cell om, vst_get _ _ hkR]
  have hmem : (spl 47 s).getD k [] ∈ spl 47 s := getD_mem hkR
  have hll := spl_mem_len hmem
  have hrow := gparse_row hkR
  generalize hline : (spl 47 s).getD k [] = line at *
  have hwl := spl_len_le 32 line
  simp (disch := omega) only [go_sem, a0, a5, a6, hlt]
  refine bslK_0 elt_i fun w5 b5 e5 x5 o5 _ => ?_
  have s5 := x5.size
  have hcell5 := x5.cell hcell
  simp (disch := omega) only [go_sem, a5, a6, Int.toNat_natCast, hcell5]
  refine callK_of ke (l1Cut_c line 32 _ om) ?_
  rintro _ w6 ⟨sb2, sc2, rfl, x6, hsb2, os2⟩
  have s6 := x6.size
  have x56 := x5.trans x6
  simp (disch := omega) only [go_sem]
  refine loopN (spl 32 line).length (fun j f W' => f 0 = .string (bs s) ∧ f 4 = .slice oa rs.length oc ∧ f 5 = .slice (some ⟨sb, 0, none⟩) (spl 47 s).length sc ∧ f 6 = .int .i64 k ∧ f 8 = .slice (some ⟨sb2, 0, none⟩) (spl 32 line).length sc2 ∧ f 9 = .int .i64 j ∧ Ext W W' ∧ OwnS W' 9 1 (some ⟨sb2, 0, none⟩) (spl 32 line).length sc2 (vst (spl 32 line)) ∧ (∀ i, i < j → ((spl 32 line).getD i []).length = 2) ∧ ∃ rb rc, f 7 = .slice (some ⟨rb, 0, none⟩) j rc ∧ OwnS W' 3 1 (some ⟨rb, 0, none⟩) j rc (vi (((spl 32 line).map w2).take j)) ∧ W.heap.size ≤ rb ∧ rb ≠ sb2)
   ⟨uu, uu, uu, uu, uu, uu, x56, os2, fun i hi => om, b5, 0, uu, by simpa [vi] using o5.ext x6, om, om⟩ fun j f W' hj ⟨a0, a4, a5, a6, a8, a9, xi, os2, htw, rb, rc, a7, orow, hrb, hne⟩ => ?_
  have si := xi.size
  by_cases hlj : (j : Int) < ((spl 32 line).length : Int)
  ·have hjC : j < (spl 32 line).length := om
   have hmem2 : (spl 32 line).getD j [] ∈ spl 32 line := getD_mem hjC
   have hcj : W'.cell? ⟨sb2, j, none⟩ = some (.string (bs ((spl 32 line).getD j []))) := by rw [os2.cell om, vst_get _ _ hjC]
   have hwl2 := spl_mem_len hmem2
   have et : vi (((spl 32 line).map w2).take j) ++ [Value.int .i64 (w2 ((spl 32 line).getD j []))] = vi (((spl 32 line).map w2).take (j + 1)) := by rw [take_snoc 0 (by simpa using hjC), vi_snoc]; simp [hjC]
   by_cases h2 : ((spl 32 line).getD j []).length = 2
   rotate_left
   ·have hn : (gfrom s) = none := gfrom_not2 hmem hmem2 h2
    have hne2 : ((((spl 32 line).getD j []).length : Int) != 2) = true := by rw [bne_iff_ne]; omega
    simp (disch := omega) only [go_sem, a8, a9, hlj, Int.toNat_natCast, hcj, hne2]
    refine bslK_0 elt_ii fun w7 b7 e7 x7 o7 _ => ?_
    simp (disch := omega) only [go_sem, Tryz.results68]
    exact ⟨_, _, _, by rw [hn]; rfl, (xw.trans xi).trans x7, fun rows h => by rw [hn] at h; cases h⟩
   have hne2 : ((((spl 32 line).getD j []).length : Int) != 2) = false := by rw [bne_eq_false_iff_eq]; omega
   have hw2 : (10 : Int) * (((((spl 32 line).getD j []).getD 0 0).toNat : Int) - 48) + ((((spl 32 line).getD j []).getD 1 0).toNat : Int) - 48 = w2 ((spl 32 line).getD j []) := by simp only [w2]; omega
   generalize hword : (spl 32 line).getD j [] = word at *
   have u0 := (word.getD 0 0).toNat_lt
   have u1 := (word.getD 1 0).toNat_lt
   simp (disch := omega) only [go_sem, a8, a9, hlj, Int.toNat_natCast, hcj, hne2]
   have gx : Grow (some rb) W' W' := Grow.refl _ _
   have hlj2 : (j : Int) < ((spl 32 line).length : Int) := hlj
   have hcV : ∀ {V}, Ext W' V → V.cell? ⟨sb2, j, none⟩ = some (.string (bs word)) := fun x => x.cell hcj
   refine QR_sch (some rb) (.st 0 (.st 1 (.st 2 (.st 3 (.st 4 (.st 5 (.st 6 (.st 7 (.st 8 (.st 9 (.st 10 (.st 11 (.st 12 (.st 13 (.st 14 (.st 15 (.st 16 (.ef 17 (.ef 18 (.st 19 (.done))))))))))))))))))))) ke ke fun w0 x0 => ?_
   have X := gx.trans (x0.grow _)
   simp (disch := omega) only [go_sem, a7, a8, a9, hlj2, hne, hcV x0, Int.toNat_natCast, Int.reduceToNat, hw2]
   refine bslK_1 elt_i rfl fun w8 b8 e8 x8 k8 _ => ?_
   have x08 := x0.trans x8
   refine nxE_of (x8.grow _) ?_
   have X := X.trans (x8.grow _)
   simp (disch := omega) only [go_sem, a7, a8, a9, hlj2, hne, hcV x0, Int.toNat_natCast, Int.reduceToNat, hw2]
   refine appK_1 elt_i (orow.ext x08) k8 rfl om (.inl dc) fun w9 a9' c9 o9 g9 h9 => ?_
   refine nxE_of (g9) ?_
   have X := X.trans g9
   skip
   rw [et] at o9
   obtain ⟨b9, rfl⟩ := o9.some om
   have s8 := x08.size
   have hh9 := h9 b9 rfl
   have ls2 : sb2 < W'.heap.size := os2.blk_lt rfl
   simp (disch := omega) only [go_sem, a9]
   refine ⟨hjC, uu, uu, uu, uu, uu, uu, g9.ext (xi.trans x08) (fun b hb => by simp only [blk_some, Option.some.injEq] at hb; omega), (os2.ext x08).grow g9 (fun b hb e => by simp only [blk_some, Option.some.injEq] at hb e; omega), fun i hi => ?_, b9, c9, by simp [upd_apply], o9, ?_, ?_⟩
   ·by_cases e : i = j
    ·subst e; rw [hword]; exact h2
    ·exact htw i om
   ·rcases hh9 with h | h
    ·simp only [blk_some, Option.some.injEq] at h; omega
    ·omega
   ·rcases hh9 with h | h
    ·simp only [blk_some, Option.some.injEq] at h; omega
    ·omega
  ·obtain rfl : j = (spl 32 line).length := om
   rw [take_full ((spl 32 line).map w2) sm] at orow
   have hl7 : ((spl 32 line).map w2).length = (spl 32 line).length := by simp
   simp (disch := omega) only [go_sem, a4, a7, a8, a9, hlj]
   refine bslK_1 elt_ii rfl fun w7 b7 e7 x7 k7 _ => ?_
   have s7 := x7.size
   simp (disch := omega) only [go_sem, a4]
   refine appK_row (l := (spl 32 line).map w2) elt_ii dc br (xi.trans x7) sw (by rw [hl7]; exact orow.ext x7) (fun b hb => by simp only [blk_some, Option.some.injEq] at hb; omega) (by rw [hl7]; exact k7) om fun w8 a8 c8 A8 Cp8 br8 g8 h8 => ?_
   have lsb : sb < W.heap.size := os.blk_lt rfl
   simp (disch := omega) only [go_sem, a6]
   refine ⟨hkR, uu, uu, uu, g8.ext (xw.trans (xi.trans x7)) br.ha, (os.ext (xi.trans x7)).grow g8 (fun b hb e => by simp only [blk_some, Option.some.injEq] at hb; exact hsb' b e om), fun i hi => ?_, a8, c8, _, A8, Cp8, by rw [hrs, take_snoc [] om, hrow], uu, br8, fun b hb => ?_⟩
   ·by_cases e : i = k
    ·subst e
     rw [hline]
     intro t ht
     obtain ⟨q, hq, rfl⟩ := List.getElem_of_mem ht
     have := htw q hq
     rwa [getD_at _ _ hq] at this
    ·exact htwo i om
   ·rcases h8 b hb with h | h
    ·exact hsb' b h
    ·omega
 ·obtain rfl : k = (spl 47 s).length := om
  rw [take_full (gparse s) om] at hrs
  have htwo' : ∀ l ∈ spl 47 s, ∀ t ∈ spl 32 l, t.length = 2 := fun l hl => by
   obtain ⟨i, hi, rfl⟩ := List.getElem_of_mem hl
   have := htwo i hi
   rwa [getD_at _ _ hi] at this
  have hend := gfrom_end htwo'
  rw [← hrs] at hend
  have hrows : ∀ l ∈ rs, (∀ x ∈ l, I64 x) ∧ l.length ≤ maxLen := fun l hl => by
   rw [hrs] at hl
   simp only [gparse, List.mem_map] at hl
   obtain ⟨t, ht, rfl⟩ := hl
   have := spl_mem_len ht
   have := (spl_len_le 32 t).2
   refine ⟨fun x hx => ?_, by simp [maxLen]; omega⟩
   obtain ⟨u, -, rfl⟩ := List.mem_map.1 hx
   have := w2_bnd u
   exact ⟨om, om⟩
  have hr : RowsAt W oa rs A' Cp' := br.at (fun l hl x hx => (hrows l hl).1 x hx) (by simp [maxLen]; omega) fun l hl => (hrows l hl).2
  simp (disch := omega) only [go_sem, a4, a5, a6, hlt]
  refine callK_pure ke (specGridText_c _ _ _ _ _ _ hr) fun w3 x3 => ?_
  generalize hG : (if gvalid rs then gtext rs else []) = G at *
  cases hb : (G == s) with
  | false =>
   rw [hb] at hend
   have hn : gfrom s = none := by cases hg : gfrom s with | none => rfl | some r => rw [hg] at hend; cases hend
   simp (disch := omega) only [go_sem, a0, hb, Bool.not_false]
   refine bslK_0 elt_ii fun w7 b7 e7 x7 o7 _ => ?_
   simp (disch := omega) only [go_sem, Tryz.results68]
   exact ⟨_, _, _, by rw [hn]; rfl, (xw.trans x3).trans x7, fun rows h => by rw [hn] at h; cases h⟩
  | true =>
   rw [hb] at hend
   simp (disch := omega) only [go_sem, a0, hb, Bool.not_true, a4, Tryz.results68]
   refine ⟨_, _, _, by rw [hend], xw.trans x3, fun rows h => ?_⟩
   have : rs = rows := by rw [hrs]; exact (gfrom_some h).2.2
   subst this
   exact ⟨rfl, A', Cp', hr.ext x3, freshB br⟩
theorem l1ChangeF_c (a : Option Addr) (rows : List (List Int)) (A : Nat → Option Addr) (Cp : Nat → Nat) (gc : Nat) (w : World) (hr : RowsAt w a rows A Cp) (v : Valid rows) :
  Ret Tryz.prog 136 #[.slice a rows.length gc, .int .i64 (-1), .int .i64 99] w fun u w' => ∃ a' c' A' Cp', u = .tuple #[.slice a' rows.length c', .bool true] ∧ RowsAt w' a' (mkRows rows.length (rowLen rows) fun i => 99 - hgt rows i) A' Cp' ∧ Ext w w' ∧ FreshR w.heap.size a' rows.length A' := by
 have hR1 := v.r1
 have hR7 := v.r7
 have hC1 := v.c1
 have hC7 := v.c7
 have hh := v.hgt
 have hiv := inv_gvalid v
 refine enter3 Tryz.func136 rfl fun f a0 a1 a2 => ?_
 simp (disch := omega) only [go_sem, a0]
 refine callK_of ke (l1Copy_c _ _ _ _ _ _ hr v) ?_
 rintro _ w1 ⟨ca, cc, A', Cp', rfl, br, x1⟩
 obtain ⟨xs0, ox0, -⟩ := br.top
 obtain ⟨tb, rfl⟩ := ox0.some (by rw [mkRows_len]; omega)
 clear ox0
 generalize hR : rows.length = R at *
 generalize hC : rowLen rows = C at *
 generalize hH : hgt rows = h at *
 simp (disch := omega) only [go_sem]
 refine loopN R (fun r f W => f 1 = .int .i64 (-1) ∧ f 2 = .int .i64 99 ∧ f 8 = .slice (some ⟨tb, 0, none⟩) R cc ∧ f 9 = .int .i64 r ∧ Ext w W ∧ BRows W 35 3 w.heap.size (some ⟨tb, 0, none⟩) cc (mkRows R C fun i => if i < r * C then 99 - h i else h i) A' Cp') ⟨uu, uu, uu, uu, x1, by simpa using br⟩ fun r f W hrR ⟨a1, a2, a8, a9, xw, br⟩ => ?_
 by_cases hlt : (r : Int) < (R : Int)
 ·have hrlt : r < R := om
  have hq : r * C + C ≤ R * C := by
   have := Nat.mul_le_mul_right C (show r + 1 ≤ R from om)
   rw [Nat.add_mul, Nat.one_mul] at this; exact this
  simp (disch := omega) only [go_sem, a8, a9, hlt]
  refine loopN C (fun c f V => f 1 = .int .i64 (-1) ∧ f 2 = .int .i64 99 ∧ f 8 = .slice (some ⟨tb, 0, none⟩) R cc ∧ f 9 = .int .i64 r ∧ f 10 = .int .i64 c ∧ Ext w V ∧ BRows V 35 3 w.heap.size (some ⟨tb, 0, none⟩) cc (mkRows R C fun i => if i < r * C + c then 99 - h i else h i) A' Cp') ⟨uu, uu, uu, uu, uu, xw, by simpa using br⟩ fun c f V hcC ⟨a1, a2, a8, a9, a10, xv, brV⟩ => ?_
  generalize hHd : (fun i => if i < r * C + c then 99 - h i else h i) = H at brV
  obtain ⟨xs, ox, hxs⟩ := brV.top
  have hlr : ((mkRows R C H).getD r []).length = C := by rw [mkRows_row hrlt, mkRow_len]
  have orow := brV.row r (by rw [mkRows_len]; exact hrlt)
  rw [mkRows_row hrlt, mkRow_len] at orow
  obtain ⟨rb, hrb⟩ := orow.some om
  have hrA := hxs r (by rw [mkRows_len]; exact hrlt)
  rw [hlr, hrb] at hrA
  rw [hrb] at orow
  have g0 : V.cell? ⟨tb, r, none⟩ = some (.slice (some ⟨rb, 0, none⟩) C (Cp' r)) := by rw [ox.cell (by rw [mkRows_len]; omega), hrA]
  by_cases hlc : (c : Int) < (C : Int)
  ·have hclt : c < C := om
   have hqi : r * C + c < R * C := om
   have hv := hh (r * C + c) hqi
   have eH : H (r * C + c) = h (r * C + c) := by rw [← hHd]; simp
   have g1 : V.cell? ⟨rb, c, none⟩ = some (.int .i64 (h (r * C + c))) := by rw [orow.cell om, vi_get _ _ (by rw [mkRow_len]; exact hclt), mkRow_get hclt, eH]
   simp (disch := omega) only [go_sem, a8, a9, a10, g0, hlc]
   refine QR_tail 16 ke ke ?_
   simp (disch := omega) only [go_sem, a1, a2, a8, a9, a10, g0, g1]
   intro w6 x6
   refine stK_own siz_int rf rf (orow.ext x6) om fun w7 o7 g7 => ?_
   rw [vi_set] at o7
   obtain ⟨G, hG⟩ : ∃ G : Nat → Int, G = fun i => if i < r * C + (c + 1) then 99 - h i else h i := ⟨_, rfl⟩
   have hval : -1 * h (r * C + c) + 99 = G (r * C + c) := by
    rw [hG]
    show _ = if r * C + c < r * C + (c + 1) then _ else _
    rw [if_pos om]; omega
   have brN := (brV.ext x6).setRow (r := r) (by rw [mkRows_len]; exact hrlt) (l := (mkRow C H r).set c (-1 * h (r * C + c) + 99)) (by rw [List.length_set, hlr, mkRow_len]) (by rw [hrb, List.length_set, mkRow_len]; exact o7) (by rw [hrb]; exact g7.grow)
   rw [hval, mkRows_set hrlt hclt (fun i hi hne => by
    rw [← hHd, hG]
    show (if i < r * C + (c + 1) then _ else _) = (if i < r * C + c then _ else _)
    by_cases h1 : i < r * C + c
    ·rw [if_pos h1, if_pos om]
    ·rw [if_neg h1, if_neg om])] at brN
   simp (disch := omega) only [go_sem, a10]
   exact ⟨hclt, uu, uu, uu, uu, uu, g7.ext (xv.trans x6) (by have := (brV.far r (by rw [mkRows_len]; exact hrlt) rb (by rw [hrb]; rfl)).1; omega), by rw [hG] at brN; exact brN⟩
  ·have e : c = C := om
   simp (disch := omega) only [go_sem, a8, a9, a10, g0, hlc]
   refine ⟨hrlt, uu, uu, uu, uu, xv, ?_⟩
   have e2 : (fun i => if i < (r + 1) * C then 99 - h i else h i) = H := by
    rw [← hHd]; funext i
    rw [Nat.add_mul, Nat.one_mul, e]
   rw [e2]; exact brV
 ·have e : r = R := om
  have e2 : mkRows R C (fun i => if i < r * C then 99 - h i else h i) = mkRows R C fun i => 99 - h i := by
   rw [e]
   apply List.map_congr_left; intro s hs
   apply List.map_congr_left; intro d hd
   have hs := List.mem_range.1 hs
   have hd := List.mem_range.1 hd
   have := Nat.mul_le_mul_right C (show s + 1 ≤ R from om)
   rw [Nat.add_mul, Nat.one_mul] at this
   exact if_pos om
  rw [e2] at br
  have hrN := br.at (mkRows_i64 fun i hi => by have := hh i hi; simp only [I64]; omega) (by rw [mkRows_len]; simp only [maxLen]; omega) (mkRows_lens (by simp only [maxLen]; omega))
  have hlN : (mkRows R C fun i => 99 - h i).length = R := mkRows_len _ _ _
  simp (disch := omega) only [go_sem, a8, a9, hlt]
  have gv := gridValid_c _ _ _ _ cc _ hrN
  rw [hlN] at gv
  refine callK_pure ke (gv) fun w5 x5 => ?_
  simp (disch := omega) only [go_sem, hiv, a8, Tryz.results136]
  exact ⟨_, cc, A', Cp', rfl, hrN.ext x5, xw.trans x5, by have := freshB br; rw [hlN] at this; exact this.low om⟩
theorem specGridInvertF_c (a : Option Addr) (rows : List (List Int)) (A : Nat → Option Addr) (Cp : Nat → Nat) (gc : Nat) (w : World) (hr : RowsAt w a rows A Cp) (hv : gvalid rows = true) :
  Ret Tryz.prog 102 #[.slice a rows.length gc] w fun u w' => ∃ a' c' A' Cp', u = .tuple #[.slice a' rows.length c', .bool true] ∧ RowsAt w' a' (mkRows rows.length (rowLen rows) fun i => 99 - hgt rows i) A' Cp' ∧ Ext w w' ∧ FreshR w.heap.size a' rows.length A' := by
 have v := (gvalid_iff rows).1 hv
 refine enter1 Tryz.func102 rfl fun f a0 => ?_
 simp (disch := omega) only [go_sem, a0]
 refine callK_pure ke (gridValid_c _ _ _ _ _ _ hr) fun w1 x1 => ?_
 simp (disch := omega) only [go_sem, hv, a0]
 refine callK_of ke (l1ChangeF_c _ _ _ _ _ _ (hr.ext x1) v) ?_
 rintro _ w2 ⟨a', c', A', Cp', rfl, hr2, x2, hf⟩
 simp (disch := omega) only [go_sem, Tryz.results102]
 exact ⟨a', c', A', Cp', rfl, hr2, x1.trans x2, hf.low x1.size⟩
theorem specWaterFillF_c (a : Option Addr) (rows : List (List Int)) (A : Nat → Option Addr) (Cp : Nat → Nat) (gc : Nat) (w : World) (hr : RowsAt w a rows A Cp) :
  Ret Tryz.prog 16 #[.slice a rows.length gc] w fun u w' => ∃ a' c' A' Cp', u = .tuple #[.slice a' (if gvalid rows = true then fillOf rows else []).length c', .bool (gvalid rows)] ∧ RowsAt w' a' (if gvalid rows = true then fillOf rows else []) A' Cp' ∧ Ext w w' ∧ FreshR w.heap.size a' (if gvalid rows = true then fillOf rows else []).length A' := by
 refine enter1 Tryz.func16 rfl fun f a0 => ?_
 simp (disch := omega) only [go_sem]
 refine bslK_0 elt_ii fun w0 b0 e0 x0 o0 _ => ?_
 simp (disch := omega) only [go_sem, a0]
 refine callK_pure ke (gridValid_c _ _ _ _ _ _ (hr.ext x0)) fun w1 x1 => ?_
 cases hv : gvalid rows with
 | false =>
  simp (disch := omega) only [go_sem, Tryz.results16]
  exact ⟨some ⟨b0, 0, none⟩, 0, fun _ => none, fun _ => 0, by simp, by simpa using rows_nil _ _ _ _, x0.trans x1, fun b hb => by rcases hb with hb | ⟨r, hr, _⟩ <;> first | (simp at hr; done) | (simp [blk] at hb; omega)⟩
 | true =>
 have v := (gvalid_iff rows).1 hv
 have g := v.gd
 have hR7 := v.r7
 have hC7 := v.c7
 have hR1 := v.r1
 have hp := g.pos
 have hn49 := g.le
 have vf := fillOf_valid v
 simp only [if_true]
 have hfl : fillOf rows = (List.range rows.length).map (mkRw (rowLen rows) (fillK rows.length (rowLen rows) (hgt rows) (rows.length * rowLen rows))) := rfl
 obtain ⟨gb, go, rb, ro, rfl, -, hg⟩ := hr.grid v
 generalize hF : fillOf rows = F at *
 generalize hR : rows.length = R at *
 generalize hC : rowLen rows = C at *
 generalize hH : hgt rows = h at *
 simp (disch := omega) only [go_sem, a0]
 refine callK_of ke (l2Fill_c gb go _ rb ro _ R C h _ ((hg.ext x0).ext x1) g) ?_
 rintro _ w2 ⟨la, lc, rfl, lo, lf, x2⟩
 rw [lsF_len] at lo ⊢
 have x02 := (x0.trans x1).trans x2
 have hg2 := hg.ext x02
 have g00 := hg2.row 0 om
 obtain ⟨lb, rfl⟩ := lo.some hp
 have lcp := lo.le_cap
 have s0 := x0.size
 have s1 := x1.size
 have s2 := x2.size
 have llb := lf lb rfl
 rw [Nat.add_zero] at g00
 simp (disch := omega) only [go_sem, a0, g00]
 generalize fillK R C h (R * C) = H at *
 refine loopN R (fun i f W => f 0 = .slice (some ⟨gb, go, none⟩) R gc ∧ f 5 = .slice (some ⟨lb, 0, none⟩) (R * C) lc ∧ f 6 = .int .i64 C ∧ f 7 = .int .i64 i ∧ Ext w W ∧ OwnS W 3 1 (some ⟨lb, 0, none⟩) (R * C) lc (vi (lsF (R * C) H)) ∧ ∃ a c rs A Cp, rs = (List.range i).map (mkRw C H) ∧ f 4 = .slice a rs.length c ∧ BRows W 35 3 w.heap.size a c rs A Cp ∧ (∀ b, blk a = some b → b ≠ lb) ∧ ∀ r, r < rs.length → blk (A r) ≠ some lb)
  ⟨uu, uu, uu, uu, x02, lo, some ⟨b0, 0, none⟩, 0, [], fun _ => none, fun _ => 0, rfl, uu, BRows.nil ((o0.ext x1).ext x2) (fun b hb => by simp [blk] at hb; omega) _ _, fun b hb => by simp [blk] at hb; omega, fun r hr => by simp at hr⟩ fun i f W hi ⟨a0, a5, a6, a7, xw, lo, oa, oc, rs, A', Cp', hrs, a4, br, hal, hrl2⟩ => ?_
 have hrl : rs.length = i := by rw [hrs]; simp
 by_cases hlt : (i : Int) < (R : Int)
 ·have hiR : i < R := om
  have hq : i * C + C ≤ R * C := by
   have := Nat.mul_le_mul_right C (show i + 1 ≤ R from om)
   rw [Nat.add_mul, Nat.one_mul] at this; exact this
  have hC1 := v.c1
  rw [hC] at hC1
  have m1 : (i : Int) * (C : Int) = ((i * C : Nat) : Int) := by simp
  have m2 : ((i * C : Nat) : Int) + (C : Int) = ((i * C + C : Nat) : Int) := by simp
  simp (disch := omega) only [go_sem, a0, a7, hlt]
  refine bslK_0 elt_i fun w5 b5 e5 x5 o5 _ => ?_
  simp (disch := omega) only [go_sem, a4, a5, a6, a7, m1, m2]
  rw [show i * C + C - i * C = C from om]
  have lo5 := lo.ext x5
  refine appK_of elt_i dc o5 (m := C) (vi (mkRw C H i)) (by rw [vi_len, mkRw_len]; omega) (fun j u hu => ?_) (by simp [vi, Value.oneCell']) (by simp only [maxLen]; omega) om fun w6 a6' c6 o6 g6 h6 => ?_
  ·have hj : j < C := by
    have := (List.getElem?_eq_some_iff.1 hu).1
    rwa [vi_len, mkRw_len] at this
   rw [vi_get _ _ (by rw [mkRw_len]; exact hj)] at hu
   simp only [Option.some.injEq] at hu
   subst hu
   rw [add_mk, lo5.cell om, lsF, vi_rangeI_get _ om]
   simp [mkRw, hj]
  simp only [List.nil_append, Nat.zero_add] at o6 ⊢
  simp (disch := omega) only [go_sem]
  refine bslK_1 elt_ii rfl fun w7 b7 e7 x7 k7 _ => ?_
  have s5 := x5.size
  have s6 := g6.size
  have s7 := x7.size
  have sw := xw.size
  have lb5 := lo.blk_lt (b := lb) rfl
  have br7 := ((br.ext x5).other g6 (fun b _ hb e => by
   have h1 := br.lt hb
   have h2 : b5 = b := (by simpa [blk] using e)
   omega)).ext x7
  obtain ⟨xs, ox, hxs⟩ := br7.top
  simp (disch := omega) only [go_sem]
  refine appK_1 elt_ii ox k7 rfl om (.inr ⟨om, by decide⟩) fun w8 a8 c8 o8 g8 h8 => ?_
  have f6 : ∀ b, blk a6' = some b → W.heap.size ≤ b := fun b hb => by
   rcases h6 b hb with e | e
   ·have h2 : b5 = b := (by simpa [blk] using e)
    omega
   ·omega
  simp (disch := omega) only [go_sem, a7]
  have hN : OwnS w7 3 1 a6' (mkRw C H i).length c6 (vi (mkRw C H i)) := by rw [mkRw_len]; exact o6.ext x7
  refine ⟨hiR, uu, uu, uu, uu, g8.ext ((g6.ext (xw.trans x5) (fun b hb => by have h2 : b5 = b := (by simpa [blk] using hb); omega)).trans x7) br.ha, ((lo5.grow g6 (fun b hb e => ?_)).ext x7).grow g8 (fun b hb e => ?_), a8, c8, rs ++ [mkRw C H i], _, _, by simp [hrs, List.range_succ], ?_, br7.push hN (fun b hb => ⟨by have := f6 b hb; omega, fun e => ?_, fun r hr e => ?_⟩) ox hxs (by rw [mkRw_len]; exact o8) g8 h8 om, fun b hb => ?_, fun r hr => ?_⟩
  ·simp only [blk_some, Option.some.injEq] at hb e; omega
  ·have := hal b e; simp only [blk_some, Option.some.injEq] at hb; omega
  ·simp [upd_apply]
  ·have := f6 b hb; have := br.lt (.inl e); omega
  ·have := f6 b hb; have := br.lt (.inr ⟨r, hr, e⟩); omega
  ·rcases h8 b hb with e | e
   ·exact hal b e
   ·omega
  ·show blk (if r = rs.length then a6' else A' r) ≠ some lb
   split
   ·intro e; have := f6 _ e; omega
   ·rename_i hne
    simp only [List.length_append, List.length_cons, List.length_nil] at hr
    exact hrl2 r om
 ·have e : i = R := om
  rw [e] at hrs hrl
  have hFR : F.length = R := by rw [hfl]; simp
  simp (disch := omega) only [go_sem, a0, a4, a7, hlt, Tryz.results16]
  have lens := valid_lens vf
  exact ⟨oa, oc, A', Cp', by rw [hrl, hFR], by rw [hfl, ← hrs]; exact (br.at (by rw [hrs, ← hfl]; exact valid_i64 vf) (by rw [hrs, ← hfl]; exact lens.2) (by rw [hrs, ← hfl]; exact lens.1)), xw, by have := freshB br; rw [hrl] at this; rw [hFR]; exact this⟩
end Go.Proofs.YtcbmhjndbpafbaaGreatDoor
