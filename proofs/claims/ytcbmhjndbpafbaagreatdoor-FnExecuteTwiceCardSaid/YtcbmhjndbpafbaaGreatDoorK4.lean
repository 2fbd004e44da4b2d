import Derived.Test.YtcbmhjndbpafbaaGreatDoorKc
import Derived.Test.YtcbmhjndbpafbaaGreatDoorK8
set_option linter.all false
set_option maxRecDepth 20000
namespace Go.SW
open Go Go.RowKit
def dropF (hi : Int) (o : Nat → Int) (v : Int) (l : List Nat) : Int := l.foldl (fun v j => min v (max hi (o j))) v
theorem dropF_le {hi t : Int} {o : Nat → Int} : ∀ {l : List Nat} {v : Int}, dropF hi o v l ≤ t ↔ v ≤ t ∨ (hi ≤ t ∧ ∃ j ∈ l, o j ≤ t)
 | [], v => by simp [dropF]
 | a :: l, v => by
  have ih := dropF_le (hi := hi) (t := t) (o := o) (l := l) (v := min v (max hi (o a)))
  simp only [dropF, List.foldl_cons] at ih ⊢
  rw [ih]
  simp only [List.mem_cons, exists_eq_or_imp]
  constructor
  ·rintro (h | ⟨h1, h2⟩)
   ·by_cases hv : v ≤ t
    ·exact .inl hv
    ·exact .inr ⟨om, .inl om⟩
   ·exact .inr ⟨h1, .inr h2⟩
  ·rintro (h | ⟨h1, h2 | h2⟩)
   ·exact .inl om
   ·exact .inl om
   ·exact .inr ⟨h1, h2⟩
theorem dropF_self {hi v : Int} {o : Nat → Int} {l : List Nat} : dropF hi o v l ≤ v := dropF_le.2 (.inl (Int.le_refl _))
theorem dropF_ge {hi v : Int} {o : Nat → Int} {l : List Nat} (h : hi ≤ v) : hi ≤ dropF hi o v l := by
 have := mt (dropF_le (hi := hi) (t := hi - 1) (o := o) (l := l) (v := v)).1 (by rintro (h | ⟨h, -⟩) <;> omega)
 omega
theorem dropF_take {hi v : Int} {o : Nat → Int} {l : List Nat} {m : Nat} (hm : m < l.length) : dropF hi o v (l.take (m + 1)) = min (dropF hi o v (l.take m)) (max hi (o (l.getD m 0))) := by
 rw [List.take_succ_eq_append_getElem hm, dropF, List.foldl_append, getD_at l 0 hm]; rfl
def putF (o : Nat → Int) (i : Nat) (v : Int) : Nat → Int := fun x => if x = i then v else o x
section
variable (R C : Nat) (h : Nat → Int)
def cellF (o : Nat → Int) (i : Nat) : Nat → Int := putF o i (if bordB R C i then o i else dropF (h i) o (o i) (nearN R C i))
def sweepTo (o : Nat → Int) : Nat → Nat → Int
 | 0 => o
 | k + 1 => cellF R C h (sweepTo o k) k
def fill0 : Nat → Int := fun i => if bordB R C i then h i else 99
def fillK : Nat → Nat → Int
 | 0 => fill0 R C h
 | k + 1 => sweepTo R C h (fillK k) (R * C)
end
section
variable {R C : Nat} {h : Nat → Int}
theorem cellF_thr {t : Int} {o o' : Nat → Int} (e : ∀ x, o x ≤ t ↔ o' x ≤ t) (i x : Nat) : cellF R C h o i x ≤ t ↔ cellF R C h o' i x ≤ t := by
 simp only [cellF, putF]
 split
 ·split
  ·exact e i
  ·rw [dropF_le, dropF_le, e i]
   simp only [e]
 ·exact e x
theorem sweepTo_thr {t : Int} {o o' : Nat → Int} (e : ∀ x, o x ≤ t ↔ o' x ≤ t) : ∀ k x, sweepTo R C h o k x ≤ t ↔ sweepTo R C h o' k x ≤ t
 | 0, x => e x
 | k + 1, x => cellF_thr (sweepTo_thr e k) k x
theorem cellF_le (o : Nat → Int) (i x : Nat) : cellF R C h o i x ≤ o x := by
 simp only [cellF, putF]
 split
 ·rename_i e; subst e
  split
  ·exact Int.le_refl _
  ·exact dropF_self
 ·exact Int.le_refl _
theorem sweepTo_le (o : Nat → Int) : ∀ k x, sweepTo R C h o k x ≤ o x
 | 0, _ => Int.le_refl _
 | k + 1, x => Int.le_trans (cellF_le _ k x) (sweepTo_le o k x)
theorem sweepTo_out (o : Nat → Int) : ∀ k x, k ≤ x → sweepTo R C h o k x = o x
 | 0, _, _ => rfl
 | k + 1, x, hx => by
  have : x ≠ k := om
  simp only [sweepTo, cellF, putF, if_neg this]
  exact sweepTo_out o k x om
theorem fillK_le (k x : Nat) : fillK R C h (k + 1) x ≤ fillK R C h k x := sweepTo_le _ _ x
theorem sub_cnt {p q : Nat → Prop} [DecidablePred p] [DecidablePred q] {n : Nat} (hpq : ∀ i, i < n → p i → q i) (hx : ∃ i, i < n ∧ q i ∧ ¬ p i) : cntp p n < cntp q n := by
 have h1 := cntp_split p (fun i => q i ∧ ¬ p i) q n fun i hi => ⟨⟨fun hq => by
  by_cases hp : p i
  ·exact .inl hp
  ·exact .inr ⟨hq, hp⟩, fun hh => hh.elim (hpq i hi) (·.1)⟩, fun hh => hh.2.2 hh.1⟩
 have h2 := (cntp_posI (fun i => q i ∧ ¬ p i) (n := n)).2 hx
 omega
theorem fillK_thr (t : Int) : ∀ k, (∀ x, fillK R C h (k + 1) x ≤ t ↔ fillK R C h k x ≤ t) ∨ k + 1 ≤ cntp (fun x => fillK R C h (k + 1) x ≤ t) (R * C)
 | 0 => by
  by_cases hh : ∀ x, fillK R C h 1 x ≤ t ↔ fillK R C h 0 x ≤ t
  ·exact .inl hh
  ·refine .inr ?_
   obtain ⟨x, hx⟩ := Classical.not_forall.1 hh
   have h1 := fillK_le (R := R) (C := C) (h := h) 0 x
   refine (cntp_posI _).2 ⟨x, ?_, ?_⟩
   ·refine Classical.byContradiction fun hn => hx ?_
    rw [show fillK R C h 1 x = fillK R C h 0 x from sweepTo_out _ _ x om]
   ·refine Classical.byContradiction fun hn => hx ⟨fun h => absurd h hn, fun h => om⟩
 | k + 1 => by
  rcases fillK_thr t k with ih | ih
  ·exact .inl (sweepTo_thr ih _)
  ·by_cases hh : ∀ x, fillK R C h (k + 1 + 1) x ≤ t ↔ fillK R C h (k + 1) x ≤ t
   ·exact .inl hh
   ·refine .inr (Nat.lt_of_le_of_lt ih (sub_cnt (fun i _ hi => Int.le_trans (fillK_le _ i) hi) ?_))
    obtain ⟨x, hx⟩ := Classical.not_forall.1 hh
    have h1 := fillK_le (R := R) (C := C) (h := h) (k + 1) x
    refine ⟨x, ?_, ?_, ?_⟩
    ·refine Classical.byContradiction fun hn => hx ?_
     rw [show fillK R C h (k + 1 + 1) x = fillK R C h (k + 1) x from sweepTo_out _ _ x om]
    ·refine Classical.byContradiction fun hn => hx ⟨fun h => absurd h hn, fun h => om⟩
    ·intro hn
     exact hx ⟨fun _ => hn, fun _ => om⟩
theorem fillK_stop : fillK R C h (R * C + 1) = fillK R C h (R * C) := by
 funext x
 refine Int.le_antisymm (fillK_le _ x) ?_
 rcases fillK_thr (R := R) (C := C) (h := h) (fillK R C h (R * C + 1) x) (R * C) with hh | hh
 ·exact (hh x).1 (Int.le_refl _)
 ·have := cntp_le (fun y => fillK R C h (R * C + 1) y ≤ fillK R C h (R * C + 1) x) (R * C)
  omega
theorem fillK_same {k : Nat} (e : fillK R C h (k + 1) = fillK R C h k) : ∀ m, fillK R C h (k + m) = fillK R C h k
 | 0 => rfl
 | m + 1 => by
  have ih := fillK_same e m
  show sweepTo R C h (fillK R C h (k + m)) (R * C) = _
  rw [ih]; exact e
theorem fillK_done {k : Nat} (hk : k ≤ R * C) (e : fillK R C h (k + 1) = fillK R C h k) : fillK R C h (k + 1) = fillK R C h (R * C) := by
 have := fillK_same e (R * C - k)
 rw [show k + (R * C - k) = R * C from om] at this
 rw [e, this]
theorem fillK_more {k : Nat} (hk : k ≤ R * C) (hx : ∃ x, fillK R C h (k + 1) x < fillK R C h k x) : k + 1 ≤ R * C := by
 obtain ⟨x, hx⟩ := hx
 refine Classical.byContradiction fun hn => ?_
 obtain rfl : k = R * C := om
 rw [fillK_stop] at hx; omega
theorem sweepTo_bord (o : Nat → Int) {i : Nat} (hb : bordB R C i = true) : ∀ k, sweepTo R C h o k i = o i
 | 0 => rfl
 | k + 1 => by
  simp only [sweepTo, cellF, putF]
  split
  ·rename_i e; subst e
   rw [if_pos hb]; exact sweepTo_bord o hb _
  ·exact sweepTo_bord o hb k
theorem fillK_bord {i : Nat} (hb : bordB R C i = true) : ∀ k, fillK R C h k i = h i
 | 0 => by simp [fillK, fill0, hb]
 | k + 1 => by rw [fillK, sweepTo_bord _ hb, fillK_bord hb k]
theorem sweepTo_ge {o : Nat → Int} (ho : ∀ x, x < R * C → h x ≤ o x) : ∀ k x, x < R * C → h x ≤ sweepTo R C h o k x
 | 0, x, hx => ho x hx
 | k + 1, x, hx => by
  have ih := sweepTo_ge ho k
  simp only [sweepTo, cellF, putF]
  split
  ·rename_i e; subst e
   split
   ·exact ih x hx
   ·exact dropF_ge (ih x hx)
  ·exact ih x hx
theorem fillK_ge (hh : ∀ x, x < R * C → h x ≤ 99) : ∀ k x, x < R * C → h x ≤ fillK R C h k x
 | 0, x, hx => by
  have := hh x hx
  simp only [fillK, fill0]; split <;> omega
 | k + 1, x, hx => sweepTo_ge (fillK_ge hh k) _ x hx
theorem fillK_99 (hh : ∀ x, x < R * C → h x ≤ 99) : ∀ k x, x < R * C → fillK R C h k x ≤ 99
 | 0, x, hx => by
  have := hh x hx
  simp only [fillK, fill0]; split <;> omega
 | k + 1, x, hx => Int.le_trans (fillK_le k x) (fillK_99 hh k x hx)
theorem cellF_put {o : Nat → Int} {i : Nat} (hb : bordB R C i = true → o i = h i) : putF o i (dropF (h i) o (o i) (nearN R C i)) = cellF R C h o i := by
 unfold cellF
 split
 ·rename_i hh
  congr 1
  exact Int.le_antisymm dropF_self (by rw [hb hh]; exact dropF_ge (Int.le_refl _))
 ·rfl
end
theorem putF_self (o : Nat → Int) (i : Nat) : putF o i (o i) = o := by
 funext x; simp only [putF]; split
 ·rename_i e; rw [e]
 ·rfl
theorem putF_put (o : Nat → Int) (i : Nat) (v u : Int) : putF (putF o i v) i u = putF o i u := by
 funext x; simp only [putF]; split <;> rfl
theorem putF_at (o : Nat → Int) (i : Nat) (v : Int) : putF o i v i = v := by simp [putF]
theorem putF_ne {o : Nat → Int} {i j : Nat} {v : Int} (e : j ≠ i) : putF o i v j = o j := by simp [putF, e]
def lsF (n : Nat) (o : Nat → Int) : List Int := (List.range n).map o
theorem lsF_put {n i : Nat} {o : Nat → Int} {v : Int} (hi : i < n) : (vi (lsF n o)).set i (.int .i64 v) = vi (lsF n (putF o i v)) :=
 vi_rangeI_set hi (putF_at o i v).symm fun j _ hne => putF_ne hne
theorem lsF_len (n : Nat) (o : Nat → Int) : (lsF n o).length = n := by simp [lsF]
theorem lsF_congr {n : Nat} {o o' : Nat → Int} (h : ∀ x, x < n → o x = o' x) : lsF n o = lsF n o' := List.map_congr_left fun x hx => h x (List.mem_range.1 hx)
end Go.SW
namespace Go.Proofs.YtcbmhjndbpafbaaGreatDoor
open Go.RowKit Go.SW
def fillOf (rows : List (List Int)) : List (List Int) := mkRows rows.length (rowLen rows) (fillK rows.length (rowLen rows) (hgt rows) (rows.length * rowLen rows))
theorem filled_c (R C cb : Nat) (h : Nat → Int) (w : World) (g : Gd R C h) (hc : CellsAt w cb (R * C) h) :
  Ret Tryz.prog 40 #[.agg #[.int .i64 R, .int .i64 C, .slice (some ⟨cb, 0, none⟩) (R * C) (R * C)]] w fun v w' => ∃ nb, v = .agg #[.int .i64 R, .int .i64 C, .slice (some ⟨nb, 0, none⟩) (R * C) (R * C)] ∧ Ext w w' ∧ w.heap.size ≤ nb ∧ OwnS w' 3 1 (some ⟨nb, 0, none⟩) (R * C) (R * C) (vi (lsF (R * C) (fillK R C h (R * C)))) := by
 have hR7 := g.r7
 have hC7 := g.c7
 have hn49 := g.le
 have hcb := hc.lt g.pos
 have hh99 : ∀ x, x < R * C → h x ≤ 99 := fun x hx => (g.hh x hx).2
 refine enter1 Tryz.func40 rfl fun f a0 => ?_
 simp only [go_sem, a0]
 refine boxK_of fun w0 fb e0 x0 kf _ => ?_
 have kf : Blk w0 fb #[.int .i64 R, .int .i64 C, .slice (some ⟨cb, 0, none⟩) (R * C) (R * C)] 70 := by simpa [Value.cells] using kf
 simp (disch := omega) only [go_sem]
 refine allocK_of zero_f fun w1 rb e1 x1 kr _ => ?_
 have kf1 := kf.ext x1
 simp (disch := omega) only [go_sem, kf1.cell]
 refine callK_of ke (blank_c R C _ om om) ?_
 rintro _ w2 ⟨nb, rfl, x2, hnb, on⟩
 simp (disch := omega) only [go_sem]
 refine allocK_of zero_f fun w3 ob e3 x3 ko _ => ?_
 simp (disch := omega) only [go_sem]
 refine stK_agg siz_f sm oi ko sm fun w4 ko g4 => ?_
 have s0 := x0.size
 have s1 := x1.size
 have s2 := x2.size
 have s3 := x3.size
 have s4 := g4.size
 have lnb := on.blk_lt (b := nb) rfl
 have lfb := kf.lt
 have lrb := kr.lt
 have x4 : Ext w w4 := g4.ext (((x0.trans x1).trans x2).trans x3) om
 have kf4 := g4.grow.blk ((kf1.ext x2).ext x3) sq
 have kr4 := g4.grow.blk ((kr.ext x2).ext x3) sq
 have on4 := (on.ext x3).grow g4.grow (by simp [blk]; omega)
 rw [vi_rangeI_zero (R * C) (fun _ => 0) fun _ _ => rfl] at on4
 simp (disch := omega) only [go_sem, kf4.cell]
 let S : F → World → (Nat → Int) → Prop := fun f W o => f 1 = .pointer (some ⟨fb, 0, none⟩) ∧ f 2 = .pointer (some ⟨rb, 0, none⟩) ∧ f 3 = .pointer (some ⟨ob, 0, none⟩) ∧ Ext w W ∧ Blk W fb #[.int .i64 R, .int .i64 C, .slice (some ⟨cb, 0, none⟩) (R * C) (R * C)] 70 ∧ (∃ cs, Blk W rb cs 70 ∧ cs.size = 3) ∧ Blk W ob #[.int .i64 R, .int .i64 C, .slice (some ⟨nb, 0, none⟩) (R * C) (R * C)] 70 ∧ OwnS W 3 1 (some ⟨nb, 0, none⟩) (R * C) (R * C) (vi (lsF (R * C) o))
 refine loopN (R * C) (fun k f W => f 18 = .slice (some ⟨cb, 0, none⟩) (R * C) (R * C) ∧ f 19 = .int .i64 (R * C : Nat) ∧ f 20 = .int .i64 k ∧ S f W fun x => if x < k then fill0 R C h x else 0)
  ⟨uu, uu, uu, uu, uu, uu, x4, kf4, ⟨_, kr4, by simp⟩, ko, by simpa [lsF] using on4⟩ fun k f W hk ⟨a18, a19, a20, a1, a2, a3, xw, kfW, ⟨rs, krW, hrs⟩, koW, oW⟩ => ?_
 by_cases hlt : (k : Int) < (R * C : Nat)
 ·have hkn : k < R * C := om
  have ck := (hc.ext xw) k hkn
  have sw := xw.size
  simp (disch := omega) only [go_sem, a1, a3, a18, a19, a20, hlt, ck, koW.cell]
  refine stK_own siz_int rf rf oW hkn fun w5 o5 g5 => ?_
  rw [lsF_put hkn] at o5
  have kf5 := g5.grow.blk kfW sq
  have kr5 := g5.grow.blk krW sq
  have ko5 := g5.grow.blk koW sq
  have x5 : Ext w w5 := g5.ext xw om
  simp (disch := omega) only [go_sem, a1, readCells_blk kf5 (n := 3) sm]
  refine callK_pure ke (border_c R C k _ _ hR7 hC7 hkn) fun w6 x6 => ?_
  cases hb : bordB R C k with
  | false =>
   simp (disch := omega) only [go_sem, a20]
   refine ⟨hkn, uu, uu, uu, uu, uu, uu, x5.trans x6, kf5.ext x6, ⟨_, kr5.ext x6, hrs⟩, ko5.ext x6, ?_⟩
   rw [lsF_congr (o' := putF (fun x => if x < k then fill0 R C h x else 0) k 99) fun x hx => ?_]
   ·exact o5.ext x6
   ·simp only [putF]
    by_cases e : x = k
    ·subst e; simp [fill0, hb]
    ·rw [if_neg e]; by_cases e2 : x < k
     ·rw [if_pos e2, if_pos om]
     ·rw [if_neg e2, if_neg om]
  | true =>
   have ko6 := ko5.ext x6
   simp (disch := omega) only [go_sem, a3, ko6.cell]
   refine stK_own siz_int rf rf (o5.ext x6) hkn fun w7 o7 g7 => ?_
   rw [lsF_put hkn, putF_put] at o7
   have s6 := x6.size
   have s5 := g5.size
   simp (disch := omega) only [go_sem, a20]
   refine ⟨hkn, uu, uu, uu, uu, uu, uu, g7.ext (x5.trans x6) om, g7.grow.blk (kf5.ext x6) sq, ⟨_, g7.grow.blk (kr5.ext x6) sq, hrs⟩, g7.grow.blk ko6 sq, ?_⟩
   rw [lsF_congr (o' := putF (fun x => if x < k then fill0 R C h x else 0) k (h k)) fun x hx => ?_]
   ·exact o7
   ·simp only [putF]
    by_cases e : x = k
    ·subst e; simp [fill0, hb]
    ·rw [if_neg e]; by_cases e2 : x < k
     ·rw [if_pos e2, if_pos om]
     ·rw [if_neg e2, if_neg om]
 have ek : k = R * C := om
 rw [ek, lsF_congr (o' := fillK R C h 0) fun x hx => by rw [if_pos hx]; rfl] at oW
 simp (disch := omega) only [go_sem, a19, a20, hlt]
 refine loopN (R * C + 2) (fun k f W => ∃ m ch, f 6 = .bool ch ∧ (ch = true → m = k ∧ m ≤ R * C) ∧ (ch = false → fillK R C h m = fillK R C h (R * C)) ∧ S f W (fillK R C h m))
  ⟨0, true, uu, fun _ => ⟨rfl, om⟩, fun e => (by cases e), uu, uu, uu, xw, kfW, ⟨rs, krW, hrs⟩, koW, oW⟩ fun k f W hk ⟨m, ch, a6, hch, hcf, a1, a2, a3, xw, kfW, ⟨rs, krW, hrs⟩, koW, oW⟩ => ?_
 cases ch with
 | false =>
  rw [hcf rfl] at oW
  have sw := xw.size
  simp (disch := omega) only [go_sem, a2, a3, a6, readCells_blk koW (n := 3) sm]
  refine stK_agg siz_f sm oi krW hrs fun w5 kr5 g5 => ?_
  simp (disch := omega) only [go_sem, a2, readCells_blk kr5 (n := 3) sm, Tryz.results40]
  exact ⟨nb, rfl, g5.ext xw om, om, oW.grow g5.grow (by simp [blk]; omega)⟩
 | true =>
 obtain ⟨rfl, hmN⟩ := hch rfl
 simp (disch := omega) only [go_sem, a1, a6, kfW.cell]
 generalize hO : fillK R C h m = O at *
 have hOb : ∀ i, bordB R C i = true → O i = h i := fun i hb => by rw [← hO]; exact fillK_bord hb m
 refine loopN (R * C) (fun i f W => f 40 = .slice (some ⟨cb, 0, none⟩) (R * C) (R * C) ∧ f 41 = .int .i64 (R * C : Nat) ∧ f 42 = .int .i64 i ∧ (∃ ch, f 6 = .bool ch ∧ (ch = true ↔ ∃ x, sweepTo R C h O i x < O x)) ∧ S f W (sweepTo R C h O i))
  ⟨uu, uu, uu, ⟨false, uu, by simp [sweepTo]⟩, uu, uu, uu, xw, kfW, ⟨rs, krW, hrs⟩, koW, oW⟩ fun i f W hi ⟨a40, a41, a42, ⟨ch, a6, hch⟩, a1, a2, a3, xw, kfW, ⟨rs, krW, hrs⟩, koW, oW⟩ => ?_
 by_cases hlt : (i : Int) < (R * C : Nat)
 ·have hin : i < R * C := om
  have ck := (hc.ext xw) i hin
  simp (disch := omega) only [go_sem, a1, a40, a41, a42, hlt, ck, readCells_blk kfW (n := 3) sm]
  refine callK_of ke (neighbors_c _ _ i _ _ hR7 hC7 hin) ?_
  rintro _ w6 ⟨na, nc, rfl, no, nn, x6⟩
  have hn4 := nearN_len R C i
  have hOi : bordB R C i = true → sweepTo R C h O i i = h i := fun hb => by rw [sweepTo_out _ _ _ (Nat.le_refl i)]; exact hOb i hb
  have hle := sweepTo_le (R := R) (C := C) (h := h) O i
  have hput := cellF_put hOi
  have hsw : sweepTo R C h O (i + 1) = cellF R C h (sweepTo R C h O i) i := rfl
  rw [← hput] at hsw
  generalize sweepTo R C h O i = P at *
  have sw := xw.size
  have hnn : blk na ≠ some nb := fun e => by have := nn nb e; have := oW.blk_lt (b := nb) rfl; omega
  simp (disch := omega) only [go_sem]
  refine loopN (nearN R C i).length (fun j f V => f 7 = .int .i64 i ∧ f 8 = .int .i64 (h i) ∧ f 40 = .slice (some ⟨cb, 0, none⟩) (R * C) (R * C) ∧ f 41 = .int .i64 (R * C : Nat) ∧ f 42 = .int .i64 i ∧ f 49 = .slice na (nearN R C i).length nc ∧ f 50 = .int .i64 (nearN R C i).length ∧ f 51 = .int .i64 j ∧
    OwnS V 3 1 na (nearN R C i).length nc (vi (ni (nearN R C i))) ∧ (∃ ch, f 6 = .bool ch ∧ (ch = true ↔ ∃ x, putF P i (dropF (h i) P (P i) ((nearN R C i).take j)) x < O x)) ∧ S f V (putF P i (dropF (h i) P (P i) ((nearN R C i).take j))))
   ⟨uu, uu, uu, uu, uu, uu, uu, uu, no, ⟨ch, uu, by simpa [dropF, putF_self] using hch⟩, uu, uu, uu, xw.trans x6, kfW.ext x6, ⟨rs, krW.ext x6, hrs⟩, koW.ext x6, by simpa [dropF, putF_self] using oW.ext x6⟩ fun j f V hj ⟨a7, a8, a40, a41, a42, a49, a50, a51, noV, ⟨ch, a6, hch⟩, a1, a2, a3, xV, kfV, ⟨rs, krV, hrs⟩, koV, oV⟩ => ?_
  by_cases hlm : (j : Int) < (nearN R C i).length
  ·have hjl : j < (nearN R C i).length := om
   obtain ⟨nb2, rfl⟩ := no.some om
   have hmem : (nearN R C i).getD j 0 ∈ nearN R C i := getD_mem hjl
   have hjk : (nearN R C i).getD j 0 < R * C := nearN_lt hin _ hmem
   have hji : (nearN R C i).getD j 0 ≠ i := fun e => near_ne hin (by rw [e] at hmem; exact hmem)
   have g0 : V.cell? ⟨nb2, j, none⟩ = some (.int .i64 ((nearN R C i).getD j 0 : Nat)) := by rw [noV.cell om, vi_get _ _ (by rw [ni_len]; omega), ni_get _ om]
   have htk := dropF_take (hi := h i) (v := P i) (o := P) hjl
   have hvl := dropF_self (hi := h i) (v := P i) (o := P) (l := (nearN R C i).take j)
   generalize dropF (h i) P (P i) ((nearN R C i).take j) = v at *
   generalize dropF (h i) P (P i) ((nearN R C i).take (j + 1)) = v' at *
   generalize (nearN R C i).getD j 0 = q at *
   have g1 : V.cell? ⟨nb, q, none⟩ = some (.int .i64 (P q)) := by rw [oV.cell om, lsF, vi_rangeI_get _ hjk, putF_ne hji]
   have g2 : V.cell? ⟨nb, i, none⟩ = some (.int .i64 v) := by rw [oV.cell om, lsF, vi_rangeI_get _ hin, putF_at]
   have sV := xV.size
   by_cases hlv : max (h i) (P q) < v
   ·have hv' : v' = max (h i) (P q) := om
    simp (disch := omega) only [go_sem, a3, a7, a8, a49, a50, a51, hlm, g0, g1, g2, koV.cell, hlv]
    refine stK_own siz_int rf rf oV hin fun w7 o7 g7 => ?_
    rw [lsF_put hin, putF_put, ← hv'] at o7
    simp (disch := omega) only [go_sem, a51]
    refine ⟨hjl, uu, uu, uu, uu, uu, uu, uu, uu, noV.grow g7.grow (fun b hb e => hnn (hb.trans e.symm)), ⟨true, uu, ?_⟩, uu, uu, uu, g7.ext xV om, g7.grow.blk kfV sq, ⟨rs, g7.grow.blk krV sq, hrs⟩, g7.grow.blk koV sq, o7⟩
    refine ⟨fun _ => ⟨i, ?_⟩, fun _ => rfl⟩
    rw [putF_at]; have := hle i; omega
   ·have hv' : v' = v := om
    simp (disch := omega) only [go_sem, a3, a7, a8, a49, a50, a51, hlm, g0, g1, g2, koV.cell, hlv]
    exact ⟨hjl, uu, uu, uu, uu, uu, uu, uu, uu, noV, ⟨ch, uu, by rw [hv']; exact hch⟩, uu, uu, uu, xV, kfV, ⟨rs, krV, hrs⟩, koV, by rw [hv']; exact oV⟩
  ·obtain rfl : j = (nearN R C i).length := om
   rw [List.take_length, ← hsw] at hch oV
   simp (disch := omega) only [go_sem, a42, a50, a51, hlm]
   exact ⟨hin, uu, uu, uu, ⟨ch, uu, hch⟩, uu, uu, uu, xV, kfV, ⟨rs, krV, hrs⟩, koV, oV⟩
 ·obtain rfl : i = R * C := om
  have hnx : sweepTo R C h O (R * C) = fillK R C h (m + 1) := by rw [← hO]; rfl
  simp only [hnx] at oW hch
  simp (disch := omega) only [go_sem, a41, a42, hlt]
  refine ⟨by first | trivial | omega, m + 1, ch, uu, fun e => ⟨rfl, fillK_more hmN (by rw [hO]; exact hch.1 e)⟩, fun e => fillK_done hmN ?_, uu, uu, uu, xw, kfW, ⟨rs, krW, hrs⟩, koW, oW⟩
  funext x
  refine Int.le_antisymm (fillK_le m x) ?_
  refine Classical.byContradiction fun hn => ?_
  have := hch.2 ⟨x, by rw [← hO]; omega⟩
  rw [e] at this; cases this
theorem implWaterFill_c (a : Option Addr) (rows : List (List Int)) (A : Nat → Option Addr) (Cp : Nat → Nat) (gc : Nat) (w : World) (hr : RowsAt w a rows A Cp) :
  Ret Tryz.prog 15 #[.slice a rows.length gc] w fun u w' => (gvalid rows = true ∧ ∃ b A', u = .tuple #[.slice (some ⟨b, 0, none⟩) rows.length rows.length, .bool true] ∧ Ext w w' ∧ OwnRows w' 35 3 w.heap.size b (fillOf rows) A') ∨ (gvalid rows = false ∧ u = .tuple #[.slice none 0 0, .bool false] ∧ Ext w w') := by
 refine enter1 Tryz.func15 rfl fun f a0 => ?_
 simp (disch := omega) only [go_sem, a0]
 refine callK_of ke (fieldOf_c _ _ _ _ _ _ hr) ?_
 rintro _ w2 ⟨x2, (⟨hvt, cb, rfl, hcb, o⟩ | ⟨hv', rfl⟩)⟩
 rotate_left
 ·simp (disch := omega) only [go_sem]
  refine allocK_of zero_f fun w3 fb _ x3 k3 _ => ?_
  simp (disch := omega) only [go_sem]
  refine stK_agg siz_f sm oi k3 sm fun w4 k4 g4 => ?_
  have x4 : Ext w w4 := g4.ext (x2.trans x3) (by have := x2.size; omega)
  have hv : gvalid rows = false := hv'
  simp (disch := omega) only [go_sem, Tryz.results15]
  exact .inr ⟨hv, trivial, x4⟩
 have hv : gvalid rows = true := hvt
 have v := (gvalid_iff rows).1 hv
 have g := v.gd
 have hn49 := g.le
 simp (disch := omega) only [go_sem]
 refine allocK_of zero_f fun w3 fb _ x3 k3 _ => ?_
 simp (disch := omega) only [go_sem]
 refine stK_agg siz_f sm oi k3 sm fun w4 kb g4 => ?_
 have s2 := x2.size
 have s3 := x3.size
 have x4 : Ext w w4 := g4.ext (x2.trans x3) om
 have s4 := x4.size
 have hc : CellsAt w4 cb (rows.length * rowLen rows) (hgt rows) := fun i hi => by
  have := ((o.cellsAt.ext x3).grow g4.grow (by have := o.cellsAt.lt g.pos; simp; omega)) i hi
  simpa only [hs_get rows i hi] using this
 simp (disch := omega) only [go_sem, kb.cell, readCells_blk kb (n := 3) sm]
 refine callK_of ke (filled_c _ _ cb (hgt rows) _ g hc) ?_
 rintro _ w5 ⟨nb, rfl, x5, hnb, on⟩
 have hcn : CellsAt w5 nb (rows.length * rowLen rows) (fillK rows.length (rowLen rows) (hgt rows) (rows.length * rowLen rows)) := fun i hi => by rw [on.cell om, lsF, vi_rangeI_get _ hi]
 simp (disch := omega) only [go_sem]
 refine callK_of ke (lists_c _ _ _ _ _ hcn (by have := g.r7; omega) v.c1 (by have := g.c7; omega)) ?_
 rintro _ w6 ⟨b, A', rfl, x6, or⟩
 have s4 := x4.size
 have s5 := x5.size
 simp (disch := omega) only [go_sem, Tryz.results15]
 exact .inl ⟨hv, b, A', rfl, (x4.trans x5).trans x6, ⟨or.top, by have := or.hb; omega, fun r hr => let ⟨br, h1, h2, h3, oo⟩ := or.row r hr; ⟨br, h1, om, h3, oo⟩, or.inj⟩⟩
theorem l2Fill_c (gb go gc : Nat) (rb ro rc : Nat → Nat) (R C : Nat) (h : Nat → Int) (w : World) (hg : GridAt w gb go rb ro rc R C h) (g : Gd R C h) :
  Ret Tryz.prog 43 #[.slice (some ⟨gb, go, none⟩) R gc] w fun v w' => Got1 w w' (lsF (R * C) (fillK R C h (R * C))) v := by
 have hR7 := g.r7
 have hC7 := g.c7
 have hn49 := g.le
 have hp := g.pos
 have hR1 : 1 ≤ R := Nat.pos_of_ne_zero fun e => by subst e; simp at hp
 refine enter1 Tryz.func43 rfl fun f a0 => ?_
 simp (disch := omega) only [go_sem]
 refine bslK_0 elt_i fun w0 b0 e0 x0 o0 _ => ?_
 simp (disch := omega) only [go_sem]
 refine loopN (R * C) (fun k f W => f 0 = .slice (some ⟨gb, go, none⟩) R gc ∧ f 4 = .int .i64 k ∧ Ext w W ∧ ∃ a c, f 3 = .slice a k c ∧ OwnS W 3 1 a k c (vi (lsF k (fill0 R C h))) ∧ ∀ b, blk a = some b → w.heap.size ≤ b)
  ⟨uu, uu, x0, some ⟨b0, 0, none⟩, 0, uu, by simpa [lsF, vi] using o0, fun b hb => by simp only [blk_some, Option.some.injEq] at hb; omega⟩ fun k f W hk ⟨a0, a4, xw, oa, oc, a3, oW, fW⟩ => ?_
 simp (disch := omega) only [go_sem, a0, a4]
 refine callK_pure ke (l2Cells_c gb go gc rb ro rc R C h _ (hg.ext xw) hR1 hR7 hC7) fun w1 x1 => ?_
 by_cases hlt : (k : Int) < (R * C : Nat)
 ·have hkn : k < R * C := om
  have hk99 := g.hh k hkn
  simp (disch := omega) only [go_sem, hlt, a0, a4]
  refine callK_pure ke (l2Border_c gb go gc rb ro rc R C h _ ((hg.ext xw).ext x1) hR7 hC7 k hkn) fun w2 x2 => ?_
  have sw := xw.size
  cases hb : bordB R C k with
  | false =>
   simp (disch := omega) only [go_sem]
   refine bslK_1 elt_i rfl fun w3 b3 e3 x3 k3 _ => ?_
   have x13 := (x1.trans x2).trans x3
   have s13 := x13.size
   simp (disch := omega) only [go_sem, a3]
   refine appK_1 elt_i (oW.ext x13) k3 rfl om (.inl dc) fun w4 a4' c4 o4 g4 h4 => ?_
   simp (disch := omega) only [go_sem, a4]
   have e : vi (lsF k (fill0 R C h)) ++ [.int .i64 99] = vi (lsF (k + 1) (fill0 R C h)) := by simp [vi, lsF, List.range_succ, fill0, hb]
   try rw [Int.toNat_natCast] at o4
   rw [e] at o4
   refine ⟨hkn, uu, uu, g4.ext (xw.trans x13) fW, a4', c4, uu, o4, fun b hb => ?_⟩
   rcases h4 b hb with h | h
   ·exact fW b h
   ·omega
  | true =>
   simp (disch := omega) only [go_sem, a0, a4]
   refine callK_pure ke (l2Height_c gb go gc rb ro rc R C h _ (((hg.ext xw).ext x1).ext x2) hR7 hC7 k om om) fun w5 x5 => ?_
   simp (disch := omega) only [go_sem]
   refine bslK_1 elt_i rfl fun w3 b3 e3 x3 k3 _ => ?_
   have x13 := ((x1.trans x2).trans x5).trans x3
   have s13 := x13.size
   simp (disch := omega) only [go_sem, a3]
   refine appK_1 elt_i (oW.ext x13) k3 rfl om (.inl dc) fun w4 a4' c4 o4 g4 h4 => ?_
   simp (disch := omega) only [go_sem, a4]
   have e : vi (lsF k (fill0 R C h)) ++ [.int .i64 (h k)] = vi (lsF (k + 1) (fill0 R C h)) := by simp [vi, lsF, List.range_succ, fill0, hb]
   try rw [Int.toNat_natCast] at o4
   rw [e] at o4
   refine ⟨hkn, uu, uu, g4.ext (xw.trans x13) fW, a4', c4, uu, o4, fun b hb => ?_⟩
   rcases h4 b hb with h | h
   ·exact fW b h
   ·omega
 obtain rfl : k = R * C := om
 obtain ⟨nb, rfl⟩ := oW.some hp
 have oW := oW.ext x1
 have xw := xw.trans x1
 have hnb := fW nb rfl
 simp (disch := omega) only [go_sem, hlt]
 refine loopN (R * C) (fun k f W => f 0 = .slice (some ⟨gb, go, none⟩) R gc ∧ f 3 = .slice (some ⟨nb, 0, none⟩) (R * C) oc ∧ f 5 = .int .i64 k ∧ Ext w W ∧ OwnS W 3 1 (some ⟨nb, 0, none⟩) (R * C) oc (vi (lsF (R * C) (fillK R C h k))))
  ⟨uu, uu, uu, xw, oW⟩ fun k f W hk ⟨a0, a3, a5, xw, oW⟩ => ?_
 by_cases hlt : (k : Int) < (R * C : Nat)
 rotate_left
 ·obtain rfl : k = R * C := om
  simp (disch := omega) only [go_sem, a3, a5, hlt, Tryz.results43]
  exact ⟨some ⟨nb, 0, none⟩, oc, by rw [lsF_len], by rw [lsF_len]; exact oW, fun b hb => by simp only [blk_some, Option.some.injEq] at hb; omega, xw⟩
 have hkN : k < R * C := om
 simp (disch := omega) only [go_sem, a3, a5, hlt]
 have hOb : ∀ i, bordB R C i = true → fillK R C h k i = h i := fun i hb => fillK_bord hb k
 have hO1 : fillK R C h (k + 1) = sweepTo R C h (fillK R C h k) (R * C) := rfl
 generalize fillK R C h k = O at *
 refine loopN (R * C) (fun i f W => f 0 = .slice (some ⟨gb, go, none⟩) R gc ∧ f 3 = .slice (some ⟨nb, 0, none⟩) (R * C) oc ∧ f 5 = .int .i64 k ∧ f 6 = .int .i64 i ∧ Ext w W ∧ OwnS W 3 1 (some ⟨nb, 0, none⟩) (R * C) oc (vi (lsF (R * C) (sweepTo R C h O i))))
  ⟨uu, uu, uu, uu, xw, oW⟩ fun i f W hi ⟨a0, a3, a5, a6, xw, oW⟩ => ?_
 by_cases hlt : (i : Int) < (R * C : Nat)
 rotate_left
 ·obtain rfl : i = R * C := om
  rw [← hO1] at oW
  simp (disch := omega) only [go_sem, a3, a5, a6, hlt]
  exact ⟨hkN, uu, uu, uu, xw, oW⟩
 have hin : i < R * C := om
 simp (disch := omega) only [go_sem, a0, a3, a6, hlt]
 refine callK_of ke (l2Near_c gb go gc rb ro rc R C h _ (hg.ext xw) hR7 hC7 i hin) ?_
 rintro _ w6 ⟨na, nc, rfl, no, nn, x6⟩
 have hn4 := nearN_len R C i
 have hsw : sweepTo R C h O (i + 1) = cellF R C h (sweepTo R C h O i) i := rfl
 have sw := xw.size
 simp (disch := omega) only [go_sem]
 cases hb : bordB R C i with
 | true =>
  have hss : sweepTo R C h O (i + 1) = sweepTo R C h O i := by rw [hsw, cellF, if_pos hb, putF_self]
  refine loopN 0 (fun j f V => f 0 = .slice (some ⟨gb, go, none⟩) R gc ∧ f 3 = .slice (some ⟨nb, 0, none⟩) (R * C) oc ∧ f 5 = .int .i64 k ∧ f 6 = .int .i64 i ∧ f 7 = .slice na (nearN R C i).length nc ∧ f 8 = .int .i64 j ∧ Ext w V ∧ OwnS V 3 1 (some ⟨nb, 0, none⟩) (R * C) oc (vi (lsF (R * C) (sweepTo R C h O i))))
   ⟨uu, uu, uu, uu, uu, uu, xw.trans x6, oW.ext x6⟩ fun j f V hj ⟨a0, a3, a5, a6, a7, a8, xV, oV⟩ => ?_
  by_cases hlm : (j : Int) < (nearN R C i).length
  ·simp (disch := omega) only [go_sem, a0, a6, a7, a8, hlm]
   refine callK_pure ke (l2Border_c gb go gc rb ro rc R C h _ (hg.ext xV) hR7 hC7 i hin) fun w7 x7 => ?_
   simp (disch := omega) only [go_sem, hb, Bool.not_true, a6]
   exact ⟨hin, uu, uu, uu, uu, xV.trans x7, by rw [hss]; exact oV.ext x7⟩
  ·simp (disch := omega) only [go_sem, a0, a6, a7, a8, hlm]
   exact ⟨hin, uu, uu, uu, uu, xV, by rw [hss]; exact oV⟩
 | false =>
  have hss : sweepTo R C h O (i + 1) = putF (sweepTo R C h O i) i (dropF (h i) (sweepTo R C h O i) (sweepTo R C h O i i) (nearN R C i)) := by rw [hsw, cellF, hb]; rfl
  generalize sweepTo R C h O i = P at *
  have hnn : blk na ≠ some nb := fun e => by have := nn nb e; have := oW.blk_lt (b := nb) rfl; omega
  refine loopN (nearN R C i).length (fun j f V => f 0 = .slice (some ⟨gb, go, none⟩) R gc ∧ f 3 = .slice (some ⟨nb, 0, none⟩) (R * C) oc ∧ f 5 = .int .i64 k ∧ f 6 = .int .i64 i ∧ f 7 = .slice na (nearN R C i).length nc ∧ f 8 = .int .i64 j ∧ Ext w V ∧ OwnS V 3 1 na (nearN R C i).length nc (vi (ni (nearN R C i))) ∧ OwnS V 3 1 (some ⟨nb, 0, none⟩) (R * C) oc (vi (lsF (R * C) (putF P i (dropF (h i) P (P i) ((nearN R C i).take j))))))
   ⟨uu, uu, uu, uu, uu, uu, xw.trans x6, no, by simpa [dropF, putF_self] using oW.ext x6⟩ fun j f V hj ⟨a0, a3, a5, a6, a7, a8, xV, noV, oV⟩ => ?_
  by_cases hlm : (j : Int) < (nearN R C i).length
  ·have hjl : j < (nearN R C i).length := om
   obtain ⟨nb2, rfl⟩ := no.some om
   have hmem : (nearN R C i).getD j 0 ∈ nearN R C i := getD_mem hjl
   have hjk : (nearN R C i).getD j 0 < R * C := nearN_lt hin _ hmem
   have hji : (nearN R C i).getD j 0 ≠ i := fun e => near_ne hin (by rw [e] at hmem; exact hmem)
   have htk := dropF_take (hi := h i) (v := P i) (o := P) hjl
   have g0 : ∀ {V'}, Ext V V' → V'.cell? ⟨nb2, j, none⟩ = some (.int .i64 ((nearN R C i).getD j 0 : Nat)) := fun x => by rw [(noV.ext x).cell om, vi_get _ _ (by rw [ni_len]; omega), ni_get _ om]
   generalize dropF (h i) P (P i) ((nearN R C i).take j) = v at *
   generalize dropF (h i) P (P i) ((nearN R C i).take (j + 1)) = v' at *
   generalize (nearN R C i).getD j 0 = q at *
   have g1 : ∀ {V'}, Ext V V' → V'.cell? ⟨nb, q, none⟩ = some (.int .i64 (P q)) := fun x => by rw [(oV.ext x).cell om, lsF, vi_rangeI_get _ hjk, putF_ne hji]
   have g2 : ∀ {V'}, Ext V V' → V'.cell? ⟨nb, i, none⟩ = some (.int .i64 v) := fun x => by rw [(oV.ext x).cell om, lsF, vi_rangeI_get _ hin, putF_at]
   simp (disch := omega) only [go_sem, a0, a6, a7, a8, hlm]
   refine callK_pure ke (l2Border_c gb go gc rb ro rc R C h _ (hg.ext xV) hR7 hC7 i hin) fun w7 x7 => ?_
   simp (disch := omega) only [go_sem, hb, Bool.not_false]
   refine QR_tail 18 ke ke ?_
   have c0 := g0 x7
   have c1 := g1 x7
   have c2 := g2 x7
   simp (disch := omega) only [go_sem, a0, a3, a6, a7, a8, c0, c1, c2]
   refine callK_q ke (fun w' e => l2Height_c gb go gc rb ro rc R C h _ (((hg.ext xV).ext x7).ext e) hR7 hC7 i om om) ?_
   simp (disch := omega) only [go_sem, a0, a3, a6, a7, a8, c0, c1, c2]
   intro w8 x8
   have sV := xV.size
   have sV7 := x7.size
   have sV8 := x8.size
   refine stK_own siz_int rf rf (((oV.ext x7).ext x8)) hin fun w9 o9 g9 => ?_
   try rw [Int.toNat_natCast] at o9
   rw [lsF_put hin, putF_put, ← htk] at o9
   simp (disch := omega) only [go_sem, a8]
   exact ⟨hjl, uu, uu, uu, uu, uu, uu, g9.ext ((xV.trans x7).trans x8) om, ((noV.ext x7).ext x8).grow g9.grow (fun b hb e => hnn (hb.trans e.symm)), o9⟩
  ·obtain rfl : j = (nearN R C i).length := om
   rw [List.take_length, ← hss] at oV
   simp (disch := omega) only [go_sem, a0, a6, a7, a8, hlm]
   exact ⟨hin, uu, uu, uu, uu, xV, oV⟩
def mkRw (C : Nat) (h : Nat → Int) (r : Nat) : List Int := (List.range C).map fun c => h (r * C + c)
theorem mkRw_len (C : Nat) (h : Nat → Int) (r : Nat) : (mkRw C h r).length = C := by simp [mkRw]
theorem rows_nil (w : World) (a : Option Addr) (A : Nat → Option Addr) (Cp : Nat → Nat) : RowsAt w a [] A Cp :=
 ⟨fun h => absurd rfl h, fun _ _ _ r h => by simp at h, fun r h => by simp at h, fun l h => by simp at h, fun l h => by simp at h, by simp⟩
theorem fillOf_valid {rows : List (List Int)} (v : Valid rows) : Valid (fillOf rows) :=
 mkRows_valid v.r1 v.r7 v.c1 v.c7 fun i hi => by
  have hh : ∀ x, x < rows.length * rowLen rows → hgt rows x ≤ 99 := fun x hx => (v.hgt x hx).2
  have h1 := fillK_ge hh (rows.length * rowLen rows) i hi
  have h2 := fillK_99 hh (rows.length * rowLen rows) i hi
  have h3 := v.hgt i hi
  omega
theorem valid_i64 {rows : List (List Int)} (v : Valid rows) : ∀ l ∈ rows, ∀ x ∈ l, I64 x := fun l hl x hx => by
 have := v.rng l hl x hx
 exact ⟨om, om⟩
theorem valid_lens {rows : List (List Int)} (v : Valid rows) : (∀ l ∈ rows, l.length ≤ maxLen) ∧ rows.length ≤ maxLen :=
 ⟨fun l hl => by have := v.rlen l hl; have := v.c7; simp only [maxLen]; omega, by have := v.r7; simp only [maxLen]; omega⟩
end Go.Proofs.YtcbmhjndbpafbaaGreatDoor
