import Derived.Test.YtcbmhjndbpafbaaGreatDoorZ4
import Derived.Test.YtcbmhjndbpafbaaGreatDoorK3
import Derived.Test.YtcbmhjndbpafbaaGreatDoorZ6
import Derived.Test.YtcbmhjndbpafbaaGreatDoorZ3
set_option linter.all false
set_option maxRecDepth 20000
namespace Go.Proofs.YtcbmhjndbpafbaaGreatDoor
open Go.RowKit Go.SW
def setR (rows : List (List Int)) (r c : Nat) (h : Int) : List (List Int) := mkRows rows.length (rowLen rows) fun i => if i = r * rowLen rows + c then h else hgt rows i
def inverted (rows : List (List Int)) : List (List Int) := mkRows rows.length (rowLen rows) fun i => 99 - hgt rows i
def SeesP (p : List Int) (i k : Nat) : Prop := ∀ j, j < max i k → min i k < j → p.getD j 0 * ((max i k : Nat) - (min i k : Nat)) ≤ p.getD (min i k) 0 * ((max i k : Nat) - (j : Int)) + p.getD (max i k) 0 * ((j : Int) - (min i k : Nat))
instance (p : List Int) (i k : Nat) : Decidable (SeesP p i k) := inferInstanceAs (Decidable (∀ j, j < max i k → _))
def becomeF (d : Dk) : Option (List (List Int)) → Dk × List UInt8
 | some rows => (⟨rows, d.labs⟩, okT)
 | none => (d, noT)
def saidF (d : Dk) (ok : Bool) (s : List UInt8) : Dk × List UInt8 := (d, if ok then s else noT)
def doF (i : Nat) (n : List Nat) (d : Dk) : Dk × List UInt8 :=
 match i with
 | 0 => becomeF d (if cellok d.rows (n.getD 0 0 : Nat) (n.getD 1 0 : Nat) = true ∧ n.getD 2 0 ≤ 99 then some (setR d.rows (n.getD 0 0) (n.getD 1 0) (n.getD 2 0 : Nat)) else none)
 | 1 => becomeF d (some (turned d.rows))
 | 2 => becomeF d (some (mirrored d.rows))
 | 3 => becomeF d (some (inverted d.rows))
 | 4 => becomeF d (some (fillOf d.rows))
 | 5 => saidF d true (gtext d.rows ++ [10])
 | 6 => saidF d (cellok d.rows (n.getD 0 0 : Nat) (n.getD 1 0 : Nat)) (sp (ni (runOf d.rows (n.getD 0 0 : Nat) (n.getD 1 0 : Nat))) ++ [10])
 | 7 => saidF d (lvok d.rows (n.getD 0 0 : Nat)) (sp [landOf d.rows (n.getD 0 0 : Nat), regionsOf d.rows (n.getD 0 0 : Nat), lakesOf d.rows (n.getD 0 0 : Nat)] ++ [10])
 | 8 => saidF d true (jn 32 (pkW d.rows) ++ [10])
 | 9 => saidF d (decide (n.getD 0 0 < d.rows.length ∧ n.getD 1 0 < rowLen d.rows ∧ n.getD 2 0 < rowLen d.rows)) (if SeesP (d.rows.getD (n.getD 0 0) []) (n.getD 1 0) (n.getD 2 0) then [121, 101, 115, 10] else [104, 105, 100, 100, 101, 110, 10])
 | 10 => if LVal (d.labs ++ [⟨n.getD 0 0, n.getD 1 0, n.getD 2 0, n.getD 3 0⟩]) then (⟨d.rows, d.labs ++ [⟨n.getD 0 0, n.getD 1 0, n.getD 2 0, n.getD 3 0⟩]⟩, okT) else (d, noT)
 | 11 => saidF d true (mtext d.labs (bestOf d.labs))
 | _ => saidF d (plc (n.getD 0 0 : Nat) (n.getD 1 0 : Nat)) (placeName (n.getD 0 0 : Nat) (n.getD 1 0 : Nat) ++ [10])
def ordX (w : List UInt8) : Option Nat := ordW.findIdx? fun p => p.1 == w
def cntX (i : Nat) : Nat := (ordW.getD i ([], 0)).2
def lineF (d : Dk) (l : List UInt8) : Dk × List UInt8 :=
 if Lib.hasPrefix l grd = true then becomeF d (gfrom (Lib.trimPrefix l grd))
 else match ordX ((spl 32 l).getD 0 []) with
  | some i => if (spl 32 l).length = cntX i + 1 then doF i ((spl 32 l).tail.map numV) d else (d, whT)
  | none => (d, whT)
def runF (d : Dk) : List (List UInt8) → Dk × List UInt8
 | [] => (d, [])
 | l :: L => ((runF (lineF d l).1 L).1, (lineF d l).2 ++ (runF (lineF d l).1 L).2)
def endL (d : Dk) : List UInt8 := [114, 111, 119, 115, 32] ++ dec d.rows.length ++ [32, 99, 111, 108, 117, 109, 110, 115, 32] ++ dec (rowLen d.rows) ++ [32, 108, 97, 98, 101, 108, 115, 32] ++ dec d.labs.length ++ [10]
def d0 : Dk := ⟨[[0]], []⟩
def longT : List UInt8 := [116, 111, 111, 32, 108, 111, 110, 103, 10]
def exF (t : List UInt8) : List UInt8 := if 600 < t.length then longT else (runF d0 (spl 10 t).dropLast).2 ++ endL (runF d0 (spl 10 t).dropLast).1
theorem setR_valid {rows : List (List Int)} (v : Valid rows) {r c h : Nat} (hh : h ≤ 99) : Valid (setR rows r c h) :=
 mkRows_valid v.r1 v.r7 v.c1 v.c7 fun i hi => by
  have := v.gd.hh i hi
  split <;> omega
theorem inverted_valid {rows : List (List Int)} (v : Valid rows) : Valid (inverted rows) :=
 mkRows_valid v.r1 v.r7 v.c1 v.c7 fun i hi => by have := v.gd.hh i hi; omega
theorem turned_valid {rows : List (List Int)} (v : Valid rows) : Valid (turned rows) :=
 mkRows_valid v.c1 v.c7 v.r1 v.r7 fun i hi => v.gd.hh _ (turn_idx hi)
theorem mirrored_valid {rows : List (List Int)} (v : Valid rows) : Valid (mirrored rows) :=
 mkRows_valid v.r1 v.r7 v.c1 v.c7 fun i hi => v.gd.hh _ (mirror_idx hi)
theorem becomeF_good {d : Dk} (h : d.Good) {o : Option (List (List Int))} (ho : ∀ rows, o = some rows → Valid rows) : (becomeF d o).1.Good := by
 cases o with
 | none => exact h
 | some rows => exact ⟨ho rows rfl, h.2⟩
theorem doF_good {d : Dk} (h : d.Good) (i : Nat) (n : List Nat) : (doF i n d).1.Good := by
 unfold doF
 split
 ·refine becomeF_good h fun rows hr => ?_
  split at hr
  ·rename_i hh
   simp only [Option.some.injEq] at hr
   subst hr
   exact setR_valid h.1 hh.2
  ·cases hr
 ·exact becomeF_good h fun rows hr => by simp only [Option.some.injEq] at hr; subst hr; exact turned_valid h.1
 ·exact becomeF_good h fun rows hr => by simp only [Option.some.injEq] at hr; subst hr; exact mirrored_valid h.1
 ·exact becomeF_good h fun rows hr => by simp only [Option.some.injEq] at hr; subst hr; exact inverted_valid h.1
 ·exact becomeF_good h fun rows hr => by simp only [Option.some.injEq] at hr; subst hr; exact fillOf_valid h.1
 ·exact h
 ·exact h
 ·exact h
 ·exact h
 ·exact h
 ·split
  ·rename_i hv; exact ⟨h.1, hv⟩
  ·exact h
 ·exact h
 ·exact h
theorem lineF_good {d : Dk} (h : d.Good) (l : List UInt8) : (lineF d l).1.Good := by
 unfold lineF
 split
 ·exact becomeF_good h fun rows hr => (gfrom_some hr).1
 ·split
  ·split
   ·exact doF_good h _ _
   ·exact h
  ·exact h
theorem d0_good : d0.Good := by
 refine ⟨(gvalid_iff _).1 dc, by decide⟩
theorem runF_good : ∀ (L : List (List UInt8)) {d : Dk}, d.Good → (runF d L).1.Good
 | [], _, h => h
 | l :: L, _, h => runF_good L (lineF_good h l)
theorem runF_app : ∀ (L M : List (List UInt8)) (d : Dk), runF d (L ++ M) = ((runF (runF d L).1 M).1, (runF d L).2 ++ (runF (runF d L).1 M).2)
 | [], _, _ => rfl
 | l :: L, M, d => by simp only [List.cons_append, runF, runF_app L M, List.append_assoc]
end Go.Proofs.YtcbmhjndbpafbaaGreatDoor
namespace Go.SW
open Go Go.RowKit
theorem row_idx {R C r c : Nat} (hr : r < R) (hc : c < C) : r * C + c < R * C ∧ (((r * C + c : Nat) : Int) / (C : Int) = (r : Int)) ∧ ((r * C + c : Nat) : Int) % (C : Int) = (c : Int) := by
 have h1 : r * C + c < R * C := by
  have := Nat.mul_le_mul_right C (show r + 1 ≤ R from om)
  rw [Nat.succ_mul] at this
  omega
 obtain ⟨q1, q2⟩ := div_row C r c hc
 refine ⟨h1, ?_, ?_⟩
 ·rw [← Int.natCast_ediv, q1]
 ·rw [← Int.natCast_emod, q2]
theorem hgt_at {rows : List (List Int)} (v : Valid rows) {r c : Nat} (hr : r < rows.length) (hc : c < rowLen rows) : hgt rows (r * rowLen rows + c) = (rows.getD r []).getD c 0 := by
 obtain ⟨q1, q2⟩ := div_row (rowLen rows) r c hc
 rw [hgt, q1, q2]
def Prof (p : List Int) : Prop := 1 ≤ p.length ∧ p.length ≤ 7 ∧ ∀ h ∈ p, 0 ≤ h ∧ h ≤ 99
theorem Valid.prof {rows : List (List Int)} (v : Valid rows) {r : Nat} (hr : r < rows.length) : Prof (rows.getD r []) := by
 have hl := v.len r hr
 have h1 := v.c1
 have h7 := v.c7
 exact ⟨om, om, v.rng _ (getD_mem hr)⟩
end Go.SW
namespace Go.Proofs.YtcbmhjndbpafbaaGreatDoor
open Go.RowKit Go.SW
theorem gridSetAny_c (a : Option Addr) (rows : List (List Int)) (A : Nat → Option Addr) (Cp : Nat → Nat) (gc : Nat) (r c h : Nat) (w : World) (hr : RowsAt w a rows A Cp) (v : Valid rows) :
  Ret Tryz.prog 153 #[.slice a rows.length gc, .int .i64 r, .int .i64 c, .int .i64 h] w fun u w' =>
   (¬ (cellok rows r c = true ∧ h ≤ 99) ∧ u = .tuple #[.slice none 0 0, .bool false] ∧ Ext w w') ∨ ((cellok rows r c = true ∧ h ≤ 99) ∧ ∃ b A', u = .tuple #[.slice (some ⟨b, 0, none⟩) rows.length rows.length, .bool true] ∧ OwnRows w' 35 3 w.heap.size b (setR rows r c h) A' ∧ Ext w w') := by
 have hv := (gvalid_iff rows).2 v
 by_cases hrc : r < rows.length ∧ c < rowLen rows
 ·obtain ⟨h1, h2, h3⟩ := row_idx hrc.1 hrc.2
  have hok : cellok rows r c = true := by simp only [cellok, hv, Bool.true_and, decide_eq_true_eq]; omega
  have := gridSet_c a rows A Cp gc (r * rowLen rows + c) h w hr hv h1
  rw [h2, h3] at this
  refine Ret.mono this fun u w' hu => ?_
  rcases hu with ⟨hh, hu, e⟩ | ⟨hh, b, A', hu, or, e⟩
  ·exact .inl ⟨fun hh' => hh om, hu, e⟩
  ·exact .inr ⟨⟨hok, om⟩, b, A', hu, or, e⟩
 ·have hin : decide (0 ≤ (r : Int) ∧ (r : Int) < rows.length ∧ 0 ≤ (c : Int) ∧ (c : Int) < rowLen rows) = false := decide_eq_false om
  have hok : ¬ cellok rows r c = true := by simp only [cellok, hv, Bool.true_and, decide_eq_true_eq]; omega
  refine enter4 Tryz.func153 rfl fun f a0 a1 a2 a3 => ?_
  simp (disch := omega) only [go_sem, a0]
  refine callK_of ke (fieldOf_c _ _ _ _ _ _ hr) ?_
  rintro _ w2 ⟨x2, (⟨hvt, cb, rfl, hcb, o⟩ | ⟨hv', -⟩)⟩
  rotate_left
  ·rw [hv] at hv'; cases hv'
  simp (disch := omega) only [go_sem]
  refine allocK_of zero_f fun w3 fb _ x3 k3 _ => ?_
  simp (disch := omega) only [go_sem]
  refine stK_agg siz_f sm oi k3 sm fun w4 kb g4 => ?_
  have s2 := x2.size
  have x4 : Ext w w4 := g4.ext (x2.trans x3) om
  simp (disch := omega) only [go_sem, a1, a2, readCells_blk kb (n := 3) sm]
  refine callK_pure ke (has_c _ _ _ _ _ _) fun w5 x5 => ?_
  simp (disch := omega) only [go_sem, hin, Bool.not_true, Bool.not_false, Tryz.results153]
  exact .inl ⟨fun hh => hok hh.1, trivial, x4.trans x5⟩
theorem implProfileRow_c (a : Option Addr) (rows : List (List Int)) (A : Nat → Option Addr) (Cp : Nat → Nat) (gc : Nat) (r : Nat) (w : World) (hr : RowsAt w a rows A Cp) (v : Valid rows) :
  Ret Tryz.prog 165 #[.slice a rows.length gc, .int .i64 r] w fun u w' => Ext w w' ∧ ((rows.length ≤ r ∧ u = .tuple #[.slice none 0 0, .bool false]) ∨ (r < rows.length ∧ ∃ b, u = .tuple #[.slice (some ⟨b, 0, none⟩) (rowLen rows) (rowLen rows), .bool true] ∧ IntS w' (some ⟨b, 0, none⟩) (rows.getD r []))) := by
 have hv := (gvalid_iff rows).2 v
 have g := v.gd
 have hR7 := g.r7
 have hC7 := g.c7
 have hC1 := g.c1
 refine enter2 Tryz.func165 rfl fun f a0 a1 => ?_
 simp (disch := omega) only [go_sem, a0]
 refine callK_of ke (fieldOf_c _ _ _ _ _ _ hr) ?_
 rintro _ w2 ⟨x2, (⟨hvt, cb, rfl, hcb, o⟩ | ⟨hv', -⟩)⟩
 rotate_left
 ·rw [hv] at hv'; cases hv'
 simp (disch := omega) only [go_sem]
 refine allocK_of zero_f fun w3 fb _ x3 k3 _ => ?_
 simp (disch := omega) only [go_sem]
 refine stK_agg siz_f sm oi k3 sm fun w4 kb g4 => ?_
 have s2 := x2.size
 have s3 := x3.size
 have x4 : Ext w w4 := g4.ext (x2.trans x3) om
 have s4 := x4.size
 have hc : CellsAt w4 cb (rows.length * rowLen rows) (hgt rows) := fun i hi => by
  have := ((o.cellsAt.ext x3).grow g4.grow (by have := o.cellsAt.lt g.pos; simp; omega)) i hi
  simpa only [hs_get rows i hi] using this
 simp (disch := omega) only [go_sem, a1, readCells_blk kb (n := 3) sm]
 refine callK_pure ke (has_c _ _ _ _ _ _) fun w5 x5 => ?_
 by_cases hin : r < rows.length
 rotate_left
 ·have hd : decide (0 ≤ (r : Int) ∧ (r : Int) < rows.length ∧ 0 ≤ (0 : Int) ∧ (0 : Int) < rowLen rows) = false := decide_eq_false om
  simp (disch := omega) only [go_sem, hd, Bool.not_true, Bool.not_false, Tryz.results165]
  exact ⟨x4.trans x5, .inl ⟨om, trivial⟩⟩
 have hd : decide (0 ≤ (r : Int) ∧ (r : Int) < rows.length ∧ 0 ≤ (0 : Int) ∧ (0 : Int) < rowLen rows) = true := decide_eq_true om
 have kb5 := kb.ext x5
 have hlen := v.len r hin
 simp (disch := omega) only [go_sem, hd, Bool.not_true, Bool.not_false, kb5.cell]
 refine mksK_of elt_i (rowLen rows) (rowLen rows) _ _ _ _ rfl rfl (Nat.le_refl _) om (by simp [maxLen]; omega) fun w6 nb e6 x6 o6 _ => ?_
 have s5 := x5.size
 have xw6 := (x4.trans x5).trans x6
 simp (disch := omega) only [go_sem]
 refine loopN (rowLen rows) (fun k f W => f 1 = .int .i64 r ∧ f 6 = .pointer (some ⟨fb, 0, none⟩) ∧ f 8 = .slice (some ⟨nb, 0, none⟩) (rowLen rows) (rowLen rows) ∧ f 27 = .int .i64 (rowLen rows) ∧ f 28 = .int .i64 k ∧ Ext w W ∧ CellsAt W cb (rows.length * rowLen rows) (hgt rows) ∧ Blk W fb #[.int .i64 rows.length, .int .i64 (rowLen rows), .slice (some ⟨cb, 0, none⟩) (rows.length * rowLen rows) (rows.length * rowLen rows)] 70 ∧ ∃ ys, OwnS W 3 1 (some ⟨nb, 0, none⟩) (rowLen rows) (rowLen rows) ys ∧ ∀ j, j < k → ys[j]? = some (.int .i64 ((rows.getD r []).getD j 0)))
  ⟨uu, uu, uu, uu, uu, xw6, (hc.ext x5).ext x6, kb5.ext x6, _, o6, fun j hj => om⟩ fun k f W hk ⟨a1, a6, a8, a27, a28, xw, hcW, kbW, ys, oy, hy⟩ => ?_
 have lfb := kb.lt
 have lcb := hc.lt g.pos
 by_cases hlt : (k : Int) < (rowLen rows : Int)
 ·have hkC : k < rowLen rows := om
  obtain ⟨h1, -, -⟩ := row_idx hin hkC
  simp (disch := omega) only [go_sem, a1, a6, a8, a27, a28, hlt, readCells_blk kbW (n := 3) sm]
  refine callK_of ke (at_c _ _ _ _ _ _ r k _ hcW om om om h1) ?_
  rintro _ w7 ⟨rfl, x7⟩
  rw [hgt_at v hin hkC]
  simp (disch := omega) only [go_sem]
  refine stK_own siz_int rf rf (oy.ext x7) om fun w8 o8 g8 => ?_
  have sw := xw.size
  simp (disch := omega) only [go_sem, a28]
  exact ⟨hkC, uu, uu, uu, uu, uu, g8.ext (xw.trans x7) om, (hcW.ext x7).grow g8.grow sq, g8.blk (kbW.ext x7) om, _, o8, set_get (fun j => .int .i64 ((rows.getD r []).getD j 0)) (by rw [oy.1]; omega) rfl hy⟩
 ·obtain rfl : k = rowLen rows := om
  have ev : ys = vi (rows.getD r []) := vi_ext (by rw [oy.1, hlen]; omega) fun j hj => by rw [hlen] at hj; exact hy j hj
  rw [ev] at oy
  simp (disch := omega) only [go_sem, a8, a27, a28, hlt, Tryz.results165]
  exact ⟨xw, .inr ⟨hin, nb, rfl, by have := oy.ints; exact this⟩⟩
theorem implProfileValid_c (a : Option Addr) (p : List Int) (c : Nat) (w : World) (hp : IntS w a p) (v : Prof p) : Ret Tryz.prog 221 #[.slice a p.length c] w fun u w' => u = .bool true ∧ Ext w w' := by
 obtain ⟨h1, h7, hr⟩ := v
 obtain ⟨b, o, rfl⟩ := hp.head (by intro e; rw [e] at h1; simp at h1)
 have t1 : ¬ (p.length : Int) < 1 := om
 have t2 : ¬ (20 : Int) < (p.length : Int) := om
 refine enter1 Tryz.func221 rfl fun f a0 => ?_
 simp (disch := omega) only [go_sem, a0, t1, t2]
 refine loopN p.length (fun k f W => f 13 = .slice (some ⟨b, o, none⟩) p.length c ∧ f 14 = .int .i64 p.length ∧ f 15 = .int .i64 k ∧ Ext w W) ⟨uu, uu, uu, Ext.refl _⟩ fun k f W hk ⟨a13, a14, a15, xw⟩ => ?_
 by_cases hlt : (k : Int) < (p.length : Int)
 ·have hkp : k < p.length := om
  have hc := (hp.ext xw).cell b o rfl k hkp
  have hh := hr _ (getD_mem (d := 0) hkp)
  have hd : decide (0 ≤ p.getD k 0 ∧ p.getD k 0 ≤ 99) = true := decide_eq_true hh
  simp (disch := omega) only [go_sem, a13, a14, a15, hlt, hc]
  refine callK_pure ke (isHeight_c _ _) fun w2 x2 => ?_
  simp (disch := omega) only [go_sem, hd, a15]
  exact ⟨hkp, uu, uu, uu, xw.trans x2⟩
 ·simp (disch := omega) only [go_sem, a14, a15, hlt, Tryz.results221]
  exact ⟨trivial, xw⟩
theorem hasPoint_c (a : Option Addr) (p : List Int) (c i : Nat) (w : World) (hp : IntS w a p) (v : Prof p) (hi : i < p.length) : Ret Tryz.prog 198 #[.slice a p.length c, .int .i64 i] w fun u w' => u = .bool true ∧ Ext w w' := by
 refine enter2 Tryz.func198 rfl fun f a0 a1 => ?_
 have t1 : (0 : Int) ≤ (i : Int) := om
 have t2 : (i : Int) < (p.length : Int) := om
 simp (disch := omega) only [go_sem, a0]
 refine callK_pure ke (implProfileValid_c a p c _ hp v) fun w1 x1 => ?_
 simp (disch := omega) only [go_sem, a0, a1, t1, t2, Tryz.results198]
 exact ⟨trivial, x1⟩
end Go.Proofs.YtcbmhjndbpafbaaGreatDoor
namespace Go.SW
open Go Go.RowKit
theorem mul_rng {x y : Int} (hx : 0 ≤ x ∧ x ≤ 1000) (hy : 0 ≤ y ∧ y ≤ 1000) : 0 ≤ x * y ∧ x * y ≤ 1000000 := by
 have h1 := Int.mul_nonneg hx.1 hy.1
 have h2 := Int.mul_le_mul hx.2 hy.2 hy.1 (by omega : (0:Int) ≤ 1000)
 omega
def FreeP (p : List Int) (m n j : Nat) : Prop := p.getD j 0 * ((n : Int) - m) ≤ p.getD m 0 * ((n : Int) - j) + p.getD n 0 * ((j : Int) - m)
instance (p : List Int) (m n j : Nat) : Decidable (FreeP p m n j) := inferInstanceAs (Decidable (_ ≤ _))
end Go.SW
namespace Go.Proofs.YtcbmhjndbpafbaaGreatDoor
open Go.RowKit Go.SW
theorem seesP_iff (p : List Int) (i k : Nat) : SeesP p i k ↔ ∀ j, j < max i k → min i k < j → FreeP p (min i k) (max i k) j := Iff.rfl
def SightAt (w : World) (b4 b5 b6 b7 : Nat) (m n : Nat) (x y : Int) : Prop :=
 Blk w b4 #[.int .i64 (m : Nat)] 3 ∧ Blk w b5 #[.int .i64 x] 3 ∧ Blk w b6 #[.int .i64 (n : Nat)] 3 ∧ Blk w b7 #[.int .i64 y] 3
theorem SightAt.ext {w w' : World} {b4 b5 b6 b7 m n : Nat} {x y : Int} (h : SightAt w b4 b5 b6 b7 m n x y) (e : Ext w w') : SightAt w' b4 b5 b6 b7 m n x y :=
 ⟨h.1.ext e, h.2.1.ext e, h.2.2.1.ext e, h.2.2.2.ext e⟩
theorem sight1_c (b4 b5 b6 b7 m n j : Nat) (x y h : Int) (w : World) (hs : SightAt w b4 b5 b6 b7 m n x y) (hj : m ≤ j ∧ j ≤ n) (hn : n ≤ 100) (hx : 0 ≤ x ∧ x ≤ 99) (hy : 0 ≤ y ∧ y ≤ 99) (hh : 0 ≤ h ∧ h ≤ 99) :
  Ret Tryz.prog 238 #[.int .i64 j, .int .i64 h, .pointer (some ⟨b6, 0, none⟩), .pointer (some ⟨b4, 0, none⟩), .pointer (some ⟨b5, 0, none⟩), .pointer (some ⟨b7, 0, none⟩)] w fun v w' => v = .bool (decide (h * ((n : Int) - m) ≤ x * ((n : Int) - j) + y * ((j : Int) - m))) ∧ Ext w w' := by
 obtain ⟨k4, k5, k6, k7⟩ := hs
 have p1 := mul_rng (x := h) (y := (n : Int) - m) om om
 have p2 := mul_rng (x := x) (y := (n : Int) - j) om om
 have p3 := mul_rng (x := y) (y := (j : Int) - m) om om
 refine enterX Tryz.func238 rfl ke df fun f hf => ?_
 have a0 : f 0 = .int .i64 j := by simpa using (hf 0 sm).symm
 have a1 : f 1 = .int .i64 h := by simpa using (hf 1 sm).symm
 have a2 : f 2 = .pointer (some ⟨b6, 0, none⟩) := by simpa using (hf 2 sm).symm
 have a3 : f 3 = .pointer (some ⟨b4, 0, none⟩) := by simpa using (hf 3 sm).symm
 have a4 : f 4 = .pointer (some ⟨b5, 0, none⟩) := by simpa using (hf 4 sm).symm
 have a5 : f 5 = .pointer (some ⟨b7, 0, none⟩) := by simpa using (hf 5 sm).symm
 simp (disch := omega) only [go_sem, a0, a1, a2, a3, a4, a5, k4.cell, k5.cell, k6.cell, k7.cell, Tryz.results238]
 exact ⟨by first | rfl | trivial, Ext.refl _⟩
theorem sight_c (i k : Nat) (a b : Int) (w : World) :
  Ret Tryz.prog 233 #[.int .i64 i, .int .i64 a, .int .i64 k, .int .i64 b] w fun v w' => Ext w w' ∧ ∃ b4 b5 b6 b7, v = .func (.func 238) #[] #[.pointer (some ⟨b6, 0, none⟩), .pointer (some ⟨b4, 0, none⟩), .pointer (some ⟨b5, 0, none⟩), .pointer (some ⟨b7, 0, none⟩)] ∧ SightAt w' b4 b5 b6 b7 (min i k) (max i k) (if i ≤ k then a else b) (if i ≤ k then b else a) := by
 refine enter4 Tryz.func233 rfl fun f a0 a1 a2 a3 => ?_
 simp only [go_sem, Nat.reduceEqDiff, ↓reduceIte, a0]
 refine boxK_of fun w1 b4 e1 x1 k4 s1 => ?_
 have k4 : Blk w1 b4 #[.int .i64 i] 3 := by simpa [Value.cells] using k4
 simp only [go_sem, Nat.reduceEqDiff, ↓reduceIte, a1]
 refine boxK_of fun w2 b5 e2 x2 k5 s2 => ?_
 have k5 : Blk w2 b5 #[.int .i64 a] 3 := by simpa [Value.cells] using k5
 simp only [go_sem, Nat.reduceEqDiff, ↓reduceIte, a2]
 refine boxK_of fun w3 b6 e3 x3 k6 s3 => ?_
 have k6 : Blk w3 b6 #[.int .i64 k] 3 := by simpa [Value.cells] using k6
 simp only [go_sem, Nat.reduceEqDiff, ↓reduceIte, a3]
 refine boxK_of fun w4 b7 e4 x4 k7 s4 => ?_
 have k7 : Blk w4 b7 #[.int .i64 b] 3 := by simpa [Value.cells] using k7
 have k6 := k6.ext x4
 have k5 := (k5.ext x3).ext x4
 have k4 := ((k4.ext x2).ext x3).ext x4
 have xw := ((x1.trans x2).trans x3).trans x4
 by_cases hik : i ≤ k
 ·have t : ¬ (k : Int) < (i : Int) := om
  simp (disch := omega) only [go_sem, Nat.reduceEqDiff, ↓reduceIte, Nat.reduceAdd, k4.cell, k6.cell, t, Tryz.results233]
  exact ⟨xw, b4, b5, b6, b7, rfl, by rw [Nat.min_eq_left hik]; exact k4, by rw [if_pos hik]; exact k5, by rw [Nat.max_eq_right hik]; exact k6, by rw [if_pos hik]; exact k7⟩
 ·have t : (k : Int) < (i : Int) := om
  simp (disch := omega) only [go_sem, Nat.reduceEqDiff, ↓reduceIte, Nat.reduceAdd, k4.cell, k6.cell, t]
  refine QR_cut (fun f V => f 4 = .pointer (some ⟨b4, 0, none⟩) ∧ f 5 = .pointer (some ⟨b5, 0, none⟩) ∧ f 6 = .pointer (some ⟨b6, 0, none⟩) ∧ f 7 = .pointer (some ⟨b7, 0, none⟩) ∧ Ext w V ∧ SightAt V b4 b5 b6 b7 k i b a) (fun f V ⟨a4, a5, a6, a7, xV, hs⟩ => ?_) ?_
  rotate_left
  ·skip
   refine Go.SWP.QR_sch (fun k => w.heap.size ≤ k) (.alt (.ef 0 (.alt (.ef 1 (.alt (.ef 2 (.ef 3 (.ef 4 (.ef 5 (.ef 6 (.fin 7 (.done))))))) (.ef 3 (.ef 2 (.ef 4 (.ef 5 (.ef 6 (.fin 7 (.done))))))))) (.alt (.ef 2 (.alt (.ef 1 (.ef 3 (.ef 4 (.ef 5 (.ef 6 (.fin 7 (.done))))))) (.ef 3 (.alt (.ef 1 (.ef 4 (.ef 5 (.ef 6 (.fin 7 (.done)))))) (.ef 4 (.ef 1 (.ef 5 (.ef 6 (.fin 7 (.done)))))))))) (.ef 3 (.alt (.ef 1 (.ef 2 (.ef 4 (.ef 5 (.ef 6 (.fin 7 (.done))))))) (.ef 2 (.alt (.ef 1 (.ef 4 (.ef 5 (.ef 6 (.fin 7 (.done)))))) (.ef 4 (.ef 1 (.ef 5 (.ef 6 (.fin 7 (.done))))))))))))) (.alt (.ef 1 (.alt (.ef 0 (.alt (.ef 2 (.ef 3 (.ef 4 (.ef 5 (.ef 6 (.fin 7 (.done))))))) (.ef 3 (.ef 2 (.ef 4 (.ef 5 (.ef 6 (.fin 7 (.done))))))))) (.alt (.ef 2 (.alt (.ef 0 (.ef 3 (.ef 4 (.ef 5 (.ef 6 (.fin 7 (.done))))))) (.ef 3 (.ef 0 (.ef 4 (.ef 5 (.ef 6 (.fin 7 (.done))))))))) (.ef 3 (.alt (.ef 0 (.ef 2 (.ef 4 (.ef 5 (.ef 6 (.fin 7 (.done))))))) (.ef 2 (.ef 0 (.ef 4 (.ef 5 (.ef 6 (.fin 7 (.done)))))))))))) (.alt (.ef 2 (.alt (.ef 0 (.alt (.ef 1 (.ef 3 (.ef 4 (.ef 5 (.ef 6 (.fin 7 (.done))))))) (.ef 3 (.alt (.ef 1 (.ef 4 (.ef 5 (.ef 6 (.fin 7 (.done)))))) (.ef 4 (.ef 1 (.ef 5 (.ef 6 (.fin 7 (.done)))))))))) (.alt (.ef 1 (.alt (.ef 0 (.ef 3 (.ef 4 (.ef 5 (.ef 6 (.fin 7 (.done))))))) (.ef 3 (.ef 0 (.ef 4 (.ef 5 (.ef 6 (.fin 7 (.done))))))))) (.ef 3 (.alt (.ef 0 (.alt (.ef 1 (.ef 4 (.ef 5 (.ef 6 (.fin 7 (.done)))))) (.ef 4 (.ef 1 (.ef 5 (.ef 6 (.fin 7 (.done)))))))) (.ef 1 (.ef 0 (.ef 4 (.ef 5 (.ef 6 (.fin 7 (.done)))))))))))) (.ef 3 (.alt (.ef 0 (.alt (.ef 1 (.ef 2 (.ef 4 (.ef 5 (.ef 6 (.fin 7 (.done))))))) (.ef 2 (.alt (.ef 1 (.ef 4 (.ef 5 (.ef 6 (.fin 7 (.done)))))) (.ef 4 (.ef 1 (.ef 5 (.ef 6 (.fin 7 (.done)))))))))) (.alt (.ef 1 (.alt (.ef 0 (.ef 2 (.ef 4 (.ef 5 (.ef 6 (.fin 7 (.done))))))) (.ef 2 (.ef 0 (.ef 4 (.ef 5 (.ef 6 (.fin 7 (.done))))))))) (.ef 2 (.alt (.ef 0 (.alt (.ef 1 (.ef 4 (.ef 5 (.ef 6 (.fin 7 (.done)))))) (.ef 4 (.ef 1 (.ef 5 (.ef 6 (.fin 7 (.done)))))))) (.ef 1 (.ef 0 (.ef 4 (.ef 5 (.ef 6 (.fin 7 (.done))))))))))))))) ke ke fun w0 x0 => ?_
   have sz := x0.size
   have X := xw.trans x0
   have k4 := k4.ext x0
   have k5 := k5.ext x0
   have k6 := k6.ext x0
   have k7 := k7.ext x0
   iterate 5
    all_goals try simp (disch := first | assumption | omega) only [go_sem, k4.cell, k5.cell, k6.cell, k7.cell]
    all_goals repeat' refine Go.SWP.RLT_alt ?_ ?_
    all_goals try simp (disch := first | assumption | omega) only [go_sem, k4.cell, k5.cell, k6.cell, k7.cell]
    all_goals
     first
     | refine Go.SWP.nxE_of (GrowP.refl _ _) ?_
     |refine stK_blk siz_int rf rf k4 sm fun v1 k4 g1 => ?_
      have k4 : Blk v1 b4 #[.int .i64 k] 3 := by simpa using k4
      have k5 := g1.blk k5 om
      have k6 := g1.blk k6 om
      have k7 := g1.blk k7 om
      refine Go.SWP.nxE_of (g1.grow.growP fun x e => by cases e; omega) ?_
      have X := g1.ext X om
   all_goals
    try simp (disch := first | assumption | omega) only [go_sem]
    refine stK_blk siz_int rf rf k5 sm fun v2 k5 g2 => ?_
    have k5 : Blk v2 b5 #[.int .i64 b] 3 := by simpa using k5
    have k4 := g2.blk k4 om
    have k6 := g2.blk k6 om
    have k7 := g2.blk k7 om
    refine Go.SWP.nxE_of (g2.grow.growP fun x e => by cases e; omega) ?_
    have X := g2.ext X om
    try simp (disch := first | assumption | omega) only [go_sem]
    refine stK_blk siz_int rf rf k6 sm fun v3 k6 g3 => ?_
    have k6 : Blk v3 b6 #[.int .i64 i] 3 := by simpa using k6
    have k5 := g3.blk k5 om
    have k4 := g3.blk k4 om
    have k7 := g3.blk k7 om
    refine Go.SWP.nxE_of (g3.grow.growP fun x e => by cases e; omega) ?_
    have X := g3.ext X om
    try simp (disch := first | assumption | omega) only [go_sem]
    refine stK_blk siz_int rf rf k7 sm fun v4 k7 g4 => ?_
    have k7 : Blk v4 b7 #[.int .i64 a] 3 := by simpa using k7
    have k5 := g4.blk k5 om
    have k6 := g4.blk k6 om
    have k4 := g4.blk k4 om
    have X := g4.ext X om
    simp (disch := omega) only [go_sem]
    exact ⟨uu, uu, uu, uu, X, k4, k5, k6, k7⟩
  simp (disch := omega) only [go_sem, Nat.reduceEqDiff, ↓reduceIte, Nat.reduceAdd, a4, a5, a6, a7, Tryz.results233]
  exact ⟨xV, b4, b5, b6, b7, rfl, by rw [Nat.min_eq_right om, Nat.max_eq_left om, if_neg hik, if_neg hik]; exact hs⟩
theorem inSight_c (a : Option Addr) (p : List Int) (c i k : Nat) (w : World) (hp : IntS w a p) (v : Prof p) (hi : i < p.length) (hk : k < p.length) : Ret Tryz.prog 222 #[.slice a p.length c, .int .i64 i, .int .i64 (p.getD i 0), .int .i64 k, .int .i64 (p.getD k 0)] w fun u w' => u = .bool (decide (SeesP p i k)) ∧ Ext w w' := by
 obtain ⟨h1, h7, hr⟩ := v
 obtain ⟨b, o, rfl⟩ := hp.head (by intro e; rw [e] at h1; simp at h1)
 refine enterX Tryz.func222 rfl ke df fun f hf => ?_
 have a0 : f 0 = .slice (some ⟨b, o, none⟩) p.length c := by simpa using (hf 0 sm).symm
 have a1 : f 1 = .int .i64 i := by simpa using (hf 1 sm).symm
 have a2 : f 2 = .int .i64 (p.getD i 0) := by simpa using (hf 2 sm).symm
 have a3 : f 3 = .int .i64 k := by simpa using (hf 3 sm).symm
 have a4 : f 4 = .int .i64 (p.getD k 0) := by simpa using (hf 4 sm).symm
 simp (disch := omega) only [go_sem, a1, a2, a3, a4]
 refine callK_of ke (sight_c i k _ _ _) ?_
 rintro _ w1 ⟨x1, b4, b5, b6, b7, rfl, hs⟩
 have hmn : min i k ≤ max i k := om
 have hm : min i k < p.length := om
 have hn : max i k < p.length := om
 have e1 : (if i ≤ k then p.getD i 0 else p.getD k 0) = p.getD (min i k) 0 := by
  by_cases h : i ≤ k
  ·rw [if_pos h, Nat.min_eq_left h]
  ·rw [if_neg h, Nat.min_eq_right om]
 have e2 : (if i ≤ k then p.getD k 0 else p.getD i 0) = p.getD (max i k) 0 := by
  by_cases h : i ≤ k
  ·rw [if_pos h, Nat.max_eq_right h]
  ·rw [if_neg h, Nat.max_eq_left om]
 rw [e1, e2] at hs
 have hsee := seesP_iff p i k
 have em : min (i : Int) (k : Int) = ((min i k : Nat) : Int) := om
 have en : max (i : Int) (k : Int) = ((max i k : Nat) : Int) := om
 generalize min i k = m at *
 generalize max i k = n at *
 have hxm := hr _ (getD_mem (d := 0) hm)
 have hxn := hr _ (getD_mem (d := 0) hn)
 simp (disch := omega) only [go_sem, a1, a3, em]
 refine loopN (n - m) (fun t f W => f 0 = .slice (some ⟨b, o, none⟩) p.length c ∧ f 1 = .int .i64 i ∧ f 3 = .int .i64 k ∧ f 11 = .func (.func 238) #[] #[.pointer (some ⟨b6, 0, none⟩), .pointer (some ⟨b4, 0, none⟩), .pointer (some ⟨b5, 0, none⟩), .pointer (some ⟨b7, 0, none⟩)] ∧ f 12 = .int .i64 ((m + t : Nat) + 1 : Int) ∧ Ext w1 W ∧ ∀ j, j < n → m < j → j ≤ m + t → FreeP p m n j)
  ⟨uu, uu, uu, uu, by simp [upd_apply], Ext.refl _, fun j _ _ _ => om⟩ fun t f W ht ⟨a0, a1, a3, a11, a12, xw, hfr⟩ => ?_
 by_cases hlt : ((m + t : Nat) + 1 : Int) < (n : Int)
 ·have hj : m + t + 1 < p.length := om
  have hcell := (hp.ext (x1.trans xw)).cell b o rfl (m + t + 1) hj
  have hh := hr _ (getD_mem (d := 0) hj)
  have ej : ((m + t : Nat) + 1 : Int) = ((m + t + 1 : Nat) : Int) := om
  rw [ej] at hlt a12
  simp (disch := omega) only [go_sem, a0, a1, a3, a11, a12, en, hlt, Int.toNat_natCast, hcell]
  have hgo : goB Tryz.prog 238 = true := ke
  refine callK_of hgo (sight1_c b4 b5 b6 b7 m n (m + t + 1) _ _ _ _ (hs.ext xw) ⟨om, om⟩ om hxm hxn hh) ?_
  rintro _ w2 ⟨rfl, x2⟩
  by_cases hf : FreeP p m n (m + t + 1)
  ·have hd : decide (p.getD (m + t + 1) 0 * ((n : Int) - m) ≤ p.getD m 0 * ((n : Int) - (m + t + 1 : Nat)) + p.getD n 0 * (((m + t + 1 : Nat) : Int) - m)) = true := decide_eq_true hf
   simp (disch := omega) only [go_sem, hd, a12]
   refine ⟨om, uu, uu, uu, uu, by simp [upd_apply]; omega, xw.trans x2, fun j h2 h3 h4 => ?_⟩
   by_cases e : j = m + t + 1
   ·subst e; exact hf
   ·exact hfr j h2 h3 om
  ·have hd : decide (p.getD (m + t + 1) 0 * ((n : Int) - m) ≤ p.getD m 0 * ((n : Int) - (m + t + 1 : Nat)) + p.getD n 0 * (((m + t + 1 : Nat) : Int) - m)) = false := decide_eq_false hf
   have hno : ¬ SeesP p i k := fun h => hf (hsee.1 h _ om om)
   simp (disch := omega) only [go_sem, hd, Tryz.results222]
   exact ⟨by simp [hno], x1.trans (xw.trans x2)⟩
 ·have hyes : SeesP p i k := hsee.2 fun j h2 h3 => hfr j h2 h3 om
  simp (disch := omega) only [go_sem, a1, a3, a12, en, hlt, Tryz.results222]
  exact ⟨by simp [hyes], x1.trans xw⟩
theorem implProfileSees_c (a : Option Addr) (p : List Int) (c i k : Nat) (w : World) (hp : IntS w a p) (v : Prof p) (hi : i < p.length) (hk : k < p.length) : Ret Tryz.prog 166 #[.slice a p.length c, .int .i64 i, .int .i64 k] w fun u w' => u = .bool (decide (SeesP p i k)) ∧ Ext w w' := by
 have h1 := v.1
 have hg : ∀ w, IntS w a p → Ret Tryz.prog 199 #[.slice a p.length c, .int .i64 i, .int .i64 k] w fun u w' => u = .bool (decide (SeesP p i k)) ∧ Ext w w' := fun w hp => by
  obtain ⟨b, o, rfl⟩ := hp.head (by intro e; rw [e] at h1; simp at h1)
  refine enter3 Tryz.func199 rfl fun f a0 a1 a2 => ?_
  have ci : ∀ {V}, Ext w V → V.cell? ⟨b, o + i, none⟩ = some (.int .i64 (p.getD i 0)) := fun x => (hp.ext x).cell b o rfl i hi
  have ck : ∀ {V}, Ext w V → V.cell? ⟨b, o + k, none⟩ = some (.int .i64 (p.getD k 0)) := fun x => (hp.ext x).cell b o rfl k hk
  have ex : Ext w w := Ext.refl _
  have i1 : (i : Int) < (p.length : Int) := om
  have k1 : (k : Int) < (p.length : Int) := om
  simp (disch := omega) only [go_sem]
  refine QR_sch none (.st 0 (.st 1 (.st 2 (.st 3 (.st 4 (.st 5 (.st 6 (.st 7 (.st 8 (.st 9 (.st 10 (.ef 11 (.st 12 (.done)))))))))))))) ke ke fun w0 x0 => ?_
  have X := ex.trans x0
  simp (disch := omega) only [go_sem, a0, a1, a2, ci x0, ck x0, Int.toNat_natCast, ldS_none]
  refine callK_of ke (inSight_c _ p _ i k _ (hp.ext X) v hi hk) ?_
  rintro _ w1 ⟨rfl, y1⟩
  refine nxE_of (y1.grow _) ?_
  have X := X.trans y1
  simp (disch := omega) only [go_sem, Tryz.results199]
  exact ⟨trivial, X⟩
 refine enter3 Tryz.func166 rfl fun f a0 a1 a2 => ?_
 simp (disch := omega) only [go_sem, a0, a1]
 refine callK_pure ke (hasPoint_c a p c i _ hp v hi) fun w1 x1 => ?_
 simp (disch := omega) only [go_sem, a0, a2]
 refine callK_pure ke (hasPoint_c a p c k _ (hp.ext x1) v hk) fun w2 x2 => ?_
 simp (disch := omega) only [go_sem, a0, a1, a2]
 refine callK_pure ke (hg _ ((hp.ext x1).ext x2)) fun w3 x3 => ?_
 simp (disch := omega) only [go_sem, Tryz.results166]
 exact ⟨by first | rfl | trivial, (x1.trans x2).trans x3⟩
end Go.Proofs.YtcbmhjndbpafbaaGreatDoor
