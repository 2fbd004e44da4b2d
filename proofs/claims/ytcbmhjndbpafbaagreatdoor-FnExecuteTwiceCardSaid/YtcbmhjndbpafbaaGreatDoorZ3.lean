import Derived.Test.YtcbmhjndbpafbaaGreatDoorZ2
import Derived.Test.YtcbmhjndbpafbaaGreatDoorKp
set_option linter.all false
set_option maxRecDepth 20000
namespace Go.SW
open Go Go.RowKit
theorem wtL_snoc {s : Lb} {d : Int} : ∀ {L : List Lb} {t : List Int}, t.length = L.length → wtL (L ++ [s]) (t ++ [d]) = wtL L t + if d = -1 then 0 else s.v
 | [], [], _ => by simp [wtL]
 | [], _ :: _, h => by simp at h
 | _ :: _, [], h => by simp at h
 | a :: L, x :: t, h => by
  simp only [List.cons_append, wtL]
  rw [wtL_snoc (by simpa using h)]
  omega
theorem wtL_at {L : List Lb} {t : List Int} {k : Nat} (hk : k < L.length) (ht : t.length = k) (d : Int) : wtL (L.take (k + 1)) (t ++ [d]) = wtL (L.take k) t + if d = -1 then 0 else (L.getD k lb0).v := by
 rw [take_snoc lb0 hk, wtL_snoc (by rw [List.length_take]; omega)]
theorem wtL_bnd : ∀ {L : List Lb} {t : List Int}, (∀ s ∈ L, s.Ok) → 0 ≤ wtL L t ∧ wtL L t ≤ 9 * (L.length : Int)
 | [], t, _ => by simp [wtL]
 | _ :: _, [], _ => by simp only [wtL]; omega
 | s :: L, d :: t, h => by
  have ih := wtL_bnd (L := L) (t := t) fun x hx => h x (by simp [hx])
  obtain ⟨_, _, _, _, _, _, h1, h2⟩ := h s sm
  simp only [wtL, List.length_cons]
  split <;> omega
def kpTo (B : Nat → Nat) (s : Lb) (k : Nat) (L : List Lb) (c : Int) (pre : List Int) (r : Int × List Int) (j : Nat) : Int × List Int :=
 (List.range j).foldl (fun r d => if fits B s d then btr r (c + s.v + val (putL B s d k) (k + 1) L, pre ++ [(d : Int)] ++ pick (putL B s d k) (k + 1) L) else r) r
theorem kpTo_succ (B : Nat → Nat) (s : Lb) (k : Nat) (L : List Lb) (c : Int) (pre : List Int) (r : Int × List Int) (j : Nat) : kpTo B s k L c pre r (j + 1) = if fits B s j then btr (kpTo B s k L c pre r j) (c + s.v + val (putL B s j k) (k + 1) L, pre ++ [(j : Int)] ++ pick (putL B s j k) (k + 1) L) else kpTo B s k L c pre r j := by
 simp only [kpTo, List.range_succ, List.foldl_append, List.foldl_cons, List.foldl_nil]
theorem kp_node (B : Nat → Nat) (s : Lb) (k : Nat) (L : List Lb) (c : Int) (pre : List Int) (r : Int × List Int) :
  btr r (c + val B k (s :: L), pre ++ pick B k (s :: L)) = btr (kpTo B s k L c pre r 4) (c + val B (k + 1) L, pre ++ [-1] ++ pick B (k + 1) L) := by
 have side : ∀ (R : List Nat) (r : Int × List Int), (R.flatMap (fun d => if fits B s d then (sets (putL B s d k) (k + 1) L).map ((d : Int) :: ·) else [])).foldl (keep (s :: L) c pre) r
   = R.foldl (fun r d => if fits B s d then btr r (c + s.v + val (putL B s d k) (k + 1) L, pre ++ [(d : Int)] ++ pick (putL B s d k) (k + 1) L) else r) r := by
  intro R
  induction R with
  | nil => intro r; rfl
  | cons d R ih =>
   intro r
   rw [List.flatMap_cons, List.foldl_append, ih, List.foldl_cons]
   congr 1
   split
   ·rw [keep_map, keep_sets L, if_neg om]
   ·rfl
 rw [← keep_sets (s :: L) B k c pre r, sets, List.foldl_append, side, keep_map, keep_sets L, if_pos rfl, Int.add_zero]
 rfl
theorem GrowP.fresh {X Y : Nat → Prop} {a b c : World} (g : GrowP X a b) (h : GrowP Y b c) (hY : ∀ k, Y k → X k ∨ a.heap.size ≤ k) : GrowP X a c :=
 ⟨h.os.trans g.os, h.tape.trans g.tape, h.output.trans g.output, Nat.le_trans g.size h.size, fun k hk hx => by
  rw [h.other k (Nat.lt_of_lt_of_le hk g.size) fun hy => (hY k hy).elim hx om, g.other k hk hx]⟩
theorem growP_own {X : Nat → Prop} {w w' : World} {e s n c : Nat} {a : Option Addr} {xs : List Value} (g : GrowP X w w') (o : OwnS w e s a n c xs) (h : ∀ b, blk a = some b → ¬ X b) : OwnS w' e s a n c xs :=
 o.kept fun b hb => g.other b (o.blk_lt hb) (h b hb)
theorem QR_cut {P : Program} {N id : Nat} {ops : Array Oper} {Kn : F → World → Prop} {Ke : Nat → F → World → Prop} {Kr : F → World → Prop} {f : F} {w : World} (J : F → World → Prop) (hJ : ∀ f w, J f w → Kn f w) (h : QR P N id ops J Ke Kr f w) : QR P N id ops Kn Ke Kr f w :=
 cw_mono h hJ fun _ _ h => h
end Go.SW
namespace Go.Proofs.YtcbmhjndbpafbaaGreatDoor
open Go.RowKit Go.SW
theorem scal_lbs : scal Tryz.prog 33 = true := ke
attribute [go_sem] scal_lbs
theorem weightOf_c (la : Option Addr) (L : List Lb) (lc : Nat) (ta : Option Addr) (t : List Int) (tc : Nat) (w : World) (hL : LabS w la L) (hv : LVal L) (ht : IntS w ta t) (hlen : t.length = L.length) :
  Ret Tryz.prog 52 #[.slice la L.length lc, .slice ta t.length tc] w fun v w' => (∃ n, v = .tuple #[.int .i64 (wtL L t), .int .i64 n]) ∧ Ext w w' := by
 have hs6 := hv.1
 refine enter2 Tryz.func52 rfl fun f a0 a1 => ?_
 simp (disch := omega) only [go_sem, a1]
 refine loopN L.length (fun k f W => f 0 = .slice la L.length lc ∧ f 6 = .int .i64 (wtL (L.take k) (t.take k)) ∧ (∃ n : Nat, f 7 = .int .i64 n ∧ n ≤ k) ∧ f 10 = .slice ta t.length tc ∧ f 11 = .int .i64 t.length ∧ f 12 = .int .i64 k ∧ Ext w W)
  ⟨uu, by simp [upd_apply, wtL], ⟨0, by simp [upd_apply], Nat.le_refl _⟩, uu, uu, uu, Ext.refl _⟩ fun k f W hk ⟨a0, a6, ⟨n, a7, hn⟩, a10, a11, a12, xw⟩ => ?_
 by_cases hlt : (k : Int) < (t.length : Int)
 ·have hkL : k < L.length := om
  obtain ⟨lb, lo, rfl⟩ := hL.head (by intro e; rw [e] at hkL; simp at hkL)
  obtain ⟨tb, to, rfl⟩ := ht.head (by intro e; rw [e] at hlen; simp at hlen; omega)
  obtain ⟨-, -, -, hcv⟩ := (hL.ext xw).fld hkL
  have hct := (ht.ext xw).cell tb to rfl k om
  have hwt := wtL_at (t := t.take k) hkL (by rw [List.length_take]; omega) (t.getD k 0)
  rw [← take_snoc 0 om] at hwt
  have hbn := wtL_bnd (L := L.take k) (t := t.take k) fun x hx => hv.mem x (List.mem_of_mem_take hx)
  rw [List.length_take] at hbn
  obtain ⟨_, _, _, _, _, _, v1, v2⟩ := hv.ok hkL
  by_cases hd : t.getD k 0 = -1
  ·have hd' : (t.getD k 0 != -1) = false := by rw [hd]; rfl
   rw [if_pos hd, Int.add_zero] at hwt
   simp (disch := omega) only [go_sem, a10, a11, a12, hlt, hct, hd']
   exact ⟨hkL, uu, by simp [upd_apply, a6, hwt], ⟨n, by simp [upd_apply, a7], om⟩, uu, uu, uu, xw⟩
  ·have hd' : (t.getD k 0 != -1) = true := by rw [bne_iff_ne]; exact hd
   rw [if_neg hd] at hwt
   simp (disch := omega) only [go_sem, a0, a6, a7, a10, a11, a12, hlt, hct, hd', hcv]
   exact ⟨hkL, uu, by simp [upd_apply, hwt], ⟨n + 1, by simp [upd_apply], om⟩, uu, uu, uu, xw⟩
 ·obtain rfl : k = L.length := om
  rw [List.take_length, List.take_of_length_le om] at a6
  simp (disch := omega) only [go_sem, a6, a7, a11, a12, hlt, Tryz.results52]
  exact ⟨⟨n, rfl⟩, xw⟩
structure Env (w : World) (la : Option Addr) (lc : Nat) (L : List Lb) (lbx gb bbx bb : Nat) (r : Int × List Int) : Prop where
 lab : LabS w la L
 kl : Blk w lbx #[.slice la L.length lc] 33
 kg : Blk w gb #[.int .i64 r.1] 3
 kb : Blk w bbx #[.slice (some ⟨bb, 0, none⟩) L.length L.length] 35
 kv : Blk w bb (vi r.2).toArray 3
 len : r.2.length = L.length
 ne : gb ≠ bb ∧ gb ≠ lbx ∧ gb ≠ bbx ∧ bb ≠ lbx ∧ bb ≠ bbx
 far : ∀ b, blk la = some b → b ≠ gb ∧ b ≠ bb
theorem Env.growP {X : Nat → Prop} {w w' : World} {la : Option Addr} {lc : Nat} {L : List Lb} {lbx gb bbx bb : Nat} {r : Int × List Int} (h : Env w la lc L lbx gb bbx bb r) (g : GrowP X w w') (h1 : ¬ X lbx) (h2 : ¬ X gb) (h3 : ¬ X bbx) (h4 : ¬ X bb) (h5 : ∀ b, blk la = some b → ¬ X b) : Env w' la lc L lbx gb bbx bb r :=
 ⟨h.lab.kept fun b hb hlt => g.other b hlt (h5 b hb), g.blk h.kl h1, g.blk h.kg h2, g.blk h.kb h3, g.blk h.kv h4, h.len, h.ne, h.far⟩
theorem Env.ext {w w' : World} {la : Option Addr} {lc : Nat} {L : List Lb} {lbx gb bbx bb : Nat} {r : Int × List Int} (h : Env w la lc L lbx gb bbx bb r) (e : Ext w w') : Env w' la lc L lbx gb bbx bb r :=
 h.growP (e.growP fun _ => False) id id id id fun _ _ => id
theorem found_c (la : Option Addr) (lc : Nat) (L : List Lb) (lbx gb bbx bb : Nat) (r : Int × List Int) (ta : Option Addr) (t : List Int) (tc : Nat) (w : World) (hv : LVal L) (e : Env w la lc L lbx gb bbx bb r) (ht : IntS w ta t) (hlen : t.length = L.length) (hfar : ∀ b, blk ta = some b → b ≠ gb ∧ b ≠ bb) :
  Ret Tryz.prog 51 #[.slice ta t.length tc, .pointer (some ⟨lbx, 0, none⟩), .pointer (some ⟨gb, 0, none⟩), .pointer (some ⟨bbx, 0, none⟩)] w fun v w' => v = .tuple #[] ∧ GrowP (fun b => b = gb ∨ b = bb) w w' ∧ Env w' la lc L lbx gb bbx bb (btr r (wtL L t, t)) := by
 obtain ⟨n1, n2, n3, n4, n5⟩ := e.ne
 refine enter4 Tryz.func51 rfl fun f a0 a1 a2 a3 => ?_
 simp (disch := omega) only [go_sem, a0, a1, e.kl.cell]
 refine callK_of ke (weightOf_c la L lc ta t tc _ e.lab hv ht hlen) ?_
 rintro _ w1 ⟨⟨n, rfl⟩, x1⟩
 have e1 := e.ext x1
 by_cases hlt : r.1 < wtL L t
 ·have hb : btr r (wtL L t, t) = (wtL L t, t) := by simp [btr, hlt]
  rw [hb]
  simp (disch := omega) only [go_sem, a2, e1.kg.cell, hlt]
  refine stK_blk siz_int rf rf e1.kg sm fun w2 k2 g2 => ?_
  have k2 : Blk w2 gb #[.int .i64 (wtL L t)] 3 := by simpa using k2
  have kb2 := g2.blk e1.kb (Ne.symm n3)
  have kv2 := g2.blk e1.kv (Ne.symm n1)
  have kl2 := g2.blk e1.kl (Ne.symm n2)
  have lab2 := e1.lab.grow g2.grow fun b hb e => (e1.far b hb).1 (by simpa using e.symm)
  have ht2 := (ht.ext x1).grow g2.grow fun b hb e => (hfar b hb).1 (by simpa using e.symm)
  have g12 : GrowP (fun b => b = gb ∨ b = bb) w w2 := (x1.growP _).trans (g2.grow.growP fun b hb => .inl (by simpa using hb.symm))
  simp (disch := omega) only [go_sem, a0, a3, kb2.cell]
  by_cases h0 : L.length = 0
  ·have ht0 : t = [] := List.eq_nil_of_length_eq_zero om
   rw [hlen, h0]
   refine cpyK_nil elt_i ta ?_
   simp (disch := omega) only [go_sem, Tryz.results51]
   have hr2 : r.2 = t := by rw [ht0]; exact List.eq_nil_of_length_eq_zero (by rw [e.len]; exact h0)
   exact ⟨trivial, g12, lab2, kl2, k2, kb2, by rw [← hr2]; exact kv2, hlen, e.ne, e.far⟩
  ·obtain ⟨tb, to, rfl⟩ := ht.head (by intro e; rw [e] at hlen; simp at hlen; omega)
   refine cpyK_all elt_i kv2 (by simp [vi_len, e.len]) hlen (vi t) (by rw [vi_len, hlen]) (fun j u hu => ?_) (fun u hu => ?_) fun w3 k3 g3 => ?_
   ·have hj : j < t.length := by have := (List.getElem?_eq_some_iff.1 hu).1; rwa [vi_len] at this
    rw [vi_get _ _ hj] at hu
    cases hu
    rw [add_mk, ht2.cell tb to rfl j hj]
   ·simp only [vi, List.mem_map] at hu
    obtain ⟨x, _, rfl⟩ := hu
    rfl
   simp (disch := omega) only [go_sem, Tryz.results51]
   exact ⟨trivial, g12.trans (g3.grow.growP fun b hb => .inr (by simpa using hb.symm)), lab2.grow g3.grow (fun b hb e => (e1.far b hb).2 (by simpa using e.symm)), g3.blk kl2 (Ne.symm n4), g3.blk k2 n1, g3.blk kb2 (Ne.symm n5), k3, hlen, e.ne, e.far⟩
 ·have hb : btr r (wtL L t, t) = r := by simp [btr, hlt]
  rw [hb]
  simp (disch := omega) only [go_sem, a2, e1.kg.cell, hlt, Tryz.results51]
  exact ⟨trivial, x1.growP _, e1⟩
theorem eachSetting_c (la : Option Addr) (lc : Nat) (L : List Lb) (lbx gb bbx bb : Nat) (hv : LVal L) : ∀ (n k : Nat) (pre : List Int) (B : Nat → Nat) (sa : Option Addr) (sc : Nat) (r : Int × List Int) (w : World), L.length - k = n → k ≤ L.length → pre.length = k → OwnS w 3 1 sa k sc (vi pre) →
  (∀ b, blk sa = some b → b ≠ lbx ∧ b ≠ gb ∧ b ≠ bbx ∧ b ≠ bb ∧ blk la ≠ some b) → Env w la lc L lbx gb bbx bb r → Bd 6 B →
  Ret Tryz.prog 49 #[.slice la L.length lc, .agg (bdA B), .slice sa k sc, .func (.func 51) #[] #[.pointer (some ⟨lbx, 0, none⟩), .pointer (some ⟨gb, 0, none⟩), .pointer (some ⟨bbx, 0, none⟩)]] w fun v w' =>
   v = .tuple #[] ∧ GrowP (fun b => b = gb ∨ b = bb ∨ blk sa = some b) w w' ∧ OwnS w' 3 1 sa k sc (vi pre) ∧ Env w' la lc L lbx gb bbx bb (btr r (wtL (L.take k) pre + val B k (L.drop k), pre ++ pick B k (L.drop k))) := by
 have hs6 := hv.1
 intro n
 induction n with
 | zero =>
  intro k pre B sa sc r w hn hk hpl oS hsa hE hB
  have ek : k = L.length := om
  have e0 : L.drop k = [] := List.drop_eq_nil_of_le om
  have ei : (k : Int) = (L.length : Int) := om
  subst hpl
  refine enter4 Tryz.func49 rfl fun f a0 a1 a2 a3 => ?_
  simp only [go_sem, a1]
  refine boxK_of fun w1 bx e1 x1 kx _ => ?_
  simp (disch := omega) only [go_sem, a0, a2, a3, ei, beq_self_eq_true]
  refine callK_of ke (found_c la lc L lbx gb bbx bb r sa pre sc _ hv (hE.ext x1) (oS.ext x1).ints om (fun b hb => ⟨(hsa b hb).2.1, (hsa b hb).2.2.2.1⟩)) ?_
  rintro _ w2 ⟨rfl, g2, E2⟩
  simp (disch := omega) only [go_sem, Tryz.results49]
  have hval : btr r (wtL (L.take pre.length) pre + val B pre.length (L.drop pre.length), pre ++ pick B pre.length (L.drop pre.length)) = btr r (wtL L pre, pre) := by
   rw [e0, ek, List.take_length]
   simp [val, pick]
  rw [hval]
  exact ⟨trivial, (x1.growP _).trans (g2.weaken fun b hb => .inl (hb.elim .inl fun h => .inr (.inl h))), growP_own g2 (oS.ext x1) (fun b hb h => h.elim (hsa b hb).2.1 (hsa b hb).2.2.2.1), E2⟩
 | succ n ih =>
  intro k pre B sa sc r w hn hk hpl oS hsa hE hB
  have hkL : k < L.length := om
  have e : ((k : Int) == (L.length : Int)) = false := beq_eq_false_iff_ne.2 om
  obtain ⟨lb, lo, rfl⟩ := hE.lab.head (by intro e; rw [e] at hkL; simp at hkL)
  have hdr := drop_at hkL
  have hOk := hv.ok hkL
  have hdr2 : L.drop (k + 1) = L.drop (k + 1) := rfl
  refine enter4 Tryz.func49 rfl fun f a0 a1 a2 a3 => ?_
  simp only [go_sem, a1]
  refine boxK_of fun w1 bx e1 x1 kx _ => ?_
  have kx : Blk w1 bx (bdA B) 83 := by simpa [Value.cells] using kx
  have lbxl := hE.kl.lt
  have gbl := hE.kg.lt
  have bbxl := hE.kb.lt
  have bbl := hE.kv.lt
  have hla0 : lb < w.heap.size := World.block_lt_of_cell? w _ (hE.lab.fld hkL).1
  have hla : ∀ b, blk (some (⟨lb, lo, none⟩ : Addr)) = some b → b < w.heap.size := fun b hb => by simp only [blk_some, Option.some.injEq] at hb; omega
  have hsl : ∀ b, blk sa = some b → b < w.heap.size := fun b hb => oS.blk_lt hb
  have hlafar := hE.far lb rfl
  simp (disch := omega) only [go_sem, a0, a2, a3, e]
  refine loopN 4 (fun j f W => f 0 = .slice (some ⟨lb, lo, none⟩) L.length lc ∧ f 2 = .slice sa k sc ∧ f 3 = .func (.func 51) #[] #[.pointer (some ⟨lbx, 0, none⟩), .pointer (some ⟨gb, 0, none⟩), .pointer (some ⟨bbx, 0, none⟩)] ∧ f 5 = .pointer (some ⟨bx, 0, none⟩) ∧ f 8 = .int .i64 k ∧ f 21 = .int .i64 j ∧
    GrowP (fun b => b = gb ∨ b = bb ∨ blk sa = some b) w W ∧ Blk W bx (bdA B) 83 ∧ OwnS W 3 1 sa k sc (vi pre) ∧ Env W (some ⟨lb, lo, none⟩) lc L lbx gb bbx bb (kpTo B (L.getD k lb0) k (L.drop (k + 1)) (wtL (L.take k) pre) pre r j))
   ⟨uu, uu, uu, uu, uu, uu, x1.growP _, kx, oS.ext x1, hE.ext x1⟩ fun j f W hj ⟨a0, a2, a3, a5, a8, a21, gW, kW, oW, EW⟩ => ?_
  have sgW := gW.size
  have bxl := kW.lt
  by_cases hlt : (j : Int) < 4
  ·have hj4 : j < 4 := om
   have hrd : ∀ {V}, Ext W V → readCells V ⟨lb, lo + k * 4, none⟩ 4 = some [.int .i64 (L.getD k lb0).x, .int .i64 (L.getD k lb0).y, .int .i64 (L.getD k lb0).w, .int .i64 (L.getD k lb0).v] := fun x => (EW.lab.ext x).read hkL
   have hbd : ∀ {V}, Ext W V → readCells V ⟨bx, 0, none⟩ 100 = some (bdA B).toList := fun x => blk_bd (kW.ext x)
   have hlW : lb < W.heap.size := om
   have hks := kpTo_succ B (L.getD k lb0) k (L.drop (k + 1)) (wtL (L.take k) pre) pre r j
   generalize hsk : L.getD k lb0 = s at *
   generalize hRJ : kpTo B s k (L.drop (k + 1)) (wtL (L.take k) pre) pre r j = RJ at *
   have ex : Ext W W := Ext.refl _
   simp (disch := omega) only [go_sem, a0, a8, a21, hlt]
   refine QR_cut (fun f V => f 0 = .slice (some ⟨lb, lo, none⟩) L.length lc ∧ f 2 = .slice sa k sc ∧ f 3 = .func (.func 51) #[] #[.pointer (some ⟨lbx, 0, none⟩), .pointer (some ⟨gb, 0, none⟩), .pointer (some ⟨bbx, 0, none⟩)] ∧ f 5 = .pointer (some ⟨bx, 0, none⟩) ∧ f 8 = .int .i64 k ∧ f 9 = .int .i64 j ∧ f 21 = .int .i64 j ∧ Ext W V ∧ ∃ nb B', f 10 = .pointer (some ⟨nb, 0, none⟩) ∧ f 11 = .bool (fits B s j) ∧ Bd 6 B' ∧ Blk V nb (bdA B') 83 ∧ W.heap.size ≤ nb ∧ (fits B s j = true → B' = putL B s j k)) (fun f V ⟨a0, a2, a3, a5, a8, a9, a21, xWV, nb, B', a10, a11, hB', kn, hnb, hfit⟩ => ?_) ?_
   rotate_left
   ·skip
    refine Go.SWP.QR_sch (fun k => W.heap.size ≤ k) (.st 0 (.st 1 (.st 2 (.st 3 (.st 4 (.st 5 (.st 6 (.alt (.ef 7 (.alt (.ef 8 (.st 9 (.st 10 (.st 11 (.ef 12 (.ef 13 (.st 14 (.done)))))))) (.ef 12 (.ef 8 (.st 9 (.st 10 (.st 11 (.ef 13 (.st 14 (.done)))))))))) (.ef 12 (.ef 7 (.ef 8 (.st 9 (.st 10 (.st 11 (.ef 13 (.st 14 (.done))))))))))))))))) ke ke fun w0 x0 => ?_
    have sz := x0.size
    have X := ex.trans x0
    simp (disch := omega) only [go_sem, a0, a5, a8, hrd x0, hbd x0]
    refine Go.SWP.RLT_alt ?_ ?_
    ·simp (disch := omega) only [go_sem, a0, a5, a8, hrd x0, hbd x0]
     refine callK_of ke (signOf_c k om _) ?_
     rintro _ w1 ⟨rfl, y1⟩
     have x0 := x0.trans y1
     refine Go.SWP.nxE_of (y1.growP _) ?_
     have sz := y1.size
     have X := X.trans y1
     simp (disch := omega) only [go_sem, a0, a5, a8, hrd x0, hbd x0]
     refine Go.SWP.RLT_alt ?_ ?_
     ·simp (disch := omega) only [go_sem, a0, a5, a8, hrd x0, hbd x0]
      refine callK_of ke (with_c B s j k _ hB hOk hj4 om) ?_
      rintro _ w1 ⟨y1, B1, hB1, rfl, hfit⟩
      have x0 := x0.trans y1
      refine Go.SWP.nxE_of (y1.growP _) ?_
      have sz := y1.size
      have X := X.trans y1
      simp (disch := omega) only [go_sem, a0, a5, a8, hrd x0, hbd x0]
      refine allocK_of zero_bo fun w1 nb en y1 kn _ => ?_
      have x0 := x0.trans y1
      refine Go.SWP.nxE_of (y1.growP _) ?_
      have sz := y1.size
      have X := X.trans y1
      simp (disch := omega) only [go_sem, a0, a5, a8, hrd x0, hbd x0]
      refine stK_agg siz_bd (by simp [bdA_size]) (by simpa using bdA_one _) kn sm fun w1 kn g1 => ?_
      refine Go.SWP.nxE_of (g1.grow.growP fun x e => by cases e; omega) ?_
      have X := g1.ext X om
      simp (disch := omega) only [go_sem]
      exact ⟨uu, uu, uu, uu, uu, uu, uu, X, nb, B1, by simp [upd_apply, updO_some, updO_none], by simp [upd_apply, updO_some, updO_none], hB1, kn, om, hfit⟩
     ·simp (disch := omega) only [go_sem, a0, a5, a8, hrd x0, hbd x0]
      refine allocK_of zero_bo fun w1 nb en y1 kn _ => ?_
      have x0 := x0.trans y1
      refine Go.SWP.nxE_of (y1.growP _) ?_
      have sz := y1.size
      have X := X.trans y1
      simp (disch := omega) only [go_sem, a0, a5, a8, hrd x0, hbd x0]
      refine callK_of ke (with_c B s j k _ hB hOk hj4 om) ?_
      rintro _ w1 ⟨y1, B1, hB1, rfl, hfit⟩
      have x0 := x0.trans y1
      refine Go.SWP.nxE_of (y1.growP _) ?_
      have sz := y1.size
      have X := X.trans y1
      have kn := kn.ext y1
      simp (disch := omega) only [go_sem, a0, a5, a8, hrd x0, hbd x0]
      refine stK_agg siz_bd (by simp [bdA_size]) (by simpa using bdA_one _) kn sm fun w1 kn g1 => ?_
      refine Go.SWP.nxE_of (g1.grow.growP fun x e => by cases e; omega) ?_
      have X := g1.ext X om
      simp (disch := omega) only [go_sem]
      exact ⟨uu, uu, uu, uu, uu, uu, uu, X, nb, B1, by simp [upd_apply, updO_some, updO_none], by simp [upd_apply, updO_some, updO_none], hB1, kn, om, hfit⟩
    ·simp (disch := omega) only [go_sem, a0, a5, a8, hrd x0, hbd x0]
     refine allocK_of zero_bo fun w1 nb en y1 kn _ => ?_
     have x0 := x0.trans y1
     refine Go.SWP.nxE_of (y1.growP _) ?_
     have sz := y1.size
     have X := X.trans y1
     simp (disch := omega) only [go_sem, a0, a5, a8, hrd x0, hbd x0]
     refine callK_of ke (signOf_c k om _) ?_
     rintro _ w1 ⟨rfl, y1⟩
     have x0 := x0.trans y1
     refine Go.SWP.nxE_of (y1.growP _) ?_
     have sz := y1.size
     have X := X.trans y1
     have kn := kn.ext y1
     simp (disch := omega) only [go_sem, a0, a5, a8, hrd x0, hbd x0]
     refine callK_of ke (with_c B s j k _ hB hOk hj4 om) ?_
     rintro _ w1 ⟨y1, B1, hB1, rfl, hfit⟩
     have x0 := x0.trans y1
     refine Go.SWP.nxE_of (y1.growP _) ?_
     have sz := y1.size
     have X := X.trans y1
     have kn := kn.ext y1
     simp (disch := omega) only [go_sem, a0, a5, a8, hrd x0, hbd x0]
     refine stK_agg siz_bd (by simp [bdA_size]) (by simpa using bdA_one _) kn sm fun w1 kn g1 => ?_
     refine Go.SWP.nxE_of (g1.grow.growP fun x e => by cases e; omega) ?_
     have X := g1.ext X om
     simp (disch := omega) only [go_sem]
     exact ⟨uu, uu, uu, uu, uu, uu, uu, X, nb, B1, by simp [upd_apply, updO_some, updO_none], by simp [upd_apply, updO_some, updO_none], hB1, kn, om, hfit⟩
   have oV := oW.ext xWV
   have EV := EW.ext xWV
   have kV := kW.ext xWV
   have sWV := xWV.size
   cases hf : fits B s j with
   | false =>
    rw [hf] at a11 hks
    simp (disch := omega) only [go_sem, a11, a21]
    exact ⟨hj4, uu, uu, uu, uu, uu, by simp [upd_apply], gW.trans (xWV.growP _), kV, oV, by rw [hks]; exact EV⟩
   | true =>
    rw [hf] at a11 hks
    have eB := hfit hf
    subst eB
    have nbl := kn.lt
    simp (disch := omega) only [go_sem, a11]
    refine Go.SWP.QR_sch (fun b => b = gb ∨ b = bb ∨ blk sa = some b ∨ V.heap.size ≤ b) (.st 0 (.st 1 (.st 2 (.st 3 (.st 6 (.ef 4 (.ef 5 (.ef 7 (.done))))))))) ke ke fun w0 x0 => ?_
    have hld : ∀ (kk : Value → World → Prop) (W' : World), Go.SWP.ldS Tryz.prog (fun b => b = gb ∨ b = bb ∨ blk sa = some b ∨ V.heap.size ≤ b) 83 (.pointer (some ⟨nb, 0, none⟩)) kk W' = ldK Tryz.prog 83 (.pointer (some ⟨nb, 0, none⟩)) kk W' := fun kk W' => by
     simp only [Go.SWP.ldS]
     exact propext ⟨fun h => h.2, fun h => ⟨by rintro (e | e | e | e) <;> first | omega | exact absurd e (fun e => by have := hsl nb e; omega), h⟩⟩
    simp (disch := omega) only [go_sem, a0, a2, a3, a9, a10, hld, blk_bd (kn.ext x0)]
    refine bslK_1 elt_i rfl fun w1' ab e1' y1 ka _ => ?_
    refine Go.SWP.nxE_of (y1.growP _) ?_
    have xV1 := x0.trans y1
    simp (disch := omega) only [go_sem]
    refine appK_1c elt_i (oV.ext xV1) ka rfl om om fun w2' a2' c2 o2 h2 => ?_
    have sz1 := xV1.size
    have g2 : GrowP (fun b => b = gb ∨ b = bb ∨ blk sa = some b) w1' w2' := by
     rcases h2 with ⟨-, -, g⟩ | ⟨x, -⟩
     ·exact g.growP fun b hb => .inr (.inr hb)
     ·exact x.growP _
    have hfr : ∀ b, blk a2' = some b → blk sa = some b ∨ w1'.heap.size ≤ b := by
     rcases h2 with ⟨rfl, -, -⟩ | ⟨-, h⟩
     ·exact fun b hb => .inl hb
     ·exact fun b hb => .inr (h b hb)
    refine Go.SWP.nxE_of (GrowP.weaken g2 fun b hb => by rcases hb with h | h | h <;> simp [h]) ?_
    have E2 : Env w2' (some ⟨lb, lo, none⟩) lc L lbx gb bbx bb RJ := by
     rcases h2 with ⟨-, -, g⟩ | ⟨x, -⟩
     ·exact (EV.ext xV1).growP (X := fun b => blk sa = some b) (g.growP fun b hb => hb) (fun e => (hsa _ e).1 rfl) (fun e => (hsa _ e).2.1 rfl) (fun e => (hsa _ e).2.2.1 rfl) (fun e => (hsa _ e).2.2.2.1 rfl) (fun b hb e => (hsa b e).2.2.2.2 hb)
     ·exact (EV.ext xV1).ext x
    rw [vi_snoc] at o2
    simp (disch := omega) only [go_sem]
    have hsa2 : ∀ b, blk a2' = some b → b ≠ lbx ∧ b ≠ gb ∧ b ≠ bbx ∧ b ≠ bb ∧ blk (some (⟨lb, lo, none⟩ : Addr)) ≠ some b := fun b hb => by
     rcases hfr b hb with h | h
     ·exact hsa b h
     ·have z := sz1
      exact ⟨om, om, om, om, fun e => by have := hla b e; omega⟩
    refine callK_of ke (ih (k + 1) (pre ++ [(j : Int)]) (putL B s j k) a2' c2 RJ w2' om om (by simp [hpl]) o2 hsa2 E2 (hB.put om)) ?_
    rintro _ w3' ⟨rfl, g3, o3, E3⟩
    rw [wtL_at hkL hpl, hdr2] at E3
    have g13 : GrowP (fun b => b = gb ∨ b = bb ∨ blk sa = some b) w w3' := by
     refine GrowP.fresh ((gW.trans ((xWV.trans xV1).growP _)).trans g2) g3 fun b hb => ?_
     rcases hb with h | h | h
     ·exact .inl (.inl h)
     ·exact .inl (.inr (.inl h))
     ·rcases hfr b h with h | h
      ·exact .inl (.inr (.inr h))
      ·have := gW.size; have := xWV.size; exact .inr om
    have o4 : OwnS w3' 3 1 sa k sc (vi pre) := by
     rcases h2 with ⟨rfl, rfl, -⟩ | ⟨x, hx⟩
     ·obtain ⟨sb, rfl⟩ := o3.some om
      have := o3.fore (m := k) om
      rwa [show (vi (pre ++ [(j : Int)])).take k = vi pre by simp [vi, hpl]] at this
     ·refine growP_own g3 ((oV.ext xV1).ext x) fun b hb => ?_
      rintro (h | h | h)
      ·exact (hsa b hb).2.1 h
      ·exact (hsa b hb).2.2.2.1 h
      ·have := hx b h
       have := (oV.ext xV1).blk_lt hb
       omega
    refine Go.SWP.nxE_of (GrowP.weaken g3 fun b hb => ?_) ?_
    ·rcases hb with h | h | h
     ·exact .inl (.inl h)
     ·exact .inl (.inr (.inl h))
     ·rcases hfr b h with h | h
      ·exact .inl (.inr (.inr (.inl h)))
      ·exact .inl (.inr (.inr (.inr om)))
    simp (disch := omega) only [go_sem, a21]
    refine ⟨hj4, uu, uu, uu, uu, uu, by simp [upd_apply], g13, ?_, o4, ?_⟩
    ·have := (kV.ext xV1)
     refine g3.blk (g2.blk this ?_) ?_
     ·rintro (h | h | h)
      ·omega
      ·omega
      ·have := hsl bx h; omega
     ·rintro (h | h | h)
      ·omega
      ·omega
      ·rcases hfr bx h with h | h
       ·have := hsl bx h; omega
       ·omega
    ·rw [hks]
     rw [if_neg om, hsk] at E3
     rw [if_pos rfl]
     exact E3
  ·obtain rfl : j = 4 := om
   have V := W
   have xWV : Ext W W := Ext.refl _
   have oV := oW
   have EV := EW
   have nodeq := kp_node B (L.getD k lb0) k (L.drop (k + 1)) (wtL (L.take k) pre) pre r
   rw [← hdr] at nodeq
   generalize hRJ : kpTo B (L.getD k lb0) k (L.drop (k + 1)) (wtL (L.take k) pre) pre r 4 = RJ at *
   simp (disch := omega) only [go_sem, a0, a2, a3, a5, a21, hlt]
   refine Go.SWP.QR_sch (fun b => b = gb ∨ b = bb ∨ blk sa = some b ∨ W.heap.size ≤ b) (.st 0 (.st 1 (.st 2 (.st 5 (.ef 3 (.ef 4 (.fin 6 (.done)))))))) ke ke fun w0 x0 => ?_
   have hld : ∀ (kk : Value → World → Prop) (W' : World), Go.SWP.ldS Tryz.prog (fun b => b = gb ∨ b = bb ∨ blk sa = some b ∨ W.heap.size ≤ b) 83 (.pointer (some ⟨bx, 0, none⟩)) kk W' = ldK Tryz.prog 83 (.pointer (some ⟨bx, 0, none⟩)) kk W' := fun kk W' => by
    simp only [Go.SWP.ldS]
    exact propext ⟨fun h => h.2, fun h => ⟨by rintro (e | e | e | e) <;> first | omega | exact absurd e (fun e => by have := hsl bx e; omega), h⟩⟩
   simp (disch := omega) only [go_sem, a0, a2, a3, a5, hld, blk_bd (kW.ext x0)]
   refine bslK_1 elt_i rfl fun w1' ab e1' y1 ka _ => ?_
   refine Go.SWP.nxE_of (y1.growP _) ?_
   have xV1 := x0.trans y1
   simp (disch := omega) only [go_sem]
   refine appK_1c elt_i (oV.ext xV1) ka rfl om om fun w2' a2' c2 o2 h2 => ?_
   have sz1 := xV1.size
   have g2 : GrowP (fun b => b = gb ∨ b = bb ∨ blk sa = some b) w1' w2' := by
    rcases h2 with ⟨-, -, g⟩ | ⟨x, -⟩
    ·exact g.growP fun b hb => .inr (.inr hb)
    ·exact x.growP _
   have hfr : ∀ b, blk a2' = some b → blk sa = some b ∨ w1'.heap.size ≤ b := by
    rcases h2 with ⟨rfl, -, -⟩ | ⟨-, h⟩
    ·exact fun b hb => .inl hb
    ·exact fun b hb => .inr (h b hb)
   refine Go.SWP.nxE_of (GrowP.weaken g2 fun b hb => by rcases hb with h | h | h <;> simp [h]) ?_
   have E2 : Env w2' (some ⟨lb, lo, none⟩) lc L lbx gb bbx bb RJ := by
    rcases h2 with ⟨-, -, g⟩ | ⟨x, -⟩
    ·exact (EV.ext xV1).growP (X := fun b => blk sa = some b) (g.growP fun b hb => hb) (fun e => (hsa _ e).1 rfl) (fun e => (hsa _ e).2.1 rfl) (fun e => (hsa _ e).2.2.1 rfl) (fun e => (hsa _ e).2.2.2.1 rfl) (fun b hb e => (hsa b e).2.2.2.2 hb)
    ·exact (EV.ext xV1).ext x
   rw [vi_snoc] at o2
   simp (disch := omega) only [go_sem]
   have hsa2 : ∀ b, blk a2' = some b → b ≠ lbx ∧ b ≠ gb ∧ b ≠ bbx ∧ b ≠ bb ∧ blk (some (⟨lb, lo, none⟩ : Addr)) ≠ some b := fun b hb => by
    rcases hfr b hb with h | h
    ·exact hsa b h
    ·have z := sz1
     exact ⟨om, om, om, om, fun e => by have := hla b e; omega⟩
   refine callK_of ke (ih (k + 1) (pre ++ [(-1 : Int)]) B a2' c2 RJ w2' om om (by simp [hpl]) o2 hsa2 E2 hB) ?_
   rintro _ w3' ⟨rfl, g3, o3, E3⟩
   rw [wtL_at hkL hpl, hdr2] at E3
   have g13 : GrowP (fun b => b = gb ∨ b = bb ∨ blk sa = some b) w w3' := by
    refine GrowP.fresh ((gW.trans ((xWV.trans xV1).growP _)).trans g2) g3 fun b hb => ?_
    rcases hb with h | h | h
    ·exact .inl (.inl h)
    ·exact .inl (.inr (.inl h))
    ·rcases hfr b h with h | h
     ·exact .inl (.inr (.inr h))
     ·have := gW.size; have := xWV.size; exact .inr om
   have o4 : OwnS w3' 3 1 sa k sc (vi pre) := by
    rcases h2 with ⟨rfl, rfl, -⟩ | ⟨x, hx⟩
    ·obtain ⟨sb, rfl⟩ := o3.some om
     have := o3.fore (m := k) om
     rwa [show (vi (pre ++ [(-1 : Int)])).take k = vi pre by simp [vi, hpl]] at this
    ·refine growP_own g3 ((oV.ext xV1).ext x) fun b hb => ?_
     rintro (h | h | h)
     ·exact (hsa b hb).2.1 h
     ·exact (hsa b hb).2.2.2.1 h
     ·have := hx b h
      have := (oV.ext xV1).blk_lt hb
      omega
   simp (disch := omega) only [go_sem, Tryz.results49]
   rw [if_pos rfl, Int.add_zero] at E3
   rw [nodeq]
   exact ⟨trivial, g13, o4, E3⟩
theorem implSettingBest_c (la : Option Addr) (L : List Lb) (lc : Nat) (w : World) (hL : LabS w la L) (hc : L.length ≤ lc) (hla : ∀ b, blk la = some b → b < w.heap.size) :
  Ret Tryz.prog 21 #[.slice la L.length lc] w fun v w' => Ext w w' ∧ ∃ a c, v = .tuple #[.slice a (if lvalid L then bestOf L else []).length c, .bool (lvalid L)] ∧ IntS w' a (if lvalid L then bestOf L else []) := by
 refine enter1 Tryz.func21 rfl fun f a0 => ?_
 simp only [go_sem, a0]
 refine boxK_of fun w1 lbx e1 x1 kl s1 => ?_
 have kl : Blk w1 lbx #[.slice la L.length lc] 33 := by simpa [Value.cells] using kl
 simp (disch := omega) only [go_sem, kl.cell]
 refine callK_pure ke (implLabelsValid_c la L lc _ (hL.ext x1) hc) fun w2 x2 => ?_
 cases hlv : lvalid L with
 | false =>
  simp (disch := omega) only [go_sem, Tryz.results21]
  exact ⟨x1.trans x2, none, 0, rfl, IntS.nil _ _⟩
 | true =>
 have hv := lvalid_iff.1 hlv
 have hs6 := hv.1
 simp only [if_true]
 have kl2 := kl.ext x2
 simp (disch := omega) only [go_sem, kl2.cell]
 refine mksK_of elt_i L.length L.length _ _ _ _ rfl rfl (Nat.le_refl _) om (by simp [maxLen]; omega) fun w3 bb e3 x3 o3 s3 => ?_
 simp (disch := omega) only [go_sem]
 have zero_i : zeroC Tryz.prog 35 = some #[.slice none 0 0] := ke
 have zero_int : zeroC Tryz.prog 3 = some #[.int .i64 0] := ke
 refine allocK_of zero_i fun w4 bbx e4 x4 kb s4 => ?_
 simp (disch := omega) only [go_sem]
 refine stK_blk siz_i rf rf kb sm fun w5 kb g5 => ?_
 have kb : Blk w5 bbx #[.slice (some ⟨bb, 0, none⟩) L.length L.length] 35 := by simpa using kb
 simp (disch := omega) only [go_sem]
 refine allocK_of zero_int fun w6 gb e6 x6 kg s6 => ?_
 simp (disch := omega) only [go_sem]
 refine stK_blk siz_int rf rf kg sm fun w7 kg g7 => ?_
 have kg : Blk w7 gb #[.int .i64 (-1)] 3 := by simpa using kg
 have z1 := x1.size
 have z2 := x2.size
 have z3 := x3.size
 have z4 := x4.size
 have z5 := g5.size
 have z6 := x6.size
 have llt := kl.lt
 have x25 : Ext w2 w5 := g5.ext (x3.trans x4) om
 have x27 : Ext w2 w7 := g7.ext (x25.trans x6) om
 have x17 := (x1.trans x2).trans x27
 have o3' : OwnS w3 3 1 (some ⟨bb, 0, none⟩) L.length L.length (vi (List.replicate L.length 0)) := by
  have h := o3
  rw [show ((madeCells (Value.int .i64 0).cells (L.length * 1)).toList.take (L.length * 1)) = List.replicate L.length (Value.int .i64 0) from made_int _ _] at h
  rwa [show vi (List.replicate L.length 0) = List.replicate L.length (Value.int .i64 0) by simp [vi]]
 obtain ⟨cs, kv0, hcs, hcl⟩ := o3'.toBlk
 have kv : Blk w3 bb (vi (List.replicate L.length 0)).toArray 3 := by rw [← hcl]; exact kv0
 have kv7 : Blk w7 bb (vi (List.replicate L.length 0)).toArray 3 := g7.blk ((g5.blk (kv.ext x4) om).ext x6) om
 have kb7 := g7.blk (kb.ext x6) om
 have hE : Env w7 la lc L lbx gb bbx bb (-1, List.replicate L.length 0) := ⟨hL.ext x17, (kl2.ext x27), kg, kb7, kv7, by simp, ⟨om, om, om, om, om⟩, fun b hb => ?_⟩
 rotate_left
 ·have := hla b hb
  exact ⟨om, om⟩
 simp (disch := omega) only [go_sem]
 refine Go.SWP.QR_sch (fun b => w7.heap.size ≤ b) (.st 0 (.st 1 (.st 3 (.ef 2 (.fin 4 (.done)))))) ke ke fun w0 x0 => ?_
 have llt7 := hE.kl.lt
 simp (disch := omega) only [go_sem, (hE.kl.ext x0).cell]
 refine callK_of ke (pointed_c la L lc _ (hE.lab.ext x0) hv) ?_
 rintro _ w1' ⟨rfl, y1⟩
 refine Go.SWP.nxE_of (y1.growP _) ?_
 have x01 := x0.trans y1
 have hEr := hE.ext x01
 simp (disch := omega) only [go_sem]
 refine callK_of ke (eachSetting_c la lc L lbx gb bbx bb hv L.length 0 [] (ptsL L) none 0 _ _ om om rfl (OwnS.nil _ _ _) (fun b hb => by simp [blk] at hb) hEr (ptsL_bd L 6)) ?_
 rintro _ w8 ⟨rfl, g8, -, hE8⟩
 simp (disch := omega) only [go_sem, hE8.kb.cell, Tryz.results21]
 have x8 : Ext w w8 := g8.ext (x17.trans x01) (by rintro b (h | h | h) <;> first | omega | (simp [blk] at h; done))
 have hbest : (btr (-1, List.replicate L.length 0) (wtL (L.take 0) [] + val (ptsL L) 0 (L.drop 0), [] ++ pick (ptsL L) 0 (L.drop 0))).2 = bestOf L := by
  rw [List.drop_zero, btr, if_pos (by have := val_zero (ptsL L) 0 L; simp [wtL]; omega)]; rfl
 have hlen := hE8.len
 have hkv := hE8.kv
 rw [hbest] at hlen hkv
 refine ⟨x8, some ⟨bb, 0, none⟩, L.length, by rw [hlen], ?_⟩
 have ow := OwnS.of_blk (s := 1) (n := (bestOf L).length) hkv (by simp [vi_len]) (by simp [maxLen]; omega)
 exact OwnS.ints (by simpa using ow)
theorem FitA_cons {B : Nat → Nat} {k : Nat} {s : Lb} {L : List Lb} {d : Int} {t : List Int} : FitA B k (s :: L) (d :: t) ↔ (d = -1 ∧ FitA B (k + 1) L t) ∨ ∃ e : Nat, e < 4 ∧ d = e ∧ fits B s e = true ∧ FitA (putL B s e k) (k + 1) L t := Iff.rfl
theorem finB_cons {B : Nat → Nat} {k : Nat} {s : Lb} {L : List Lb} {d : Int} {t : List Int} : finB B k (s :: L) (d :: t) = if d = -1 then finB B (k + 1) L t else finB (putL B s d.toNat k) (k + 1) L t := rfl
theorem drop_at0 {t : List Int} {i : Nat} (h : i < t.length) : t.drop i = t.getD i 0 :: t.drop (i + 1) := by
 rw [List.drop_eq_getElem_cons h, getD_at t 0 h]
theorem boardOf_c (la : Option Addr) (L : List Lb) (lc : Nat) (ta : Option Addr) (t : List Int) (tc : Nat) (w : World) (hL : LabS w la L) (hc : L.length ≤ lc) (hv : LVal L) (ht : IntS w ta t) (hf : FitA (ptsL L) 0 L t) :
  Ret Tryz.prog 57 #[.slice la L.length lc, .slice ta t.length tc] w fun v w' => v = .tuple #[.agg (bdA (finB (ptsL L) 0 L t)), .bool true] ∧ Ext w w' := by
 have hs6 := hv.1
 have hlen := hf.len
 have hlv := lvalid_iff.2 hv
 refine enter2 Tryz.func57 rfl fun f a0 a1 => ?_
 simp (disch := omega) only [go_sem]
 refine allocK_of zero_bo fun w1 rb e1 x1 kr _ => ?_
 simp (disch := omega) only [go_sem, a0]
 refine callK_pure ke (implLabelsValid_c la L lc _ (hL.ext x1) hc) fun w2 x2 => ?_
 have hne : ((t.length : Int) != (L.length : Int)) = false := by rw [bne_eq_false_iff_eq, hlen]
 rw [hlv]
 simp (disch := omega) only [go_sem, a0, a1, hne]
 refine callK_of ke (pointed_c la L lc _ ((hL.ext x1).ext x2) hv) ?_
 rintro _ w3 ⟨rfl, x3⟩
 simp (disch := omega) only [go_sem]
 refine allocK_of zero_bo fun w4 pb e4 x4 kp _ => ?_
 simp (disch := omega) only [go_sem]
 refine stK_agg siz_bd (by simp [bdA_size]) (by simpa using bdA_one _) kp sm fun w5 kp g5 => ?_
 have s1 := x1.size
 have s2 := x2.size
 have s3 := x3.size
 have s4 := x4.size
 have lr := kr.lt
 have xw5 : Ext w w5 := g5.ext (((x1.trans x2).trans x3).trans x4) om
 have kr5 : Blk w5 rb (Array.replicate 100 (.int .u8 0)) 83 := g5.blk (((kr.ext x2).ext x3).ext x4) om
 simp (disch := omega) only [go_sem, a1]
 refine loopN L.length (fun k f W => f 0 = .slice la L.length lc ∧ f 4 = .pointer (some ⟨rb, 0, none⟩) ∧ f 6 = .pointer (some ⟨pb, 0, none⟩) ∧ f 24 = .slice ta t.length tc ∧ f 25 = .int .i64 t.length ∧ f 26 = .int .i64 k ∧ Ext w W ∧ Blk W rb (Array.replicate 100 (.int .u8 0)) 83 ∧ ∃ B, Blk W pb (bdA B) 83 ∧ Bd 6 B ∧ FitA B k (L.drop k) (t.drop k) ∧ finB B k (L.drop k) (t.drop k) = finB (ptsL L) 0 L t)
  ⟨uu, uu, uu, uu, uu, uu, xw5, kr5, ptsL L, kp, ptsL_bd L 6, hf, rfl⟩ fun k f W hk ⟨a0, a4, a6, a24, a25, a26, xw, krW, B, kpW, hB, hfk, hfin⟩ => ?_
 have sw := xw.size
 have lp := kp.lt
 by_cases hlt : (k : Int) < (t.length : Int)
 ·have hkL : k < L.length := om
  have hkt : k < t.length := om
  obtain ⟨lb, lo, rfl⟩ := hL.head (by intro e; rw [e] at hkL; simp at hkL)
  obtain ⟨tb, to, rfl⟩ := ht.head (by intro e; rw [e] at hkt; simp at hkt)
  have hct := (ht.ext xw).cell tb to rfl k hkt
  rw [drop_at hkL, drop_at0 hkt, FitA_cons] at hfk
  rw [drop_at hkL, drop_at0 hkt, finB_cons] at hfin
  rcases hfk with ⟨hd, hfk⟩ | ⟨d, hd4, hd, hfit, hfk⟩
  ·have hd' : (t.getD k 0 == -1) = true := by rw [hd]; rfl
   rw [if_pos hd] at hfin
   simp (disch := omega) only [go_sem, a24, a25, a26, hlt, hct, hd']
   exact ⟨hkL, uu, uu, uu, uu, uu, uu, xw, krW, B, kpW, hB, hfk, hfin⟩
  ·have hd' : (t.getD k 0 == -1) = false := by rw [hd, beq_eq_false_iff_ne]; omega
   rw [if_neg om, show (t.getD k 0).toNat = d from om] at hfin
   have hOk := hv.ok hkL
   generalize hsk : L.getD k lb0 = s at *
   simp (disch := omega) only [go_sem, a24, a25, a26, hlt, hct, hd']
   rw [hd]
   have hrd : ∀ {V}, Ext W V → readCells V ⟨lb, lo + k * 4, none⟩ 4 = some [.int .i64 s.x, .int .i64 s.y, .int .i64 s.w, .int .i64 s.v] := fun x => by rw [← hsk]; exact ((hL.ext xw).ext x).read hkL
   have hbd : ∀ {V}, Ext W V → readCells V ⟨pb, 0, none⟩ 100 = some (bdA B).toList := fun x => blk_bd (kpW.ext x)
   have hlW : lb < W.heap.size := World.block_lt_of_cell? W _ ((hL.ext xw).fld hkL).1
   have hpW := kpW.lt
   have ex : Ext W W := Ext.refl _
   refine QR_cut (fun f V => f 0 = .slice (some ⟨lb, lo, none⟩) L.length lc ∧ f 4 = .pointer (some ⟨rb, 0, none⟩) ∧ f 6 = .pointer (some ⟨pb, 0, none⟩) ∧ f 24 = .slice (some ⟨tb, to, none⟩) t.length tc ∧ f 25 = .int .i64 t.length ∧ f 26 = .int .i64 k ∧ Ext W V ∧ ∃ nb B', f 9 = .pointer (some ⟨nb, 0, none⟩) ∧ f 10 = .bool (fits B s d) ∧ Blk V nb (bdA B') 83 ∧ (fits B s d = true → B' = putL B s d k)) (fun f V ⟨a0, a4, a6, a24, a25, a26, xWV, nb, B', a9, a10, kn, hB'⟩ => ?_) ?_
   rotate_left
   ·skip
    refine Go.SWP.QR_sch (fun k => W.heap.size ≤ k) (.st 0 (.st 1 (.st 2 (.st 3 (.st 4 (.st 5 (.st 6 (.alt (.ef 7 (.alt (.ef 8 (.st 9 (.st 10 (.st 11 (.ef 12 (.ef 13 (.st 14 (.done)))))))) (.ef 12 (.ef 8 (.st 9 (.st 10 (.st 11 (.ef 13 (.st 14 (.done)))))))))) (.ef 12 (.ef 7 (.ef 8 (.st 9 (.st 10 (.st 11 (.ef 13 (.st 14 (.done))))))))))))))))) ke ke fun w0 x0 => ?_
    have sz := x0.size
    have X := ex.trans x0
    simp (disch := omega) only [go_sem, a0, a4, a6, a26, hrd x0, hbd x0]
    refine Go.SWP.RLT_alt ?_ ?_
    ·simp (disch := omega) only [go_sem, a0, a4, a6, a26, hrd x0, hbd x0]
     refine callK_of ke (signOf_c k om _) ?_
     rintro _ w1 ⟨rfl, y1⟩
     have x0 := x0.trans y1
     refine Go.SWP.nxE_of (y1.growP _) ?_
     have sz := y1.size
     have X := X.trans y1
     simp (disch := omega) only [go_sem, a0, a4, a6, a26, hrd x0, hbd x0]
     refine Go.SWP.RLT_alt ?_ ?_
     ·simp (disch := omega) only [go_sem, a0, a4, a6, a26, hrd x0, hbd x0]
      refine callK_of ke (with_c B s d k _ hB hOk hd4 om) ?_
      rintro _ w1 ⟨y1, B1, -, rfl, hB1⟩
      have x0 := x0.trans y1
      refine Go.SWP.nxE_of (y1.growP _) ?_
      have sz := y1.size
      have X := X.trans y1
      simp (disch := omega) only [go_sem, a0, a4, a6, a26, hrd x0, hbd x0]
      refine allocK_of zero_bo fun w1 nb en y1 kn _ => ?_
      have x0 := x0.trans y1
      refine Go.SWP.nxE_of (y1.growP _) ?_
      have sz := y1.size
      have X := X.trans y1
      simp (disch := omega) only [go_sem, a0, a4, a6, a26, hrd x0, hbd x0]
      refine stK_agg siz_bd (by simp [bdA_size]) (by simpa using bdA_one _) kn sm fun w1 kn g1 => ?_
      refine Go.SWP.nxE_of (g1.grow.growP fun x e => by cases e; omega) ?_
      have X := g1.ext X om
      simp (disch := omega) only [go_sem]
      exact ⟨uu, uu, uu, uu, uu, uu, X, nb, B1, by simp [upd_apply, updO_some, updO_none], by simp [upd_apply, updO_some, updO_none], kn, hB1⟩
     ·simp (disch := omega) only [go_sem, a0, a4, a6, a26, hrd x0, hbd x0]
      refine allocK_of zero_bo fun w1 nb en y1 kn _ => ?_
      have x0 := x0.trans y1
      refine Go.SWP.nxE_of (y1.growP _) ?_
      have sz := y1.size
      have X := X.trans y1
      simp (disch := omega) only [go_sem, a0, a4, a6, a26, hrd x0, hbd x0]
      refine callK_of ke (with_c B s d k _ hB hOk hd4 om) ?_
      rintro _ w1 ⟨y1, B1, -, rfl, hB1⟩
      have x0 := x0.trans y1
      refine Go.SWP.nxE_of (y1.growP _) ?_
      have sz := y1.size
      have X := X.trans y1
      have kn := kn.ext y1
      simp (disch := omega) only [go_sem, a0, a4, a6, a26, hrd x0, hbd x0]
      refine stK_agg siz_bd (by simp [bdA_size]) (by simpa using bdA_one _) kn sm fun w1 kn g1 => ?_
      refine Go.SWP.nxE_of (g1.grow.growP fun x e => by cases e; omega) ?_
      have X := g1.ext X om
      simp (disch := omega) only [go_sem]
      exact ⟨uu, uu, uu, uu, uu, uu, X, nb, B1, by simp [upd_apply, updO_some, updO_none], by simp [upd_apply, updO_some, updO_none], kn, hB1⟩
    ·simp (disch := omega) only [go_sem, a0, a4, a6, a26, hrd x0, hbd x0]
     refine allocK_of zero_bo fun w1 nb en y1 kn _ => ?_
     have x0 := x0.trans y1
     refine Go.SWP.nxE_of (y1.growP _) ?_
     have sz := y1.size
     have X := X.trans y1
     simp (disch := omega) only [go_sem, a0, a4, a6, a26, hrd x0, hbd x0]
     refine callK_of ke (signOf_c k om _) ?_
     rintro _ w1 ⟨rfl, y1⟩
     have x0 := x0.trans y1
     refine Go.SWP.nxE_of (y1.growP _) ?_
     have sz := y1.size
     have X := X.trans y1
     have kn := kn.ext y1
     simp (disch := omega) only [go_sem, a0, a4, a6, a26, hrd x0, hbd x0]
     refine callK_of ke (with_c B s d k _ hB hOk hd4 om) ?_
     rintro _ w1 ⟨y1, B1, -, rfl, hB1⟩
     have x0 := x0.trans y1
     refine Go.SWP.nxE_of (y1.growP _) ?_
     have sz := y1.size
     have X := X.trans y1
     have kn := kn.ext y1
     simp (disch := omega) only [go_sem, a0, a4, a6, a26, hrd x0, hbd x0]
     refine stK_agg siz_bd (by simp [bdA_size]) (by simpa using bdA_one _) kn sm fun w1 kn g1 => ?_
     refine Go.SWP.nxE_of (g1.grow.growP fun x e => by cases e; omega) ?_
     have X := g1.ext X om
     simp (disch := omega) only [go_sem]
     exact ⟨uu, uu, uu, uu, uu, uu, X, nb, B1, by simp [upd_apply, updO_some, updO_none], by simp [upd_apply, updO_some, updO_none], kn, hB1⟩
   have eB := hB' hfit
   subst eB
   rw [hfit] at a10
   simp (disch := omega) only [go_sem, a9, a10, blk_bd kn, a6]
   refine stK_agg siz_bd (by simp [bdA_size]) (by simpa using bdA_one _) (kpW.ext xWV) (by simp [bdA_size]) fun w7 k7 g7 => ?_
   simp (disch := omega) only [go_sem, a26]
   exact ⟨hkL, uu, uu, uu, uu, uu, uu, g7.ext (xw.trans xWV) om, g7.blk (krW.ext xWV) om, putL B s d k, k7, hB.put om, hfk, hfin⟩
 ·obtain rfl : k = L.length := om
  have hfe : finB B L.length (L.drop L.length) (t.drop L.length) = B := by rw [List.drop_length]; simp [finB]
  rw [hfe] at hfin
  simp (disch := omega) only [go_sem, a4, a6, a25, a26, hlt, blk_bd kpW]
  refine stK_agg siz_bd (by simp [bdA_size]) (by simpa using bdA_one _) krW sm fun w6 k6 g6 => ?_
  simp (disch := omega) only [go_sem, a4, readCells_blk k6 (n := 100) (by simp [bdA_size]), Tryz.results57]
  exact ⟨by rw [← hfin], g6.ext xw om⟩
end Go.Proofs.YtcbmhjndbpafbaaGreatDoor
namespace Go.SW
open Go Go.RowKit
def mrow (B : Nat → Nat) (y : Nat) : List UInt8 := (List.range 10).map fun x => sgn (B (10 * y + x))
def mpre (B : Nat → Nat) (n : Nat) : List UInt8 := (List.range n).flatMap fun y => mrow B y ++ [10]
theorem mpre_succ (B : Nat → Nat) (n : Nat) : mpre B (n + 1) = mpre B n ++ mrow B n ++ [10] := by
 simp [mpre, List.range_succ]
theorem mrow_len (B : Nat → Nat) (y : Nat) : (mrow B y).length = 10 := by simp [mrow]
theorem mpre_len (B : Nat → Nat) (n : Nat) : (mpre B n).length = 11 * n := by
 induction n with
 | zero => rfl
 | succ n ih => rw [mpre_succ, List.length_append, List.length_append, ih, mrow_len]; simp; omega
theorem mtext_eq (L : List Lb) (t : List Int) : mtext L t = mpre (finB (ptsL L) 0 L t) 10 := rfl
theorem mrow_get {B : Nat → Nat} {y j : Nat} (h : j < 10) : (mrow B y)[j]? = some (sgn (B (10 * y + j))) := by
 simp [mrow, h]
end Go.SW
namespace Go.Proofs.YtcbmhjndbpafbaaGreatDoor
open Go.RowKit Go.SW
theorem builderWrite_c (b : Nat) (l m : List UInt8) (bf : Option Nat) (ab ao c2 : Nat) (w : World) (h : Bld w 56 5 b l bf) (hm : ∀ j u, (vby m)[j]? = some u → w.cell? ⟨ab, ao + j, none⟩ = some u) (hb : ab ≠ b) (hlen : l.length + m.length ≤ 1000000) :
  Ret Tryz.prog 58 #[.pointer (some ⟨b, 0, none⟩), .slice (some ⟨ab, ao, none⟩) m.length c2] w fun v w' => v = .tuple #[.int .i64 m.length, .nilIface] ∧ ∃ bf', Bld w' 56 5 b (l ++ m) bf' ∧ GrowP (fun k => k = b ∨ bf = some k) w w' ∧ ∀ x, bf' = some x → bf = some x ∨ w.heap.size ≤ x := by
 obtain ⟨p, a, c, k, hp, o, hbf, hn⟩ := h
 refine enter2 Tryz.func58 rfl fun f a0 a1 => ?_
 simp (disch := omega) only [go_sem, a0]
 refine callK_of ke (copyCheck_c b p _ _ k hp) ?_
 rintro _ w1 ⟨rfl, g1, s1, k1⟩
 have o1 := o.grow g1 (fun x hx e => by cases e; exact hn (hbf ▸ hx))
 simp (disch := omega) only [go_sem, a0, a1, k1.cell, List.getElem?_toArray, List.getElem?_cons_zero, List.getElem?_cons_succ]
 refine appK_of elt_b dc o1 (vby m) (by simp [vb_len]) (fun j u hj => by rw [add_mk]; exact g1.cell (hm j u hj) (fun e => hb (Option.some.inj e).symm)) (fun u hu => ?_) (by simp [maxLen]; omega) om fun w2 a2 c2 o2 g2 h2 => ?_
 ·simp only [vby, List.mem_map] at hu
  obtain ⟨x, -, rfl⟩ := hu
  rfl
 have k2 := g2.blk k1 (fun e => hn (hbf ▸ e))
 have hb1 : b < w1.heap.size := k1.lt
 have ha2 : blk a2 ≠ some b := fun e => (h2 b e).elim (fun e => hn (hbf ▸ e)) om
 simp (disch := omega) only [go_sem, a0]
 refine stK_blk siz_b rf rf k2 sm fun w3 k3 g3 => ?_
 simp (disch := omega) only [go_sem, a1, Tryz.results58]
 refine ⟨trivial, blk a2, ⟨_, a2, c2, ?_, .inr rfl, ?_, rfl, ha2⟩, ?_, fun x hx => ?_⟩
 ·simpa using k3
 ·have := o2.grow g3.grow (fun x hx e => ha2 (by cases e; exact hx))
  rw [vb_app] at this
  simpa using this
 ·exact ((g1.growP fun x e => .inl (by cases e; rfl)).trans (g2.growP fun x e => .inr (hbf ▸ e))).trans (g3.grow.growP fun x e => .inl (by cases e; rfl))
 ·exact (h2 x hx).elim (fun e => .inl (hbf ▸ e)) (fun e => .inr om)
theorem implSettingText_c (la : Option Addr) (L : List Lb) (lc : Nat) (ta : Option Addr) (t : List Int) (tc : Nat) (w : World) (hL : LabS w la L) (hc : L.length ≤ lc) (hv : LVal L) (ht : IntS w ta t) (hf : FitA (ptsL L) 0 L t) :
  Ret Tryz.prog 25 #[.slice la L.length lc, .slice ta t.length tc] w fun v w' => v = .string (bs (mtext L t)) ∧ Ext w w' := by
 refine enter2 Tryz.func25 rfl fun f a0 a1 => ?_
 simp (disch := omega) only [go_sem, a0, a1]
 refine callK_pure ke (boardOf_c la L lc ta t tc _ hL hc hv ht hf) fun w1 x1 => ?_
 rw [mtext_eq]
 generalize finB (ptsL L) 0 L t = B at *
 simp (disch := omega) only [go_sem]
 refine allocK_of zero_bo fun w2 pb e2 x2 kp s2 => ?_
 simp (disch := omega) only [go_sem]
 refine stK_agg siz_bd (by simp [bdA_size]) (by simpa using bdA_one _) kp sm fun w3 kp g3 => ?_
 simp (disch := omega) only [go_sem]
 refine allocK_of zero_bd fun w4 bb e4 x4 kb s4 => ?_
 have z1 := x1.size
 have z3 := g3.size
 have xw4 : Ext w w4 := (g3.ext (x1.trans x2) om).trans x4
 simp (disch := omega) only [go_sem]
 refine loopN 10 (fun k f W => f 5 = .pointer (some ⟨pb, 0, none⟩) ∧ f 7 = .pointer (some ⟨bb, 0, none⟩) ∧ f 17 = .int .i64 k ∧ Ext w W ∧ Blk W pb (bdA B) 83 ∧ ∃ bf, Bld W 56 5 bb (mpre B k) bf ∧ ∀ x, bf = some x → w.heap.size ≤ x ∧ x ≠ pb)
  ⟨uu, uu, uu, xw4, kp.ext x4, none, ⟨_, none, 0, kb, .inl rfl, OwnS.nil _ _ _, rfl, by simp⟩, fun x hx => by cases hx⟩ fun k f W hk ⟨a5, a7, a17, xw, kpW, bf, hb, hbf⟩ => ?_
 have sw := xw.size
 have lpb := kp.lt
 by_cases hlt : (k : Int) < 10
 ·have hk10 : k < 10 := om
  have e1 : (k : Int) * 10 = ((10 * k : Nat) : Int) := om
  have e2 : ((k : Int) + 1) * 10 = ((10 * k + 10 : Nat) : Int) := om
  have e3 : 10 * k + 10 - 10 * k = (mrow B k).length := by rw [mrow_len]; omega
  have hml := mpre_len B k
  have hrl := mrow_len B k
  have lpW := kpW.lt
  have hcs : ∀ j u, (vby (mrow B k))[j]? = some u → W.cell? ⟨pb, 10 * k + j, none⟩ = some u := fun j u hj => by
   have hj10 : j < 10 := by
    have := (List.getElem?_eq_some_iff.1 hj).1
    rwa [vb_len, hrl] at this
   rw [vby, List.getElem?_map, mrow_get hj10, Option.map_some] at hj
   rw [kpW.cell, bdA_get om]
   exact hj
  simp (disch := omega) only [go_sem, a5, a7, a17, hlt, e1, e2, Int.toNat_natCast, e3, Nat.zero_add]
  refine callK_of ke (builderWrite_c bb (mpre B k) (mrow B k) bf pb (10 * k) _ _ hb hcs om om) ?_
  rintro _ w6 ⟨rfl, bf6, hb6, g6, hn6⟩
  simp (disch := omega) only [go_sem, a7]
  refine callK_of ke (writeByte_c bb (mpre B k ++ mrow B k) 10 bf6 _ hb6 sq) ?_
  rintro _ w7 ⟨rfl, bf7, hb7, g7, hn7⟩
  rw [← mpre_succ] at hb7
  have s6 := g6.size
  simp (disch := omega) only [go_sem, a17]
  have hbf6 : ∀ x, bf6 = some x → w.heap.size ≤ x ∧ x ≠ pb := fun x hx => (hn6 x hx).elim (hbf x) fun h => ⟨om, om⟩
  refine ⟨hk10, uu, uu, uu, g7.ext (g6.ext xw ?_) ?_, g7.blk (g6.blk kpW ?_) ?_, bf7, hb7, fun x hx => (hn7 x hx).elim (hbf6 x) fun h => ⟨om, om⟩⟩
  ·rintro b (h | h)
   ·omega
   ·exact (hbf b h).1
  ·rintro b (h | h)
   ·omega
   ·exact (hbf6 b h).1
  ·rintro (h | h)
   ·omega
   ·exact (hbf pb h).2 rfl
  ·rintro (h | h)
   ·omega
   ·exact (hbf6 pb h).2 rfl
 ·obtain rfl : k = 10 := om
  simp (disch := omega) only [go_sem, a7, a17, hlt]
  refine callK_of ke (builderString_c w.heap.size bb _ bf _ hb om (fun x hx => (hbf x hx).1) sw) ?_
  rintro _ w6 ⟨rfl, x6⟩
  simp (disch := omega) only [go_sem, Tryz.results25]
  exact ⟨trivial, Below.trans xw x6⟩
end Go.Proofs.YtcbmhjndbpafbaaGreatDoor
namespace Go.SW
open Go Go.RowKit
def tpre (B : Nat → Nat) : Nat → List UInt8
 | 0 => []
 | n + 1 => tpre B n ++ [sgn (B n)] ++ (if n % 10 = 9 then [10] else [])
theorem tpre_row (B : Nat → Nat) (y : Nat) : ∀ x, x ≤ 9 → tpre B (10 * y + x) = tpre B (10 * y) ++ (List.range x).map fun x => sgn (B (10 * y + x))
 | 0, _ => by simp
 | x + 1, h => by
  rw [← Nat.add_assoc, tpre, if_neg om, tpre_row B y x om, List.range_succ]
  simp
theorem tpre_mpre (B : Nat → Nat) : ∀ y, tpre B (10 * y) = mpre B y
 | 0 => rfl
 | y + 1 => by
  rw [show 10 * (y + 1) = (10 * y + 9) + 1 from om, tpre, if_pos om, tpre_row B y 9 om, tpre_mpre B y, mpre_succ, mrow, show List.range 10 = List.range 9 ++ [9] from rfl]
  simp
theorem tpre_len (B : Nat → Nat) (n : Nat) : (tpre B n).length ≤ 2 * n := by
 induction n with
 | zero => simp [tpre]
 | succ n ih =>
  simp only [tpre, List.length_append, List.length_singleton]
  split <;> simp <;> omega
end Go.SW
namespace Go.Proofs.YtcbmhjndbpafbaaGreatDoor
open Go.RowKit Go.SW
theorem fitA_fin {L : List Lb} {t : List Int} {B : Nat → Nat} {k n : Nat} (h : FitA B k L t) (hB : Bd n B) (hk : k + L.length ≤ n) : Bd n (finB B k L t) := by
 induction L generalizing t B k with
 | nil => exact hB
 | cons s L ih =>
  cases t with
  | nil => exact h.elim
  | cons d t =>
   rw [finB_cons]
   simp only [List.length_cons] at hk
   rcases FitA_cons.1 h with ⟨hd, h⟩ | ⟨e, he, hd, hf, h⟩
   ·rw [if_pos hd]
    exact ih h hB om
   ·rw [if_neg om, show d.toNat = e from om]
    exact ih h (hB.put om) om
theorem l8All_c (la : Option Addr) (L : List Lb) (lc : Nat) (ta : Option Addr) (t : List Int) (tc : Nat) (w : World) (hL : LabS w la L) (hv : LVal L) (ht : IntS w ta t) (hf : FitA (ptsL L) 0 L t) :
  Ret Tryz.prog 176 #[.slice la L.length lc, .slice ta t.length tc] w fun v w' => Ext w w' ∧ ∃ a c, v = .tuple #[.slice a 100 c, .bool true] ∧ IntS w' a (mkL (finB (ptsL L) 0 L t)) := by
 have hs6 := hv.1
 have hlen := hf.len
 refine enter2 Tryz.func176 rfl fun f a0 a1 => ?_
 simp (disch := omega) only [go_sem, a0]
 refine callK_of ke (l8Map_c la L lc _ hL hv) ?_
 rintro _ w1 ⟨x1, mb, rfl, hm, hmb⟩
 simp (disch := omega) only [go_sem]
 refine loopN L.length (fun k f W => f 0 = .slice la L.length lc ∧ f 1 = .slice ta t.length tc ∧ f 7 = .int .i64 k ∧ Ext w W ∧ ∃ pa pc B, f 6 = .slice pa 100 pc ∧ IntS W pa (mkL B) ∧ Bd 6 B ∧ FitA B k (L.drop k) (t.drop k) ∧ finB B k (L.drop k) (t.drop k) = finB (ptsL L) 0 L t)
  ⟨uu, uu, uu, x1, _, _, ptsL L, uu, hm, ptsL_bd L 6, hf, rfl⟩ fun k f W hk ⟨a0, a1, a7, xw, pa, pc, B, a6, hp, hB, hfk, hfin⟩ => ?_
 by_cases hlt : (k : Int) < (t.length : Int)
 ·have hkL : k < L.length := om
  have hkt : k < t.length := om
  obtain ⟨lb, lo, rfl⟩ := hL.head (by intro e; rw [e] at hkL; simp at hkL)
  obtain ⟨tb, to, rfl⟩ := ht.head (by intro e; rw [e] at hkt; simp at hkt)
  have hct := (ht.ext xw).cell tb to rfl k hkt
  rw [drop_at hkL, drop_at0 hkt, FitA_cons] at hfk
  rw [drop_at hkL, drop_at0 hkt, finB_cons] at hfin
  rcases hfk with ⟨hd, hfk⟩ | ⟨d, hd4, hd, hfit, hfk⟩
  ·have hd' : (t.getD k 0 == -1) = true := by rw [hd]; rfl
   rw [if_pos hd] at hfin
   simp (disch := omega) only [go_sem, a1, a7, hlt, hct, hd']
   exact ⟨hkL, uu, uu, uu, xw, pa, pc, B, uu, hp, hB, hfk, hfin⟩
  ·have hd' : (t.getD k 0 == -1) = false := by rw [hd, beq_eq_false_iff_ne]; omega
   rw [if_neg om, show (t.getD k 0).toNat = d from om] at hfin
   have hOk := hv.ok hkL
   generalize hsk : L.getD k lb0 = s at *
   simp (disch := omega) only [go_sem, a1, a7, hlt, hct, hd']
   have hrd : ∀ {V}, Ext W V → readCells V ⟨lb, lo + k * 4, none⟩ 4 = some [.int .i64 s.x, .int .i64 s.y, .int .i64 s.w, .int .i64 s.v] := fun x => by rw [← hsk]; exact ((hL.ext xw).ext x).read hkL
   have hct2 : ∀ {V}, Ext W V → V.cell? ⟨tb, to + k, none⟩ = some (.int .i64 (d : Int)) := fun x => by rw [← hd]; exact ((ht.ext xw).ext x).cell tb to rfl k hkt
   have ex : Ext W W := Ext.refl _
   refine QR_sch none (.st 0 (.st 1 (.st 2 (.st 3 (.st 4 (.st 5 (.st 6 (.st 7 (.st 8 (.st 9 (.st 10 (.ef 11 (.st 12 (.st 13 (.st 14 (.st 15 (.st 16 (.done)))))))))))))))))) ke ke fun w0 x0 => ?_
   have X := ex.trans x0
   simp (disch := omega) only [go_sem, a0, a1, a6, a7, hrd x0, hct2 x0, ldS_none]
   refine callK_of ke (l8Set_c pa pc B s d k _ (hp.ext X) hB hOk hd4 om) ?_
   rintro _ w1 ⟨y1, na, nn, nc, rfl, hN⟩
   refine nxE_of (y1.grow _) ?_
   have X := X.trans y1
   skip
   obtain ⟨rfl, hN2, -⟩ := hN hfit
   rw [hfit]
   simp (disch := omega) only [go_sem, a7]
   exact ⟨hkL, uu, uu, uu, xw.trans X, na, nc, putL B s d k, uu, hN2, hB.put om, hfk, hfin⟩
 ·obtain rfl : k = L.length := om
  have hfe : finB B L.length (L.drop L.length) (t.drop L.length) = B := by rw [List.drop_length]; simp [finB]
  rw [hfe] at hfin
  simp (disch := omega) only [go_sem, a1, a6, a7, hlt, Tryz.results176]
  exact ⟨xw, pa, pc, rfl, by rw [← hfin]; exact hp⟩
theorem specSettingValid_c (la : Option Addr) (L : List Lb) (lc : Nat) (ta : Option Addr) (t : List Int) (tc : Nat) (w : World) (hL : LabS w la L) (hc : L.length ≤ lc) (hv : LVal L) (ht : IntS w ta t) (hf : FitA (ptsL L) 0 L t) :
  Ret Tryz.prog 175 #[.slice la L.length lc, .slice ta t.length tc] w fun v w' => v = .bool true ∧ Ext w w' := by
 have hlen := hf.len
 have hlv := lvalid_iff.2 hv
 have hs6 := hv.1
 have hne : ((t.length : Int) != (L.length : Int)) = false := by rw [bne_eq_false_iff_eq, hlen]
 refine enter2 Tryz.func175 rfl fun f a0 a1 => ?_
 simp (disch := omega) only [go_sem, a0]
 refine callK_pure ke (specLabelsValid_c la L lc _ hL hc) fun w1 x1 => ?_
 rw [hlv]
 simp (disch := omega) only [go_sem, a0, a1, hne]
 refine loopN t.length (fun k f W => f 0 = .slice la L.length lc ∧ f 1 = .slice ta t.length tc ∧ f 5 = .int .i64 k ∧ Ext w W) ⟨uu, uu, uu, x1⟩ fun k f W hk ⟨a0, a1, a5, xw⟩ => ?_
 by_cases hlt : (k : Int) < (t.length : Int)
 ·have hkt : k < t.length := om
  obtain ⟨tb, to, rfl⟩ := ht.head (by intro e; rw [e] at hkt; simp at hkt)
  have hct := (ht.ext xw).cell tb to rfl k hkt
  have hr := hf.rng _ (getD_mem (d := 0) hkt)
  simp (disch := omega) only [go_sem, a1, a5, hlt, hct]
  refine callK_pure ke (l6In_c _ _ _ _) fun w2 x2 => ?_
  have hd : decide (-1 ≤ t.getD k 0 ∧ t.getD k 0 ≤ 3) = true := decide_eq_true om
  simp (disch := omega) only [go_sem, hd, a5]
  exact ⟨hkt, uu, uu, uu, xw.trans x2⟩
 ·obtain rfl : k = t.length := om
  simp (disch := omega) only [go_sem, a0, a1, a5, hlt]
  refine callK_of ke (l8All_c la L lc ta t tc _ (hL.ext xw) hv (ht.ext xw) hf) ?_
  rintro _ w2 ⟨x2, a, c, rfl, -⟩
  simp (disch := omega) only [go_sem, Tryz.results175]
  exact ⟨trivial, xw.trans x2⟩
theorem specSettingText_c (la : Option Addr) (L : List Lb) (lc : Nat) (ta : Option Addr) (t : List Int) (tc : Nat) (w : World) (hL : LabS w la L) (hc : L.length ≤ lc) (hv : LVal L) (ht : IntS w ta t) (hf : FitA (ptsL L) 0 L t) :
  Ret Tryz.prog 138 #[.slice la L.length lc, .slice ta t.length tc] w fun v w' => v = .string (bs (mtext L t)) ∧ Ext w w' := by
 have hB := fitA_fin hf (ptsL_bd L 6) (by have := hv.1; omega)
 refine enter2 Tryz.func138 rfl fun f a0 a1 => ?_
 simp (disch := omega) only [go_sem, a0, a1]
 refine callK_pure ke (specSettingValid_c la L lc ta t tc _ hL hc hv ht hf) fun w1 x1 => ?_
 simp (disch := omega) only [go_sem, a0, a1]
 refine callK_of ke (l8All_c la L lc ta t tc _ (hL.ext x1) hv (ht.ext x1) hf) ?_
 rintro _ w2 ⟨x2, pa, pc, rfl, hp⟩
 rw [mtext_eq, ← tpre_mpre]
 generalize finB (ptsL L) 0 L t = B at *
 obtain ⟨pb, po, rfl⟩ := hp.head (by intro e; have := mkL_len B; rw [e] at this; simp at this)
 simp (disch := omega) only [go_sem]
 refine loopN 100 (fun k f W => f 5 = .slice (some ⟨pb, po, none⟩) 100 pc ∧ f 7 = .string (bs (tpre B k)) ∧ f 8 = .int .i64 k ∧ Ext w2 W) ⟨uu, uu, uu, Ext.refl _⟩ fun k f W hk ⟨a5, a7, a8, xw⟩ => ?_
 have hl := tpre_len B k
 by_cases hlt : (k : Int) < ((100 : Nat) : Int)
 ·have hk1 : k < 100 := om
  have hct := (hp.ext xw).cell pb po rfl k (by rw [mkL_len]; exact hk1)
  rw [show (mkL B).getD k 0 = mkC (B k) by simp [mkL, hk1]] at hct
  have hbk := hB k
  have hmod : (k : Int) % 10 = ((k % 10 : Nat) : Int) := om
  have i1 : ((k : Nat) : Int) < ((100 : Nat) : Int) := hlt
  have fin : ∀ W2, Ext W W2 → (k % 10 = 9 → tpre B (k + 1) = tpre B k ++ [sgn (B k)] ++ [10]) ∧ (¬ k % 10 = 9 → tpre B (k + 1) = tpre B k ++ [sgn (B k)]) := fun _ _ => ⟨fun h => by rw [tpre, if_pos h], fun h => by rw [tpre, if_neg h, List.append_nil]⟩
  have fin := fin W (Ext.refl _)
  have key : ∀ (f : F) (W2 : World), f 5 = .slice (some ⟨pb, po, none⟩) 100 pc → f 8 = .int .i64 k → f 7 = .string (bs (tpre B k ++ [sgn (B k)])) → Ext W W2 → True := fun _ _ _ _ _ _ => trivial
  have es : binV Tryz.prog .add 9 (.string (bs (tpre B k))) (.string (bs [sgn (B k)])) = some (.string (bs (tpre B k ++ [sgn (B k)]))) := bin_adds _ _ sq
  have en : binV Tryz.prog .add 9 (.string (bs (tpre B k ++ [sgn (B k)]))) (.string (bs [10])) = some (.string (bs (tpre B k ++ [sgn (B k)] ++ [10]))) := bin_adds _ _ sq
  by_cases c1 : B k = 1
  ·have m1 : mkC (B k) < 0 := by rw [c1]; decide
   have q1 : sgn (B k) = 42 := by rw [c1]; rfl
   rw [q1] at es en fin
   by_cases h9 : k % 10 = 9
   ·have t9 : (((k % 10 : Nat) : Int) == 9) = true := by rw [beq_iff_eq]; omega
    rw [← fin.1 h9] at en
    simp (disch := omega) only [go_sem, a5, a7, a8, i1, hct, m1, es, en, hmod, t9]
    exact ⟨by first | exact hk1 | trivial, uu, uu, uu, xw⟩
   ·have t9 : (((k % 10 : Nat) : Int) == 9) = false := by rw [beq_eq_false_iff_ne]; omega
    rw [← fin.2 h9] at es
    simp (disch := omega) only [go_sem, a5, a7, a8, i1, hct, m1, es, hmod, t9]
    exact ⟨by first | exact hk1 | trivial, uu, uu, uu, xw⟩
  by_cases c0 : B k = 0
  ·have m1 : ¬ mkC (B k) < 0 := by rw [c0]; decide
   have m0 : (mkC (B k) == 0) = true := by rw [c0]; decide
   have q1 : sgn (B k) = 46 := by rw [c0]; rfl
   rw [q1] at es en fin
   by_cases h9 : k % 10 = 9
   ·have t9 : (((k % 10 : Nat) : Int) == 9) = true := by rw [beq_iff_eq]; omega
    rw [← fin.1 h9] at en
    simp (disch := omega) only [go_sem, a5, a7, a8, i1, hct, m1, m0, es, en, hmod, t9]
    exact ⟨by first | exact hk1 | trivial, uu, uu, uu, xw⟩
   ·have t9 : (((k % 10 : Nat) : Int) == 9) = false := by rw [beq_eq_false_iff_ne]; omega
    rw [← fin.2 h9] at es
    simp (disch := omega) only [go_sem, a5, a7, a8, i1, hct, m1, m0, es, hmod, t9]
    exact ⟨by first | exact hk1 | trivial, uu, uu, uu, xw⟩
  have hm : mkC (B k) - 1 = ((B k - 2 : Nat) : Int) := by simp only [mkC]; split <;> omega
  have m1 : ¬ mkC (B k) < 0 := om
  have m0 : (mkC (B k) == 0) = false := by rw [beq_eq_false_iff_ne]; exact fun e => c0 ((mkC_free _).1 e)
  have q1 : dec (B k - 2) = [sgn (B k)] := by
   rw [dec_lt om, sgn, if_neg c0, if_neg c1, show 48 + (B k - 2) = 46 + B k from om]
  have hmr := mkC_rng (c := B k) om
  simp (disch := omega) only [go_sem, a5, a7, a8, i1, hct, m1, m0, hm]
  refine callK_pure ke (l6Dec_c (B k - 2) om _) fun w4 x4 => ?_
  rw [q1]
  by_cases h9 : k % 10 = 9
  ·have t9 : (((k % 10 : Nat) : Int) == 9) = true := by rw [beq_iff_eq]; omega
   rw [← fin.1 h9] at en
   simp (disch := omega) only [go_sem, a8, es, en, hmod, t9]
   exact ⟨by first | exact hk1 | trivial, uu, uu, uu, xw.trans x4⟩
  ·have t9 : (((k % 10 : Nat) : Int) == 9) = false := by rw [beq_eq_false_iff_ne]; omega
   rw [← fin.2 h9] at es
   simp (disch := omega) only [go_sem, a8, es, hmod, t9]
   exact ⟨by first | exact hk1 | trivial, uu, uu, uu, xw.trans x4⟩
 ·obtain rfl : k = 100 := om
  simp (disch := omega) only [go_sem, a5, a7, a8, hlt, Tryz.results138]
  exact ⟨by first | rfl | trivial, (x1.trans x2).trans xw⟩
end Go.Proofs.YtcbmhjndbpafbaaGreatDoor
