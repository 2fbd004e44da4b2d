import Derived.Test.YtcbmhjndbpafbaaGreatDoorK6
import Derived.Test.YtcbmhjndbpafbaaGreatDoorSh
import Derived.Test.YtcbmhjndbpafbaaGreatDoorK7
set_option linter.all false
set_option maxRecDepth 20000
namespace Go.SW
open Go Go.RowKit
def vst (L : List (List UInt8)) : List Value := L.map fun l => Value.string (bs l)
theorem vst_len (L : List (List UInt8)) : (vst L).length = L.length := by simp [vst]
theorem vst_snoc (L : List (List UInt8)) (l : List UInt8) : vst L ++ [.string (bs l)] = vst (L ++ [l]) := by simp [vst]
theorem vst_get (L : List (List UInt8)) (i : Nat) (h : i < L.length) : (vst L)[i]? = some (.string (bs (L.getD i []))) := by simp [vst, h]
theorem splitB_spl (c : UInt8) (l : List UInt8) : Lib.countB (bs l) ⟨#[c]⟩ + 1 = (spl c l).length ∧ ((Lib.splitB ⟨#[c]⟩ 0 (Lib.countB (bs l) ⟨#[c]⟩) (bs l)).map Value.string) = vst (spl c l) := by
 have e1 : Lib.countB (bs l) ⟨#[c]⟩ = Lib.count l [c] := by simp [Lib.countB, bs]
 have e2 := Lib.splitB_data ⟨#[c]⟩ 0 (Lib.count l [c]) (bs l)
 have e3 : (bs l).data.toList = l := by simp [bs]
 have e4 : (⟨#[c]⟩ : ByteArray).data.toList = [c] := rfl
 rw [e3, e4, splitK_spl] at e2
 refine ⟨by rw [e1, Lib.count_one, spl_len], ?_⟩
 rw [e1, vst, ← e2, List.map_map]
 refine List.map_congr_left fun x _ => ?_
 simp [bs]
end Go.SW
namespace Go.Proofs.YtcbmhjndbpafbaaGreatDoor
open Go.RowKit Go.SW
theorem foff_bd0 : foff Tryz.prog 56 0 = some 0 := ke
theorem foff_bd1 : foff Tryz.prog 56 1 = some 1 := ke
theorem zero_bd : zeroC Tryz.prog 56 = some #[.pointer none, .slice none 0 0] := ke
theorem foff_dk0 : foff Tryz.prog 51 0 = some 0 := ke
theorem foff_dk1 : foff Tryz.prog 51 1 = some 1 := ke
theorem bld_dk (a : Option Addr) (n c : Nat) : buildV Tryz.prog 51 [(0, .slice a n c)] = some (.agg #[.slice a n c, .slice none 0 0]) := ke
attribute [go_sem] foff_bd0 foff_bd1 foff_dk0 foff_dk1 bld_dk
theorem split_c (l : List UInt8) (c : UInt8) (w : World) (hl : l.length ≤ 1000000) : Ret Tryz.prog 30 #[.string (bs l), .string (bs [c])] w fun v w' => ∃ b, v = .slice (some ⟨b, 0, none⟩) (spl c l).length (spl c l).length ∧ Ext w w' ∧ b = w.heap.size ∧ Blk w' b (vst (spl c l)).toArray 9 := by
 have h := split_one Tryz.lays146 ke (bs l) c w (by rw [bs_size]; omega)
 obtain ⟨e1, e2⟩ := splitB_spl c l
 rw [e1, e2] at h
 refine Calls.mono h fun e w' ⟨he, hw⟩ => ⟨_, he, _, rfl, ?_, rfl, ?_⟩
 ·rw [hw]; exact ext_alloc w _
 ·rw [hw]; exact heap_alloc_new w _
theorem cutPrefix_c (l p : List UInt8) (w : World) : Ret Tryz.prog 91 #[.string (bs l), .string (bs p)] w fun v w' => v = .tuple #[.string (bs (Lib.trimPrefix l p)), .bool (Lib.hasPrefix l p)] ∧ Ext w w' := by
 refine Calls.mono (Any.strings_CutPrefix Tryz.lays103 (bs l) (bs p) w) fun e w' ⟨he, hw⟩ => ⟨_, he, ?_, by rw [hw]; exact Ext.refl _⟩
 simp [bs]
theorem bExtra : Builder.Extra Tryz.prog Tryz.lays156_ren := {
 sizeBuilder := ke
 liesBuilder := ke
 t5 := Tryz.underlying5
 a5 := Tryz.isAgg5
 z5 := Tryz.sizeOf5
 v5 := Tryz.zeroValue5
 infoByte := ke
 cellsByte := ke
 sizeByte := ke
 neB5 := by decide }
theorem sjoin_c (b n : Nat) (cp : Nat) (L : List (List UInt8)) (c : UInt8) (w : World) (k : Blk w b (vst L).toArray 9) (hn : n = L.length) (hcp : n ≤ cp) (h1 : L.length ≤ 1000000) (h2 : ∀ l ∈ L, l.length ≤ 1000000) :
  Ret Tryz.prog 164 #[.slice (some ⟨b, 0, none⟩) n cp, .string (bs [c])] w fun v w' => v = .string (bs (jn c L)) ∧ Ext w w' := by
 have hlen := jn_len (c := c) h2
 have hmul : L.length * (1000000 + 1) ≤ 1000000 * 1000001 := Nat.mul_le_mul_right _ h1
 have e0 : (L.map bs).map (fun x => x.data.toList) = L := by
  rw [List.map_map]
  conv => rhs; rw [← List.map_id L]
  exact List.map_congr_left fun x _ => by simp [bs]
 have hj : Lib.join ((L.map bs).map (·.data.toList)) (bs [c]).data.toList = jn c L := by
  rw [e0]
  exact join_jn c L
 have h := Any.strings_Join Tryz.lays156 bExtra b 0 cp (L.map bs) (bs [c]) w
  (fun j x hx => by
   rw [Nat.zero_add, k.cell, List.getElem?_toArray]
   rw [List.getElem?_map] at hx
   simp only [vst, List.getElem?_map]
   cases hL : L[j]? with
   | none => rw [hL] at hx; cases hx
   | some y => rw [hL] at hx; cases hx; rfl)
  k.lt sq (by simpa [hn] using hcp) (by rw [hj]; omega)
 rw [hj, List.length_map, ← hn] at h
 exact Calls.mono h fun e w' ⟨he, hw⟩ => ⟨_, he, rfl, hw⟩
theorem Blk.put {w : World} {b : Nat} {cs : Array Value} {T : TypeId} (o : Blk w b cs T) (i : Nat) (v : Value) : Blk (w.setCell ⟨b, i, none⟩ v) b (cs.setIfInBounds i v) T := by
 unfold Blk at *
 rw [setCell_eq_setRow w b i cs T (0, 0) v o]
 exact setRow_heap w b cs _ T (0, 0) o
theorem copyCheck_c (b : Nat) (p v : Value) (w : World) (k : Blk w b #[p, v] 56) (hp : p = .pointer none ∨ p = .pointer (some ⟨b, 0, none⟩)) :
  Ret Tryz.prog 63 #[.pointer (some ⟨b, 0, none⟩)] w fun u w' => u = .tuple #[] ∧ Grow (some b) w w' ∧ w'.heap.size = w.heap.size ∧ Blk w' b #[.pointer (some ⟨b, 0, none⟩), v] 56 := by
 have h0 : w.cell? ⟨b, 0, none⟩ = some p := by rw [k.cell]; rfl
 rcases hp with rfl | rfl
 ·have hsh : w.shape? b = some (56, 2) := by
   have : w.heap[b]? = some (.cells #[.pointer none, v] 56 (0, 0)) := k
   simp [World.shape?, this]
  have g := wrote_setCell w ⟨b, 0, none⟩ (.pointer (some ⟨b, 0, none⟩))
  refine Calls.mono (Any.Builder_copyCheck_fresh { Tryz.lays156 with } bExtra.toX72 b w h0 hsh (k.frozen 0)) fun e w' ⟨he, hw⟩ => ⟨_, he, rfl, ?_, ?_, ?_⟩
  ·rw [hw]; exact g.grow
  ·rw [hw]; exact g.size
  ·rw [hw]; exact Blk.put k 0 _
 ·refine Calls.mono (Any.Builder_copyCheck_used { Tryz.lays156 with } bExtra.toX72 b w h0) fun e w' ⟨he, hw⟩ => ⟨_, he, rfl, by rw [hw]; exact Grow.refl _ _, by rw [hw], by rw [hw]; exact k⟩
theorem writeString_c (b : Nat) (l m : List UInt8) (bf : Option Nat) (w : World) (h : Bld w 56 5 b l bf) (hlen : l.length + m.length ≤ 1000000) :
  Ret Tryz.prog 31 #[.pointer (some ⟨b, 0, none⟩), .string (bs m)] w fun v w' => v = .tuple #[.int .i64 m.length, .nilIface] ∧ ∃ bf', Bld w' 56 5 b (l ++ m) bf' ∧ GrowP (fun k => k = b ∨ bf = some k) w w' ∧ ∀ x, bf' = some x → bf = some x ∨ w.heap.size ≤ x := by
 obtain ⟨p, a, c, k, hp, o, hbf, hn⟩ := h
 refine enter2 Tryz.func31 rfl fun f a0 a1 => ?_
 simp (disch := omega) only [go_sem, a0]
 refine callK_of ke (copyCheck_c b p _ _ k hp) ?_
 rintro _ w1 ⟨rfl, g1, s1, k1⟩
 have o1 := o.grow g1 (fun x hx e => by cases e; exact hn (hbf ▸ hx))
 simp (disch := omega) only [go_sem, a0, a1, k1.cell, List.getElem?_toArray, List.getElem?_cons_zero, List.getElem?_cons_succ]
 refine appKs_of elt_b isStr_str o1 m om fun w2 a2 c2 o2 g2 h2 => ?_
 have k2 := g2.blk k1 (fun e => hn (hbf ▸ e))
 have hb1 : b < w1.heap.size := k1.lt
 have ha2 : blk a2 ≠ some b := fun e => (h2 b e).elim (fun e => hn (hbf ▸ e)) om
 simp (disch := omega) only [go_sem, a0]
 refine stK_blk siz_b rf rf k2 sm fun w3 k3 g3 => ?_
 simp (disch := omega) only [go_sem, a1, Tryz.results31]
 refine ⟨trivial, blk a2, ⟨_, a2, c2, ?_, .inr rfl, ?_, rfl, ha2⟩, ?_, fun x hx => ?_⟩
 ·simpa using k3
 ·have := o2.grow g3.grow (fun x hx e => ha2 (by cases e; exact hx))
  rw [vb_app] at this
  simpa using this
 ·exact ((g1.growP fun x e => .inl (by cases e; rfl)).trans (g2.growP fun x e => .inr (hbf ▸ e))).trans (g3.grow.growP fun x e => .inl (by cases e; rfl))
 ·exact (h2 x hx).elim (fun e => .inl (hbf ▸ e)) (fun e => .inr om)
theorem writeByte_c (b : Nat) (l : List UInt8) (x : UInt8) (bf : Option Nat) (w : World) (h : Bld w 56 5 b l bf) (hlen : l.length ≤ 1000000) :
  Ret Tryz.prog 44 #[.pointer (some ⟨b, 0, none⟩), .int .u8 (x.toNat : Nat)] w fun v w' => v = .nilIface ∧ ∃ bf', Bld w' 56 5 b (l ++ [x]) bf' ∧ GrowP (fun k => k = b ∨ bf = some k) w w' ∧ ∀ x, bf' = some x → bf = some x ∨ w.heap.size ≤ x := by
 obtain ⟨p, a, c, k, hp, o, hbf, hn⟩ := h
 refine enter2 Tryz.func44 rfl fun f a0 a1 => ?_
 simp (disch := omega) only [go_sem, a0]
 refine callK_of ke (copyCheck_c b p _ _ k hp) ?_
 rintro _ w1 ⟨rfl, g1, s1, k1⟩
 have o1 := o.grow g1 (fun x hx e => by cases e; exact hn (hbf ▸ hx))
 simp (disch := omega) only [go_sem, a0, a1, k1.cell, List.getElem?_toArray, List.getElem?_cons_zero, List.getElem?_cons_succ]
 refine bslK_1 elt_b rfl fun w1' b1 e1' x1 kb _ => ?_
 have hb1 : b < w1.heap.size := k1.lt
 simp (disch := omega) only [go_sem]
 refine appK_1 elt_b (o1.ext x1) kb rfl om (.inl dc) fun w2 a2 c2 o2 g2 h2 => ?_
 have k2 := g2.blk (k1.ext x1) (fun e => hn (hbf ▸ e))
 have sx := x1.size
 have ha2 : blk a2 ≠ some b := fun e => (h2 b e).elim (fun e => hn (hbf ▸ e)) om
 simp (disch := omega) only [go_sem, a0]
 refine stK_blk siz_b rf rf k2 sm fun w3 k3 g3 => ?_
 simp (disch := omega) only [go_sem, Tryz.results44]
 refine ⟨trivial, blk a2, ⟨_, a2, c2, ?_, .inr rfl, ?_, rfl, ha2⟩, ?_, fun x hx => ?_⟩
 ·simpa using k3
 ·have := o2.grow g3.grow (fun x hx e => ha2 (by cases e; exact hx))
  have e : vby l ++ [Value.int .u8 (x.toNat : Nat)] = vby (l ++ [x]) := vb_app l [x]
  rw [e] at this
  simpa using this
 ·exact (((g1.growP fun x e => .inl (by cases e; rfl)).trans (x1.growP _)).trans (g2.growP fun x e => .inr (hbf ▸ e))).trans (g3.grow.growP fun x e => .inl (by cases e; rfl))
 ·exact (h2 x hx).elim (fun e => .inl (hbf ▸ e)) (fun e => .inr om)
theorem builderString_c (B b : Nat) (l : List UInt8) (bf : Option Nat) (w : World) (h : Bld w 56 5 b l bf) (hB : B ≤ b) (hbf : ∀ x, bf = some x → B ≤ x) (hBw : B ≤ w.heap.size) :
  Ret Tryz.prog 34 #[.pointer (some ⟨b, 0, none⟩)] w fun v w' => v = .string (bs l) ∧ Below B w w' := by
 obtain ⟨p, a, c, k, hp, o, rfl, hn⟩ := h
 have hrow : w.ownsRow B 5 1 (.slice a l.length c) (vby l).length (vby l) := by
  rw [vb_len]
  refine ⟨o.1, ?_⟩
  rcases o.2 with ⟨rfl, h2, rfl⟩ | ⟨g, cur, rfl, hg, hnc, hcm, hs, ht⟩
  ·exact .inl ⟨by rw [h2], h2⟩
  ·exact .inr ⟨g, c, cur, rfl, hbf g rfl, hg, hnc, hcm, hs, ht⟩
 have hat : ∀ p, Blk w b #[p, .slice a l.length c] 56 → Lib.BuilderAt 56 5 B b p (vby l) w := fun p k => ⟨hB, _, k, hrow, fun e => hn (by cases a with | none => simp [Value.ownBlock] at e | some x => simpa [Value.ownBlock, blk] using e)⟩
 have hi : Lib.IsBuilder 56 5 B b (Lib.byteCells l) w := by
  rcases hp with rfl | rfl
  ·exact .inl (hat _ k)
  ·exact .inr (hat _ k)
 exact Calls.mono (Any.Builder_String_any { Tryz.lays156 with } bExtra B b l w hi hBw) fun e w' ⟨he, hw⟩ => ⟨_, he, rfl, hw⟩
end Go.Proofs.YtcbmhjndbpafbaaGreatDoor
namespace Go.SW
open Go Go.RowKit
theorem hgt_rc {rows : List (List Int)} {r c : Nat} (hc : c < rowLen rows) : hgt rows (r * rowLen rows + c) = (rows.getD r []).getD c 0 := by
 have h1 : (r * rowLen rows + c) % rowLen rows = c := by rw [Nat.mul_comm, Nat.mul_add_mod]; exact Nat.mod_eq_of_lt hc
 have h2 : (r * rowLen rows + c) / rowLen rows = r := by rw [Nat.mul_comm, Nat.mul_add_div om, Nat.div_eq_of_lt hc, Nat.add_zero]
 rw [hgt, h1, h2]
theorem Valid.rng {rows : List (List Int)} (v : Valid rows) : ∀ l ∈ rows, ∀ h ∈ l, 0 ≤ h ∧ h ≤ 99 := fun l hl h hh => by
 obtain ⟨r, hr, rfl⟩ := List.getElem_of_mem hl
 obtain ⟨c, hc, rfl⟩ := List.getElem_of_mem hh
 have e : rows.getD r [] = rows[r] := getD_at rows [] hr
 have hl := v.len r hr
 rw [e] at hl
 have := v.cell r c hr om
 rw [e, getD_at _ _ hc] at this
 exact this
theorem Valid.ne {rows : List (List Int)} (v : Valid rows) : rows ≠ [] := fun e => by have := v.r1; rw [e] at this; simp at this
theorem Valid.rlen {rows : List (List Int)} (v : Valid rows) : ∀ l ∈ rows, l.length = rowLen rows := fun l hl => by
 obtain ⟨r, hr, rfl⟩ := List.getElem_of_mem hl
 have := v.len r hr
 rwa [getD_at rows [] hr] at this
theorem Valid.gt_len {rows : List (List Int)} (v : Valid rows) : (gtext rows).length ≤ 147 := gtext_len v.r7 fun l hl => by rw [v.rlen l hl]; exact v.c7
theorem c2_app (h : Int) (l : List UInt8) : l ++ [UInt8.ofNat (48 + h.toNat / 10)] ++ [UInt8.ofNat (48 + h.toNat % 10)] = l ++ c2 h := by simp [c2]
theorem gpre_len {rows : List (List Int)} (v : Valid rows) (k : Nat) : (gpre rows k).length ≤ 147 := by
 have := gtext_len (rows := rows.take k) (by rw [List.length_take]; have := v.r7; omega) fun l hl => by rw [v.rlen l (List.mem_of_mem_take hl)]; exact v.c7
 exact this
theorem rpre_len {rows : List (List Int)} (v : Valid rows) {k : Nat} (hk : k < rows.length) (j : Nat) : (rpre (rows.getD k []) j).length ≤ 147 := by
 have h7 : (rows.getD k []).length ≤ 7 := by rw [v.len k hk]; exact v.c7
 have := jn_len (c := 32) (L := ((rows.getD k []).take j).map c2) (m := 2) fun t ht => by
  obtain ⟨a, _, rfl⟩ := List.mem_map.1 ht
  exact Nat.le_refl _
 rw [List.length_map, List.length_take] at this
 unfold rpre
 omega
end Go.SW
namespace Go.Proofs.YtcbmhjndbpafbaaGreatDoor
open Go.RowKit Go.SW
theorem implGridText_c (a : Option Addr) (rows : List (List Int)) (A : Nat → Option Addr) (Cp : Nat → Nat) (gc : Nat) (w : World) (hr : RowsAt w a rows A Cp) (hgv : gvalid rows = true) :
  Ret Tryz.prog 18 #[.slice a rows.length gc] w fun v w' => v = .string (bs (gtext rows)) ∧ Ext w w' := by
 refine enter1 Tryz.func18 rfl fun f a0 => ?_
 simp (disch := omega) only [go_sem, a0]
 refine callK_of ke (fieldOf_c _ _ _ _ _ _ hr) ?_
 rintro _ w2 ⟨x2, (⟨hvt, cb, rfl, hcb, o⟩ | ⟨hv', rfl⟩)⟩
 rotate_left
 ·simp (disch := omega) only [go_sem]
  refine allocK_of zero_f fun w3 fb _ x3 k3 _ => ?_
  simp (disch := omega) only [go_sem]
  refine stK_agg siz_f sm oi k3 sm fun w4 k4 g4 => ?_
  have x4 : Ext w w4 := g4.ext (x2.trans x3) (by have := x2.size; omega)
  have hv : gvalid rows = false := hv'
  rw [hgv] at hv; cases hv
 have hv : gvalid rows = true := hvt
 have v := (gvalid_iff rows).1 hv
 have g := v.gd
 have hn49 := g.le
 simp (disch := omega) only [go_sem]
 refine allocK_of zero_f fun w3 fb _ x3 k3 _ => ?_
 simp (disch := omega) only [go_sem]
 refine stK_agg siz_f sm oi k3 sm fun w4 kb g4 => ?_
 have s2 := x2.size
 have s3 := x3.size
 have x4 : Ext w w4 := g4.ext (x2.trans x3) om
 have s4 := x4.size
 have hc : CellsAt w4 cb (rows.length * rowLen rows) (hgt rows) := fun i hi => by
  have := ((o.cellsAt.ext x3).grow g4.grow (by have := o.cellsAt.lt g.pos; simp; omega)) i hi
  simpa only [hs_get rows i hi] using this
 have hC1 := v.c1
 have hC7 := v.c7
 have hR7 := v.r7
 have hgg := v.rng
 simp (disch := omega) only [go_sem]
 refine allocK_of zero_bd fun w5 bb e5 x5 k5 _ => ?_
 have kb5 := kb.ext x5
 simp (disch := omega) only [go_sem, kb5.cell]
 have fin : ∀ {W W' : World} {bf bf' : Option Nat}, Ext w4 W → (∀ x, bf = some x → w4.heap.size ≤ x) → GrowP (fun k => k = bb ∨ bf = some k) W W' → (∀ x, bf' = some x → bf = some x ∨ W.heap.size ≤ x) → Ext w4 W' ∧ ∀ x, bf' = some x → w4.heap.size ≤ x := fun e h g h' =>
  ⟨g.ext e fun k hk => hk.elim (fun e => om) (fun e => h k e), fun x hx => (h' x hx).elim (h x) (fun hle => Nat.le_trans e.size hle)⟩
 refine loopN rows.length (fun k f W => f 3 = .pointer (some ⟨fb, 0, none⟩) ∧ f 5 = .pointer (some ⟨bb, 0, none⟩) ∧ f 17 = .int .i64 rows.length ∧ f 18 = .int .i64 k ∧ Ext w4 W ∧ ∃ bf, Bld W 56 5 bb (gpre rows k) bf ∧ ∀ x, bf = some x → w4.heap.size ≤ x)
  ⟨uu, uu, uu, uu, x5, none, ⟨_, none, 0, k5, .inl rfl, OwnS.nil _ _ _, rfl, by simp⟩, fun x hx => by cases hx⟩ fun k f W hk ⟨a3, a5, a17, a18, xw, bf, hb, hbf⟩ => ?_
 have gl := gpre_len v k
 by_cases hlt : (k : Int) < (rows.length : Int)
 ·have hkR : k < rows.length := om
  have hrl := v.len k hkR
  have hgs := gpre_succ hkR
  by_cases h0 : (0 : Int) < k
  ·have KZ : (if k = 0 then ([] : List UInt8) else [47]) = [47] := if_neg om
   simp (disch := omega) only [go_sem, a3, a5, a17, a18, hlt, h0]
   refine callK_of ke (writeByte_c bb (gpre rows k) 47 bf _ hb om) ?_
   rintro _ w6 ⟨rfl, bf6, hb6, g6, h6⟩
   obtain ⟨x6, hbf6⟩ := fin xw hbf g6 h6
   have kbk := kb.ext x6
   simp (disch := omega) only [go_sem, a3, kbk.cell]
   refine loopN (rowLen rows) (fun j f W => f 3 = .pointer (some ⟨fb, 0, none⟩) ∧ f 5 = .pointer (some ⟨bb, 0, none⟩) ∧ f 6 = .int .i64 k ∧ f 17 = .int .i64 rows.length ∧ f 18 = .int .i64 k ∧ f 25 = .int .i64 (rowLen rows) ∧ f 26 = .int .i64 j ∧ Ext w4 W ∧ ∃ bf, Bld W 56 5 bb (gpre rows k ++ [47] ++ rpre (rows.getD k []) j) bf ∧ ∀ x, bf = some x → w4.heap.size ≤ x)
    ⟨uu, uu, uu, uu, uu, uu, uu, x6, bf6, by simpa [rpre_zero] using hb6, hbf6⟩ fun j f W hj ⟨a3, a5, a6, a17, a18, a25, a26, xj, bfj, hbj, hbfj⟩ => ?_
   have rl := rpre_len v hkR j
   by_cases hlj : (j : Int) < (rowLen rows : Int)
   ·have hjC : j < rowLen rows := om
    by_cases hj0 : (0 : Int) < j
    ·have JZ : (if j = 0 then ([] : List UInt8) else [32]) = [32] := if_neg om
     simp (disch := omega) only [go_sem, a3, a5, a17, a18, a25, a26, hlj, hj0]
     refine callK_of ke (writeByte_c bb _ 32 bfj _ hbj (by simp only [List.length_append, List.length_cons, List.length_nil]; omega)) ?_
     rintro _ w8 ⟨rfl, bf8, hbJ, g8, h8⟩
     obtain ⟨XJ, hbfJ⟩ := fin xj hbfj g8 h8
     have a7 : True := trivial
     have ej : k * rowLen rows + j < rows.length * rowLen rows := by
      have := Nat.mul_le_mul_right (rowLen rows) hkR
      rw [Nat.succ_mul] at this
      omega
     have hcell := hgt_rc (rows := rows) (r := k) (c := j) hjC
     have hrg := v.cell k j hkR hjC
     have kb8 := kb.ext XJ
     have hc8 := hc.ext XJ
     simp (disch := omega) only [go_sem, a3, readCells_blk kb8 (n := 3) sm, a6, a7]
     refine callK_pure ke (at_c _ _ _ _ _ _ _ _ _ hc8 om om om ej) fun w9 x9 => ?_
     have XJ9 := XJ.trans x9
     have hb9 := hbJ.ext x9
     rw [hcell]
     have hd1 : (48 : Int) + (rows.getD k []).getD j 0 / 10 = (((UInt8.ofNat (48 + ((rows.getD k []).getD j 0).toNat / 10)).toNat : Nat) : Int) := by rw [u8n' om]; omega
     have hd2 : (48 : Int) + (rows.getD k []).getD j 0 % 10 = (((UInt8.ofNat (48 + ((rows.getD k []).getD j 0).toNat % 10)).toNat : Nat) : Int) := by rw [u8n' om]; omega
     have hu1 := (UInt8.ofNat (48 + ((rows.getD k []).getD j 0).toNat / 10)).toNat_lt
     have hu2 := (UInt8.ofNat (48 + ((rows.getD k []).getD j 0).toNat % 10)).toNat_lt
     have hsucc := rpre_succ (l := rows.getD k []) (n := j) om
     rw [JZ, ← c2_app] at hsucc
     simp (disch := omega) only [go_sem, a5, hd1]
     refine callK_of ke (writeByte_c bb _ _ _ _ hb9 (by simp only [List.length_append, List.length_cons, List.length_nil]; omega)) ?_
     rintro _ w10 ⟨rfl, bf10, hb10, g10, h10⟩
     obtain ⟨x10, hbf10⟩ := fin XJ9 hbfJ g10 h10
     simp (disch := omega) only [go_sem, a5, hd2]
     refine callK_of ke (writeByte_c bb _ _ _ _ hb10 (by simp only [List.length_append, List.length_cons, List.length_nil]; omega)) ?_
     rintro _ w11 ⟨rfl, bf11, hb11, g11, h11⟩
     obtain ⟨x11, hbf11⟩ := fin x10 hbf10 g11 h11
     simp (disch := omega) only [go_sem, a26]
     refine ⟨om, uu, uu, uu, uu, uu, uu, uu, x11, bf11, ?_, hbf11⟩
     rw [hsucc]
     simpa only [List.append_assoc, List.nil_append, List.append_nil] using hb11
    ·have JZ : (if j = 0 then ([] : List UInt8) else [32]) = [] := if_pos om
     have XJ := xj
     have hbJ := hbj
     have hbfJ := hbfj
     have a7 : True := trivial
     simp (disch := omega) only [go_sem, a3, a5, a17, a18, a25, a26, hlj, hj0]
     have ej : k * rowLen rows + j < rows.length * rowLen rows := by
      have := Nat.mul_le_mul_right (rowLen rows) hkR
      rw [Nat.succ_mul] at this
      omega
     have hcell := hgt_rc (rows := rows) (r := k) (c := j) hjC
     have hrg := v.cell k j hkR hjC
     have kb8 := kb.ext XJ
     have hc8 := hc.ext XJ
     simp (disch := omega) only [go_sem, a3, readCells_blk kb8 (n := 3) sm, a6, a7]
     refine callK_pure ke (at_c _ _ _ _ _ _ _ _ _ hc8 om om om ej) fun w9 x9 => ?_
     have XJ9 := XJ.trans x9
     have hb9 := hbJ.ext x9
     rw [hcell]
     have hd1 : (48 : Int) + (rows.getD k []).getD j 0 / 10 = (((UInt8.ofNat (48 + ((rows.getD k []).getD j 0).toNat / 10)).toNat : Nat) : Int) := by rw [u8n' om]; omega
     have hd2 : (48 : Int) + (rows.getD k []).getD j 0 % 10 = (((UInt8.ofNat (48 + ((rows.getD k []).getD j 0).toNat % 10)).toNat : Nat) : Int) := by rw [u8n' om]; omega
     have hu1 := (UInt8.ofNat (48 + ((rows.getD k []).getD j 0).toNat / 10)).toNat_lt
     have hu2 := (UInt8.ofNat (48 + ((rows.getD k []).getD j 0).toNat % 10)).toNat_lt
     have hsucc := rpre_succ (l := rows.getD k []) (n := j) om
     rw [JZ, ← c2_app] at hsucc
     simp (disch := omega) only [go_sem, a5, hd1]
     refine callK_of ke (writeByte_c bb _ _ _ _ hb9 (by simp only [List.length_append, List.length_cons, List.length_nil]; omega)) ?_
     rintro _ w10 ⟨rfl, bf10, hb10, g10, h10⟩
     obtain ⟨x10, hbf10⟩ := fin XJ9 hbfJ g10 h10
     simp (disch := omega) only [go_sem, a5, hd2]
     refine callK_of ke (writeByte_c bb _ _ _ _ hb10 (by simp only [List.length_append, List.length_cons, List.length_nil]; omega)) ?_
     rintro _ w11 ⟨rfl, bf11, hb11, g11, h11⟩
     obtain ⟨x11, hbf11⟩ := fin x10 hbf10 g11 h11
     simp (disch := omega) only [go_sem, a26]
     refine ⟨om, uu, uu, uu, uu, uu, uu, uu, x11, bf11, ?_, hbf11⟩
     rw [hsucc]
     simpa only [List.append_assoc, List.nil_append, List.append_nil] using hb11
   ·obtain rfl : j = rowLen rows := om
    simp (disch := omega) only [go_sem, a25, a26, hlj, a18]
    refine ⟨om, uu, uu, uu, uu, xj, bfj, ?_, hbfj⟩
    rw [hgs, KZ, ← rpre_all, hrl]
    exact hbj
  ·have KZ : (if k = 0 then ([] : List UInt8) else [47]) = [] := if_pos om
   simp (disch := omega) only [go_sem, a3, a5, a17, a18, hlt, h0]
   have kbk := kb.ext xw
   simp (disch := omega) only [go_sem, a3, kbk.cell]
   refine loopN (rowLen rows) (fun j f W => f 3 = .pointer (some ⟨fb, 0, none⟩) ∧ f 5 = .pointer (some ⟨bb, 0, none⟩) ∧ f 6 = .int .i64 k ∧ f 17 = .int .i64 rows.length ∧ f 18 = .int .i64 k ∧ f 25 = .int .i64 (rowLen rows) ∧ f 26 = .int .i64 j ∧ Ext w4 W ∧ ∃ bf, Bld W 56 5 bb (gpre rows k ++ [] ++ rpre (rows.getD k []) j) bf ∧ ∀ x, bf = some x → w4.heap.size ≤ x)
    ⟨uu, uu, uu, uu, uu, uu, uu, xw, bf, by simpa [rpre_zero] using hb, hbf⟩ fun j f W hj ⟨a3, a5, a6, a17, a18, a25, a26, xj, bfj, hbj, hbfj⟩ => ?_
   have rl := rpre_len v hkR j
   by_cases hlj : (j : Int) < (rowLen rows : Int)
   ·have hjC : j < rowLen rows := om
    by_cases hj0 : (0 : Int) < j
    ·have JZ : (if j = 0 then ([] : List UInt8) else [32]) = [32] := if_neg om
     simp (disch := omega) only [go_sem, a3, a5, a17, a18, a25, a26, hlj, hj0]
     refine callK_of ke (writeByte_c bb _ 32 bfj _ hbj (by simp only [List.length_append, List.length_cons, List.length_nil]; omega)) ?_
     rintro _ w8 ⟨rfl, bf8, hbJ, g8, h8⟩
     obtain ⟨XJ, hbfJ⟩ := fin xj hbfj g8 h8
     have a7 : True := trivial
     have ej : k * rowLen rows + j < rows.length * rowLen rows := by
      have := Nat.mul_le_mul_right (rowLen rows) hkR
      rw [Nat.succ_mul] at this
      omega
     have hcell := hgt_rc (rows := rows) (r := k) (c := j) hjC
     have hrg := v.cell k j hkR hjC
     have kb8 := kb.ext XJ
     have hc8 := hc.ext XJ
     simp (disch := omega) only [go_sem, a3, readCells_blk kb8 (n := 3) sm, a6, a7]
     refine callK_pure ke (at_c _ _ _ _ _ _ _ _ _ hc8 om om om ej) fun w9 x9 => ?_
     have XJ9 := XJ.trans x9
     have hb9 := hbJ.ext x9
     rw [hcell]
     have hd1 : (48 : Int) + (rows.getD k []).getD j 0 / 10 = (((UInt8.ofNat (48 + ((rows.getD k []).getD j 0).toNat / 10)).toNat : Nat) : Int) := by rw [u8n' om]; omega
     have hd2 : (48 : Int) + (rows.getD k []).getD j 0 % 10 = (((UInt8.ofNat (48 + ((rows.getD k []).getD j 0).toNat % 10)).toNat : Nat) : Int) := by rw [u8n' om]; omega
     have hu1 := (UInt8.ofNat (48 + ((rows.getD k []).getD j 0).toNat / 10)).toNat_lt
     have hu2 := (UInt8.ofNat (48 + ((rows.getD k []).getD j 0).toNat % 10)).toNat_lt
     have hsucc := rpre_succ (l := rows.getD k []) (n := j) om
     rw [JZ, ← c2_app] at hsucc
     simp (disch := omega) only [go_sem, a5, hd1]
     refine callK_of ke (writeByte_c bb _ _ _ _ hb9 (by simp only [List.length_append, List.length_cons, List.length_nil]; omega)) ?_
     rintro _ w10 ⟨rfl, bf10, hb10, g10, h10⟩
     obtain ⟨x10, hbf10⟩ := fin XJ9 hbfJ g10 h10
     simp (disch := omega) only [go_sem, a5, hd2]
     refine callK_of ke (writeByte_c bb _ _ _ _ hb10 (by simp only [List.length_append, List.length_cons, List.length_nil]; omega)) ?_
     rintro _ w11 ⟨rfl, bf11, hb11, g11, h11⟩
     obtain ⟨x11, hbf11⟩ := fin x10 hbf10 g11 h11
     simp (disch := omega) only [go_sem, a26]
     refine ⟨om, uu, uu, uu, uu, uu, uu, uu, x11, bf11, ?_, hbf11⟩
     rw [hsucc]
     simpa only [List.append_assoc, List.nil_append, List.append_nil] using hb11
    ·have JZ : (if j = 0 then ([] : List UInt8) else [32]) = [] := if_pos om
     have XJ := xj
     have hbJ := hbj
     have hbfJ := hbfj
     have a7 : True := trivial
     simp (disch := omega) only [go_sem, a3, a5, a17, a18, a25, a26, hlj, hj0]
     have ej : k * rowLen rows + j < rows.length * rowLen rows := by
      have := Nat.mul_le_mul_right (rowLen rows) hkR
      rw [Nat.succ_mul] at this
      omega
     have hcell := hgt_rc (rows := rows) (r := k) (c := j) hjC
     have hrg := v.cell k j hkR hjC
     have kb8 := kb.ext XJ
     have hc8 := hc.ext XJ
     simp (disch := omega) only [go_sem, a3, readCells_blk kb8 (n := 3) sm, a6, a7]
     refine callK_pure ke (at_c _ _ _ _ _ _ _ _ _ hc8 om om om ej) fun w9 x9 => ?_
     have XJ9 := XJ.trans x9
     have hb9 := hbJ.ext x9
     rw [hcell]
     have hd1 : (48 : Int) + (rows.getD k []).getD j 0 / 10 = (((UInt8.ofNat (48 + ((rows.getD k []).getD j 0).toNat / 10)).toNat : Nat) : Int) := by rw [u8n' om]; omega
     have hd2 : (48 : Int) + (rows.getD k []).getD j 0 % 10 = (((UInt8.ofNat (48 + ((rows.getD k []).getD j 0).toNat % 10)).toNat : Nat) : Int) := by rw [u8n' om]; omega
     have hu1 := (UInt8.ofNat (48 + ((rows.getD k []).getD j 0).toNat / 10)).toNat_lt
     have hu2 := (UInt8.ofNat (48 + ((rows.getD k []).getD j 0).toNat % 10)).toNat_lt
     have hsucc := rpre_succ (l := rows.getD k []) (n := j) om
     rw [JZ, ← c2_app] at hsucc
     simp (disch := omega) only [go_sem, a5, hd1]
     refine callK_of ke (writeByte_c bb _ _ _ _ hb9 (by simp only [List.length_append, List.length_cons, List.length_nil]; omega)) ?_
     rintro _ w10 ⟨rfl, bf10, hb10, g10, h10⟩
     obtain ⟨x10, hbf10⟩ := fin XJ9 hbfJ g10 h10
     simp (disch := omega) only [go_sem, a5, hd2]
     refine callK_of ke (writeByte_c bb _ _ _ _ hb10 (by simp only [List.length_append, List.length_cons, List.length_nil]; omega)) ?_
     rintro _ w11 ⟨rfl, bf11, hb11, g11, h11⟩
     obtain ⟨x11, hbf11⟩ := fin x10 hbf10 g11 h11
     simp (disch := omega) only [go_sem, a26]
     refine ⟨om, uu, uu, uu, uu, uu, uu, uu, x11, bf11, ?_, hbf11⟩
     rw [hsucc]
     simpa only [List.append_assoc, List.nil_append, List.append_nil] using hb11
   ·obtain rfl : j = rowLen rows := om
    simp (disch := omega) only [go_sem, a25, a26, hlj, a18]
    refine ⟨om, uu, uu, uu, uu, xj, bfj, ?_, hbfj⟩
    rw [hgs, KZ, ← rpre_all, hrl]
    exact hbj
 ·obtain rfl : k = rows.length := om
  rw [gpre_all] at hb
  simp (disch := omega) only [go_sem, a17, a18, hlt, a5]
  refine callK_of ke (builderString_c w4.heap.size bb _ bf _ hb om hbf xw.size) ?_
  rintro _ w6 ⟨rfl, x6⟩
  simp (disch := omega) only [go_sem, Tryz.results18]
  exact ⟨trivial, x4.trans (Below.trans xw x6)⟩
theorem twoDigits_c (h : Int) (h0 : 0 ≤ h ∧ h ≤ 99) (w : World) : Ret Tryz.prog 118 #[.string (bs (c2 h))] w fun v w' => v = .tuple #[.int .i64 h, .bool true] ∧ Ext w w' := by
 have e0 : ((c2 h).getD 0 0).toNat = 48 + h.toNat / 10 := u8n' om
 have e1 : ((c2 h).getD 1 0).toNat = 48 + h.toNat % 10 := u8n' om
 have el : ((c2 h).length : Int) = 2 := rfl
 have hl2 : (c2 h).length = 2 := rfl
 have t1 : ¬ (((48 + h.toNat / 10 : Nat) : Int) < 48) := om
 have t2 : ¬ ((57 : Int) < ((48 + h.toNat / 10 : Nat) : Int)) := om
 have t3 : ¬ (((48 + h.toNat % 10 : Nat) : Int) < 48) := om
 have t4 : ¬ ((57 : Int) < ((48 + h.toNat % 10 : Nat) : Int)) := om
 refine enter1 Tryz.func118 rfl fun f a0 => ?_
 simp (disch := omega) only [go_sem, a0, el, bne_self_eq_false, Int.reduceToNat, e0, e1, t1, t2, t3, t4]
 refine QR_of ke ke ?_
 simp (disch := omega) only [go_sem, a0, Int.reduceToNat, e0, e1, Tryz.results118]
 refine fun w' x => ⟨?_, x⟩
 have e : 10 * (((48 + h.toNat / 10 : Nat) : Int) - 48) + (((48 + h.toNat % 10 : Nat) : Int) - 48) = h := om
 rw [e]
def sp (L : List Int) : List UInt8 := jn 32 (L.map fun x => dec x.toNat)
theorem sp_len {L : List Int} (hL : L.length ≤ 1000) (h : ∀ x ∈ L, 0 ≤ x ∧ x ≤ 99) : (sp L).length ≤ 3000 := by
 have := jn_len (c := 32) (L := L.map fun x => dec x.toNat) (m := 2) fun l hl => by
  obtain ⟨x, hx, rfl⟩ := List.mem_map.1 hl
  exact (dec_len2 (by have := h x hx; omega)).2
 rw [List.length_map] at this
 unfold sp
 omega
end Go.Proofs.YtcbmhjndbpafbaaGreatDoor
namespace Go.SW
open Go Go.RowKit
end Go.SW
namespace Go.Proofs.YtcbmhjndbpafbaaGreatDoor
open Go.RowKit Go.SW
theorem mkRows_self {rows : List (List Int)} (v : Valid rows) : mkRows rows.length (rowLen rows) (hgt rows) = rows := by
 apply List.ext_getElem
 ·rw [mkRows_len]
 ·intro r h1 h2
  have e := mkRows_get (R := rows.length) (C := rowLen rows) (h := hgt rows) h2
  rw [getD_at _ _ h1] at e
  rw [e]
  have hl := v.len r h2
  rw [getD_at _ _ h2] at hl
  apply List.ext_getElem
  ·simp [hl]
  ·intro c h3 h4
   have hc : c < rowLen rows := by simpa using h3
   simp only [List.getElem_map, List.getElem_range]
   rw [hgt_rc hc, getD_at _ _ h2, getD_at _ _ h4]
theorem vst_cell {w : World} {b : Nat} {l : List (List UInt8)} {T : TypeId} (k : Blk w b (vst l).toArray T) {i : Nat} (h : i < l.length) : w.cell? ⟨b, i, none⟩ = some (.string (bs (l.getD i []))) := by
 rw [k.cell, List.getElem?_toArray, vst_get l i h]
theorem implSpaced_c (a : Option Addr) (L : List Int) (c : Nat) (w : World) (hi : IntS w a L) (hL : L.length ≤ 1000) (h : ∀ x ∈ L, 0 ≤ x ∧ x ≤ 99) :
  Ret Tryz.prog 158 #[.slice a L.length c] w fun v w' => v = .string (bs (sp L ++ [10])) ∧ Ext w w' := by
 have hsl := sp_len hL h
 refine enter1 Tryz.func158 rfl fun f a0 => ?_
 simp (disch := omega) only [go_sem, a0]
 refine mksK_of elt_s L.length L.length _ _ _ _ rfl rfl (Nat.le_refl _) om (by simp [maxLen]; omega) fun w1 b e1 x1 o1 _ => ?_
 simp (disch := omega) only [go_sem, a0]
 refine loopN L.length (fun k f W => f 3 = .slice (some ⟨b, 0, none⟩) L.length L.length ∧ f 9 = .slice a L.length c ∧ f 10 = .int .i64 L.length ∧ f 11 = .int .i64 k ∧ Ext w W ∧ ∃ ys, OwnS W 9 1 (some ⟨b, 0, none⟩) L.length L.length ys ∧ ∀ j, j < k → ys[j]? = some (.string (bs (dec (L.getD j 0).toNat))))
  ⟨uu, uu, uu, uu, x1, _, o1, fun j hj => om⟩ fun k f W hk ⟨a3, a9, a10, a11, xw, ys, oy, hy⟩ => ?_
 by_cases hlt : (k : Int) < (L.length : Int)
 ·have hkL : k < L.length := om
  obtain ⟨b1, o1', rfl⟩ := hi.head (by intro e; rw [e] at hkL; simp at hkL)
  have hx := h _ (getD_mem (d := 0) hkL)
  have g1 := (hi.ext xw).cell b1 o1' rfl k hkL
  have en : L.getD k 0 = (((L.getD k 0).toNat : Nat) : Int) := om
  rw [en] at g1
  simp (disch := omega) only [go_sem, a3, a9, a10, a11, hlt, g1]
  refine callK_pure ke (itoa_c (L.getD k 0).toNat om _) fun w2 x2 => ?_
  simp (disch := omega) only [go_sem]
  refine stK_own siz_str rf rf (oy.ext x2) om fun w3 o3 g3 => ?_
  simp (disch := omega) only [go_sem, a11]
  exact ⟨om, uu, uu, uu, uu, g3.ext (xw.trans x2) om, _, o3, set_get (fun j => .string (bs (dec (L.getD j 0).toNat))) (by rw [oy.1]; omega) rfl hy⟩
 ·obtain rfl : k = L.length := om
  obtain ⟨cs, kb, hcs, hcl⟩ := oy.toBlk
  have ev : ys = vst (L.map fun x => dec x.toNat) := by
   apply List.ext_getElem?
   intro j
   by_cases hj : j < L.length
   ·rw [hy j hj, vst_get _ _ (by simpa using hj)]
    simp [hj]
   ·rw [List.getElem?_eq_none (by rw [oy.1]; omega), List.getElem?_eq_none (by rw [vst_len, List.length_map]; omega)]
  have kb' : Blk W b (vst (L.map fun x => dec x.toNat)).toArray 9 := by rw [← ev, ← hcl]; exact kb
  have ej : jn 32 (L.map fun x => dec x.toNat) = sp L := rfl
  have hlens : ∀ l ∈ L.map (fun x => dec x.toNat), l.length ≤ 1000000 := fun l hl => by
   obtain ⟨x, hx, rfl⟩ := List.mem_map.1 hl
   have := (dec_len2 (n := x.toNat) (by have := h x hx; omega)).2
   omega
  have ea : binV Tryz.prog .add 9 (.string (bs (sp L))) (.string (bs [10])) = some (.string (bs (sp L ++ [10]))) := bin_adds1 _ _ om
  simp (disch := omega) only [go_sem, a3, a10, a11, hlt]
  refine callK_pure ke (sjoin_c b L.length L.length _ 32 _ kb' sm (Nat.le_refl _) sq hlens) fun w2 x2 => ?_
  simp (disch := omega) only [go_sem, ej, ea, Tryz.results158]
  exact ⟨trivial, xw.trans x2⟩
end Go.Proofs.YtcbmhjndbpafbaaGreatDoor
namespace Go.SW
open Go Go.RowKit
theorem BRows.low' {w : World} {eo ei B c : Nat} {a : Option Addr} {rows : List (List Int)} {A : Nat → Option Addr} {Cp : Nat → Nat} (h : BRows w eo ei B a c rows A Cp) : ∀ b, (blk a = some b ∨ ∃ r, r < rows.length ∧ blk (A r) = some b) → b < w.heap.size := fun b hb => h.lt hb
theorem take_full {α : Type} (l : List α) {n : Nat} (h : l.length = n) : l.take n = l := by rw [← h, List.take_length]
end Go.SW
namespace Go.Proofs.YtcbmhjndbpafbaaGreatDoor
open Go.RowKit Go.SW
theorem implGridFrom_c (rows : List (List Int)) (hgv : gvalid rows = true) (w : World) :
  Ret Tryz.prog 93 #[.string (bs (gtext rows))] w fun u w' => ∃ b A', u = .tuple #[.slice (some ⟨b, 0, none⟩) rows.length rows.length, .bool true] ∧ Ext w w' ∧ OwnRows w' 35 3 w.heap.size b rows A' := by
 have v := (gvalid_iff rows).1 hgv
 have hR1 := v.r1
 have hR7 := v.r7
 have hC1 := v.c1
 have hC7 := v.c7
 have hgl := v.gt_len
 have hsl : (spl 47 (gtext rows)).length = rows.length := by rw [spl_gtext v.ne v.rng, List.length_map]
 have h147 : ¬ (147 : Int) < ((gtext rows).length : Int) := om
 refine enter1 Tryz.func93 rfl fun f a0 => ?_
 simp (disch := omega) only [go_sem, a0, h147]
 refine bslK_0 elt_ii fun w1 b0 e0 x0 o0 _ => ?_
 simp (disch := omega) only [go_sem, a0]
 refine callK_of ke (split_c (gtext rows) 47 _ om) ?_
 rintro _ w2 ⟨sb, rfl, x2, esb, ks⟩
 rw [spl_gtext v.ne v.rng] at ks
 rw [hsl]
 have x12 := x0.trans x2
 have s1 := x0.size
 simp (disch := omega) only [go_sem]
 refine loopN rows.length (fun k f W => f 19 = .slice (some ⟨sb, 0, none⟩) rows.length rows.length ∧ f 20 = .int .i64 rows.length ∧ f 21 = .int .i64 k ∧ Ext w W ∧ Blk W sb (vst (rows.map rtext)).toArray 9 ∧ ∃ a c rs A Cp, rs = rows.take k ∧ f 4 = .slice a rs.length c ∧ BRows W 35 3 w.heap.size a c rs A Cp ∧ ∀ b, (blk a = some b ∨ ∃ r, r < rs.length ∧ blk (A r) = some b) → b ≠ sb)
  ⟨uu, uu, uu, x12, ks, _, _, [], fun _ => none, fun _ => 0, rfl, by simp only [upd_apply, Nat.reduceEqDiff, ↓reduceIte]; rfl, (BRows.nil o0 (fun b hb => by simp [blk] at hb; omega) _ _).ext x2, fun b hb => by
   rcases hb with hb | ⟨r, hr, _⟩
   ·simp [blk] at hb; omega
   ·simp at hr⟩ fun k f W hk ⟨a19, a20, a21, xw, ks, oa, oc, rs, A', Cp', hrs, a4, br, hsb⟩ => ?_
 have hrl : rs.length = k := by rw [hrs, List.length_take]; omega
 by_cases hlt : (k : Int) < (rows.length : Int)
 ·have hkR : k < rows.length := om
  have hrow := v.len k hkR
  have hmem : rows.getD k [] ∈ rows := getD_mem hkR
  have hrg := v.rng _ hmem
  have hne : rows.getD k [] ≠ [] := fun e => by rw [e] at hrow; simp at hrow; omega
  have hcell : W.cell? ⟨sb, k, none⟩ = some (.string (bs (rtext (rows.getD k [])))) := by
   rw [vst_cell ks (by simpa using hkR)]
   simp [hkR]
  have hsl2 : (spl 32 (rtext (rows.getD k []))).length = rowLen rows := by rw [spl_rtext hne hrg, List.length_map, hrow]
  have hrtl : (rtext (rows.getD k [])).length ≤ 1000 := by
   have := jn_len (c := 32) (L := (rows.getD k []).map c2) (m := 2) fun t ht => by
    obtain ⟨a, _, rfl⟩ := List.mem_map.1 ht
    exact Nat.le_refl _
   rw [List.length_map] at this
   unfold rtext; omega
  simp (disch := omega) only [go_sem, a19, a20, a21, hlt, hcell]
  refine bslK_0 elt_i fun w5 b5 e5 x5 o5 _ => ?_
  have s5 := x5.size
  have sw := xw.size
  simp (disch := omega) only [go_sem]
  refine callK_of ke (split_c (rtext (rows.getD k [])) 32 _ om) ?_
  rintro _ w6 ⟨sb2, rfl, x6, esb2, ks2⟩
  rw [spl_rtext hne hrg] at ks2
  rw [hsl2]
  have s6 := x6.size
  have x56 := x5.trans x6
  have hlow := br.low'
  generalize hrowk : rows.getD k [] = row at *
  simp (disch := omega) only [go_sem]
  refine loopN (rowLen rows) (fun j f W' => f 4 = .slice oa rs.length oc ∧ f 19 = .slice (some ⟨sb, 0, none⟩) rows.length rows.length ∧ f 20 = .int .i64 rows.length ∧ f 21 = .int .i64 k ∧ f 27 = .slice (some ⟨sb2, 0, none⟩) (rowLen rows) (rowLen rows) ∧ f 28 = .int .i64 (rowLen rows) ∧ f 29 = .int .i64 j ∧ Ext W W' ∧ Blk W' sb2 (vst (row.map c2)).toArray 9 ∧ BRows W' 35 3 w.heap.size oa oc rs A' Cp' ∧ ∃ ra rc, f 7 = .slice ra j rc ∧ OwnS W' 3 1 ra j rc (vi (row.take j)) ∧ ∀ b, blk ra = some b → W.heap.size ≤ b ∧ b ≠ sb2)
   ⟨uu, uu, uu, uu, uu, uu, uu, x56, ks2, br.ext x56, _, _, by simp only [upd_apply, Nat.reduceEqDiff, ↓reduceIte]; rfl, by simpa [vi] using o5.ext x6, fun b hb => by simp [blk] at hb; omega⟩ fun j f W' hj ⟨a4, a19, a20, a21, a27, a28, a29, xi, ks2, br, ra, rc, a7, orow, hra⟩ => ?_
  have si := xi.size
  by_cases hlj : (j : Int) < (rowLen rows : Int)
  ·have hjC : j < row.length := om
   have hrj := hrg _ (getD_mem (d := 0) hjC)
   have hcj : W'.cell? ⟨sb2, j, none⟩ = some (.string (bs (c2 (row.getD j 0)))) := by
    rw [vst_cell ks2 (by simpa using hjC)]
    simp [hjC]
   simp (disch := omega) only [go_sem, a27, a28, a29, hlj, hcj]
   refine callK_pure ke (twoDigits_c (row.getD j 0) hrj _) fun w7 x7 => ?_
   simp (disch := omega) only [go_sem, a7]
   refine bslK_1 elt_i rfl fun w8 b8 e8 x8 k8 _ => ?_
   have s7 := x7.size
   have s8 := x8.size
   simp (disch := omega) only [go_sem, a7]
   refine appK_1 elt_i ((orow.ext x7).ext x8) k8 rfl om (.inl dc) fun w9 a9 c9 o9 g9 h9 => ?_
   have l2 := ks2.lt
   have et : vi (row.take j) ++ [Value.int .i64 (row.getD j 0)] = vi (row.take (j + 1)) := by rw [take_snoc 0 hjC, vi_snoc]
   rw [et] at o9
   simp (disch := omega) only [go_sem, a29]
   refine ⟨om, uu, uu, uu, uu, uu, uu, uu, g9.ext ((xi.trans x7).trans x8) (fun b hb => (hra b hb).1), g9.blk ((ks2.ext x7).ext x8) (fun e => (hra _ e).2 rfl), ((br.ext x7).ext x8).other g9 (fun b _ hb e => by have := hlow b hb; have := (hra b e).1; omega), a9, c9, uu, o9, fun b hb => ?_⟩
   rcases h9 b hb with h | h
   ·exact hra b h
   ·omega
  ·obtain rfl : j = rowLen rows := om
   rw [take_full row hrow] at orow
   simp (disch := omega) only [go_sem, a28, a29, hlj, a4, a7]
   refine bslK_1 elt_ii rfl fun w7 b7 e7 x7 k7 _ => ?_
   have s7 := x7.size
   have br7 := br.ext x7
   obtain ⟨xs, ox, hxs⟩ := br7.top
   simp (disch := omega) only [go_sem, a4]
   refine appK_1 elt_ii ox k7 rfl om (.inr ⟨om, by decide⟩) fun w8 a8 c8 o8 g8 h8 => ?_
   simp (disch := omega) only [go_sem, a21]
   have hN : OwnS w7 3 1 ra row.length rc (vi row) := by rw [hrow]; exact orow.ext x7
   have lsb := (ks.ext xi).lt
   have lsb0 := ks.lt
   refine ⟨hkR, uu, uu, uu, g8.ext ((xw.trans xi).trans x7) br.ha, g8.blk ((ks.ext xi).ext x7) (fun e => hsb _ (.inl e) rfl), a8, c8, rs ++ [row], _, _, ?_, ?_, br7.push hN (fun b hb => ⟨by have := (hra b hb).1; omega, fun e => ?_, fun r hr e => ?_⟩) ox hxs (by rw [hrow]; exact o8) g8 h8 om, fun b hb => ?_⟩
   ·rw [hrs, take_snoc [] hkR, hrowk]
   ·simp [upd_apply]
   ·have := (hra b hb).1; have := hlow b (.inl e); omega
   ·have := (hra b hb).1; have := hlow b (.inr ⟨r, hr, e⟩); omega
   ·rcases hb with hb | ⟨r, hr, hb⟩
    ·rcases h8 b hb with h | h
     ·exact hsb b (.inl h)
     ·omega
    ·by_cases er : r = rs.length
     ·rw [if_pos er] at hb
      have := (hra b hb).1
      omega
     ·rw [if_neg er] at hb
      exact hsb b (.inr ⟨r, by simp at hr; omega, hb⟩)
 ·obtain rfl : k = rows.length := om
  rw [take_full rows rfl] at hrs
  subst hrs
  simp (disch := omega) only [go_sem, a20, a21, hlt, a4]
  have hr : RowsAt W oa rs A' Cp' := br.at (fun l hl x hx => by have := v.rng l hl x hx; exact ⟨om, om⟩) (by simp [maxLen]; omega) fun l hl => by rw [v.rlen l hl]; simp [maxLen]; omega
  refine callK_of ke (fieldOf_c _ _ _ _ _ _ hr) ?_
  rintro _ w3 ⟨x3, (⟨-, cb, rfl, hcb, o⟩ | ⟨hv', rfl⟩)⟩
  rotate_left
  ·rw [hgv] at hv'; cases hv'
  simp (disch := omega) only [go_sem]
  refine allocK_of zero_f fun w4 fb _ x4 k4 _ => ?_
  simp (disch := omega) only [go_sem]
  refine stK_agg siz_f sm oi k4 sm fun w5 k5 g5 => ?_
  have s0 := xw.size
  have s3 := x3.size
  have xx := g5.ext ((xw.trans x3).trans x4) om
  have hc : CellsAt w5 cb (rs.length * rowLen rs) (hgt rs) := fun i hi => by
   have := ((o.cellsAt.ext x4).grow g5.grow (by have := o.cellsAt.lt v.gd.pos; simp; omega)) i hi
   simpa only [hs_get rs i hi] using this
  simp (disch := omega) only [go_sem, readCells_blk k5 (n := 3) sm]
  refine callK_of ke (lists_c rs.length (rowLen rs) cb (hgt rs) _ hc om om om) ?_
  rintro _ w6 ⟨b, A'', rfl, x6, or⟩
  rw [mkRows_self v] at or
  simp (disch := omega) only [go_sem, Tryz.results93]
  exact ⟨b, A'', rfl, xx.trans x6, ⟨or.top, Nat.le_trans xx.size or.hb, fun r hr => let ⟨br, h1, h2, h3, oo⟩ := or.row r hr; ⟨br, h1, Nat.le_trans xx.size h2, h3, oo⟩, or.inj⟩⟩
end Go.Proofs.YtcbmhjndbpafbaaGreatDoor
