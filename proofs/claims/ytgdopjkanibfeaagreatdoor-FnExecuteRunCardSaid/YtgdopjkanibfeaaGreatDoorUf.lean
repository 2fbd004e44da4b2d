/- The library's functions that scripts use: Split, CutPrefix, Join, and the builder of texts. -/
import Derived.Test.YtgdopjkanibfeaaGreatDoorUb
import Derived.Test.YtgdopjkanibfeaaGreatDoorSh
import Derived.Test.YtgdopjkanibfeaaGreatDoorUd
import Derived.Test.YtgdopjkanibfeaaGreatDoorUe
set_option linter.all false
set_option maxRecDepth 20000
namespace Go.SW
open Go Go.RowKit
def vst (L : List (List UInt8)) : List Value := L.map fun l => Value.string (bs l)
theorem vst_len (L : List (List UInt8)) : (vst L).length = L.length := by simp [vst]
theorem vst_snoc (L : List (List UInt8)) (l : List UInt8) : vst L ++ [.string (bs l)] = vst (L ++ [l]) := by simp [vst]
theorem vst_get (L : List (List UInt8)) (i : Nat) (h : i < L.length) : (vst L)[i]? = some (.string (bs (L.getD i []))) := by simp [vst, h]
theorem splitB_spl (c : UInt8) (l : List UInt8) : Lib.countB (bs l) ⟨#[c]⟩ + 1 = (spl c l).length ∧ ((Lib.splitB ⟨#[c]⟩ 0 (Lib.countB (bs l) ⟨#[c]⟩) (bs l)).map Value.string) = vst (spl c l) := by
  have e1 : Lib.countB (bs l) ⟨#[c]⟩ = Lib.count l [c] := by simp [Lib.countB, bs]
  have e2 := Lib.splitB_data ⟨#[c]⟩ 0 (Lib.count l [c]) (bs l)
  have e3 : (bs l).data.toList = l := by simp [bs]
  have e4 : (⟨#[c]⟩ : ByteArray).data.toList = [c] := rfl
  rw [e3, e4, splitK_spl] at e2
  refine ⟨by rw [e1, Lib.count_one, spl_len], ?_⟩
  rw [e1, vst, ← e2, List.map_map]
  refine List.map_congr_left fun x _ => ?_
  simp [bs]
end Go.SW
namespace Go.Proofs.YtgdopjkanibfeaaGreatDoor
open Go.RowKit Go.SW

theorem foff_bd0 : foff Tryz.prog 66 0 = some 0 := by kernel_rfl
theorem foff_bd1 : foff Tryz.prog 66 1 = some 1 := by kernel_rfl
theorem zero_bd : zeroC Tryz.prog 66 = some #[.pointer none, .slice none 0 0] := by kernel_rfl
theorem foff_dk0 : foff Tryz.prog 61 0 = some 0 := by kernel_rfl
theorem foff_dk1 : foff Tryz.prog 61 1 = some 1 := by kernel_rfl
theorem bld_dk (a : Option Addr) (n c : Nat) : buildV Tryz.prog 61 [(0, .slice a n c)] = some (.agg #[.slice a n c, .slice none 0 0]) := by kernel_rfl
attribute [go_sem] foff_bd0 foff_bd1 foff_dk0 foff_dk1 bld_dk

theorem split_c (l : List UInt8) (c : UInt8) (w : World) (hl : l.length ≤ 1000000) : Ret Tryz.prog 39 #[.string (bs l), .string (bs [c])] w fun v w' => ∃ b, v = .slice (some ⟨b, 0, none⟩) (spl c l).length (spl c l).length ∧ Ext w w' ∧ b = w.heap.size ∧ Blk w' b (vst (spl c l)).toArray 9 := by
  have h := split_one Tryz.lays146 (by kernel_rfl) (bs l) c w (by rw [bs_size]; omega)
  obtain ⟨e1, e2⟩ := splitB_spl c l
  rw [e1, e2] at h
  refine Calls.mono h fun e w' ⟨he, hw⟩ => ⟨_, he, _, rfl, ?_, rfl, ?_⟩
  · rw [hw]; exact ext_alloc w _
  · rw [hw]; exact heap_alloc_new w _

theorem cutPrefix_c (l p : List UInt8) (w : World) : Ret Tryz.prog 95 #[.string (bs l), .string (bs p)] w fun v w' => v = .tuple #[.string (bs (Lib.trimPrefix l p)), .bool (Lib.hasPrefix l p)] ∧ Ext w w' := by
  refine Calls.mono (Any.strings_CutPrefix Tryz.lays103 (bs l) (bs p) w) fun e w' ⟨he, hw⟩ => ⟨_, he, ?_, by rw [hw]; exact Ext.refl _⟩
  simp [bs]

theorem bExtra : Builder.Extra Tryz.prog Tryz.lays156_ren := {
  sizeBuilder := by kernel_rfl
  liesBuilder := by kernel_rfl
  t5 := Tryz.underlying5
  a5 := Tryz.isAgg5
  z5 := Tryz.sizeOf5
  v5 := Tryz.zeroValue5
  infoByte := by kernel_rfl
  cellsByte := by kernel_rfl
  sizeByte := by kernel_rfl
  neB5 := by decide }

theorem join_c (b n : Nat) (cp : Nat) (L : List (List UInt8)) (c : UInt8) (w : World) (k : Blk w b (vst L).toArray 9) (hn : n = L.length) (hcp : n ≤ cp) (h1 : L.length ≤ 1000000) (h2 : ∀ l ∈ L, l.length ≤ 1000000) :
    Ret Tryz.prog 138 #[.slice (some ⟨b, 0, none⟩) n cp, .string (bs [c])] w fun v w' => v = .string (bs (jn c L)) ∧ Ext w w' := by
  have hlen := jn_len (c := c) h2
  have hmul : L.length * (1000000 + 1) ≤ 1000000 * 1000001 := Nat.mul_le_mul_right _ h1
  have e0 : (L.map bs).map (fun x => x.data.toList) = L := by
    rw [List.map_map]
    conv => rhs; rw [← List.map_id L]
    exact List.map_congr_left fun x _ => by simp [bs]
  have hj : Lib.join ((L.map bs).map (·.data.toList)) (bs [c]).data.toList = jn c L := by
    rw [e0]
    exact join_jn c L
  have h := Any.strings_Join Tryz.lays156 bExtra b 0 cp (L.map bs) (bs [c]) w
    (fun j x hx => by
      rw [Nat.zero_add, k.cell, List.getElem?_toArray]
      rw [List.getElem?_map] at hx
      simp only [vst, List.getElem?_map]
      cases hL : L[j]? with
      | none => rw [hL] at hx; cases hx
      | some y => rw [hL] at hx; cases hx; rfl)
    k.lt (by simp; omega) (by simpa [hn] using hcp) (by rw [hj]; omega)
  rw [hj, List.length_map, ← hn] at h
  exact Calls.mono h fun e w' ⟨he, hw⟩ => ⟨_, he, rfl, hw⟩

theorem Blk.put {w : World} {b : Nat} {cs : Array Value} {T : TypeId} (o : Blk w b cs T) (i : Nat) (v : Value) : Blk (w.setCell ⟨b, i, none⟩ v) b (cs.setIfInBounds i v) T := by
  unfold Blk at *
  rw [setCell_eq_setRow w b i cs T (0, 0) v o]
  exact setRow_heap w b cs _ T (0, 0) o

theorem copyCheck_c (b : Nat) (p v : Value) (w : World) (k : Blk w b #[p, v] 66) (hp : p = .pointer none ∨ p = .pointer (some ⟨b, 0, none⟩)) :
    Ret Tryz.prog 77 #[.pointer (some ⟨b, 0, none⟩)] w fun u w' => u = .tuple #[] ∧ Grow (some b) w w' ∧ w'.heap.size = w.heap.size ∧ Blk w' b #[.pointer (some ⟨b, 0, none⟩), v] 66 := by
  have h0 : w.cell? ⟨b, 0, none⟩ = some p := by rw [k.cell]; rfl
  rcases hp with rfl | rfl
  · have hsh : w.shape? b = some (66, 2) := by
      have : w.heap[b]? = some (.cells #[.pointer none, v] 66 (0, 0)) := k
      simp [World.shape?, this]
    have g := wrote_setCell w ⟨b, 0, none⟩ (.pointer (some ⟨b, 0, none⟩))
    refine Calls.mono (Any.Builder_copyCheck_fresh { Tryz.lays156 with } bExtra.toX72 b w h0 hsh (k.frozen 0)) fun e w' ⟨he, hw⟩ => ⟨_, he, rfl, ?_, ?_, ?_⟩
    · rw [hw]; exact g.grow
    · rw [hw]; exact g.size
    · rw [hw]; exact Blk.put k 0 _
  · refine Calls.mono (Any.Builder_copyCheck_used { Tryz.lays156 with } bExtra.toX72 b w h0) fun e w' ⟨he, hw⟩ => ⟨_, he, rfl, by rw [hw]; exact Grow.refl _ _, by rw [hw], by rw [hw]; exact k⟩

theorem writeString_c (b : Nat) (l m : List UInt8) (bf : Option Nat) (w : World) (h : Bld w 66 5 b l bf) (hlen : l.length + m.length ≤ 1000000) :
    Ret Tryz.prog 40 #[.pointer (some ⟨b, 0, none⟩), .string (bs m)] w fun v w' => v = .tuple #[.int .i64 m.length, .nilIface] ∧ ∃ bf', Bld w' 66 5 b (l ++ m) bf' ∧ GrowP (fun k => k = b ∨ bf = some k) w w' ∧ ∀ x, bf' = some x → bf = some x ∨ w.heap.size ≤ x := by
  obtain ⟨p, a, c, k, hp, o, hbf, hn⟩ := h
  refine enter2 Tryz.func40 rfl (by kernel_rfl) (of_decide_eq_true (by kernel_rfl)) fun f a0 a1 => ?_
  simp (disch := omega) only [go_sem, Nat.reduceEqDiff, ↓reduceIte, Nat.reduceAdd, a0]
  refine callK_of (by kernel_rfl) (copyCheck_c b p _ _ k hp) ?_
  rintro _ w1 ⟨rfl, g1, s1, k1⟩
  have o1 := o.grow g1 (fun x hx e => by cases e; exact hn (hbf ▸ hx))
  simp (disch := omega) only [go_sem, Nat.reduceEqDiff, ↓reduceIte, Nat.reduceAdd, a0, a1, k1.cell, List.getElem?_toArray, List.getElem?_cons_zero, List.getElem?_cons_succ]
  refine appKs_of elt_b isStr_str o1 m (by omega) fun w2 a2 c2 o2 g2 h2 => ?_
  have k2 := g2.blk k1 (fun e => hn (hbf ▸ e))
  have hb1 : b < w1.heap.size := k1.lt
  have ha2 : blk a2 ≠ some b := fun e => (h2 b e).elim (fun e => hn (hbf ▸ e)) (by omega)
  simp (disch := omega) only [go_sem, Nat.reduceEqDiff, ↓reduceIte, Nat.reduceAdd, a0]
  refine stK_blk siz_b (by rfl) (by rfl) k2 (by simp) fun w3 k3 g3 => ?_
  simp (disch := omega) only [go_sem, Nat.reduceEqDiff, ↓reduceIte, Nat.reduceAdd, a1, Tryz.results40]
  refine ⟨trivial, blk a2, ⟨_, a2, c2, ?_, .inr rfl, ?_, rfl, ha2⟩, ?_, fun x hx => ?_⟩
  · simpa using k3
  · have := o2.grow g3.grow (fun x hx e => ha2 (by cases e; exact hx))
    rw [vb_app] at this
    simpa using this
  · exact ((g1.growP fun x e => .inl (by cases e; rfl)).trans (g2.growP fun x e => .inr (hbf ▸ e))).trans (g3.grow.growP fun x e => .inl (by cases e; rfl))
  · exact (h2 x hx).elim (fun e => .inl (hbf ▸ e)) (fun e => .inr (by omega))

theorem writeByte_c (b : Nat) (l : List UInt8) (x : UInt8) (bf : Option Nat) (w : World) (h : Bld w 66 5 b l bf) (hlen : l.length ≤ 1000000) :
    Ret Tryz.prog 44 #[.pointer (some ⟨b, 0, none⟩), .int .u8 (x.toNat : Nat)] w fun v w' => v = .nilIface ∧ ∃ bf', Bld w' 66 5 b (l ++ [x]) bf' ∧ GrowP (fun k => k = b ∨ bf = some k) w w' ∧ ∀ x, bf' = some x → bf = some x ∨ w.heap.size ≤ x := by
  obtain ⟨p, a, c, k, hp, o, hbf, hn⟩ := h
  refine enter2 Tryz.func44 rfl (by kernel_rfl) (of_decide_eq_true (by kernel_rfl)) fun f a0 a1 => ?_
  simp (disch := omega) only [go_sem, Nat.reduceEqDiff, ↓reduceIte, Nat.reduceAdd, a0]
  refine callK_of (by kernel_rfl) (copyCheck_c b p _ _ k hp) ?_
  rintro _ w1 ⟨rfl, g1, s1, k1⟩
  have o1 := o.grow g1 (fun x hx e => by cases e; exact hn (hbf ▸ hx))
  simp (disch := omega) only [go_sem, Nat.reduceEqDiff, ↓reduceIte, Nat.reduceAdd, a0, a1, k1.cell, List.getElem?_toArray, List.getElem?_cons_zero, List.getElem?_cons_succ]
  refine bslK_1 elt_b rfl fun w1' b1 e1' x1 kb _ => ?_
  have hb1 : b < w1.heap.size := k1.lt
  simp (disch := omega) only [go_sem, Nat.reduceEqDiff, ↓reduceIte, Nat.reduceAdd]
  refine appK_1 elt_b (o1.ext x1) kb rfl (by omega) (.inl (by decide)) fun w2 a2 c2 o2 g2 h2 => ?_
  have k2 := g2.blk (k1.ext x1) (fun e => hn (hbf ▸ e))
  have sx := x1.size
  have ha2 : blk a2 ≠ some b := fun e => (h2 b e).elim (fun e => hn (hbf ▸ e)) (by omega)
  simp (disch := omega) only [go_sem, Nat.reduceEqDiff, ↓reduceIte, Nat.reduceAdd, a0]
  refine stK_blk siz_b (by rfl) (by rfl) k2 (by simp) fun w3 k3 g3 => ?_
  simp (disch := omega) only [go_sem, Nat.reduceEqDiff, ↓reduceIte, Nat.reduceAdd, Tryz.results44]
  refine ⟨trivial, blk a2, ⟨_, a2, c2, ?_, .inr rfl, ?_, rfl, ha2⟩, ?_, fun x hx => ?_⟩
  · simpa using k3
  · have := o2.grow g3.grow (fun x hx e => ha2 (by cases e; exact hx))
    have e : vb l ++ [Value.int .u8 (x.toNat : Nat)] = vb (l ++ [x]) := vb_app l [x]
    rw [e] at this
    simpa using this
  · exact (((g1.growP fun x e => .inl (by cases e; rfl)).trans (x1.growP _)).trans (g2.growP fun x e => .inr (hbf ▸ e))).trans (g3.grow.growP fun x e => .inl (by cases e; rfl))
  · exact (h2 x hx).elim (fun e => .inl (hbf ▸ e)) (fun e => .inr (by omega))

theorem builderString_c (B b : Nat) (l : List UInt8) (bf : Option Nat) (w : World) (h : Bld w 66 5 b l bf) (hB : B ≤ b) (hbf : ∀ x, bf = some x → B ≤ x) (hBw : B ≤ w.heap.size) :
    Ret Tryz.prog 43 #[.pointer (some ⟨b, 0, none⟩)] w fun v w' => v = .string (bs l) ∧ Below B w w' := by
  obtain ⟨p, a, c, k, hp, o, rfl, hn⟩ := h
  have hrow : w.ownsRow B 5 1 (.slice a l.length c) (vb l).length (vb l) := by
    rw [vb_len]
    refine ⟨o.1, ?_⟩
    rcases o.2 with ⟨rfl, h2, rfl⟩ | ⟨g, cur, rfl, hg, hnc, hcm, hs, ht⟩
    · exact .inl ⟨by rw [h2], h2⟩
    · exact .inr ⟨g, c, cur, rfl, hbf g rfl, hg, hnc, hcm, hs, ht⟩
  have hat : ∀ p, Blk w b #[p, .slice a l.length c] 66 → Lib.BuilderAt 66 5 B b p (vb l) w := fun p k => ⟨hB, _, k, hrow, fun e => hn (by cases a with | none => simp [Value.ownBlock] at e | some x => simpa [Value.ownBlock, blk] using e)⟩
  have hi : Lib.IsBuilder 66 5 B b (Lib.byteCells l) w := by
    rcases hp with rfl | rfl
    · exact .inl (hat _ k)
    · exact .inr (hat _ k)
  exact Calls.mono (Any.Builder_String_any { Tryz.lays156 with } bExtra B b l w hi hBw) fun e w' ⟨he, hw⟩ => ⟨_, he, rfl, hw⟩
end Go.Proofs.YtgdopjkanibfeaaGreatDoor
