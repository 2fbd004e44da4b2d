import Derived.Test.YtcbmhjndbpafbaaGreatDoorY1
import Derived.Test.YtcbmhjndbpafbaaGreatDoorZ2
import Derived.Test.YtcbmhjndbpafbaaGreatDoorJ2
set_option linter.all false
set_option maxRecDepth 20000
namespace Go.SW
open Go Go.RowKit
theorem OwnS.blk0 {w : World} {e s n c b : Nat} {xs : List Value} (h : OwnS w e s (Option.some ⟨b, 0, none⟩) n c xs) : ∃ cur, Blk w b cur e ∧ cur.size = c * s ∧ cur.toList.take (n * s) = xs ∧ n ≤ c ∧ c ≤ maxLen := by
 rcases h.2 with ⟨h0, _⟩ | ⟨g, cur, hg, hh, h1, h2, hs, ht⟩
 ·cases h0
 ·simp only [Option.some.injEq, Addr.mk.injEq] at hg
  obtain ⟨rfl, _⟩ := hg
  exact ⟨cur, hh, hs, ht, h1, h2⟩
theorem OwnS.of_set {w : World} {e s n c b i : Nat} {v : Value} {xs : List Value} {cur : Array Value} (k : Blk w b (cur.setIfInBounds i v) e) (hs : cur.size = c * s) (ht : cur.toList.take (n * s) = xs) (h1 : n ≤ c) (h2 : c ≤ maxLen) : OwnS w e s (Option.some ⟨b, 0, none⟩) n c (xs.set i v) := by
 refine ⟨?_, .inr ⟨b, _, rfl, k, h1, h2, by simpa using hs, ?_⟩⟩
 ·rw [← ht, List.length_set, List.length_take]
  have := Nat.mul_le_mul_right s h1
  simp; omega
 ·rw [Array.toList_setIfInBounds, List.take_set, ht]
theorem lcl_set2 (s : Lb) (T : List Lb) (x : Int) : (lcl (s :: T)).set 2 (.int .i64 x) = lcl (⟨s.x, s.y, x, s.v⟩ :: T) := by simp [lcl, lcs]
theorem lcl_set0 (s : Lb) (T : List Lb) (x : Int) : (lcl (s :: T)).set 0 (.int .i64 x) = lcl (⟨x, s.y, s.w, s.v⟩ :: T) := by simp [lcl, lcs]
theorem vi_cell' {w : World} {b : Nat} {l : List Int} {T : TypeId} (k : Blk w b (vi l).toArray T) {i : Nat} (h : i < l.length) : w.cell? ⟨b, i, none⟩ = some (.int .i64 (l.getD i 0)) := by
 rw [k.cell]; simp [vi, h]
end Go.SW
namespace Go.Proofs.YtcbmhjndbpafbaaGreatDoor
open Go.RowKit Go.SW
theorem elt_L2 : elt Tryz.prog 33 = some (41, 4, .agg #[.int .i64 0, .int .i64 0, .int .i64 0, .int .i64 0], 32) := by kernel_rfl
theorem bld_L2 (a b c d : Int) : buildV Tryz.prog 41 [(0, .int .i64 a), (1, .int .i64 b), (2, .int .i64 c), (3, .int .i64 d)] = some (.agg #[.int .i64 a, .int .i64 b, .int .i64 c, .int .i64 d]) := by kernel_rfl
attribute [local go_sem] bld_L2
set_option maxHeartbeats 1000000 in
theorem l92Labels_c (rb B lim : Nat) (w : World) (hr : Rdr w rb B lim) (hB : B ≤ w.heap.size) (hl : lim ≤ 1000) :
  Ret Tryz.prog 47 #[.pointer (some ⟨rb, 0, none⟩), .int .i64 4] w fun v w' => ∃ (L : List Lb) (a : Option Addr) (c : Nat), v = .slice a L.length c ∧ L.length ≤ 6 ∧ L.length ≤ c ∧ LabS w' a L ∧ (∀ b, blk a = some b → b < w'.heap.size) ∧ Grow (some rb) w w' := by
 have hrb := hr.below
 refine enter2 Tryz.func47 rfl (by kernel_rfl) (of_decide_eq_true (by kernel_rfl)) fun f a0 a1 => ?_
 simp (disch := omega) only [go_sem, a0, a1]
 refine bslK_0 elt_L2 fun w0 b0 e0 x0 o0 s0 => ?_
 have o0 : OwnS w0 41 4 (some ⟨b0, 0, none⟩) ([] : List Lb).length 0 (lcl []) := by simpa [lcl] using o0
 have r := hr.ext x0
 simp (disch := omega) only [go_sem, a0, a1]
 refine callK_of (by kernel_rfl) (pick_c rb B _ 5 _ r (by omega) (by omega)) ?_
 rintro _ w1 ⟨n, rfl, hn, g1, r⟩
 simp (disch := omega) only [go_sem, a0]
 refine callK_of (by kernel_rfl) (pick_c rb B _ 6 _ r (by omega) (by omega)) ?_
 rintro _ w2 ⟨x, rfl, hx, g2, r⟩
 simp (disch := omega) only [go_sem, a0]
 refine callK_of (by kernel_rfl) (pick_c rb B _ 6 _ r (by omega) (by omega)) ?_
 rintro _ w3 ⟨y, rfl, hy, g3, r⟩
 have gw := (((x0.grow (some rb)).trans g1).trans g2).trans g3
 have s3 := gw.size
 have o3 := ((o0.grow g1 (fun b hb => by cases hb; simp [blk]; omega)).grow g2 (fun b hb => by cases hb; simp [blk]; omega)).grow g3 (fun b hb => by cases hb; simp [blk]; omega)
 simp (disch := omega) only [go_sem, a0]
 refine loopN n (fun k f W => f 0 = .pointer (some ⟨rb, 0, none⟩) ∧ f 6 = .int .i64 n ∧ f 7 = .int .i64 x ∧ f 8 = .int .i64 y ∧ f 9 = .int .i64 k ∧ Grow (some rb) w W ∧ Rdr W rb B (lim + 3 + 4 * k) ∧ ∃ (L : List Lb) (a : Option Addr) (c : Nat), f 5 = .slice a L.length c ∧ L.length ≤ k ∧ OwnS W 41 4 a L.length c (lcl L) ∧ ∀ b, blk a = some b → w.heap.size ≤ b) ⟨uu, uu, uu, uu, uu, gw, r, [], _, _, uu, by simp, o3, fun b hb => by simp [blk] at hb; omega⟩ fun k f W hk ⟨a0, a6, a7, a8, a9, gw, r, L, a, c, a5, hLk, o, hbl⟩ => ?_
 ·skip
  have hn5 : n ≤ 5 := by omega
  by_cases hkn : (k : Int) < n
  ·have sW := gw.size
   simp (disch := omega) only [go_sem, a9, a6, hkn]
   refine bslK_0 elt_L2 fun w4 b4 e4 x4 o4 s4 => ?_
   have o4 : OwnS w4 41 4 (some ⟨b4, 0, none⟩) ([] : List Lb).length 0 (lcl []) := by simpa [lcl] using o4
   simp (disch := omega) only [go_sem, a5]
   refine appK_L elt_L2 (by omega) o4 c ((o.ext x4).labs (by omega)) (by simp) fun w5 a5' c5 o5 g5 h5 => ?_
   rw [List.nil_append] at o5
   have x5 : Ext W w5 := g5.ext x4 fun b hb => by simp only [blk_some, Option.some.injEq] at hb; omega
   have s5 := x5.size
   have h5' : ∀ b, blk a5' = some b → W.heap.size ≤ b := fun b hb => (h5 b hb).elim (fun h => by simp only [blk_some, Option.some.injEq] at h; omega) fun h => by have := x4.size; omega
   have r := r.ext x5
   simp (disch := omega) only [go_sem, a0, a7, List.nil_append]
   refine callK_of (by kernel_rfl) (pick_c rb B _ 5 _ r (by omega) (by omega)) ?_
   rintro _ w6 ⟨p1, rfl, hp1, g6, r⟩
   simp (disch := omega) only [go_sem, a0, a8]
   refine callK_of (by kernel_rfl) (pick_c rb B _ 4 _ r (by omega) (by omega)) ?_
   rintro _ w7 ⟨p2, rfl, hp2, g7, r⟩
   simp (disch := omega) only [go_sem, a0]
   refine callK_of (by kernel_rfl) (pick_c rb B _ 5 _ r (by omega) (by omega)) ?_
   rintro _ w8 ⟨p3, rfl, hp3, g8, r⟩
   simp (disch := omega) only [go_sem, a0]
   refine callK_of (by kernel_rfl) (pick_c rb B _ 4 _ r (by omega) (by omega)) ?_
   rintro _ w9 ⟨p4, rfl, hp4, g9, r⟩
   simp (disch := omega) only [go_sem, a0]
   have o9 := (((o5.grow g6 (fun b hb e => by cases e; have := h5' _ hb; omega)).grow g7 (fun b hb e => by cases e; have := h5' _ hb; omega)).grow g8 (fun b hb e => by cases e; have := h5' _ hb; omega)).grow g9 (fun b hb e => by cases e; have := h5' _ hb; omega)
   refine bslK_L (s := ⟨_, _, _, _⟩) elt_L2 fun w10 b10 e10 x10 o10 s10 => ?_
   simp (disch := omega) only [go_sem]
   have g59 := (((g6.trans g7).trans g8).trans g9)
   have s9 := g59.size
   have s10' := x10.size
   refine appK_L (M := [⟨_, _, _, _⟩]) elt_L2 (by omega) (o9.ext x10) 1 (OwnS.labs (L := [_]) o10 (by simp)) (by omega) fun w11 a11 c11 o11 g11 h11 => ?_
   have b11 : ∀ b, blk a11 = some b → w.heap.size ≤ b := fun b hb => (h11 b hb).elim (fun h => by have := h5' b h; omega) fun h => by omega
   have G : Grow (some rb) w w11 := (((gw.trans (x5.grow _)).trans g59).trans (x10.grow _)).fresh g11 fun b hb => by have := h5' b hb; omega
   have r11 := (r.ext x10).fresh g11 fun b hb => by have := h5' b hb; omega
   have s11 := g11.size
   simp (disch := omega) only [go_sem]
   refine callK_pure (by kernel_rfl) (specLabelsValid_c a11 _ c11 _ (o11.labs (by simp; omega)) o11.le_cap) fun w12 x12 => ?_
   have G := G.trans (x12.grow _)
   have r12 := (r11.ext x12).le (lim' := lim + 3 + 4 * (k + 1)) (by omega)
   have s12 := x12.size
   generalize hM : L ++ [⟨((x : Int) + p1) % 10, ((y : Int) + p2) % 10, 1 + (p3 : Int), 1 + (p4 : Int)⟩] = M at o11 ⊢
   have hMl : M.length ≤ k + 1 := by rw [← hM]; simp; omega
   cases hlv : lvalid M with
   | true =>
    simp (disch := omega) only [go_sem, a9]
    exact ⟨by omega, uu, uu, uu, uu, uu, G, r12, M, a11, c11, uu, hMl, o11.ext x12, b11⟩
   | false =>
    simp (disch := omega) only [go_sem, a9]
    have hne : ∀ b, blk a = some b → some rb ≠ some b := fun b hb e => by cases e; have := hbl _ hb; omega
    have oL := ((((((o.ext x5).grow g6 hne).grow g7 hne).grow g8 hne).grow g9 hne).ext x10).grow g11 (fun b hb e => by have := h5' b e; have := o.blk_lt hb; omega)
    have oL := oL.ext x12
    exact ⟨by omega, uu, uu, uu, uu, uu, G, r12, L, a, c, uu, by omega, oL, hbl⟩
  ·have ek : k = n := by omega
   have sW := gw.size
   have hlab := o.labs (by omega : L.length ≤ 1000)
   have hblt : ∀ b, blk a = some b → b < W.heap.size := fun b hb => o.blk_lt hb
   have hcap := o.le_cap
   by_cases h0 : (0 : Int) < L.length
   ·simp (disch := omega) only [go_sem, a9, a6, hkn, a5, h0, a0]
    refine callK_of (by kernel_rfl) (pick_c rb B _ 40 _ r (by omega) (by omega)) ?_
    rintro _ w4 ⟨p, rfl, hp, g4, r⟩
    have s4 := g4.size
    have hne : ∀ b, blk a = some b → some rb ≠ some b := fun b hb e => by cases e; have := hbl _ hb; omega
    have o4 := o.grow g4 hne
    have gw4 := gw.trans g4
    by_cases p0 : p = 0
    ·have e : ((p : Int) == 0) = true := by rw [p0]; rfl
     simp (disch := omega) only [go_sem, e]
     refine bslK_n (vi [0, 6]) elt_i (by simp [vi, Value.cells]) rfl (by omega) (by omega) rfl fun w5 b5 e5 x5 k5 _ => ?_
     simp (disch := omega) only [go_sem, a0]
     refine callK_of (by kernel_rfl) (pick_c rb B _ 2 _ (r.ext x5) (by omega) (by omega)) ?_
     rintro _ w6 ⟨q, rfl, hq, g6, r⟩
     have k6 := g6.blk k5 (by simp; omega)
     have hc : w6.cell? ⟨b5, q, none⟩ = some (.int .i64 (([0, 6] : List Int).getD q 0)) := vi_cell' k6 (by simp; omega)
     have o6 := (o4.ext x5).grow g6 hne
     obtain ⟨ab, rfl⟩ := o6.some (by omega)
     obtain ⟨cur, kb, hcs, htk, hn1, hn2⟩ := o6.blk0
     have habl := hbl ab rfl
     simp (disch := omega) only [go_sem, a5, hc]
     refine stK_blk siz_int (by rfl) (by rfl) kb (by omega) fun w7 kb g7 => ?_
     obtain ⟨s, T, rfl⟩ := List.exists_cons_of_ne_nil (l := L) (by intro e; rw [e] at h0; simp at h0)
     have o7 := OwnS.of_set kb hcs htk hn1 hn2
     rw [lcl_set2] at o7
     simp (disch := omega) only [go_sem, a5, Tryz.results47]
     exact ⟨⟨s.x, s.y, ([0, 6] : List Int).getD q 0, s.v⟩ :: T, _, c, rfl, (show (s :: T).length ≤ 6 by omega), hcap, OwnS.labs (L := ⟨s.x, s.y, ([0, 6] : List Int).getD q 0, s.v⟩ :: T) o7 (show (s :: T).length ≤ 1000 by omega), fun b hb => o7.blk_lt hb, ((gw4.trans (x5.grow _)).trans g6).fresh g7.grow fun b hb => by cases hb; exact habl⟩
    by_cases p1 : p = 1
    ·have e : ((p : Int) == 0) = false := by rw [p1]; rfl
     have e1 : ((p : Int) == 1) = true := by rw [p1]; rfl
     simp (disch := omega) only [go_sem, e, e1]
     refine bslK_n (vi [-1, 10]) elt_i (by simp [vi, Value.cells]) rfl (by omega) (by omega) rfl fun w5 b5 e5 x5 k5 _ => ?_
     simp (disch := omega) only [go_sem, a0]
     refine callK_of (by kernel_rfl) (pick_c rb B _ 2 _ (r.ext x5) (by omega) (by omega)) ?_
     rintro _ w6 ⟨q, rfl, hq, g6, r⟩
     have k6 := g6.blk k5 (by simp; omega)
     have hc : w6.cell? ⟨b5, q, none⟩ = some (.int .i64 (([-1, 10] : List Int).getD q 0)) := vi_cell' k6 (by simp; omega)
     have o6 := (o4.ext x5).grow g6 hne
     obtain ⟨ab, rfl⟩ := o6.some (by omega)
     obtain ⟨cur, kb, hcs, htk, hn1, hn2⟩ := o6.blk0
     have habl := hbl ab rfl
     simp (disch := omega) only [go_sem, a5, hc]
     refine stK_blk siz_int (by rfl) (by rfl) kb (by omega) fun w7 kb g7 => ?_
     obtain ⟨s, T, rfl⟩ := List.exists_cons_of_ne_nil (l := L) (by intro e; rw [e] at h0; simp at h0)
     have o7 := OwnS.of_set kb hcs htk hn1 hn2
     rw [lcl_set0] at o7
     simp (disch := omega) only [go_sem, a5, Tryz.results47]
     exact ⟨⟨([-1, 10] : List Int).getD q 0, s.y, s.w, s.v⟩ :: T, _, c, rfl, (show (s :: T).length ≤ 6 by omega), hcap, OwnS.labs (L := ⟨([-1, 10] : List Int).getD q 0, s.y, s.w, s.v⟩ :: T) o7 (show (s :: T).length ≤ 1000 by omega), fun b hb => o7.blk_lt hb, ((gw4.trans (x5.grow _)).trans g6).fresh g7.grow fun b hb => by cases hb; exact habl⟩
    by_cases p2 : p = 2
    ·have e : ((p : Int) == 0) = false := by rw [p2]; rfl
     have e1 : ((p : Int) == 1) = false := by rw [p2]; rfl
     have e2 : ((p : Int) == 2) = true := by rw [p2]; rfl
     obtain ⟨ab, rfl⟩ := o4.some (by omega)
     have hlb := o4.labs (by omega)
     have hrd : ∀ {V}, Ext w4 V → readCells V ⟨ab, 0 + 0 * 4, none⟩ 4 = some [.int .i64 (L.getD 0 lb0).x, .int .i64 (L.getD 0 lb0).y, .int .i64 (L.getD 0 lb0).w, .int .i64 (L.getD 0 lb0).v] := fun x => (hlb.ext x).read (by omega)
     simp only [Nat.zero_mul, Nat.add_zero] at hrd
     simp (disch := omega) only [go_sem, e, e1, e2, a5, hrd (Ext.refl _)]
     refine bslK_L (s := L.getD 0 lb0) elt_L2 fun w5 b5 e5 x5 o5 s5 => ?_
     simp (disch := omega) only [go_sem]
     refine appK_L (M := [L.getD 0 lb0]) elt_L2 (by omega) (o4.ext x5) 1 (OwnS.labs (L := [_]) o5 (by simp)) (by omega) fun w6 a6 c6 o6 g6 h6 => ?_
     simp (disch := omega) only [go_sem, Tryz.results47]
     exact ⟨L ++ [L.getD 0 lb0], a6, c6, by simp, by simp; omega, o6.le_cap, OwnS.labs o6 (by simp; omega), fun b hb => o6.blk_lt hb, (gw4.trans (x5.grow _)).fresh g6 fun b hb => hbl b hb⟩
    ·have e : ((p : Int) == 0) = false := by simp; omega
     have e1 : ((p : Int) == 1) = false := by simp; omega
     have e2 : ((p : Int) == 2) = false := by simp; omega
     simp (disch := omega) only [go_sem, e, e1, e2, a5, Tryz.results47]
     exact ⟨L, a, c, rfl, by omega, hcap, o4.labs (by omega), fun b hb => o4.blk_lt hb, gw4⟩
   ·simp (disch := omega) only [go_sem, a9, a6, hkn, a5, h0, Tryz.results47]
    exact ⟨L, a, c, rfl, by omega, hcap, hlab, hblt, gw⟩
theorem drawSettingBest_c (a : Option Addr) (l : List Int) (c : Nat) (w : World) (hl : l.length ≤ c) (hc : c ≤ maxLen) (hs : ByteS w a l) :
  Ret Tryz.prog 20 #[.slice a l.length c] w fun v w' => ∃ (L : List Lb) (a : Option Addr) (c : Nat), v = .slice a L.length c ∧ L.length ≤ 6 ∧ L.length ≤ c ∧ LabS w' a L ∧ (∀ b, blk a = some b → b < w'.heap.size) ∧ Ext w w' := by
 refine enter1 Tryz.func20 rfl (by kernel_rfl) (of_decide_eq_true (by kernel_rfl)) fun f a0 => ?_
 simp (disch := omega) only [go_sem, a0]
 refine callK_of (by kernel_rfl) (l6Open_c _ _ _ _ hl hc hs) ?_
 rintro _ w1 ⟨rb, rfl, x1, hrb, r1, e1⟩
 simp (disch := omega) only [go_sem]
 refine callK_of (by kernel_rfl) (l92Labels_c rb _ _ _ r1 (by omega) (by omega)) ?_
 rintro _ w2 ⟨L, a, c, rfl, h1, h2, h3, h4, g2⟩
 simp (disch := omega) only [go_sem, Tryz.results20]
 exact ⟨L, a, c, rfl, h1, h2, h3, h4, g2.ext x1 fun b hb => by simp at hb; omega⟩
end Go.Proofs.YtcbmhjndbpafbaaGreatDoor
