import Derived.Test.YtcbmhjndbpafbaaGreatDoorZ8
set_option linter.all false
set_option maxRecDepth 20000
namespace Go.Proofs.YtcbmhjndbpafbaaGreatDoor
open Go.RowKit Go.SW
theorem of_c (rb B lim b : Nat) (L : List (List UInt8)) (w : World) (hr : Rdr w rb B lim) (hl : lim ≤ 1000000) (k : Blk w b (vst L).toArray 9) (h1 : 1 ≤ L.length) (h2 : L.length ≤ 1000) (hb : rb ≠ b) :
  Ret Tryz.prog 61 #[.pointer (some ⟨rb, 0, none⟩), .slice (some ⟨b, 0, none⟩) L.length L.length] w fun v w' => ∃ l, l ∈ L ∧ v = .string (bs l) ∧ Grow (some rb) w w' ∧ Rdr w' rb B (lim + 1) := by
 refine enter2 Tryz.func61 rfl fun f a0 a1 => ?_
 simp (disch := omega) only [go_sem, a0, a1]
 refine callK_of ke (pick_c rb B lim L.length _ hr om om) ?_
 rintro _ w1 ⟨p, rfl, hp, g1, r1⟩
 have hp' : p < L.length := om
 have hc := vst_cell (g1.blk k (by simpa using hb)) hp'
 simp (disch := omega) only [go_sem, hc, Tryz.results61]
 exact ⟨_, getD_mem hp', rfl, g1, r1⟩
theorem l6Many_c (s : List UInt8) (hs : s.length ≤ 10) (w : World) : Ret Tryz.prog 29 #[.string (bs s), .int .i64 130] w fun v w' => ∃ l : List UInt8, v = .string (bs l) ∧ l.length ≤ 10000 ∧ Ext w w' := by
 refine enter2 Tryz.func29 rfl fun f a0 a1 => ?_
 simp (disch := omega) only [go_sem]
 refine loopN 130 (fun k f W => Ext w W ∧ ∃ (s o : List UInt8) (n : Nat), f 0 = .string (bs s) ∧ f 5 = .string (bs o) ∧ f 1 = .int .i64 n ∧ n + k ≤ 130 ∧ s.length * n + o.length ≤ 1300) ⟨Ext.refl _, s, [], 130, uu, uu, uu, om, by simp; omega⟩ fun k f W hk ⟨xw, s, o, n, a0, a5, a1, hn, hlen⟩ => ?_
 by_cases h0 : (0 : Int) < n
 ·have hs1 : s.length ≤ s.length * n := Nat.le_mul_of_pos_right _ om
  have e1 : binV Tryz.prog .add 9 (.string (bs o)) (.string (bs s)) = some (.string (bs (o ++ s))) := bin_adds _ _ om
  have e2 : binV Tryz.prog .add 9 (.string (bs s)) (.string (bs s)) = some (.string (bs (s ++ s))) := bin_adds _ _ om
  have e3 : (n : Int) / 2 = ((n / 2 : Nat) : Int) := rfl
  have e4 : (n : Int) % 2 = ((n % 2 : Nat) : Int) := rfl
  have hm : s.length * n = s.length * (n % 2) + s.length * 2 * (n / 2) := by
   conv => lhs; rw [← Nat.mod_add_div n 2]
   rw [Nat.mul_add, Nat.mul_assoc]
  have hl2 : (s ++ s).length * (n / 2) = s.length * 2 * (n / 2) := by rw [List.length_append, Nat.mul_two]
  by_cases hodd : n % 2 = 1
  ·have t : (((n % 2 : Nat) : Int) == 1) = true := by rw [hodd]; rfl
   rw [hodd] at hm
   simp (disch := omega) only [go_sem, a1, h0, e4, t, a0, a5, e1, e2, e3]
   exact ⟨om, xw, s ++ s, o ++ s, n / 2, uu, uu, uu, om, by rw [hl2, List.length_append]; omega⟩
  ·have t : (((n % 2 : Nat) : Int) == 1) = false := by simp; omega
   have hodd' : n % 2 = 0 := om
   rw [hodd'] at hm
   simp (disch := omega) only [go_sem, a1, h0, e4, t, a0, e2, e3]
   exact ⟨by first | trivial | omega, xw, s ++ s, o, n / 2, uu, uu, uu, om, by rw [hl2]; omega⟩
 ·simp (disch := omega) only [go_sem, a1, h0, a5, Tryz.results29]
  exact ⟨o, rfl, om, xw⟩
def ask9 : List (List UInt8) := [[], [122, 122, 122], [103, 114, 105, 100], [103, 114, 105, 100, 32], [103, 114, 105, 100, 32, 55], [114, 117, 110, 32, 49], [108, 97, 110, 100, 32, 120], [115, 104, 111, 119, 32, 49], [110, 97, 109, 101, 32, 49, 32, 50, 32, 51]]
def ask4 : List (List UInt8) := [[116, 117, 114, 110], [109, 105, 114, 114, 111, 114], [105, 110, 118, 101, 114, 116], [102, 105, 108, 108]]
def ask4' : List (List UInt8) := [[115, 104, 111, 119], [112, 101, 97, 107, 115], [109, 97, 112], [115, 104, 111, 119]]
set_option maxHeartbeats 1000000 in
theorem l92Words_c (rb B lim : Nat) (w : World) (hr : Rdr w rb B lim) (hB : B ≤ w.heap.size) (hl : lim ≤ 100000) :
  Ret Tryz.prog 28 #[.pointer (some ⟨rb, 0, none⟩)] w fun v w' => ∃ l : List UInt8, v = .string (bs l) ∧ l.length ≤ 1000 ∧ Grow (some rb) w w' ∧ Rdr w' rb B (lim + 40) := by
 have hrb := hr.below
 refine enter1 Tryz.func28 rfl fun f a0 => ?_
 simp (disch := omega) only [go_sem, a0]
 refine callK_of ke (pick_c rb B lim 5 _ hr om om) ?_
 rintro _ w1 ⟨k1, rfl, hk1, g1, r⟩
 have d1 := dec_len2 (n := k1) om
 simp (disch := omega) only [go_sem]
 refine callK_pure ke (l6Dec_c k1 om _) fun w2 x2 => ?_
 simp (disch := first | omega | (simp only [List.length_append, List.length_cons, List.length_nil]; omega)) only [go_sem, a0]
 refine callK_of ke (pick_c rb B _ 5 _ (r.ext x2) om om) ?_
 rintro _ w3 ⟨k2, rfl, hk2, g3, r⟩
 have d2 := dec_len2 (n := k2) om
 simp (disch := omega) only [go_sem]
 refine callK_pure ke (l6Dec_c k2 om _) fun w4 x4 => ?_
 have r := r.ext x4
 have G := ((g1.trans (x2.grow _)).trans g3).trans (x4.grow _)
 have sz := G.size
 generalize dec k1 = t1 at *
 generalize dec k2 = t2 at *
 simp (disch := first | omega | (simp only [List.length_append, List.length_cons, List.length_nil]; omega)) only [go_sem, a0]
 refine callK_of ke (pick_c rb B _ 12 _ r om om) ?_
 rintro _ w5 ⟨p, rfl, hp, g5, r⟩
 have G := G.trans g5
 have sz := G.size
 have hp : (p : Int) = 0 ∨ (p : Int) = 1 ∨ (p : Int) = 2 ∨ (p : Int) = 3 ∨ (p : Int) = 4 ∨ (p : Int) = 5 ∨ (p : Int) = 6 ∨ (p : Int) = 7 ∨ (p : Int) = 8 ∨ (p : Int) = 9 ∨ (p : Int) = 10 ∨ (p : Int) = 11 := om
 generalize (p : Int) = q at hp ⊢
 have two : (32 :: t1 ++ [32] ++ t2).length ≤ 6 := by simp; omega
 generalize 32 :: t1 ++ [32] ++ t2 = t at two ⊢
 clear x2 x4 g1 g3 hr g5
 rcases hp with rfl | rfl | rfl | rfl | rfl | rfl | rfl | rfl | rfl | rfl | rfl | rfl
 iterate 2
  ·simp (disch := omega) only [go_sem, a0, Int.reduceBEq]
   refine callK_of ke (pick_c rb B _ 4 _ r om om) ?_
   rintro _ w6 ⟨m, rfl, hm, g6, r⟩
   simp (disch := omega) only [go_sem, a0]
   refine callK_of ke (pick_c rb B _ 4 _ r om om) ?_
   rintro _ w7 ⟨n, rfl, hn, g7, r⟩
   have G := (G.trans g6).trans g7
   have sz := G.size
   have em : (1 : Int) + (m : Int) = ((m + 1 : Nat) : Int) := om
   have en : (1 : Int) + (n : Int) = ((n + 1 : Nat) : Int) := om
   have hmn : (m + 1) * (n + 1) ≤ 4 * 4 := Nat.mul_le_mul om om
   simp (disch := omega) only [go_sem, em, en]
   refine callK_of ke (l91Rough_c rb B _ (m + 1) (n + 1) _ r om om om om om om) ?_
   rintro _ w8 ⟨a, c, rows, A, Cp, rfl, d, g8, r⟩
   simp (disch := omega) only [go_sem]
   refine callK_pure ke (specGridText_c _ _ _ _ _ _ (d.at om)) fun w9 x9 => ?_
   have hg : (if gvalid rows then gtext rows else []).length ≤ 147 := by
    split
    ·rename_i h; exact ((gvalid_iff rows).1 h).gt_len
    ·simp
   generalize (if gvalid rows then gtext rows else []) = t' at hg ⊢
   simp (disch := first | omega | (simp only [List.length_append, List.length_cons, List.length_nil]; omega)) only [go_sem, Tryz.results28]
   exact ⟨_, rfl, by simp; omega, (G.trans g8).trans (x9.grow _), (r.ext x9).le om⟩
 ·simp (disch := first | omega | (simp only [List.length_append, List.length_cons, List.length_nil]; omega)) only [go_sem, a0, Int.reduceBEq]
  refine callK_of ke (pick_c rb B _ 102 _ r om om) ?_
  rintro _ w6 ⟨m, rfl, hm, g6, r⟩
  have dm := dec_len m
  simp (disch := omega) only [go_sem]
  refine callK_pure ke (l6Dec_c m om _) fun w7 x7 => ?_
  simp (disch := first | omega | (simp only [List.length_append, List.length_cons, List.length_nil]; omega)) only [go_sem, Tryz.results28]
  exact ⟨_, rfl, by simp; omega, (G.trans g6).trans (x7.grow _), (r.ext x7).le om⟩
 ·simp (disch := omega) only [go_sem, a0, Int.reduceBEq]
  refine bslK_n (vst ask4) elt_s (by simp [vst, ask4, Value.cells]) rfl om om rfl fun w6 b6 e6 x6 k6 _ => ?_
  simp (disch := omega) only [go_sem]
  refine callK_of ke (of_c rb B _ b6 ask4 _ (r.ext x6) om k6 dc dc om) ?_
  rintro _ w7 ⟨l, hl', rfl, g7, r⟩
  simp (disch := omega) only [go_sem, Tryz.results28]
  have hll : ∀ l ∈ ask4, l.length ≤ 10 := by decide
  have := hll l hl'
  exact ⟨l, rfl, om, (G.trans (x6.grow _)).trans g7, r.le om⟩
 ·simp (disch := first | omega | (simp only [List.length_append, List.length_cons, List.length_nil]; omega)) only [go_sem, Int.reduceBEq, Tryz.results28]
  exact ⟨_, rfl, by simp; omega, G, r.le om⟩
 ·simp (disch := first | omega | (simp only [List.length_append, List.length_cons, List.length_nil]; omega)) only [go_sem, a0, Int.reduceBEq]
  refine callK_of ke (pick_c rb B _ 8 _ r om om) ?_
  rintro _ w6 ⟨m, rfl, hm, g6, r⟩
  have dm := dec_len m
  simp (disch := omega) only [go_sem]
  refine callK_pure ke (l6Dec_c m om _) fun w7 x7 => ?_
  simp (disch := first | omega | (simp only [List.length_append, List.length_cons, List.length_nil]; omega)) only [go_sem, Tryz.results28]
  exact ⟨_, rfl, by simp; omega, (G.trans g6).trans (x7.grow _), (r.ext x7).le om⟩
 ·simp (disch := first | omega | (simp only [List.length_append, List.length_cons, List.length_nil]; omega)) only [go_sem, a0, Int.reduceBEq]
  refine callK_of ke (pick_c rb B _ 5 _ r om om) ?_
  rintro _ w6 ⟨m, rfl, hm, g6, r⟩
  have dm := dec_len m
  simp (disch := omega) only [go_sem]
  refine callK_pure ke (l6Dec_c m om _) fun w7 x7 => ?_
  simp (disch := first | omega | (simp only [List.length_append, List.length_cons, List.length_nil]; omega)) only [go_sem, Tryz.results28]
  exact ⟨_, rfl, by simp; omega, (G.trans g6).trans (x7.grow _), (r.ext x7).le om⟩
 iterate 2
  ·simp (disch := first | omega | (simp only [List.length_append, List.length_cons, List.length_nil]; omega)) only [go_sem, a0, Int.reduceBEq]
   refine callK_of ke (pick_c rb B _ 5 _ r om om) ?_
   rintro _ w6 ⟨m, rfl, hm, g6, r⟩
   have dm := dec_len (m + 1)
   have em : (1 : Int) + (m : Int) = ((m + 1 : Nat) : Int) := om
   simp (disch := omega) only [go_sem, em]
   refine callK_pure ke (l6Dec_c (m + 1) om _) fun w7 x7 => ?_
   simp (disch := first | omega | (simp only [List.length_append, List.length_cons, List.length_nil]; omega)) only [go_sem, a0]
   refine callK_of ke (pick_c rb B _ 9 _ (r.ext x7) om om) ?_
   rintro _ w8 ⟨n, rfl, hn, g8, r⟩
   have dn := dec_len (n + 1)
   have en : (1 : Int) + (n : Int) = ((n + 1 : Nat) : Int) := om
   simp (disch := omega) only [go_sem, en]
   refine callK_pure ke (l6Dec_c (n + 1) om _) fun w9 x9 => ?_
   simp (disch := first | omega | (simp only [List.length_append, List.length_cons, List.length_nil]; omega)) only [go_sem, Tryz.results28]
   exact ⟨_, rfl, by simp; omega, ((G.trans g6).trans (x7.grow _)).trans (g8.trans (x9.grow _)), (r.ext x9).le om⟩
 ·simp (disch := first | omega | (simp only [List.length_append, List.length_cons, List.length_nil]; omega)) only [go_sem, Int.reduceBEq, Tryz.results28]
  exact ⟨_, rfl, by simp; omega, G, r.le om⟩
 ·simp (disch := omega) only [go_sem, a0, Int.reduceBEq]
  refine bslK_n (vst ask9) elt_s (by simp [vst, ask9, Value.cells]) rfl om om rfl fun w6 b6 e6 x6 k6 _ => ?_
  simp (disch := omega) only [go_sem]
  refine callK_of ke (of_c rb B _ b6 ask9 _ (r.ext x6) om k6 dc dc om) ?_
  rintro _ w7 ⟨l, hl', rfl, g7, r⟩
  simp (disch := omega) only [go_sem, Tryz.results28]
  have hll : ∀ l ∈ ask9, l.length ≤ 10 := by decide
  have := hll l hl'
  exact ⟨l, rfl, om, (G.trans (x6.grow _)).trans g7, r.le om⟩
 ·simp (disch := omega) only [go_sem, a0, Int.reduceBEq]
  refine bslK_n (vst ask4') elt_s (by simp [vst, ask4', Value.cells]) rfl om om rfl fun w6 b6 e6 x6 k6 _ => ?_
  simp (disch := omega) only [go_sem]
  refine callK_of ke (of_c rb B _ b6 ask4' _ (r.ext x6) om k6 dc dc om) ?_
  rintro _ w7 ⟨l, hl', rfl, g7, r⟩
  simp (disch := omega) only [go_sem, Tryz.results28]
  have hll : ∀ l ∈ ask4', l.length ≤ 10 := by decide
  have := hll l hl'
  exact ⟨l, rfl, om, (G.trans (x6.grow _)).trans g7, r.le om⟩
theorem drawExecute_c (a : Option Addr) (l : List Int) (c : Nat) (w : World) (hl : l.length ≤ c) (hc : c ≤ maxLen) (hs : ByteS w a l) :
  Ret Tryz.prog 9 #[.slice a l.length c] w fun v w' => ∃ l : List UInt8, v = .string (bs l) ∧ l.length ≤ 100000 ∧ Ext w w' := by
 refine enter1 Tryz.func9 rfl fun f a0 => ?_
 simp (disch := omega) only [go_sem, a0]
 refine callK_of ke (l6Open_c _ _ _ _ hl hc hs) ?_
 rintro _ w1 ⟨rb, rfl, x1, hrb, r, e1⟩
 simp (disch := omega) only [go_sem]
 refine callK_of ke (pick_c rb _ _ 12 _ r om om) ?_
 rintro _ w2 ⟨n, rfl, hn, g2, r⟩
 have s2 := g2.size
 have hw : ∀ {W : World}, Grow (some rb) w1 W → Ext w W := fun g => g.ext x1 fun b hb => by simp at hb; omega
 simp (disch := omega) only [go_sem]
 refine loopN n (fun k f W => f 3 = .pointer (some ⟨rb, 0, none⟩) ∧ f 5 = .int .i64 n ∧ f 6 = .int .i64 k ∧ (∃ s : List UInt8, f 4 = .string (bs s) ∧ s.length ≤ 1001 * k) ∧ Grow (some rb) w1 W ∧ Rdr W rb (rb + 1) (1 + 40 * k)) ⟨uu, uu, uu, ⟨[], uu, by simp⟩, g2, r⟩ fun k f W hk ⟨a3, a5, a6, ⟨s, a4, hsl⟩, g, r⟩ => ?_
 have sW := g.size
 by_cases hlt : (k : Int) < (n : Int)
 ·simp (disch := omega) only [go_sem, a6, a5, a4, hlt, a3]
  refine callK_of ke (l92Words_c rb _ _ _ r om om) ?_
  rintro _ w3 ⟨t, rfl, ht, g3, r⟩
  simp (disch := first | omega | (simp only [List.length_append, List.length_cons, List.length_nil]; omega)) only [go_sem, a6]
  exact ⟨om, uu, uu, uu, ⟨s ++ t ++ [10], uu, by simp; omega⟩, g.trans g3, r.le om⟩
 ·simp (disch := omega) only [go_sem, a6, a5, hlt, a3]
  refine callK_of ke (pick_c rb _ _ 24 _ r om om) ?_
  rintro _ w3 ⟨p, rfl, hp, g3, r⟩
  have g := g.trans g3
  by_cases p0 : p = 0
  ·have e : ((p : Int) == 0) = true := by rw [p0]; rfl
   simp (disch := first | omega | (simp only [List.length_append, List.length_cons, List.length_nil]; omega)) only [go_sem, e, a4, Tryz.results9]
   exact ⟨_, rfl, by simp; omega, hw g⟩
  have e : ((p : Int) == 0) = false := by simp [p0]
  by_cases p1 : p = 1
  ·have e1 : ((p : Int) == 1) = true := by rw [p1]; rfl
   simp (disch := omega) only [go_sem, e, e1, a4]
   refine callK_of ke (l6Many_c [115, 104, 111, 119, 10] dc _) ?_
   rintro _ w4 ⟨t, rfl, ht, x4⟩
   simp (disch := omega) only [go_sem, Tryz.results9]
   exact ⟨s ++ t, rfl, by rw [List.length_append]; omega, hw (g.trans (x4.grow _))⟩
  ·have e1 : ((p : Int) == 1) = false := by simp; omega
   simp (disch := omega) only [go_sem, e, e1, a4, Tryz.results9]
   exact ⟨s, rfl, om, hw g⟩
end Go.Proofs.YtcbmhjndbpafbaaGreatDoor
