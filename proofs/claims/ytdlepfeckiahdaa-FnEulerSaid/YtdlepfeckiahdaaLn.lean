/- Contract: the reference's numbers of regions. -/
import Derived.Test.YtdlepfeckiahdaaM6
import Derived.Test.YtdlepfeckiahdaaLr
set_option linter.all false
namespace Go.Proofs.Ytdlepfeckiahdaa
open Go.RowKit Go.SW
attribute [local irreducible] callK bslK

theorem l3Numbers_c (gb go gc : Nat) (rb ro rc : Nat → Nat) (R C : Nat) (h : Nat → Int) (lv : Int) (w : World) (hg : GridAt w gb go rb ro rc R C h) (g : Gd R C h) :
    Ret Try.prog 80 #[.slice (some ⟨gb, go, none⟩) R gc, .int .i64 lv] w fun v w' => ∃ a c, v = .tuple #[.slice a (R * C) c, .int .i64 (compN (nearN R C) (landB h lv) (R * C) : Nat)] ∧
      OwnS w' 3 1 a (R * C) c (vi ((List.range (R * C)).map (numOf (nearN R C) (landB h lv) (R * C)))) ∧ (∀ b, blk a = some b → w.heap.size ≤ b) ∧ Ext w w' := by
  have hn49 := g.le
  have hpos := g.pos
  have hnb : ∀ i, i < R * C → ∀ j ∈ nearN R C i, j < R * C := fun i hi => nearN_lt hi
  have hsym : ∀ i j, i < R * C → j < R * C → j ∈ nearN R C i → i ∈ nearN R C j := fun i j hi hj h => (near_sym hi hj).1 h
  have hr1 := g.r1
  have hr7 := g.r7
  have hc7 := g.c7
  refine enter2 Try.func80 rfl (by kernel_rfl) (of_decide_eq_true (by kernel_rfl)) fun f a0 a1 => ?_
  simp (disch := omega) only [go_sem, Nat.reduceEqDiff, ↓reduceIte, Nat.reduceAdd, a0, a1]
  refine bslK_0 elt_i fun w1 b1 e1 x1 o1 _ => ?_
  have s1 := x1.size
  simp (disch := omega) only [go_sem, Nat.reduceEqDiff, ↓reduceIte, Nat.reduceAdd]
  refine loopN (R * C) (fun k f W => f 0 = .slice (some ⟨gb, go, none⟩) R gc ∧ f 1 = .int .i64 lv ∧ f 7 = .int .i64 k ∧ (∃ a c, f 6 = .slice a k c ∧ OwnS W 3 1 a k c (vi ((List.range k).map fun _ => -1)) ∧ ∀ b, blk a = some b → w.heap.size ≤ b) ∧ Ext w W) ⟨(by first | assumption | (simp only [upd_apply, Nat.reduceEqDiff, ↓reduceIte] <;> first | rfl | assumption) | simp [upd_apply, *]), (by first | assumption | (simp only [upd_apply, Nat.reduceEqDiff, ↓reduceIte] <;> first | rfl | assumption) | simp [upd_apply, *]), (by first | assumption | (simp only [upd_apply, Nat.reduceEqDiff, ↓reduceIte] <;> first | rfl | assumption) | simp [upd_apply, *]), ⟨_, _, (by first | assumption | (simp only [upd_apply, Nat.reduceEqDiff, ↓reduceIte] <;> first | rfl | assumption) | simp [upd_apply, *]), by simpa [vi] using o1, fun b hb => by simp [blk] at hb; omega⟩, x1⟩ fun k f W hk ⟨a0, a1, a7, ⟨a, c, a6, oW, fW⟩, xW⟩ => ?_
  simp (disch := omega) only [go_sem, Nat.reduceEqDiff, ↓reduceIte, Nat.reduceAdd, a0, a7]
  refine callK_pure (by kernel_rfl) (l2Cells_c gb go gc rb ro rc R C h _ (hg.ext xW) hr1 hr7 hc7) fun w2 x2 => ?_
  by_cases hlt : (k : Int) < (R * C : Nat)
  · simp (disch := omega) only [go_sem, Nat.reduceEqDiff, ↓reduceIte, Nat.reduceAdd, a6, a7, hlt]
    refine bslK_1 elt_i rfl fun w3 b3 e3 x3 k3 _ => ?_
    simp (disch := omega) only [go_sem, Nat.reduceEqDiff, ↓reduceIte, Nat.reduceAdd]
    refine appK_1 elt_i ((oW.ext x2).ext x3) k3 rfl (by omega) (.inl (by decide)) fun w4 a4 c4 o4 g4 h4 => ?_
    simp (disch := omega) only [go_sem, Nat.reduceEqDiff, ↓reduceIte, Nat.reduceAdd, a7]
    refine ⟨by omega, (by first | assumption | (simp only [upd_apply, Nat.reduceEqDiff, ↓reduceIte] <;> first | rfl | assumption) | simp [upd_apply, *]), (by first | assumption | (simp only [upd_apply, Nat.reduceEqDiff, ↓reduceIte] <;> first | rfl | assumption) | simp [upd_apply, *]), (by first | assumption | (simp only [upd_apply, Nat.reduceEqDiff, ↓reduceIte] <;> first | rfl | assumption) | simp [upd_apply, *]), ⟨a4, c4, (by first | assumption | (simp only [upd_apply, Nat.reduceEqDiff, ↓reduceIte] <;> first | rfl | assumption) | simp [upd_apply, *]), ?_, fun b hb => ?_⟩, g4.ext ((xW.trans x2).trans x3) fW⟩
    · rw [vi_snoc] at o4
      simpa [List.range_succ] using o4
    · rcases h4 b hb with h | h
      · exact fW b h
      · have := xW.size; have := x2.size; have := x3.size; omega
  obtain rfl : k = R * C := by omega
  have e0 : (List.range (R * C)).map (fun _ => (-1 : Int)) = (List.range (R * C)).map (numTo (nearN R C) (landB h lv) (R * C) 0) := List.map_congr_left fun j _ => (numTo_zero j).symm
  rw [e0] at oW
  simp (disch := omega) only [go_sem, Nat.reduceEqDiff, ↓reduceIte, Nat.reduceAdd, a6, a7, hlt]
  refine loopN (R * C) (fun k f V => f 0 = .slice (some ⟨gb, go, none⟩) R gc ∧ f 1 = .int .i64 lv ∧ f 6 = .slice a (R * C) c ∧ f 8 = .int .i64 (cntp (rootB (nearN R C) (landB h lv) (R * C)) k : Nat) ∧ f 9 = .int .i64 k ∧ OwnS V 3 1 a (R * C) c (vi ((List.range (R * C)).map (numTo (nearN R C) (landB h lv) (R * C) k))) ∧ Ext w V) ⟨(by first | assumption | (simp only [upd_apply, Nat.reduceEqDiff, ↓reduceIte] <;> first | rfl | assumption) | simp [upd_apply, *]), (by first | assumption | (simp only [upd_apply, Nat.reduceEqDiff, ↓reduceIte] <;> first | rfl | assumption) | simp [upd_apply, *]), (by first | assumption | (simp only [upd_apply, Nat.reduceEqDiff, ↓reduceIte] <;> first | rfl | assumption) | simp [upd_apply, *]), by simp [upd_apply, cntp], (by first | assumption | (simp only [upd_apply, Nat.reduceEqDiff, ↓reduceIte] <;> first | rfl | assumption) | simp [upd_apply, *]), oW.ext x2, xW.trans x2⟩ fun k f V hk ⟨a0, a1, a6, a8, a9, oV, xV⟩ => ?_
  obtain ⟨ob, rfl⟩ := oW.some hpos
  have hob : w.heap.size ≤ ob := fW ob rfl
  by_cases hlt : (k : Int) < (R * C : Nat)
  · have hkn : k < R * C := by omega
    have ck : V.cell? ⟨ob, k, none⟩ = some (.int .i64 (numTo (nearN R C) (landB h lv) (R * C) k k)) := by rw [oV.cell (by omega), vi_rangeI_get _ hkn]
    have hcnt := cntp_le (rootB (nearN R C) (landB h lv) (R * C)) k
    have u := rep_ok (act := landB h lv) hnb
    have hle := u.le k hkn
    by_cases hge : 0 ≤ numTo (nearN R C) (landB h lv) (R * C) k k
    · have hno : ¬ (landB h lv k = true ∧ repF (nearN R C) (landB h lv) (R * C) k = k) := fun hh => by
        have := (numTo_neg (nb := nearN R C) (act := landB h lv) (n := R * C) k k).2 (fun h' => by omega)
        omega
      have e1 : (List.range (R * C)).map (numTo (nearN R C) (landB h lv) (R * C) k) = (List.range (R * C)).map (numTo (nearN R C) (landB h lv) (R * C) (k + 1)) := List.map_congr_left fun j hj => (numTo_skip hnb hkn hno (List.mem_range.1 hj)).symm
      have hs := root_skip hno
      simp (disch := omega) only [go_sem, Nat.reduceEqDiff, ↓reduceIte, Nat.reduceAdd, a6, a9, hlt, ck, hge]
      exact ⟨hkn, (by first | assumption | (simp only [upd_apply, Nat.reduceEqDiff, ↓reduceIte] <;> first | rfl | assumption) | simp [upd_apply, *]), (by first | assumption | (simp only [upd_apply, Nat.reduceEqDiff, ↓reduceIte] <;> first | rfl | assumption) | simp [upd_apply, *]), (by first | assumption | (simp only [upd_apply, Nat.reduceEqDiff, ↓reduceIte] <;> first | rfl | assumption) | simp [upd_apply, *]), by simp [upd_apply, hs, a8], (by first | assumption | (simp only [upd_apply, Nat.reduceEqDiff, ↓reduceIte] <;> first | rfl | assumption) | simp [upd_apply, *]), by rw [← e1]; exact oV, xV⟩
    · have hnr := (numTo_neg (nb := nearN R C) (act := landB h lv) (n := R * C) k k).1 (by omega)
      have hki : ((k : Nat) : Int).toNat = k := by omega
      simp (disch := omega) only [go_sem, Nat.reduceEqDiff, ↓reduceIte, Nat.reduceAdd, a0, a1, a6, a9, hlt, ck, hge]
      refine callK_pure (by kernel_rfl) (l2Height_c gb go gc rb ro rc R C h _ (hg.ext xV) hr7 hc7 (k : Int) (by omega) (by omega)) fun w5 x5 => ?_
      by_cases hlow : h k < lv
      · have hno : ¬ (landB h lv k = true ∧ repF (nearN R C) (landB h lv) (R * C) k = k) := fun hh => by
          have := hh.1; simp [landB] at this; omega
        have e1 : (List.range (R * C)).map (numTo (nearN R C) (landB h lv) (R * C) k) = (List.range (R * C)).map (numTo (nearN R C) (landB h lv) (R * C) (k + 1)) := List.map_congr_left fun j hj => (numTo_skip hnb hkn hno (List.mem_range.1 hj)).symm
        have hs := root_skip hno
        simp (disch := omega) only [go_sem, Nat.reduceEqDiff, ↓reduceIte, Nat.reduceAdd, a1, a9, hki, hlow]
        exact ⟨hkn, (by first | assumption | (simp only [upd_apply, Nat.reduceEqDiff, ↓reduceIte] <;> first | rfl | assumption) | simp [upd_apply, *]), (by first | assumption | (simp only [upd_apply, Nat.reduceEqDiff, ↓reduceIte] <;> first | rfl | assumption) | simp [upd_apply, *]), (by first | assumption | (simp only [upd_apply, Nat.reduceEqDiff, ↓reduceIte] <;> first | rfl | assumption) | simp [upd_apply, *]), by simp [upd_apply, hs, a8], (by first | assumption | (simp only [upd_apply, Nat.reduceEqDiff, ↓reduceIte] <;> first | rfl | assumption) | simp [upd_apply, *]), by rw [← e1]; exact oV.ext x5, xV.trans x5⟩
      · have hact : landB h lv k = true := by simp [landB]; omega
        have hroot : landB h lv k = true ∧ repF (nearN R C) (landB h lv) (R * C) k = k := ⟨hact, by
          by_cases e : repF (nearN R C) (landB h lv) (R * C) k = k
          · exact e
          · exact absurd ⟨hact, by omega⟩ hnr⟩
        simp (disch := omega) only [go_sem, Nat.reduceEqDiff, ↓reduceIte, Nat.reduceAdd, a1, a6, a8, a9, hki, hlow]
        refine stK_own siz_int (by rfl) (by rfl) (oV.ext x5) (by omega) fun w6 o6 g6 => ?_
        have b0 := Bfs.one (nb := nearN R C) hkn hroot
        have hset := vi_rangeI_set (n := R * C) (x := k) (f := numTo (nearN R C) (landB h lv) (R * C) k) (g := numIn (nearN R C) (landB h lv) (R * C) k [k]) (y := ((cntp (rootB (nearN R C) (landB h lv) (R * C)) k : Nat) : Int)) hkn (by simp [numIn]) (fun j hj hne => by simp [numIn, hne])
        rw [hset] at o6
        have x6 : Ext w w6 := g6.ext (xV.trans x5) hob
        simp (disch := omega) only [go_sem, Nat.reduceEqDiff, ↓reduceIte, Nat.reduceAdd, a9]
        refine bslK_1 elt_i rfl fun w7 b7 e7 x7 k7 _ => ?_
        have s6 := x6.size
        have o7 := o6.ext x7
        have obl := o6.blk_lt (b := ob) rfl
        have l7 : OwnS w7 3 1 (some ⟨b7, 0, none⟩) 1 1 (vi (ni [k])) := by
          have := OwnS.of_blk (e := 3) (n := 1) (s := 1) k7 (by simp) (by simp [maxLen])
          simpa [vi, ni] using this
        simp (disch := omega) only [go_sem, Nat.reduceEqDiff, ↓reduceIte, Nat.reduceAdd]
        refine loopN (R * C) (fun p f V => f 0 = .slice (some ⟨gb, go, none⟩) R gc ∧ f 1 = .int .i64 lv ∧ f 6 = .slice (some ⟨ob, 0, none⟩) (R * C) c ∧ f 8 = .int .i64 (cntp (rootB (nearN R C) (landB h lv) (R * C)) k : Nat) ∧ f 9 = .int .i64 k ∧ f 11 = .int .i64 p ∧ Ext w V ∧
          ∃ l : List Nat, p ≤ l.length ∧ Bfs (nearN R C) (landB h lv) (R * C) k l ∧ ClosedTo (nearN R C) (landB h lv) l p ∧ OwnS V 3 1 (some ⟨ob, 0, none⟩) (R * C) c (vi ((List.range (R * C)).map (numIn (nearN R C) (landB h lv) (R * C) k l))) ∧
            ∃ la lc, f 10 = .slice la l.length lc ∧ OwnS V 3 1 la l.length lc (vi (ni l)) ∧ ∀ b, blk la = some b → w.heap.size ≤ b ∧ b ≠ ob) ⟨(by first | assumption | (simp only [upd_apply, Nat.reduceEqDiff, ↓reduceIte] <;> first | rfl | assumption) | simp [upd_apply, *]), (by first | assumption | (simp only [upd_apply, Nat.reduceEqDiff, ↓reduceIte] <;> first | rfl | assumption) | simp [upd_apply, *]), (by first | assumption | (simp only [upd_apply, Nat.reduceEqDiff, ↓reduceIte] <;> first | rfl | assumption) | simp [upd_apply, *]), by simp [upd_apply, a8], (by first | assumption | (simp only [upd_apply, Nat.reduceEqDiff, ↓reduceIte] <;> first | rfl | assumption) | simp [upd_apply, *]), (by first | assumption | (simp only [upd_apply, Nat.reduceEqDiff, ↓reduceIte] <;> first | rfl | assumption) | simp [upd_apply, *]), x6.trans x7, [k], by simp, b0, fun k' x h1 => by omega, o7, _, _, (by first | assumption | (simp only [upd_apply, Nat.reduceEqDiff, ↓reduceIte] <;> first | rfl | assumption) | simp [upd_apply, *]), l7, fun b hb => by simp [blk] at hb; omega⟩ fun p f V hp ⟨a0, a1, a6, a8, a9, a11, xV, l, hpl, bl, cl, oV, la, lc, a10, ol, fl⟩ => ?_
        have hll := bl.len
        by_cases hlp : (p : Int) < (l.length : Int)
        · have hpl' : p < l.length := by omega
          obtain ⟨lb, rfl⟩ := ol.some (by omega)
          have hx : l[p]? = some (l.getD p 0) := by rw [getD_at _ _ hpl']; exact List.getElem?_eq_getElem hpl'
          have hxl : l.getD p 0 ∈ l := getD_mem hpl'
          have hxn := (bl.mem _ hxl).1
          have cx : V.cell? ⟨lb, p, none⟩ = some (.int .i64 (l.getD p 0 : Nat)) := by rw [ol.cell (by omega), vi_get _ _ (by rw [ni_len]; omega), ni_get _ hpl']
          generalize l.getD p 0 = x at *
          simp (disch := omega) only [go_sem, Nat.reduceEqDiff, ↓reduceIte, Nat.reduceAdd, a0, a10, a11, hlp, cx]
          refine callK_of (by kernel_rfl) (l2Near_c gb go gc rb ro rc R C h _ (hg.ext xV) hr7 hc7 x hxn) ?_
          rintro _ w8 ⟨na, nc, rfl, no, nn, x8⟩
          have hn4 := nearN_len R C x
          have sV := xV.size
          have obV := oV.blk_lt (b := ob) rfl
          have lbV := ol.blk_lt (b := lb) rfl
          simp (disch := omega) only [go_sem, Nat.reduceEqDiff, ↓reduceIte, Nat.reduceAdd]
          refine loopN (nearN R C x).length (fun m f V => f 0 = .slice (some ⟨gb, go, none⟩) R gc ∧ f 1 = .int .i64 lv ∧ f 6 = .slice (some ⟨ob, 0, none⟩) (R * C) c ∧ f 8 = .int .i64 (cntp (rootB (nearN R C) (landB h lv) (R * C)) k : Nat) ∧ f 9 = .int .i64 k ∧ f 11 = .int .i64 p ∧ f 12 = .slice na (nearN R C x).length nc ∧ f 13 = .int .i64 m ∧ Ext w V ∧ OwnS V 3 1 na (nearN R C x).length nc (vi (ni (nearN R C x))) ∧
            ∃ l : List Nat, p < l.length ∧ l[p]? = some x ∧ x ∈ l ∧ Bfs (nearN R C) (landB h lv) (R * C) k l ∧ ClosedTo (nearN R C) (landB h lv) l p ∧ (∀ j ∈ (nearN R C x).take m, landB h lv j = true → j ∈ l) ∧ OwnS V 3 1 (some ⟨ob, 0, none⟩) (R * C) c (vi ((List.range (R * C)).map (numIn (nearN R C) (landB h lv) (R * C) k l))) ∧
              ∃ la lc, f 10 = .slice la l.length lc ∧ OwnS V 3 1 la l.length lc (vi (ni l)) ∧ ∀ b, blk la = some b → w.heap.size ≤ b ∧ b ≠ ob ∧ blk na ≠ some b) ⟨(by first | assumption | (simp only [upd_apply, Nat.reduceEqDiff, ↓reduceIte] <;> first | rfl | assumption) | simp [upd_apply, *]), (by first | assumption | (simp only [upd_apply, Nat.reduceEqDiff, ↓reduceIte] <;> first | rfl | assumption) | simp [upd_apply, *]), (by first | assumption | (simp only [upd_apply, Nat.reduceEqDiff, ↓reduceIte] <;> first | rfl | assumption) | simp [upd_apply, *]), (by first | assumption | (simp only [upd_apply, Nat.reduceEqDiff, ↓reduceIte] <;> first | rfl | assumption) | simp [upd_apply, *]), (by first | assumption | (simp only [upd_apply, Nat.reduceEqDiff, ↓reduceIte] <;> first | rfl | assumption) | simp [upd_apply, *]), (by first | assumption | (simp only [upd_apply, Nat.reduceEqDiff, ↓reduceIte] <;> first | rfl | assumption) | simp [upd_apply, *]), (by first | assumption | (simp only [upd_apply, Nat.reduceEqDiff, ↓reduceIte] <;> first | rfl | assumption) | simp [upd_apply, *]), (by first | assumption | (simp only [upd_apply, Nat.reduceEqDiff, ↓reduceIte] <;> first | rfl | assumption) | simp [upd_apply, *]), xV.trans x8, no, l, hpl', hx, hxl, bl, cl, fun j hj => by simp at hj, oV.ext x8, _, _, (by first | assumption | (simp only [upd_apply, Nat.reduceEqDiff, ↓reduceIte] <;> first | rfl | assumption) | simp [upd_apply, *]), ol.ext x8, fun b hb => ⟨(fl b hb).1, (fl b hb).2, fun e => by have := nn b e; simp [blk] at hb; omega⟩⟩ fun m f V hm ⟨a0, a1, a6, a8, a9, a11, a12, a13, xV, nV, l, hpl, hx, hxl, bl, cl, hm', oV, la, lc, a10, ol, fl⟩ => ?_
          have hll := bl.len
          by_cases hlm : (m : Int) < (nearN R C x).length
          · have hml : m < (nearN R C x).length := by omega
            obtain ⟨nb, rfl⟩ := nV.some (by omega)
            have hjm : (nearN R C x).getD m 0 ∈ nearN R C x := getD_mem hml
            have hjn := hnb x hxn _ hjm
            have cj : V.cell? ⟨nb, m, none⟩ = some (.int .i64 ((nearN R C x).getD m 0 : Nat)) := by rw [nV.cell (by omega), vi_get _ _ (by rw [ni_len]; omega), ni_get _ hml]
            have htk : (nearN R C x).take (m + 1) = (nearN R C x).take m ++ [(nearN R C x).getD m 0] := by rw [List.take_succ_eq_append_getElem hml, getD_at _ _ hml]
            generalize (nearN R C x).getD m 0 = j at *
            have co : V.cell? ⟨ob, j, none⟩ = some (.int .i64 (numIn (nearN R C) (landB h lv) (R * C) k l j)) := by rw [oV.cell (by omega), vi_rangeI_get _ hjn]
            have hneg := fun ha => numIn_neg (act := landB h lv) hnb bl hxl hjm ha
            by_cases hng : numIn (nearN R C) (landB h lv) (R * C) k l j < 0
            · simp (disch := omega) only [go_sem, Nat.reduceEqDiff, ↓reduceIte, Nat.reduceAdd, a0, a1, a6, a12, a13, hlm, cj, co, hng]
              have hji : ((j : Nat) : Int).toNat = j := by omega
              refine callK_pure (by kernel_rfl) (l2Height_c gb go gc rb ro rc R C h _ (hg.ext xV) hr7 hc7 (j : Int) (by omega) (by omega)) fun w9 x9 => ?_
              by_cases hhi : lv ≤ h j
              · have ha : landB h lv j = true := by simp [landB, hhi]
                have hjl := (hneg ha).1 hng
                have cj9 := x9.cell cj
                simp (disch := omega) only [go_sem, Nat.reduceEqDiff, ↓reduceIte, Nat.reduceAdd, a1, a6, a8, a12, a13, hji, hhi, cj9]
                refine stK_own siz_int (by rfl) (by rfl) (oV.ext x9) (by omega) fun w10 o10 g10 => ?_
                have n10 := (nV.ext x9).grow g10.grow (fun b hb e => by have h1 := nn nb rfl; simp [blk] at hb; simp at e; omega)
                have l10 := (ol.ext x9).grow g10.grow (fun b hb e => by cases e; exact (fl ob hb).2.1 rfl)
                have cj10 : w10.cell? ⟨nb, m, none⟩ = some (.int .i64 (j : Nat)) := by
                  have := g10.grow.cell cj9 (by intro e; have h1 := nn nb rfl; simp at e; omega)
                  exact this
                have hset := vi_rangeI_set (n := R * C) (x := j) (f := numIn (nearN R C) (landB h lv) (R * C) k l) (g := numIn (nearN R C) (landB h lv) (R * C) k (l ++ [j])) (y := ((cntp (rootB (nearN R C) (landB h lv) (R * C)) k : Nat) : Int)) hjn (by simp [numIn]) (fun y hy hne => by simp [numIn, hne])
                rw [hset] at o10
                have x10 : Ext w w10 := g10.ext (xV.trans x9) hob
                simp (disch := omega) only [go_sem, Nat.reduceEqDiff, ↓reduceIte, Nat.reduceAdd, a10, a12, a13, cj10]
                refine bslK_1 elt_i rfl fun w11 b11 e11 x11 k11 _ => ?_
                simp (disch := omega) only [go_sem, Nat.reduceEqDiff, ↓reduceIte, Nat.reduceAdd]
                refine appK_1 elt_i (l10.ext x11) k11 rfl (by omega) (.inl (by decide)) fun w12 a12' c12 o12 g12 h12 => ?_
                have s10 := x10.size
                have s11 := x11.size
                have n11 := (n10.ext x11).blk_lt (b := nb) rfl
                have o11 := (o10.ext x11).blk_lt (b := ob) rfl
                simp (disch := omega) only [go_sem, Nat.reduceEqDiff, ↓reduceIte, Nat.reduceAdd, a13]
                have hbl := bl.push hnb hxl hjm ha hjl
                refine ⟨hml, (by first | assumption | (simp only [upd_apply, Nat.reduceEqDiff, ↓reduceIte] <;> first | rfl | assumption) | simp [upd_apply, *]), (by first | assumption | (simp only [upd_apply, Nat.reduceEqDiff, ↓reduceIte] <;> first | rfl | assumption) | simp [upd_apply, *]), (by first | assumption | (simp only [upd_apply, Nat.reduceEqDiff, ↓reduceIte] <;> first | rfl | assumption) | simp [upd_apply, *]), (by first | assumption | (simp only [upd_apply, Nat.reduceEqDiff, ↓reduceIte] <;> first | rfl | assumption) | simp [upd_apply, *]), (by first | assumption | (simp only [upd_apply, Nat.reduceEqDiff, ↓reduceIte] <;> first | rfl | assumption) | simp [upd_apply, *]), (by first | assumption | (simp only [upd_apply, Nat.reduceEqDiff, ↓reduceIte] <;> first | rfl | assumption) | simp [upd_apply, *]), (by first | assumption | (simp only [upd_apply, Nat.reduceEqDiff, ↓reduceIte] <;> first | rfl | assumption) | simp [upd_apply, *]), (by first | assumption | (simp only [upd_apply, Nat.reduceEqDiff, ↓reduceIte] <;> first | rfl | assumption) | simp [upd_apply, *]), g12.ext (x10.trans x11) (fun b hb => (fl b hb).1), (n10.ext x11).grow g12 (fun b hb e => (fl b e).2.2 hb), l ++ [j], by simp; omega, by rw [List.getElem?_append_left hpl]; exact hx, by simp [hxl], hbl, cl.push (by omega) j, fun y hy hya => ?_, (o10.ext x11).grow g12 (fun b hb e => (fl b e).2.1 (by cases hb; rfl)), a12', c12, by simp [upd_apply], ?_, fun b hb => ?_⟩
                · rw [htk] at hy
                  rcases List.mem_append.1 hy with h1 | h1
                  · exact List.mem_append_left _ (hm' y h1 hya)
                  · exact List.mem_append_right _ h1
                · rw [← vi_ni_snoc l _ _ rfl]; simpa using o12
                · rcases h12 b hb with h1 | h1
                  · exact fl b h1
                  · exact ⟨by omega, by omega, fun e => by simp [blk] at e; omega⟩
              · have ha : landB h lv j = false := by simp [landB]; omega
                simp (disch := omega) only [go_sem, Nat.reduceEqDiff, ↓reduceIte, Nat.reduceAdd, a1, a13, hji, hhi]
                refine ⟨hml, (by first | assumption | (simp only [upd_apply, Nat.reduceEqDiff, ↓reduceIte] <;> first | rfl | assumption) | simp [upd_apply, *]), (by first | assumption | (simp only [upd_apply, Nat.reduceEqDiff, ↓reduceIte] <;> first | rfl | assumption) | simp [upd_apply, *]), (by first | assumption | (simp only [upd_apply, Nat.reduceEqDiff, ↓reduceIte] <;> first | rfl | assumption) | simp [upd_apply, *]), (by first | assumption | (simp only [upd_apply, Nat.reduceEqDiff, ↓reduceIte] <;> first | rfl | assumption) | simp [upd_apply, *]), (by first | assumption | (simp only [upd_apply, Nat.reduceEqDiff, ↓reduceIte] <;> first | rfl | assumption) | simp [upd_apply, *]), (by first | assumption | (simp only [upd_apply, Nat.reduceEqDiff, ↓reduceIte] <;> first | rfl | assumption) | simp [upd_apply, *]), (by first | assumption | (simp only [upd_apply, Nat.reduceEqDiff, ↓reduceIte] <;> first | rfl | assumption) | simp [upd_apply, *]), (by first | assumption | (simp only [upd_apply, Nat.reduceEqDiff, ↓reduceIte] <;> first | rfl | assumption) | simp [upd_apply, *]), xV.trans x9, nV.ext x9, l, hpl, hx, hxl, bl, cl, fun y hy hya => ?_, oV.ext x9, la, lc, (by first | assumption | (simp only [upd_apply, Nat.reduceEqDiff, ↓reduceIte] <;> first | rfl | assumption) | simp [upd_apply, *]), ol.ext x9, fl⟩
                rw [htk] at hy
                rcases List.mem_append.1 hy with h1 | h1
                · exact hm' y h1 hya
                · rw [List.mem_singleton] at h1; subst h1; rw [ha] at hya; cases hya
            · simp (disch := omega) only [go_sem, Nat.reduceEqDiff, ↓reduceIte, Nat.reduceAdd, a6, a12, a13, hlm, cj, co, hng]
              refine ⟨hml, (by first | assumption | (simp only [upd_apply, Nat.reduceEqDiff, ↓reduceIte] <;> first | rfl | assumption) | simp [upd_apply, *]), (by first | assumption | (simp only [upd_apply, Nat.reduceEqDiff, ↓reduceIte] <;> first | rfl | assumption) | simp [upd_apply, *]), (by first | assumption | (simp only [upd_apply, Nat.reduceEqDiff, ↓reduceIte] <;> first | rfl | assumption) | simp [upd_apply, *]), (by first | assumption | (simp only [upd_apply, Nat.reduceEqDiff, ↓reduceIte] <;> first | rfl | assumption) | simp [upd_apply, *]), (by first | assumption | (simp only [upd_apply, Nat.reduceEqDiff, ↓reduceIte] <;> first | rfl | assumption) | simp [upd_apply, *]), (by first | assumption | (simp only [upd_apply, Nat.reduceEqDiff, ↓reduceIte] <;> first | rfl | assumption) | simp [upd_apply, *]), (by first | assumption | (simp only [upd_apply, Nat.reduceEqDiff, ↓reduceIte] <;> first | rfl | assumption) | simp [upd_apply, *]), (by first | assumption | (simp only [upd_apply, Nat.reduceEqDiff, ↓reduceIte] <;> first | rfl | assumption) | simp [upd_apply, *]), xV, nV, l, hpl, hx, hxl, bl, cl, fun y hy hya => ?_, oV, la, lc, (by first | assumption | (simp only [upd_apply, Nat.reduceEqDiff, ↓reduceIte] <;> first | rfl | assumption) | simp [upd_apply, *]), ol, fl⟩
              rw [htk] at hy
              rcases List.mem_append.1 hy with h1 | h1
              · exact hm' y h1 hya
              · rw [List.mem_singleton] at h1; subst h1
                by_cases hjl : y ∈ l
                · exact hjl
                · exact absurd ((hneg hya).2 hjl) hng
          · obtain rfl : m = (nearN R C x).length := by omega
            rw [List.take_length] at hm'
            simp (disch := omega) only [go_sem, Nat.reduceEqDiff, ↓reduceIte, Nat.reduceAdd, a11, a12, a13, hlm]
            exact ⟨by omega, (by first | assumption | (simp only [upd_apply, Nat.reduceEqDiff, ↓reduceIte] <;> first | rfl | assumption) | simp [upd_apply, *]), (by first | assumption | (simp only [upd_apply, Nat.reduceEqDiff, ↓reduceIte] <;> first | rfl | assumption) | simp [upd_apply, *]), (by first | assumption | (simp only [upd_apply, Nat.reduceEqDiff, ↓reduceIte] <;> first | rfl | assumption) | simp [upd_apply, *]), (by first | assumption | (simp only [upd_apply, Nat.reduceEqDiff, ↓reduceIte] <;> first | rfl | assumption) | simp [upd_apply, *]), (by first | assumption | (simp only [upd_apply, Nat.reduceEqDiff, ↓reduceIte] <;> first | rfl | assumption) | simp [upd_apply, *]), (by first | assumption | (simp only [upd_apply, Nat.reduceEqDiff, ↓reduceIte] <;> first | rfl | assumption) | simp [upd_apply, *]), xV, l, by omega, bl, cl.step hx hm', oV, la, lc, (by first | assumption | (simp only [upd_apply, Nat.reduceEqDiff, ↓reduceIte] <;> first | rfl | assumption) | simp [upd_apply, *]), ol, fun b hb => ⟨(fl b hb).1, (fl b hb).2.1⟩⟩
        · obtain rfl : p = l.length := by omega
          have hall := cl.all
          have e1 : (List.range (R * C)).map (numIn (nearN R C) (landB h lv) (R * C) k l) = (List.range (R * C)).map (numTo (nearN R C) (landB h lv) (R * C) (k + 1)) := List.map_congr_left fun j hj => numIn_end hnb hsym bl hall (List.mem_range.1 hj)
          rw [e1] at oV
          have hs := root_take hroot
          simp (disch := omega) only [go_sem, Nat.reduceEqDiff, ↓reduceIte, Nat.reduceAdd, a8, a9, a10, a11, hlp]
          exact ⟨hkn, (by first | assumption | (simp only [upd_apply, Nat.reduceEqDiff, ↓reduceIte] <;> first | rfl | assumption) | simp [upd_apply, *]), (by first | assumption | (simp only [upd_apply, Nat.reduceEqDiff, ↓reduceIte] <;> first | rfl | assumption) | simp [upd_apply, *]), (by first | assumption | (simp only [upd_apply, Nat.reduceEqDiff, ↓reduceIte] <;> first | rfl | assumption) | simp [upd_apply, *]), by simp [upd_apply, hs], (by first | assumption | (simp only [upd_apply, Nat.reduceEqDiff, ↓reduceIte] <;> first | rfl | assumption) | simp [upd_apply, *]), oV, xV⟩
  · obtain rfl : k = R * C := by omega
    have e1 : (List.range (R * C)).map (numTo (nearN R C) (landB h lv) (R * C) (R * C)) = (List.range (R * C)).map (numOf (nearN R C) (landB h lv) (R * C)) := List.map_congr_left fun j hj => numTo_all hnb (List.mem_range.1 hj)
    rw [e1] at oV
    simp (disch := omega) only [go_sem, Nat.reduceEqDiff, ↓reduceIte, Nat.reduceAdd, a6, a8, a9, hlt, Try.results80]
    exact ⟨_, _, rfl, oV, fW, xV⟩
end Go.Proofs.Ytdlepfeckiahdaa
