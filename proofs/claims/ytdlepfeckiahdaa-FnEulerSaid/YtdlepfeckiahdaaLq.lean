/- Contract: the reference's lakes. -/
import Derived.Test.YtdlepfeckiahdaaLo
set_option linter.all false
namespace Go.SW
theorem numIn_push {nb : Nat → List Nat} {act : Nat → Bool} {n i j y : Nat} {l : List Nat} (h : y ≠ j) : numIn nb act n i (l ++ [j]) y = numIn nb act n i l y := by simp [numIn, h]
end Go.SW
namespace Go.Proofs.Ytdlepfeckiahdaa
open Go.RowKit Go.SW
attribute [local irreducible] callK bslK

set_option maxHeartbeats 1000000 in
set_option maxRecDepth 20000 in
theorem specLevelLakes_c (a : Option Addr) (rows : List (List Int)) (A : Nat → Option Addr) (Cp : Nat → Nat) (gc : Nat) (lv : Int) (w : World) (hr : RowsAt w a rows A Cp) :
    Ret Try.prog 45 #[.slice a rows.length gc, .int .i64 lv] w fun v w' => v = .int .i64 (lakesOf rows lv) ∧ Ext w w' := by
  refine enter2 Try.func45 rfl (by kernel_rfl) (of_decide_eq_true (by kernel_rfl)) fun f a0 a1 => ?_
  simp (disch := omega) only [go_sem, Nat.reduceEqDiff, ↓reduceIte, Nat.reduceAdd, a0, a1]
  refine callK_pure (by kernel_rfl) (l3Ok_c _ _ _ _ _ _ _ hr) fun w1 x1 => ?_
  cases hlv : lvok rows lv with
  | false =>
    simp (disch := omega) only [go_sem, Nat.reduceEqDiff, ↓reduceIte, Nat.reduceAdd, Try.results45]
    exact ⟨by simp [lakesOf, hlv], x1⟩
  | true =>
  obtain ⟨hv, hl0⟩ := lv_parts hlv
  have v := (gvalid_iff rows).1 hv
  have g := v.gd
  obtain ⟨gb, go, rb, ro, rfl, -, hg⟩ := hr.grid v
  have hans : lakesOf rows lv = (lakeN rows.length (rowLen rows) (watB (hgt rows) lv) : Nat) := by simp [lakesOf, hlv]
  rw [hans]
  generalize hRR : rows.length = R at *
  generalize hCC : rowLen rows = C at *
  generalize hgt rows = h at *
  have hn49 := g.le
  have hpos := g.pos
  have hnb := aro_lt (R := R) (C := C)
  have hsym : ∀ i j, i < R * C → j < R * C → j ∈ aroundN R C i → i ∈ aroundN R C j := fun i j hi hj h => aro_sym hi hj h
  have hr1 := g.r1
  have hr7 := g.r7
  have hc7 := g.c7
  simp (disch := omega) only [go_sem, Nat.reduceEqDiff, ↓reduceIte, Nat.reduceAdd, a0]
  refine callK_pure (by kernel_rfl) (l2Cells_c gb go gc rb ro _ R C h _ (hg.ext x1) hr1 hr7 hc7) fun w2 x2 => ?_
  simp (disch := omega) only [go_sem, Nat.reduceEqDiff, ↓reduceIte, Nat.reduceAdd]
  refine mksK_of elt_o (R * C) (R * C) _ _ _ _ rfl rfl (Nat.le_refl _) (by omega) (by simp [maxLen]; omega) fun w3 ob e3 x3 o3 _ => ?_
  have x123 := (x1.trans x2).trans x3
  have s3 := x3.size
  have s12 := (x1.trans x2).size
  have hob : w.heap.size ≤ ob := by omega
  simp only [Value.cells, made_int] at o3
  rw [vb_zero (R * C) (fun j => decide (0 ≤ numTo (aroundN R C) (watB h lv) (R * C) 0 j)) (fun j _ => by rw [numTo_zero]; rfl)] at o3
  simp (disch := omega) only [go_sem, Nat.reduceEqDiff, ↓reduceIte, Nat.reduceAdd]
  refine loopN (R * C) (fun k f V => f 0 = .slice (some ⟨gb, go, none⟩) R gc ∧ f 1 = .int .i64 lv ∧ f 5 = .slice (some ⟨ob, 0, none⟩) (R * C) (R * C) ∧ f 6 = .int .i64 (cntp (lakeP R C (watB h lv)) k : Nat) ∧ f 7 = .int .i64 k ∧ OwnS V 4 1 (some ⟨ob, 0, none⟩) (R * C) (R * C) (vb (R * C) (fun j => decide (0 ≤ numTo (aroundN R C) (watB h lv) (R * C) k j))) ∧ Ext w V) ⟨(by first | assumption | (simp only [upd_apply, Nat.reduceEqDiff, ↓reduceIte] <;> first | rfl | assumption) | simp [upd_apply, *]), by simp [upd_apply, a1], (by first | assumption | (simp only [upd_apply, Nat.reduceEqDiff, ↓reduceIte] <;> first | rfl | assumption) | simp [upd_apply, *]), by simp [upd_apply, cntp], (by first | assumption | (simp only [upd_apply, Nat.reduceEqDiff, ↓reduceIte] <;> first | rfl | assumption) | simp [upd_apply, *]), o3, x123⟩ fun k f V hk ⟨a0, a1, a5, a6, a7, oV, xV⟩ => ?_
  by_cases hlt : (k : Int) < (R * C : Nat)
  · have hkn : k < R * C := by omega
    have ck : V.cell? ⟨ob, k, none⟩ = some (.bool (decide (0 ≤ numTo (aroundN R C) (watB h lv) (R * C) k k))) := by rw [oV.cell (by omega), vb_get _ hkn]
    have hcnt := cntp_le (lakeP R C (watB h lv)) k
    have u := rep_ok (act := watB h lv) hnb
    have hle := u.le k hkn
    by_cases hge : 0 ≤ numTo (aroundN R C) (watB h lv) (R * C) k k
    · have hno : ¬ (watB h lv k = true ∧ repF (aroundN R C) (watB h lv) (R * C) k = k) := fun hh => by
        have := (numTo_neg (nb := aroundN R C) (act := watB h lv) (n := R * C) k k).2 (fun h' => by omega)
        omega
      have e1 : vb (R * C) (fun j => decide (0 ≤ numTo (aroundN R C) (watB h lv) (R * C) k j)) = vb (R * C) (fun j => decide (0 ≤ numTo (aroundN R C) (watB h lv) (R * C) (k + 1) j)) := vb_congr fun j hj => by simp only [numTo_skip hnb hkn hno hj]
      have hs := lake_skip (R := R) (C := C) (act := watB h lv) (k := k) fun hh => hno hh.1
      rw [decide_eq_true hge] at ck
      simp (disch := omega) only [go_sem, Nat.reduceEqDiff, ↓reduceIte, Nat.reduceAdd, a5, a7, hlt, ck]
      exact ⟨hkn, (by first | assumption | (simp only [upd_apply, Nat.reduceEqDiff, ↓reduceIte] <;> first | rfl | assumption) | simp [upd_apply, *]), (by first | assumption | (simp only [upd_apply, Nat.reduceEqDiff, ↓reduceIte] <;> first | rfl | assumption) | simp [upd_apply, *]), (by first | assumption | (simp only [upd_apply, Nat.reduceEqDiff, ↓reduceIte] <;> first | rfl | assumption) | simp [upd_apply, *]), by simp [upd_apply, hs, a6], (by first | assumption | (simp only [upd_apply, Nat.reduceEqDiff, ↓reduceIte] <;> first | rfl | assumption) | simp [upd_apply, *]), by rw [← e1]; exact oV, xV⟩
    · have hnr := (numTo_neg (nb := aroundN R C) (act := watB h lv) (n := R * C) k k).1 (by omega)
      have hki : ((k : Nat) : Int).toNat = k := by omega
      rw [decide_eq_false hge] at ck
      simp (disch := omega) only [go_sem, Nat.reduceEqDiff, ↓reduceIte, Nat.reduceAdd, a0, a1, a5, a7, hlt, ck]
      refine callK_pure (by kernel_rfl) (l2Height_c gb go gc rb ro _ R C h _ (hg.ext xV) hr7 hc7 (k : Int) (by omega) (by omega)) fun w5 x5 => ?_
      by_cases hlow : lv ≤ h k
      · have hno : ¬ (watB h lv k = true ∧ repF (aroundN R C) (watB h lv) (R * C) k = k) := fun hh => by
          have := hh.1; simp [watB] at this; omega
        have e1 : vb (R * C) (fun j => decide (0 ≤ numTo (aroundN R C) (watB h lv) (R * C) k j)) = vb (R * C) (fun j => decide (0 ≤ numTo (aroundN R C) (watB h lv) (R * C) (k + 1) j)) := vb_congr fun j hj => by simp only [numTo_skip hnb hkn hno hj]
        have hs := lake_skip (R := R) (C := C) (act := watB h lv) (k := k) fun hh => hno hh.1
        simp (disch := omega) only [go_sem, Nat.reduceEqDiff, ↓reduceIte, Nat.reduceAdd, a1, a7, hki, hlow]
        exact ⟨hkn, (by first | assumption | (simp only [upd_apply, Nat.reduceEqDiff, ↓reduceIte] <;> first | rfl | assumption) | simp [upd_apply, *]), (by first | assumption | (simp only [upd_apply, Nat.reduceEqDiff, ↓reduceIte] <;> first | rfl | assumption) | simp [upd_apply, *]), (by first | assumption | (simp only [upd_apply, Nat.reduceEqDiff, ↓reduceIte] <;> first | rfl | assumption) | simp [upd_apply, *]), by simp [upd_apply, hs, a6], (by first | assumption | (simp only [upd_apply, Nat.reduceEqDiff, ↓reduceIte] <;> first | rfl | assumption) | simp [upd_apply, *]), by rw [← e1]; exact oV.ext x5, xV.trans x5⟩
      · have hact : watB h lv k = true := by simp [watB]; omega
        have hroot : watB h lv k = true ∧ repF (aroundN R C) (watB h lv) (R * C) k = k := ⟨hact, by
          by_cases e : repF (aroundN R C) (watB h lv) (R * C) k = k
          · exact e
          · exact absurd ⟨hact, by omega⟩ hnr⟩
        simp (disch := omega) only [go_sem, Nat.reduceEqDiff, ↓reduceIte, Nat.reduceAdd, a1, a5, a7, hki, hlow]
        refine stK_own siz_bool (by rfl) (by rfl) (oV.ext x5) (by omega) fun w6 o6 g6 => ?_
        have b0 := Bfs.one (nb := aroundN R C) hkn hroot
        have hset := vb_set (n := R * C) (x := k) (f := fun j => decide (0 ≤ numTo (aroundN R C) (watB h lv) (R * C) k j)) (g := fun j => decide (0 ≤ numIn (aroundN R C) (watB h lv) (R * C) k [k] j)) (y := true) hkn (by simp [numIn]) (fun j hj hne => by simp [numIn, hne])
        rw [hset] at o6
        have x6 : Ext w w6 := g6.ext (xV.trans x5) hob
        simp (disch := omega) only [go_sem, Nat.reduceEqDiff, ↓reduceIte, Nat.reduceAdd, a7]
        refine bslK_1 elt_i rfl fun w7 b7 e7 x7 k7 _ => ?_
        have s6 := x6.size
        have o7 := o6.ext x7
        have obl := o6.blk_lt (b := ob) rfl
        have l7 : OwnS w7 3 1 (some ⟨b7, 0, none⟩) 1 1 (vi (ni [k])) := by
          have := OwnS.of_blk (e := 3) (n := 1) (s := 1) k7 (by simp) (by simp [maxLen])
          simpa [vi, ni] using this
        simp (disch := omega) only [go_sem, Nat.reduceEqDiff, ↓reduceIte, Nat.reduceAdd]
        refine loopN (R * C) (fun p f V => f 0 = .slice (some ⟨gb, go, none⟩) R gc ∧ f 1 = .int .i64 lv ∧ f 5 = .slice (some ⟨ob, 0, none⟩) (R * C) (R * C) ∧ f 6 = .int .i64 (cntp (lakeP R C (watB h lv)) k : Nat) ∧ f 7 = .int .i64 k ∧ f 10 = .int .i64 p ∧ Ext w V ∧
          ∃ l : List Nat, p ≤ l.length ∧ f 8 = .bool ((l.take p).any (bordB R C)) ∧ Bfs (aroundN R C) (watB h lv) (R * C) k l ∧ ClosedTo (aroundN R C) (watB h lv) l p ∧ OwnS V 4 1 (some ⟨ob, 0, none⟩) (R * C) (R * C) (vb (R * C) (fun j => decide (0 ≤ numIn (aroundN R C) (watB h lv) (R * C) k l j))) ∧
            ∃ la lc, f 9 = .slice la l.length lc ∧ OwnS V 3 1 la l.length lc (vi (ni l)) ∧ ∀ b, blk la = some b → w.heap.size ≤ b ∧ b ≠ ob) ⟨(by first | assumption | (simp only [upd_apply, Nat.reduceEqDiff, ↓reduceIte] <;> first | rfl | assumption) | simp [upd_apply, *]), (by first | assumption | (simp only [upd_apply, Nat.reduceEqDiff, ↓reduceIte] <;> first | rfl | assumption) | simp [upd_apply, *]), (by first | assumption | (simp only [upd_apply, Nat.reduceEqDiff, ↓reduceIte] <;> first | rfl | assumption) | simp [upd_apply, *]), by simp [upd_apply, a6], (by first | assumption | (simp only [upd_apply, Nat.reduceEqDiff, ↓reduceIte] <;> first | rfl | assumption) | simp [upd_apply, *]), (by first | assumption | (simp only [upd_apply, Nat.reduceEqDiff, ↓reduceIte] <;> first | rfl | assumption) | simp [upd_apply, *]), x6.trans x7, [k], by simp, by simp [upd_apply], b0, fun k' x h1 => by omega, o7, _, _, (by first | assumption | (simp only [upd_apply, Nat.reduceEqDiff, ↓reduceIte] <;> first | rfl | assumption) | simp [upd_apply, *]), l7, fun b hb => by simp [blk] at hb; omega⟩ fun p f V hp ⟨a0, a1, a5, a6, a7, a10, xV, l, hpl, a8, bl, cl, oV, la, lc, a9, ol, fl⟩ => ?_
        have hll := bl.len
        by_cases hlp : (p : Int) < (l.length : Int)
        · have hpl' : p < l.length := by omega
          obtain ⟨lb, rfl⟩ := ol.some (by omega)
          have hx : l[p]? = some (l.getD p 0) := by rw [getD_at _ _ hpl']; exact List.getElem?_eq_getElem hpl'
          have hxl : l.getD p 0 ∈ l := getD_mem hpl'
          have hxn := (bl.mem _ hxl).1
          have cx : V.cell? ⟨lb, p, none⟩ = some (.int .i64 (l.getD p 0 : Nat)) := by rw [ol.cell (by omega), vi_get _ _ (by rw [ni_len]; omega), ni_get _ hpl']
          have hany : (l.take (p + 1)).any (bordB R C) = ((l.take p).any (bordB R C) || bordB R C (l.getD p 0)) := by
            rw [List.take_succ_eq_append_getElem hpl', List.any_append, getD_at _ _ hpl']; simp
          generalize l.getD p 0 = x at *
          by_cases hfl : (l.take p).any (bordB R C) = true
          · rw [hfl, Bool.true_or] at hany
            rw [hfl] at a8
            simp (disch := omega) only [go_sem, Nat.reduceEqDiff, ↓reduceIte, Nat.reduceAdd, a0, a8, a9, a10, hlp, cx]
            refine callK_of (by kernel_rfl) (l3Around_c gb go gc rb ro _ R C h _ (hg.ext xV) hr7 hc7 x hxn) ?_
            rintro _ w8 ⟨na, nc, rfl, no, nn, x8⟩
            have hn9 : (aroundN R C x).length ≤ 9 := aroundTo_len R C x 9
            have sV := xV.size
            have obV := oV.blk_lt (b := ob) rfl
            have lbV := ol.blk_lt (b := lb) rfl
            simp (disch := omega) only [go_sem, Nat.reduceEqDiff, ↓reduceIte, Nat.reduceAdd]
            refine loopN (aroundN R C x).length (fun m f V => f 0 = .slice (some ⟨gb, go, none⟩) R gc ∧ f 1 = .int .i64 lv ∧ f 5 = .slice (some ⟨ob, 0, none⟩) (R * C) (R * C) ∧ f 6 = .int .i64 (cntp (lakeP R C (watB h lv)) k : Nat) ∧ f 7 = .int .i64 k ∧ f 8 = .bool (true) ∧ f 10 = .int .i64 p ∧ f 11 = .slice na (aroundN R C x).length nc ∧ f 12 = .int .i64 m ∧ Ext w V ∧ OwnS V 3 1 na (aroundN R C x).length nc (vi (ni (aroundN R C x))) ∧
              ∃ l : List Nat, p < l.length ∧ l[p]? = some x ∧ x ∈ l ∧ (l.take (p + 1)).any (bordB R C) = (true) ∧ Bfs (aroundN R C) (watB h lv) (R * C) k l ∧ ClosedTo (aroundN R C) (watB h lv) l p ∧ (∀ j ∈ (aroundN R C x).take m, watB h lv j = true → j ∈ l) ∧ OwnS V 4 1 (some ⟨ob, 0, none⟩) (R * C) (R * C) (vb (R * C) (fun j => decide (0 ≤ numIn (aroundN R C) (watB h lv) (R * C) k l j))) ∧
                ∃ la lc, f 9 = .slice la l.length lc ∧ OwnS V 3 1 la l.length lc (vi (ni l)) ∧ ∀ b, blk la = some b → w.heap.size ≤ b ∧ b ≠ ob ∧ blk na ≠ some b) ⟨(by first | assumption | (simp only [upd_apply, Nat.reduceEqDiff, ↓reduceIte] <;> first | rfl | assumption) | simp [upd_apply, *]), (by first | assumption | (simp only [upd_apply, Nat.reduceEqDiff, ↓reduceIte] <;> first | rfl | assumption) | simp [upd_apply, *]), (by first | assumption | (simp only [upd_apply, Nat.reduceEqDiff, ↓reduceIte] <;> first | rfl | assumption) | simp [upd_apply, *]), (by first | assumption | (simp only [upd_apply, Nat.reduceEqDiff, ↓reduceIte] <;> first | rfl | assumption) | simp [upd_apply, *]), (by first | assumption | (simp only [upd_apply, Nat.reduceEqDiff, ↓reduceIte] <;> first | rfl | assumption) | simp [upd_apply, *]), (by first | assumption | (simp only [upd_apply, Nat.reduceEqDiff, ↓reduceIte] <;> first | rfl | assumption) | simp [upd_apply, *]), (by first | assumption | (simp only [upd_apply, Nat.reduceEqDiff, ↓reduceIte] <;> first | rfl | assumption) | simp [upd_apply, *]), (by first | assumption | (simp only [upd_apply, Nat.reduceEqDiff, ↓reduceIte] <;> first | rfl | assumption) | simp [upd_apply, *]), (by first | assumption | (simp only [upd_apply, Nat.reduceEqDiff, ↓reduceIte] <;> first | rfl | assumption) | simp [upd_apply, *]), xV.trans x8, no, l, hpl', hx, hxl, hany, bl, cl, fun j hj => by simp at hj, oV.ext x8, _, _, (by first | assumption | (simp only [upd_apply, Nat.reduceEqDiff, ↓reduceIte] <;> first | rfl | assumption) | simp [upd_apply, *]), ol.ext x8, fun b hb => ⟨(fl b hb).1, (fl b hb).2, fun e => by have := nn b e; simp [blk] at hb; omega⟩⟩ fun m f V hm ⟨a0, a1, a5, a6, a7, a8, a10, a11, a12, xV, nV, l, hpl, hx, hxl, hany, bl, cl, hm', oV, la, lc, a9, ol, fl⟩ => ?_
            have hll := bl.len
            by_cases hlm : (m : Int) < (aroundN R C x).length
            · have hml : m < (aroundN R C x).length := by omega
              obtain ⟨nb, rfl⟩ := nV.some (by omega)
              have hjm : (aroundN R C x).getD m 0 ∈ aroundN R C x := getD_mem hml
              have hjn := hnb x hxn _ hjm
              have cj : V.cell? ⟨nb, m, none⟩ = some (.int .i64 ((aroundN R C x).getD m 0 : Nat)) := by rw [nV.cell (by omega), vi_get _ _ (by rw [ni_len]; omega), ni_get _ hml]
              have htk : (aroundN R C x).take (m + 1) = (aroundN R C x).take m ++ [(aroundN R C x).getD m 0] := by rw [List.take_succ_eq_append_getElem hml, getD_at _ _ hml]
              generalize (aroundN R C x).getD m 0 = j at *
              have co : V.cell? ⟨ob, j, none⟩ = some (.bool (decide (0 ≤ numIn (aroundN R C) (watB h lv) (R * C) k l j))) := by rw [oV.cell (by omega), vb_get _ hjn]
              have hneg := fun ha => numIn_neg (act := watB h lv) hnb bl hxl hjm ha
              by_cases hng : numIn (aroundN R C) (watB h lv) (R * C) k l j < 0
              · rw [decide_eq_false (by omega)] at co
                simp (disch := omega) only [go_sem, Nat.reduceEqDiff, ↓reduceIte, Nat.reduceAdd, a0, a1, a5, a11, a12, hlm, cj, co]
                have hji : ((j : Nat) : Int).toNat = j := by omega
                refine callK_pure (by kernel_rfl) (l2Height_c gb go gc rb ro _ R C h _ (hg.ext xV) hr7 hc7 (j : Int) (by omega) (by omega)) fun w9 x9 => ?_
                by_cases hhi : h j < lv
                · have ha : watB h lv j = true := by simp [watB, hhi]
                  have hjl := (hneg ha).1 hng
                  have cj9 := x9.cell cj
                  simp (disch := omega) only [go_sem, Nat.reduceEqDiff, ↓reduceIte, Nat.reduceAdd, a1, a5, a11, a12, hji, hhi, cj9]
                  refine stK_own siz_bool (by rfl) (by rfl) (oV.ext x9) (by omega) fun w10 o10 g10 => ?_
                  have n10 := (nV.ext x9).grow g10.grow (fun b hb e => by have h1 := nn nb rfl; simp [blk] at hb; simp at e; omega)
                  have l10 := (ol.ext x9).grow g10.grow (fun b hb e => by cases e; exact (fl ob hb).2.1 rfl)
                  have cj10 : w10.cell? ⟨nb, m, none⟩ = some (.int .i64 (j : Nat)) := by
                    have := g10.grow.cell cj9 (by intro e; have h1 := nn nb rfl; simp at e; omega)
                    exact this
                  have hset := vb_set (n := R * C) (x := j) (f := fun y => decide (0 ≤ numIn (aroundN R C) (watB h lv) (R * C) k l y)) (g := fun y => decide (0 ≤ numIn (aroundN R C) (watB h lv) (R * C) k (l ++ [j]) y)) (y := true) hjn (by simp [numIn]) (fun y hy hne => by simp only [numIn_push hne])
                  rw [hset] at o10
                  have x10 : Ext w w10 := g10.ext (xV.trans x9) hob
                  simp (disch := omega) only [go_sem, Nat.reduceEqDiff, ↓reduceIte, Nat.reduceAdd, a9, a11, a12, cj10]
                  refine bslK_1 elt_i rfl fun w11 b11 e11 x11 k11 _ => ?_
                  simp (disch := omega) only [go_sem, Nat.reduceEqDiff, ↓reduceIte, Nat.reduceAdd]
                  refine appK_1 elt_i (l10.ext x11) k11 rfl (by omega) (.inl (by decide)) fun w12 a12' c12 o12 g12 h12 => ?_
                  have s10 := x10.size
                  have s11 := x11.size
                  have n11 := (n10.ext x11).blk_lt (b := nb) rfl
                  have o11 := (o10.ext x11).blk_lt (b := ob) rfl
                  simp (disch := omega) only [go_sem, Nat.reduceEqDiff, ↓reduceIte, Nat.reduceAdd, a12]
                  have hbl := bl.push hnb hxl hjm ha hjl
                  refine ⟨hml, (by first | assumption | (simp only [upd_apply, Nat.reduceEqDiff, ↓reduceIte] <;> first | rfl | assumption) | simp [upd_apply, *]), (by first | assumption | (simp only [upd_apply, Nat.reduceEqDiff, ↓reduceIte] <;> first | rfl | assumption) | simp [upd_apply, *]), (by first | assumption | (simp only [upd_apply, Nat.reduceEqDiff, ↓reduceIte] <;> first | rfl | assumption) | simp [upd_apply, *]), (by first | assumption | (simp only [upd_apply, Nat.reduceEqDiff, ↓reduceIte] <;> first | rfl | assumption) | simp [upd_apply, *]), (by first | assumption | (simp only [upd_apply, Nat.reduceEqDiff, ↓reduceIte] <;> first | rfl | assumption) | simp [upd_apply, *]), (by first | assumption | (simp only [upd_apply, Nat.reduceEqDiff, ↓reduceIte] <;> first | rfl | assumption) | simp [upd_apply, *]), (by first | assumption | (simp only [upd_apply, Nat.reduceEqDiff, ↓reduceIte] <;> first | rfl | assumption) | simp [upd_apply, *]), (by first | assumption | (simp only [upd_apply, Nat.reduceEqDiff, ↓reduceIte] <;> first | rfl | assumption) | simp [upd_apply, *]), (by first | assumption | (simp only [upd_apply, Nat.reduceEqDiff, ↓reduceIte] <;> first | rfl | assumption) | simp [upd_apply, *]), g12.ext (x10.trans x11) (fun b hb => (fl b hb).1), (n10.ext x11).grow g12 (fun b hb e => (fl b e).2.2 hb), l ++ [j], by simp; omega, by rw [List.getElem?_append_left hpl]; exact hx, by simp [hxl], by rw [List.take_append_of_le_length (by omega)]; exact hany, hbl, cl.push (by omega) j, fun y hy hya => ?_, (o10.ext x11).grow g12 (fun b hb e => (fl b e).2.1 (by cases hb; rfl)), a12', c12, by simp [upd_apply], ?_, fun b hb => ?_⟩
                  · rw [htk] at hy
                    rcases List.mem_append.1 hy with h1 | h1
                    · exact List.mem_append_left _ (hm' y h1 hya)
                    · exact List.mem_append_right _ h1
                  · rw [← vi_ni_snoc l _ _ rfl]; simpa using o12
                  · rcases h12 b hb with h1 | h1
                    · exact fl b h1
                    · exact ⟨by omega, by omega, fun e => by simp [blk] at e; omega⟩
                · have ha : watB h lv j = false := by simp [watB]; omega
                  simp (disch := omega) only [go_sem, Nat.reduceEqDiff, ↓reduceIte, Nat.reduceAdd, a1, a12, hji, hhi]
                  refine ⟨hml, (by first | assumption | (simp only [upd_apply, Nat.reduceEqDiff, ↓reduceIte] <;> first | rfl | assumption) | simp [upd_apply, *]), (by first | assumption | (simp only [upd_apply, Nat.reduceEqDiff, ↓reduceIte] <;> first | rfl | assumption) | simp [upd_apply, *]), (by first | assumption | (simp only [upd_apply, Nat.reduceEqDiff, ↓reduceIte] <;> first | rfl | assumption) | simp [upd_apply, *]), (by first | assumption | (simp only [upd_apply, Nat.reduceEqDiff, ↓reduceIte] <;> first | rfl | assumption) | simp [upd_apply, *]), (by first | assumption | (simp only [upd_apply, Nat.reduceEqDiff, ↓reduceIte] <;> first | rfl | assumption) | simp [upd_apply, *]), (by first | assumption | (simp only [upd_apply, Nat.reduceEqDiff, ↓reduceIte] <;> first | rfl | assumption) | simp [upd_apply, *]), (by first | assumption | (simp only [upd_apply, Nat.reduceEqDiff, ↓reduceIte] <;> first | rfl | assumption) | simp [upd_apply, *]), (by first | assumption | (simp only [upd_apply, Nat.reduceEqDiff, ↓reduceIte] <;> first | rfl | assumption) | simp [upd_apply, *]), (by first | assumption | (simp only [upd_apply, Nat.reduceEqDiff, ↓reduceIte] <;> first | rfl | assumption) | simp [upd_apply, *]), xV.trans x9, nV.ext x9, l, hpl, hx, hxl, hany, bl, cl, fun y hy hya => ?_, oV.ext x9, la, lc, (by first | assumption | (simp only [upd_apply, Nat.reduceEqDiff, ↓reduceIte] <;> first | rfl | assumption) | simp [upd_apply, *]), ol.ext x9, fl⟩
                  rw [htk] at hy
                  rcases List.mem_append.1 hy with h1 | h1
                  · exact hm' y h1 hya
                  · rw [List.mem_singleton] at h1; subst h1; rw [ha] at hya; cases hya
              · rw [decide_eq_true (by omega)] at co
                simp (disch := omega) only [go_sem, Nat.reduceEqDiff, ↓reduceIte, Nat.reduceAdd, a5, a11, a12, hlm, cj, co]
                refine ⟨hml, (by first | assumption | (simp only [upd_apply, Nat.reduceEqDiff, ↓reduceIte] <;> first | rfl | assumption) | simp [upd_apply, *]), (by first | assumption | (simp only [upd_apply, Nat.reduceEqDiff, ↓reduceIte] <;> first | rfl | assumption) | simp [upd_apply, *]), (by first | assumption | (simp only [upd_apply, Nat.reduceEqDiff, ↓reduceIte] <;> first | rfl | assumption) | simp [upd_apply, *]), (by first | assumption | (simp only [upd_apply, Nat.reduceEqDiff, ↓reduceIte] <;> first | rfl | assumption) | simp [upd_apply, *]), (by first | assumption | (simp only [upd_apply, Nat.reduceEqDiff, ↓reduceIte] <;> first | rfl | assumption) | simp [upd_apply, *]), (by first | assumption | (simp only [upd_apply, Nat.reduceEqDiff, ↓reduceIte] <;> first | rfl | assumption) | simp [upd_apply, *]), (by first | assumption | (simp only [upd_apply, Nat.reduceEqDiff, ↓reduceIte] <;> first | rfl | assumption) | simp [upd_apply, *]), (by first | assumption | (simp only [upd_apply, Nat.reduceEqDiff, ↓reduceIte] <;> first | rfl | assumption) | simp [upd_apply, *]), (by first | assumption | (simp only [upd_apply, Nat.reduceEqDiff, ↓reduceIte] <;> first | rfl | assumption) | simp [upd_apply, *]), xV, nV, l, hpl, hx, hxl, hany, bl, cl, fun y hy hya => ?_, oV, la, lc, (by first | assumption | (simp only [upd_apply, Nat.reduceEqDiff, ↓reduceIte] <;> first | rfl | assumption) | simp [upd_apply, *]), ol, fl⟩
                rw [htk] at hy
                rcases List.mem_append.1 hy with h1 | h1
                · exact hm' y h1 hya
                · rw [List.mem_singleton] at h1; subst h1
                  by_cases hjl : y ∈ l
                  · exact hjl
                  · exact absurd ((hneg hya).2 hjl) hng
            · obtain rfl : m = (aroundN R C x).length := by omega
              rw [List.take_length] at hm'
              simp (disch := omega) only [go_sem, Nat.reduceEqDiff, ↓reduceIte, Nat.reduceAdd, a10, a11, a12, hlm]
              exact ⟨by omega, (by first | assumption | (simp only [upd_apply, Nat.reduceEqDiff, ↓reduceIte] <;> first | rfl | assumption) | simp [upd_apply, *]), (by first | assumption | (simp only [upd_apply, Nat.reduceEqDiff, ↓reduceIte] <;> first | rfl | assumption) | simp [upd_apply, *]), (by first | assumption | (simp only [upd_apply, Nat.reduceEqDiff, ↓reduceIte] <;> first | rfl | assumption) | simp [upd_apply, *]), (by first | assumption | (simp only [upd_apply, Nat.reduceEqDiff, ↓reduceIte] <;> first | rfl | assumption) | simp [upd_apply, *]), (by first | assumption | (simp only [upd_apply, Nat.reduceEqDiff, ↓reduceIte] <;> first | rfl | assumption) | simp [upd_apply, *]), (by first | assumption | (simp only [upd_apply, Nat.reduceEqDiff, ↓reduceIte] <;> first | rfl | assumption) | simp [upd_apply, *]), xV, l, by omega, by rw [hany]; exact (by first | assumption | (simp only [upd_apply, Nat.reduceEqDiff, ↓reduceIte] <;> first | rfl | assumption) | simp [upd_apply, *]), bl, cl.step hx hm', oV, la, lc, (by first | assumption | (simp only [upd_apply, Nat.reduceEqDiff, ↓reduceIte] <;> first | rfl | assumption) | simp [upd_apply, *]), ol, fun b hb => ⟨(fl b hb).1, (fl b hb).2.1⟩⟩
          · have hfl : (l.take p).any (bordB R C) = false := by simpa using hfl
            rw [hfl, Bool.false_or] at hany
            rw [hfl] at a8
            simp (disch := omega) only [go_sem, Nat.reduceEqDiff, ↓reduceIte, Nat.reduceAdd, a0, a8, a9, a10, hlp, cx]
            refine callK_pure (by kernel_rfl) (l2Border_c gb go gc rb ro _ R C h _ (hg.ext xV) hr7 hc7 x hxn) fun wB xB => ?_
            replace xV := xV.trans xB
            replace oV := oV.ext xB
            replace ol := ol.ext xB
            have cxB := xB.cell cx
            simp (disch := omega) only [go_sem, Nat.reduceEqDiff, ↓reduceIte, Nat.reduceAdd, a0, a9, a10, cxB]
            refine callK_of (by kernel_rfl) (l3Around_c gb go gc rb ro _ R C h _ (hg.ext xV) hr7 hc7 x hxn) ?_
            rintro _ w8 ⟨na, nc, rfl, no, nn, x8⟩
            have hn9 : (aroundN R C x).length ≤ 9 := aroundTo_len R C x 9
            have sV := xV.size
            have obV := oV.blk_lt (b := ob) rfl
            have lbV := ol.blk_lt (b := lb) rfl
            simp (disch := omega) only [go_sem, Nat.reduceEqDiff, ↓reduceIte, Nat.reduceAdd]
            refine loopN (aroundN R C x).length (fun m f V => f 0 = .slice (some ⟨gb, go, none⟩) R gc ∧ f 1 = .int .i64 lv ∧ f 5 = .slice (some ⟨ob, 0, none⟩) (R * C) (R * C) ∧ f 6 = .int .i64 (cntp (lakeP R C (watB h lv)) k : Nat) ∧ f 7 = .int .i64 k ∧ f 8 = .bool (bordB R C x) ∧ f 10 = .int .i64 p ∧ f 11 = .slice na (aroundN R C x).length nc ∧ f 12 = .int .i64 m ∧ Ext w V ∧ OwnS V 3 1 na (aroundN R C x).length nc (vi (ni (aroundN R C x))) ∧
              ∃ l : List Nat, p < l.length ∧ l[p]? = some x ∧ x ∈ l ∧ (l.take (p + 1)).any (bordB R C) = (bordB R C x) ∧ Bfs (aroundN R C) (watB h lv) (R * C) k l ∧ ClosedTo (aroundN R C) (watB h lv) l p ∧ (∀ j ∈ (aroundN R C x).take m, watB h lv j = true → j ∈ l) ∧ OwnS V 4 1 (some ⟨ob, 0, none⟩) (R * C) (R * C) (vb (R * C) (fun j => decide (0 ≤ numIn (aroundN R C) (watB h lv) (R * C) k l j))) ∧
                ∃ la lc, f 9 = .slice la l.length lc ∧ OwnS V 3 1 la l.length lc (vi (ni l)) ∧ ∀ b, blk la = some b → w.heap.size ≤ b ∧ b ≠ ob ∧ blk na ≠ some b) ⟨(by first | assumption | (simp only [upd_apply, Nat.reduceEqDiff, ↓reduceIte] <;> first | rfl | assumption) | simp [upd_apply, *]), (by first | assumption | (simp only [upd_apply, Nat.reduceEqDiff, ↓reduceIte] <;> first | rfl | assumption) | simp [upd_apply, *]), (by first | assumption | (simp only [upd_apply, Nat.reduceEqDiff, ↓reduceIte] <;> first | rfl | assumption) | simp [upd_apply, *]), (by first | assumption | (simp only [upd_apply, Nat.reduceEqDiff, ↓reduceIte] <;> first | rfl | assumption) | simp [upd_apply, *]), (by first | assumption | (simp only [upd_apply, Nat.reduceEqDiff, ↓reduceIte] <;> first | rfl | assumption) | simp [upd_apply, *]), (by first | assumption | (simp only [upd_apply, Nat.reduceEqDiff, ↓reduceIte] <;> first | rfl | assumption) | simp [upd_apply, *]), (by first | assumption | (simp only [upd_apply, Nat.reduceEqDiff, ↓reduceIte] <;> first | rfl | assumption) | simp [upd_apply, *]), (by first | assumption | (simp only [upd_apply, Nat.reduceEqDiff, ↓reduceIte] <;> first | rfl | assumption) | simp [upd_apply, *]), (by first | assumption | (simp only [upd_apply, Nat.reduceEqDiff, ↓reduceIte] <;> first | rfl | assumption) | simp [upd_apply, *]), xV.trans x8, no, l, hpl', hx, hxl, hany, bl, cl, fun j hj => by simp at hj, oV.ext x8, _, _, (by first | assumption | (simp only [upd_apply, Nat.reduceEqDiff, ↓reduceIte] <;> first | rfl | assumption) | simp [upd_apply, *]), ol.ext x8, fun b hb => ⟨(fl b hb).1, (fl b hb).2, fun e => by have := nn b e; simp [blk] at hb; omega⟩⟩ fun m f V hm ⟨a0, a1, a5, a6, a7, a8, a10, a11, a12, xV, nV, l, hpl, hx, hxl, hany, bl, cl, hm', oV, la, lc, a9, ol, fl⟩ => ?_
            have hll := bl.len
            by_cases hlm : (m : Int) < (aroundN R C x).length
            · have hml : m < (aroundN R C x).length := by omega
              obtain ⟨nb, rfl⟩ := nV.some (by omega)
              have hjm : (aroundN R C x).getD m 0 ∈ aroundN R C x := getD_mem hml
              have hjn := hnb x hxn _ hjm
              have cj : V.cell? ⟨nb, m, none⟩ = some (.int .i64 ((aroundN R C x).getD m 0 : Nat)) := by rw [nV.cell (by omega), vi_get _ _ (by rw [ni_len]; omega), ni_get _ hml]
              have htk : (aroundN R C x).take (m + 1) = (aroundN R C x).take m ++ [(aroundN R C x).getD m 0] := by rw [List.take_succ_eq_append_getElem hml, getD_at _ _ hml]
              generalize (aroundN R C x).getD m 0 = j at *
              have co : V.cell? ⟨ob, j, none⟩ = some (.bool (decide (0 ≤ numIn (aroundN R C) (watB h lv) (R * C) k l j))) := by rw [oV.cell (by omega), vb_get _ hjn]
              have hneg := fun ha => numIn_neg (act := watB h lv) hnb bl hxl hjm ha
              by_cases hng : numIn (aroundN R C) (watB h lv) (R * C) k l j < 0
              · rw [decide_eq_false (by omega)] at co
                simp (disch := omega) only [go_sem, Nat.reduceEqDiff, ↓reduceIte, Nat.reduceAdd, a0, a1, a5, a11, a12, hlm, cj, co]
                have hji : ((j : Nat) : Int).toNat = j := by omega
                refine callK_pure (by kernel_rfl) (l2Height_c gb go gc rb ro _ R C h _ (hg.ext xV) hr7 hc7 (j : Int) (by omega) (by omega)) fun w9 x9 => ?_
                by_cases hhi : h j < lv
                · have ha : watB h lv j = true := by simp [watB, hhi]
                  have hjl := (hneg ha).1 hng
                  have cj9 := x9.cell cj
                  simp (disch := omega) only [go_sem, Nat.reduceEqDiff, ↓reduceIte, Nat.reduceAdd, a1, a5, a11, a12, hji, hhi, cj9]
                  refine stK_own siz_bool (by rfl) (by rfl) (oV.ext x9) (by omega) fun w10 o10 g10 => ?_
                  have n10 := (nV.ext x9).grow g10.grow (fun b hb e => by have h1 := nn nb rfl; simp [blk] at hb; simp at e; omega)
                  have l10 := (ol.ext x9).grow g10.grow (fun b hb e => by cases e; exact (fl ob hb).2.1 rfl)
                  have cj10 : w10.cell? ⟨nb, m, none⟩ = some (.int .i64 (j : Nat)) := by
                    have := g10.grow.cell cj9 (by intro e; have h1 := nn nb rfl; simp at e; omega)
                    exact this
                  have hset := vb_set (n := R * C) (x := j) (f := fun y => decide (0 ≤ numIn (aroundN R C) (watB h lv) (R * C) k l y)) (g := fun y => decide (0 ≤ numIn (aroundN R C) (watB h lv) (R * C) k (l ++ [j]) y)) (y := true) hjn (by simp [numIn]) (fun y hy hne => by simp only [numIn_push hne])
                  rw [hset] at o10
                  have x10 : Ext w w10 := g10.ext (xV.trans x9) hob
                  simp (disch := omega) only [go_sem, Nat.reduceEqDiff, ↓reduceIte, Nat.reduceAdd, a9, a11, a12, cj10]
                  refine bslK_1 elt_i rfl fun w11 b11 e11 x11 k11 _ => ?_
                  simp (disch := omega) only [go_sem, Nat.reduceEqDiff, ↓reduceIte, Nat.reduceAdd]
                  refine appK_1 elt_i (l10.ext x11) k11 rfl (by omega) (.inl (by decide)) fun w12 a12' c12 o12 g12 h12 => ?_
                  have s10 := x10.size
                  have s11 := x11.size
                  have n11 := (n10.ext x11).blk_lt (b := nb) rfl
                  have o11 := (o10.ext x11).blk_lt (b := ob) rfl
                  simp (disch := omega) only [go_sem, Nat.reduceEqDiff, ↓reduceIte, Nat.reduceAdd, a12]
                  have hbl := bl.push hnb hxl hjm ha hjl
                  refine ⟨hml, (by first | assumption | (simp only [upd_apply, Nat.reduceEqDiff, ↓reduceIte] <;> first | rfl | assumption) | simp [upd_apply, *]), (by first | assumption | (simp only [upd_apply, Nat.reduceEqDiff, ↓reduceIte] <;> first | rfl | assumption) | simp [upd_apply, *]), (by first | assumption | (simp only [upd_apply, Nat.reduceEqDiff, ↓reduceIte] <;> first | rfl | assumption) | simp [upd_apply, *]), (by first | assumption | (simp only [upd_apply, Nat.reduceEqDiff, ↓reduceIte] <;> first | rfl | assumption) | simp [upd_apply, *]), (by first | assumption | (simp only [upd_apply, Nat.reduceEqDiff, ↓reduceIte] <;> first | rfl | assumption) | simp [upd_apply, *]), (by first | assumption | (simp only [upd_apply, Nat.reduceEqDiff, ↓reduceIte] <;> first | rfl | assumption) | simp [upd_apply, *]), (by first | assumption | (simp only [upd_apply, Nat.reduceEqDiff, ↓reduceIte] <;> first | rfl | assumption) | simp [upd_apply, *]), (by first | assumption | (simp only [upd_apply, Nat.reduceEqDiff, ↓reduceIte] <;> first | rfl | assumption) | simp [upd_apply, *]), (by first | assumption | (simp only [upd_apply, Nat.reduceEqDiff, ↓reduceIte] <;> first | rfl | assumption) | simp [upd_apply, *]), g12.ext (x10.trans x11) (fun b hb => (fl b hb).1), (n10.ext x11).grow g12 (fun b hb e => (fl b e).2.2 hb), l ++ [j], by simp; omega, by rw [List.getElem?_append_left hpl]; exact hx, by simp [hxl], by rw [List.take_append_of_le_length (by omega)]; exact hany, hbl, cl.push (by omega) j, fun y hy hya => ?_, (o10.ext x11).grow g12 (fun b hb e => (fl b e).2.1 (by cases hb; rfl)), a12', c12, by simp [upd_apply], ?_, fun b hb => ?_⟩
                  · rw [htk] at hy
                    rcases List.mem_append.1 hy with h1 | h1
                    · exact List.mem_append_left _ (hm' y h1 hya)
                    · exact List.mem_append_right _ h1
                  · rw [← vi_ni_snoc l _ _ rfl]; simpa using o12
                  · rcases h12 b hb with h1 | h1
                    · exact fl b h1
                    · exact ⟨by omega, by omega, fun e => by simp [blk] at e; omega⟩
                · have ha : watB h lv j = false := by simp [watB]; omega
                  simp (disch := omega) only [go_sem, Nat.reduceEqDiff, ↓reduceIte, Nat.reduceAdd, a1, a12, hji, hhi]
                  refine ⟨hml, (by first | assumption | (simp only [upd_apply, Nat.reduceEqDiff, ↓reduceIte] <;> first | rfl | assumption) | simp [upd_apply, *]), (by first | assumption | (simp only [upd_apply, Nat.reduceEqDiff, ↓reduceIte] <;> first | rfl | assumption) | simp [upd_apply, *]), (by first | assumption | (simp only [upd_apply, Nat.reduceEqDiff, ↓reduceIte] <;> first | rfl | assumption) | simp [upd_apply, *]), (by first | assumption | (simp only [upd_apply, Nat.reduceEqDiff, ↓reduceIte] <;> first | rfl | assumption) | simp [upd_apply, *]), (by first | assumption | (simp only [upd_apply, Nat.reduceEqDiff, ↓reduceIte] <;> first | rfl | assumption) | simp [upd_apply, *]), (by first | assumption | (simp only [upd_apply, Nat.reduceEqDiff, ↓reduceIte] <;> first | rfl | assumption) | simp [upd_apply, *]), (by first | assumption | (simp only [upd_apply, Nat.reduceEqDiff, ↓reduceIte] <;> first | rfl | assumption) | simp [upd_apply, *]), (by first | assumption | (simp only [upd_apply, Nat.reduceEqDiff, ↓reduceIte] <;> first | rfl | assumption) | simp [upd_apply, *]), (by first | assumption | (simp only [upd_apply, Nat.reduceEqDiff, ↓reduceIte] <;> first | rfl | assumption) | simp [upd_apply, *]), xV.trans x9, nV.ext x9, l, hpl, hx, hxl, hany, bl, cl, fun y hy hya => ?_, oV.ext x9, la, lc, (by first | assumption | (simp only [upd_apply, Nat.reduceEqDiff, ↓reduceIte] <;> first | rfl | assumption) | simp [upd_apply, *]), ol.ext x9, fl⟩
                  rw [htk] at hy
                  rcases List.mem_append.1 hy with h1 | h1
                  · exact hm' y h1 hya
                  · rw [List.mem_singleton] at h1; subst h1; rw [ha] at hya; cases hya
              · rw [decide_eq_true (by omega)] at co
                simp (disch := omega) only [go_sem, Nat.reduceEqDiff, ↓reduceIte, Nat.reduceAdd, a5, a11, a12, hlm, cj, co]
                refine ⟨hml, (by first | assumption | (simp only [upd_apply, Nat.reduceEqDiff, ↓reduceIte] <;> first | rfl | assumption) | simp [upd_apply, *]), (by first | assumption | (simp only [upd_apply, Nat.reduceEqDiff, ↓reduceIte] <;> first | rfl | assumption) | simp [upd_apply, *]), (by first | assumption | (simp only [upd_apply, Nat.reduceEqDiff, ↓reduceIte] <;> first | rfl | assumption) | simp [upd_apply, *]), (by first | assumption | (simp only [upd_apply, Nat.reduceEqDiff, ↓reduceIte] <;> first | rfl | assumption) | simp [upd_apply, *]), (by first | assumption | (simp only [upd_apply, Nat.reduceEqDiff, ↓reduceIte] <;> first | rfl | assumption) | simp [upd_apply, *]), (by first | assumption | (simp only [upd_apply, Nat.reduceEqDiff, ↓reduceIte] <;> first | rfl | assumption) | simp [upd_apply, *]), (by first | assumption | (simp only [upd_apply, Nat.reduceEqDiff, ↓reduceIte] <;> first | rfl | assumption) | simp [upd_apply, *]), (by first | assumption | (simp only [upd_apply, Nat.reduceEqDiff, ↓reduceIte] <;> first | rfl | assumption) | simp [upd_apply, *]), (by first | assumption | (simp only [upd_apply, Nat.reduceEqDiff, ↓reduceIte] <;> first | rfl | assumption) | simp [upd_apply, *]), xV, nV, l, hpl, hx, hxl, hany, bl, cl, fun y hy hya => ?_, oV, la, lc, (by first | assumption | (simp only [upd_apply, Nat.reduceEqDiff, ↓reduceIte] <;> first | rfl | assumption) | simp [upd_apply, *]), ol, fl⟩
                rw [htk] at hy
                rcases List.mem_append.1 hy with h1 | h1
                · exact hm' y h1 hya
                · rw [List.mem_singleton] at h1; subst h1
                  by_cases hjl : y ∈ l
                  · exact hjl
                  · exact absurd ((hneg hya).2 hjl) hng
            · obtain rfl : m = (aroundN R C x).length := by omega
              rw [List.take_length] at hm'
              simp (disch := omega) only [go_sem, Nat.reduceEqDiff, ↓reduceIte, Nat.reduceAdd, a10, a11, a12, hlm]
              exact ⟨by omega, (by first | assumption | (simp only [upd_apply, Nat.reduceEqDiff, ↓reduceIte] <;> first | rfl | assumption) | simp [upd_apply, *]), (by first | assumption | (simp only [upd_apply, Nat.reduceEqDiff, ↓reduceIte] <;> first | rfl | assumption) | simp [upd_apply, *]), (by first | assumption | (simp only [upd_apply, Nat.reduceEqDiff, ↓reduceIte] <;> first | rfl | assumption) | simp [upd_apply, *]), (by first | assumption | (simp only [upd_apply, Nat.reduceEqDiff, ↓reduceIte] <;> first | rfl | assumption) | simp [upd_apply, *]), (by first | assumption | (simp only [upd_apply, Nat.reduceEqDiff, ↓reduceIte] <;> first | rfl | assumption) | simp [upd_apply, *]), (by first | assumption | (simp only [upd_apply, Nat.reduceEqDiff, ↓reduceIte] <;> first | rfl | assumption) | simp [upd_apply, *]), xV, l, by omega, by rw [hany]; exact (by first | assumption | (simp only [upd_apply, Nat.reduceEqDiff, ↓reduceIte] <;> first | rfl | assumption) | simp [upd_apply, *]), bl, cl.step hx hm', oV, la, lc, (by first | assumption | (simp only [upd_apply, Nat.reduceEqDiff, ↓reduceIte] <;> first | rfl | assumption) | simp [upd_apply, *]), ol, fun b hb => ⟨(fl b hb).1, (fl b hb).2.1⟩⟩
        · obtain rfl : p = l.length := by omega
          rw [List.take_length] at a8
          have hall := cl.all
          have e1 : vb (R * C) (fun j => decide (0 ≤ numIn (aroundN R C) (watB h lv) (R * C) k l j)) = vb (R * C) (fun j => decide (0 ≤ numTo (aroundN R C) (watB h lv) (R * C) (k + 1) j)) := vb_congr fun j hj => by simp only [numIn_end hnb hsym bl hall hj]
          rw [e1] at oV
          have hop := lake_any bl hall
          cases hfl : l.any (bordB R C) with
          | true =>
            rw [hfl] at hop a8
            have hs := lake_skip (R := R) (C := C) (act := watB h lv) (k := k) fun hh => by rw [hh.2] at hop; cases hop
            simp (disch := omega) only [go_sem, Nat.reduceEqDiff, ↓reduceIte, Nat.reduceAdd, a7, a8, a9, a10, hlp]
            exact ⟨hkn, (by first | assumption | (simp only [upd_apply, Nat.reduceEqDiff, ↓reduceIte] <;> first | rfl | assumption) | simp [upd_apply, *]), (by first | assumption | (simp only [upd_apply, Nat.reduceEqDiff, ↓reduceIte] <;> first | rfl | assumption) | simp [upd_apply, *]), (by first | assumption | (simp only [upd_apply, Nat.reduceEqDiff, ↓reduceIte] <;> first | rfl | assumption) | simp [upd_apply, *]), by simp [upd_apply, hs, a6], (by first | assumption | (simp only [upd_apply, Nat.reduceEqDiff, ↓reduceIte] <;> first | rfl | assumption) | simp [upd_apply, *]), oV, xV⟩
          | false =>
            rw [hfl] at hop a8
            have hs := lake_take (show lakeP R C (watB h lv) k from ⟨hroot, hop⟩)
            simp (disch := omega) only [go_sem, Nat.reduceEqDiff, ↓reduceIte, Nat.reduceAdd, a6, a7, a8, a9, a10, hlp]
            exact ⟨hkn, (by first | assumption | (simp only [upd_apply, Nat.reduceEqDiff, ↓reduceIte] <;> first | rfl | assumption) | simp [upd_apply, *]), (by first | assumption | (simp only [upd_apply, Nat.reduceEqDiff, ↓reduceIte] <;> first | rfl | assumption) | simp [upd_apply, *]), (by first | assumption | (simp only [upd_apply, Nat.reduceEqDiff, ↓reduceIte] <;> first | rfl | assumption) | simp [upd_apply, *]), by simp [upd_apply, hs], (by first | assumption | (simp only [upd_apply, Nat.reduceEqDiff, ↓reduceIte] <;> first | rfl | assumption) | simp [upd_apply, *]), oV, xV⟩
  · obtain rfl : k = R * C := by omega
    simp (disch := omega) only [go_sem, Nat.reduceEqDiff, ↓reduceIte, Nat.reduceAdd, a5, a6, a7, hlt, Try.results45]
    exact ⟨rfl, xV⟩
end Go.Proofs.Ytdlepfeckiahdaa
