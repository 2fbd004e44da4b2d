/- Contract: field.passes. -/
import Derived.Test.YtdlepfeckiahdaaQb
import Derived.Test.YtdlepfeckiahdaaQc
set_option linter.all false
namespace Go.SW
open Go Go.RowKit
theorem unk_less {kn : Nat → Int} {N c : Nat} {p : Int} (hc : c < N) (hk : kn c = -1) (hp : 0 ≤ p) : cntp (fun x => (if x = c then p else kn x) = -1) N + 1 ≤ cntp (fun x => kn x = -1) N := by
  refine (cntp_more (fun x => (if x = c then p else kn x) = -1) (fun x => kn x = -1) N fun i _ hi => ?_).2 ⟨c, hc, hk, ?_⟩
  · by_cases e : i = c
    · rw [if_pos e] at hi; omega
    · rw [if_neg e] at hi; exact hi
  · simp; omega
end Go.SW
namespace Go.Proofs.Ytdlepfeckiahdaa
open Go.RowKit Go.SW

theorem passes_c (R C cb : Nat) (h : Nat → Int) (a : Nat) (w : World) (g : Gd R C h) (hc : CellsAt w cb (R * C) h) (ha : a < R * C) :
    Ret Try.prog 107 #[.agg #[.int .i64 R, .int .i64 C, .slice (some ⟨cb, 0, none⟩) (R * C) (R * C)], .int .i64 a] w fun v w' => ∃ b, v = .slice (some ⟨b, 0, none⟩) (R * C) (R * C) ∧ w.heap.size ≤ b ∧
      OwnS w' 3 1 (some ⟨b, 0, none⟩) (R * C) (R * C) (vi ((List.range (R * C)).map (passN R C h a))) ∧ Ext w w' := by
  have hn49 := g.le
  have hpos := g.pos
  have hcl := hc.lt hpos
  refine enter2 Try.func107 rfl (by kernel_rfl) (of_decide_eq_true (by kernel_rfl)) fun f a0 a1 => ?_
  simp only [go_sem, Nat.reduceEqDiff, ↓reduceIte, a0]
  refine boxK_of fun w0 fb efb x0 kb _ => ?_
  have s0 := x0.size
  have kb : Blk w0 fb #[.int .i64 R, .int .i64 C, .slice (some ⟨cb, 0, none⟩) (R * C) (R * C)] 45 := by simpa [Value.cells] using kb
  have kl := kb.lt
  simp (disch := omega) only [go_sem, Nat.reduceEqDiff, ↓reduceIte, Nat.reduceAdd, kb.cell]
  refine mksK_of elt_i (R * C) (R * C) _ _ _ _ rfl rfl (Nat.le_refl _) (by omega) (by simp [maxLen]; omega) fun w1 nb e1 x1 o1 _ => ?_
  have s1 := x1.size
  simp only [Value.cells, made_int] at o1
  rw [vi_rangeI_zero (R * C) (fun x => if x < 0 then -1 else 0) (fun j _ => by simp)] at o1
  have kb1 := kb.ext x1
  have hc1 := (hc.ext x0).ext x1
  simp (disch := omega) only [go_sem, Nat.reduceEqDiff, ↓reduceIte, Nat.reduceAdd]
  refine loopN (R * C) (fun k f W => f 1 = .int .i64 a ∧ f 2 = .pointer (some ⟨fb, 0, none⟩) ∧ f 5 = .slice (some ⟨nb, 0, none⟩) (R * C) (R * C) ∧ f 16 = .int .i64 (R * C : Nat) ∧ f 17 = .int .i64 k ∧ OwnS W 3 1 (some ⟨nb, 0, none⟩) (R * C) (R * C) (vi ((List.range (R * C)).map fun x => if x < k then -1 else 0)) ∧ Grow (some nb) w1 W) ⟨(by first | assumption | (simp only [upd_apply, Nat.reduceEqDiff, ↓reduceIte] <;> first | rfl | assumption) | simp [upd_apply, *]), (by first | assumption | (simp only [upd_apply, Nat.reduceEqDiff, ↓reduceIte] <;> first | rfl | assumption) | simp [upd_apply, *]), (by first | assumption | (simp only [upd_apply, Nat.reduceEqDiff, ↓reduceIte] <;> first | rfl | assumption) | simp [upd_apply, *]), (by first | assumption | (simp only [upd_apply, Nat.reduceEqDiff, ↓reduceIte] <;> first | rfl | assumption) | simp [upd_apply, *]), (by first | assumption | (simp only [upd_apply, Nat.reduceEqDiff, ↓reduceIte] <;> first | rfl | assumption) | simp [upd_apply, *]), o1, Grow.refl _ _⟩ fun k f W hk ⟨a1, a2, a5, a16, a17, oW, gW⟩ => ?_
  by_cases hlt : (k : Int) < (R * C : Nat)
  · have hkn : k < R * C := by omega
    simp (disch := omega) only [go_sem, Nat.reduceEqDiff, ↓reduceIte, Nat.reduceAdd, a5, a16, a17, hlt]
    refine stK_own siz_int (by rfl) (by rfl) oW (by omega) fun w2 o2 g2 => ?_
    rw [vi_rangeI_set (f := fun x => if x < k then -1 else 0) (g := fun x => if x < k + 1 then -1 else 0) hkn (by simp) (fun j hj hne => by
      by_cases e : j < k
      · simp [e]; omega
      · simp [e]; omega)] at o2
    simp (disch := omega) only [go_sem, Nat.reduceEqDiff, ↓reduceIte, Nat.reduceAdd, a17]
    exact ⟨hkn, (by first | assumption | (simp only [upd_apply, Nat.reduceEqDiff, ↓reduceIte] <;> first | rfl | assumption) | simp [upd_apply, *]), (by first | assumption | (simp only [upd_apply, Nat.reduceEqDiff, ↓reduceIte] <;> first | rfl | assumption) | simp [upd_apply, *]), (by first | assumption | (simp only [upd_apply, Nat.reduceEqDiff, ↓reduceIte] <;> first | rfl | assumption) | simp [upd_apply, *]), (by first | assumption | (simp only [upd_apply, Nat.reduceEqDiff, ↓reduceIte] <;> first | rfl | assumption) | simp [upd_apply, *]), (by first | assumption | (simp only [upd_apply, Nat.reduceEqDiff, ↓reduceIte] <;> first | rfl | assumption) | simp [upd_apply, *]), o2, gW.trans g2.grow⟩
  · have ek : k = R * C := by omega
    have eL : (vi ((List.range (R * C)).map fun x => if x < k then (-1 : Int) else 0)) = vi ((List.range (R * C)).map fun _ => (-1 : Int)) := by
      congr 1
      exact List.map_congr_left fun x hx => by have := List.mem_range.1 hx; rw [if_pos (by omega)]
    rw [eL] at oW
    have kbW := gW.blk kb1 (by simp; omega)
    have hcW := hc1.grow gW (by simp; omega)
    have xW : Ext w W := gW.ext (x0.trans x1) (fun b hb => by have : nb = b := by simpa using hb
                                                              omega)
    have sW := gW.size
    have hnb : nb < W.heap.size := oW.blk_lt rfl
    simp (disch := omega) only [go_sem, Nat.reduceEqDiff, ↓reduceIte, Nat.reduceAdd, a16, a17, hlt]
    refine allocK_of zero_q fun w2 pb epb x2 kp _ => ?_
    have s2 := x2.size
    simp (disch := omega) only [go_sem, Nat.reduceEqDiff, ↓reduceIte, Nat.reduceAdd]
    refine stK_agg siz_q (by simp) (by simp [Value.oneCell']) kp (by simp) fun w3 kp3 g3 => ?_
    have kp3 : Blk w3 pb #[fvS, .slice none 0 0] 92 := by simpa [fvS] using kp3
    have kb3 := g3.grow.blk (kbW.ext x2) (by simp; omega)
    have hc3 : CellsAt w3 cb (R * C) h := (hcW.ext x2).grow g3.grow (by simp; omega)
    have o3 : OwnS w3 3 1 (some ⟨nb, 0, none⟩) (R * C) (R * C) (vi ((List.range (R * C)).map fun _ => (-1 : Int))) := (oW.ext x2).grow g3.grow (fun b hb e => by have h1 : nb = b := (by simpa [blk] using hb); have h2 : pb = b := (by simpa using e); omega)
    have x3 : Ext w w3 := g3.ext (xW.trans x2) (by have := xW.size; omega)
    have ca := hc3 a ha
    have hha := g.hh a ha
    simp (disch := omega) only [go_sem, Nat.reduceEqDiff, ↓reduceIte, Nat.reduceAdd, a1, a2, kb3.cell, ca]
    refine callK_of (by kernel_rfl) (put2_c pb none 0 0 (fun _ => (0, 0)) (a, h a) _ ⟨kp3, by simpa [sv] using OwnS.nil _ _ _, by simp [blk]⟩ (fun j h1 h2 => by omega) (by omega)) ?_
    rintro _ w4 ⟨pa, pc, L, p4, hp4, b4, f4, g4⟩
    have hL0 : L 0 = (a, h a) := by
      have h1 : 0 < bag 1 L (L 0) := bag_mem.2 ⟨0, by omega, rfl⟩
      have h2 := b4 (L 0)
      by_cases e : (a, h a) = L 0
      · exact e.symm
      · rw [if_neg e] at h2
        have : bag 0 (fun _ => ((0 : Nat), (0 : Int))) (L 0) = 0 := rfl
        simp only [Nat.zero_add] at h2
        omega
    have kp4 := p4.1.lt
    have kb4 : Blk w4 fb #[.int .i64 R, .int .i64 C, .slice (some ⟨cb, 0, none⟩) (R * C) (R * C)] 45 := g4.blk kb3 (by rintro (e | e); omega; cases e)
    have hc4 : CellsAt w4 cb (R * C) h := g4.cells hc3 (by rintro (e | e); omega; cases e)
    have o4 : OwnS w4 3 1 (some ⟨nb, 0, none⟩) (R * C) (R * C) (vi ((List.range (R * C)).map fun _ => (-1 : Int))) := g4.own o3 (fun b hb => by
      have h1 : nb = b := (by simpa [blk] using hb)
      rintro (e | e)
      · omega
      · cases e)
    have x4 : Ext w w4 := g4.ext x3 (by rintro b (e | e); have := xW.size; omega; cases e)
    have hU : cntp (fun x => (fun _ : Nat => (-1 : Int)) x = -1) (R * C) ≤ 49 := Nat.le_trans (cntp_le' _ _) hn49
    have f4' : ∀ b, blk pa = some b → pb < b := fun b hb => by
      rcases f4 b hb with e | e
      · cases e
      · have := g3.size; omega
    simp (disch := omega) only [go_sem, Nat.reduceEqDiff, ↓reduceIte, Nat.reduceAdd]
    refine loopX (fun s f V => f 2 = .pointer (some ⟨fb, 0, none⟩) ∧ f 5 = .slice (some ⟨nb, 0, none⟩) (R * C) (R * C) ∧ f 7 = .pointer (some ⟨pb, 0, none⟩) ∧ ∃ (kn : Nat → Int) (m : Nat) (L : Nat → Nat × Int) (pa : Option Addr) (pc : Nat), s = 5 * cntp (fun x => kn x = -1) (R * C) + m ∧ s ≤ 250 ∧
      PileS V pb pa pc m L ∧ Heap stB m L ∧ PInv R C h a (nearN R C) kn m L ∧ OwnS V 3 1 (some ⟨nb, 0, none⟩) (R * C) (R * C) (vi ((List.range (R * C)).map kn)) ∧ Blk V fb #[.int .i64 R, .int .i64 C, .slice (some ⟨cb, 0, none⟩) (R * C) (R * C)] 45 ∧ CellsAt V cb (R * C) h ∧ Ext w V ∧ (∀ b, blk pa = some b → pb < b))
      (5 * cntp (fun x => (fun _ : Nat => (-1 : Int)) x = -1) (R * C) + 1) ⟨(by first | assumption | (simp only [upd_apply, Nat.reduceEqDiff, ↓reduceIte] <;> first | rfl | assumption) | simp [upd_apply, *]), (by first | assumption | (simp only [upd_apply, Nat.reduceEqDiff, ↓reduceIte] <;> first | rfl | assumption) | simp [upd_apply, *]), (by first | assumption | (simp only [upd_apply, Nat.reduceEqDiff, ↓reduceIte] <;> first | rfl | assumption) | simp [upd_apply, *]), fun _ => -1, 1, L, pa, pc, rfl, by omega, p4, hp4, PInv.begin g ha hL0, o4, kb4, hc4, x4, f4'⟩ fun s f V ⟨a2, a5, a7, kn, m, L, pa, pc, hs, hs250, pV, hpV, iV, oV, kV, cV, xV, fV⟩ => ?_
    have hbV : pb < V.heap.size := pV.1.lt
    cases m with
    | zero =>
      have hz : ¬ (0 : Int) < ((0 : Nat) : Int) := by omega
      simp (disch := omega) only [go_sem, Nat.reduceEqDiff, ↓reduceIte, Nat.reduceAdd, a5, a7, pV.1.cell, hz, Try.results107]
      refine ⟨nb, by first | rfl | trivial, by omega, ?_, xV⟩
      have e : (List.range (R * C)).map kn = (List.range (R * C)).map (passN R C h a) := List.map_congr_left fun x hx => iV.done g ha (List.mem_range.1 hx)
      rw [← e]; exact oV
    | succ m =>
      have hgt0 : (0 : Int) < ((m + 1 : Nat) : Int) := by omega
      simp (disch := omega) only [go_sem, Nat.reduceEqDiff, ↓reduceIte, Nat.reduceAdd, a7, pV.1.cell, hgt0]
      refine callK_of (by kernel_rfl) (take2_c pb pa pc m L _ pV hpV (by omega)) ?_
      rintro _ w5 ⟨rfl, L', p5, hp5, b5, g5⟩
      obtain ⟨i1, i2, i3, i4⟩ := iV.items 0 (by omega)
      have hkc := iV.ok _ i1
      have kV5 : Blk w5 fb #[.int .i64 R, .int .i64 C, .slice (some ⟨cb, 0, none⟩) (R * C) (R * C)] 45 := g5.blk kV (by
        rintro (e | e)
        · omega
        · have := fV fb e; omega)
      have cV5 : CellsAt w5 cb (R * C) h := g5.cells cV (by
        rintro (e | e)
        · omega
        · have := fV cb e; omega)
      have oV5 : OwnS w5 3 1 (some ⟨nb, 0, none⟩) (R * C) (R * C) (vi ((List.range (R * C)).map kn)) := g5.own oV (fun b hb => by
        have h1 : nb = b := (by simpa [blk] using hb)
        rintro (e | e)
        · omega
        · have := fV b e; omega)
      have xV5 : Ext w w5 := g5.ext xV (by
        have := xW.size
        rintro b (e | e)
        · omega
        · have := fV b e; omega)
      simp (disch := omega) only [go_sem, Nat.reduceEqDiff, ↓reduceIte, Nat.reduceAdd, stV]
      refine allocK_of zero_st fun w6 sb esb x6 ks _ => ?_
      simp (disch := omega) only [go_sem, Nat.reduceEqDiff, ↓reduceIte, Nat.reduceAdd]
      refine stK_agg siz_st (by simp) (by simp [Value.oneCell']) ks (by simp) fun w7 ks7 g7 => ?_
      have s5 := g5.size
      have s6 := x6.size
      have s7 := g7.size
      have ks7 : Blk w7 sb #[.int .i64 ((L 0).1 : Nat), .int .i64 (L 0).2] 88 := by simpa using ks7
      have far7 : ∀ b, b < w5.heap.size → (some sb : Option Nat) ≠ some b := fun b hb e => by have : sb = b := (by simpa using e); omega
      have p7 : PileS w7 pb pa pc m L' := ⟨g7.grow.blk (p5.1.ext x6) (far7 _ p5.1.lt), (p5.2.1.ext x6).grow g7.grow (fun b hb => far7 b (p5.2.1.blk_lt hb)), p5.2.2⟩
      have kV7 := g7.grow.blk (kV5.ext x6) (far7 _ kV5.lt)
      have cV7 : CellsAt w7 cb (R * C) h := (cV5.ext x6).grow g7.grow (far7 _ (cV5.lt hpos))
      have oV7 : OwnS w7 3 1 (some ⟨nb, 0, none⟩) (R * C) (R * C) (vi ((List.range (R * C)).map kn)) := (oV5.ext x6).grow g7.grow (fun b hb => far7 b (oV5.blk_lt hb))
      have xV7 : Ext w w7 := g7.ext (xV5.trans x6) (by have := xV5.size; omega)
      have hbs : pb < sb := by have := p5.1.lt; omega
      have hpas : ∀ b, blk pa = some b → b < sb := fun b hb => by have := p5.2.1.blk_lt hb; omega
      generalize hcd : (L 0).1 = c at *
      generalize hpd : (L 0).2 = p at *
      have ck : w7.cell? ⟨nb, c, none⟩ = some (.int .i64 (kn c)) := by rw [oV7.cell (by omega)]; exact vi_rangeI_get _ i1
      by_cases hk0 : 0 ≤ kn c
      · simp (disch := omega) only [go_sem, Nat.reduceEqDiff, ↓reduceIte, Nat.reduceAdd, a5, ks7.cell, ck, hk0]
        have hs2 := iV.skip b5 (by rw [hcd]; exact hk0)
        exact ⟨_, by omega, (by first | assumption | (simp only [upd_apply, Nat.reduceEqDiff, ↓reduceIte] <;> first | rfl | assumption) | simp [upd_apply, *]), (by first | assumption | (simp only [upd_apply, Nat.reduceEqDiff, ↓reduceIte] <;> first | rfl | assumption) | simp [upd_apply, *]), (by first | assumption | (simp only [upd_apply, Nat.reduceEqDiff, ↓reduceIte] <;> first | rfl | assumption) | simp [upd_apply, *]), kn, m, L', pa, pc, rfl, by omega, p7, hp5, hs2, oV7, kV7, cV7, xV7, fV⟩
      · have hkm : kn c = -1 := by rcases hkc with e | ⟨e, _⟩ <;> omega
        have hU1 := unk_less (kn := kn) (N := R * C) (c := c) (p := p) i1 hkm i2
        have iK := iV.know hpV ha b5 (by rw [hcd]; exact hkm)
        rw [hcd, hpd] at iK
        simp (disch := omega) only [go_sem, Nat.reduceEqDiff, ↓reduceIte, Nat.reduceAdd, a5, ks7.cell, ck, hk0]
        refine stK_own siz_int (by rfl) (by rfl) oV7 (by omega) fun w8 o8 g8 => ?_
        rw [vi_rangeI_set (f := kn) (g := fun x => if x = c then p else kn x) i1 (by simp) (fun j hj hne => by simp [hne])] at o8
        have far8 : ∀ b, b ≠ nb → (some nb : Option Nat) ≠ some b := fun b hb e => hb (by have : nb = b := (by simpa using e); omega)
        have ks8 := g8.grow.blk ks7 (far8 _ (by omega))
        have p8 : PileS w8 pb pa pc m L' := ⟨g8.grow.blk p7.1 (far8 _ (by omega)), p7.2.1.grow g8.grow (fun b hb => far8 b (by have := fV b hb; omega)), p7.2.2⟩
        have kV8 := g8.grow.blk kV7 (far8 _ (by omega))
        have cV8 : CellsAt w8 cb (R * C) h := cV7.grow g8.grow (far8 _ (by omega))
        have xV8 : Ext w w8 := g8.ext xV7 (by have := xW.size; omega)
        have s8 := g8.size
        generalize hkn' : (fun x => if x = c then p else kn x) = kn' at *
        have hkc' : kn' c = p := by rw [← hkn']; simp
        have hUe : cntp (fun x => (if x = c then p else kn x) = -1) (R * C) = cntp (fun x => kn' x = -1) (R * C) := by rw [← hkn']
        rw [hUe] at hU1
        simp (disch := omega) only [go_sem, Nat.reduceEqDiff, ↓reduceIte, Nat.reduceAdd, a2, ks8.cell, readCells_blk kV8 (n := 3) (by simp)]
        refine callK_of (by kernel_rfl) (neighbors_c _ _ c _ _ g.r7 g.c7 i1) ?_
        rintro _ w9 ⟨na, nc, rfl, no, nf, x9⟩
        have hn4 := nearN_len R C c
        have s9 := x9.size
        have iN : PInv R C h a (fun x => if x = c then (nearN R C c).take 0 else nearN R C x) kn' m L' := by
          have e : (fun x => if x = c then (nearN R C c).take 0 else nearN R C x) = (fun x => if x = c then [] else nearN R C x) := by funext x; rw [List.take_zero]
          rw [e]; exact iK
        simp (disch := omega) only [go_sem, Nat.reduceEqDiff, ↓reduceIte, Nat.reduceAdd]
        refine loopN (nearN R C c).length (fun q f U => f 2 = .pointer (some ⟨fb, 0, none⟩) ∧ f 5 = .slice (some ⟨nb, 0, none⟩) (R * C) (R * C) ∧ f 7 = .pointer (some ⟨pb, 0, none⟩) ∧ f 8 = .pointer (some ⟨sb, 0, none⟩) ∧ f 53 = .slice na (nearN R C c).length nc ∧ f 54 = .int .i64 (nearN R C c).length ∧ f 55 = .int .i64 q ∧ ∃ (n2 : Nat) (L2 : Nat → Nat × Int) (pa2 : Option Addr) (pc2 : Nat), n2 ≤ m + q ∧
          PileS U pb pa2 pc2 n2 L2 ∧ Heap stB n2 L2 ∧ PInv R C h a (fun x => if x = c then (nearN R C c).take q else nearN R C x) kn' n2 L2 ∧ OwnS U 3 1 (some ⟨nb, 0, none⟩) (R * C) (R * C) (vi ((List.range (R * C)).map kn')) ∧ Blk U fb #[.int .i64 R, .int .i64 C, .slice (some ⟨cb, 0, none⟩) (R * C) (R * C)] 45 ∧ CellsAt U cb (R * C) h ∧ Ext w U ∧ Blk U sb #[.int .i64 c, .int .i64 p] 88 ∧ OwnS U 3 1 na (nearN R C c).length nc (vi (ni (nearN R C c))) ∧ (∀ b, blk pa2 = some b → pb < b ∧ b ≠ sb ∧ blk na ≠ some b))
          ⟨(by first | assumption | (simp only [upd_apply, Nat.reduceEqDiff, ↓reduceIte] <;> first | rfl | assumption) | simp [upd_apply, *]), (by first | assumption | (simp only [upd_apply, Nat.reduceEqDiff, ↓reduceIte] <;> first | rfl | assumption) | simp [upd_apply, *]), (by first | assumption | (simp only [upd_apply, Nat.reduceEqDiff, ↓reduceIte] <;> first | rfl | assumption) | simp [upd_apply, *]), (by first | assumption | (simp only [upd_apply, Nat.reduceEqDiff, ↓reduceIte] <;> first | rfl | assumption) | simp [upd_apply, *]), (by first | assumption | (simp only [upd_apply, Nat.reduceEqDiff, ↓reduceIte] <;> first | rfl | assumption) | simp [upd_apply, *]), (by first | assumption | (simp only [upd_apply, Nat.reduceEqDiff, ↓reduceIte] <;> first | rfl | assumption) | simp [upd_apply, *]), (by first | assumption | (simp only [upd_apply, Nat.reduceEqDiff, ↓reduceIte] <;> first | rfl | assumption) | simp [upd_apply, *]), m, L', pa, pc, by omega, p8.ext x9, hp5, iN, o8.ext x9, kV8.ext x9, cV8.ext x9, xV8.trans x9, ks8.ext x9, no, fun b hb => ⟨fV b hb, by have := hpas b hb; omega, fun e => by have h1 := hpas b hb; have h2 := nf b e; have h3 := ks8.lt; omega⟩⟩ fun q f U hq ⟨a2, a5, a7, a8, a53, a54, a55, n2, L2, pa2, pc2, hn2, pU, hpU, iU, oU, kU, cU, xU, ksU, noU, fU⟩ => ?_
        by_cases hlq : (q : Int) < (nearN R C c).length
        · have hql : q < (nearN R C c).length := by omega
          obtain ⟨nab, rfl⟩ := noU.some (by omega)
          have hjm := getD_mem (d := 0) hql
          have hjn := nearN_lt i1 _ hjm
          have hjh := g.hh _ hjn
          have g0 : U.cell? ⟨nab, q, none⟩ = some (.int .i64 ((nearN R C c).getD q 0 : Nat)) := by rw [noU.cell (by omega), vi_get _ _ (by rw [ni_len]; omega), ni_get _ hql]
          have ckj : U.cell? ⟨nb, (nearN R C c).getD q 0, none⟩ = some (.int .i64 (kn' ((nearN R C c).getD q 0))) := by rw [oU.cell (by omega)]; exact vi_rangeI_get _ hjn
          have hkj := iU.ok _ hjn
          by_cases hj0 : kn' ((nearN R C c).getD q 0) < 0
          · have cj := cU _ hjn
            simp (disch := omega) only [go_sem, Nat.reduceEqDiff, ↓reduceIte, Nat.reduceAdd, a5, a53, a54, a55, hlq, g0, ckj, hj0]
            refine QR_tail 9 (by kernel_rfl) (by kernel_rfl) ?_
            simp (disch := omega) only [go_sem, Nat.reduceEqDiff, ↓reduceIte, Nat.reduceAdd, a2, a7, a8, ksU.cell, kU.cell, cj]
            intro U1 y1
            refine callK_of (by kernel_rfl) (put2_c pb pa2 pc2 n2 L2 ((nearN R C c).getD q 0, min p (h ((nearN R C c).getD q 0))) _ (pU.ext y1) hpU (by omega)) ?_
            rintro _ U2 ⟨pa3, pc3, L3, p3, hp3, b3, f3, g3'⟩
            have iP := iU.put g i1 (by omega) hql (by rw [hkc']; exact b3)
            have sy := y1.size
            have sg := g3'.size
            have oU1 := oU.ext y1
            have kU1 := kU.ext y1
            have cU1 := cU.ext y1
            have ksU1 := ksU.ext y1
            have noU1 := noU.ext y1
            have xU1 := xU.trans y1
            have kl1 := ksU.lt
            have nl1 : nab < U.heap.size := noU.blk_lt rfl
            simp (disch := omega) only [go_sem, Nat.reduceEqDiff, ↓reduceIte, Nat.reduceAdd, a55]
            refine ⟨hql, (by first | assumption | (simp only [upd_apply, Nat.reduceEqDiff, ↓reduceIte] <;> first | rfl | assumption) | simp [upd_apply, *]), (by first | assumption | (simp only [upd_apply, Nat.reduceEqDiff, ↓reduceIte] <;> first | rfl | assumption) | simp [upd_apply, *]), (by first | assumption | (simp only [upd_apply, Nat.reduceEqDiff, ↓reduceIte] <;> first | rfl | assumption) | simp [upd_apply, *]), (by first | assumption | (simp only [upd_apply, Nat.reduceEqDiff, ↓reduceIte] <;> first | rfl | assumption) | simp [upd_apply, *]), (by first | assumption | (simp only [upd_apply, Nat.reduceEqDiff, ↓reduceIte] <;> first | rfl | assumption) | simp [upd_apply, *]), (by first | assumption | (simp only [upd_apply, Nat.reduceEqDiff, ↓reduceIte] <;> first | rfl | assumption) | simp [upd_apply, *]), (by first | assumption | (simp only [upd_apply, Nat.reduceEqDiff, ↓reduceIte] <;> first | rfl | assumption) | simp [upd_apply, *]), n2 + 1, L3, pa3, pc3, by omega, p3, hp3, iP, g3'.own oU1 (fun b hb => ?_), g3'.blk kU1 ?_, g3'.cells cU1 ?_, g3'.ext xU1 ?_, g3'.blk ksU1 ?_, g3'.own noU1 (fun b hb => ?_), fun b hb => ?_⟩
            · have h1 : nb = b := (by simpa [blk] using hb)
              rintro (e | e)
              · omega
              · have := fU b e; omega
            · rintro (e | e)
              · omega
              · have := fU fb e; omega
            · rintro (e | e)
              · omega
              · have := fU cb e; omega
            · have := xW.size
              rintro b (e | e)
              · omega
              · have := fU b e; omega
            · rintro (e | e)
              · omega
              · exact (fU sb e).2.1 rfl
            · have h1 : nab = b := (by simpa [blk] using hb)
              rintro (e | e)
              · have := nf nab rfl
                omega
              · exact (fU b e).2.2 hb
            · rcases f3 b hb with e | e
              · exact fU b e
              · exact ⟨by have := pU.1.lt; omega, by omega, fun e2 => by have h1 : nab = b := (by simpa [blk] using e2); omega⟩
          · have hne : kn' ((nearN R C c).getD q 0) ≠ -1 := by omega
            simp (disch := omega) only [go_sem, Nat.reduceEqDiff, ↓reduceIte, Nat.reduceAdd, a5, a53, a54, a55, hlq, g0, ckj, hj0]
            exact ⟨hql, (by first | assumption | (simp only [upd_apply, Nat.reduceEqDiff, ↓reduceIte] <;> first | rfl | assumption) | simp [upd_apply, *]), (by first | assumption | (simp only [upd_apply, Nat.reduceEqDiff, ↓reduceIte] <;> first | rfl | assumption) | simp [upd_apply, *]), (by first | assumption | (simp only [upd_apply, Nat.reduceEqDiff, ↓reduceIte] <;> first | rfl | assumption) | simp [upd_apply, *]), (by first | assumption | (simp only [upd_apply, Nat.reduceEqDiff, ↓reduceIte] <;> first | rfl | assumption) | simp [upd_apply, *]), (by first | assumption | (simp only [upd_apply, Nat.reduceEqDiff, ↓reduceIte] <;> first | rfl | assumption) | simp [upd_apply, *]), (by first | assumption | (simp only [upd_apply, Nat.reduceEqDiff, ↓reduceIte] <;> first | rfl | assumption) | simp [upd_apply, *]), (by first | assumption | (simp only [upd_apply, Nat.reduceEqDiff, ↓reduceIte] <;> first | rfl | assumption) | simp [upd_apply, *]), n2, L2, pa2, pc2, by omega, pU, hpU, iU.near hql hne, oU, kU, cU, xU, ksU, noU, fU⟩
        · have eq : q = (nearN R C c).length := by omega
          rw [eq] at iU
          simp (disch := omega) only [go_sem, Nat.reduceEqDiff, ↓reduceIte, Nat.reduceAdd, a54, a55, hlq]
          exact ⟨_, by omega, (by first | assumption | (simp only [upd_apply, Nat.reduceEqDiff, ↓reduceIte] <;> first | rfl | assumption) | simp [upd_apply, *]), (by first | assumption | (simp only [upd_apply, Nat.reduceEqDiff, ↓reduceIte] <;> first | rfl | assumption) | simp [upd_apply, *]), (by first | assumption | (simp only [upd_apply, Nat.reduceEqDiff, ↓reduceIte] <;> first | rfl | assumption) | simp [upd_apply, *]), kn', n2, L2, pa2, pc2, rfl, by omega, pU, hpU, iU.full, oU, kU, cU, xU, fun b hb => (fU b hb).1⟩
end Go.Proofs.Ytdlepfeckiahdaa
