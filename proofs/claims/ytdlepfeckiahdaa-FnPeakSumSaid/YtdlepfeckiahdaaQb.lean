/- Piles of steps: contracts of put and take. -/
import Derived.Test.YtdlepfeckiahdaaQa
import Derived.Test.YtdlepfeckiahdaaPd
set_option linter.all false
namespace Go.Proofs.Ytdlepfeckiahdaa
open Go.RowKit Go.SW
theorem aggN_q : aggN Try.prog 92 = some 2 := by kernel_rfl
theorem scal_q : scal Try.prog 92 = false := by kernel_rfl
theorem foff_q0 : foff Try.prog 92 0 = some 0 := by kernel_rfl
theorem foff_q1 : foff Try.prog 92 1 = some 1 := by kernel_rfl
theorem scal_fnq : scal Try.prog 89 = true := by kernel_rfl
theorem scal_sst : scal Try.prog 90 = true := by kernel_rfl
theorem siz_sst : (Try.prog.info? 90).map (·.size) = some 1 := by kernel_rfl
theorem aggN_st : aggN Try.prog 88 = some 2 := by kernel_rfl
theorem scal_st : scal Try.prog 88 = false := by kernel_rfl
theorem foff_st0 : foff Try.prog 88 0 = some 0 := by kernel_rfl
theorem foff_st1 : foff Try.prog 88 1 = some 1 := by kernel_rfl
theorem siz_st : (Try.prog.info? 88).map (·.size) = some 2 := by kernel_rfl
theorem elt_st : elt Try.prog 90 = some (88, 2, .agg #[.int .i64 0, .int .i64 0], 16) := by kernel_rfl
theorem zero_st : zeroC Try.prog 88 = some #[.int .i64 0, .int .i64 0] := by kernel_rfl
theorem bld_st (a b : Int) : buildV Try.prog 88 [(0, .int .i64 a), (1, .int .i64 b)] = some (.agg #[.int .i64 a, .int .i64 b]) := by kernel_rfl
theorem zero_q : zeroC Try.prog 92 = some #[.nilFunc, .slice none 0 0] := by kernel_rfl
theorem siz_q : (Try.prog.info? 92).map (·.size) = some 2 := by kernel_rfl
theorem bld_q (fn : Fn) (x y : Array Value) : buildV Try.prog 92 [(0, .func fn x y)] = some (.agg #[.func fn x y, .slice none 0 0]) := by kernel_rfl
attribute [go_sem] aggN_q scal_q foff_q0 foff_q1 scal_fnq scal_sst aggN_st scal_st foff_st0 foff_st1 bld_st bld_q

/-- The function value of passes' order. -/
def fvS : Value := .func (.func 112) #[] #[]
def stV (p : Nat × Int) : Value := .agg #[.int .i64 (p.1 : Nat), .int .i64 p.2]
/-- A pile of steps in memory. -/
def PileS (w : World) (pb : Nat) (a : Option Addr) (c n : Nat) (L : Nat → Nat × Int) : Prop := Blk w pb #[fvS, .slice a n c] 92 ∧ OwnS w 88 2 a n c (sv n L) ∧ blk a ≠ some pb
theorem PileS.ext {w w' : World} {pb c n : Nat} {a : Option Addr} {L : Nat → Nat × Int} (p : PileS w pb a c n L) (e : Ext w w') : PileS w' pb a c n L := ⟨p.1.ext e, p.2.1.ext e, p.2.2⟩

theorem passes1_c (p q : Nat × Int) (w : World) :
    Ret Try.prog 112 #[stV p, stV q] w fun v w' => v = .bool (stB p q) ∧ Ext w w' := by
  refine enter2 Try.func112 rfl (by kernel_rfl) (of_decide_eq_true (by kernel_rfl)) fun f a0 a1 => ?_
  rw [stV] at a0 a1
  simp only [go_sem, Nat.reduceEqDiff, ↓reduceIte, a0]
  refine boxK_of fun w0 fb eb x0 k0 _ => ?_
  simp (disch := omega) only [go_sem, Nat.reduceEqDiff, ↓reduceIte, Nat.reduceAdd, a1]
  refine boxK_of fun w1 gb egb x1 k1 _ => ?_
  have k01 := k0.ext x1
  by_cases h : q.2 < p.2
  · simp (disch := omega) only [go_sem, Nat.reduceEqDiff, ↓reduceIte, Nat.reduceAdd, k01.cell, k1.cell, Value.cells, h, Try.results112]
    exact ⟨by simp [stB, h], x0.trans x1⟩
  · simp (disch := omega) only [go_sem, Nat.reduceEqDiff, ↓reduceIte, Nat.reduceAdd, k01.cell, k1.cell, Value.cells, h, Try.results112]
    exact ⟨by simp [stB, h], x0.trans x1⟩

theorem Grow.to {ob : Option Nat} {z : Nat} {w w' : World} (g : Grow ob w w') (h : ∀ b, ob = some b → z = b) : Grow (some z) w w' := ⟨g.os, g.tape, g.output, g.size, fun i hi hne => g.other i hi fun e => hne (by rw [h i e])⟩
theorem put2_c (pb : Nat) (a : Option Addr) (c n : Nat) (L : Nat → Nat × Int) (x : Nat × Int) (w : World) (p : PileS w pb a c n L) (hp : Heap stB n L) (hn : n ≤ 1000) :
    Ret Try.prog 113 #[.pointer (some ⟨pb, 0, none⟩), stV x] w fun _ w' => ∃ a' c' L', PileS w' pb a' c' (n + 1) L' ∧ Heap stB (n + 1) L' ∧ (∀ y, bag (n + 1) L' y = bag n L y + if x = y then 1 else 0) ∧
      (∀ b, blk a' = some b → blk a = some b ∨ w.heap.size ≤ b) ∧ GrowS (fun b => b = pb ∨ blk a = some b) w w' := by
  obtain ⟨pk, po, pne⟩ := p
  refine enter2 Try.func113 rfl (by kernel_rfl) (of_decide_eq_true (by kernel_rfl)) fun f a0 a1 => ?_
  simp only [go_sem, Nat.reduceEqDiff, ↓reduceIte, a1]
  refine boxK_of fun w0 fb efb x0 kb _ => ?_
  have s0 := x0.size
  have pl := pk.lt
  have kb : Blk w0 fb #[.int .i64 (x.1 : Nat), .int .i64 x.2] 88 := by simpa [stV, Value.cells] using kb
  obtain ⟨z, hz1, hz2, hz3⟩ : ∃ z, (∀ b, blk a = some b → z = b) ∧ z ≠ pb ∧ z ≠ fb := by
    cases hb : blk a with
    | none => exact ⟨fb + 1, (fun b h => nomatch h), by omega, by omega⟩
    | some b => exact ⟨b, (fun b' h => Option.some.inj h), (fun e => pne (by rw [hb, e])), (fun e => by have := po.blk_lt hb; omega)⟩
  simp (disch := omega) only [go_sem, Nat.reduceEqDiff, ↓reduceIte, Nat.reduceAdd, a0]
  refine QR_sch (some z) (.st 0 (.st 1 (.st 2 (.st 3 (.st 4 (.st 5 (.ef 6 (.ef 7 (.st 8 (.st 9 (.fin 10 (.done)))))))))))) (by kernel_rfl) (by kernel_rfl) fun w1 x1 => ?_
  have x01 := x0.trans x1
  have s1 := x01.size
  have pk1 := pk.ext x01
  have po1 := po.ext x01
  have kb1 := kb.ext x1
  simp (disch := omega) only [go_sem, Nat.reduceEqDiff, ↓reduceIte, Nat.reduceAdd, a0, pk1.cell, readCells_blk kb1 (n := 2) (by simp)]
  refine bslK_2 elt_st rfl fun w2 b2 e2 x2 k2 _ => nxE_of (x2.grow _) ?_
  simp (disch := omega) only [go_sem, Nat.reduceEqDiff, ↓reduceIte, Nat.reduceAdd]
  refine appK_2 elt_st (po1.ext x2) k2 rfl rfl (by omega) (by decide) fun w3 a2 c2 o2 g2 h2 => nxE_of (Grow.to g2 hz1) ?_
  have s2 := x2.size
  have pk2 := g2.blk (pk1.ext x2) (by intro e; exact pne e)
  simp (disch := omega) only [go_sem, Nat.reduceEqDiff, ↓reduceIte, Nat.reduceAdd, a0]
  refine stK_blk siz_sst (by rfl) (by rfl) pk2 (by simp) fun w4 pk3 g3 => ?_
  have pk3 : Blk w4 pb #[fvS, .slice a2 (n + 1) c2] 92 := by simpa using pk3
  have hne2 : blk a2 ≠ some pb := fun e => by
    rcases h2 pb e with h | h
    · exact pne h
    · omega
  rw [sv_snoc (L := L) (L' := fun k => if k = n then x else L k) (by simp) (by simp) (fun j hj => if_neg (by omega))] at o2
  have o3 := o2.grow g3.grow (fun b hb e => by cases e; exact hne2 hb)
  have gs3 : GrowS (fun b => b = pb ∨ blk a = some b) w w4 := (((x01.trans x2).toS _).trans g2.toS (fun i _ h => .inr h)).trans g3.grow.toS (fun i _ h => .inl (by simpa using h.symm))
  simp (disch := omega) only [go_sem, Nat.reduceEqDiff, ↓reduceIte, Nat.reduceAdd, a0, pk3.cell]
  refine loopX (fun m f W => f 0 = .pointer (some ⟨pb, 0, none⟩) ∧ ∃ (i : Nat) (M : Nat → Nat × Int), m = i ∧ i ≤ n ∧ f 4 = .int .i64 i ∧ PileS W pb a2 c2 (n + 1) M ∧ UpInv stB (n + 1) M i ∧ (∀ y, bag (n + 1) M y = bag n L y + if x = y then 1 else 0) ∧ GrowS (fun b => b = pb ∨ blk a2 = some b) w4 W) n ⟨by simp [upd_apply, a0], n, _, rfl, Nat.le_refl _, by simp [upd_apply], ⟨pk3, o3, hne2⟩, UpInv.start hp x, fun y => bag_put n L x y, GrowS.refl _ _⟩ fun m f W ⟨a0, i, M, hm, hin, a4, ⟨pkW, oW, neW⟩, uW, bW, gW⟩ => ?_
  subst hm
  have h2' : ∀ b, blk a2 = some b → blk a = some b ∨ w.heap.size ≤ b := fun b hb => (h2 b hb).imp id fun h => by omega
  obtain ⟨ub, rfl⟩ := oW.some (by omega)
  by_cases h0 : (0 : Int) < (m : Int)
  · have hq : ((m : Int) - 1) / 2 = (((m - 1) / 2 : Nat) : Int) := by omega
    have ci := oW.read2 (k := m) (by omega) (sv_get0 M (by omega)) (sv_get1 M (by omega))
    have cp := oW.read2 (k := (m - 1) / 2) (by omega) (sv_get0 M (by omega)) (sv_get1 M (by omega))
    simp (disch := omega) only [go_sem, Nat.reduceEqDiff, ↓reduceIte, Nat.reduceAdd, a0, a4, h0, hq]
    refine QR_of (by kernel_rfl) (by kernel_rfl) ?_
    simp (disch := omega) only [go_sem, Nat.reduceEqDiff, ↓reduceIte, Nat.reduceAdd, a0, a4, pkW.cell, ci, cp, fvS]
    refine callK_q (by kernel_rfl) (fun w' e => passes1_c (M m) (M ((m - 1) / 2)) _) ?_
    simp (disch := omega) only [go_sem, Nat.reduceEqDiff, ↓reduceIte, Nat.reduceAdd]
    intro W1 y1
    replace pkW := pkW.ext y1
    replace oW := oW.ext y1
    replace ci := oW.read2 (k := m) (by omega) (sv_get0 M (by omega)) (sv_get1 M (by omega))
    replace cp := oW.read2 (k := (m - 1) / 2) (by omega) (sv_get0 M (by omega)) (sv_get1 M (by omega))
    replace gW : GrowS (fun b => b = pb ∨ blk (some ⟨ub, 0, none⟩) = some b) w4 W1 := gW.trans (y1.toS _) fun _ _ h => h
    cases hh : stB (M m) (M ((m - 1) / 2)) with
    | false =>
      simp (disch := omega) only [go_sem, Nat.reduceEqDiff, ↓reduceIte, Nat.reduceAdd, Try.results113]
      exact ⟨_, c2, M, ⟨pkW, oW, neW⟩, uW.done (.inr hh), bW, h2', gs3.trans gW fun i hi hs => by
        rcases hs with hs | hs
        · exact .inl hs
        · rcases h2 i hs with h' | h'
          · exact .inr h'
          · omega⟩
    | true =>
      simp (disch := omega) only [go_sem, Nat.reduceEqDiff, ↓reduceIte, Nat.reduceAdd]
      refine QR_sch (some ub) (.st 0 (.st 1 (.st 2 (.st 3 (.st 4 (.st 5 (.st 6 (.st 7 (.st 8 (.st 9 (.st 10 (.st 11 (.st 12 (.st 13 (.st 14 (.st 15 (.st 17 (.st 18 (.st 19 (.st 20 (.st 21 (.st 22 (.alt (.ef 16 (.ef 23 (.st 24 (.ef 25 (.st 26 (.fin 27 (.done))))))) (.ef 23 (.ef 16 (.st 24 (.ef 25 (.st 26 (.fin 27 (.done)))))))))))))))))))))))))))))) (by kernel_rfl) (by kernel_rfl) fun w5 x5 => ?_
      have neW' : ub ≠ pb := by simpa [blk] using neW
      have pk5 := pkW.ext x5
      have o5 := oW.ext x5
      have ci5 := o5.read2 (k := m) (by omega) (sv_get0 M (by omega)) (sv_get1 M (by omega))
      have cp5 := o5.read2 (k := (m - 1) / 2) (by omega) (sv_get0 M (by omega)) (sv_get1 M (by omega))
      simp (disch := omega) only [go_sem, Nat.reduceEqDiff, ↓reduceIte, Nat.reduceAdd, a0, a4, pk5.cell]
      refine RLT_alt ?_ ?_
      · skip
        simp (disch := omega) only [go_sem, Nat.reduceEqDiff, ↓reduceIte, Nat.reduceAdd, ci5, cp5]
        refine nxE_of (Grow.refl _ _) ?_
        simp (disch := omega) only [go_sem, Nat.reduceEqDiff, ↓reduceIte, Nat.reduceAdd, ci5, cp5]
        refine nxE_of (Grow.refl _ _) ?_
        simp (disch := omega) only [go_sem, Nat.reduceEqDiff, ↓reduceIte, Nat.reduceAdd]
        refine stK_own2 siz_st rfl rfl o5 (i := m) (by omega) fun w6 o6 g6 => nxE_of g6 ?_
        rw [sv_set (n := n + 1) (i := m) (L := M) (L' := fun k => if k = m then M ((m - 1) / 2) else M k) (by omega) (by simp) (by simp) (fun j hj hne => by simp [hne])] at o6
        simp (disch := omega) only [go_sem, Nat.reduceEqDiff, ↓reduceIte, Nat.reduceAdd]
        refine stK_own2 siz_st rfl rfl o6 (i := ((m - 1) / 2)) (by omega) fun w7 o7 g7 => ?_
        rw [sv_set (n := n + 1) (i := ((m - 1) / 2)) (L := fun k => if k = m then M ((m - 1) / 2) else M k) (L' := swp M m ((m - 1) / 2)) (by omega) (by rw [(swp_at M m ((m - 1) / 2)).2]) (by rw [(swp_at M m ((m - 1) / 2)).2]) (fun j hj hne => by simp [swp, hne])] at o7
        have gg : Grow (some ub) W1 w7 := ((x5.grow _).trans g6).trans g7
        simp (disch := omega) only [go_sem, Nat.reduceEqDiff, ↓reduceIte, Nat.reduceAdd]
        refine ⟨(m - 1) / 2, by omega, by simp [upd_apply, a0], (m - 1) / 2, swp M m ((m - 1) / 2), rfl, by omega, by simp [upd_apply], ⟨gg.blk pkW (by simpa [blk] using neW), o7, neW⟩, uW.step stB_ahead (by omega) (by omega) hh, fun y => by rw [bag_swp M (by omega) (by omega)]; exact bW y, gW.trans gg.toS fun i _ h => .inr (by simpa [blk] using h)⟩
      · skip
        simp (disch := omega) only [go_sem, Nat.reduceEqDiff, ↓reduceIte, Nat.reduceAdd, ci5, cp5]
        refine nxE_of (Grow.refl _ _) ?_
        simp (disch := omega) only [go_sem, Nat.reduceEqDiff, ↓reduceIte, Nat.reduceAdd, ci5, cp5]
        refine nxE_of (Grow.refl _ _) ?_
        simp (disch := omega) only [go_sem, Nat.reduceEqDiff, ↓reduceIte, Nat.reduceAdd]
        refine stK_own2 siz_st rfl rfl o5 (i := m) (by omega) fun w6 o6 g6 => nxE_of g6 ?_
        rw [sv_set (n := n + 1) (i := m) (L := M) (L' := fun k => if k = m then M ((m - 1) / 2) else M k) (by omega) (by simp) (by simp) (fun j hj hne => by simp [hne])] at o6
        simp (disch := omega) only [go_sem, Nat.reduceEqDiff, ↓reduceIte, Nat.reduceAdd]
        refine stK_own2 siz_st rfl rfl o6 (i := ((m - 1) / 2)) (by omega) fun w7 o7 g7 => ?_
        rw [sv_set (n := n + 1) (i := ((m - 1) / 2)) (L := fun k => if k = m then M ((m - 1) / 2) else M k) (L' := swp M m ((m - 1) / 2)) (by omega) (by rw [(swp_at M m ((m - 1) / 2)).2]) (by rw [(swp_at M m ((m - 1) / 2)).2]) (fun j hj hne => by simp [swp, hne])] at o7
        have gg : Grow (some ub) W1 w7 := ((x5.grow _).trans g6).trans g7
        simp (disch := omega) only [go_sem, Nat.reduceEqDiff, ↓reduceIte, Nat.reduceAdd]
        refine ⟨(m - 1) / 2, by omega, by simp [upd_apply, a0], (m - 1) / 2, swp M m ((m - 1) / 2), rfl, by omega, by simp [upd_apply], ⟨gg.blk pkW (by simpa [blk] using neW), o7, neW⟩, uW.step stB_ahead (by omega) (by omega) hh, fun y => by rw [bag_swp M (by omega) (by omega)]; exact bW y, gW.trans gg.toS fun i _ h => .inr (by simpa [blk] using h)⟩
  · obtain rfl : m = 0 := by omega
    simp (disch := omega) only [go_sem, Nat.reduceEqDiff, ↓reduceIte, Nat.reduceAdd, a4, h0, Try.results113]
    exact ⟨_, c2, M, ⟨pkW, oW, neW⟩, uW.done (.inl rfl), bW, h2', gs3.trans gW fun i hi hs => by
      rcases hs with hs | hs
      · exact .inl hs
      · rcases h2 i hs with h' | h'
        · exact .inr h'
        · omega⟩

theorem take2_c (pb : Nat) (a : Option Addr) (c n : Nat) (L : Nat → Nat × Int) (w : World) (p : PileS w pb a c (n + 1) L) (hp : Heap stB (n + 1) L) (hn : n ≤ 1000) :
    Ret Try.prog 114 #[.pointer (some ⟨pb, 0, none⟩)] w fun v w' => v = stV (L 0) ∧ ∃ L', PileS w' pb a c n L' ∧ Heap stB n L' ∧ (∀ y, bag n L' y + (if L 0 = y then 1 else 0) = bag (n + 1) L y) ∧
      GrowS (fun b => b = pb ∨ blk a = some b) w w' := by
  obtain ⟨pk, po, pne⟩ := p
  obtain ⟨ub, rfl⟩ := po.some (by omega)
  have neW' : ub ≠ pb := by simpa [blk] using pne
  have hnn : ((n + 1 : Nat) : Int) - 1 = (n : Int) := by omega
  have hcap := po.le_cap
  have pl := pk.lt
  have ul := po.blk_lt (b := ub) rfl
  refine enter1 Try.func114 rfl (by kernel_rfl) (of_decide_eq_true (by kernel_rfl)) fun f a0 => ?_
  simp (disch := omega) only [go_sem, Nat.reduceEqDiff, ↓reduceIte, Nat.reduceAdd]
  refine allocK_of zero_st fun w0 vb evb x0 kv _ => ?_
  have s0 := x0.size
  have c0 := (po.ext x0).read2 (k := 0) (by omega) (sv_get0 L (by omega)) (sv_get1 L (by omega))
  rw [Nat.zero_mul] at c0
  simp (disch := omega) only [go_sem, Nat.reduceEqDiff, ↓reduceIte, Nat.reduceAdd, a0, (pk.ext x0).cell, c0]
  refine allocK_of zero_st fun w1 fb efb x1 kf _ => ?_
  have s1 := x1.size
  simp (disch := omega) only [go_sem, Nat.reduceEqDiff, ↓reduceIte, Nat.reduceAdd]
  refine stK_agg siz_st (by simp) (by simp [Value.oneCell']) kf (by simp) fun w2 kf2 g2 => ?_
  have s2 := g2.size
  have x02 : Ext w w2 := g2.ext (x0.trans x1) (by omega)
  have kv2 : Blk w2 vb #[.int .i64 0, .int .i64 0] 88 := g2.grow.blk (kv.ext x1) (by simp; omega)
  have kf2 : Blk w2 fb #[.int .i64 ((L 0).1 : Nat), .int .i64 (L 0).2] 88 := by simpa using kf2
  have pk2 := pk.ext x02
  have po2 := po.ext x02
  simp (disch := omega) only [go_sem, Nat.reduceEqDiff, ↓reduceIte, Nat.reduceAdd, a0, pk2.cell, hnn]
  refine QR_sch (some ub) (.st 0 (.st 1 (.st 2 (.st 3 (.st 4 (.st 5 (.st 6 (.st 7 (.st 8 (.st 9 (.ef 10 (.st 11 (.fin 12 (.done)))))))))))))) (by kernel_rfl) (by kernel_rfl) fun w3 x3 => ?_
  have s3 := x3.size
  have pk3 := pk2.ext x3
  have po3 := po2.ext x3
  have cn3 := po3.read2 (k := n) (by omega) (sv_get0 L (by omega)) (sv_get1 L (by omega))
  simp (disch := omega) only [go_sem, Nat.reduceEqDiff, ↓reduceIte, Nat.reduceAdd, a0, pk3.cell, cn3]
  refine nxE_of (Grow.refl _ _) ?_
  simp (disch := omega) only [go_sem, Nat.reduceEqDiff, ↓reduceIte, Nat.reduceAdd]
  have hst := fun k h => stK_own2 (P := Try.prog) (T := 88) (k := k) siz_st (x := .int .i64 ((L n).1 : Nat)) (y := .int .i64 (L n).2) rfl rfl po3 (i := 0) (by omega) h
  rw [Nat.zero_mul] at hst
  refine hst _ fun w4 o4 g4 => ?_
  have o4 : OwnS w4 88 2 (some ⟨ub, 0, none⟩) (n + 1) c (((sv (n + 1) L).set (0 * 2) (.int .i64 ((L n).1 : Nat))).set (0 * 2 + 1) (.int .i64 (L n).2)) := o4
  rw [sv_set (n := n + 1) (i := 0) (L := L) (L' := fun k => if k = 0 then L n else L k) (by omega) (by simp) (by simp) (fun j hj hne => by simp [hne])] at o4
  have pk4 := g4.blk pk3 (by simp; omega)
  simp (disch := omega) only [go_sem, Nat.reduceEqDiff, ↓reduceIte, Nat.reduceAdd, a0, pk4.cell]
  refine stK_blk siz_sst (by rfl) (by rfl) pk4 (by simp) fun w5 pk5 g5 => ?_
  have o5 := (o4.grow g5.grow (fun b hb e => by simp [blk] at hb; simp at e; omega)).shrink (m := n) (by omega)
  rw [sv_take _ (by omega)] at o5
  have pk5 : Blk w5 pb #[fvS, .slice (some ⟨ub, 0, none⟩) n c] 92 := by simpa using pk5
  have gs5 : GrowS (fun b => b = pb ∨ blk (some ⟨ub, 0, none⟩) = some b) w w5 := (((x02.trans x3).toS _).trans g4.toS (fun i _ h => .inr (by simpa [blk] using h))).trans g5.grow.toS (fun i _ h => .inl (by simpa using h.symm))
  have kv5 := g5.grow.blk (g4.blk (kv2.ext x3) (by simp; omega)) (by simp; omega)
  have kf5 := g5.grow.blk (g4.blk (kf2.ext x3) (by simp; omega)) (by simp; omega)
  simp (disch := omega) only [go_sem, Nat.reduceEqDiff, ↓reduceIte, Nat.reduceAdd]
  refine loopX (fun m f W => f 0 = .pointer (some ⟨pb, 0, none⟩) ∧ f 2 = .pointer (some ⟨vb, 0, none⟩) ∧ f 3 = .pointer (some ⟨fb, 0, none⟩) ∧ f 4 = .int .i64 n ∧ ∃ (i : Nat) (M : Nat → Nat × Int), m = n + 1 - i ∧ (i = 0 ∨ i < n) ∧ f 5 = .int .i64 i ∧ PileS W pb (some ⟨ub, 0, none⟩) c n M ∧ DnInv stB n M i ∧ (∀ y, bag n M y = bag n (fun k => if k = 0 then L n else L k) y) ∧ Grow (some ub) w5 W) (n + 1) ⟨by simp [upd_apply, a0], (by first | assumption | (simp only [upd_apply, Nat.reduceEqDiff, ↓reduceIte] <;> first | rfl | assumption) | simp [upd_apply, *]), (by first | assumption | (simp only [upd_apply, Nat.reduceEqDiff, ↓reduceIte] <;> first | rfl | assumption) | simp [upd_apply, *]), by simp [upd_apply], 0, _, rfl, .inl rfl, by simp [upd_apply], ⟨pk5, o5, pne⟩, DnInv.start hp, fun _ => rfl, Grow.refl _ _⟩ fun m f W ⟨a0, a2, a3, a4, i, M, hm, hin, a5, ⟨pkW, oW, _⟩, dW, bW, gW⟩ => ?_
  subst hm
  simp (disch := omega) only [go_sem, Nat.reduceEqDiff, ↓reduceIte, Nat.reduceAdd, a5]
  refine loopX (fun m f V => f 0 = .pointer (some ⟨pb, 0, none⟩) ∧ f 2 = .pointer (some ⟨vb, 0, none⟩) ∧ f 3 = .pointer (some ⟨fb, 0, none⟩) ∧ f 4 = .int .i64 n ∧ f 5 = .int .i64 i ∧ ∃ b d : Nat, m = 2 * i + 3 - d ∧ f 6 = .int .i64 b ∧ f 7 = .int .i64 d ∧ 2 * i + 1 ≤ d ∧ d ≤ 2 * i + 3 ∧ (b = i ∨ (2 * i + 1 ≤ b ∧ b < d ∧ b < n ∧ stB (M b) (M i) = true)) ∧ (∀ s, 2 * i + 1 ≤ s → s < d → s < n → stB (M s) (M b) = false) ∧ Ext W V) 2 ⟨(by first | assumption | (simp only [upd_apply, Nat.reduceEqDiff, ↓reduceIte] <;> first | rfl | assumption) | simp [upd_apply, *]), (by first | assumption | (simp only [upd_apply, Nat.reduceEqDiff, ↓reduceIte] <;> first | rfl | assumption) | simp [upd_apply, *]), (by first | assumption | (simp only [upd_apply, Nat.reduceEqDiff, ↓reduceIte] <;> first | rfl | assumption) | simp [upd_apply, *]), (by first | assumption | (simp only [upd_apply, Nat.reduceEqDiff, ↓reduceIte] <;> first | rfl | assumption) | simp [upd_apply, *]), (by first | assumption | (simp only [upd_apply, Nat.reduceEqDiff, ↓reduceIte] <;> first | rfl | assumption) | simp [upd_apply, *]), i, 2 * i + 1, by omega, by simp [upd_apply], by simp [upd_apply], by omega, by omega, .inl rfl, fun s h1 h2 => by omega, Ext.refl _⟩ fun m f V ⟨a0, a2, a3, a4, a5, b, d, hm, a6, a7, hd1, hd2, hb, hs, xV⟩ => ?_
  subst hm
  have pkV := pkW.ext xV
  have oV := oW.ext xV
  by_cases hd : d ≤ 2 * i + 2 ∧ d < n
  · have q1 : (d : Int) ≤ 2 * (i : Int) + 2 := by omega
    have q2 : (d : Int) < (n : Int) := by omega
    have cd := oV.read2 (k := d) (by omega) (sv_get0 M (by omega)) (sv_get1 M (by omega))
    have cb' := oV.read2 (k := b) (by omega) (sv_get0 M (by omega)) (sv_get1 M (by omega))
    simp (disch := omega) only [go_sem, Nat.reduceEqDiff, ↓reduceIte, Nat.reduceAdd, a0, a4, a5, a6, a7, q1, q2]
    refine QR_of (by kernel_rfl) (by kernel_rfl) ?_
    simp (disch := omega) only [go_sem, Nat.reduceEqDiff, ↓reduceIte, Nat.reduceAdd, a0, a6, a7, pkV.cell, cd, cb', fvS]
    refine callK_q (by kernel_rfl) (fun w' e => passes1_c (M d) (M b) _) ?_
    simp (disch := omega) only [go_sem, Nat.reduceEqDiff, ↓reduceIte, Nat.reduceAdd]
    intro V1 y1
    cases hh : stB (M d) (M b) with
    | false =>
      simp (disch := omega) only [go_sem, Nat.reduceEqDiff, ↓reduceIte, Nat.reduceAdd, a7]
      refine ⟨2 * i + 3 - (d + 1), by omega, (by first | assumption | (simp only [upd_apply, Nat.reduceEqDiff, ↓reduceIte] <;> first | rfl | assumption) | simp [upd_apply, *]), (by first | assumption | (simp only [upd_apply, Nat.reduceEqDiff, ↓reduceIte] <;> first | rfl | assumption) | simp [upd_apply, *]), (by first | assumption | (simp only [upd_apply, Nat.reduceEqDiff, ↓reduceIte] <;> first | rfl | assumption) | simp [upd_apply, *]), (by first | assumption | (simp only [upd_apply, Nat.reduceEqDiff, ↓reduceIte] <;> first | rfl | assumption) | simp [upd_apply, *]), (by first | assumption | (simp only [upd_apply, Nat.reduceEqDiff, ↓reduceIte] <;> first | rfl | assumption) | simp [upd_apply, *]), b, d + 1, rfl, (by first | assumption | (simp only [upd_apply, Nat.reduceEqDiff, ↓reduceIte] <;> first | rfl | assumption) | simp [upd_apply, *]), by simp [upd_apply], by omega, by omega, ?_, fun s h1 h2 h3 => ?_, xV.trans y1⟩
      · rcases hb with hb | ⟨hb1, hb2, hb3, hb4⟩
        · exact .inl hb
        · exact .inr ⟨hb1, by omega, hb3, hb4⟩
      · by_cases e : s = d
        · subst e; exact hh
        · exact hs s h1 (by omega) h3
    | true =>
      simp (disch := omega) only [go_sem, Nat.reduceEqDiff, ↓reduceIte, Nat.reduceAdd, a7]
      have o := stB_ahead
      have hr := o.asy _ _ hh
      refine ⟨2 * i + 3 - (d + 1), by omega, (by first | assumption | (simp only [upd_apply, Nat.reduceEqDiff, ↓reduceIte] <;> first | rfl | assumption) | simp [upd_apply, *]), (by first | assumption | (simp only [upd_apply, Nat.reduceEqDiff, ↓reduceIte] <;> first | rfl | assumption) | simp [upd_apply, *]), (by first | assumption | (simp only [upd_apply, Nat.reduceEqDiff, ↓reduceIte] <;> first | rfl | assumption) | simp [upd_apply, *]), (by first | assumption | (simp only [upd_apply, Nat.reduceEqDiff, ↓reduceIte] <;> first | rfl | assumption) | simp [upd_apply, *]), (by first | assumption | (simp only [upd_apply, Nat.reduceEqDiff, ↓reduceIte] <;> first | rfl | assumption) | simp [upd_apply, *]), d, d + 1, rfl, by simp [upd_apply, a7], by simp [upd_apply], by omega, by omega, .inr ⟨hd1, by omega, hd.2, ?_⟩, fun s h1 h2 h3 => ?_, xV.trans y1⟩
      · rcases hb with hb | ⟨hb1, hb2, hb3, hb4⟩
        · rw [← hb]; exact hh
        · cases e : stB (M d) (M i) with
          | true => rfl
          | false =>
            have := o.tr _ _ _ e (o.asy _ _ hb4)
            rw [hh] at this; cases this
      · by_cases e : s = d
        · subst e
          cases e2 : stB (M s) (M s) with
          | false => rfl
          | true => have := o.asy _ _ e2; rw [e2] at this; exact this
        · exact o.tr _ _ _ (hs s h1 (by omega) h3) hr
  · have hall : ∀ s, 0 < s → s < n → (s - 1) / 2 = i → stB (M s) (M b) = false := fun s s0 sn sp => hs s (by omega) (by omega) sn
    have fin : ¬ ((d : Int) ≤ 2 * (i : Int) + 2 ∧ (d : Int) < (n : Int)) := by omega
    by_cases hbi : b = i
    · have hbe : ((b : Int) == (i : Int)) = true := by simp [hbi]
      have hres : Heap stB n M := dW.done fun s s0 sn sp => by rw [← hbi]; exact hall s s0 sn sp
      have hgs : GrowS (fun b => b = pb ∨ blk (some ⟨ub, 0, none⟩) = some b) w V := gs5.trans ((gW.trans (xV.grow _)).toS) fun i _ h => .inr (by simpa [blk] using h)
      have kvV := (gW.blk kv5 (by simp; omega)).ext xV
      have kfV := (gW.blk kf5 (by simp; omega)).ext xV
      rcases Classical.em ((d : Int) ≤ 2 * (i : Int) + 2) with q1 | q1
      · have q2 : ¬ (d : Int) < (n : Int) := by omega
        simp (disch := omega) only [go_sem, Nat.reduceEqDiff, ↓reduceIte, Nat.reduceAdd, a0, a2, a3, a4, a5, a6, a7, q1, q2, hbe, readCells_blk kfV (n := 2) (by simp)]
        refine stK_agg siz_st (by simp) (by simp [Value.oneCell']) kvV (by simp) fun w6 kv6 g6 => ?_
        have kv6 : Blk w6 vb #[.int .i64 ((L 0).1 : Nat), .int .i64 (L 0).2] 88 := by simpa using kv6
        simp (disch := omega) only [go_sem, Nat.reduceEqDiff, ↓reduceIte, Nat.reduceAdd, a2, readCells_blk kv6 (n := 2) (by simp), Try.results114]
        exact ⟨by first | rfl | trivial, M, ⟨g6.grow.blk pkV (by simp; omega), oV.grow g6.grow (fun b hb e => by simp [blk] at hb; simp at e; omega), pne⟩, hres, fun y => by rw [bW y]; exact bag_take n L y, hgs.trans g6.grow.toS (fun i h1 h2 => by have h3 : vb = i := (by simpa using h2); omega)⟩
      · simp (disch := omega) only [go_sem, Nat.reduceEqDiff, ↓reduceIte, Nat.reduceAdd, a0, a2, a3, a4, a5, a6, a7, q1, hbe, readCells_blk kfV (n := 2) (by simp)]
        refine stK_agg siz_st (by simp) (by simp [Value.oneCell']) kvV (by simp) fun w6 kv6 g6 => ?_
        have kv6 : Blk w6 vb #[.int .i64 ((L 0).1 : Nat), .int .i64 (L 0).2] 88 := by simpa using kv6
        simp (disch := omega) only [go_sem, Nat.reduceEqDiff, ↓reduceIte, Nat.reduceAdd, a2, readCells_blk kv6 (n := 2) (by simp), Try.results114]
        exact ⟨by first | rfl | trivial, M, ⟨g6.grow.blk pkV (by simp; omega), oV.grow g6.grow (fun b hb e => by simp [blk] at hb; simp at e; omega), pne⟩, hres, fun y => by rw [bW y]; exact bag_take n L y, hgs.trans g6.grow.toS (fun i h1 h2 => by have h3 : vb = i := (by simpa using h2); omega)⟩
    · have hbe : ((b : Int) == (i : Int)) = false := by simp; omega
      obtain ⟨hb1, hb2, hbn, hb3⟩ : 2 * i + 1 ≤ b ∧ b < d ∧ b < n ∧ stB (M b) (M i) = true := by
        rcases hb with hb | hb
        · exact absurd hb hbi
        · exact hb
      have hcs : ((d : Int) ≤ 2 * (i : Int) + 2 ∧ ¬ (d : Int) < (n : Int)) ∨ ¬ (d : Int) ≤ 2 * (i : Int) + 2 := by omega
      rcases hcs with ⟨q1, q2⟩ | q1
      · simp (disch := omega) only [go_sem, Nat.reduceEqDiff, ↓reduceIte, Nat.reduceAdd, a4, a5, a6, a7, q1, q2, hbe]
        refine QR_sch (some ub) (.st 0 (.st 1 (.st 2 (.st 3 (.st 4 (.st 5 (.st 6 (.st 7 (.st 8 (.st 9 (.st 10 (.st 11 (.st 12 (.st 13 (.st 14 (.st 15 (.st 17 (.st 18 (.st 19 (.st 20 (.st 21 (.st 22 (.alt (.ef 16 (.ef 23 (.st 24 (.ef 25 (.st 26 (.fin 27 (.done))))))) (.ef 23 (.ef 16 (.st 24 (.ef 25 (.st 26 (.fin 27 (.done)))))))))))))))))))))))))))))) (by kernel_rfl) (by kernel_rfl) fun w5 x5 => ?_
        have pk5 := pkV.ext x5
        have o5 := oV.ext x5
        have ci5 := o5.read2 (k := i) (by omega) (sv_get0 M (by omega)) (sv_get1 M (by omega))
        have cp5 := o5.read2 (k := b) (by omega) (sv_get0 M (by omega)) (sv_get1 M (by omega))
        simp (disch := omega) only [go_sem, Nat.reduceEqDiff, ↓reduceIte, Nat.reduceAdd, a0, a5, a6, pk5.cell]
        refine RLT_alt ?_ ?_
        · skip
          simp (disch := omega) only [go_sem, Nat.reduceEqDiff, ↓reduceIte, Nat.reduceAdd, ci5, cp5]
          refine nxE_of (Grow.refl _ _) ?_
          simp (disch := omega) only [go_sem, Nat.reduceEqDiff, ↓reduceIte, Nat.reduceAdd, ci5, cp5]
          refine nxE_of (Grow.refl _ _) ?_
          simp (disch := omega) only [go_sem, Nat.reduceEqDiff, ↓reduceIte, Nat.reduceAdd]
          refine stK_own2 siz_st rfl rfl o5 (i := i) (by omega) fun w6 o6 g6 => nxE_of g6 ?_
          rw [sv_set (n := n) (i := i) (L := M) (L' := fun k => if k = i then M b else M k) (by omega) (by simp) (by simp) (fun j hj hne => by simp [hne])] at o6
          simp (disch := omega) only [go_sem, Nat.reduceEqDiff, ↓reduceIte, Nat.reduceAdd]
          refine stK_own2 siz_st rfl rfl o6 (i := b) (by omega) fun w7 o7 g7 => ?_
          rw [sv_set (n := n) (i := b) (L := fun k => if k = i then M b else M k) (L' := swp M i b) (by omega) (by rw [(swp_at M i b).2]) (by rw [(swp_at M i b).2]) (fun j hj hne => by simp [swp, hne])] at o7
          have gg : Grow (some ub) V w7 := ((x5.grow _).trans g6).trans g7
          simp (disch := omega) only [go_sem, Nat.reduceEqDiff, ↓reduceIte, Nat.reduceAdd]
          refine ⟨n + 1 - b, by omega, by simp [upd_apply, a0], (by first | assumption | (simp only [upd_apply, Nat.reduceEqDiff, ↓reduceIte] <;> first | rfl | assumption) | simp [upd_apply, *]), (by first | assumption | (simp only [upd_apply, Nat.reduceEqDiff, ↓reduceIte] <;> first | rfl | assumption) | simp [upd_apply, *]), by simp [upd_apply, a4], b, swp M i b, rfl, by omega, (by first | trivial | rfl | simp [upd_apply, a6]), ⟨gg.blk pkV (by simpa using neW'), o7, pne⟩, dW.step stB_ahead (by omega) (by omega) (by omega) hb3 hall, fun y => by rw [bag_swp M (by omega) (by omega)]; exact bW y, gW.trans ((xV.grow _).trans gg)⟩
        · skip
          simp (disch := omega) only [go_sem, Nat.reduceEqDiff, ↓reduceIte, Nat.reduceAdd, ci5, cp5]
          refine nxE_of (Grow.refl _ _) ?_
          simp (disch := omega) only [go_sem, Nat.reduceEqDiff, ↓reduceIte, Nat.reduceAdd, ci5, cp5]
          refine nxE_of (Grow.refl _ _) ?_
          simp (disch := omega) only [go_sem, Nat.reduceEqDiff, ↓reduceIte, Nat.reduceAdd]
          refine stK_own2 siz_st rfl rfl o5 (i := i) (by omega) fun w6 o6 g6 => nxE_of g6 ?_
          rw [sv_set (n := n) (i := i) (L := M) (L' := fun k => if k = i then M b else M k) (by omega) (by simp) (by simp) (fun j hj hne => by simp [hne])] at o6
          simp (disch := omega) only [go_sem, Nat.reduceEqDiff, ↓reduceIte, Nat.reduceAdd]
          refine stK_own2 siz_st rfl rfl o6 (i := b) (by omega) fun w7 o7 g7 => ?_
          rw [sv_set (n := n) (i := b) (L := fun k => if k = i then M b else M k) (L' := swp M i b) (by omega) (by rw [(swp_at M i b).2]) (by rw [(swp_at M i b).2]) (fun j hj hne => by simp [swp, hne])] at o7
          have gg : Grow (some ub) V w7 := ((x5.grow _).trans g6).trans g7
          simp (disch := omega) only [go_sem, Nat.reduceEqDiff, ↓reduceIte, Nat.reduceAdd]
          refine ⟨n + 1 - b, by omega, by simp [upd_apply, a0], (by first | assumption | (simp only [upd_apply, Nat.reduceEqDiff, ↓reduceIte] <;> first | rfl | assumption) | simp [upd_apply, *]), (by first | assumption | (simp only [upd_apply, Nat.reduceEqDiff, ↓reduceIte] <;> first | rfl | assumption) | simp [upd_apply, *]), by simp [upd_apply, a4], b, swp M i b, rfl, by omega, (by first | trivial | rfl | simp [upd_apply, a6]), ⟨gg.blk pkV (by simpa using neW'), o7, pne⟩, dW.step stB_ahead (by omega) (by omega) (by omega) hb3 hall, fun y => by rw [bag_swp M (by omega) (by omega)]; exact bW y, gW.trans ((xV.grow _).trans gg)⟩
      · simp (disch := omega) only [go_sem, Nat.reduceEqDiff, ↓reduceIte, Nat.reduceAdd, a4, a5, a6, a7, q1, hbe]
        refine QR_sch (some ub) (.st 0 (.st 1 (.st 2 (.st 3 (.st 4 (.st 5 (.st 6 (.st 7 (.st 8 (.st 9 (.st 10 (.st 11 (.st 12 (.st 13 (.st 14 (.st 15 (.st 17 (.st 18 (.st 19 (.st 20 (.st 21 (.st 22 (.alt (.ef 16 (.ef 23 (.st 24 (.ef 25 (.st 26 (.fin 27 (.done))))))) (.ef 23 (.ef 16 (.st 24 (.ef 25 (.st 26 (.fin 27 (.done)))))))))))))))))))))))))))))) (by kernel_rfl) (by kernel_rfl) fun w5 x5 => ?_
        have pk5 := pkV.ext x5
        have o5 := oV.ext x5
        have ci5 := o5.read2 (k := i) (by omega) (sv_get0 M (by omega)) (sv_get1 M (by omega))
        have cp5 := o5.read2 (k := b) (by omega) (sv_get0 M (by omega)) (sv_get1 M (by omega))
        simp (disch := omega) only [go_sem, Nat.reduceEqDiff, ↓reduceIte, Nat.reduceAdd, a0, a5, a6, pk5.cell]
        refine RLT_alt ?_ ?_
        · skip
          simp (disch := omega) only [go_sem, Nat.reduceEqDiff, ↓reduceIte, Nat.reduceAdd, ci5, cp5]
          refine nxE_of (Grow.refl _ _) ?_
          simp (disch := omega) only [go_sem, Nat.reduceEqDiff, ↓reduceIte, Nat.reduceAdd, ci5, cp5]
          refine nxE_of (Grow.refl _ _) ?_
          simp (disch := omega) only [go_sem, Nat.reduceEqDiff, ↓reduceIte, Nat.reduceAdd]
          refine stK_own2 siz_st rfl rfl o5 (i := i) (by omega) fun w6 o6 g6 => nxE_of g6 ?_
          rw [sv_set (n := n) (i := i) (L := M) (L' := fun k => if k = i then M b else M k) (by omega) (by simp) (by simp) (fun j hj hne => by simp [hne])] at o6
          simp (disch := omega) only [go_sem, Nat.reduceEqDiff, ↓reduceIte, Nat.reduceAdd]
          refine stK_own2 siz_st rfl rfl o6 (i := b) (by omega) fun w7 o7 g7 => ?_
          rw [sv_set (n := n) (i := b) (L := fun k => if k = i then M b else M k) (L' := swp M i b) (by omega) (by rw [(swp_at M i b).2]) (by rw [(swp_at M i b).2]) (fun j hj hne => by simp [swp, hne])] at o7
          have gg : Grow (some ub) V w7 := ((x5.grow _).trans g6).trans g7
          simp (disch := omega) only [go_sem, Nat.reduceEqDiff, ↓reduceIte, Nat.reduceAdd]
          refine ⟨n + 1 - b, by omega, by simp [upd_apply, a0], (by first | assumption | (simp only [upd_apply, Nat.reduceEqDiff, ↓reduceIte] <;> first | rfl | assumption) | simp [upd_apply, *]), (by first | assumption | (simp only [upd_apply, Nat.reduceEqDiff, ↓reduceIte] <;> first | rfl | assumption) | simp [upd_apply, *]), by simp [upd_apply, a4], b, swp M i b, rfl, by omega, (by first | trivial | rfl | simp [upd_apply, a6]), ⟨gg.blk pkV (by simpa using neW'), o7, pne⟩, dW.step stB_ahead (by omega) (by omega) (by omega) hb3 hall, fun y => by rw [bag_swp M (by omega) (by omega)]; exact bW y, gW.trans ((xV.grow _).trans gg)⟩
        · skip
          simp (disch := omega) only [go_sem, Nat.reduceEqDiff, ↓reduceIte, Nat.reduceAdd, ci5, cp5]
          refine nxE_of (Grow.refl _ _) ?_
          simp (disch := omega) only [go_sem, Nat.reduceEqDiff, ↓reduceIte, Nat.reduceAdd, ci5, cp5]
          refine nxE_of (Grow.refl _ _) ?_
          simp (disch := omega) only [go_sem, Nat.reduceEqDiff, ↓reduceIte, Nat.reduceAdd]
          refine stK_own2 siz_st rfl rfl o5 (i := i) (by omega) fun w6 o6 g6 => nxE_of g6 ?_
          rw [sv_set (n := n) (i := i) (L := M) (L' := fun k => if k = i then M b else M k) (by omega) (by simp) (by simp) (fun j hj hne => by simp [hne])] at o6
          simp (disch := omega) only [go_sem, Nat.reduceEqDiff, ↓reduceIte, Nat.reduceAdd]
          refine stK_own2 siz_st rfl rfl o6 (i := b) (by omega) fun w7 o7 g7 => ?_
          rw [sv_set (n := n) (i := b) (L := fun k => if k = i then M b else M k) (L' := swp M i b) (by omega) (by rw [(swp_at M i b).2]) (by rw [(swp_at M i b).2]) (fun j hj hne => by simp [swp, hne])] at o7
          have gg : Grow (some ub) V w7 := ((x5.grow _).trans g6).trans g7
          simp (disch := omega) only [go_sem, Nat.reduceEqDiff, ↓reduceIte, Nat.reduceAdd]
          refine ⟨n + 1 - b, by omega, by simp [upd_apply, a0], (by first | assumption | (simp only [upd_apply, Nat.reduceEqDiff, ↓reduceIte] <;> first | rfl | assumption) | simp [upd_apply, *]), (by first | assumption | (simp only [upd_apply, Nat.reduceEqDiff, ↓reduceIte] <;> first | rfl | assumption) | simp [upd_apply, *]), by simp [upd_apply, a4], b, swp M i b, rfl, by omega, (by first | trivial | rfl | simp [upd_apply, a6]), ⟨gg.blk pkV (by simpa using neW'), o7, pne⟩, dW.step stB_ahead (by omega) (by omega) (by omega) hb3 hall, fun y => by rw [bag_swp M (by omega) (by omega)]; exact bW y, gW.trans ((xV.grow _).trans gg)⟩
end Go.Proofs.Ytdlepfeckiahdaa
