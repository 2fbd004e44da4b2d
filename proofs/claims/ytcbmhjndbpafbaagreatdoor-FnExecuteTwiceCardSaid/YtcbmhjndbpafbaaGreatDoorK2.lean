import Derived.Test.YtcbmhjndbpafbaaGreatDoorK1
set_option linter.all false
set_option maxRecDepth 20000
namespace Go.SW
open Go Go.RowKit
theorem bslK_2 {P : Program} {T e bs : Nat} {z v x y : Value} {k : Value → World → Prop} {w : World} (ht : elt P T = Option.some (e, 2, z, bs)) (hv : v.cells = #[x, y])
  (h : ∀ w' b, b = w.heap.size → Ext w w' → Blk w' b #[x, y] e → w'.heap.size = b + 1 → k (.slice (Option.some ⟨b, 0, none⟩) 1 1) w') : bslK P T 1 [(0, v)] k w := by
 obtain ⟨hT, i, hi, hs, hz, hb, hzs⟩ := elt_some ht
 have hr : (Instr.buildSlice T 1 [(0, v)].toArray).run P w = .ok (.slice (Option.some ⟨w.heap.size, 0, none⟩) 1 1) (w.alloc (.cells #[x, y] e)) := by
  refine (run_bindV (run_underlying_some hT)).trans ?_
  refine (run_bindV (run_sizeOf_some hi)).trans ?_
  have hzr : (zeroValue e).run P w = .ok z w := by
   refine (run_bindV (run_typeInfo_some hi)).trans ?_
   rw [hz]; rfl
  have e1 : (((Array.range 2).map (fun x => z.cells[x % z.cells.size]!)).setIfInBounds 0 x).setIfInBounds 1 y = #[x, y] := by
   apply Array.ext'; simp [List.range_succ]
  simp [hs, hzr, Instr.fill, newRow, hv, e1]
 unfold bslK
 rw [hr]
 exact h _ _ rfl (ext_alloc w _) (heap_alloc_new w _) sm
theorem OwnS.read2 {w : World} {e n c b : Nat} {xs : List Value} (o : OwnS w e 2 (Option.some ⟨b, 0, none⟩) n c xs) {k : Nat} (hk : k < n) {x y : Value} (hx : xs[k * 2]? = Option.some x) (hy : xs[k * 2 + 1]? = Option.some y) : readCells w ⟨b, k * 2, none⟩ 2 = Option.some [x, y] := by
 have h0 : w.cell? ⟨b, k * 2, none⟩ = Option.some x := by rw [o.cell om, hx]
 have h1 : w.cell? ⟨b, k * 2 + 1, none⟩ = Option.some y := by rw [o.cell om, hy]
 simp [readCells, List.range_succ, add_mk, h0, h1]
theorem run_store_one {P : Program} {b i : Nat} {u v : Value} {w : World} (h1 : v.oneCell' = true) (hc : w.cell? ⟨b, i, none⟩ = Option.some u) (hf : w.frozen? ⟨b, i, none⟩ = false) : (store ⟨b, i, none⟩ v).run P w = .ok () (w.setCell ⟨b, i, none⟩ v) := by
 cases v <;> first
  | (simp [Value.oneCell'] at h1; done)
  | (simp only [store, Sem.run, hc, hf, Bool.false_eq_true, if_false])
theorem Grow.refl2 (w : World) (b : Nat) (v : Value) (i : Nat) : Grow (Option.some b) w (w.setCell ⟨b, i, none⟩ v) := (wrote_setCell w ⟨b, i, none⟩ v).grow
theorem stK_own2 {P : Program} {T e b n c i : Nat} {x y : Value} {xs : List Value} {k : Value → World → Prop} {w : World} (hs : (P.info? T).map (·.size) = Option.some 2) (h1 : x.oneCell' = true) (h2 : y.oneCell' = true)
  (o : OwnS w e 2 (Option.some ⟨b, 0, none⟩) n c xs) (hi : i < n) (h : ∀ w', OwnS w' e 2 (Option.some ⟨b, 0, none⟩) n c ((xs.set (i * 2) x).set (i * 2 + 1) y) → Grow (Option.some b) w w' → k undef w') : stK P T (.pointer (Option.some ⟨b, i * 2, none⟩)) (.agg #[x, y]) k w := by
 have hl := o.1
 have c0 : w.cell? ⟨b, i * 2, none⟩ = Option.some xs[i * 2] := by rw [o.cell om, List.getElem?_eq_getElem om]
 have o1 := o.set (i * 2) x
 have c1 : (w.setCell ⟨b, i * 2, none⟩ x).cell? ⟨b, i * 2 + 1, none⟩ = Option.some ((xs.set (i * 2) x)[i * 2 + 1]'(by rw [List.length_set]; omega)) := by rw [o1.cell om, List.getElem?_eq_getElem]
 have o2 := o1.set (i * 2 + 1) y
 have hr : (Instr.storeAt T (.pointer (Option.some ⟨b, i * 2, none⟩)) (.agg #[x, y])).run P w = .ok () ((w.setCell ⟨b, i * 2, none⟩ x).setCell ⟨b, i * 2 + 1, none⟩ y) := by
  cases hinf : P.info? T with
  | none => simp [hinf] at hs
  | some inf =>
   simp only [hinf, Option.map_some, Option.some.injEq] at hs
   refine (run_bindV (a := ⟨b, i * 2, none⟩) (w' := w) rfl).trans ?_
   refine (run_bindV (run_sizeOf_some hinf)).trans ?_
   have r0 := run_store_one (P := P) h1 c0 (o.frozen _)
   have r1 := run_store_one (P := P) h2 c1 (o1.frozen _)
   have a0 : (⟨b, i * 2, none⟩ : Addr).add 0 = ⟨b, i * 2, none⟩ := by simp [Addr.add]
   have a1 : (⟨b, i * 2, none⟩ : Addr).add (0 + 1) = ⟨b, i * 2 + 1, none⟩ := by simp [Addr.add]
   simp only [hs, Value.cells, List.size_toArray, List.length_cons, List.length_nil, ne_eq, not_true_eq_false, if_false, storeCells, a0, a1, Nat.reduceAdd]
   refine (run_bindV r0).trans ?_
   exact (run_bindV r1).trans rfl
 unfold stK
 rw [hr]
 exact h _ o2 ((Grow.refl2 w b x _).trans (Grow.refl2 _ b y _))
theorem appK_2 {P : Program} {T ty e bs : Nat} {z : Value} {k : Value → World → Prop} {w : World} (ht : elt P T = Option.some (e, 2, z, bs))
  {a : Option Addr} {n c : Nat} {xs : List Value} (hown : OwnS w e 2 a n c xs) {b : Nat} {x y : Value} (hb : Blk w b #[x, y] e) (h1 : x.oneCell' = true) (h2 : y.oneCell' = true) (hn : n < 1000000) (hbs : bs ≤ 1000)
  (h : ∀ w' a' c', OwnS w' e 2 a' (n + 1) c' (xs ++ [x, y]) → Grow (blk a) w w' → (∀ b, blk a' = Option.some b → blk a = Option.some b ∨ w.heap.size ≤ b) → k (.slice a' (n + 1) c') w') :
  biK P .append #[T, T] ty #[.slice a n c, .slice (Option.some ⟨b, 0, none⟩) 1 1] k w := by
 refine appK_of ht dc hown [x, y] sm ?_ (fun u hu => ?_) (by simp [maxLen]; omega) ?_ h
 ·intro j u hu
  rw [add_mk, Nat.zero_add, hb.cell]
  match j with
  | 0 => simpa using hu
  | 1 => simpa using hu
  | j + 2 => simp at hu
 ·simp only [List.mem_cons, List.not_mem_nil, or_false] at hu
  rcases hu with rfl | rfl
  ·exact h1
  ·exact h2
 ·exact Nat.le_trans (Nat.mul_le_mul_left _ hbs) om
def sv (n : Nat) (L : Nat → Nat × Int) : List Value := (List.range (n * 2)).map fun j => if j % 2 = 0 then .int .i64 ((L (j / 2)).1 : Nat) else .int .i64 (L (j / 2)).2
theorem sv_len (n : Nat) (L : Nat → Nat × Int) : (sv n L).length = n * 2 := by simp [sv]
theorem sv_at {n j : Nat} (L : Nat → Nat × Int) (h : j < n * 2) : (sv n L)[j]? = Option.some (if j % 2 = 0 then .int .i64 ((L (j / 2)).1 : Nat) else .int .i64 (L (j / 2)).2) := by
 simp [sv, List.getElem?_map, List.getElem?_range h]
theorem sv_get0 {n k : Nat} (L : Nat → Nat × Int) (h : k < n) : (sv n L)[k * 2]? = Option.some (.int .i64 ((L k).1 : Nat)) := by
 rw [sv_at L om, if_pos om, show k * 2 / 2 = k from om]
theorem sv_get1 {n k : Nat} (L : Nat → Nat × Int) (h : k < n) : (sv n L)[k * 2 + 1]? = Option.some (.int .i64 (L k).2) := by
 rw [sv_at L om, if_neg om, show (k * 2 + 1) / 2 = k from om]
theorem sv_set {n i : Nat} {L L' : Nat → Nat × Int} {x y : Int} (hi : i < n) (hx : x = ((L' i).1 : Nat)) (hy : y = (L' i).2) (h : ∀ j, j < n → j ≠ i → L' j = L j) :
  ((sv n L).set (i * 2) (.int .i64 x)).set (i * 2 + 1) (.int .i64 y) = sv n L' := by
 apply List.ext_getElem?; intro j
 rw [List.getElem?_set, List.getElem?_set]
 by_cases hj : j < n * 2
 ·rw [sv_at L' hj, sv_at L hj]
  simp only [List.length_set, sv_len]
  by_cases e1 : i * 2 + 1 = j
  ·subst e1
   rw [if_pos rfl, if_pos hj, if_neg om, show (i * 2 + 1) / 2 = i from om, hy]
  ·rw [if_neg e1]
   by_cases e2 : i * 2 = j
   ·subst e2
    rw [if_pos rfl, if_pos hj, if_pos om, show i * 2 / 2 = i from om, hx]
   ·rw [if_neg e2, h (j / 2) om om]
 ·have h1 : ¬ i * 2 + 1 = j := om
  have h2 : ¬ i * 2 = j := om
  rw [if_neg h1, if_neg h2, List.getElem?_eq_none (by rw [sv_len]; omega), List.getElem?_eq_none (by rw [sv_len]; omega)]
theorem sv_snoc {n : Nat} {L L' : Nat → Nat × Int} {x y : Int} (hx : x = ((L' n).1 : Nat)) (hy : y = (L' n).2) (h : ∀ j, j < n → L' j = L j) : sv n L ++ [.int .i64 x, .int .i64 y] = sv (n + 1) L' := by
 apply List.ext_getElem?; intro j
 by_cases h1 : j < n * 2
 ·rw [List.getElem?_append_left (by rw [sv_len]; omega), sv_at L h1, sv_at L' om, h (j / 2) om]
 ·rw [List.getElem?_append_right (by rw [sv_len]; omega), sv_len]
  by_cases h2 : j < (n + 1) * 2
  ·rw [sv_at L' h2]
   by_cases h3 : j = n * 2
   ·subst h3
    rw [if_pos om, show n * 2 / 2 = n from om, Nat.sub_self, hx]; rfl
   ·have h4 : j = n * 2 + 1 := om
    subst h4
    rw [if_neg om, show (n * 2 + 1) / 2 = n from om, show n * 2 + 1 - n * 2 = 1 from om, hy]; rfl
  ·rw [List.getElem?_eq_none sq, List.getElem?_eq_none (by rw [sv_len]; omega)]
theorem sv_take {n m : Nat} (L : Nat → Nat × Int) (h : m ≤ n) : (sv n L).take (m * 2) = sv m L := by
 simp only [sv, ← List.map_take]
 rw [List.take_range, Nat.min_eq_left om]
def stB (a b : Nat × Int) : Bool := decide (b.2 < a.2)
theorem stB_ahead : Ahead stB := by
 refine ⟨fun a b e => ?_, fun a b c e1 e2 => ?_⟩
 ·simp only [stB, decide_eq_true_eq, decide_eq_false_iff_not] at *; omega
 ·simp only [stB, decide_eq_false_iff_not] at *; omega
end Go.SW
namespace Go.Proofs.YtcbmhjndbpafbaaGreatDoor
open Go.RowKit Go.SW
theorem aggN_q : aggN Tryz.prog 224 = some 2 := ke
theorem scal_q : scal Tryz.prog 224 = false := ke
theorem foff_q0 : foff Tryz.prog 224 0 = some 0 := ke
theorem foff_q1 : foff Tryz.prog 224 1 = some 1 := ke
theorem scal_fnq : scal Tryz.prog 221 = true := ke
theorem scal_sst : scal Tryz.prog 222 = true := ke
theorem siz_sst : (Tryz.prog.info? 222).map (·.size) = some 1 := ke
theorem aggN_st : aggN Tryz.prog 220 = some 2 := ke
theorem scal_st : scal Tryz.prog 220 = false := ke
theorem foff_st0 : foff Tryz.prog 220 0 = some 0 := ke
theorem foff_st1 : foff Tryz.prog 220 1 = some 1 := ke
theorem siz_st : (Tryz.prog.info? 220).map (·.size) = some 2 := ke
theorem elt_st : elt Tryz.prog 222 = some (220, 2, .agg #[.int .i64 0, .int .i64 0], 16) := ke
theorem zero_st : zeroC Tryz.prog 220 = some #[.int .i64 0, .int .i64 0] := ke
theorem bld_st (a b : Int) : buildV Tryz.prog 220 [(0, .int .i64 a), (1, .int .i64 b)] = some (.agg #[.int .i64 a, .int .i64 b]) := ke
theorem zero_q : zeroC Tryz.prog 224 = some #[.nilFunc, .slice none 0 0] := ke
theorem siz_q : (Tryz.prog.info? 224).map (·.size) = some 2 := ke
theorem bld_q (fn : Fn) (x y : Array Value) : buildV Tryz.prog 224 [(0, .func fn x y)] = some (.agg #[.func fn x y, .slice none 0 0]) := ke
attribute [go_sem] aggN_q scal_q foff_q0 foff_q1 scal_fnq scal_sst aggN_st scal_st foff_st0 foff_st1 bld_st bld_q
def fvS : Value := .func (.func 235) #[] #[]
def stV (p : Nat × Int) : Value := .agg #[.int .i64 (p.1 : Nat), .int .i64 p.2]
def PileS (w : World) (pb : Nat) (a : Option Addr) (c n : Nat) (L : Nat → Nat × Int) : Prop := Blk w pb #[fvS, .slice a n c] 224 ∧ OwnS w 220 2 a n c (sv n L) ∧ blk a ≠ some pb
theorem PileS.ext {w w' : World} {pb c n : Nat} {a : Option Addr} {L : Nat → Nat × Int} (p : PileS w pb a c n L) (e : Ext w w') : PileS w' pb a c n L := ⟨p.1.ext e, p.2.1.ext e, p.2.2⟩
theorem passes1_c (p q : Nat × Int) (w : World) :
  Ret Tryz.prog 235 #[stV p, stV q] w fun v w' => v = .bool (stB p q) ∧ Ext w w' := by
 refine enter2 Tryz.func235 rfl fun f a0 a1 => ?_
 rw [stV] at a0 a1
 simp only [go_sem, a0]
 refine boxK_of fun w0 fb eb x0 k0 _ => ?_
 simp (disch := omega) only [go_sem, a1]
 refine boxK_of fun w1 gb egb x1 k1 _ => ?_
 have k01 := k0.ext x1
 by_cases h : q.2 < p.2
 ·simp (disch := omega) only [go_sem, k01.cell, k1.cell, Value.cells, h, Tryz.results235]
  exact ⟨by simp [stB, h], x0.trans x1⟩
 ·simp (disch := omega) only [go_sem, k01.cell, k1.cell, Value.cells, h, Tryz.results235]
  exact ⟨by simp [stB, h], x0.trans x1⟩
theorem Grow.to {ob : Option Nat} {z : Nat} {w w' : World} (g : Grow ob w w') (h : ∀ b, ob = some b → z = b) : Grow (some z) w w' := ⟨g.os, g.tape, g.output, g.size, fun i hi hne => g.other i hi fun e => hne (by rw [h i e])⟩
theorem put2_c (pb : Nat) (a : Option Addr) (c n : Nat) (L : Nat → Nat × Int) (x : Nat × Int) (w : World) (p : PileS w pb a c n L) (hp : Heap stB n L) (hn : n ≤ 1000) :
  Ret Tryz.prog 236 #[.pointer (some ⟨pb, 0, none⟩), stV x] w fun _ w' => ∃ a' c' L', PileS w' pb a' c' (n + 1) L' ∧ Heap stB (n + 1) L' ∧ (∀ y, bag (n + 1) L' y = bag n L y + if x = y then 1 else 0) ∧
   (∀ b, blk a' = some b → blk a = some b ∨ w.heap.size ≤ b) ∧ GrowS (fun b => b = pb ∨ blk a = some b) w w' := by
 obtain ⟨pk, po, pne⟩ := p
 refine enter2 Tryz.func236 rfl fun f a0 a1 => ?_
 simp only [go_sem, a1]
 refine boxK_of fun w0 fb efb x0 kb _ => ?_
 have s0 := x0.size
 have pl := pk.lt
 have kb : Blk w0 fb #[.int .i64 (x.1 : Nat), .int .i64 x.2] 220 := by simpa [stV, Value.cells] using kb
 obtain ⟨z, hz1, hz2, hz3⟩ : ∃ z, (∀ b, blk a = some b → z = b) ∧ z ≠ pb ∧ z ≠ fb := by
  cases hb : blk a with
  | none => exact ⟨fb + 1, (fun b h => nomatch h), om, om⟩
  | some b => exact ⟨b, (fun b' h => Option.some.inj h), (fun e => pne (by rw [hb, e])), (fun e => by have := po.blk_lt hb; omega)⟩
 simp (disch := omega) only [go_sem, a0]
 refine QR_sch (some z) (.st 0 (.st 1 (.st 2 (.st 3 (.st 4 (.st 5 (.ef 6 (.ef 7 (.st 8 (.st 9 (.fin 10 (.done)))))))))))) ke ke fun w1 x1 => ?_
 have x01 := x0.trans x1
 have s1 := x01.size
 have pk1 := pk.ext x01
 have po1 := po.ext x01
 have kb1 := kb.ext x1
 simp (disch := omega) only [go_sem, a0, pk1.cell, readCells_blk kb1 (n := 2) sm]
 refine bslK_2 elt_st rfl fun w2 b2 e2 x2 k2 _ => nxE_of (x2.grow _) ?_
 simp (disch := omega) only [go_sem]
 refine appK_2 elt_st (po1.ext x2) k2 rfl rfl om dc fun w3 a2 c2 o2 g2 h2 => nxE_of (Grow.to g2 hz1) ?_
 have s2 := x2.size
 have pk2 := g2.blk (pk1.ext x2) (by intro e; exact pne e)
 simp (disch := omega) only [go_sem, a0]
 refine stK_blk siz_sst rf rf pk2 sm fun w4 pk3 g3 => ?_
 have pk3 : Blk w4 pb #[fvS, .slice a2 (n + 1) c2] 224 := by simpa using pk3
 have hne2 : blk a2 ≠ some pb := fun e => by
  rcases h2 pb e with h | h
  ·exact pne h
  ·omega
 rw [sv_snoc (L := L) (L' := fun k => if k = n then x else L k) sm sm (fun j hj => if_neg om)] at o2
 have o3 := o2.grow g3.grow (fun b hb e => by cases e; exact hne2 hb)
 have gs3 : GrowS (fun b => b = pb ∨ blk a = some b) w w4 := (((x01.trans x2).toS _).trans g2.toS (fun i _ h => .inr h)).trans g3.grow.toS (fun i _ h => .inl (by simpa using h.symm))
 simp (disch := omega) only [go_sem, a0, pk3.cell]
 refine loopX (fun m f W => f 0 = .pointer (some ⟨pb, 0, none⟩) ∧ ∃ (i : Nat) (M : Nat → Nat × Int), m = i ∧ i ≤ n ∧ f 4 = .int .i64 i ∧ PileS W pb a2 c2 (n + 1) M ∧ UpInv stB (n + 1) M i ∧ (∀ y, bag (n + 1) M y = bag n L y + if x = y then 1 else 0) ∧ GrowS (fun b => b = pb ∨ blk a2 = some b) w4 W) n ⟨by simp [upd_apply, a0], n, _, rfl, Nat.le_refl _, by simp [upd_apply], ⟨pk3, o3, hne2⟩, UpInv.start hp x, fun y => bag_put n L x y, GrowS.refl _ _⟩ fun m f W ⟨a0, i, M, hm, hin, a4, ⟨pkW, oW, neW⟩, uW, bW, gW⟩ => ?_
 subst hm
 have h2' : ∀ b, blk a2 = some b → blk a = some b ∨ w.heap.size ≤ b := fun b hb => (h2 b hb).imp id fun h => om
 obtain ⟨ub, rfl⟩ := oW.some om
 by_cases h0 : (0 : Int) < (m : Int)
 ·have hq : ((m : Int) - 1) / 2 = (((m - 1) / 2 : Nat) : Int) := om
  have ci := oW.read2 (k := m) om (sv_get0 M om) (sv_get1 M om)
  have cp := oW.read2 (k := (m - 1) / 2) om (sv_get0 M om) (sv_get1 M om)
  simp (disch := omega) only [go_sem, a0, a4, h0, hq]
  refine QR_of ke ke ?_
  simp (disch := omega) only [go_sem, a0, a4, pkW.cell, ci, cp, fvS]
  refine callK_q ke (fun w' e => passes1_c (M m) (M ((m - 1) / 2)) _) ?_
  simp (disch := omega) only [go_sem]
  intro W1 y1
  replace pkW := pkW.ext y1
  replace oW := oW.ext y1
  replace ci := oW.read2 (k := m) om (sv_get0 M om) (sv_get1 M om)
  replace cp := oW.read2 (k := (m - 1) / 2) om (sv_get0 M om) (sv_get1 M om)
  replace gW : GrowS (fun b => b = pb ∨ blk (some ⟨ub, 0, none⟩) = some b) w4 W1 := gW.trans (y1.toS _) fun _ _ h => h
  cases hh : stB (M m) (M ((m - 1) / 2)) with
  | false =>
   simp (disch := omega) only [go_sem, Tryz.results236]
   exact ⟨_, c2, M, ⟨pkW, oW, neW⟩, uW.done (.inr hh), bW, h2', gs3.trans gW fun i hi hs => by
    rcases hs with hs | hs
    ·exact .inl hs
    ·rcases h2 i hs with h' | h'
     ·exact .inr h'
     ·omega⟩
  | true =>
   simp (disch := omega) only [go_sem]
   refine QR_sch (some ub) (.st 0 (.st 1 (.st 2 (.st 3 (.st 4 (.st 5 (.st 6 (.st 7 (.st 8 (.st 9 (.st 10 (.st 11 (.st 12 (.st 13 (.st 14 (.st 15 (.st 17 (.st 18 (.st 19 (.st 20 (.st 21 (.st 22 (.alt (.ef 16 (.ef 23 (.st 24 (.ef 25 (.st 26 (.fin 27 (.done))))))) (.ef 23 (.ef 16 (.st 24 (.ef 25 (.st 26 (.fin 27 (.done)))))))))))))))))))))))))))))) ke ke fun w5 x5 => ?_
   have neW' : ub ≠ pb := by simpa [blk] using neW
   have pk5 := pkW.ext x5
   have o5 := oW.ext x5
   have ci5 := o5.read2 (k := m) om (sv_get0 M om) (sv_get1 M om)
   have cp5 := o5.read2 (k := (m - 1) / 2) om (sv_get0 M om) (sv_get1 M om)
   simp (disch := omega) only [go_sem, a0, a4, pk5.cell]
   refine RLT_alt ?_ ?_
   ·skip
    simp (disch := omega) only [go_sem, ci5, cp5]
    refine nxE_of (Grow.refl _ _) ?_
    simp (disch := omega) only [go_sem, ci5, cp5]
    refine nxE_of (Grow.refl _ _) ?_
    simp (disch := omega) only [go_sem]
    refine stK_own2 siz_st rfl rfl o5 (i := m) om fun w6 o6 g6 => nxE_of g6 ?_
    rw [sv_set (n := n + 1) (i := m) (L := M) (L' := fun k => if k = m then M ((m - 1) / 2) else M k) om sm sm (fun j hj hne => by simp [hne])] at o6
    simp (disch := omega) only [go_sem]
    refine stK_own2 siz_st rfl rfl o6 (i := ((m - 1) / 2)) om fun w7 o7 g7 => ?_
    rw [sv_set (n := n + 1) (i := ((m - 1) / 2)) (L := fun k => if k = m then M ((m - 1) / 2) else M k) (L' := swp M m ((m - 1) / 2)) om (by rw [(swp_at M m ((m - 1) / 2)).2]) (by rw [(swp_at M m ((m - 1) / 2)).2]) (fun j hj hne => by simp [swp, hne])] at o7
    have gg : Grow (some ub) W1 w7 := ((x5.grow _).trans g6).trans g7
    simp (disch := omega) only [go_sem]
    refine ⟨(m - 1) / 2, om, by simp [upd_apply, a0], (m - 1) / 2, swp M m ((m - 1) / 2), rfl, om, by simp [upd_apply], ⟨gg.blk pkW (by simpa [blk] using neW), o7, neW⟩, uW.step stB_ahead om om hh, fun y => by rw [bag_swp M om om]; exact bW y, gW.trans gg.toS fun i _ h => .inr (by simpa [blk] using h)⟩
   ·skip
    simp (disch := omega) only [go_sem, ci5, cp5]
    refine nxE_of (Grow.refl _ _) ?_
    simp (disch := omega) only [go_sem, ci5, cp5]
    refine nxE_of (Grow.refl _ _) ?_
    simp (disch := omega) only [go_sem]
    refine stK_own2 siz_st rfl rfl o5 (i := m) om fun w6 o6 g6 => nxE_of g6 ?_
    rw [sv_set (n := n + 1) (i := m) (L := M) (L' := fun k => if k = m then M ((m - 1) / 2) else M k) om sm sm (fun j hj hne => by simp [hne])] at o6
    simp (disch := omega) only [go_sem]
    refine stK_own2 siz_st rfl rfl o6 (i := ((m - 1) / 2)) om fun w7 o7 g7 => ?_
    rw [sv_set (n := n + 1) (i := ((m - 1) / 2)) (L := fun k => if k = m then M ((m - 1) / 2) else M k) (L' := swp M m ((m - 1) / 2)) om (by rw [(swp_at M m ((m - 1) / 2)).2]) (by rw [(swp_at M m ((m - 1) / 2)).2]) (fun j hj hne => by simp [swp, hne])] at o7
    have gg : Grow (some ub) W1 w7 := ((x5.grow _).trans g6).trans g7
    simp (disch := omega) only [go_sem]
    refine ⟨(m - 1) / 2, om, by simp [upd_apply, a0], (m - 1) / 2, swp M m ((m - 1) / 2), rfl, om, by simp [upd_apply], ⟨gg.blk pkW (by simpa [blk] using neW), o7, neW⟩, uW.step stB_ahead om om hh, fun y => by rw [bag_swp M om om]; exact bW y, gW.trans gg.toS fun i _ h => .inr (by simpa [blk] using h)⟩
 ·obtain rfl : m = 0 := om
  simp (disch := omega) only [go_sem, a4, h0, Tryz.results236]
  exact ⟨_, c2, M, ⟨pkW, oW, neW⟩, uW.done (.inl rfl), bW, h2', gs3.trans gW fun i hi hs => by
   rcases hs with hs | hs
   ·exact .inl hs
   ·rcases h2 i hs with h' | h'
    ·exact .inr h'
    ·omega⟩
theorem take2_c (pb : Nat) (a : Option Addr) (c n : Nat) (L : Nat → Nat × Int) (w : World) (p : PileS w pb a c (n + 1) L) (hp : Heap stB (n + 1) L) (hn : n ≤ 1000) :
  Ret Tryz.prog 237 #[.pointer (some ⟨pb, 0, none⟩)] w fun v w' => v = stV (L 0) ∧ ∃ L', PileS w' pb a c n L' ∧ Heap stB n L' ∧ (∀ y, bag n L' y + (if L 0 = y then 1 else 0) = bag (n + 1) L y) ∧
   GrowS (fun b => b = pb ∨ blk a = some b) w w' := by
 obtain ⟨pk, po, pne⟩ := p
 obtain ⟨ub, rfl⟩ := po.some om
 have neW' : ub ≠ pb := by simpa [blk] using pne
 have hnn : ((n + 1 : Nat) : Int) - 1 = (n : Int) := om
 have hcap := po.le_cap
 have pl := pk.lt
 have ul := po.blk_lt (b := ub) rfl
 refine enter1 Tryz.func237 rfl fun f a0 => ?_
 simp (disch := omega) only [go_sem]
 refine allocK_of zero_st fun w0 vb evb x0 kv _ => ?_
 have s0 := x0.size
 have c0 := (po.ext x0).read2 (k := 0) om (sv_get0 L om) (sv_get1 L om)
 rw [Nat.zero_mul] at c0
 simp (disch := omega) only [go_sem, a0, (pk.ext x0).cell, c0]
 refine allocK_of zero_st fun w1 fb efb x1 kf _ => ?_
 have s1 := x1.size
 simp (disch := omega) only [go_sem]
 refine stK_agg siz_st sm oi kf sm fun w2 kf2 g2 => ?_
 have s2 := g2.size
 have x02 : Ext w w2 := g2.ext (x0.trans x1) om
 have kv2 : Blk w2 vb #[.int .i64 0, .int .i64 0] 220 := g2.grow.blk (kv.ext x1) sq
 have kf2 : Blk w2 fb #[.int .i64 ((L 0).1 : Nat), .int .i64 (L 0).2] 220 := by simpa using kf2
 have pk2 := pk.ext x02
 have po2 := po.ext x02
 simp (disch := omega) only [go_sem, a0, pk2.cell, hnn]
 refine QR_sch (some ub) (.st 0 (.st 1 (.st 2 (.st 3 (.st 4 (.st 5 (.st 6 (.st 7 (.st 8 (.st 9 (.ef 10 (.st 11 (.fin 12 (.done)))))))))))))) ke ke fun w3 x3 => ?_
 have s3 := x3.size
 have pk3 := pk2.ext x3
 have po3 := po2.ext x3
 have cn3 := po3.read2 (k := n) om (sv_get0 L om) (sv_get1 L om)
 simp (disch := omega) only [go_sem, a0, pk3.cell, cn3]
 refine nxE_of (Grow.refl _ _) ?_
 simp (disch := omega) only [go_sem]
 have hst := fun k h => stK_own2 (P := Tryz.prog) (T := 220) (k := k) siz_st (x := .int .i64 ((L n).1 : Nat)) (y := .int .i64 (L n).2) rfl rfl po3 (i := 0) om h
 rw [Nat.zero_mul] at hst
 refine hst _ fun w4 o4 g4 => ?_
 have o4 : OwnS w4 220 2 (some ⟨ub, 0, none⟩) (n + 1) c (((sv (n + 1) L).set (0 * 2) (.int .i64 ((L n).1 : Nat))).set (0 * 2 + 1) (.int .i64 (L n).2)) := o4
 rw [sv_set (n := n + 1) (i := 0) (L := L) (L' := fun k => if k = 0 then L n else L k) om sm sm (fun j hj hne => by simp [hne])] at o4
 have pk4 := g4.blk pk3 sq
 simp (disch := omega) only [go_sem, a0, pk4.cell]
 refine stK_blk siz_sst rf rf pk4 sm fun w5 pk5 g5 => ?_
 have o5 := (o4.grow g5.grow (fun b hb e => by simp [blk] at hb; simp at e; omega)).shrink (m := n) om
 rw [sv_take _ om] at o5
 have pk5 : Blk w5 pb #[fvS, .slice (some ⟨ub, 0, none⟩) n c] 224 := by simpa using pk5
 have gs5 : GrowS (fun b => b = pb ∨ blk (some ⟨ub, 0, none⟩) = some b) w w5 := (((x02.trans x3).toS _).trans g4.toS (fun i _ h => .inr (by simpa [blk] using h))).trans g5.grow.toS (fun i _ h => .inl (by simpa using h.symm))
 have kv5 := g5.grow.blk (g4.blk (kv2.ext x3) sq) sq
 have kf5 := g5.grow.blk (g4.blk (kf2.ext x3) sq) sq
 simp (disch := omega) only [go_sem]
 refine loopX (fun m f W => f 0 = .pointer (some ⟨pb, 0, none⟩) ∧ f 2 = .pointer (some ⟨vb, 0, none⟩) ∧ f 3 = .pointer (some ⟨fb, 0, none⟩) ∧ f 4 = .int .i64 n ∧ ∃ (i : Nat) (M : Nat → Nat × Int), m = n + 1 - i ∧ (i = 0 ∨ i < n) ∧ f 5 = .int .i64 i ∧ PileS W pb (some ⟨ub, 0, none⟩) c n M ∧ DnInv stB n M i ∧ (∀ y, bag n M y = bag n (fun k => if k = 0 then L n else L k) y) ∧ Grow (some ub) w5 W) (n + 1) ⟨by simp [upd_apply, a0], uu, uu, by simp [upd_apply], 0, _, rfl, .inl rfl, by simp [upd_apply], ⟨pk5, o5, pne⟩, DnInv.start hp, fun _ => rfl, Grow.refl _ _⟩ fun m f W ⟨a0, a2, a3, a4, i, M, hm, hin, a5, ⟨pkW, oW, _⟩, dW, bW, gW⟩ => ?_
 subst hm
 simp (disch := omega) only [go_sem, a5]
 refine loopX (fun m f V => f 0 = .pointer (some ⟨pb, 0, none⟩) ∧ f 2 = .pointer (some ⟨vb, 0, none⟩) ∧ f 3 = .pointer (some ⟨fb, 0, none⟩) ∧ f 4 = .int .i64 n ∧ f 5 = .int .i64 i ∧ ∃ b d : Nat, m = 2 * i + 3 - d ∧ f 6 = .int .i64 b ∧ f 7 = .int .i64 d ∧ 2 * i + 1 ≤ d ∧ d ≤ 2 * i + 3 ∧ (b = i ∨ (2 * i + 1 ≤ b ∧ b < d ∧ b < n ∧ stB (M b) (M i) = true)) ∧ (∀ s, 2 * i + 1 ≤ s → s < d → s < n → stB (M s) (M b) = false) ∧ Ext W V) 2 ⟨uu, uu, uu, uu, uu, i, 2 * i + 1, om, by simp [upd_apply], by simp [upd_apply], om, om, .inl rfl, fun s h1 h2 => om, Ext.refl _⟩ fun m f V ⟨a0, a2, a3, a4, a5, b, d, hm, a6, a7, hd1, hd2, hb, hs, xV⟩ => ?_
 subst hm
 have pkV := pkW.ext xV
 have oV := oW.ext xV
 by_cases hd : d ≤ 2 * i + 2 ∧ d < n
 ·have q1 : (d : Int) ≤ 2 * (i : Int) + 2 := om
  have q2 : (d : Int) < (n : Int) := om
  have cd := oV.read2 (k := d) om (sv_get0 M om) (sv_get1 M om)
  have cb' := oV.read2 (k := b) om (sv_get0 M om) (sv_get1 M om)
  simp (disch := omega) only [go_sem, a0, a4, a5, a6, a7, q1, q2]
  refine QR_of ke ke ?_
  simp (disch := omega) only [go_sem, a0, a6, a7, pkV.cell, cd, cb', fvS]
  refine callK_q ke (fun w' e => passes1_c (M d) (M b) _) ?_
  simp (disch := omega) only [go_sem]
  intro V1 y1
  cases hh : stB (M d) (M b) with
  | false =>
   simp (disch := omega) only [go_sem, a7]
   refine ⟨2 * i + 3 - (d + 1), om, uu, uu, uu, uu, uu, b, d + 1, rfl, uu, by simp [upd_apply], om, om, ?_, fun s h1 h2 h3 => ?_, xV.trans y1⟩
   ·rcases hb with hb | ⟨hb1, hb2, hb3, hb4⟩
    ·exact .inl hb
    ·exact .inr ⟨hb1, om, hb3, hb4⟩
   ·by_cases e : s = d
    ·subst e; exact hh
    ·exact hs s h1 om h3
  | true =>
   simp (disch := omega) only [go_sem, a7]
   have o := stB_ahead
   have hr := o.asy _ _ hh
   refine ⟨2 * i + 3 - (d + 1), om, uu, uu, uu, uu, uu, d, d + 1, rfl, by simp [upd_apply, a7], by simp [upd_apply], om, om, .inr ⟨hd1, om, hd.2, ?_⟩, fun s h1 h2 h3 => ?_, xV.trans y1⟩
   ·rcases hb with hb | ⟨hb1, hb2, hb3, hb4⟩
    ·rw [← hb]; exact hh
    ·cases e : stB (M d) (M i) with
     | true => rfl
     | false =>
      have := o.tr _ _ _ e (o.asy _ _ hb4)
      rw [hh] at this; cases this
   ·by_cases e : s = d
    ·subst e
     cases e2 : stB (M s) (M s) with
     | false => rfl
     | true => have := o.asy _ _ e2; rw [e2] at this; exact this
    ·exact o.tr _ _ _ (hs s h1 om h3) hr
 ·have hall : ∀ s, 0 < s → s < n → (s - 1) / 2 = i → stB (M s) (M b) = false := fun s s0 sn sp => hs s om om sn
  have fin : ¬ ((d : Int) ≤ 2 * (i : Int) + 2 ∧ (d : Int) < (n : Int)) := om
  by_cases hbi : b = i
  ·have hbe : ((b : Int) == (i : Int)) = true := by simp [hbi]
   have hres : Heap stB n M := dW.done fun s s0 sn sp => by rw [← hbi]; exact hall s s0 sn sp
   have hgs : GrowS (fun b => b = pb ∨ blk (some ⟨ub, 0, none⟩) = some b) w V := gs5.trans ((gW.trans (xV.grow _)).toS) fun i _ h => .inr (by simpa [blk] using h)
   have kvV := (gW.blk kv5 sq).ext xV
   have kfV := (gW.blk kf5 sq).ext xV
   rcases Classical.em ((d : Int) ≤ 2 * (i : Int) + 2) with q1 | q1
   ·have q2 : ¬ (d : Int) < (n : Int) := om
    simp (disch := omega) only [go_sem, a0, a2, a3, a4, a5, a6, a7, q1, q2, hbe, readCells_blk kfV (n := 2) sm]
    refine stK_agg siz_st sm oi kvV sm fun w6 kv6 g6 => ?_
    have kv6 : Blk w6 vb #[.int .i64 ((L 0).1 : Nat), .int .i64 (L 0).2] 220 := by simpa using kv6
    simp (disch := omega) only [go_sem, a2, readCells_blk kv6 (n := 2) sm, Tryz.results237]
    exact ⟨by first | rfl | trivial, M, ⟨g6.grow.blk pkV sq, oV.grow g6.grow (fun b hb e => by simp [blk] at hb; simp at e; omega), pne⟩, hres, fun y => by rw [bW y]; exact bag_take n L y, hgs.trans g6.grow.toS (fun i h1 h2 => by have h3 : vb = i := (by simpa using h2); omega)⟩
   ·simp (disch := omega) only [go_sem, a0, a2, a3, a4, a5, a6, a7, q1, hbe, readCells_blk kfV (n := 2) sm]
    refine stK_agg siz_st sm oi kvV sm fun w6 kv6 g6 => ?_
    have kv6 : Blk w6 vb #[.int .i64 ((L 0).1 : Nat), .int .i64 (L 0).2] 220 := by simpa using kv6
    simp (disch := omega) only [go_sem, a2, readCells_blk kv6 (n := 2) sm, Tryz.results237]
    exact ⟨by first | rfl | trivial, M, ⟨g6.grow.blk pkV sq, oV.grow g6.grow (fun b hb e => by simp [blk] at hb; simp at e; omega), pne⟩, hres, fun y => by rw [bW y]; exact bag_take n L y, hgs.trans g6.grow.toS (fun i h1 h2 => by have h3 : vb = i := (by simpa using h2); omega)⟩
  ·have hbe : ((b : Int) == (i : Int)) = false := by simp; omega
   obtain ⟨hb1, hb2, hbn, hb3⟩ : 2 * i + 1 ≤ b ∧ b < d ∧ b < n ∧ stB (M b) (M i) = true := by
    rcases hb with hb | hb
    ·exact absurd hb hbi
    ·exact hb
   have hcs : ((d : Int) ≤ 2 * (i : Int) + 2 ∧ ¬ (d : Int) < (n : Int)) ∨ ¬ (d : Int) ≤ 2 * (i : Int) + 2 := om
   rcases hcs with ⟨q1, q2⟩ | q1
   ·simp (disch := omega) only [go_sem, a4, a5, a6, a7, q1, q2, hbe]
    refine QR_sch (some ub) (.st 0 (.st 1 (.st 2 (.st 3 (.st 4 (.st 5 (.st 6 (.st 7 (.st 8 (.st 9 (.st 10 (.st 11 (.st 12 (.st 13 (.st 14 (.st 15 (.st 17 (.st 18 (.st 19 (.st 20 (.st 21 (.st 22 (.alt (.ef 16 (.ef 23 (.st 24 (.ef 25 (.st 26 (.fin 27 (.done))))))) (.ef 23 (.ef 16 (.st 24 (.ef 25 (.st 26 (.fin 27 (.done)))))))))))))))))))))))))))))) ke ke fun w5 x5 => ?_
    have pk5 := pkV.ext x5
    have o5 := oV.ext x5
    have ci5 := o5.read2 (k := i) om (sv_get0 M om) (sv_get1 M om)
    have cp5 := o5.read2 (k := b) om (sv_get0 M om) (sv_get1 M om)
    simp (disch := omega) only [go_sem, a0, a5, a6, pk5.cell]
    refine RLT_alt ?_ ?_
    ·skip
     simp (disch := omega) only [go_sem, ci5, cp5]
     refine nxE_of (Grow.refl _ _) ?_
     simp (disch := omega) only [go_sem, ci5, cp5]
     refine nxE_of (Grow.refl _ _) ?_
     simp (disch := omega) only [go_sem]
     refine stK_own2 siz_st rfl rfl o5 (i := i) om fun w6 o6 g6 => nxE_of g6 ?_
     rw [sv_set (n := n) (i := i) (L := M) (L' := fun k => if k = i then M b else M k) om sm sm (fun j hj hne => by simp [hne])] at o6
     simp (disch := omega) only [go_sem]
     refine stK_own2 siz_st rfl rfl o6 (i := b) om fun w7 o7 g7 => ?_
     rw [sv_set (n := n) (i := b) (L := fun k => if k = i then M b else M k) (L' := swp M i b) om (by rw [(swp_at M i b).2]) (by rw [(swp_at M i b).2]) (fun j hj hne => by simp [swp, hne])] at o7
     have gg : Grow (some ub) V w7 := ((x5.grow _).trans g6).trans g7
     simp (disch := omega) only [go_sem]
     refine ⟨n + 1 - b, om, by simp [upd_apply, a0], uu, uu, by simp [upd_apply, a4], b, swp M i b, rfl, om, (by first | trivial | rfl | simp [upd_apply, a6]), ⟨gg.blk pkV (by simpa using neW'), o7, pne⟩, dW.step stB_ahead om om om hb3 hall, fun y => by rw [bag_swp M om om]; exact bW y, gW.trans ((xV.grow _).trans gg)⟩
    ·skip
     simp (disch := omega) only [go_sem, ci5, cp5]
     refine nxE_of (Grow.refl _ _) ?_
     simp (disch := omega) only [go_sem, ci5, cp5]
     refine nxE_of (Grow.refl _ _) ?_
     simp (disch := omega) only [go_sem]
     refine stK_own2 siz_st rfl rfl o5 (i := i) om fun w6 o6 g6 => nxE_of g6 ?_
     rw [sv_set (n := n) (i := i) (L := M) (L' := fun k => if k = i then M b else M k) om sm sm (fun j hj hne => by simp [hne])] at o6
     simp (disch := omega) only [go_sem]
     refine stK_own2 siz_st rfl rfl o6 (i := b) om fun w7 o7 g7 => ?_
     rw [sv_set (n := n) (i := b) (L := fun k => if k = i then M b else M k) (L' := swp M i b) om (by rw [(swp_at M i b).2]) (by rw [(swp_at M i b).2]) (fun j hj hne => by simp [swp, hne])] at o7
     have gg : Grow (some ub) V w7 := ((x5.grow _).trans g6).trans g7
     simp (disch := omega) only [go_sem]
     refine ⟨n + 1 - b, om, by simp [upd_apply, a0], uu, uu, by simp [upd_apply, a4], b, swp M i b, rfl, om, (by first | trivial | rfl | simp [upd_apply, a6]), ⟨gg.blk pkV (by simpa using neW'), o7, pne⟩, dW.step stB_ahead om om om hb3 hall, fun y => by rw [bag_swp M om om]; exact bW y, gW.trans ((xV.grow _).trans gg)⟩
   ·simp (disch := omega) only [go_sem, a4, a5, a6, a7, q1, hbe]
    refine QR_sch (some ub) (.st 0 (.st 1 (.st 2 (.st 3 (.st 4 (.st 5 (.st 6 (.st 7 (.st 8 (.st 9 (.st 10 (.st 11 (.st 12 (.st 13 (.st 14 (.st 15 (.st 17 (.st 18 (.st 19 (.st 20 (.st 21 (.st 22 (.alt (.ef 16 (.ef 23 (.st 24 (.ef 25 (.st 26 (.fin 27 (.done))))))) (.ef 23 (.ef 16 (.st 24 (.ef 25 (.st 26 (.fin 27 (.done)))))))))))))))))))))))))))))) ke ke fun w5 x5 => ?_
    have pk5 := pkV.ext x5
    have o5 := oV.ext x5
    have ci5 := o5.read2 (k := i) om (sv_get0 M om) (sv_get1 M om)
    have cp5 := o5.read2 (k := b) om (sv_get0 M om) (sv_get1 M om)
    simp (disch := omega) only [go_sem, a0, a5, a6, pk5.cell]
    refine RLT_alt ?_ ?_
    ·skip
     simp (disch := omega) only [go_sem, ci5, cp5]
     refine nxE_of (Grow.refl _ _) ?_
     simp (disch := omega) only [go_sem, ci5, cp5]
     refine nxE_of (Grow.refl _ _) ?_
     simp (disch := omega) only [go_sem]
     refine stK_own2 siz_st rfl rfl o5 (i := i) om fun w6 o6 g6 => nxE_of g6 ?_
     rw [sv_set (n := n) (i := i) (L := M) (L' := fun k => if k = i then M b else M k) om sm sm (fun j hj hne => by simp [hne])] at o6
     simp (disch := omega) only [go_sem]
     refine stK_own2 siz_st rfl rfl o6 (i := b) om fun w7 o7 g7 => ?_
     rw [sv_set (n := n) (i := b) (L := fun k => if k = i then M b else M k) (L' := swp M i b) om (by rw [(swp_at M i b).2]) (by rw [(swp_at M i b).2]) (fun j hj hne => by simp [swp, hne])] at o7
     have gg : Grow (some ub) V w7 := ((x5.grow _).trans g6).trans g7
     simp (disch := omega) only [go_sem]
     refine ⟨n + 1 - b, om, by simp [upd_apply, a0], uu, uu, by simp [upd_apply, a4], b, swp M i b, rfl, om, (by first | trivial | rfl | simp [upd_apply, a6]), ⟨gg.blk pkV (by simpa using neW'), o7, pne⟩, dW.step stB_ahead om om om hb3 hall, fun y => by rw [bag_swp M om om]; exact bW y, gW.trans ((xV.grow _).trans gg)⟩
    ·skip
     simp (disch := omega) only [go_sem, ci5, cp5]
     refine nxE_of (Grow.refl _ _) ?_
     simp (disch := omega) only [go_sem, ci5, cp5]
     refine nxE_of (Grow.refl _ _) ?_
     simp (disch := omega) only [go_sem]
     refine stK_own2 siz_st rfl rfl o5 (i := i) om fun w6 o6 g6 => nxE_of g6 ?_
     rw [sv_set (n := n) (i := i) (L := M) (L' := fun k => if k = i then M b else M k) om sm sm (fun j hj hne => by simp [hne])] at o6
     simp (disch := omega) only [go_sem]
     refine stK_own2 siz_st rfl rfl o6 (i := b) om fun w7 o7 g7 => ?_
     rw [sv_set (n := n) (i := b) (L := fun k => if k = i then M b else M k) (L' := swp M i b) om (by rw [(swp_at M i b).2]) (by rw [(swp_at M i b).2]) (fun j hj hne => by simp [swp, hne])] at o7
     have gg : Grow (some ub) V w7 := ((x5.grow _).trans g6).trans g7
     simp (disch := omega) only [go_sem]
     refine ⟨n + 1 - b, om, by simp [upd_apply, a0], uu, uu, by simp [upd_apply, a4], b, swp M i b, rfl, om, (by first | trivial | rfl | simp [upd_apply, a6]), ⟨gg.blk pkV (by simpa using neW'), o7, pne⟩, dW.step stB_ahead om om om hb3 hall, fun y => by rw [bag_swp M om om]; exact bW y, gW.trans ((xV.grow _).trans gg)⟩
end Go.Proofs.YtcbmhjndbpafbaaGreatDoor
namespace Go.SW
open Go Go.RowKit
def Rch (R C : Nat) (h : Nat → Int) (a : Nat) (lv : Int) (x : Nat) : Prop :=
 landB h lv a = true ∧ landB h lv x = true ∧ repF (nearN R C) (landB h lv) (R * C) a = repF (nearN R C) (landB h lv) (R * C) x
instance (R C : Nat) (h : Nat → Int) (a : Nat) (lv : Int) (x : Nat) : Decidable (Rch R C h a lv x) := inferInstanceAs (Decidable (_ ∧ _ ∧ _))
theorem nb_lt {R C : Nat} : ∀ i, i < R * C → ∀ j ∈ nearN R C i, j < R * C := fun _ hi => nearN_lt hi
section
variable {R C : Nat} {h : Nat → Int} {a : Nat}
theorem Rch.self {lv : Int} (hl : lv ≤ h a) : Rch R C h a lv a := ⟨by simp [landB, hl], by simp [landB, hl], rfl⟩
theorem Rch.lea {lv : Int} {x : Nat} (r : Rch R C h a lv x) : lv ≤ h a := by have := r.1; simpa [landB] using this
theorem Rch.lex {lv : Int} {x : Nat} (r : Rch R C h a lv x) : lv ≤ h x := by have := r.2.1; simpa [landB] using this
theorem Rch.edge {lv : Int} {x j : Nat} (r : Rch R C h a lv x) (hx : x < R * C) (hj : j ∈ nearN R C x) (hl : lv ≤ h j) : Rch R C h a lv j := by
 have aj : landB h lv j = true := by simp [landB, hl]
 refine ⟨r.1, aj, r.2.2.trans ?_⟩
 exact rep_eqv (nb := nearN R C) (act := landB h lv) (n := R * C) nb_lt (.base (⟨hx, hj, r.2.1, aj⟩ : Edg (nearN R C) (landB h lv) (R * C) x j))
theorem Rch.closed {lv : Int} {x : Nat} (r : Rch R C h a lv x) (ha : a < R * C) (hx : x < R * C) {p : Nat → Prop} (hp : ∀ i, i < R * C → ∀ j ∈ nearN R C i, lv ≤ h i → lv ≤ h j → p i → p j) (pa : p a) : p x := by
 have u := rep_ok (nb := nearN R C) (act := landB h lv) (n := R * C) nb_lt
 have e := u.snd a x ha hx r.2.2
 refine (EqvC.closed (p := p) (fun i j ed => ?_) e).1 pa
 obtain ⟨h1, h2, h3, h4⟩ := ed
 have l1 : lv ≤ h i := by simpa [landB] using h3
 have l2 : lv ≤ h j := by simpa [landB] using h4
 have hjn := nb_lt i h1 j h2
 exact ⟨hp i h1 j h2 l1 l2, hp j hjn i ((near_sym h1 hjn).1 h2) l2 l1⟩
theorem Rch.mono {lv lv' : Int} {x : Nat} (r : Rch R C h a lv x) (ha : a < R * C) (hx : x < R * C) (hl : lv' ≤ lv) : Rch R C h a lv' x := by
 have := r.lea
 exact r.closed ha hx (p := fun y => Rch R C h a lv' y) (fun i hi j hj h1 h2 q => q.edge hi hj om) (Rch.self om)
def passN (R C : Nat) (h : Nat → Int) (a x : Nat) : Int := (cntp (fun lv => Rch R C h a (lv : Int) x) 100 : Nat) - 1
theorem cntp_le' (p : Nat → Prop) [DecidablePred p] : ∀ n, cntp p n ≤ n
 | 0 => Nat.le_refl _
 | n + 1 => by have := cntp_le' p n; simp only [cntp]; split <;> omega
theorem cntp_down (p : Nat → Prop) [DecidablePred p] (hd : ∀ i j, i ≤ j → p j → p i) : ∀ N k, k < N → (k < cntp p N ↔ p k)
 | N + 1, k, hk => by
  have hle := cntp_le' p N
  simp only [cntp]
  by_cases hN : p N
  ·have hall : cntp p N = N := by
    have : ∀ m, m ≤ N → cntp p m = m := fun m => by
     induction m with
     | zero => intro _; rfl
     | succ m ih => intro hm; simp only [cntp, ih om, if_pos (hd m N om hN)]
    exact this N (Nat.le_refl _)
   rw [if_pos hN, hall]
   exact ⟨fun _ => hd k N om hN, fun _ => om⟩
  ·rw [if_neg hN, Nat.add_zero]
   by_cases e : k = N
   ·subst e; exact ⟨fun h' => om, fun h' => absurd h' hN⟩
   ·exact cntp_down p hd N k om
theorem pass_ok (g : Gd R C h) {x : Nat} (ha : a < R * C) (hx : x < R * C) {lv : Int} (h0 : 0 ≤ lv) : lv ≤ passN R C h a x ↔ Rch R C h a lv x := by
 obtain ⟨k, rfl⟩ := Int.eq_ofNat_of_zero_le h0
 have hd := cntp_down (fun lv : Nat => Rch R C h a (lv : Int) x) (fun i j hij r => r.mono ha hx om) 100
 by_cases hk : k < 100
 ·rw [← hd k hk, passN]; omega
 ·have hc := cntp_le' (fun lv : Nat => Rch R C h a (lv : Int) x) 100
  constructor
  ·intro h'; rw [passN] at h'; omega
  ·intro r; have := r.lea; have := g.hh a ha; omega
theorem pass_ge (R C : Nat) (h : Nat → Int) (a x : Nat) : -1 ≤ passN R C h a x := by rw [passN]; omega
theorem pass_le (R C : Nat) (h : Nat → Int) (a x : Nat) : passN R C h a x ≤ 99 := by
 have hc := cntp_le' (fun lv : Nat => Rch R C h a (lv : Int) x) 100
 rw [passN]; omega
theorem pass_uniq (g : Gd R C h) {x : Nat} (ha : a < R * C) (hx : x < R * C) {v : Int} (h1 : -1 ≤ v) (h2 : ∀ lv, 0 ≤ lv → (lv ≤ v ↔ Rch R C h a lv x)) : v = passN R C h a x := by
 have hp := pass_ge R C h a x
 have e1 : v ≤ passN R C h a x := by
  by_cases h0 : 0 ≤ v
  ·exact (pass_ok g ha hx h0).2 ((h2 v h0).1 om)
  ·omega
 have e2 : passN R C h a x ≤ v := by
  by_cases h0 : 0 ≤ passN R C h a x
  ·exact (h2 _ h0).2 ((pass_ok g ha hx h0).1 om)
  ·omega
 omega
end
def stp (h : Nat → Int) (o : Nat → Int) (i j : Nat) : Nat → Int := fun x => if x = i then max (o i) (min (h i) (o j)) else o x
def relRow (h : Nat → Int) (i : Nat) (l : List Nat) (o : Nat → Int) : Nat → Int := l.foldl (fun o j => stp h o i j) o
def relTo (R C : Nat) (h : Nat → Int) (o : Nat → Int) : Nat → Nat → Int
 | 0 => o
 | k + 1 => relRow h k (nearN R C k) (relTo R C h o k)
def pasTo (R C : Nat) (h : Nat → Int) (a : Nat) : Nat → Nat → Int
 | 0 => fun x => if x = a then h a else -1
 | r + 1 => relTo R C h (pasTo R C h a r) (R * C)
theorem relRow_take (h : Nat → Int) (i : Nat) {l : List Nat} (o : Nat → Int) {m : Nat} (hm : m < l.length) : relRow h i (l.take (m + 1)) o = stp h (relRow h i (l.take m) o) i (l.getD m 0) := by
 rw [List.take_succ_eq_append_getElem hm, getD_at l 0 hm]
 simp only [relRow, List.foldl_append, List.foldl_cons, List.foldl_nil]
theorem stp_ge (h : Nat → Int) (o : Nat → Int) (i j x : Nat) : o x ≤ stp h o i j x := by
 simp only [stp]
 split
 ·rename_i e; subst e; omega
 ·omega
theorem relRow_ge (h : Nat → Int) (i : Nat) : ∀ (l : List Nat) (o : Nat → Int) (x : Nat), o x ≤ relRow h i l o x
 | [], _, _ => Int.le_refl _
 | b :: l, o, x => by
  have h1 := relRow_ge h i l (stp h o i b) x
  have h2 := stp_ge h o i b x
  simp only [relRow, List.foldl_cons] at h1 ⊢
  omega
theorem relRow_in (h : Nat → Int) (i : Nat) : ∀ (l : List Nat) (o : Nat → Int) (j : Nat), j ∈ l → j ≠ i → min (h i) (o j) ≤ relRow h i l o i
 | b :: l, o, j, hj, hne => by
  rcases List.mem_cons.1 hj with e | e
  ·subst e
   have h1 := relRow_ge h i l (stp h o i j) i
   have h2 : stp h o i j i = max (o i) (min (h i) (o j)) := by simp [stp]
   simp only [relRow, List.foldl_cons] at h1 ⊢
   omega
  ·have h1 := relRow_in h i l (stp h o i b) j e hne
   have h2 : stp h o i b j = o j := by simp [stp, hne]
   rw [h2] at h1
   simpa only [relRow, List.foldl_cons] using h1
def Snd (R C : Nat) (h : Nat → Int) (a : Nat) (o : Nat → Int) : Prop := ∀ x, x < R * C → (-1 ≤ o x ∧ o x ≤ 99) ∧ ∀ lv, 0 ≤ lv → lv ≤ o x → Rch R C h a lv x
section
variable {R C : Nat} {h : Nat → Int} {a : Nat}
theorem Snd.stp (g : Gd R C h) {o : Nat → Int} (s : Snd R C h a o) {i j : Nat} (hi : i < R * C) (hj : j ∈ nearN R C i) : Snd R C h a (stp h o i j) := fun x hx => by
 have hjn := nearN_lt hi j hj
 have sx := s x hx
 have sj := s j hjn
 have hhi := g.hh i hi
 simp only [Go.SW.stp]
 split
 ·rename_i e
  subst e
  refine ⟨om, fun lv h0 hl => ?_⟩
  by_cases h1 : lv ≤ o x
  ·exact sx.2 lv h0 h1
  ·exact (sj.2 lv h0 om).edge hjn ((near_sym hx hjn).1 hj) om
 ·exact sx
theorem Snd.row (g : Gd R C h) {i : Nat} (hi : i < R * C) : ∀ (l : List Nat), (∀ j ∈ l, j ∈ nearN R C i) → ∀ {o : Nat → Int}, Snd R C h a o → Snd R C h a (relRow h i l o)
 | [], _, _, s => s
 | b :: l, hl, o, s => by
  have := Snd.row g hi l (fun j hj => hl j (List.mem_cons_of_mem _ hj)) (s.stp g hi (hl b List.mem_cons_self))
  simpa only [relRow, List.foldl_cons] using this
theorem Snd.to (g : Gd R C h) {o : Nat → Int} (s : Snd R C h a o) : ∀ k, k ≤ R * C → Snd R C h a (relTo R C h o k)
 | 0, _ => s
 | k + 1, hk => (Snd.to g s k om).row g om _ fun _ hj => hj
theorem Snd.pas (g : Gd R C h) (ha : a < R * C) : ∀ r, Snd R C h a (pasTo R C h a r)
 | 0 => fun x hx => by
  have := g.hh a ha
  simp only [pasTo]
  split
  ·rename_i e; subst e
   exact ⟨om, fun lv h0 hl => Rch.self hl⟩
  ·exact ⟨om, fun lv h0 hl => om⟩
 | r + 1 => (Snd.pas g ha r).to g _ (Nat.le_refl _)
theorem relTo_ge (o : Nat → Int) (x : Nat) : ∀ k, o x ≤ relTo R C h o k x
 | 0 => Int.le_refl _
 | k + 1 => by
  have h1 := relTo_ge o x k
  have h2 := relRow_ge h k (nearN R C k) (relTo R C h o k) x
  simp only [relTo]; omega
theorem relTo_in (o : Nat → Int) {i j : Nat} (hi : i < R * C) (hj : j ∈ nearN R C i) : ∀ k, i < k → min (h i) (o j) ≤ relTo R C h o k i
 | k + 1, hk => by
  simp only [relTo]
  by_cases e : i = k
  ·subst e
   have h1 := relRow_in h i (nearN R C i) (relTo R C h o i) j hj (by
    rcases nearN_mem.1 hj with ⟨h1, h2⟩ | ⟨h1, h2⟩ | ⟨h1, h2⟩ | ⟨h1, h2⟩
    ·have : 0 < C := Nat.pos_of_ne_zero fun e => by subst e; simp at hi
     omega
    ·omega
    ·have : 0 < C := Nat.pos_of_ne_zero fun e => by subst e; simp at hi
     omega
    ·have : i ≠ 0 := fun e => by subst e; simp at h1
     omega)
   have h2 := relTo_ge (R := R) (C := C) (h := h) o j i
   omega
  ·have h1 := relTo_in o hi hj k om
   have h2 := relRow_ge h k (nearN R C k) (relTo R C h o k) i
   omega
theorem cntp_more (p q : Nat → Prop) [DecidablePred p] [DecidablePred q] : ∀ n, (∀ i, i < n → p i → q i) → cntp p n ≤ cntp q n ∧ ((∃ j, j < n ∧ q j ∧ ¬ p j) → cntp p n + 1 ≤ cntp q n)
 | 0, _ => ⟨Nat.le_refl _, fun ⟨j, hj, _⟩ => om⟩
 | n + 1, hpq => by
  obtain ⟨h1, h2⟩ := cntp_more p q n fun i hi => hpq i om
  have hn := hpq n om
  simp only [cntp]
  refine ⟨by split <;> split <;> first | omega | (rename_i a b; exact absurd (hn a) b), fun ⟨j, hj, hq, hnp⟩ => ?_⟩
  by_cases e : j = n
  ·subst e; rw [if_neg hnp, if_pos hq]; omega
  ·have := h2 ⟨j, om, hq, hnp⟩
   split <;> split <;> first | omega | (rename_i a b; exact absurd (hn a) b)
theorem pas_round (g : Gd R C h) (ha : a < R * C) {lv : Int} (h0 : 0 ≤ lv) (hl : lv ≤ h a) : ∀ r, (∀ x, x < R * C → Rch R C h a lv x → lv ≤ pasTo R C h a r x) ∨ r + 1 ≤ cntp (fun x => lv ≤ pasTo R C h a r x) (R * C)
 | 0 => .inr (by
   have := cntp_pos (fun x => lv ≤ pasTo R C h a 0 x) (R * C) a ha (by simp [pasTo, hl])
   omega)
 | r + 1 => by
  have hge : ∀ x, pasTo R C h a r x ≤ pasTo R C h a (r + 1) x := fun x => relTo_ge _ x _
  rcases pas_round g ha h0 hl r with hf | hc
  ·exact .inl fun x hx rx => Int.le_trans (hf x hx rx) (hge x)
  ·rcases Classical.em (∀ i, i < R * C → ∀ j ∈ nearN R C i, lv ≤ h i → lv ≤ h j → lv ≤ pasTo R C h a r i → lv ≤ pasTo R C h a r j) with hcl | hcl
   ·exact .inl fun x hx rx => Int.le_trans (rx.closed ha hx (p := fun y => lv ≤ pasTo R C h a r y) hcl (by
     have : ∀ r, h a ≤ pasTo R C h a r a := fun r => by
      induction r with
      | zero => simp [pasTo]
      | succ r ih => exact Int.le_trans ih (relTo_ge _ a _)
     exact Int.le_trans hl (this r))) (hge x)
   ·refine .inr ?_
    have : ∃ i j, i < R * C ∧ j ∈ nearN R C i ∧ lv ≤ h j ∧ lv ≤ pasTo R C h a r i ∧ ¬ lv ≤ pasTo R C h a r j := by
     rcases Classical.em (∃ i j, i < R * C ∧ j ∈ nearN R C i ∧ lv ≤ h j ∧ lv ≤ pasTo R C h a r i ∧ ¬ lv ≤ pasTo R C h a r j) with h' | h'
     ·exact h'
     ·exact absurd (fun i hi j hj _ h2 h3 => Classical.byContradiction fun h4 => h' ⟨i, j, hi, hj, h2, h3, h4⟩) hcl
    obtain ⟨i, j, hi, hj, h2, h3, h4⟩ := this
    have hjn := nearN_lt hi j hj
    have hin := relTo_in (h := h) (pasTo R C h a r) hjn ((near_sym hi hjn).1 hj) (R * C) hjn
    have := (cntp_more (fun x => lv ≤ pasTo R C h a r x) (fun x => lv ≤ pasTo R C h a (r + 1) x) (R * C) fun x _ hx => Int.le_trans hx (hge x)).2 ⟨j, hjn, by
     show lv ≤ relTo R C h (pasTo R C h a r) (R * C) j
     omega, h4⟩
    omega
theorem pas_end (g : Gd R C h) (ha : a < R * C) {x : Nat} (hx : x < R * C) : pasTo R C h a (R * C) x = passN R C h a x := by
 have s := Snd.pas g ha (R * C) x hx
 refine pass_uniq g ha hx s.1.1 fun lv h0 => ⟨s.2 lv h0, fun r => ?_⟩
 rcases pas_round g ha h0 r.lea (R * C) with hf | hc
 ·exact hf x hx r
 ·have := cntp_le' (fun x => lv ≤ pasTo R C h a (R * C) x) (R * C)
  omega
end
structure PInv (R C : Nat) (h : Nat → Int) (a : Nat) (Nx : Nat → List Nat) (kn : Nat → Int) (n : Nat) (L : Nat → Nat × Int) : Prop where
 ok : ∀ x, x < R * C → kn x = -1 ∨ ((0 ≤ kn x ∧ kn x ≤ 99) ∧ ∀ lv, 0 ≤ lv → (lv ≤ kn x ↔ Rch R C h a lv x))
 items : ∀ k, k < n → (L k).1 < R * C ∧ 0 ≤ (L k).2 ∧ (L k).2 ≤ 99 ∧ Rch R C h a (L k).2 (L k).1
 start : kn a = -1 → ∃ k, k < n ∧ (L k).1 = a ∧ h a ≤ (L k).2
 next : ∀ x, x < R * C → 0 ≤ kn x → ∀ j ∈ Nx x, kn j = -1 → ∃ k, k < n ∧ (L k).1 = j ∧ min (kn x) (h j) ≤ (L k).2
section
variable {R C : Nat} {h : Nat → Int} {a : Nat} {kn : Nat → Int} {n : Nat} {L L' : Nat → Nat × Int}
theorem PInv.begin (g : Gd R C h) (ha : a < R * C) (hL : L 0 = (a, h a)) : PInv R C h a (nearN R C) (fun _ => -1) 1 L := by
 have := g.hh a ha
 refine ⟨fun x _ => .inl rfl, fun k hk => ?_, fun _ => ⟨0, om, by rw [hL], by rw [hL]; exact Int.le_refl _⟩, fun x _ h' => om⟩
 have : k = 0 := om
 subst this
 rw [hL]
 exact ⟨ha, om, om, Rch.self (Int.le_refl _)⟩
theorem PInv.out (p : PInv R C h a (nearN R C) kn n L) (ha : a < R * C) {x : Nat} (hx : x < R * C) (hk : kn x = -1) {lv : Int} (h0 : 0 ≤ lv) (r : Rch R C h a lv x) : ∃ k, k < n ∧ lv ≤ (L k).2 := by
 rcases Classical.em (∃ k, k < n ∧ lv ≤ (L k).2) with h' | h'
 ·exact h'
 ·have hno : ∀ k, k < n → ¬ lv ≤ (L k).2 := fun k hk hl => h' ⟨k, hk, hl⟩
  have la := r.lea
  have ka : lv ≤ kn a := by
   rcases p.ok a ha with e | ⟨_, e⟩
   ·obtain ⟨k, hk, _, hl⟩ := p.start e
    exact absurd om (hno k hk)
   ·exact (e lv h0).2 (Rch.self la)
  have := r.closed ha hx (p := fun y => lv ≤ kn y) (fun i hi j hj h1 h2 hp => by
   have hjn := nearN_lt hi j hj
   rcases p.ok i hi with e | ⟨e0, e⟩
   ·omega
   ·have ri := (e lv h0).1 hp
    rcases p.ok j hjn with f | ⟨_, f⟩
    ·obtain ⟨k, hk, _, hl⟩ := p.next i hi e0.1 j hj f
     exact absurd om (hno k hk)
    ·exact (f lv h0).2 (ri.edge hi hj h2)) ka
  omega
theorem bag_in {n : Nat} {L L' : Nat → Nat × Int} {y : Nat × Int} (hb : ∀ y, bag n L' y + (if L 0 = y then 1 else 0) = bag (n + 1) L y) {k : Nat} (hk : k < n + 1) (hne : L k ≠ L 0) : ∃ k', k' < n ∧ L' k' = L k := by
 have h1 : 0 < bag (n + 1) L (L k) := bag_mem.2 ⟨k, hk, rfl⟩
 have h2 := hb (L k)
 rw [if_neg (fun e => hne e.symm)] at h2
 exact bag_mem.1 om
theorem bag_of {n : Nat} {L L' : Nat → Nat × Int} (hb : ∀ y, bag n L' y + (if L 0 = y then 1 else 0) = bag (n + 1) L y) {k : Nat} (hk : k < n) : ∃ k', k' < n + 1 ∧ L k' = L' k := by
 have h1 : 0 < bag n L' (L' k) := bag_mem.2 ⟨k, hk, rfl⟩
 have h2 := hb (L' k)
 exact bag_mem.1 om
theorem PInv.skip (p : PInv R C h a (nearN R C) kn (n + 1) L) (hb : ∀ y, bag n L' y + (if L 0 = y then 1 else 0) = bag (n + 1) L y) (hc : 0 ≤ kn (L 0).1) : PInv R C h a (nearN R C) kn n L' := by
 refine ⟨p.ok, fun k hk => ?_, fun e => ?_, fun x hx h0 j hj e => ?_⟩
 ·obtain ⟨k', h1, h2⟩ := bag_of hb hk
  rw [← h2]; exact p.items k' h1
 ·obtain ⟨k, hk, h1, h2⟩ := p.start e
  obtain ⟨k', h3, h4⟩ := bag_in (y := L k) hb hk (fun e2 => by rw [e2] at h1; rw [h1] at hc; omega)
  exact ⟨k', h3, by rw [h4]; exact h1, by rw [h4]; exact h2⟩
 ·obtain ⟨k, hk, h1, h2⟩ := p.next x hx h0 j hj e
  obtain ⟨k', h3, h4⟩ := bag_in (y := L k) hb hk (fun e2 => by rw [e2] at h1; rw [h1] at hc; omega)
  exact ⟨k', h3, by rw [h4]; exact h1, by rw [h4]; exact h2⟩
theorem PInv.know (p : PInv R C h a (nearN R C) kn (n + 1) L) (hp : Heap stB (n + 1) L) (ha : a < R * C) (hb : ∀ y, bag n L' y + (if L 0 = y then 1 else 0) = bag (n + 1) L y) (hc : kn (L 0).1 = -1) :
  PInv R C h a (fun x => if x = (L 0).1 then [] else nearN R C x) (fun x => if x = (L 0).1 then (L 0).2 else kn x) n L' := by
 obtain ⟨i1, i2, i3, i4⟩ := p.items 0 om
 have htop : ∀ k, k < n + 1 → (L k).2 ≤ (L 0).2 := fun k hk => by
  have := hp.top stB_ahead k hk
  simp only [stB, decide_eq_false_iff_not] at this
  omega
 refine ⟨fun x hx => ?_, fun k hk => ?_, fun e => ?_, fun x hx h0 j hj e => ?_⟩
 ·by_cases ex : x = (L 0).1
  ·simp only [ex, if_true]
   refine .inr ⟨⟨i2, i3⟩, fun lv h0 => ⟨fun hl => i4.mono ha i1 hl, fun r => ?_⟩⟩
   obtain ⟨k, hk, hl⟩ := p.out ha i1 hc h0 r
   have := htop k hk; omega
  ·simp only [if_neg ex]; exact p.ok x hx
 ·obtain ⟨k', h1, h2⟩ := bag_of hb hk
  rw [← h2]; exact p.items k' h1
 ·by_cases ea : a = (L 0).1
  ·simp only [← ea, if_true] at e
   omega
  ·simp only [if_neg ea] at e
   obtain ⟨k, hk, h1, h2⟩ := p.start e
   obtain ⟨k', h3, h4⟩ := bag_in (y := L k) hb hk (fun e2 => by rw [e2] at h1; exact ea h1.symm)
   exact ⟨k', h3, by rw [h4]; exact h1, by rw [h4]; exact h2⟩
 ·by_cases ex : x = (L 0).1
  ·simp only [ex, if_true] at hj; simp at hj
  ·simp only [if_neg ex] at hj h0 ⊢
   by_cases ej : j = (L 0).1
   ·simp only [ej, if_true] at e; omega
   ·simp only [if_neg ej] at e
    obtain ⟨k, hk, h1, h2⟩ := p.next x hx h0 j hj e
    obtain ⟨k', h3, h4⟩ := bag_in (y := L k) hb hk (fun e2 => by rw [e2] at h1; exact ej h1.symm)
    exact ⟨k', h3, by rw [h4]; exact h1, by rw [h4]; exact h2⟩
theorem PInv.near {c m : Nat} (p : PInv R C h a (fun x => if x = c then (nearN R C c).take m else nearN R C x) kn n L) (hm : m < (nearN R C c).length) (hk : kn ((nearN R C c).getD m 0) ≠ -1) :
  PInv R C h a (fun x => if x = c then (nearN R C c).take (m + 1) else nearN R C x) kn n L := by
 refine ⟨p.ok, p.items, p.start, fun x hx h0 j hj e => ?_⟩
 by_cases ex : x = c
 ·simp only [ex, if_true] at hj
  rw [List.take_succ_eq_append_getElem hm] at hj
  rcases List.mem_append.1 hj with h' | h'
  ·exact p.next x hx h0 j (by simp only [ex, if_true]; exact h') e
  ·have : j = (nearN R C c).getD m 0 := by rw [getD_at _ 0 hm]; simpa using h'
   rw [this] at e; exact absurd e hk
 ·simp only [if_neg ex] at hj
  exact p.next x hx h0 j (by simp only [if_neg ex]; exact hj) e
theorem PInv.put {c m : Nat} (g : Gd R C h) (hcn : c < R * C) (hkc : 0 ≤ kn c) (p : PInv R C h a (fun x => if x = c then (nearN R C c).take m else nearN R C x) kn n L) (hm : m < (nearN R C c).length)
  (hb : ∀ y, bag (n + 1) L' y = bag n L y + if ((nearN R C c).getD m 0, min (kn c) (h ((nearN R C c).getD m 0))) = y then 1 else 0) :
  PInv R C h a (fun x => if x = c then (nearN R C c).take (m + 1) else nearN R C x) kn (n + 1) L' := by
 have hjm := getD_mem (d := 0) hm
 have hjn := nearN_lt hcn _ hjm
 have hjh := g.hh _ hjn
 have htk : (nearN R C c).take (m + 1) = (nearN R C c).take m ++ [(nearN R C c).getD m 0] := by rw [List.take_succ_eq_append_getElem hm, getD_at _ 0 hm]
 generalize (nearN R C c).getD m 0 = j at *
 have hcx := p.ok c hcn
 have old : ∀ k, k < n → ∃ k', k' < n + 1 ∧ L' k' = L k := fun k hk => by
  have h1 : 0 < bag n L (L k) := bag_mem.2 ⟨k, hk, rfl⟩
  have h2 := hb (L k)
  exact bag_mem.1 om
 obtain ⟨kj, hkj, ekj⟩ : ∃ k', k' < n + 1 ∧ L' k' = (j, min (kn c) (h j)) := bag_mem.1 (by rw [hb, if_pos rfl]; omega)
 refine ⟨p.ok, fun k hk => ?_, fun e => ?_, fun x hx h0 i hi e => ?_⟩
 ·have h1 : 0 < bag (n + 1) L' (L' k) := bag_mem.2 ⟨k, hk, rfl⟩
  rw [hb] at h1
  by_cases e : (j, min (kn c) (h j)) = L' k
  ·rw [← e]
   rcases hcx with f | ⟨f0, f⟩
   ·omega
   ·refine ⟨hjn, ?_, ?_, ?_⟩
    ·show 0 ≤ min (kn c) (h j); omega
    ·show min (kn c) (h j) ≤ 99; omega
    ·show Rch R C h a (min (kn c) (h j)) j
     exact ((f (min (kn c) (h j)) om).1 om).edge hcn hjm om
  ·rw [if_neg e] at h1
   obtain ⟨k', h2, h3⟩ := bag_mem.1 (show 0 < bag n L (L' k) from om)
   rw [← h3]; exact p.items k' h2
 ·obtain ⟨k, hk, h1, h2⟩ := p.start e
  obtain ⟨k', h3, h4⟩ := old k hk
  exact ⟨k', h3, by rw [h4]; exact h1, by rw [h4]; exact h2⟩
 ·have base : i ∈ (if x = c then (nearN R C c).take m else nearN R C x) → ∃ k, k < n + 1 ∧ (L' k).1 = i ∧ min (kn x) (h i) ≤ (L' k).2 := fun hi' => by
   obtain ⟨k, hk, h1, h2⟩ := p.next x hx h0 i hi' e
   obtain ⟨k', h3, h4⟩ := old k hk
   exact ⟨k', h3, by rw [h4]; exact h1, by rw [h4]; exact h2⟩
  by_cases ex : x = c
  ·simp only [ex, if_true] at hi
   rw [htk] at hi
   rcases List.mem_append.1 hi with h' | h'
   ·exact base (by simp only [ex, if_true]; exact h')
   ·have : i = j := by simpa using h'
    subst this
    exact ⟨kj, hkj, by rw [ekj], by rw [ekj, ex]; exact Int.le_refl _⟩
  ·simp only [if_neg ex] at hi
   exact base (by simp only [if_neg ex]; exact hi)
theorem PInv.full {c : Nat} (p : PInv R C h a (fun x => if x = c then (nearN R C c).take (nearN R C c).length else nearN R C x) kn n L) : PInv R C h a (nearN R C) kn n L := by
 refine ⟨p.ok, p.items, p.start, fun x hx h0 j hj e => p.next x hx h0 j ?_ e⟩
 by_cases ex : x = c
 ·simp only [ex, if_true, List.take_length]; rw [← ex]; exact hj
 ·simp only [if_neg ex]; exact hj
theorem PInv.done (g : Gd R C h) (ha : a < R * C) (p : PInv R C h a (nearN R C) kn 0 L) {x : Nat} (hx : x < R * C) : kn x = passN R C h a x := by
 rcases p.ok x hx with e | ⟨e0, e⟩
 ·rw [e]
  refine pass_uniq g ha hx om fun lv h0 => ⟨fun h' => om, fun r => ?_⟩
  obtain ⟨k, hk, _⟩ := p.out ha hx e h0 r
  omega
 ·exact pass_uniq g ha hx om e
end
theorem unk_less {kn : Nat → Int} {N c : Nat} {p : Int} (hc : c < N) (hk : kn c = -1) (hp : 0 ≤ p) : cntp (fun x => (if x = c then p else kn x) = -1) N + 1 ≤ cntp (fun x => kn x = -1) N := by
 refine (cntp_more (fun x => (if x = c then p else kn x) = -1) (fun x => kn x = -1) N fun i _ hi => ?_).2 ⟨c, hc, hk, ?_⟩
 ·by_cases e : i = c
  ·rw [if_pos e] at hi; omega
  ·rw [if_neg e] at hi; exact hi
 ·simp; omega
end Go.SW
namespace Go.Proofs.YtcbmhjndbpafbaaGreatDoor
open Go.RowKit Go.SW
theorem passes_c (R C cb : Nat) (h : Nat → Int) (a : Nat) (w : World) (g : Gd R C h) (hc : CellsAt w cb (R * C) h) (ha : a < R * C) :
  Ret Tryz.prog 231 #[.agg #[.int .i64 R, .int .i64 C, .slice (some ⟨cb, 0, none⟩) (R * C) (R * C)], .int .i64 a] w fun v w' => ∃ b, v = .slice (some ⟨b, 0, none⟩) (R * C) (R * C) ∧ w.heap.size ≤ b ∧
   OwnS w' 3 1 (some ⟨b, 0, none⟩) (R * C) (R * C) (vi ((List.range (R * C)).map (passN R C h a))) ∧ Ext w w' := by
 have hn49 := g.le
 have hpos := g.pos
 have hcl := hc.lt hpos
 refine enter2 Tryz.func231 rfl fun f a0 a1 => ?_
 simp only [go_sem, a0]
 refine boxK_of fun w0 fb efb x0 kb _ => ?_
 have s0 := x0.size
 have kb : Blk w0 fb #[.int .i64 R, .int .i64 C, .slice (some ⟨cb, 0, none⟩) (R * C) (R * C)] 70 := by simpa [Value.cells] using kb
 have kl := kb.lt
 simp (disch := omega) only [go_sem, kb.cell]
 refine mksK_of elt_i (R * C) (R * C) _ _ _ _ rfl rfl (Nat.le_refl _) om (by simp [maxLen]; omega) fun w1 nb e1 x1 o1 _ => ?_
 have s1 := x1.size
 simp only [Value.cells, made_int] at o1
 rw [vi_rangeI_zero (R * C) (fun x => if x < 0 then -1 else 0) (fun j _ => by simp)] at o1
 have kb1 := kb.ext x1
 have hc1 := (hc.ext x0).ext x1
 simp (disch := omega) only [go_sem]
 refine loopN (R * C) (fun k f W => f 1 = .int .i64 a ∧ f 2 = .pointer (some ⟨fb, 0, none⟩) ∧ f 5 = .slice (some ⟨nb, 0, none⟩) (R * C) (R * C) ∧ f 16 = .int .i64 (R * C : Nat) ∧ f 17 = .int .i64 k ∧ OwnS W 3 1 (some ⟨nb, 0, none⟩) (R * C) (R * C) (vi ((List.range (R * C)).map fun x => if x < k then -1 else 0)) ∧ Grow (some nb) w1 W) ⟨uu, uu, uu, uu, uu, o1, Grow.refl _ _⟩ fun k f W hk ⟨a1, a2, a5, a16, a17, oW, gW⟩ => ?_
 by_cases hlt : (k : Int) < (R * C : Nat)
 ·have hkn : k < R * C := om
  simp (disch := omega) only [go_sem, a5, a16, a17, hlt]
  refine stK_own siz_int rf rf oW om fun w2 o2 g2 => ?_
  rw [vi_rangeI_set (f := fun x => if x < k then -1 else 0) (g := fun x => if x < k + 1 then -1 else 0) hkn sm (fun j hj hne => by
   by_cases e : j < k
   ·simp [e]; omega
   ·simp [e]; omega)] at o2
  simp (disch := omega) only [go_sem, a17]
  exact ⟨hkn, uu, uu, uu, uu, uu, o2, gW.trans g2.grow⟩
 ·have ek : k = R * C := om
  have eL : (vi ((List.range (R * C)).map fun x => if x < k then (-1 : Int) else 0)) = vi ((List.range (R * C)).map fun _ => (-1 : Int)) := by
   congr 1
   exact List.map_congr_left fun x hx => by have := List.mem_range.1 hx; rw [if_pos om]
  rw [eL] at oW
  have kbW := gW.blk kb1 sq
  have hcW := hc1.grow gW sq
  have xW : Ext w W := gW.ext (x0.trans x1) (fun b hb => by
                               have : nb = b := by simpa using hb
                               omega)
  have sW := gW.size
  have hnb : nb < W.heap.size := oW.blk_lt rfl
  simp (disch := omega) only [go_sem, a16, a17, hlt]
  refine allocK_of zero_q fun w2 pb epb x2 kp _ => ?_
  have s2 := x2.size
  simp (disch := omega) only [go_sem]
  refine stK_agg siz_q sm oi kp sm fun w3 kp3 g3 => ?_
  have kp3 : Blk w3 pb #[fvS, .slice none 0 0] 224 := by simpa [fvS] using kp3
  have kb3 := g3.grow.blk (kbW.ext x2) sq
  have hc3 : CellsAt w3 cb (R * C) h := (hcW.ext x2).grow g3.grow sq
  have o3 : OwnS w3 3 1 (some ⟨nb, 0, none⟩) (R * C) (R * C) (vi ((List.range (R * C)).map fun _ => (-1 : Int))) := (oW.ext x2).grow g3.grow (fun b hb e => by have h1 : nb = b := (by simpa [blk] using hb); have h2 : pb = b := (by simpa using e); omega)
  have x3 : Ext w w3 := g3.ext (xW.trans x2) (by have := xW.size; omega)
  have ca := hc3 a ha
  have hha := g.hh a ha
  simp (disch := omega) only [go_sem, a1, a2, kb3.cell, ca]
  refine callK_of ke (put2_c pb none 0 0 (fun _ => (0, 0)) (a, h a) _ ⟨kp3, by simpa [sv] using OwnS.nil _ _ _, by simp [blk]⟩ (fun j h1 h2 => om) om) ?_
  rintro _ w4 ⟨pa, pc, L, p4, hp4, b4, f4, g4⟩
  have hL0 : L 0 = (a, h a) := by
   have h1 : 0 < bag 1 L (L 0) := bag_mem.2 ⟨0, om, rfl⟩
   have h2 := b4 (L 0)
   by_cases e : (a, h a) = L 0
   ·exact e.symm
   ·rw [if_neg e] at h2
    have : bag 0 (fun _ => ((0 : Nat), (0 : Int))) (L 0) = 0 := rfl
    simp only [Nat.zero_add] at h2
    omega
  have kp4 := p4.1.lt
  have kb4 : Blk w4 fb #[.int .i64 R, .int .i64 C, .slice (some ⟨cb, 0, none⟩) (R * C) (R * C)] 70 := g4.blk kb3 (by rintro (e | e); omega; cases e)
  have hc4 : CellsAt w4 cb (R * C) h := g4.cells hc3 (by rintro (e | e); omega; cases e)
  have o4 : OwnS w4 3 1 (some ⟨nb, 0, none⟩) (R * C) (R * C) (vi ((List.range (R * C)).map fun _ => (-1 : Int))) := g4.own o3 (fun b hb => by
   have h1 : nb = b := (by simpa [blk] using hb)
   rintro (e | e)
   ·omega
   ·cases e)
  have x4 : Ext w w4 := g4.ext x3 (by rintro b (e | e); have := xW.size; omega; cases e)
  have hU : cntp (fun x => (fun _ : Nat => (-1 : Int)) x = -1) (R * C) ≤ 49 := Nat.le_trans (cntp_le' _ _) hn49
  have f4' : ∀ b, blk pa = some b → pb < b := fun b hb => by
   rcases f4 b hb with e | e
   ·cases e
   ·have := g3.size; omega
  simp (disch := omega) only [go_sem]
  refine loopX (fun s f V => f 2 = .pointer (some ⟨fb, 0, none⟩) ∧ f 5 = .slice (some ⟨nb, 0, none⟩) (R * C) (R * C) ∧ f 7 = .pointer (some ⟨pb, 0, none⟩) ∧ ∃ (kn : Nat → Int) (m : Nat) (L : Nat → Nat × Int) (pa : Option Addr) (pc : Nat), s = 5 * cntp (fun x => kn x = -1) (R * C) + m ∧ s ≤ 250 ∧
   PileS V pb pa pc m L ∧ Heap stB m L ∧ PInv R C h a (nearN R C) kn m L ∧ OwnS V 3 1 (some ⟨nb, 0, none⟩) (R * C) (R * C) (vi ((List.range (R * C)).map kn)) ∧ Blk V fb #[.int .i64 R, .int .i64 C, .slice (some ⟨cb, 0, none⟩) (R * C) (R * C)] 70 ∧ CellsAt V cb (R * C) h ∧ Ext w V ∧ (∀ b, blk pa = some b → pb < b))
   (5 * cntp (fun x => (fun _ : Nat => (-1 : Int)) x = -1) (R * C) + 1) ⟨uu, uu, uu, fun _ => -1, 1, L, pa, pc, rfl, om, p4, hp4, PInv.begin g ha hL0, o4, kb4, hc4, x4, f4'⟩ fun s f V ⟨a2, a5, a7, kn, m, L, pa, pc, hs, hs250, pV, hpV, iV, oV, kV, cV, xV, fV⟩ => ?_
  have hbV : pb < V.heap.size := pV.1.lt
  cases m with
  | zero =>
   have hz : ¬ (0 : Int) < ((0 : Nat) : Int) := om
   simp (disch := omega) only [go_sem, a5, a7, pV.1.cell, hz, Tryz.results231]
   refine ⟨nb, by first | rfl | trivial, om, ?_, xV⟩
   have e : (List.range (R * C)).map kn = (List.range (R * C)).map (passN R C h a) := List.map_congr_left fun x hx => iV.done g ha (List.mem_range.1 hx)
   rw [← e]; exact oV
  | succ m =>
   have hgt0 : (0 : Int) < ((m + 1 : Nat) : Int) := om
   simp (disch := omega) only [go_sem, a7, pV.1.cell, hgt0]
   refine callK_of ke (take2_c pb pa pc m L _ pV hpV om) ?_
   rintro _ w5 ⟨rfl, L', p5, hp5, b5, g5⟩
   obtain ⟨i1, i2, i3, i4⟩ := iV.items 0 om
   have hkc := iV.ok _ i1
   have kV5 : Blk w5 fb #[.int .i64 R, .int .i64 C, .slice (some ⟨cb, 0, none⟩) (R * C) (R * C)] 70 := g5.blk kV (by
    rintro (e | e)
    ·omega
    ·have := fV fb e; omega)
   have cV5 : CellsAt w5 cb (R * C) h := g5.cells cV (by
    rintro (e | e)
    ·omega
    ·have := fV cb e; omega)
   have oV5 : OwnS w5 3 1 (some ⟨nb, 0, none⟩) (R * C) (R * C) (vi ((List.range (R * C)).map kn)) := g5.own oV (fun b hb => by
    have h1 : nb = b := (by simpa [blk] using hb)
    rintro (e | e)
    ·omega
    ·have := fV b e; omega)
   have xV5 : Ext w w5 := g5.ext xV (by
    have := xW.size
    rintro b (e | e)
    ·omega
    ·have := fV b e; omega)
   simp (disch := omega) only [go_sem, stV]
   refine allocK_of zero_st fun w6 sb esb x6 ks _ => ?_
   simp (disch := omega) only [go_sem]
   refine stK_agg siz_st sm oi ks sm fun w7 ks7 g7 => ?_
   have s5 := g5.size
   have s6 := x6.size
   have s7 := g7.size
   have ks7 : Blk w7 sb #[.int .i64 ((L 0).1 : Nat), .int .i64 (L 0).2] 220 := by simpa using ks7
   have far7 : ∀ b, b < w5.heap.size → (some sb : Option Nat) ≠ some b := fun b hb e => by have : sb = b := (by simpa using e); omega
   have p7 : PileS w7 pb pa pc m L' := ⟨g7.grow.blk (p5.1.ext x6) (far7 _ p5.1.lt), (p5.2.1.ext x6).grow g7.grow (fun b hb => far7 b (p5.2.1.blk_lt hb)), p5.2.2⟩
   have kV7 := g7.grow.blk (kV5.ext x6) (far7 _ kV5.lt)
   have cV7 : CellsAt w7 cb (R * C) h := (cV5.ext x6).grow g7.grow (far7 _ (cV5.lt hpos))
   have oV7 : OwnS w7 3 1 (some ⟨nb, 0, none⟩) (R * C) (R * C) (vi ((List.range (R * C)).map kn)) := (oV5.ext x6).grow g7.grow (fun b hb => far7 b (oV5.blk_lt hb))
   have xV7 : Ext w w7 := g7.ext (xV5.trans x6) (by have := xV5.size; omega)
   have hbs : pb < sb := by have := p5.1.lt; omega
   have hpas : ∀ b, blk pa = some b → b < sb := fun b hb => by have := p5.2.1.blk_lt hb; omega
   generalize hcd : (L 0).1 = c at *
   generalize hpd : (L 0).2 = p at *
   have ck : w7.cell? ⟨nb, c, none⟩ = some (.int .i64 (kn c)) := by rw [oV7.cell om]; exact vi_rangeI_get _ i1
   by_cases hk0 : 0 ≤ kn c
   ·simp (disch := omega) only [go_sem, a5, ks7.cell, ck, hk0]
    have hs2 := iV.skip b5 (by rw [hcd]; exact hk0)
    exact ⟨_, om, uu, uu, uu, kn, m, L', pa, pc, rfl, om, p7, hp5, hs2, oV7, kV7, cV7, xV7, fV⟩
   ·have hkm : kn c = -1 := by rcases hkc with e | ⟨e, _⟩ <;> omega
    have hU1 := unk_less (kn := kn) (N := R * C) (c := c) (p := p) i1 hkm i2
    have iK := iV.know hpV ha b5 (by rw [hcd]; exact hkm)
    rw [hcd, hpd] at iK
    simp (disch := omega) only [go_sem, a5, ks7.cell, ck, hk0]
    refine stK_own siz_int rf rf oV7 om fun w8 o8 g8 => ?_
    rw [vi_rangeI_set (f := kn) (g := fun x => if x = c then p else kn x) i1 sm (fun j hj hne => by simp [hne])] at o8
    have far8 : ∀ b, b ≠ nb → (some nb : Option Nat) ≠ some b := fun b hb e => hb (by have : nb = b := (by simpa using e); omega)
    have ks8 := g8.grow.blk ks7 (far8 _ om)
    have p8 : PileS w8 pb pa pc m L' := ⟨g8.grow.blk p7.1 (far8 _ om), p7.2.1.grow g8.grow (fun b hb => far8 b (by have := fV b hb; omega)), p7.2.2⟩
    have kV8 := g8.grow.blk kV7 (far8 _ om)
    have cV8 : CellsAt w8 cb (R * C) h := cV7.grow g8.grow (far8 _ om)
    have xV8 : Ext w w8 := g8.ext xV7 (by have := xW.size; omega)
    have s8 := g8.size
    generalize hkn' : (fun x => if x = c then p else kn x) = kn' at *
    have hkc' : kn' c = p := by rw [← hkn']; simp
    have hUe : cntp (fun x => (if x = c then p else kn x) = -1) (R * C) = cntp (fun x => kn' x = -1) (R * C) := by rw [← hkn']
    rw [hUe] at hU1
    simp (disch := omega) only [go_sem, a2, ks8.cell, readCells_blk kV8 (n := 3) sm]
    refine callK_of ke (neighbors_c _ _ c _ _ g.r7 g.c7 i1) ?_
    rintro _ w9 ⟨na, nc, rfl, no, nf, x9⟩
    have hn4 := nearN_len R C c
    have s9 := x9.size
    have iN : PInv R C h a (fun x => if x = c then (nearN R C c).take 0 else nearN R C x) kn' m L' := by
     have e : (fun x => if x = c then (nearN R C c).take 0 else nearN R C x) = (fun x => if x = c then [] else nearN R C x) := by funext x; rw [List.take_zero]
     rw [e]; exact iK
    simp (disch := omega) only [go_sem]
    refine loopN (nearN R C c).length (fun q f U => f 2 = .pointer (some ⟨fb, 0, none⟩) ∧ f 5 = .slice (some ⟨nb, 0, none⟩) (R * C) (R * C) ∧ f 7 = .pointer (some ⟨pb, 0, none⟩) ∧ f 8 = .pointer (some ⟨sb, 0, none⟩) ∧ f 53 = .slice na (nearN R C c).length nc ∧ f 54 = .int .i64 (nearN R C c).length ∧ f 55 = .int .i64 q ∧ ∃ (n2 : Nat) (L2 : Nat → Nat × Int) (pa2 : Option Addr) (pc2 : Nat), n2 ≤ m + q ∧
     PileS U pb pa2 pc2 n2 L2 ∧ Heap stB n2 L2 ∧ PInv R C h a (fun x => if x = c then (nearN R C c).take q else nearN R C x) kn' n2 L2 ∧ OwnS U 3 1 (some ⟨nb, 0, none⟩) (R * C) (R * C) (vi ((List.range (R * C)).map kn')) ∧ Blk U fb #[.int .i64 R, .int .i64 C, .slice (some ⟨cb, 0, none⟩) (R * C) (R * C)] 70 ∧ CellsAt U cb (R * C) h ∧ Ext w U ∧ Blk U sb #[.int .i64 c, .int .i64 p] 220 ∧ OwnS U 3 1 na (nearN R C c).length nc (vi (ni (nearN R C c))) ∧ (∀ b, blk pa2 = some b → pb < b ∧ b ≠ sb ∧ blk na ≠ some b))
     ⟨uu, uu, uu, uu, uu, uu, uu, m, L', pa, pc, om, p8.ext x9, hp5, iN, o8.ext x9, kV8.ext x9, cV8.ext x9, xV8.trans x9, ks8.ext x9, no, fun b hb => ⟨fV b hb, by have := hpas b hb; omega, fun e => by have h1 := hpas b hb; have h2 := nf b e; have h3 := ks8.lt; omega⟩⟩ fun q f U hq ⟨a2, a5, a7, a8, a53, a54, a55, n2, L2, pa2, pc2, hn2, pU, hpU, iU, oU, kU, cU, xU, ksU, noU, fU⟩ => ?_
    by_cases hlq : (q : Int) < (nearN R C c).length
    ·have hql : q < (nearN R C c).length := om
     obtain ⟨nab, rfl⟩ := noU.some om
     have hjm := getD_mem (d := 0) hql
     have hjn := nearN_lt i1 _ hjm
     have hjh := g.hh _ hjn
     have g0 : U.cell? ⟨nab, q, none⟩ = some (.int .i64 ((nearN R C c).getD q 0 : Nat)) := by rw [noU.cell om, vi_get _ _ (by rw [ni_len]; omega), ni_get _ hql]
     have ckj : U.cell? ⟨nb, (nearN R C c).getD q 0, none⟩ = some (.int .i64 (kn' ((nearN R C c).getD q 0))) := by rw [oU.cell om]; exact vi_rangeI_get _ hjn
     have hkj := iU.ok _ hjn
     by_cases hj0 : kn' ((nearN R C c).getD q 0) < 0
     ·have cj := cU _ hjn
      simp (disch := omega) only [go_sem, a5, a53, a54, a55, hlq, g0, ckj, hj0]
      refine QR_tail 9 ke ke ?_
      simp (disch := omega) only [go_sem, a2, a7, a8, ksU.cell, kU.cell, cj]
      intro U1 y1
      refine callK_of ke (put2_c pb pa2 pc2 n2 L2 ((nearN R C c).getD q 0, min p (h ((nearN R C c).getD q 0))) _ (pU.ext y1) hpU om) ?_
      rintro _ U2 ⟨pa3, pc3, L3, p3, hp3, b3, f3, g3'⟩
      have iP := iU.put g i1 om hql (by rw [hkc']; exact b3)
      have sy := y1.size
      have sg := g3'.size
      have oU1 := oU.ext y1
      have kU1 := kU.ext y1
      have cU1 := cU.ext y1
      have ksU1 := ksU.ext y1
      have noU1 := noU.ext y1
      have xU1 := xU.trans y1
      have kl1 := ksU.lt
      have nl1 : nab < U.heap.size := noU.blk_lt rfl
      simp (disch := omega) only [go_sem, a55]
      refine ⟨hql, uu, uu, uu, uu, uu, uu, uu, n2 + 1, L3, pa3, pc3, om, p3, hp3, iP, g3'.own oU1 (fun b hb => ?_), g3'.blk kU1 ?_, g3'.cells cU1 ?_, g3'.ext xU1 ?_, g3'.blk ksU1 ?_, g3'.own noU1 (fun b hb => ?_), fun b hb => ?_⟩
      ·have h1 : nb = b := (by simpa [blk] using hb)
       rintro (e | e)
       ·omega
       ·have := fU b e; omega
      ·rintro (e | e)
       ·omega
       ·have := fU fb e; omega
      ·rintro (e | e)
       ·omega
       ·have := fU cb e; omega
      ·have := xW.size
       rintro b (e | e)
       ·omega
       ·have := fU b e; omega
      ·rintro (e | e)
       ·omega
       ·exact (fU sb e).2.1 rfl
      ·have h1 : nab = b := (by simpa [blk] using hb)
       rintro (e | e)
       ·have := nf nab rfl
        omega
       ·exact (fU b e).2.2 hb
      ·rcases f3 b hb with e | e
       ·exact fU b e
       ·exact ⟨by have := pU.1.lt; omega, om, fun e2 => by have h1 : nab = b := (by simpa [blk] using e2); omega⟩
     ·have hne : kn' ((nearN R C c).getD q 0) ≠ -1 := om
      simp (disch := omega) only [go_sem, a5, a53, a54, a55, hlq, g0, ckj, hj0]
      exact ⟨hql, uu, uu, uu, uu, uu, uu, uu, n2, L2, pa2, pc2, om, pU, hpU, iU.near hql hne, oU, kU, cU, xU, ksU, noU, fU⟩
    ·have eq : q = (nearN R C c).length := om
     rw [eq] at iU
     simp (disch := omega) only [go_sem, a54, a55, hlq]
     exact ⟨_, om, uu, uu, uu, kn', n2, L2, pa2, pc2, rfl, om, pU, hpU, iU.full, oU, kU, cU, xU, fun b hb => (fU b hb).1⟩
theorem l4Passes_c (gb go gc : Nat) (rb ro rc : Nat → Nat) (R C : Nat) (h : Nat → Int) (a : Nat) (w : World) (hg : GridAt w gb go rb ro rc R C h) (g : Gd R C h) (ha : a < R * C) :
  Ret Tryz.prog 229 #[.slice (some ⟨gb, go, none⟩) R gc, .int .i64 a] w fun v w' => ∃ b, v = .slice (some ⟨b, 0, none⟩) (R * C) (R * C) ∧ w.heap.size ≤ b ∧
   OwnS w' 3 1 (some ⟨b, 0, none⟩) (R * C) (R * C) (vi ((List.range (R * C)).map (passN R C h a))) ∧ Ext w w' := by
 have hn49 := g.le
 have hpos := g.pos
 have hR7 := g.r7
 have hC7 := g.c7
 refine enter2 Tryz.func229 rfl fun f a0 a1 => ?_
 simp (disch := omega) only [go_sem, a0]
 refine callK_pure ke (l2Cells_c _ _ _ _ _ _ _ _ _ _ hg g.r1 g.r7 g.c7) fun w0 x0 => ?_
 simp (disch := omega) only [go_sem]
 refine mksK_of elt_i (R * C) (R * C) _ _ _ _ rfl rfl (Nat.le_refl _) om (by simp [maxLen]; omega) fun w1 nb e1 x1 o1 _ => ?_
 have s0 := x0.size
 have s1 := x1.size
 simp only [Value.cells, made_int] at o1
 rw [vi_rangeI_zero (R * C) (fun x => if x < 0 then -1 else 0) (fun j _ => by simp)] at o1
 have hg1 := (hg.ext x0).ext x1
 simp (disch := omega) only [go_sem]
 refine loopN (R * C) (fun k f W => f 0 = .slice (some ⟨gb, go, none⟩) R gc ∧ f 1 = .int .i64 a ∧ f 5 = .slice (some ⟨nb, 0, none⟩) (R * C) (R * C) ∧ f 6 = .int .i64 k ∧ OwnS W 3 1 (some ⟨nb, 0, none⟩) (R * C) (R * C) (vi ((List.range (R * C)).map fun x => if x < k then -1 else 0)) ∧ Grow (some nb) w1 W ∧ Ext w W) ⟨uu, uu, uu, uu, o1, Grow.refl _ _, x0.trans x1⟩ fun k f W hk ⟨a0, a1, a5, a6, oW, gW, xW⟩ => ?_
 by_cases hlt : (k : Int) < (R * C : Nat)
 ·have hkn : k < R * C := om
  simp (disch := omega) only [go_sem, a5, a6, hlt]
  refine stK_own siz_int rf rf oW om fun w2 o2 g2 => ?_
  rw [vi_rangeI_set (f := fun x => if x < k then -1 else 0) (g := fun x => if x < k + 1 then -1 else 0) hkn sm (fun j hj hne => by
   by_cases e : j < k
   ·simp [e]; omega
   ·simp [e]; omega)] at o2
  simp (disch := omega) only [go_sem, a6]
  exact ⟨hkn, uu, uu, uu, uu, o2, gW.trans g2.grow, g2.ext xW om⟩
 ·have ek : k = R * C := om
  have hgW := hg.ext xW
  simp (disch := omega) only [go_sem, a0, a1, a5, a6, hlt]
  refine callK_pure ke (l2Height_c gb go gc rb ro rc R C h _ hgW hR7 hC7 (a : Int) om om) fun w3 x3 => ?_
  simp (disch := omega) only [go_sem, Int.toNat_natCast]
  refine stK_own siz_int rf rf (oW.ext x3) om fun w4 o4 g4 => ?_
  rw [vi_rangeI_set (f := fun x => if x < k then -1 else 0) (g := pasTo R C h a 0) ha (by simp [pasTo]) (fun j hj hne => by simp [pasTo, hne, ek, hj])] at o4
  have x4 : Ext w w4 := g4.ext (xW.trans x3) om
  simp (disch := omega) only [go_sem]
  refine loopN (R * C) (fun r f V => f 0 = .slice (some ⟨gb, go, none⟩) R gc ∧ f 5 = .slice (some ⟨nb, 0, none⟩) (R * C) (R * C) ∧ f 7 = .int .i64 r ∧ OwnS V 3 1 (some ⟨nb, 0, none⟩) (R * C) (R * C) (vi ((List.range (R * C)).map (pasTo R C h a r))) ∧ Ext w V) ⟨uu, uu, uu, o4, x4⟩ fun r f V hr ⟨a0, a5, a7, oV, xV⟩ => ?_
  by_cases hlr : (r : Int) < (R * C : Nat)
  ·have hrn : r < R * C := om
   simp (disch := omega) only [go_sem, a5, a7, hlr]
   refine loopN (R * C) (fun i f U => f 0 = .slice (some ⟨gb, go, none⟩) R gc ∧ f 5 = .slice (some ⟨nb, 0, none⟩) (R * C) (R * C) ∧ f 7 = .int .i64 r ∧ f 8 = .int .i64 i ∧ OwnS U 3 1 (some ⟨nb, 0, none⟩) (R * C) (R * C) (vi ((List.range (R * C)).map (relTo R C h (pasTo R C h a r) i))) ∧ Ext w U) ⟨uu, uu, uu, uu, oV, xV⟩ fun i f U hi ⟨a0, a5, a7, a8, oU, xU⟩ => ?_
   by_cases hli : (i : Int) < (R * C : Nat)
   ·have hin : i < R * C := om
    simp (disch := omega) only [go_sem, a0, a5, a8, hli]
    refine callK_of ke (l2Near_c gb go gc rb ro rc R C h _ (hg.ext xU) hR7 hC7 i hin) ?_
    rintro _ w5 ⟨na, nc, rfl, no, nf, x5⟩
    have hn4 := nearN_len R C i
    have hnlt := nearN_lt hin
    have oU5 := oU.ext x5
    have xU5 := xU.trans x5
    have hnbl : nb < U.heap.size := oU.blk_lt rfl
    have hrel : relTo R C h (pasTo R C h a r) (i + 1) = relRow h i (nearN R C i) (relTo R C h (pasTo R C h a r) i) := rfl
    generalize hnn : nearN R C i = nn at *
    generalize relTo R C h (pasTo R C h a r) i = o at *
    simp (disch := omega) only [go_sem]
    refine loopN nn.length (fun m f T => f 0 = .slice (some ⟨gb, go, none⟩) R gc ∧ f 5 = .slice (some ⟨nb, 0, none⟩) (R * C) (R * C) ∧ f 7 = .int .i64 r ∧ f 8 = .int .i64 i ∧ f 9 = .slice na nn.length nc ∧ f 10 = .int .i64 m ∧ OwnS T 3 1 (some ⟨nb, 0, none⟩) (R * C) (R * C) (vi ((List.range (R * C)).map (relRow h i (nn.take m) o))) ∧ OwnS T 3 1 na nn.length nc (vi (ni nn)) ∧ Ext w T) ⟨uu, uu, uu, uu, uu, uu, by simpa [relRow] using oU5, no, xU5⟩ fun m f T hm ⟨a0, a5, a7, a8, a9, a10, oT, noT, xT⟩ => ?_
    by_cases hlm : (m : Int) < nn.length
    ·have hml : m < nn.length := om
     obtain ⟨nab, rfl⟩ := noT.some om
     have hnaf := nf nab rfl
     have hj := hnlt _ (getD_mem (d := 0) hml)
     have hst := relRow_take h i o hml
     have g0 : T.cell? ⟨nab, m, none⟩ = some (.int .i64 (nn.getD m 0 : Nat)) := by rw [noT.cell om, vi_get _ _ (by rw [ni_len]; omega), ni_get _ hml]
     generalize nn.getD m 0 = j at *
     generalize relRow h i (nn.take m) o = o' at *
     have g1 : T.cell? ⟨nb, i, none⟩ = some (.int .i64 (o' i)) := by rw [oT.cell om]; exact vi_rangeI_get _ hin
     have g2 : T.cell? ⟨nb, j, none⟩ = some (.int .i64 (o' j)) := by rw [oT.cell om]; exact vi_rangeI_get _ hj
     simp (disch := omega) only [go_sem, a9, a10, hlm]
     refine QR_tail 18 ke ke ?_
     simp (disch := omega) only [go_sem, a0, a5, a8, a9, a10, g0, g1, g2]
     refine callK_q ke (fun w' e => l2Height_c gb go gc rb ro rc R C h _ ((hg.ext xT).ext e) hR7 hC7 (i : Int) om om) ?_
     simp (disch := omega) only [go_sem, Int.toNat_natCast, a5, a8, a9, a10, g0, g1, g2]
     intro w6 x6
     refine stK_own siz_int rf rf (oT.ext x6) om fun w7 o7 g7 => ?_
     rw [vi_rangeI_set (f := o') (g := stp h o' i j) hin (by simp [stp]) (fun x hx hne => by simp [stp, hne])] at o7
     simp (disch := omega) only [go_sem, a10]
     exact ⟨hml, uu, uu, uu, uu, uu, uu, by rw [hst]; exact o7, (noT.ext x6).grow g7.grow (fun b hb e => by have h1 : nab = b := (by simpa [blk] using hb); have h2 : nb = b := (by simpa using e); omega), g7.ext (xT.trans x6) om⟩
    ·have em : m = nn.length := om
     rw [em, List.take_length] at oT
     simp (disch := omega) only [go_sem, a8, a9, a10, hlm]
     exact ⟨hin, uu, uu, uu, uu, by rw [hrel]; exact oT, xT⟩
   ·have ei : i = R * C := om
    rw [ei] at oU
    simp (disch := omega) only [go_sem, a5, a7, a8, hli]
    exact ⟨hrn, uu, uu, uu, oU, xU⟩
  ·have er : r = R * C := om
   rw [er] at oV
   have e : (List.range (R * C)).map (pasTo R C h a (R * C)) = (List.range (R * C)).map (passN R C h a) := List.map_congr_left fun x hx => pas_end g ha (List.mem_range.1 hx)
   rw [e] at oV
   simp (disch := omega) only [go_sem, a5, a7, hlr, Tryz.results229]
   exact ⟨nb, by first | rfl | trivial, om, oV, xV⟩
end Go.Proofs.YtcbmhjndbpafbaaGreatDoor
namespace Go.SW
open Go Go.RowKit
theorem mnN_le2 (h : Nat → Int) : ∀ (n i : Nat), i < n → mnN h n ≤ h i
 | n + 1, i, hi => by
  simp only [mnN]
  by_cases e : i = n
  ·subst e; omega
  ·have := mnN_le2 h n i om; omega
theorem mnN_at2 (h : Nat → Int) : ∀ (n : Nat), 0 < n → ∃ i, i < n ∧ mnN h n = h i
 | n + 1, _ => by
  simp only [mnN]
  by_cases h0 : n = 0
  ·subst h0; exact ⟨0, om, by simp [mnN]⟩
  ·obtain ⟨i, hi, e⟩ := mnN_at2 h n om
   by_cases hm : h n ≤ mnN h n
   ·exact ⟨n, om, om⟩
   ·exact ⟨i, om, om⟩
def leastTo (h : Nat → Int) (i : Nat) : Nat → Int
 | 0 => h i
 | k + 1 => min (leastTo h i k) (h k)
theorem leastTo_le (h : Nat → Int) (i : Nat) : ∀ k, leastTo h i k ≤ h i ∧ (∀ j, j < k → leastTo h i k ≤ h j) ∧ (leastTo h i k = h i ∨ ∃ j, j < k ∧ leastTo h i k = h j)
 | 0 => ⟨Int.le_refl _, fun j hj => om, .inl rfl⟩
 | k + 1 => by
  obtain ⟨h1, h2, h3⟩ := leastTo_le h i k
  simp only [leastTo]
  refine ⟨om, fun j hj => ?_, ?_⟩
  ·by_cases e : j = k
   ·subst e; omega
   ·have := h2 j om; omega
  ·by_cases hm : h k ≤ leastTo h i k
   ·exact .inr ⟨k, om, om⟩
   ·rcases h3 with e | ⟨j, hj, e⟩
    ·exact .inl om
    ·exact .inr ⟨j, om, om⟩
theorem leastTo_end {h : Nat → Int} {n i : Nat} (hi : i < n) : leastTo h i n = mnN h n := by
 obtain ⟨h1, h2, h3⟩ := leastTo_le h i n
 obtain ⟨j, hj, e⟩ := mnN_at2 h n om
 have h4 := h2 j hj
 have h5 : mnN h n ≤ leastTo h i n := by
  rcases h3 with e2 | ⟨k, hk, e2⟩
  ·rw [e2]; exact mnN_le2 h n i hi
  ·rw [e2]; exact mnN_le2 h n k hk
 omega
def bestTo (R C : Nat) (h : Nat → Int) (i : Nat) : Nat → Int
 | 0 => -1
 | k + 1 => if hiB h k i then max (bestTo R C h i k) (passN R C h i k) else bestTo R C h i k
theorem bestTo_bnd (R C : Nat) (h : Nat → Int) (i : Nat) : ∀ k, -1 ≤ bestTo R C h i k ∧ bestTo R C h i k ≤ 99
 | 0 => ⟨Int.le_refl _, by simp [bestTo]⟩
 | k + 1 => by
  have ih := bestTo_bnd R C h i k
  have h1 := pass_ge R C h i k
  have h2 := pass_le R C h i k
  simp only [bestTo]
  split <;> omega
def keyN (R C : Nat) (h : Nat → Int) (i : Nat) : Int := if 0 ≤ bestTo R C h i (R * C) then bestTo R C h i (R * C) else mnN h (R * C)
def promN (R C : Nat) (h : Nat → Int) (i : Nat) : Int := h i - keyN R C h i
theorem keyN_bnd {R C : Nat} {h : Nat → Int} (g : Gd R C h) (i : Nat) : 0 ≤ keyN R C h i ∧ keyN R C h i ≤ 99 := by
 have h1 := bestTo_bnd R C h i (R * C)
 obtain ⟨j, hj, e⟩ := mnN_at2 h (R * C) g.pos
 have h2 := g.hh j hj
 rw [keyN]; split <;> omega
def pkeyOf (rows : List (List Int)) (i : Int) : Int := if pkOf rows i = true then keyN rows.length (rowLen rows) (hgt rows) i.toNat else -1
def promOf (rows : List (List Int)) (i : Int) : Int := if pkOf rows i = true then promN rows.length (rowLen rows) (hgt rows) i.toNat else -1
theorem pk_parts {rows : List (List Int)} {i : Int} (h : pkOf rows i = true) : ∃ n : Nat, i = (n : Int) ∧ gvalid rows = true ∧ n < rows.length * rowLen rows ∧ peakB rows.length (rowLen rows) (hgt rows) n = true := by
 simp only [pkOf, Bool.and_eq_true, decide_eq_true_eq] at h
 obtain ⟨hv, ⟨h0, h1⟩, hp⟩ := h
 obtain ⟨n, rfl⟩ := Int.eq_ofNat_of_zero_le h0
 exact ⟨n, rfl, hv, om, by simpa using hp⟩
end Go.SW
namespace Go.Proofs.YtcbmhjndbpafbaaGreatDoor
open Go.RowKit Go.SW
theorem key_c (R C cb : Nat) (h : Nat → Int) (a : Nat) (w : World) (g : Gd R C h) (hc : CellsAt w cb (R * C) h) (ha : a < R * C) :
  Ret Tryz.prog 219 #[.agg #[.int .i64 R, .int .i64 C, .slice (some ⟨cb, 0, none⟩) (R * C) (R * C)], .int .i64 a] w fun v w' => v = .int .i64 (keyN R C h a) ∧ Ext w w' := by
 have hn49 := g.le
 have hpos := g.pos
 refine enter2 Tryz.func219 rfl fun f a0 a1 => ?_
 simp only [go_sem, a0]
 refine boxK_of fun w0 fb efb x0 kb _ => ?_
 have s0 := x0.size
 have kb : Blk w0 fb #[.int .i64 R, .int .i64 C, .slice (some ⟨cb, 0, none⟩) (R * C) (R * C)] 70 := by simpa [Value.cells] using kb
 have hc0 := hc.ext x0
 simp (disch := omega) only [go_sem, a1, readCells_blk kb (n := 3) sm]
 refine callK_of ke (passes_c R C cb h a _ g hc0 ha) ?_
 rintro _ w1 ⟨pb, rfl, hpb, po, x1⟩
 have kb1 := kb.ext x1
 have hc1 := hc0.ext x1
 simp (disch := omega) only [go_sem]
 refine loopN (R * C) (fun k f W => f 1 = .int .i64 a ∧ f 2 = .pointer (some ⟨fb, 0, none⟩) ∧ f 5 = .int .i64 (bestTo R C h a k) ∧ f 13 = .slice (some ⟨pb, 0, none⟩) (R * C) (R * C) ∧ f 14 = .int .i64 (R * C : Nat) ∧ f 15 = .int .i64 k ∧ Ext w1 W) ⟨uu, uu, by simp [upd_apply, bestTo], uu, uu, uu, Ext.refl _⟩ fun k f W hk ⟨a1, a2, a5, a13, a14, a15, xW⟩ => ?_
 by_cases hlt : (k : Int) < (R * C : Nat)
 ·have hkn : k < R * C := om
  have ck : W.cell? ⟨pb, k, none⟩ = some (.int .i64 (passN R C h a k)) := by rw [(po.ext xW).cell om]; exact vi_rangeI_get _ hkn
  simp (disch := omega) only [go_sem, a1, a2, a13, a14, a15, hlt, ck, readCells_blk (kb1.ext xW) (n := 3) sm]
  refine callK_pure ke (higher_c R C cb h k a _ (hc1.ext xW) hkn ha) fun w2 x2 => ?_
  cases hh : hiB h k a with
  | true =>
   simp (disch := omega) only [go_sem, a5, a15]
   exact ⟨hkn, uu, uu, by simp [upd_apply, bestTo, hh], uu, uu, uu, xW.trans x2⟩
  | false =>
   simp (disch := omega) only [go_sem, a15]
   exact ⟨hkn, uu, uu, by simp [upd_apply, bestTo, hh, a5], uu, uu, uu, xW.trans x2⟩
 ·have ek : k = R * C := om
  rw [ek] at a5
  by_cases hb : 0 ≤ bestTo R C h a (R * C)
  ·simp (disch := omega) only [go_sem, a5, a14, a15, hlt, hb, Tryz.results219]
   exact ⟨by rw [keyN, if_pos hb], (x0.trans x1).trans xW⟩
  ·have kbW := kb1.ext xW
   have hcW := hc1.ext xW
   have ca := hcW a ha
   simp (disch := omega) only [go_sem, a1, a2, a5, a14, a15, hlt, hb, kbW.cell, ca]
   refine loopN (R * C) (fun k f V => f 8 = .int .i64 (leastTo h a k) ∧ f 37 = .slice (some ⟨cb, 0, none⟩) (R * C) (R * C) ∧ f 38 = .int .i64 (R * C : Nat) ∧ f 39 = .int .i64 k ∧ Ext w V ∧ CellsAt V cb (R * C) h) ⟨by simp [upd_apply, leastTo], uu, uu, uu, (x0.trans x1).trans xW, hcW⟩ fun k f V hk ⟨a8, a37, a38, a39, xV, cV⟩ => ?_
   by_cases hlk : (k : Int) < (R * C : Nat)
   ·have hkn : k < R * C := om
    have ck := cV k hkn
    simp (disch := omega) only [go_sem, a8, a37, a38, a39, hlk, ck]
    exact ⟨hkn, by simp [upd_apply, leastTo], uu, uu, uu, xV, cV⟩
   ·have ek : k = R * C := om
    rw [ek, leastTo_end ha] at a8
    simp (disch := omega) only [go_sem, a8, a38, a39, hlk, Tryz.results219]
    exact ⟨by rw [keyN, if_neg hb], xV⟩
theorem prominence_c (R C cb : Nat) (h : Nat → Int) (a : Nat) (w : World) (g : Gd R C h) (hc : CellsAt w cb (R * C) h) (ha : a < R * C) :
  Ret Tryz.prog 196 #[.agg #[.int .i64 R, .int .i64 C, .slice (some ⟨cb, 0, none⟩) (R * C) (R * C)], .int .i64 a] w fun v w' => v = .int .i64 (promN R C h a) ∧ Ext w w' := by
 have hn49 := g.le
 have hk := keyN_bnd g a
 have hha := g.hh a ha
 refine enter2 Tryz.func196 rfl fun f a0 a1 => ?_
 simp only [go_sem, a0]
 refine boxK_of fun w0 fb efb x0 kb _ => ?_
 have kb : Blk w0 fb #[.int .i64 R, .int .i64 C, .slice (some ⟨cb, 0, none⟩) (R * C) (R * C)] 70 := by simpa [Value.cells] using kb
 have hc0 := hc.ext x0
 have ca := hc0 a ha
 simp (disch := omega) only [go_sem]
 refine QR_of ke ke ?_
 simp (disch := omega) only [go_sem, a1, kb.cell, ca, readCells_blk kb (n := 3) sm]
 refine callK_q ke (fun w' e => key_c R C cb h a _ g (hc0.ext e) ha) ?_
 simp (disch := omega) only [go_sem]
 intro w1 x1
 simp (disch := omega) only [go_sem, Tryz.results196]
 exact ⟨by first | rfl | trivial, x0.trans x1⟩
theorem implPeakProminence_c (a : Option Addr) (rows : List (List Int)) (A : Nat → Option Addr) (Cp : Nat → Nat) (gc : Nat) (i : Int) (w : World) (hr : RowsAt w a rows A Cp) :
  Ret Tryz.prog 163 #[.slice a rows.length gc, .int .i64 i] w fun v w' => v = .int .i64 (promOf rows i) ∧ Ext w w' := by
 refine enter2 Tryz.func163 rfl fun f a0 a1 => ?_
 simp (disch := omega) only [go_sem, a0]
 refine callK_of ke (fieldOf_c _ _ _ _ _ _ hr) ?_
 rintro _ w2 ⟨x2, (⟨hvt, cb, rfl, hcb, o⟩ | ⟨hv', rfl⟩)⟩
 rotate_left
 ·simp (disch := omega) only [go_sem]
  refine allocK_of zero_f fun w3 fb _ x3 k3 _ => ?_
  simp (disch := omega) only [go_sem]
  refine stK_agg siz_f sm oi k3 sm fun w4 k4 g4 => ?_
  have x4 : Ext w w4 := g4.ext (x2.trans x3) (by have := x2.size; omega)
  have hv : gvalid rows = false := hv'
  simp (disch := omega) only [go_sem, Tryz.results163]
  exact ⟨by simp [promOf, pkOf, hv], x4⟩
 have hv : gvalid rows = true := hvt
 have v := (gvalid_iff rows).1 hv
 have g := v.gd
 have hn49 := g.le
 simp (disch := omega) only [go_sem]
 refine allocK_of zero_f fun w3 fb _ x3 k3 _ => ?_
 simp (disch := omega) only [go_sem]
 refine stK_agg siz_f sm oi k3 sm fun w4 kb g4 => ?_
 have s2 := x2.size
 have s3 := x3.size
 have x4 : Ext w w4 := g4.ext (x2.trans x3) om
 have s4 := x4.size
 have hc : CellsAt w4 cb (rows.length * rowLen rows) (hgt rows) := fun i hi => by
  have := ((o.cellsAt.ext x3).grow g4.grow (by have := o.cellsAt.lt g.pos; simp; omega)) i hi
  simpa only [hs_get rows i hi] using this
 simp (disch := omega) only [go_sem, a1, readCells_blk kb (n := 3) sm]
 refine callK_pure ke (peak_c _ _ cb (hgt rows) i _ g hc) fun w5 x5 => ?_
 have ep : (decide (0 ≤ i ∧ i < (rows.length * rowLen rows : Nat)) && peakB rows.length (rowLen rows) (hgt rows) i.toNat) = pkOf rows i := by simp [pkOf, hv]
 cases hp : pkOf rows i with
 | false =>
  simp (disch := omega) only [go_sem, ep, hp, Bool.not_false, Tryz.results163]
  exact ⟨by simp [promOf, hp], x4.trans x5⟩
 | true =>
  obtain ⟨n, rfl, -, hn, hpk⟩ := pk_parts hp
  have hd : decide (0 ≤ (n : Int) ∧ (n : Int) < (rows.length * rowLen rows : Nat)) = true := decide_eq_true ⟨om, om⟩
  simp (disch := omega) only [go_sem, hd, Int.toNat_natCast, hpk, Bool.and_true, Bool.not_true, a1, readCells_blk (kb.ext x5) (n := 3) sm]
  refine callK_pure ke (prominence_c _ _ cb (hgt rows) n _ g (hc.ext x5) hn) fun w6 x6 => ?_
  simp (disch := omega) only [go_sem, Tryz.results163]
  exact ⟨by simp [promOf, hp], (x4.trans x5).trans x6⟩
theorem specPeakKey_c (a : Option Addr) (rows : List (List Int)) (A : Nat → Option Addr) (Cp : Nat → Nat) (gc : Nat) (i : Int) (w : World) (hr : RowsAt w a rows A Cp) :
  Ret Tryz.prog 206 #[.slice a rows.length gc, .int .i64 i] w fun v w' => v = .int .i64 (pkeyOf rows i) ∧ Ext w w' := by
 refine enter2 Tryz.func206 rfl fun f a0 a1 => ?_
 simp (disch := omega) only [go_sem, a0, a1]
 refine callK_pure ke (specPeakIs_c _ _ _ _ _ i _ hr) fun w1 x1 => ?_
 cases hp : pkOf rows i with
 | false =>
  simp (disch := omega) only [go_sem, Bool.not_false, Tryz.results206]
  exact ⟨by simp [pkeyOf, hp], x1⟩
 | true =>
  obtain ⟨n, rfl, hv, hn, hpk⟩ := pk_parts hp
  have v := (gvalid_iff rows).1 hv
  have g := v.gd
  have hn49 := g.le
  obtain ⟨gb, go, rb, ro, rfl, -, hg⟩ := hr.grid v
  have hk : pkeyOf rows (n : Int) = keyN rows.length (rowLen rows) (hgt rows) n := by simp [pkeyOf, hp]
  simp (disch := omega) only [go_sem, Bool.not_true, a0, a1]
  refine callK_of ke (l4Passes_c gb go gc rb ro Cp _ _ _ n _ (hg.ext x1) g hn) ?_
  rintro _ w2 ⟨pb, rfl, hpb, po, x2⟩
  have hg2 := (hg.ext x1).ext x2
  simp (disch := omega) only [go_sem]
  refine loopN (rows.length * rowLen rows) (fun k f W => f 0 = .slice (some ⟨gb, go, none⟩) rows.length gc ∧ f 1 = .int .i64 n ∧ f 5 = .slice (some ⟨pb, 0, none⟩) (rows.length * rowLen rows) (rows.length * rowLen rows) ∧ f 6 = .int .i64 (bestTo rows.length (rowLen rows) (hgt rows) n k) ∧ f 7 = .int .i64 k ∧ Ext w2 W) ⟨uu, uu, uu, by simp [upd_apply, bestTo], uu, Ext.refl _⟩ fun k f W hk' ⟨a0, a1, a5, a6, a7, xW⟩ => ?_
  by_cases hlt : (k : Int) < (rows.length * rowLen rows : Nat)
  ·have hkn : k < rows.length * rowLen rows := om
   simp (disch := omega) only [go_sem, a0, a1, a5, a7, hlt]
   refine callK_pure ke (l4Higher_c gb go gc rb ro Cp _ _ _ k n _ (hg2.ext xW) g.r7 g.c7 hkn hn) fun w3 x3 => ?_
   have ck : w3.cell? ⟨pb, k, none⟩ = some (.int .i64 (passN rows.length (rowLen rows) (hgt rows) n k)) := by rw [(po.ext (xW.trans x3)).cell om]; exact vi_rangeI_get _ hkn
   cases hh : hiB (hgt rows) k n with
   | true =>
    simp (disch := omega) only [go_sem, a5, a6, a7, ck]
    exact ⟨hkn, uu, uu, uu, by simp [upd_apply, bestTo, hh], uu, xW.trans x3⟩
   | false =>
    simp (disch := omega) only [go_sem, a7]
    exact ⟨hkn, uu, uu, uu, by simp [upd_apply, bestTo, hh, a6], uu, xW.trans x3⟩
  ·have ek : k = rows.length * rowLen rows := om
   rw [ek] at a6
   by_cases hb : bestTo rows.length (rowLen rows) (hgt rows) n (rows.length * rowLen rows) < 0
   ·simp (disch := omega) only [go_sem, a0, a5, a6, a7, hlt, hb]
    refine callK_of ke (specGridRange_c _ _ _ _ _ _ (((hr.ext x1).ext x2).ext xW)) ?_
    rintro _ w3 ⟨rfl, x3⟩
    have hrange : rangeOf rows = .tuple #[.int .i64 (mnN (hgt rows) (rows.length * rowLen rows)), .int .i64 (mxN (hgt rows) (rows.length * rowLen rows)), .bool true] := by simp [rangeOf, hv]
    simp (disch := omega) only [go_sem, hrange, Tryz.results206]
    exact ⟨by rw [hk, keyN, if_neg om], ((x1.trans x2).trans xW).trans x3⟩
   ·simp (disch := omega) only [go_sem, a0, a5, a6, a7, hlt, hb, Tryz.results206]
    exact ⟨by rw [hk, keyN, if_pos om], (x1.trans x2).trans xW⟩
theorem specPeakProminence_c (a : Option Addr) (rows : List (List Int)) (A : Nat → Option Addr) (Cp : Nat → Nat) (gc : Nat) (i : Int) (w : World) (hr : RowsAt w a rows A Cp) :
  Ret Tryz.prog 174 #[.slice a rows.length gc, .int .i64 i] w fun v w' => v = .int .i64 (promOf rows i) ∧ Ext w w' := by
 refine enter2 Tryz.func174 rfl fun f a0 a1 => ?_
 simp (disch := omega) only [go_sem, a0, a1]
 refine callK_pure ke (specPeakKey_c _ _ _ _ _ i _ hr) fun w1 x1 => ?_
 cases hp : pkOf rows i with
 | false =>
  have hlt : pkeyOf rows i < 0 := by simp [pkeyOf, hp]
  simp (disch := omega) only [go_sem, hlt, Tryz.results174]
  exact ⟨by simp [promOf, hp], x1⟩
 | true =>
  obtain ⟨n, rfl, hv, hn, hpk⟩ := pk_parts hp
  have v := (gvalid_iff rows).1 hv
  have g := v.gd
  have hn49 := g.le
  obtain ⟨gb, go, rb, ro, rfl, -, hg⟩ := hr.grid v
  have hk : pkeyOf rows (n : Int) = keyN rows.length (rowLen rows) (hgt rows) n := by simp [pkeyOf, hp]
  have hkb := keyN_bnd g n
  have hhn := g.hh n hn
  have hlt : ¬ keyN rows.length (rowLen rows) (hgt rows) n < 0 := om
  simp (disch := omega) only [go_sem, hk, hlt, a0, a1]
  refine callK_pure ke (l2Height_c gb go gc rb ro Cp _ _ _ _ (hg.ext x1) g.r7 g.c7 (n : Int) om om) fun w2 x2 => ?_
  simp (disch := omega) only [go_sem, Int.toNat_natCast, Tryz.results174]
  exact ⟨by simp [promOf, promN, hp], x1.trans x2⟩
end Go.Proofs.YtcbmhjndbpafbaaGreatDoor
