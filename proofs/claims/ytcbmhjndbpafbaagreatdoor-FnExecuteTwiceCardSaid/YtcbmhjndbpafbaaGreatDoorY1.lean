import Derived.Test.YtcbmhjndbpafbaaGreatDoorZ5
import Derived.Test.YtcbmhjndbpafbaaGreatDoorZ7
set_option linter.all false
set_option maxRecDepth 20000
namespace Go.SW
open Go Go.RowKit
theorem appK_0 {P : Program} {T ty e s bs : Nat} {z : Value} {k : Value → World → Prop} {w : World} (ht : elt P T = some (e, s, z, bs)) {a : Option Addr} {n c : Nat} (hnc : n ≤ c) (y : Option Addr) (c2 : Nat)
  (h : k (.slice a n c) w) : biK P .append #[T, T] ty #[.slice a n c, .slice y 0 c2] k w := by
 obtain ⟨hT, i, hi, hs, hz, hb, hzs⟩ := elt_some ht
 have hf : (Builtin.firstCells s 0 (.slice y 0 c2)).run P w = .ok #[] w := by
  cases y with
  | none => rfl
  | some ad => simp [Builtin.firstCells, loadCells, loadCellsFrom, Sem.run_pure]
 have hr : (builtin .append #[T, T] ty #[] #[.slice a n c, .slice y 0 c2]).run P w = .ok (.value (.slice a n c)) w := by
  refine run_bindV (a := Value.slice a n c) (w' := w) ?_
  cases a with
  | none => simp [Builtin.append_, run_underlying_some hT, sizeOf, typeInfo, hi, hs, Builtin.lenOf, hf, hnc, storeCells]
  | some x => simp [Builtin.append_, run_underlying_some hT, sizeOf, typeInfo, hi, hs, Builtin.lenOf, hf, hnc, storeCells]
 unfold biK
 rw [hr]
 exact h
theorem lcs_one (s : Lb) : ∀ u ∈ lcs s, u.oneCell' = true := fun u hu => by
 simp only [lcs, List.mem_cons, List.not_mem_nil, or_false] at hu
 rcases hu with rfl | rfl | rfl | rfl <;> rfl
theorem lcl_one (L : List Lb) : ∀ u ∈ lcl L, u.oneCell' = true := fun u hu => by
 induction L with
 | nil => cases hu
 | cons s L ih =>
  have : lcl (s :: L) = lcs s ++ lcl L := (lcl_app [s] L).symm.trans (by simp [lcl])
  rw [this] at hu
  rcases List.mem_append.1 hu with h | h
  ·exact lcs_one s u h
  ·exact ih h
theorem bslK_L {P : Program} {T e bs : Nat} {z : Value} {s : Lb} {k : Value → World → Prop} {w : World} (ht : elt P T = some (e, 4, z, bs))
  (h : ∀ w' b, b = w.heap.size → Ext w w' → OwnS w' e 4 (some ⟨b, 0, none⟩) 1 1 (lcl [s]) → w'.heap.size = b + 1 → k (.slice (some ⟨b, 0, none⟩) 1 1) w') : bslK P T 1 [(0, .agg #[.int .i64 s.x, .int .i64 s.y, .int .i64 s.w, .int .i64 s.v])] k w := by
 obtain ⟨hT, i, hi, hs, hz, hb, hzs⟩ := elt_some ht
 have hr : (Instr.buildSlice T 1 [(0, Value.agg #[.int .i64 s.x, .int .i64 s.y, .int .i64 s.w, .int .i64 s.v])].toArray).run P w = .ok (.slice (some ⟨w.heap.size, 0, none⟩) 1 1) (w.alloc (.cells (lcl [s]).toArray e)) := by
  refine (run_bindV (run_underlying_some hT)).trans ?_
  refine (run_bindV (run_sizeOf_some hi)).trans ?_
  have hzr : (zeroValue e).run P w = .ok z w := by
   refine (run_bindV (run_typeInfo_some hi)).trans ?_
   rw [hz]; rfl
  have e1 : (((((Array.range 4).map (fun x => z.cells[x % z.cells.size]!)).setIfInBounds 0 (.int .i64 s.x)).setIfInBounds 1 (.int .i64 s.y)).setIfInBounds 2 (.int .i64 s.w)).setIfInBounds 3 (.int .i64 s.v) = (lcl [s]).toArray := by
   apply Array.ext'; simp [List.range_succ, lcl, lcs]
  have hv : (Value.agg #[.int .i64 s.x, .int .i64 s.y, .int .i64 s.w, .int .i64 s.v]).cells = #[.int .i64 s.x, .int .i64 s.y, .int .i64 s.w, .int .i64 s.v] := rfl
  simp [hs, hzr, Instr.fill, newRow, hv, e1]
 unfold bslK
 rw [hr]
 have hk : Blk (w.alloc (.cells (lcl [s]).toArray e)) w.heap.size (lcl [s]).toArray e := heap_alloc_new w _
 exact h _ _ rfl (ext_alloc w _) (by simpa using OwnS.of_blk (s := 4) (n := 1) hk (by simp [lcl_len]) (by simp [maxLen])) sm
theorem appK_L {P : Program} {T ty e bs : Nat} {z : Value} {k : Value → World → Prop} {w : World} (ht : elt P T = some (e, 4, z, bs)) (hbs : bs ≤ 1000)
  {a : Option Addr} {c : Nat} {L : List Lb} (hown : OwnS w e 4 a L.length c (lcl L)) {y : Option Addr} {M : List Lb} (c2 : Nat) (hM : LabS w y M) (hL : L.length ≤ 1000)
  (h : ∀ w' a' c', OwnS w' e 4 a' (L ++ M).length c' (lcl (L ++ M)) → Grow (blk a) w w' → (∀ b, blk a' = some b → blk a = some b ∨ w.heap.size ≤ b) → k (.slice a' (L ++ M).length c') w') :
  biK P .append #[T, T] ty #[.slice a L.length c, .slice y M.length c2] k w := by
 rcases M with _ | ⟨s, M⟩
 ·exact appK_0 ht hown.le_cap y c2 (by simpa using h w a c (by simpa using hown) (Grow.refl _ _) (fun b hb => .inl hb))
 ·obtain ⟨b, o, rfl⟩ := hM.head sm
  have hs := hM.short
  rw [← lcl_app, List.length_append] at h
  refine appK_of ht dc hown (lcl (s :: M)) (lcl_len _) (fun j u hj => ?_) (lcl_one _) (by simp only [maxLen]; omega) ?_ h
  ·have hlt : j < (s :: M).length * 4 := by
    have := (List.getElem?_eq_some_iff.1 hj).1
    rwa [lcl_len] at this
   obtain ⟨q, r, hr, rfl⟩ : ∃ q r, r < 4 ∧ j = q * 4 + r := ⟨j / 4, j % 4, om, om⟩
   rw [lcl_get _ om hr] at hj
   rw [add_mk, ← hj, ← Nat.add_assoc]
   exact hM.cell b o rfl q om r hr
  ·exact Nat.le_trans (Nat.mul_le_mul_left _ hbs) om
structure DeskL (w : World) (D d : Nat) (k : Dk) (X : Nat → Prop) : Prop where
 ex : ∃ a A Cp gc la lc, Blk w d #[.slice a k.rows.length gc, .slice la k.labs.length lc] D ∧ RowsAt w a k.rows A Cp ∧ LabS w la k.labs ∧ k.labs.length ≤ lc ∧ (∀ b, Go.SW.blk a = some b → ¬ X b ∧ b ≠ d ∧ b < w.heap.size) ∧ (∀ r, r < k.rows.length → ∀ b, Go.SW.blk (A r) = some b → ¬ X b ∧ b ≠ d ∧ b < w.heap.size) ∧ ∀ b, Go.SW.blk la = some b → ¬ X b ∧ b ≠ d ∧ b < w.heap.size
theorem DeskL.lt {w : World} {D d : Nat} {k : Dk} {X : Nat → Prop} (h : DeskL w D d k X) : d < w.heap.size := by
 obtain ⟨a, A, Cp, gc, la, lc, kd, _⟩ := h.ex
 exact kd.lt
theorem DeskL.grow {w w' : World} {D d : Nat} {k : Dk} {X Y : Nat → Prop} (h : DeskL w D d k X) (g : GrowP Y w w') (hx : ∀ y, Y y → X y) (hd : ¬ Y d) : DeskL w' D d k X := by
 obtain ⟨a, A, Cp, gc, la, lc, kd, r, l, hlc, h1, h2, h3⟩ := h.ex
 have s := g.size
 exact ⟨a, A, Cp, gc, la, lc, g.blk kd hd, r.kept (fun b hb hl => g.other b hl fun e => (h1 b hb).1 (hx b e)) (fun i hi b hb hl => g.other b hl fun e => (h2 i hi b hb).1 (hx b e)),
  l.kept (fun b hb hl => g.other b hl fun e => (h3 b hb).1 (hx b e)), hlc,
  fun b hb => let ⟨p, q, z⟩ := h1 b hb; ⟨p, q, om⟩, fun i hi b hb => let ⟨p, q, z⟩ := h2 i hi b hb; ⟨p, q, om⟩, fun b hb => let ⟨p, q, z⟩ := h3 b hb; ⟨p, q, om⟩⟩
theorem DeskL.ext {w w' : World} {D d : Nat} {k : Dk} {X : Nat → Prop} (h : DeskL w D d k X) (e : Ext w w') : DeskL w' D d k X := by
 obtain ⟨a, A, Cp, gc, la, lc, kd, r, l, hlc, h1, h2, h3⟩ := h.ex
 have s := e.size
 exact ⟨a, A, Cp, gc, la, lc, kd.ext e, r.ext e, l.ext e, hlc, fun b hb => let ⟨p, q, z⟩ := h1 b hb; ⟨p, q, om⟩, fun i hi b hb => let ⟨p, q, z⟩ := h2 i hi b hb; ⟨p, q, om⟩, fun b hb => let ⟨p, q, z⟩ := h3 b hb; ⟨p, q, om⟩⟩
theorem DeskL.avoid {w : World} {D d : Nat} {k : Dk} {X Y : Nat → Prop} (h : DeskL w D d k X) (hY : ∀ y, Y y → X y ∨ w.heap.size ≤ y) : DeskL w D d k Y := by
 obtain ⟨a, A, Cp, gc, la, lc, kd, r, l, hlc, h1, h2, h3⟩ := h.ex
 have f : ∀ b, ¬ X b ∧ b ≠ d ∧ b < w.heap.size → ¬ Y b ∧ b ≠ d ∧ b < w.heap.size := fun b ⟨p, q, z⟩ => ⟨fun hy => (hY b hy).elim p om, q, z⟩
 exact ⟨a, A, Cp, gc, la, lc, kd, r, l, hlc, fun b hb => f b (h1 b hb), fun i hi b hb => f b (h2 i hi b hb), fun b hb => f b (h3 b hb)⟩
theorem DeskL.rows {W W1 : World} {D d b n0 eo ei : Nat} {k : Dk} {rows : List (List Int)} {A : Nat → Option Addr} {X : Nat → Prop} {la : Option Addr} {lc : Nat} (v : Valid rows) (or : OwnRows W eo ei n0 b rows A) (g : Wrote d W W1) (kd : Blk W1 d #[.slice (some ⟨b, 0, none⟩) rows.length rows.length, .slice la k.labs.length lc] D) (hX : ∀ x, X x → x < n0) (hd : d < n0) (hs : n0 ≤ W.heap.size)
  (l : LabS W la k.labs) (hlc : k.labs.length ≤ lc) (h3 : ∀ b, Go.SW.blk la = some b → ¬ X b ∧ b ≠ d ∧ b < n0) : DeskL W1 D d ⟨rows, k.labs⟩ X := by
 have hR7 := v.r7
 have hC7 := v.c7
 have hr : RowsAt W (some ⟨b, 0, none⟩) rows A _ := or.at (fun l hl x hx => by have := v.rng l hl x hx; exact ⟨om, om⟩) (by simp [maxLen]; omega) fun l hl => by rw [v.rlen l hl]; simp [maxLen]; omega
 obtain ⟨xs, ot, _⟩ := or.top
 have hb := or.hb
 have s := g.size
 refine ⟨_, A, _, _, la, lc, kd, hr.kept (fun x hx _ => ?_) (fun i hi x hx _ => ?_), l.kept (fun x hx _ => g.other x ?_), hlc, fun x hx => ?_, fun i hi x hx => ?_, fun x hx => ?_⟩
 ·simp only [blk_some, Option.some.injEq] at hx
  exact g.other x om
 ·obtain ⟨br, h1, h2, h3, oo⟩ := or.row i hi
  rw [h1] at hx
  simp only [blk_some, Option.some.injEq] at hx
  exact g.other x om
 ·exact (h3 x hx).2.1
 ·have hlt := ot.blk_lt hx
  simp only [blk_some, Option.some.injEq] at hx
  exact ⟨fun e => by have := hX x e; omega, om, om⟩
 ·obtain ⟨br, h1, h2, h3, oo⟩ := or.row i hi
  have hlt := oo.blk_lt hx
  rw [h1] at hx
  simp only [blk_some, Option.some.injEq] at hx
  exact ⟨fun e => by have := hX x e; omega, om, om⟩
 ·obtain ⟨p, q, z⟩ := h3 x hx
  exact ⟨p, q, om⟩
theorem cx_cut {P : Program} {N : Nat} {a b : Code} {Q : Exit → Act → World → Prop} {f : F} {w : World} (hok : codeOk N a = true) (h : CX P N a (fun f w => b.wp P Q (fr N f) w) (fun _ _ _ => False) (fun _ _ => False) f w) : (Code.seq a b).wp P Q (fr N f) w := by
 refine wp_seq (wp_mono (cx_sound a h hok) ?_)
 intro e a w hq
 cases e <;> simp only [cont, Exit.then] at hq ⊢
 case normal => obtain ⟨f, rfl, hf⟩ := hq; exact hf
 case exit => obtain ⟨f, _, hf⟩ := hq; exact hf.elim
 case ret => obtain ⟨f, _, hf⟩ := hq; exact hf.elim
theorem RL_wpRest {P : Program} {N : Nat} {ops : Array Oper} {K : F → World → Prop} {Q : Exit → Act → World → Prop} {rest : List Oper} (hall : ∀ o ∈ ops, operOk N o = true) (hQ : ∀ f w, K f w → wpList P ops Q rest (fr N f) w) :
  ∀ (l : List Oper) (f : F) (w : World), (∀ o ∈ l, operOk N o = true) → RL false P ops K l f w → wpList P ops Q (l ++ rest) (fr N f) w
 | [], f, w, _, h => hQ f w h
 | o :: l, f, w, hl, h => by
  have ho := hl o (List.mem_cons_self ..)
  have hl' : ∀ o ∈ l, operOk N o = true := fun o' h' => hl o' (List.mem_cons_of_mem _ h')
  have h' := guK_wanted hall h
  rw [List.cons_append]
  unfold wpList
  by_cases hw : Region.wanted o (yielded ops (fr N f).tmps) = true
  ·rw [if_pos hw] at h' ⊢
   left
   unfold Oper.wp
   rw [exec_fr ho]
   cases hp : pv P f o.op with
   | some v =>
    rw [hp] at h'
    rw [pv_run hp]
    show wpList P ops Q (l ++ rest) ((fr N f).put o.dst v) w
    rw [put_fr' ho]
    exact RL_wpRest hall hQ l _ _ hl' h'
   | none =>
    rw [hp] at h'
    refine OW_upon (k := fun v w' => RL false P ops K l (updO f o.dst v) w') (fun v w' hk => ?_) h'
    rw [put_fr' ho]
    exact RL_wpRest hall hQ l _ _ hl' hk
  ·rw [if_neg hw] at h' ⊢
   rw [put_fr' ho]
   exact RL_wpRest hall hQ l _ _ hl' h'
theorem wp_panics {P : Program} {N id : Nat} {l : List Oper} {o : Oper} {x : Operand} {Q : Exit → Act → World → Prop} {f : F} {w : World} (hop : o.op = .panic x) (hg : o.guard = none) (hok : codeOk N (.region id (l ++ [o]).toArray false) = true)
  (h : RL false P (l ++ [o]).toArray (fun f' w' => ∃ T v, ev f' x = .iface T v ∧ Q (.panic [{ v := .iface T v, recovered := false }]) (fr N f') w') l f w) : (Code.region id (l ++ [o]).toArray false).wp P Q (fr N f) w := by
 have hall : ∀ o' ∈ (l ++ [o]).toArray, operOk N o' = true := Array.all_eq_true_iff_forall_mem.1 hok
 refine wp_region_list ?_
 refine RL_wpRest hall ?_ l f w (fun o' ho => hall o' (by simp [ho])) h
 rintro f' w' ⟨T, v, hx, hQ⟩
 have ho := hall o sm
 unfold wpList
 rw [if_pos (by simp [Region.wanted, hg])]
 left
 unfold Oper.wp
 rw [exec_fr ho]
 have : (execOp (ev f') o).run P w' = .halt (.panic (.iface T v)) w' := by
  have hp : (Instr.panic (.iface T v)).run P w' = .halt (.panic (.iface T v)) w' := rfl
  simp [execOp, hop, hx, hp]
 rw [this]
 exact hQ
theorem enterW {P : Program} {g : FuncId} {fn : Func} {c : Code} {args : Array Value} {w : World} {R : Ending → World → Prop} (hf : P.funcs[g]? = some fn) (hb : fn.body = some c) (hargs : args.size ≤ fn.ntmps)
  (h : ∀ f : F, (∀ i, i < args.size → args[i]? = some (f i)) → c.wp P (bodyPost P fn R) (fr fn.ntmps f) w) : Calls P g args w R := by
 refine calls_of_wp hf hb ?_
 let f : F := fun i => (args[i]?).getD undef
 have hfr : ({ tmps := args ++ Array.replicate (fn.ntmps - args.size) undef, defers := [] } : Act) = fr fn.ntmps f := by
  unfold fr
  congr 1
  apply Array.ext
  ·simp; omega
  ·intro i h1 h2
   simp only [Array.getElem_ofFn, f]
   by_cases hi : i < args.size
   ·rw [Array.getElem_append_left hi, Array.getElem?_eq_getElem hi]; rfl
   ·rw [Array.getElem_append_right om, Array.getElem?_eq_none om]; simp
 rw [hfr]
 exact h f fun i hi => by simp only [f]; rw [Array.getElem?_eq_getElem hi]; rfl
end Go.SW
namespace Go.Proofs.YtcbmhjndbpafbaaGreatDoor
open Go.RowKit Go.SW
def ordG (i : Nat) : Nat := ([119, 120, 121, 122, 123, 124, 125, 126, 127, 128, 129, 130, 131] : List Nat).getD i 0
theorem sameNow_bs (a b : List UInt8) : Instr.sameNow .string (.string (bs a)) (.string (bs b)) = some (a == b) := by
 have : (bs a == bs b) = (a.toArray == b.toArray) := rfl
 simp [Instr.sameNow, this]
theorem find_ord (word : List UInt8) : Instr.findNow .string (.string (bs word)) ordL.toList 0 = some ((ordX word).map fun i => (i, .agg #[.int .i64 (cntX i : Nat), .func (.func (ordG i)) #[] #[]])) := by
 by_cases h : word ∈ ordW.map Prod.fst
 ·simp only [ordW, List.map_cons, List.map_nil, List.mem_cons, List.not_mem_nil, or_false] at h
  rcases h with rfl | rfl | rfl | rfl | rfl | rfl | rfl | rfl | rfl | rfl | rfl | rfl | rfl <;> kernel_rfl
 ·have h2 : ∀ p ∈ ordW, (p.1 == word) = false := fun p hp => by
   rw [beq_eq_false_iff_ne]
   exact fun e => h (List.mem_map.2 ⟨p, hp, e⟩)
  have h3 : ordX word = none := by
   rw [ordX, List.findIdx?_eq_none_iff]
   exact h2
  have h4 : ∀ p, p ∈ ordW.map Prod.fst → (word == p) = false := fun p hp => by
   rw [beq_eq_false_iff_ne]
   exact fun e => h (e ▸ hp)
  rw [h3]
  simp only [ordW, List.map_cons, List.map_nil, List.mem_cons, List.not_mem_nil, or_false, forall_eq_or_imp, forall_eq] at h4
  simp only [ordL, ord, Instr.findNow, sameNow_bs, h4, Option.map_none]
theorem becomeNo_c (d : Nat) (v : Value) (w : World) : Ret Tryz.prog 92 #[.pointer (some ⟨d, 0, none⟩), v, .bool false] w fun v w' => v = .tuple #[.string (bs []), .bool false] ∧ w' = w := by
 refine enter3 Tryz.func92 rfl fun f a0 a1 a2 => ?_
 simp (disch := omega) only [go_sem, a0, a1, a2, Tryz.results92]
 exact ⟨by first | rfl | trivial, by first | rfl | trivial⟩
theorem obeyW_c (d : Nat) (l word : List UInt8) (ws : List (List UInt8)) (i : Nat) (w : World) (R : Value → World → World → Prop) (hl : l.length ≤ 1000) (hg : Lib.hasPrefix l grd = false) (hs : spl 32 l = word :: ws)
  (hl3 : ws.length ≤ 4) (hx : ordX word = some i) (hcx : cntX i = ws.length) (hgo : goB Tryz.prog (ordG i) = true)
  (hcall : ∀ W nb, Ext w W → Blk W nb (vi ((ws.map numV).map Int.ofNat)).toArray 3 → Ret Tryz.prog (ordG i) #[.pointer (some ⟨d, 0, none⟩), .slice (some ⟨nb, 0, none⟩) ws.length ws.length] W fun v W' => ∃ s b, v = .tuple #[.string s, .bool b] ∧ R v W W') :
  Ret Tryz.prog 65 #[.pointer (some ⟨d, 0, none⟩), .string (bs l)] w fun v w' => ∃ W, Ext w W ∧ R v W w' := by
 have hsl : (spl 32 l).length = ws.length + 1 := by rw [hs]; simp
 have hf := find_ord word
 rw [hx, Option.map_some, hcx] at hf
 have hwl : ∀ t ∈ ws, t.length ≤ 1000 := fun t ht => by
  have := spl_mem_len (c := 32) (s := l) (l := t) (by rw [hs]; simp [ht])
  omega
 generalize hgi : ordG i = g at *
 generalize hnums : ws.map numV = nums at *
 have hnl : ws.length = nums.length := by rw [← hnums]; simp
 have hnv : ∀ k, k < nums.length → numV (ws.getD k []) = nums.getD k 0 := fun k hk => by
  have : k < ws.length := om
  rw [← hnums]; simp [this]
 rw [hnl] at hf hsl hcall hl3
 refine enter2 Tryz.func65 rfl fun f a0 a1 => ?_
 simp (disch := omega) only [go_sem, a1]
 refine callK_pure ke (cutPrefix_c l grd _) fun w1 x1 => ?_
 rw [hg]
 simp (disch := omega) only [go_sem, a1]
 refine callK_of ke (split_c l 32 _ om) ?_
 rintro _ w3 ⟨sb, rfl, x3, esb, ks⟩
 rw [hsl]
 rw [hs] at ks
 have x13 := x1.trans x3
 have ex : Ext w3 w3 := Ext.refl _
 have lsb := ks.lt
 have hne : (((nums.length + 1 : Nat) : Int) != ((nums.length : Nat) : Int) + 1) = false := by rw [bne_eq_false_iff_eq]; omega
 have hwk : ∀ {W : World} {k : Nat}, k < nums.length → Ext w3 W → W.cell? ⟨sb, k + 1, none⟩ = some (.string (bs (ws.getD k []))) := fun {W k} hk x => by
  rw [vst_cell (ks.ext x) (i := k + 1) sq]
  simp
 have hw0 : ∀ {W : World}, Ext w3 W → W.cell? ⟨sb, 0, none⟩ = some (.string (bs word)) := fun x => vst_cell (ks.ext x) (i := 0) sm
 simp (disch := omega) only [go_sem]
 refine Go.SWP.QR_sch (fun k => w3.heap.size ≤ k) (.st 1 (.st 2 (.st 3 (.alt (.ef 0 (.alt (.ef 4 (.st 5 (.st 6 (.st 7 (.ef 8 (.ef 9 (.st 10 (.done)))))))) (.ef 8 (.ef 4 (.st 5 (.st 6 (.st 7 (.ef 9 (.st 10 (.done)))))))))) (.ef 8 (.ef 0 (.ef 4 (.st 5 (.st 6 (.st 7 (.ef 9 (.st 10 (.done))))))))))))) ke ke fun w0 x0 => ?_
 have sz := x0.size
 have X := ex.trans x0
 simp (disch := omega) only [go_sem, hw0 x0]
 refine Go.SWP.RLT_alt ?_ ?_
 ·simp (disch := omega) only [go_sem, hw0 x0]
  refine callK_of ke (orders_c _) ?_
  rintro _ w4 ⟨mb, rfl, y1, hm⟩
  have x0 := x0.trans y1
  refine Go.SWP.nxE_of (y1.growP _) ?_
  have sz := y1.size
  have X := X.trans y1
  simp (disch := omega) only [go_sem, hw0 x0]
  refine Go.SWP.RLT_alt ?_ ?_
  ·simp (disch := omega) only [go_sem, hw0 x0]
   refine lkK_some key_or hm hf ?_
   refine Go.SWP.nxE_of (GrowP.refl _ _) ?_
   simp (disch := omega) only [go_sem, hw0 x0]
   refine allocK_of zero_or fun w4 qb eq y1 kq _ => ?_
   have x0 := x0.trans y1
   refine Go.SWP.nxE_of (y1.growP _) ?_
   have sz := y1.size
   have X := X.trans y1
   have hm := hm.ext y1
   simp (disch := omega) only [go_sem, hw0 x0]
   refine stK_agg siz_or sm oi kq sm fun w4 kq g1 => ?_
   refine Go.SWP.nxE_of (g1.grow.growP fun x e => by cases e; omega) ?_
   have X := g1.ext X om
   simp (disch := omega) only [go_sem, kq.cell, hne]
   refine mksK_of elt_i nums.length nums.length _ _ _ _ rfl rfl (Nat.le_refl _) om (by simp [maxLen]; omega) fun w5 nb e5 x5 o5 _ => ?_
   have sX := X.size
   have lq := kq.lt
   simp (disch := omega) only [go_sem]
   refine loopN nums.length (fun k f W => f 0 = .pointer (some ⟨d, 0, none⟩) ∧ f 8 = .slice (some ⟨sb, 0, none⟩) (nums.length + 1) (nums.length + 1) ∧ f 9 = .pointer (some ⟨qb, 0, none⟩) ∧ f 11 = .slice (some ⟨nb, 0, none⟩) nums.length nums.length ∧ f 53 = .int .i64 nums.length ∧ f 54 = .int .i64 k ∧ Ext w3 W ∧ Blk W qb #[.int .i64 nums.length, .func (.func g) #[] #[]] 130 ∧ ∃ ys, OwnS W 3 1 (some ⟨nb, 0, none⟩) nums.length nums.length ys ∧ ∀ j, j < k → ys[j]? = some (.int .i64 (nums.getD j 0 : Nat))) ⟨uu, uu, uu, uu, uu, uu, X.trans x5, kq.ext x5, _, o5, fun j hj => om⟩ fun k f W hk ⟨a0, a8, a9, a11, a53, a54, xw, kq, ys, oy, hy⟩ => ?_
   by_cases hlt : (k : Int) < (nums.length : Int)
   ·have hkn : k < nums.length := om
    have ek : (k : Int) + 1 = ((k + 1 : Nat) : Int) := om
    have hcw := hwk hkn xw
    have hnk := hnv k hkn
    simp (disch := omega) only [go_sem, a8, a11, a53, a54, hlt, ek, hcw]
    refine callK_pure ke (numberOfAny_c (ws.getD k []) _ (by have := hwl _ (getD_mem (d := []) (show k < ws.length from om)); omega)) fun w6 x6 => ?_
    rw [hnk]
    simp (disch := omega) only [go_sem]
    refine stK_own siz_int rf rf (oy.ext x6) om fun w7 o7 g7 => ?_
    simp (disch := omega) only [go_sem, a54, ek]
    exact ⟨om, uu, uu, uu, uu, uu, uu, g7.ext (xw.trans x6) om, g7.blk (kq.ext x6) om, _, o7, set_get (fun j => .int .i64 (nums.getD j 0 : Nat)) (by rw [oy.1]; omega) rfl hy⟩
   ·obtain rfl : k = nums.length := om
    obtain ⟨cs, kb, hcs, hcl⟩ := oy.toBlk
    have ev : ys = vi (nums.map Int.ofNat) := vi_ext (by rw [oy.1, List.length_map]; omega) fun j hj => by rw [hy j (by simpa using hj)]; simp [show j < nums.length by simpa using hj]
    have kb' : Blk W nb (vi (nums.map Int.ofNat)).toArray 3 := by rw [← ev, ← hcl]; exact kb
    simp (disch := omega) only [go_sem, a0, a9, a11, a53, a54, hlt, kq.cell]
    refine callK_of hgo (hcall W nb (x13.trans xw) kb') ?_
    rintro _ w8 ⟨s, b, rfl, hR⟩
    simp (disch := omega) only [go_sem, Tryz.results65]
    exact ⟨W, x13.trans xw, hR⟩
  ·simp (disch := omega) only [go_sem, hw0 x0]
   refine allocK_of zero_or fun w4 qb eq y1 kq _ => ?_
   have x0 := x0.trans y1
   refine Go.SWP.nxE_of (y1.growP _) ?_
   have sz := y1.size
   have X := X.trans y1
   have hm := hm.ext y1
   simp (disch := omega) only [go_sem, hw0 x0]
   refine lkK_some key_or hm hf ?_
   refine Go.SWP.nxE_of (GrowP.refl _ _) ?_
   simp (disch := omega) only [go_sem, hw0 x0]
   refine stK_agg siz_or sm oi kq sm fun w4 kq g1 => ?_
   refine Go.SWP.nxE_of (g1.grow.growP fun x e => by cases e; omega) ?_
   have X := g1.ext X om
   simp (disch := omega) only [go_sem, kq.cell, hne]
   refine mksK_of elt_i nums.length nums.length _ _ _ _ rfl rfl (Nat.le_refl _) om (by simp [maxLen]; omega) fun w5 nb e5 x5 o5 _ => ?_
   have sX := X.size
   have lq := kq.lt
   simp (disch := omega) only [go_sem]
   refine loopN nums.length (fun k f W => f 0 = .pointer (some ⟨d, 0, none⟩) ∧ f 8 = .slice (some ⟨sb, 0, none⟩) (nums.length + 1) (nums.length + 1) ∧ f 9 = .pointer (some ⟨qb, 0, none⟩) ∧ f 11 = .slice (some ⟨nb, 0, none⟩) nums.length nums.length ∧ f 53 = .int .i64 nums.length ∧ f 54 = .int .i64 k ∧ Ext w3 W ∧ Blk W qb #[.int .i64 nums.length, .func (.func g) #[] #[]] 130 ∧ ∃ ys, OwnS W 3 1 (some ⟨nb, 0, none⟩) nums.length nums.length ys ∧ ∀ j, j < k → ys[j]? = some (.int .i64 (nums.getD j 0 : Nat))) ⟨uu, uu, uu, uu, uu, uu, X.trans x5, kq.ext x5, _, o5, fun j hj => om⟩ fun k f W hk ⟨a0, a8, a9, a11, a53, a54, xw, kq, ys, oy, hy⟩ => ?_
   by_cases hlt : (k : Int) < (nums.length : Int)
   ·have hkn : k < nums.length := om
    have ek : (k : Int) + 1 = ((k + 1 : Nat) : Int) := om
    have hcw := hwk hkn xw
    have hnk := hnv k hkn
    simp (disch := omega) only [go_sem, a8, a11, a53, a54, hlt, ek, hcw]
    refine callK_pure ke (numberOfAny_c (ws.getD k []) _ (by have := hwl _ (getD_mem (d := []) (show k < ws.length from om)); omega)) fun w6 x6 => ?_
    rw [hnk]
    simp (disch := omega) only [go_sem]
    refine stK_own siz_int rf rf (oy.ext x6) om fun w7 o7 g7 => ?_
    simp (disch := omega) only [go_sem, a54, ek]
    exact ⟨om, uu, uu, uu, uu, uu, uu, g7.ext (xw.trans x6) om, g7.blk (kq.ext x6) om, _, o7, set_get (fun j => .int .i64 (nums.getD j 0 : Nat)) (by rw [oy.1]; omega) rfl hy⟩
   ·obtain rfl : k = nums.length := om
    obtain ⟨cs, kb, hcs, hcl⟩ := oy.toBlk
    have ev : ys = vi (nums.map Int.ofNat) := vi_ext (by rw [oy.1, List.length_map]; omega) fun j hj => by rw [hy j (by simpa using hj)]; simp [show j < nums.length by simpa using hj]
    have kb' : Blk W nb (vi (nums.map Int.ofNat)).toArray 3 := by rw [← ev, ← hcl]; exact kb
    simp (disch := omega) only [go_sem, a0, a9, a11, a53, a54, hlt, kq.cell]
    refine callK_of hgo (hcall W nb (x13.trans xw) kb') ?_
    rintro _ w8 ⟨s, b, rfl, hR⟩
    simp (disch := omega) only [go_sem, Tryz.results65]
    exact ⟨W, x13.trans xw, hR⟩
 ·simp (disch := omega) only [go_sem, hw0 x0]
  refine allocK_of zero_or fun w4 qb eq y1 kq _ => ?_
  have x0 := x0.trans y1
  refine Go.SWP.nxE_of (y1.growP _) ?_
  have sz := y1.size
  have X := X.trans y1
  simp (disch := omega) only [go_sem, hw0 x0]
  refine callK_of ke (orders_c _) ?_
  rintro _ w4 ⟨mb, rfl, y1, hm⟩
  have x0 := x0.trans y1
  refine Go.SWP.nxE_of (y1.growP _) ?_
  have sz := y1.size
  have X := X.trans y1
  have kq := kq.ext y1
  simp (disch := omega) only [go_sem, hw0 x0]
  refine lkK_some key_or hm hf ?_
  refine Go.SWP.nxE_of (GrowP.refl _ _) ?_
  simp (disch := omega) only [go_sem, hw0 x0]
  refine stK_agg siz_or sm oi kq sm fun w4 kq g1 => ?_
  refine Go.SWP.nxE_of (g1.grow.growP fun x e => by cases e; omega) ?_
  have X := g1.ext X om
  simp (disch := omega) only [go_sem, kq.cell, hne]
  refine mksK_of elt_i nums.length nums.length _ _ _ _ rfl rfl (Nat.le_refl _) om (by simp [maxLen]; omega) fun w5 nb e5 x5 o5 _ => ?_
  have sX := X.size
  have lq := kq.lt
  simp (disch := omega) only [go_sem]
  refine loopN nums.length (fun k f W => f 0 = .pointer (some ⟨d, 0, none⟩) ∧ f 8 = .slice (some ⟨sb, 0, none⟩) (nums.length + 1) (nums.length + 1) ∧ f 9 = .pointer (some ⟨qb, 0, none⟩) ∧ f 11 = .slice (some ⟨nb, 0, none⟩) nums.length nums.length ∧ f 53 = .int .i64 nums.length ∧ f 54 = .int .i64 k ∧ Ext w3 W ∧ Blk W qb #[.int .i64 nums.length, .func (.func g) #[] #[]] 130 ∧ ∃ ys, OwnS W 3 1 (some ⟨nb, 0, none⟩) nums.length nums.length ys ∧ ∀ j, j < k → ys[j]? = some (.int .i64 (nums.getD j 0 : Nat))) ⟨uu, uu, uu, uu, uu, uu, X.trans x5, kq.ext x5, _, o5, fun j hj => om⟩ fun k f W hk ⟨a0, a8, a9, a11, a53, a54, xw, kq, ys, oy, hy⟩ => ?_
  by_cases hlt : (k : Int) < (nums.length : Int)
  ·have hkn : k < nums.length := om
   have ek : (k : Int) + 1 = ((k + 1 : Nat) : Int) := om
   have hcw := hwk hkn xw
   have hnk := hnv k hkn
   simp (disch := omega) only [go_sem, a8, a11, a53, a54, hlt, ek, hcw]
   refine callK_pure ke (numberOfAny_c (ws.getD k []) _ (by have := hwl _ (getD_mem (d := []) (show k < ws.length from om)); omega)) fun w6 x6 => ?_
   rw [hnk]
   simp (disch := omega) only [go_sem]
   refine stK_own siz_int rf rf (oy.ext x6) om fun w7 o7 g7 => ?_
   simp (disch := omega) only [go_sem, a54, ek]
   exact ⟨om, uu, uu, uu, uu, uu, uu, g7.ext (xw.trans x6) om, g7.blk (kq.ext x6) om, _, o7, set_get (fun j => .int .i64 (nums.getD j 0 : Nat)) (by rw [oy.1]; omega) rfl hy⟩
  ·obtain rfl : k = nums.length := om
   obtain ⟨cs, kb, hcs, hcl⟩ := oy.toBlk
   have ev : ys = vi (nums.map Int.ofNat) := vi_ext (by rw [oy.1, List.length_map]; omega) fun j hj => by rw [hy j (by simpa using hj)]; simp [show j < nums.length by simpa using hj]
   have kb' : Blk W nb (vi (nums.map Int.ofNat)).toArray 3 := by rw [← ev, ← hcl]; exact kb
   simp (disch := omega) only [go_sem, a0, a9, a11, a53, a54, hlt, kq.cell]
   refine callK_of hgo (hcall W nb (x13.trans xw) kb') ?_
   rintro _ w8 ⟨s, b, rfl, hR⟩
   simp (disch := omega) only [go_sem, Tryz.results65]
   exact ⟨W, x13.trans xw, hR⟩
theorem obeyGridL_c (d : Nat) (k : Dk) (l : List UInt8) (X : Nat → Prop) (w : World) (hd : DeskL w 51 d k X) (hX : ∀ x, X x → x < w.heap.size) (hl : l.length ≤ 1000) (hg : Lib.hasPrefix l grd = true) :
  Ret Tryz.prog 65 #[.pointer (some ⟨d, 0, none⟩), .string (bs l)] w fun v w' => (∃ s, v = .tuple #[.string (bs s), .bool (gfrom (Lib.trimPrefix l grd)).isSome] ∧ (lineF k l).2 = if (gfrom (Lib.trimPrefix l grd)).isSome then s else noT) ∧ Grow (some d) w w' ∧ DeskL w' 51 d (lineF k l).1 X := by
 obtain ⟨a, A, Cp, gc, la, lc, kd, r, ll, hlc, h1, h2, h3⟩ := hd.ex
 have hlt : (Lib.trimPrefix l grd).length ≤ 1000 := by simp only [Lib.trimPrefix, hg, if_true, List.length_drop]; omega
 have hline : lineF k l = becomeF k (gfrom (Lib.trimPrefix l grd)) := by rw [lineF, if_pos hg]
 have ld := kd.lt
 refine enter2 Tryz.func65 rfl fun f a0 a1 => ?_
 simp (disch := omega) only [go_sem, a1]
 refine callK_pure ke (cutPrefix_c _ grd _) fun w1 x1 => ?_
 rw [hg]
 generalize Lib.trimPrefix l grd = t at *
 have s1 := x1.size
 simp (disch := omega) only [go_sem, a0]
 cases hgf : gfrom t with
 | none =>
  refine callK_pure ke (implGridFromNo_c t hlt hgf _) fun w2 x2 => ?_
  simp (disch := omega) only [go_sem, a0]
  refine callK_of ke (becomeNo_c d _ _) ?_
  rintro _ w3 ⟨rfl, rfl⟩
  simp (disch := omega) only [go_sem, Tryz.results65]
  exact ⟨⟨_, rfl, by rw [hline, hgf]; rfl⟩, (x1.trans x2).grow _, by rw [hline, hgf]; exact hd.ext (x1.trans x2)⟩
 | some rows =>
  obtain ⟨v, ht, -⟩ := gfrom_some hgf
  subst ht
  refine callK_of ke (implGridFrom_c rows ((gvalid_iff rows).2 v) _) ?_
  rintro _ w2 ⟨b, A', rfl, x2, or⟩
  simp (disch := omega) only [go_sem, a0]
  refine callK_of ke (become_c d _ _ _ _ _ _ ((kd.ext x1).ext x2)) ?_
  rintro _ w3 ⟨rfl, g3, k3⟩
  have x12 := x1.trans x2
  simp (disch := omega) only [go_sem, Tryz.results65]
  refine ⟨⟨_, rfl, by rw [hline, hgf]; rfl⟩, (x12.grow _).trans g3.grow, ?_⟩
  rw [hline, hgf]
  exact DeskL.rows v or g3 k3 (fun x hx => by have := hX x hx; omega) om x2.size (ll.ext x12) hlc fun b hb => by
   obtain ⟨p, q, z⟩ := h3 b hb
   exact ⟨p, q, om⟩
theorem bld_mf : buildV Tryz.prog 100 [] = some (.agg #[]) := ke
theorem und_mf : Tryz.prog.underlying 100 = some (.struct #[]) := ke
theorem pv_mkI {f : F} (T : TypeId) (x : Operand) : pv Tryz.prog f (.makeInterface T x) = none := rfl
theorem mkI_mf {f : F} {k : Value → World → Prop} {w : World} {d : Option Tmp} {ty : TypeId} {pos : String} {aft : Array Edge} {g : Option (Nat × Bool)} (x : Operand) : OW false Tryz.prog ⟨d, .makeInterface 100 x, ty, pos, aft, g⟩ f k w = k (.iface 100 (ev f x)) w := by
 have h : (execOp (ev f) ⟨d, .makeInterface 100 x, ty, pos, aft, g⟩).run Tryz.prog w = .ok (.value (.iface 100 (ev f x))) w := by
  simp [execOp, Instr.makeInterface, run_underlying_some und_mf]
 simp only [OW, genK, h, Bool.false_eq_true, if_false]
theorem obeyP_c (d : Nat) (l word : List UInt8) (ws : List (List UInt8)) (w : World) (hl : l.length ≤ 1000) (hg : Lib.hasPrefix l grd = false) (hs : spl 32 l = word :: ws) (hbad : ∀ i, ordX word = some i → cntX i ≠ ws.length) :
  Calls Tryz.prog 65 #[.pointer (some ⟨d, 0, none⟩), .string (bs l)] w fun e w' => e = .panicked [{ v := .iface 100 (.agg #[]), recovered := false }] ∧ Ext w w' := by
 have hsl : (spl 32 l).length = ws.length + 1 := by rw [hs]; simp
 refine enterW Tryz.func65 rfl df fun f hfa => ?_
 have a0 : f 0 = .pointer (some ⟨d, 0, none⟩) := by simpa using (hfa 0 sm).symm
 have a1 : f 1 = .string (bs l) := by simpa using (hfa 1 sm).symm
 refine cx_cut ke ?_
 simp (disch := omega) only [go_sem]
 refine cx_cut ke ?_
 simp (disch := omega) only [go_sem, a1]
 refine callK_pure ke (cutPrefix_c l grd _) fun w1 x1 => ?_
 rw [hg]
 simp (disch := omega) only [go_sem, a1]
 refine cx_cut ke ?_
 simp (disch := omega) only [go_sem, a1]
 refine callK_of ke (split_c l 32 _ om) ?_
 rintro _ w3 ⟨sb, rfl, x3, esb, ks⟩
 rw [hsl]
 rw [hs] at ks
 have x13 := x1.trans x3
 have ex : Ext w3 w3 := Ext.refl _
 have lsb := ks.lt
 have hw0 : ∀ {W : World}, Ext w3 W → W.cell? ⟨sb, 0, none⟩ = some (.string (bs word)) := fun x => vst_cell (ks.ext x) (i := 0) sm
 have hf := find_ord word
 simp (disch := omega) only [go_sem]
 refine cx_cut ke ?_
 cases hx : ordX word with
 | none =>
  rw [hx, Option.map_none] at hf
  have hz : ∀ w, (zeroValue 130).run Tryz.prog w = .ok (.agg #[.int .i64 0, .nilFunc]) w := fun w => by rfl
  simp (disch := omega) only [go_sem]
  refine QR_cut (fun f V => f 10 = .bool false ∧ Ext w3 V) (fun f V ⟨a10, xV⟩ => ?_) ?_
  rotate_left
  ·skip
   refine Go.SWP.QR_sch (fun k => w3.heap.size ≤ k) (.st 1 (.st 2 (.st 3 (.alt (.ef 0 (.alt (.ef 4 (.st 5 (.st 6 (.st 7 (.ef 8 (.ef 9 (.st 10 (.done)))))))) (.ef 8 (.ef 4 (.st 5 (.st 6 (.st 7 (.ef 9 (.st 10 (.done)))))))))) (.ef 8 (.ef 0 (.ef 4 (.st 5 (.st 6 (.st 7 (.ef 9 (.st 10 (.done))))))))))))) ke ke fun w0 x0 => ?_
   have sz := x0.size
   have X := ex.trans x0
   simp (disch := omega) only [go_sem, hw0 x0]
   refine Go.SWP.RLT_alt ?_ ?_
   ·simp (disch := omega) only [go_sem, hw0 x0]
    refine callK_of ke (orders_c _) ?_
    rintro _ w4 ⟨mb, rfl, y1, hm⟩
    have x0 := x0.trans y1
    refine Go.SWP.nxE_of (y1.growP _) ?_
    have sz := y1.size
    have X := X.trans y1
    simp (disch := omega) only [go_sem, hw0 x0]
    refine Go.SWP.RLT_alt ?_ ?_
    ·simp (disch := omega) only [go_sem, hw0 x0]
     refine lkK_none key_or hz hm hf true ?_
     refine Go.SWP.nxE_of (GrowP.refl _ _) ?_
     simp (disch := omega) only [go_sem, hw0 x0]
     refine allocK_of zero_or fun w4 qb eq y1 kq _ => ?_
     have x0 := x0.trans y1
     refine Go.SWP.nxE_of (y1.growP _) ?_
     have sz := y1.size
     have X := X.trans y1
     have hm := hm.ext y1
     simp (disch := omega) only [go_sem, hw0 x0]
     refine stK_agg siz_or sm oi kq sm fun w4 kq g1 => ?_
     refine Go.SWP.nxE_of (g1.grow.growP fun x e => by cases e; omega) ?_
     have X := g1.ext X om
     simp (disch := omega) only [go_sem]
     exact ⟨uu, X⟩
    ·simp (disch := omega) only [go_sem, hw0 x0]
     refine allocK_of zero_or fun w4 qb eq y1 kq _ => ?_
     have x0 := x0.trans y1
     refine Go.SWP.nxE_of (y1.growP _) ?_
     have sz := y1.size
     have X := X.trans y1
     have hm := hm.ext y1
     simp (disch := omega) only [go_sem, hw0 x0]
     refine lkK_none key_or hz hm hf true ?_
     refine Go.SWP.nxE_of (GrowP.refl _ _) ?_
     simp (disch := omega) only [go_sem, hw0 x0]
     refine stK_agg siz_or sm oi kq sm fun w4 kq g1 => ?_
     refine Go.SWP.nxE_of (g1.grow.growP fun x e => by cases e; omega) ?_
     have X := g1.ext X om
     simp (disch := omega) only [go_sem]
     exact ⟨uu, X⟩
   ·simp (disch := omega) only [go_sem, hw0 x0]
    refine allocK_of zero_or fun w4 qb eq y1 kq _ => ?_
    have x0 := x0.trans y1
    refine Go.SWP.nxE_of (y1.growP _) ?_
    have sz := y1.size
    have X := X.trans y1
    simp (disch := omega) only [go_sem, hw0 x0]
    refine callK_of ke (orders_c _) ?_
    rintro _ w4 ⟨mb, rfl, y1, hm⟩
    have x0 := x0.trans y1
    refine Go.SWP.nxE_of (y1.growP _) ?_
    have sz := y1.size
    have X := X.trans y1
    have kq := kq.ext y1
    simp (disch := omega) only [go_sem, hw0 x0]
    refine lkK_none key_or hz hm hf true ?_
    refine Go.SWP.nxE_of (GrowP.refl _ _) ?_
    simp (disch := omega) only [go_sem, hw0 x0]
    refine stK_agg siz_or sm oi kq sm fun w4 kq g1 => ?_
    refine Go.SWP.nxE_of (g1.grow.growP fun x e => by cases e; omega) ?_
    have X := g1.ext X om
    simp (disch := omega) only [go_sem]
    exact ⟨uu, X⟩
  refine wp_seq ?_
  refine cx_cut ke ?_
  simp (disch := omega) only [go_sem, a10]
  refine wp_cond (t := true) (by rw [eval_fr _ _ _ ke]; simp [ev, upd_apply]) ?_
  simp only [if_true]
  refine wp_panics (l := [_, _]) rfl rfl ke ?_
  simp (disch := omega) only [go_sem, bld_mf, pv_mkI, mkI_mf]
  exact ⟨_, _, rfl, rfl, rfl, x13.trans xV⟩
 | some i =>
  have hbi := hbad i hx
  rw [hx, Option.map_some] at hf
  have hci : cntX i ≤ 4 := by
   have : ∀ p ∈ ordW, p.2 ≤ 4 := by decide
   unfold cntX
   by_cases h : i < ordW.length
   ·rw [getD_at _ _ h]; exact this _ (List.getElem_mem h)
   ·rw [List.getD_eq_getElem?_getD, List.getElem?_eq_none om]; simp
  have hne : (((ws.length + 1 : Nat) : Int) != ((cntX i : Nat) : Int) + 1) = true := by rw [bne_iff_ne]; omega
  generalize cntX i = ci at *
  generalize ordG i = g at *
  simp (disch := omega) only [go_sem]
  refine QR_cut (fun f V => f 8 = .slice (some ⟨sb, 0, none⟩) (ws.length + 1) (ws.length + 1) ∧ f 10 = .bool true ∧ Ext w3 V ∧ ∃ qb, f 9 = .pointer (some ⟨qb, 0, none⟩) ∧ Blk V qb #[.int .i64 ci, .func (.func g) #[] #[]] 130) (fun f V ⟨a8, a10, xV, qb, a9, kq⟩ => ?_) ?_
  rotate_left
  ·skip
   refine Go.SWP.QR_sch (fun k => w3.heap.size ≤ k) (.st 1 (.st 2 (.st 3 (.alt (.ef 0 (.alt (.ef 4 (.st 5 (.st 6 (.st 7 (.ef 8 (.ef 9 (.st 10 (.done)))))))) (.ef 8 (.ef 4 (.st 5 (.st 6 (.st 7 (.ef 9 (.st 10 (.done)))))))))) (.ef 8 (.ef 0 (.ef 4 (.st 5 (.st 6 (.st 7 (.ef 9 (.st 10 (.done))))))))))))) ke ke fun w0 x0 => ?_
   have sz := x0.size
   have X := ex.trans x0
   simp (disch := omega) only [go_sem, hw0 x0]
   refine Go.SWP.RLT_alt ?_ ?_
   ·simp (disch := omega) only [go_sem, hw0 x0]
    refine callK_of ke (orders_c _) ?_
    rintro _ w4 ⟨mb, rfl, y1, hm⟩
    have x0 := x0.trans y1
    refine Go.SWP.nxE_of (y1.growP _) ?_
    have sz := y1.size
    have X := X.trans y1
    simp (disch := omega) only [go_sem, hw0 x0]
    refine Go.SWP.RLT_alt ?_ ?_
    ·simp (disch := omega) only [go_sem, hw0 x0]
     refine lkK_some key_or hm hf ?_
     refine Go.SWP.nxE_of (GrowP.refl _ _) ?_
     simp (disch := omega) only [go_sem, hw0 x0]
     refine allocK_of zero_or fun w4 qb eq y1 kq _ => ?_
     have x0 := x0.trans y1
     refine Go.SWP.nxE_of (y1.growP _) ?_
     have sz := y1.size
     have X := X.trans y1
     have hm := hm.ext y1
     simp (disch := omega) only [go_sem, hw0 x0]
     refine stK_agg siz_or sm oi kq sm fun w4 kq g1 => ?_
     refine Go.SWP.nxE_of (g1.grow.growP fun x e => by cases e; omega) ?_
     have X := g1.ext X om
     simp (disch := omega) only [go_sem]
     exact ⟨uu, uu, X, _, uu, kq⟩
    ·simp (disch := omega) only [go_sem, hw0 x0]
     refine allocK_of zero_or fun w4 qb eq y1 kq _ => ?_
     have x0 := x0.trans y1
     refine Go.SWP.nxE_of (y1.growP _) ?_
     have sz := y1.size
     have X := X.trans y1
     have hm := hm.ext y1
     simp (disch := omega) only [go_sem, hw0 x0]
     refine lkK_some key_or hm hf ?_
     refine Go.SWP.nxE_of (GrowP.refl _ _) ?_
     simp (disch := omega) only [go_sem, hw0 x0]
     refine stK_agg siz_or sm oi kq sm fun w4 kq g1 => ?_
     refine Go.SWP.nxE_of (g1.grow.growP fun x e => by cases e; omega) ?_
     have X := g1.ext X om
     simp (disch := omega) only [go_sem]
     exact ⟨uu, uu, X, _, uu, kq⟩
   ·simp (disch := omega) only [go_sem, hw0 x0]
    refine allocK_of zero_or fun w4 qb eq y1 kq _ => ?_
    have x0 := x0.trans y1
    refine Go.SWP.nxE_of (y1.growP _) ?_
    have sz := y1.size
    have X := X.trans y1
    simp (disch := omega) only [go_sem, hw0 x0]
    refine callK_of ke (orders_c _) ?_
    rintro _ w4 ⟨mb, rfl, y1, hm⟩
    have x0 := x0.trans y1
    refine Go.SWP.nxE_of (y1.growP _) ?_
    have sz := y1.size
    have X := X.trans y1
    have kq := kq.ext y1
    simp (disch := omega) only [go_sem, hw0 x0]
    refine lkK_some key_or hm hf ?_
    refine Go.SWP.nxE_of (GrowP.refl _ _) ?_
    simp (disch := omega) only [go_sem, hw0 x0]
    refine stK_agg siz_or sm oi kq sm fun w4 kq g1 => ?_
    refine Go.SWP.nxE_of (g1.grow.growP fun x e => by cases e; omega) ?_
    have X := g1.ext X om
    simp (disch := omega) only [go_sem]
    exact ⟨uu, uu, X, _, uu, kq⟩
  refine wp_seq ?_
  refine cx_cut ke ?_
  simp (disch := omega) only [go_sem, a8, a9, a10, kq.cell, hne]
  refine wp_cond (t := true) (by rw [eval_fr _ _ _ ke]; simp [ev, upd_apply]) ?_
  simp only [if_true]
  refine wp_panics (l := [_, _]) rfl rfl ke ?_
  simp (disch := omega) only [go_sem, bld_mf, pv_mkI, mkI_mf]
  exact ⟨_, _, rfl, rfl, rfl, x13.trans xV⟩
theorem answerCatch_c (b : Nat) (x : Value) (older : List PanicEntry) (w : World) (k : Blk w b #[x] 9) : CallsD Tryz.prog 64 #[.pointer (some ⟨b, 0, none⟩)] (.panicking ({ v := .iface 100 (.agg #[]), recovered := false } :: older)) w fun e u' w' =>
  e = .returned (.tuple #[]) ∧ u' = .panicking ({ v := .iface 100 (.agg #[]), recovered := true } :: older) ∧ ∃ W, Ext w W ∧ w' = W.setCell ⟨b, 0, none⟩ (.string (bs whT)) := by
 refine callsD_of_wpS Tryz.func64 rfl fun c₀ cs hu => ?_
 apply wpS_seq
 apply wpS_region
 simp [wpOpsS, go_sem, recoverD, hu, Tryz.ntmps64, Exit.thenS]
 apply wpS_seq
 apply wpS_region
 simp [wpOpsS, go_sem, Exit.thenS]
 refine wpS_cond (t := true) (by simp [Act.eval, Array.replicate]) ?_
 simp only [if_true]
 apply wpS_seq
 apply wpS_seq
 apply wpS_region
 simp [wpOpsS, go_sem, Exit.thenS, Instr.typeAssert, run_underlying_some und_mf]
 apply wpS_seq
 apply wpS_region
 simp [wpOpsS, go_sem, Exit.thenS]
 refine wpS_cond (t := false) (by simp [Act.eval, Array.replicate]) ?_
 simp only [Bool.false_eq_true, if_false]
 refine wpS_of_wp (wp_skip ?_)
 simp only [Exit.thenS]
 apply wpS_region
 have k2 := k.ext (ext_alloc w (.cells #[] 100))
 have hc : (w.alloc (.cells #[] 100)).cell? ⟨b, 0, none⟩ = some x := by rw [k2.cell]; rfl
 have hz := k2.frozen 0
 simp [wpOpsS, go_sem, bodyPostS, results, Tryz.results64, hc, hz]
 exact ⟨_, ext_alloc _ _, rfl⟩
theorem answerNo_c (d : Nat) (l : List UInt8) (w : World) (R : World → World → Prop) (hR : ∀ W, Ext w W → W.heap.size = w.heap.size + 1 → Ret Tryz.prog 65 #[.pointer (some ⟨d, 0, none⟩), .string (bs l)] W fun v w' => (∃ s, v = .tuple #[.string s, .bool false]) ∧ Grow (some d) W w' ∧ R W w') (hdw : d < w.heap.size) :
  Ret Tryz.prog 32 #[.pointer (some ⟨d, 0, none⟩), .string (bs l)] w fun v w' => v = .string (bs noT) ∧ ∃ W W', Ext w W ∧ Grow (some d) W W' ∧ R W W' ∧ Wrote w.heap.size W' w' := by
 have hmf : ∀ (fn : Fn) (first cap : Array Value) (w : World), (Instr.makeFunc fn first cap).run Tryz.prog w = .ok (.func fn first cap) w := fun _ _ _ _ => rfl
 unfold Ret
 go_enter_defers Tryz.func32, Tryz.ntmps32
 go_wp2_with (go_at_call 65; refine Calls.mono (hR _ (ext_alloc w _) sm) ?_; rintro e w2 ⟨v, rfl, ⟨s, rfl⟩, g, hr⟩; have k2 := g.blk (heap_alloc_new w (.cells #[.string (bs [])] 9) : Blk (w.alloc (.cells #[.string (bs [])] 9)) w.heap.size #[.string (bs [])] 9) sq; have hc : w2.cell? ⟨w.heap.size, 0, none⟩ = some (.string (bs [])) := (by rw [k2.cell]; rfl); have hz : w2.frozen? ⟨w.heap.size, 0, none⟩ = false := k2.frozen 0)
 have k3 := Blk.put k2 0 (.string (bs noT))
 have hc3 : (w2.setCell ⟨w.heap.size, 0, none⟩ (.string (bs noT))).cell? ⟨w.heap.size, 0, none⟩ = some (.string (bs noT)) := by rw [k3.cell]; rfl
 refine leaves_cons (f := 64) (args := #[.pointer (some ⟨w.heap.size, 0, none⟩)]) sm (by simp [go_sem]) ?_
 refine (answerIdle_c ⟨w.heap.size, 0, none⟩ _).mono ?_
 rintro e u' w'' ⟨rfl, rfl, rfl⟩
 have fin : ∃ W W', Ext w W ∧ Grow (some d) W W' ∧ R W W' ∧ Wrote w.heap.size W' (w2.setCell ⟨w.heap.size, 0, none⟩ (.string (bs noT))) := ⟨_, w2, ext_alloc w _, g, hr, wrote_setCell w2 ⟨w.heap.size, 0, none⟩ _⟩
 obtain ⟨W, W', f1, f2, f3, f4⟩ := fin
 have en : (bs noT) = bs [110, 111, 10] := rfl
 rw [en] at hc3 f4 ⊢
 simp [Leaves, settle, results, Tryz.results32, go_sem, hc3]
 exact ⟨W, f1, W', f2, f3, f4⟩
theorem answerWhat_c (d : Nat) (l : List UInt8) (w : World) (hR : ∀ W, Ext w W → W.heap.size = w.heap.size + 1 → Calls Tryz.prog 65 #[.pointer (some ⟨d, 0, none⟩), .string (bs l)] W fun e w' => e = .panicked [{ v := .iface 100 (.agg #[]), recovered := false }] ∧ Ext W w') (hdw : d < w.heap.size) :
  Ret Tryz.prog 32 #[.pointer (some ⟨d, 0, none⟩), .string (bs l)] w fun v w' => v = .string (bs whT) ∧ Ext w w' := by
 have hmf : ∀ (fn : Fn) (first cap : Array Value) (w : World), (Instr.makeFunc fn first cap).run Tryz.prog w = .ok (.func fn first cap) w := fun _ _ _ _ => rfl
 unfold Ret
 go_enter_defers Tryz.func32, Tryz.ntmps32
 go_wp2_with (go_at_call 65; refine Calls.mono (hR _ (ext_alloc w _) sm) ?_; rintro e w2 ⟨rfl, x2⟩; have k2 : Blk w2 w.heap.size #[.string (bs [])] 9 := Blk.ext (heap_alloc_new w (.cells #[.string (bs [])] 9) : Blk (w.alloc (.cells #[.string (bs [])] 9)) w.heap.size #[.string (bs [])] 9) x2)
 refine leaves_cons (f := 64) (args := #[.pointer (some ⟨w.heap.size, 0, none⟩)]) sm (by simp [go_sem]) ?_
 refine (answerCatch_c w.heap.size (.string (bs [])) [] w2 k2).mono ?_
 rintro e u' w'' ⟨rfl, rfl, W, xW, rfl⟩
 have k3 := Blk.put (k2.ext xW) 0 (.string (bs whT))
 have hc3 : (W.setCell ⟨w.heap.size, 0, none⟩ (.string (bs whT))).cell? ⟨w.heap.size, 0, none⟩ = some (.string (bs whT)) := by rw [k3.cell]; rfl
 have hx : Ext w (W.setCell ⟨w.heap.size, 0, none⟩ (.string (bs whT))) := (wrote_setCell W ⟨w.heap.size, 0, none⟩ _).ext (((ext_alloc w _).trans x2).trans xW) (Nat.le_refl _)
 simp [Leaves, settle, results, Tryz.results32, go_sem, hc3]
 exact hx
def AnsL (l out : List UInt8) (k k' : Dk) : Prop :=
 ∀ (d : Nat) (X : Nat → Prop) (w : World), DeskL w 51 d k X → (∀ x, X x → x < w.heap.size ∧ x ≠ d) →
  Ret Tryz.prog 32 #[.pointer (some ⟨d, 0, none⟩), .string (bs l)] w fun v w' => v = .string (bs out) ∧ Grow (some d) w w' ∧ DeskL w' 51 d k' X
theorem ansL_fin {d : Nat} {k' : Dk} {X : Nat → Prop} {w W W' w' : World} (hX : ∀ x, X x → x < w.heap.size ∧ x ≠ d) (e : Ext w W) (g : Grow (some d) W W') (hr : DeskL W' 51 d k' (fun x => X x ∨ x = w.heap.size)) (gw : Wrote w.heap.size W' w') (hd : d < w.heap.size) : Grow (some d) w w' ∧ DeskL w' 51 d k' X :=
 ⟨((e.grow _).trans g).fresh gw.grow fun b hb => by cases hb; exact Nat.le_refl _, (hr.grow (gw.grow.growP (X := fun x => x = w.heap.size) fun x e => by cases e; rfl) (fun y hy => .inr hy) om).avoid fun y hy => .inl (.inl hy)⟩
theorem ansL_of {l out : List UInt8} {k k' : Dk} (ok : Bool) (h : ∀ (d : Nat) (X : Nat → Prop) (w : World), DeskL w 51 d k X → (∀ x, X x → x < w.heap.size) →
  Ret Tryz.prog 65 #[.pointer (some ⟨d, 0, none⟩), .string (bs l)] w fun v w' => (∃ s, v = .tuple #[.string (bs s), .bool ok] ∧ out = if ok then s else noT) ∧ Grow (some d) w w' ∧ DeskL w' 51 d k' X) : AnsL l out k k' := by
 intro d X w dk hX
 have hd := dk.lt
 have hd' : ∀ W, Ext w W → DeskL W 51 d k (fun x => X x ∨ x = w.heap.size) := fun W e => (dk.avoid fun y hy => hy.elim .inl fun e => .inr om).ext e
 have hX' : ∀ W, Ext w W → W.heap.size = w.heap.size + 1 → ∀ x, X x ∨ x = w.heap.size → x < W.heap.size := fun W e hs x hx => hx.elim (fun hx => by have := (hX x hx).1; omega) (fun e => om)
 cases ok with
 | true =>
  refine Ret.mono (answer_c d l out w (fun _ W' => DeskL W' 51 d k' (fun x => X x ∨ x = w.heap.size)) (fun W e hs => Ret.mono (h d _ W (hd' W e) (hX' W e hs)) fun v w' ⟨⟨s, hv, ho⟩, r⟩ => ⟨by rw [hv, ho]; rfl, r⟩) hd) fun v w' ⟨hv, W, W', e, g, hr, gw⟩ => ⟨hv, ansL_fin hX e g hr gw hd⟩
 | false =>
  refine Ret.mono (answerNo_c d l w (fun _ W' => DeskL W' 51 d k' (fun x => X x ∨ x = w.heap.size) ∧ out = noT) (fun W e hs => Ret.mono (h d _ W (hd' W e) (hX' W e hs)) fun v w' ⟨⟨s, hv, ho⟩, g, r⟩ => ⟨⟨_, hv⟩, g, r, by simpa using ho⟩) hd) fun v w' ⟨hv, W, W', e, g, ⟨hr, ho⟩, gw⟩ => ⟨by rw [hv, ho], ansL_fin hX e g hr gw hd⟩
theorem ansL_what {l word : List UInt8} {ws : List (List UInt8)} {k : Dk} (hl : l.length ≤ 1000) (hg : Lib.hasPrefix l grd = false) (hs : spl 32 l = word :: ws) (hbad : ∀ i, ordX word = some i → cntX i ≠ ws.length) : AnsL l whT k k := by
 intro d X w dk hX
 refine Ret.mono (answerWhat_c d l w (fun W e hs' => obeyP_c d l word ws W hl hg hs hbad) dk.lt) fun v w' ⟨hv, e⟩ => ⟨hv, e.grow _, dk.ext e⟩
end Go.Proofs.YtcbmhjndbpafbaaGreatDoor
