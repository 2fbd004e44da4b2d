import Derived.Test.YtcbmhjndbpafbaaGreatDoorSwi
import Derived.RangeFuncNested
import Derived.RangeFuncLeaves
import Derived.RangeFuncCalls
set_option linter.all false
set_option maxRecDepth 20000
namespace Go.SW
open Go Go.RowKit
abbrev Mk := List Deferred
abbrev KD := Mk → F → World → Prop
def frD (N : Nat) (f : F) (ds : Mk) : Act := { tmps := (fr N f).tmps, defers := ds }
theorem frD_nil (N : Nat) (f : F) : frD N f [] = fr N f := (rfl)
theorem eval_frD (N : Nat) (f : F) (ds : Mk) : (frD N f ds).eval = (fr N f).eval := (rfl)
def noDef : Op → Bool
 | .defer _ => false
 | _ => true
def operOkD (N : Nat) (o : Oper) : Bool := operOk N o && noDef o.op
structure OpenF (Fc : Fence) : Prop where
 fn : ∀ g, Fc.fn g
 dep : Fc.depth = none
 calls : ∀ {P : Program} {g : FuncId} {args : Array Value} {w : World} {R : Ending → World → Prop}, Calls P g args w R → CallsIn Fc 0 P g args w R
theorem openF_wide : OpenF Fence.wide := ⟨fun _ => trivial, rfl, fun h => callsIn_wide.2 h⟩
theorem openF_round (l : Nat) : OpenF (Fence.wide.inRound l) := ⟨fun _ => trivial, rfl, fun h => CallsIn.inRound l (callsIn_wide.2 h)⟩
theorem semAt_any {r : Option Nat} {ρ : Operand → Value} {o : Oper} (h : noDef o.op = true) : Oper.semAt r ρ o = execOp ρ o := by
 cases r with
 | none => exact Oper.semAt_none _ _
 | some l => exact Oper.semAt_some l ρ o fun c e => by rw [e] at h; simp [noDef] at h
theorem put_frD {N : Nat} {f : F} {ds : Mk} {o : Oper} {v : Value} (h : operOk N o = true) : (frD N f ds).put o.dst v = frD N (updO f o.dst v) ds := by
 have := put_fr' (f := f) (v := v) h
 simp only [frD, ← this]
 cases o.dst <;> rfl
theorem genK_uponIn {Fc : Fence} {P : Program} {o : Oper} {f : F} {k : Value → World → Prop} {w : World} {a : Act} {next : Act → World → Prop} {Q : Exit → Act → World → Prop}
  (hk : ∀ v w', k v w' → next (a.put o.dst v) w') (h : genK P o f k w) : o.uponIn Fc 0 P a next Q ((execOp (ev f) o).run P w) := by
 unfold genK at h
 split at h
 ·rename_i v w' hr; rw [hr]; exact hk _ _ h
 ·rename_i w' hr; rw [hr]; exact hk _ _ h
 ·exact h.elim
theorem OW_uponIn {Fc : Fence} (hF : OpenF Fc) {P : Program} {o : Oper} {f : F} {k : Value → World → Prop} {w : World} {a : Act} {next : Act → World → Prop} {Q : Exit → Act → World → Prop}
  (hk : ∀ v w', k v w' → next (a.put o.dst v) w') (h : OW false P o f k w) : o.uponIn Fc 0 P a next Q ((execOp (ev f) o).run P w) := by
 unfold OW at h
 split at h
 ·rename_i T x hop
  obtain ⟨v, hv, hkv⟩ := ldK_run h
  have hr : (execOp (ev f) o).run P w = .ok (.value v) w := by
   unfold execOp; rw [hop]; exact run_bindV hv
  rw [hr]; exact hk _ _ hkv
 ·rename_i c hop
  split at h
  ·rename_i x hc
   unfold fnK at h
   split at h
   ·rename_i g first captured hx
    obtain ⟨hg, h⟩ := h
    simp only [Bool.false_eq_true, if_false] at h
    rw [callOp_run hop hc hx hg, Oper.uponIn_enter]
    refine ⟨fun hd => (by rw [hF.dep] at hd; cases hd), hF.calls (Calls.mono h fun e w'' ⟨v, he, hkv⟩ => ?_)⟩
    subst he
    exact hk _ _ hkv
   ·simp only [Bool.false_eq_true, if_false] at h
    exact genK_uponIn hk h
  ·simp only [Bool.false_eq_true, if_false] at h
   exact genK_uponIn hk h
 ·simp only [Bool.false_eq_true, if_false] at h
  exact genK_uponIn hk h
theorem yielded_frD (N : Nat) (f : F) (ds : Mk) (ops : Array Oper) : yielded ops (frD N f ds).tmps = yielded ops (fr N f).tmps := (rfl)
theorem RL_wpListIn {Fc : Fence} (hF : OpenF Fc) {P : Program} {N : Nat} {ds : Mk} {ops : Array Oper} {K : F → World → Prop} {Q : Exit → Act → World → Prop} (hall : ∀ o ∈ ops, operOk N o = true)
  {rest : List Oper} (hQ : ∀ f w, K f w → wpListIn Fc 0 P ops Q rest (frD N f ds) w) :
  ∀ (l : List Oper) (f : F) (w : World), (∀ o ∈ l, operOkD N o = true) → RL false P ops K l f w → wpListIn Fc 0 P ops Q (l ++ rest) (frD N f ds) w
 | [], f, w, _, h => hQ f w h
 | o :: l, f, w, hl, h => by
  have hoD := hl o (List.mem_cons_self ..)
  simp only [operOkD, Bool.and_eq_true] at hoD
  obtain ⟨ho, hnd⟩ := hoD
  have hl' : ∀ o ∈ l, operOkD N o = true := fun o' h' => hl o' (List.mem_cons_of_mem _ h')
  have h' := guK_wanted hall h
  rw [List.cons_append]
  unfold wpListIn
  rw [yielded_frD]
  by_cases hw : Region.wanted o (yielded ops (fr N f).tmps) = true
  ·rw [if_pos hw] at h' ⊢
   refine ⟨fun g _ => hF.fn g, ?_⟩
   rw [semAt_any hnd, eval_frD, exec_fr ho]
   cases hp : pv P f o.op with
   | some v =>
    rw [hp] at h'
    rw [pv_run hp, Oper.uponIn_value]
    rw [put_frD ho]
    exact RL_wpListIn hF hall hQ l _ _ hl' h'
   | none =>
    rw [hp] at h'
    refine OW_uponIn hF (k := fun v w' => RL false P ops K l (updO f o.dst v) w') (fun v w' hk => ?_) h'
    rw [put_frD ho]
    exact RL_wpListIn hF hall hQ l _ _ hl' hk
  ·rw [if_neg hw] at h' ⊢
   refine ⟨fun g _ => hF.fn g, ?_⟩
   rw [put_frD ho]
   exact RL_wpListIn hF hall hQ l _ _ hl' h'
def contD (N : Nat) (Kn : KD) (Ke : Nat → KD) (Kr : KD) : Exit → Act → World → Prop
 | .normal, a, w => ∃ f ds, a = frD N f ds ∧ Kn ds f w
 | .exit id, a, w => ∃ f ds, a = frD N f ds ∧ Ke id ds f w
 | .ret, a, w => ∃ f ds, a = frD N f ds ∧ Kr ds f w
 | _, _, _ => False
def codeOkD (N : Nat) : Code → Bool
 | .region _ ops _ => ops.all (operOkD N)
 | .seq a b => codeOkD N a && codeOkD N b
 | .cond c a b => xOk N c && codeOkD N a && codeOkD N b
 | .block _ c => codeOkD N c
 | .loop c => codeOkD N c
 | .rangeFunc f ps a b => xOk N f && codeOkD N a && codeOkD N b && ps.all (fun t => decide (t < N))
 | .skip => true
 | .exit _ => true
 | .ret => true
 | .label _ => true
 | _ => false
def CD (Fc : Fence) (P : Program) (N : Nat) (c : Code) (Kn : KD) (Ke : Nat → KD) (Kr : KD) (ds : Mk) (f : F) (w : World) : Prop :=
 codeOkD N c = true → c.wpIn Fc 0 P (contD N Kn Ke Kr) (frD N f ds) w
def LD (Fc : Fence) (P : Program) (N : Nat) (c : Code) (Kn : KD) (Ke : Nat → KD) (Kr : KD) (ds : Mk) (f : F) (w : World) : Prop := CD Fc P N c Kn Ke Kr ds f w
def kxD (id : Nat) (Kn : KD) (Ke : Nat → KD) (j : Nat) (ds : Mk) (f : F) (w : World) : Prop := kbK (decide (j = id)) (Kn ds) (Ke j ds) f w
def DX (Fc : Fence) (y : Bool) (P : Program) (N : Nat) : Code → KD → (Nat → KD) → KD → Mk → F → World → Prop
 | .skip, Kn, _, _, ds, f, w => Kn ds f w
 | .region id ops draw, Kn, Ke, Kr, ds, f, w => match draw || y with
  | true => LD Fc P N (.region id ops draw) Kn Ke Kr ds f w
  | false => RL false P ops (Kn ds) ops.toList f w
 | .seq a b, Kn, Ke, Kr, ds, f, w => DX Fc y P N a (DX Fc y P N b Kn Ke Kr) Ke Kr ds f w
 | .cond c a b, Kn, Ke, Kr, ds, f, w => cdK (ev f c) (DX Fc y P N a Kn Ke Kr ds) (DX Fc y P N b Kn Ke Kr ds) f w
 | .block id c, Kn, Ke, Kr, ds, f, w => DX Fc y P N c Kn (kxD id Kn Ke) Kr ds f w
 | .exit id, _, Ke, _, ds, f, w => Ke id ds f w
 | .ret, _, _, Kr, ds, f, w => Kr ds f w
 | .label _, Kn, _, _, ds, f, w => Kn ds f w
 | c, Kn, Ke, Kr, ds, f, w => LD Fc P N c Kn Ke Kr ds f w
theorem rl_cd {Fc : Fence} (hF : OpenF Fc) {P : Program} {N : Nat} {id : Nat} {ops : Array Oper} {Kn : KD} {Ke : Nat → KD} {Kr : KD} {ds : Mk} {f : F} {w : World} (h : RL false P ops (Kn ds) ops.toList f w) : CD Fc P N (.region id ops false) Kn Ke Kr ds f w := by
 intro hok
 have hall : ∀ o ∈ ops, operOkD N o = true := Array.all_eq_true_iff_forall_mem.1 hok
 have hall' : ∀ o ∈ ops, operOk N o = true := fun o ho => by have := hall o ho; simp only [operOkD, Bool.and_eq_true] at this; exact this.1
 refine wpIn_region_list ?_
 have := RL_wpListIn hF (Q := contD N Kn Ke Kr) (rest := []) hall' (fun f w hK => wpListIn_nil ⟨f, ds, rfl, hK⟩) ops.toList f w (fun o ho => hall o (Array.mem_toList_iff.1 ho)) h
 simpa using this
theorem eval_frD' (N : Nat) (f : F) (ds : Mk) (x : Operand) (h : xOk N x = true) : (frD N f ds).eval x = ev f x := by rw [eval_frD]; exact eval_fr N f x h
theorem dx_sound {Fc : Fence} (hF : OpenF Fc) {y : Bool} {P : Program} {N : Nat} : ∀ (c : Code) {Kn : KD} {Ke : Nat → KD} {Kr : KD} {ds : Mk} {f : F} {w : World}, DX Fc y P N c Kn Ke Kr ds f w → CD Fc P N c Kn Ke Kr ds f w := by
 intro c
 induction c with
 | skip => intro _ _ _ _ _ _ h _; exact wpIn_skip ⟨_, _, rfl, h⟩
 | region id ops draw =>
  intro Kn Ke Kr ds f w h
  simp only [DX] at h
  split at h
  ·exact h
  ·rename_i e
   obtain rfl : draw = false := by cases draw <;> simp_all
   exact rl_cd hF h
 | seq a b iha ihb =>
  intro Kn Ke Kr ds f w h hok
  simp only [codeOkD, Bool.and_eq_true] at hok
  refine wpIn_seq (wpIn_mono (iha h hok.1) ?_)
  intro e a w hq
  cases e <;> simp only [contD, Exit.then] at hq ⊢
  case normal => obtain ⟨f, ds, rfl, hf⟩ := hq; exact ihb hf hok.2
  all_goals first | exact hq | exact hq.elim
 | cond c a b iha ihb =>
  intro _ _ _ ds f w h hok
  simp only [codeOkD, Bool.and_eq_true] at hok
  simp only [DX] at h
  unfold cdK at h
  split at h
  ·rename_i t ht
   exact wpIn_cond_split (t := t) (by rw [eval_frD' N f ds c hok.1.1]; exact ht) (fun e => iha (h.1 e) hok.1.2) (fun e => ihb (h.2 e) hok.2)
  ·exact h.elim
 | block id c ih =>
  intro _ _ _ _ _ _ h hok
  refine wpIn_block (wpIn_mono (ih h hok) ?_)
  intro e a w hq
  cases e <;> simp only [contD, Exit.inBlock] at hq ⊢
  case exit j =>
   obtain ⟨f, ds, rfl, hf⟩ := hq
   unfold kxD kbK at hf
   split
   ·rename_i e; rw [decide_eq_true e] at hf; exact ⟨f, ds, rfl, hf⟩
   ·rename_i e; rw [decide_eq_false e] at hf; exact ⟨f, ds, rfl, hf⟩
  all_goals first | exact hq | exact hq.elim
 | exit id => intro _ _ _ _ _ _ h _; exact wpIn_exit ⟨_, _, rfl, h⟩
 | ret => intro _ _ _ _ _ _ h _; exact wpIn_ret ⟨_, _, rfl, h⟩
 | label l => intro _ _ _ _ _ _ h _; exact wpIn_label ⟨_, _, rfl, h⟩
 | loop c ih => intro _ _ _ _ _ _ h; exact h
 | rangeFunc g ps a b iha ihb => intro _ _ _ _ _ _ h; exact h
 | scope c ih => intro _ _ _ _ _ _ h; exact h
 | goto l => intro _ _ _ _ _ _ h; exact h
 | refuse s => intro _ _ _ _ _ _ h; exact h
section
variable {Fc : Fence} {y : Bool} {P : Program} {N : Nat} {Kn : KD} {Ke : Nat → KD} {Kr : KD} {ds : Mk} {f : F} {w : World}
theorem DX_skip : DX Fc y P N .skip Kn Ke Kr ds f w = Kn ds f w := (rfl)
theorem DX_region (id : Nat) (l : List Oper) : DX Fc false P N (.region id l.toArray false) Kn Ke Kr ds f w = RL false P l.toArray (Kn ds) l f w := (rfl)
theorem DX_draws (id : Nat) (ops : Array Oper) : DX Fc y P N (.region id ops true) Kn Ke Kr ds f w = LD Fc P N (.region id ops true) Kn Ke Kr ds f w := (rfl)
theorem DX_still (id : Nat) (ops : Array Oper) : DX Fc true P N (.region id ops false) Kn Ke Kr ds f w = LD Fc P N (.region id ops false) Kn Ke Kr ds f w := (rfl)
theorem regD (hF : OpenF Fc) {id : Nat} {l : List Oper} (h : RL false P l.toArray (Kn ds) l f w) : LD Fc P N (.region id l.toArray false) Kn Ke Kr ds f w := rl_cd hF h
theorem DX_seq (a b : Code) : DX Fc y P N (.seq a b) Kn Ke Kr ds f w = DX Fc y P N a (DX Fc y P N b Kn Ke Kr) Ke Kr ds f w := (rfl)
theorem DX_cond (c : Operand) (a b : Code) : DX Fc y P N (.cond c a b) Kn Ke Kr ds f w = cdK (ev f c) (DX Fc y P N a Kn Ke Kr ds) (DX Fc y P N b Kn Ke Kr ds) f w := (rfl)
theorem DX_block (id : Nat) (c : Code) : DX Fc y P N (.block id c) Kn Ke Kr ds f w = DX Fc y P N c Kn (kxD id Kn Ke) Kr ds f w := (rfl)
theorem DX_exit (id : Nat) : DX Fc y P N (.exit id) Kn Ke Kr ds f w = Ke id ds f w := (rfl)
theorem DX_ret : DX Fc y P N .ret Kn Ke Kr ds f w = Kr ds f w := (rfl)
theorem DX_label (l : Nat) : DX Fc y P N (.label l) Kn Ke Kr ds f w = Kn ds f w := (rfl)
theorem DX_loop (c : Code) : DX Fc y P N (.loop c) Kn Ke Kr ds f w = LD Fc P N (.loop c) Kn Ke Kr ds f w := (rfl)
theorem DX_range (g : Operand) (ps : Array Tmp) (a b : Code) : DX Fc y P N (.rangeFunc g ps a b) Kn Ke Kr ds f w = LD Fc P N (.rangeFunc g ps a b) Kn Ke Kr ds f w := (rfl)
theorem kxD_go (id j : Nat) : kxD id Kn Ke j ds f w = kbK (decide (j = id)) (Kn ds) (Ke j ds) f w := (rfl)
theorem loopD (hF : OpenF Fc) {c : Code} (I : Nat → KD) (n0 : Nat) (h0 : I n0 ds f w)
  (hr : ∀ n ds f w, I n ds f w → DX Fc y P N c (fun ds' f' w' => ∃ m, m < n ∧ I m ds' f' w') Ke Kr ds f w) : LD Fc P N (.loop c) Kn Ke Kr ds f w := by
 intro hok
 have hok' : codeOkD N c = true := hok
 haveI hdec : ∀ p : Prop, Decidable p := Classical.propDecidable
 let J : Act → World → Nat → Prop := fun a w n => ∃ f ds, a = frD N f ds ∧ I n ds f w
 have least : ∀ (p : Nat → Prop), (∃ n, p n) → ∃ n, p n ∧ ∀ m, m < n → ¬ p m := by
  intro p ⟨n, hn⟩
  induction n using Nat.strongRecOn with
  | _ n ih =>
   by_cases h : ∃ m, m < n ∧ p m
   ·obtain ⟨m, hm, hp⟩ := h; exact ih m hm hp
   ·exact ⟨n, hn, fun m hm hp => h ⟨m, hm, hp⟩⟩
 let μ : Act → World → Nat := fun a w => if h : ∃ n, J a w n then Classical.choose (least _ h) else 0
 have μ_le : ∀ a w n, J a w n → μ a w ≤ n := by
  intro a w n hn
  have h : ∃ n, J a w n := ⟨n, hn⟩
  have hs := Classical.choose_spec (least _ h)
  simp only [μ, dif_pos h]
  exact Nat.le_of_not_lt fun hlt => hs.2 n hlt hn
 have μ_spec : ∀ a w, (∃ n, J a w n) → J a w (μ a w) := by
  intro a w h
  simp only [μ, dif_pos h]
  exact (Classical.choose_spec (least _ h)).1
 refine wpIn_loop (fun a w => ∃ n, J a w n) μ ⟨n0, f, ds, rfl, h0⟩ ?_
 intro a w hJ
 obtain ⟨f, ds, rfl, hI⟩ := μ_spec a w hJ
 refine wpIn_mono (dx_sound hF c (hr _ ds f w hI) hok') ?_
 intro e a' w' hq
 cases e <;> simp only [contD, Exit.then] at hq ⊢
 case normal =>
  obtain ⟨f', ds', rfl, m, hm, hI'⟩ := hq
  exact ⟨⟨m, f', ds', rfl, hI'⟩, Nat.lt_of_le_of_lt (μ_le _ _ m ⟨f', ds', rfl, hI'⟩) hm⟩
 all_goals first | exact hq | exact hq.elim
theorem drawD {id : Nat} {ops : Array Oper} (h : QR P N id ops (Kn []) (fun j => Ke j []) (Kr []) f w) (hall : codeOk N (.region id ops true) = true) : LD Fence.wide P N (.region id ops true) Kn Ke Kr [] f w := by
 intro _
 refine wpIn_wide.2 (wp_mono (h hall) ?_)
 intro e a w hq
 cases e <;> simp only [cont, contD] at hq ⊢
 case normal => obtain ⟨f, rfl, hf⟩ := hq; exact ⟨f, [], rfl, hf⟩
 case ret => obtain ⟨f, rfl, hf⟩ := hq; exact ⟨f, [], rfl, hf⟩
 case exit id => obtain ⟨f, rfl, hf⟩ := hq; exact ⟨f, [], rfl, hf⟩
 all_goals exact hq
theorem yieldD (hF : OpenF Fc) {id : Nat} (pre : List Oper) {o : Oper} {x : Operand} {args : Array Operand} {ts : Array TypeId} (ho : o.op = .call ⟨.value x, args, ts⟩) (hg : o.guard = none)
  (h : RL false P (pre ++ [o]).toArray (fun f' w' => ∃ l fn tmps assign body, ev f' x = .func (.yield l) #[] #[] ∧
   (Instr.yield l (args.map (ev f'))).run P w' = .ok (.round l fn tmps assign body) w' ∧ RoundIn Fc 0 P l fn tmps assign body w' fun e w'' => ∃ v, e = .returned v ∧ Kn ds (updO f' o.dst v) w'') pre f w) :
  LD Fc P N (.region id (pre ++ [o]).toArray false) Kn Ke Kr ds f w := by
 intro hok
 have hall : ∀ o' ∈ (pre ++ [o]).toArray, operOkD N o' = true := Array.all_eq_true_iff_forall_mem.1 hok
 have hall' : ∀ o' ∈ (pre ++ [o]).toArray, operOk N o' = true := fun o' ho' => by have := hall o' ho'; simp only [operOkD, Bool.and_eq_true] at this; exact this.1
 refine wpIn_region_list ?_
 have key := RL_wpListIn hF (ds := ds) (Q := contD N Kn Ke Kr) (rest := [o]) hall' (fun f' w' hK => ?_) pre f w (fun o' ho' => hall o' (by simp [ho'])) h
 ·simpa using key
 ·obtain ⟨l, fn, tmps, assign, body, hx, hy, hr⟩ := hK
  have hlast := hall' o sm
  refine wpListIn_plain hg fun K hKK => ⟨fun g _ => hF.fn g, ?_⟩
  rw [semAt_any (by rw [ho]; rfl), eval_frD, exec_fr hlast]
  have hrun : (execOp (ev f') o).run P w' = .ok (.round l fn tmps assign body) w' := by
   unfold execOp
   rw [ho]
   refine (run_bindV (a := { target := .fn (.yield l) #[], args := args.map (ev f') }) (w' := w') ?_).trans ?_
   ·simp [resolve, hx, Deferred.ofValue]
   ·simpa [invoke] using hy
  rw [hrun, Oper.uponIn_round]
  refine ⟨fun hd => (by rw [hF.dep] at hd; cases hd), RoundIn.mono hr fun e w'' ⟨v, he, hk⟩ => ?_⟩
  subst he
  exact hKK _ _ (wpListIn_nil ⟨updO f' o.dst v, ds, put_frD hlast, hk⟩)
theorem yieldN (hF : OpenF Fc) {id : Nat} (n : Nat) {l : List Oper} {o : Oper} {x : Operand} {args : Array Operand} {ts : Array TypeId} (hl : l = l.take n ++ [o]) (ho : o.op = .call ⟨.value x, args, ts⟩) (hg : o.guard = none)
  (h : RL false P l.toArray (fun f' w' => ∃ r fn tmps assign body, ev f' x = .func (.yield r) #[] #[] ∧
   (Instr.yield r (args.map (ev f'))).run P w' = .ok (.round r fn tmps assign body) w' ∧ RoundIn Fc 0 P r fn tmps assign body w' fun e w'' => ∃ v, e = .returned v ∧ Kn ds (updO f' o.dst v) w'') (l.take n) f w) :
  LD Fc P N (.region id l.toArray false) Kn Ke Kr ds f w := by
 generalize l.take n = pre at hl h
 subst hl
 exact yieldD hF pre ho hg h
end
theorem grow_putObj (w : World) (l : Nat) (o : Obj) : Grow (some l) w (w.putObj l o) :=
 ⟨rfl, rfl, rfl, by simp [World.putObj], fun b _ hne => World.putObj_heap_other (fun e => hne (by rw [e]))⟩
abbrev NK (w w' : World) : Prop := KeepsOthers w w'
theorem Ext.nk {w w' : World} (e : Ext w w') : NK w w' := ⟨e.size, fun k o h _ => e.blk h⟩
theorem Grow.nk {ob : Option Nat} {w w' : World} (g : Grow ob w w') (h : ∀ b, ob = some b → ∃ cs T fz, w.heap[b]? = some (.cells cs T fz)) : NK w w' := by
 refine ⟨g.size, fun k o hk ho => ?_⟩
 have hlt := (Array.getElem?_eq_some_iff.1 hk).1
 rw [g.other k hlt, hk]
 intro e
 obtain ⟨cs, T, fz, hc⟩ := h k e
 rw [hc] at hk
 simp only [Option.some.injEq] at hk
 subst hk
 simp [Obj.isCells] at ho
theorem Blk.cells {w : World} {b : Nat} {cs : Array Value} {T : TypeId} (h : Blk w b cs T) : ∃ cs T fz, w.heap[b]? = some (.cells cs T fz) := ⟨_, _, _, h⟩
theorem OwnS.cells {w : World} {e s n c : Nat} {a : Option Addr} {xs : List Value} (h : OwnS w e s a n c xs) : ∀ b, blk a = Option.some b → ∃ cs T fz, w.heap[b]? = Option.some (.cells cs T fz) := by
 intro b hb
 rcases h.2 with ⟨rfl, _⟩ | ⟨g, cur, rfl, hh, _⟩
 ·cases hb
 ·simp only [blk_some, Option.some.injEq] at hb; subst hb; exact ⟨_, _, _, hh⟩
theorem loop_ne {w : World} {b : Nat} (h : ∃ cs T fz, w.heap[b]? = some (.cells cs T fz)) {l : Nat} {r : Loop} (hl : w.heap[l]? = some (.loop r)) : l ≠ b := by
 intro e; subst e
 obtain ⟨cs, T, fz, hc⟩ := h
 rw [hc] at hl; simp at hl
theorem cell_cells {w : World} {a : Addr} {v : Value} (h : w.cell? a = some v) : ∃ cs T fz, w.heap[a.block]? = some (.cells cs T fz) := by
 obtain ⟨o, ho, hc⟩ := cells_of_cell h
 cases o <;> simp_all [Obj.isCells]
 all_goals (simp only [World.cell?, ho] at h; first | exact ⟨_, _, _, rfl⟩ | cases h)
def Rec (w A : World) (ob : Option Nat) : Prop := ∀ b, ob = some b → w.heap.size ≤ b ∧ ∃ r, A.heap[b]? = some (.loop r)
theorem Rec.none (w A : World) : Rec w A none := fun _ e => by cases e
theorem Rec.ne {w A : World} {ob : Option Nat} (h : Rec w A ob) {b : Nat} (hc : ∃ cs T fz, A.heap[b]? = some (.cells cs T fz)) : ob ≠ some b := by
 intro e
 obtain ⟨_, r, hr⟩ := h b e
 exact loop_ne hc hr rfl
theorem Rec.ext {w0 w A B : World} {ob : Option Nat} (h : Rec w A ob) (g : Grow ob A B) (e : Ext w0 A) (hs : w0.heap.size ≤ w.heap.size) : Ext w0 B := g.ext e fun b hb => Nat.le_trans hs (h b hb).1
theorem Rec.blk {w A B : World} {ob : Option Nat} (h : Rec w A ob) (g : Grow ob A B) {b : Nat} {cs : Array Value} {T : TypeId} (k : Blk A b cs T) : Blk B b cs T := g.blk k (h.ne k.cells)
theorem Rec.own {w A B : World} {ob : Option Nat} (h : Rec w A ob) (g : Grow ob A B) {e s n c : Nat} {a : Option Addr} {xs : List Value} (o : OwnS A e s a n c xs) : OwnS B e s a n c xs := o.grow g fun b hb => h.ne (o.cells b hb)
theorem Rec.cell {w A B : World} {ob : Option Nat} (h : Rec w A ob) (g : Grow ob A B) {a : Addr} {v : Value} (c : A.cell? a = some v) : B.cell? a = some v := g.cell c (h.ne (cell_cells c))
def IterC (P : Program) (gf : FuncId) (lb : Array Value) (xs : List Int) (Kp : World → Prop) : Prop :=
 ∀ (l : Nat) (J : List Int → World → Prop) (W : World), (∀ pre A B, J pre A → Ext A B → J pre B) → (∀ pre A, J pre A → Kp A) →
  (∀ pre x A, J pre A → pre ++ [x] <+: xs → ∃ fn tmps assign body, (Instr.yield l #[.int .i64 x]).run P A = .ok (.round l fn tmps assign body) A ∧
   RoundIn Fence.wide 0 P l fn tmps assign body A fun e B => e = .returned (.bool true) ∧ J (pre ++ [x]) B) →
  J [] W → Calls P gf (#[.func (.yield l) #[] #[]] ++ lb) W fun e W' => (∃ v, e = .returned v) ∧ J xs W'
section
variable {P : Program} {N : Nat} {Kn : KD} {Ke : Nat → KD} {Kr : KD} {ds : Mk} {f : F} {w : World}
theorem put_tmps {p : Tmp} {v : Value} (hp : p < N) : (frD N f ds).tmps.setIfInBounds p v = (fr N (upd f p v)).tmps := by
 have h := put_fr N f (some p) v (fun t ht => by cases ht; exact hp)
 have h2 := congrArg Act.tmps h
 rw [updO_some] at h2
 exact h2
theorem rangeD_gen {g : Operand} {ps : List Tmp} {assign body : Code} {gf : FuncId} {lb : Array Value} {xs : List Int} (hpl : ps.length = 1)
  (fp : Int → F) (hfp : ∀ x, ((ps.toArray.zip #[Value.int .i64 x]).foldl (fun t (p, v) => t.setIfInBounds p v) (frD N f ds).tmps) = (fr N (fp x)).tmps)
  (hg : ev f g = .func (.func gf) #[] lb) (hgo : goB P gf = true) (I : List Int → World → Prop) (A : Int → F → Prop) (Kp : World → Prop) (hit : IterC P gf lb xs Kp) (hKp : ∀ pre W, I pre W → Kp W)
  (hI : ∀ pre ob A B, I pre A → Grow ob A B → Rec w A ob → I pre B) (h0 : I [] w)
  (hassign : ∀ Fc, OpenF Fc → ∀ x W (K : F → World → Prop), (∀ f', A x f' → K f' W) → DX Fc false P N assign (fun ds' f' w' => ds' = [] ∧ K f' w') (fun _ _ _ _ => False) (fun _ _ _ => False) [] (fp x) W)
  (hbody : ∀ Fc, OpenF Fc → ∀ pre x f' W, A x f' → I pre W → pre ++ [x] <+: xs → DX Fc false P N body (fun _ _ W' => I (pre ++ [x]) W' ∧ NK W W') (fun _ _ _ _ => False) (fun _ _ _ => False) [] f' W)
  (hk : ∀ W, I xs W → W.heap[w.heap.size]? = some (.deferred (some [])) → w.heap.size < W.heap.size → Kn ({ target := .collected w.heap.size, args := #[] } :: ds) f W) :
  LD Fence.wide P N (.rangeFunc g ps.toArray assign body) Kn Ke Kr ds f w := by
 intro hok
 simp only [codeOkD, Bool.and_eq_true] at hok
 obtain ⟨⟨⟨hgx, hoka⟩, hokb⟩, hpn⟩ := hok
 have hgv : (frD N f ds).eval g = .func (.func gf) #[] lb := by rw [eval_frD' N f ds g hgx]; exact hg
 refine wpIn_rangeFunc ?_
 intro fn hfn
 obtain ⟨rec, hrec⟩ : ∃ rec : LoopState → Loop, rec = fun st => { state := st, pending := none, fn, tmps := (frD N f ds).tmps, params := ps.toArray, assign, body, defers := w.heap.size } := ⟨_, rfl⟩
 obtain ⟨W1, hW1⟩ : ∃ W1, (w.alloc (.deferred (some []))).alloc (.loop (rec .ready)) = W1 := ⟨_, rfl⟩
 have hL1 : W1.heap[w.heap.size + 1]? = some (.loop (rec .ready)) := by
  rw [← hW1]; have := World.alloc_heap_new (w.alloc (.deferred (some []))) (.loop (rec .ready)); rwa [World.size_alloc] at this
 have hK1 : W1.heap[w.heap.size]? = some (.deferred (some [])) := by
  rw [← hW1]; exact (Below.heap_alloc _ _ _ sm).trans (World.alloc_heap_new w _)
 have hx1 : Ext w W1 := by rw [← hW1]; exact (ext_alloc w _).trans (ext_alloc _ _)
 have hI1 : I [] W1 := hI [] none w W1 h0 (hx1.grow none) (Rec.none _ _)
 refine ⟨w.heap.size + 1, [{ target := .collected w.heap.size, args := #[] }], W1, { target := .fn (.func gf) lb, args := #[.func (.yield (w.heap.size + 1)) #[] #[]] }, W1, gf,
  #[.func (.yield (w.heap.size + 1)) #[] #[]] ++ lb, W1, ?_, ?_, ?_, ?_, fun hd => (by cases hd), ?_⟩
 ·rw [← hW1, hrec]; exact run_enterLoop_outer _ _ _ _ _
 ·simp only [resolve, hgv]
  simp [go_sem]
 ·intro f' _; trivial
 ·simp only [invoke]
  simpa using callFunc_run hgo
 ·refine callsIn_wide.2 ((hit (w.heap.size + 1) (fun pre W => I pre W ∧ W.heap[w.heap.size + 1]? = some (.loop (rec .ready)) ∧ W.heap[w.heap.size]? = some (.deferred (some []))) W1 ?_ ?_ ?_ ⟨hI1, hL1, hK1⟩).mono ?_)
  ·intro pre A B ⟨hi, hl, hd⟩ e
   exact ⟨hI pre none A B hi (e.grow none) (Rec.none _ _), e.blk hl, e.blk hd⟩
  ·intro pre A ⟨hi, _⟩; exact hKp pre A hi
  ·intro pre x A ⟨hi, hl, hd⟩ hpre
   have hlt : w.heap.size + 1 < A.heap.size := (Array.getElem?_eq_some_iff.1 hl).1
   have hy := run_yield (P := P) (args := #[.int .i64 x]) hl (by rw [hrec]; simp [hpl])
   rw [hrec] at hy
   refine ⟨fn, _, assign, body, hy, roundIn_of_wpIn hfn ?_⟩
   clear hy
   have hoF := openF_round (w.heap.size + 1)
   have hacts : ({ tmps := (ps.toArray.zip #[Value.int .i64 x]).foldl (fun t (p, v) => t.setIfInBounds p v) (frD N f ds).tmps, defers := [] } : Act) = frD N (fp x) [] := by
    simp only [frD]; rw [← hfp x]; rfl
   rw [hacts]
   refine wpIn_mono (dx_sound hoF assign (hassign _ hoF x A (fun f1 A1 => ∃ W2, (Instr.beginRound (w.heap.size + 1)).run P A1 = .ok () W2 ∧ body.wpIn (Fence.wide.inRound (w.heap.size + 1)) 0 P (roundPost P (w.heap.size + 1) fun e B => e = .returned (.bool true) ∧ I (pre ++ [x]) B ∧ B.heap[w.heap.size + 1]? = some (.loop (rec .ready)) ∧ B.heap[w.heap.size]? = some (.deferred (some []))) (frD N f1 []) W2) ?_) hoka) ?_
   ·intro f1 hA1
    refine ⟨_, run_beginRound hl (by rw [hrec]), ?_⟩
    have hbusy : (A.putObj (w.heap.size + 1) (.loop { rec .ready with state := .busy })).heap[w.heap.size + 1]? = some (.loop { rec .ready with state := .busy }) := World.putObj_heap_same hlt
    have hd2 : (A.putObj (w.heap.size + 1) (.loop { rec .ready with state := .busy })).heap[w.heap.size]? = some (.deferred (some [])) := (World.putObj_heap_other om).trans hd
    have hi2 := hI pre (some (w.heap.size + 1)) _ _ hi (grow_putObj A (w.heap.size + 1) (.loop { rec .ready with state := .busy })) (fun b hb => by cases hb; exact ⟨om, _, hl⟩)
    refine wpIn_mono (dx_sound hoF body (hbody _ hoF pre x _ _ hA1 hi2 hpre) hokb) ?_
    intro e a W3 hq
    cases e <;> simp only [contD] at hq
    case normal =>
     obtain ⟨f3, ds3, rfl, hi3, nk⟩ := hq
     have hl3 := nk.same _ _ hbusy rfl
     have hd3 := nk.same _ _ hd2 rfl
     have hend := run_endRound (P := P) none hl3
     rw [hrec] at hend
     refine ⟨_, _, hend, rfl, hI _ (some (w.heap.size + 1)) _ _ hi3 (grow_putObj _ _ _) (fun b hb => by cases hb; exact ⟨om, _, hl3⟩), ?_, (World.putObj_heap_other om).trans hd3⟩
     rw [hrec]
     exact World.putObj_heap_same (Array.getElem?_eq_some_iff.1 hl3).1
    all_goals first | exact hq.elim | (obtain ⟨_, _, _, hq⟩ := hq; exact hq.elim)
   ·intro e a A1 hq
    cases e <;> simp only [contD, Exit.then] at hq ⊢
    case normal =>
     obtain ⟨f1, ds1, rfl, rfl, hq⟩ := hq
     exact hq
    all_goals first | exact hq.elim | (obtain ⟨_, _, _, hq⟩ := hq; exact hq.elim)
  ·rintro e W2 ⟨⟨v, rfl⟩, hi, hl, hd⟩
   have hend := run_endLoop (P := P) hl (by rw [hrec]; simp)
   rw [hrec] at hend
   refine ⟨none, _, hend, ?_⟩
   exact ⟨f, _, rfl, hk _ (hI _ (some (w.heap.size + 1)) _ _ hi (grow_putObj _ _ _) (fun b hb => by cases hb; exact ⟨om, _, hl⟩)) ((World.putObj_heap_other om).trans hd) (by have := (Array.getElem?_eq_some_iff.1 hl).1; simp [World.putObj]; omega)⟩
theorem rangeD1 {g : Operand} {p : Tmp} {assign body : Code} {gf : FuncId} {lb : Array Value} {xs : List Int} (hp : p < N)
  (hg : ev f g = .func (.func gf) #[] lb) (hgo : goB P gf = true) (I : List Int → World → Prop) (A : Int → F → Prop) (Kp : World → Prop) (hit : IterC P gf lb xs Kp) (hKp : ∀ pre W, I pre W → Kp W)
  (hI : ∀ pre ob A B, I pre A → Grow ob A B → Rec w A ob → I pre B) (h0 : I [] w)
  (hassign : ∀ Fc, OpenF Fc → ∀ x W (K : F → World → Prop), (∀ f', A x f' → K f' W) → DX Fc false P N assign (fun ds' f' w' => ds' = [] ∧ K f' w') (fun _ _ _ _ => False) (fun _ _ _ => False) [] (upd f p (.int .i64 x)) W)
  (hbody : ∀ Fc, OpenF Fc → ∀ pre x f' W, A x f' → I pre W → pre ++ [x] <+: xs → DX Fc false P N body (fun _ _ W' => I (pre ++ [x]) W' ∧ NK W W') (fun _ _ _ _ => False) (fun _ _ _ => False) [] f' W)
  (hk : ∀ W, I xs W → W.heap[w.heap.size]? = some (.deferred (some [])) → w.heap.size < W.heap.size → Kn ({ target := .collected w.heap.size, args := #[] } :: ds) f W) :
  LD Fence.wide P N (.rangeFunc g #[p] assign body) Kn Ke Kr ds f w :=
 rangeD_gen (ps := [p]) rfl (fun x => upd f p (.int .i64 x)) (fun x => by have := put_tmps (f := f) (ds := ds) (v := .int .i64 x) hp; simpa using this) hg hgo I A Kp hit hKp hI h0 hassign hbody hk
def Marks (B : Nat) (w : World) : Mk → Prop
 | [] => True
 | d :: ds => ∃ D, d = { target := .collected D, args := #[] } ∧ B ≤ D ∧ w.heap[D]? = some (.deferred (some [])) ∧ (∀ D', { target := .collected D', args := #[] } ∈ ds → D' ≠ D) ∧ Marks B w ds
theorem Marks.kept {B : Nat} {w w' : World} (hk : ∀ D, B ≤ D → w.heap[D]? = some (.deferred (some [])) → w'.heap[D]? = some (.deferred (some []))) : ∀ {ds : Mk}, Marks B w ds → Marks B w' ds
 | [], _ => trivial
 | _ :: _, ⟨D, h1, h2, h3, h4, h5⟩ => ⟨D, h1, h2, hk D h2 h3, h4, Marks.kept hk h5⟩
theorem Marks.nk {B : Nat} {w w' : World} {ds : Mk} (h : Marks B w ds) (n : NK w w') : Marks B w' ds := h.kept fun D _ hd => n.same _ _ hd rfl
theorem Marks.ext {B : Nat} {w w' : World} {ds : Mk} (h : Marks B w ds) (n : Ext w w') : Marks B w' ds := h.nk n.nk
theorem Marks.mem {B : Nat} {w : World} : ∀ {ds : Mk}, Marks B w ds → ∀ D', { target := .collected D', args := #[] } ∈ ds → D' < w.heap.size
 | [], _, D', h => by simp at h
 | _ :: _, ⟨D, h1, h2, h3, h4, h5⟩, D', h => by
  rcases List.mem_cons.1 h with h | h
  ·subst h1; simp only [Deferred.mk.injEq, Target.collected.injEq, and_true] at h; subst h; exact (Array.getElem?_eq_some_iff.1 h3).1
  ·exact h5.mem D' h
theorem Marks.rec {B : Nat} {w A A' : World} {ob : Option Nat} {ds : Mk} (h : Marks B A ds) (r : Rec w A ob) (g : Grow ob A A') : Marks B A' ds := h.kept fun D _ hd => by
 have hlt := (Array.getElem?_eq_some_iff.1 hd).1
 rw [g.other D hlt, hd]
 intro e
 obtain ⟨_, x, hx⟩ := r D e
 rw [hd] at hx; simp at hx
theorem Marks.cons {B : Nat} {w0 w : World} {ds : Mk} (h : Marks B w ds) (h0 : Marks B w0 ds) (hB : B ≤ w0.heap.size) (hd : w.heap[w0.heap.size]? = some (.deferred (some []))) : Marks B w ({ target := .collected w0.heap.size, args := #[] } :: ds) :=
 ⟨_, rfl, hB, hd, fun D' hD => Nat.ne_of_lt (h0.mem D' hD), h⟩
structure Off (B : Nat) (w w' : World) : Prop where
 os : w'.os = w.os
 tape : w'.tape = w.tape
 output : w'.output = w.output
 size : w'.heap.size = w.heap.size
 same : ∀ b, (b < B ∨ ∀ x, w.heap[b]? ≠ some (.deferred x)) → w'.heap[b]? = w.heap[b]?
theorem Off.refl (B : Nat) (w : World) : Off B w w := ⟨rfl, rfl, rfl, rfl, fun _ _ => rfl⟩
theorem Off.ext {B : Nat} {w0 w w' : World} (h : Off B w w') (e : Ext w0 w) (hB : w0.heap.size ≤ B) : Ext w0 w' :=
 Below.trans e ⟨h.os, h.tape, h.output, Nat.le_of_eq h.size.symm, fun k hk => h.same k (.inl om)⟩
theorem Off.cells {B : Nat} {w w' : World} (h : Off B w w') {b : Nat} (hc : ∃ cs T fz, w.heap[b]? = some (.cells cs T fz)) : w'.heap[b]? = w.heap[b]? :=
 h.same b (.inr fun x e => by obtain ⟨cs, T, fz, hc⟩ := hc; rw [hc] at e; simp at e)
theorem Off.own {B : Nat} {w w' : World} (h : Off B w w') {e s n c : Nat} {a : Option Addr} {xs : List Value} (o : OwnS w e s a n c xs) : OwnS w' e s a n c xs := o.kept fun b hb => h.cells (o.cells b hb)
theorem Off.blk {B : Nat} {w w' : World} (h : Off B w w') {b : Nat} {cs : Array Value} {T : TypeId} (k : Blk w b cs T) : Blk w' b cs T := by
 unfold Blk; rw [h.cells k.cells]; exact k
def outD (P : Program) (fn : Func) (B : Nat) (R : Value → World → Prop) : KD := fun ds f w => Marks B w ds ∧ ∀ w', (ds = [] → w' = w) → Off B w w' → outK P fn R f w'
theorem leaves_marks {fn : Func} {B : Nat} {R : Value → World → Prop} (hres : resOk N fn.results.toList = true) : ∀ (ds : Mk) (w : World), Marks B w ds → (∀ w', (ds = [] → w' = w) → Off B w w' → outK P fn R f w') →
  LeavesInM Fence.wide 0 P fn (fr N f).tmps (fun e w' => ∃ v, e = .returned v ∧ R v w') ds .returning w
 | [], w, _, h => by
  obtain ⟨v, hv, hR⟩ := outK_run hres (h w (fun _ => rfl) (Off.refl B w))
  exact ⟨v, hv, v, rfl, hR⟩
 | d :: ds, w, ⟨D, h1, h2, h3, h4, h5⟩, h => by
  subst h1
  refine ⟨by simp, .inl ⟨D, _, rfl, run_takeDeferred h3, ?_⟩⟩
  have other : ∀ b, b ≠ D → (w.putObj D (.deferred none)).heap[b]? = w.heap[b]? := fun b hb => World.putObj_heap_other hb
  refine leaves_marks (B := B) hres ds _ ?_ fun w' _ o => h w' (fun e => by simp at e) ?_
  ·clear h
   induction ds with
   | nil => trivial
   | cons d ds ih =>
    obtain ⟨D', e1, e2, e3, e4, e5⟩ := h5
    refine ⟨D', e1, e2, ?_, e4, ih (fun D'' hm => h4 D'' (List.mem_cons_of_mem _ hm)) e5⟩
    rw [other D' (h4 D' (by rw [← e1]; exact List.mem_cons_self ..))]; exact e3
  ·refine ⟨o.os, o.tape, o.output, by rw [o.size]; simp [World.putObj], fun b hb => ?_⟩
   have hbD : b ≠ D := by
    rcases hb with hb | hb
    ·omega
    ·intro e; subst e; exact hb _ h3
   rw [o.same b (by rw [other b hbD]; exact hb), other b hbD]
def entryOkD (fn : Func) (c : Code) : Bool := codeOkD fn.ntmps c && resOk fn.ntmps fn.results.toList
theorem enterD {y : Bool} {g : FuncId} {fn : Func} {c : Code} {args : Array Value} {w : World} {R : Value → World → Prop} (hf : P.funcs[g]? = some fn) (hb : fn.body = some c)
  (hok : entryOkD fn c = true) (hargs : args.size ≤ fn.ntmps)
  (h : ∀ f : F, (∀ i, i < args.size → args[i]? = some (f i)) → DX Fence.wide y P fn.ntmps c (outD P fn w.heap.size R) (fun _ _ _ _ => False) (outD P fn w.heap.size R) [] f w) : Ret P g args w R := by
 simp only [entryOkD, Bool.and_eq_true] at hok
 refine (callsIn_wide (n := 0)).1 (callsIn_of_wp_marks hf hb trivial ?_)
 let f : F := fun i => (args[i]?).getD undef
 have hfr : ({ tmps := args ++ Array.replicate (fn.ntmps - args.size) undef, defers := [] } : Act) = frD fn.ntmps f [] := by
  rw [frD_nil]
  unfold fr
  congr 1
  apply Array.ext
  ·simp; omega
  ·intro i h1 h2
   simp only [Array.getElem_ofFn, f]
   by_cases hi : i < args.size
   ·rw [Array.getElem_append_left hi, Array.getElem?_eq_getElem hi]; rfl
   ·rw [Array.getElem_append_right om, Array.getElem?_eq_none om]; simp
 rw [hfr]
 refine wpIn_mono (dx_sound openF_wide c (h f (fun i hi => by simp only [f]; rw [Array.getElem?_eq_getElem hi]; rfl)) hok.1) ?_
 intro e a w' hq
 cases e <;> simp only [contD, bodyPostM] at hq ⊢
 case normal => obtain ⟨f, ds, rfl, hm, hR⟩ := hq; exact leaves_marks hok.2 ds w' hm hR
 case ret => obtain ⟨f, ds, rfl, hm, hR⟩ := hq; exact leaves_marks hok.2 ds w' hm hR
 case exit id => obtain ⟨_, _, _, hq⟩ := hq; exact hq
theorem enterD3 {y : Bool} {g : FuncId} {fn : Func} {c : Code} {a0 a1 a2 : Value} {w : World} {R : Value → World → Prop} (hf : P.funcs[g]? = some fn) (hb : fn.body = some c) (hok : entryOkD fn c = true) (hargs : 3 ≤ fn.ntmps)
  (h : ∀ f : F, f 0 = a0 → f 1 = a1 → f 2 = a2 → DX Fence.wide y P fn.ntmps c (outD P fn w.heap.size R) (fun _ _ _ _ => False) (outD P fn w.heap.size R) [] f w) : Ret P g #[a0, a1, a2] w R :=
 enterD hf hb hok hargs fun f hfa => h f (by simpa using (hfa 0 sm).symm) (by simpa using (hfa 1 sm).symm) (by simpa using (hfa 2 sm).symm)
theorem loopN {Kn : F → World → Prop} {Ke : Nat → F → World → Prop} {Kr : F → World → Prop} {c : Code} (n : Nat) (I : Nat → F → World → Prop) (h0 : I 0 f w)
  (hr : ∀ k f w, k ≤ n → I k f w → CX P N c (fun f' w' => k < n ∧ I (k + 1) f' w') Ke Kr f w) : LX P N (.loop c) Kn Ke Kr f w := by
 refine loopX (fun m f w => ∃ k, m = n - k ∧ k ≤ n ∧ I k f w) n ⟨0, om, om, h0⟩ fun m f w ⟨k, hm, hk, hI⟩ => ?_
 refine cx_mono c (fun f' w' ⟨h1, h2⟩ => ⟨n - (k + 1), om, k + 1, rfl, om, h2⟩) (fun _ _ _ h => h) (hr k f w hk hI)
end
theorem callK_pure {P : Program} {g : FuncId} {args : Array Value} {k : Value → World → Prop} {w : World} {x : Value} (hg : goB P g = true) (hc : Ret P g args w fun v w' => v = x ∧ Ext w w')
  (h : ∀ w', Ext w w' → k x w') : callK false P g args k w := callK_of hg hc fun v w' ⟨e, hx⟩ => by subst e; exact h w' hx
attribute [go_sem ↓] DX_skip DX_region DX_draws DX_still DX_seq DX_cond DX_block DX_exit DX_ret DX_label DX_loop DX_range kxD_go
end Go.SW
