/- The walk's own ground, tenth part: ranges over a function; a function that holds one leaves with marks among its deferred calls. -/
import Derived.Test.YtlnodngkacbfkaaSwi
import Derived.RangeFuncNested
import Derived.RangeFuncLeaves
import Derived.RangeFuncCalls
set_option linter.all false
set_option maxRecDepth 20000
namespace Go.SW
open Go Go.RowKit

abbrev Mk := List Deferred
abbrev KD := Mk → F → World → Prop

def frD (N : Nat) (f : F) (ds : Mk) : Act := { tmps := (fr N f).tmps, defers := ds }
theorem frD_nil (N : Nat) (f : F) : frD N f [] = fr N f := (rfl)
theorem eval_frD (N : Nat) (f : F) (ds : Mk) : (frD N f ds).eval = (fr N f).eval := (rfl)

def noDef : Op → Bool
  | .defer _ => false
  | _ => true
def operOkD (N : Nat) (o : Oper) : Bool := operOk N o && noDef o.op

/-- A fence that lets every function in, whatever the depth. -/
structure OpenF (Fc : Fence) : Prop where
  fn : ∀ g, Fc.fn g
  dep : Fc.depth = none
  calls : ∀ {P : Program} {g : FuncId} {args : Array Value} {w : World} {R : Ending → World → Prop}, Calls P g args w R → CallsIn Fc 0 P g args w R
theorem openF_wide : OpenF Fence.wide := ⟨fun _ => trivial, rfl, fun h => callsIn_wide.2 h⟩
theorem openF_round (l : Nat) : OpenF (Fence.wide.inRound l) := ⟨fun _ => trivial, rfl, fun h => CallsIn.inRound l (callsIn_wide.2 h)⟩

theorem semAt_any {r : Option Nat} {ρ : Operand → Value} {o : Oper} (h : noDef o.op = true) : Oper.semAt r ρ o = execOp ρ o := by
  cases r with
  | none => exact Oper.semAt_none _ _
  | some l => exact Oper.semAt_some l ρ o fun c e => by rw [e] at h; simp [noDef] at h

theorem put_frD {N : Nat} {f : F} {ds : Mk} {o : Oper} {v : Value} (h : operOk N o = true) : (frD N f ds).put o.dst v = frD N (updO f o.dst v) ds := by
  have := put_fr' (f := f) (v := v) h
  simp only [frD, ← this]
  cases o.dst <;> rfl

theorem genK_uponIn {Fc : Fence} {P : Program} {o : Oper} {f : F} {k : Value → World → Prop} {w : World} {a : Act} {next : Act → World → Prop} {Q : Exit → Act → World → Prop}
    (hk : ∀ v w', k v w' → next (a.put o.dst v) w') (h : genK P o f k w) : o.uponIn Fc 0 P a next Q ((execOp (ev f) o).run P w) := by
  unfold genK at h
  split at h
  · rename_i v w' hr; rw [hr]; exact hk _ _ h
  · rename_i w' hr; rw [hr]; exact hk _ _ h
  · exact h.elim

theorem OW_uponIn {Fc : Fence} (hF : OpenF Fc) {P : Program} {o : Oper} {f : F} {k : Value → World → Prop} {w : World} {a : Act} {next : Act → World → Prop} {Q : Exit → Act → World → Prop}
    (hk : ∀ v w', k v w' → next (a.put o.dst v) w') (h : OW false P o f k w) : o.uponIn Fc 0 P a next Q ((execOp (ev f) o).run P w) := by
  unfold OW at h
  split at h
  · rename_i T x hop
    obtain ⟨v, hv, hkv⟩ := ldK_run h
    have hr : (execOp (ev f) o).run P w = .ok (.value v) w := by
      unfold execOp; rw [hop]; exact run_bindV hv
    rw [hr]; exact hk _ _ hkv
  · rename_i c hop
    split at h
    · rename_i x hc
      unfold fnK at h
      split at h
      · rename_i g first captured hx
        obtain ⟨hg, h⟩ := h
        simp only [Bool.false_eq_true, if_false] at h
        rw [callOp_run hop hc hx hg, Oper.uponIn_enter]
        refine ⟨fun hd => (by rw [hF.dep] at hd; cases hd), hF.calls (Calls.mono h fun e w'' ⟨v, he, hkv⟩ => ?_)⟩
        subst he
        exact hk _ _ hkv
      · simp only [Bool.false_eq_true, if_false] at h
        exact genK_uponIn hk h
    · simp only [Bool.false_eq_true, if_false] at h
      exact genK_uponIn hk h
  · simp only [Bool.false_eq_true, if_false] at h
    exact genK_uponIn hk h

theorem yielded_frD (N : Nat) (f : F) (ds : Mk) (ops : Array Oper) : yielded ops (frD N f ds).tmps = yielded ops (fr N f).tmps := (rfl)

theorem RL_wpListIn {Fc : Fence} (hF : OpenF Fc) {P : Program} {N : Nat} {ds : Mk} {ops : Array Oper} {K : F → World → Prop} {Q : Exit → Act → World → Prop} (hall : ∀ o ∈ ops, operOk N o = true)
    {rest : List Oper} (hQ : ∀ f w, K f w → wpListIn Fc 0 P ops Q rest (frD N f ds) w) :
    ∀ (l : List Oper) (f : F) (w : World), (∀ o ∈ l, operOkD N o = true) → RL false P ops K l f w → wpListIn Fc 0 P ops Q (l ++ rest) (frD N f ds) w
  | [], f, w, _, h => hQ f w h
  | o :: l, f, w, hl, h => by
    have hoD := hl o (List.mem_cons_self ..)
    simp only [operOkD, Bool.and_eq_true] at hoD
    obtain ⟨ho, hnd⟩ := hoD
    have hl' : ∀ o ∈ l, operOkD N o = true := fun o' h' => hl o' (List.mem_cons_of_mem _ h')
    have h' := guK_wanted hall h
    rw [List.cons_append]
    unfold wpListIn
    rw [yielded_frD]
    by_cases hw : Region.wanted o (yielded ops (fr N f).tmps) = true
    · rw [if_pos hw] at h' ⊢
      refine ⟨fun g _ => hF.fn g, ?_⟩
      rw [semAt_any hnd, eval_frD, exec_fr ho]
      cases hp : pv P f o.op with
      | some v =>
        rw [hp] at h'
        rw [pv_run hp, Oper.uponIn_value]
        rw [put_frD ho]
        exact RL_wpListIn hF hall hQ l _ _ hl' h'
      | none =>
        rw [hp] at h'
        refine OW_uponIn hF (k := fun v w' => RL false P ops K l (updO f o.dst v) w') (fun v w' hk => ?_) h'
        rw [put_frD ho]
        exact RL_wpListIn hF hall hQ l _ _ hl' hk
    · rw [if_neg hw] at h' ⊢
      refine ⟨fun g _ => hF.fn g, ?_⟩
      rw [put_frD ho]
      exact RL_wpListIn hF hall hQ l _ _ hl' h'

/-! ## code -/
def contD (N : Nat) (Kn : KD) (Ke : Nat → KD) (Kr : KD) : Exit → Act → World → Prop
  | .normal, a, w => ∃ f ds, a = frD N f ds ∧ Kn ds f w
  | .exit id, a, w => ∃ f ds, a = frD N f ds ∧ Ke id ds f w
  | .ret, a, w => ∃ f ds, a = frD N f ds ∧ Kr ds f w
  | _, _, _ => False

def codeOkD (N : Nat) : Code → Bool
  | .region _ ops _ => ops.all (operOkD N)
  | .seq a b => codeOkD N a && codeOkD N b
  | .cond c a b => xOk N c && codeOkD N a && codeOkD N b
  | .block _ c => codeOkD N c
  | .loop c => codeOkD N c
  | .rangeFunc f ps a b => xOk N f && codeOkD N a && codeOkD N b && ps.all (fun t => decide (t < N))
  | .skip => true
  | .exit _ => true
  | .ret => true
  | .label _ => true
  | _ => false

def CD (Fc : Fence) (P : Program) (N : Nat) (c : Code) (Kn : KD) (Ke : Nat → KD) (Kr : KD) (ds : Mk) (f : F) (w : World) : Prop :=
  codeOkD N c = true → c.wpIn Fc 0 P (contD N Kn Ke Kr) (frD N f ds) w

/-- Opaque to simp: loops, ranges over a function, regions that draw. -/
def LD (Fc : Fence) (P : Program) (N : Nat) (c : Code) (Kn : KD) (Ke : Nat → KD) (Kr : KD) (ds : Mk) (f : F) (w : World) : Prop := CD Fc P N c Kn Ke Kr ds f w

def kxD (id : Nat) (Kn : KD) (Ke : Nat → KD) (j : Nat) (ds : Mk) (f : F) (w : World) : Prop := kbK (decide (j = id)) (Kn ds) (Ke j ds) f w

def DX (Fc : Fence) (y : Bool) (P : Program) (N : Nat) : Code → KD → (Nat → KD) → KD → Mk → F → World → Prop
  | .skip, Kn, _, _, ds, f, w => Kn ds f w
  | .region id ops draw, Kn, Ke, Kr, ds, f, w => match draw || y with
    | true => LD Fc P N (.region id ops draw) Kn Ke Kr ds f w
    | false => RL false P ops (Kn ds) ops.toList f w
  | .seq a b, Kn, Ke, Kr, ds, f, w => DX Fc y P N a (DX Fc y P N b Kn Ke Kr) Ke Kr ds f w
  | .cond c a b, Kn, Ke, Kr, ds, f, w => cdK (ev f c) (DX Fc y P N a Kn Ke Kr ds) (DX Fc y P N b Kn Ke Kr ds) f w
  | .block id c, Kn, Ke, Kr, ds, f, w => DX Fc y P N c Kn (kxD id Kn Ke) Kr ds f w
  | .exit id, _, Ke, _, ds, f, w => Ke id ds f w
  | .ret, _, _, Kr, ds, f, w => Kr ds f w
  | .label _, Kn, _, _, ds, f, w => Kn ds f w
  | c, Kn, Ke, Kr, ds, f, w => LD Fc P N c Kn Ke Kr ds f w

theorem cd_any {Fc : Fence} {P : Program} {N : Nat} {c : Code} {Kn Kn' : KD} {Ke Ke' : Nat → KD} {Kr Kr' : KD} {ds : Mk} {f : F} {w : World} (h : CD Fc P N c Kn Ke Kr ds f w)
    (h1 : ∀ ds f w, Kn ds f w → Kn' ds f w) (h3 : ∀ j ds f w, Ke j ds f w → Ke' j ds f w) (h2 : ∀ ds f w, Kr ds f w → Kr' ds f w) : CD Fc P N c Kn' Ke' Kr' ds f w := by
  intro hok
  refine wpIn_mono (h hok) ?_
  intro e a w hq
  cases e <;> simp only [contD] at hq ⊢
  case normal => obtain ⟨f, ds, rfl, hf⟩ := hq; exact ⟨f, ds, rfl, h1 _ _ _ hf⟩
  case ret => obtain ⟨f, ds, rfl, hf⟩ := hq; exact ⟨f, ds, rfl, h2 _ _ _ hf⟩
  case exit id => obtain ⟨f, ds, rfl, hf⟩ := hq; exact ⟨f, ds, rfl, h3 _ _ _ _ hf⟩
  all_goals first | exact hq | exact hq.elim

theorem rl_cd {Fc : Fence} (hF : OpenF Fc) {P : Program} {N : Nat} {id : Nat} {ops : Array Oper} {Kn : KD} {Ke : Nat → KD} {Kr : KD} {ds : Mk} {f : F} {w : World} (h : RL false P ops (Kn ds) ops.toList f w) : CD Fc P N (.region id ops false) Kn Ke Kr ds f w := by
  intro hok
  have hall : ∀ o ∈ ops, operOkD N o = true := Array.all_eq_true_iff_forall_mem.1 hok
  have hall' : ∀ o ∈ ops, operOk N o = true := fun o ho => by have := hall o ho; simp only [operOkD, Bool.and_eq_true] at this; exact this.1
  refine wpIn_region_list ?_
  have := RL_wpListIn hF (Q := contD N Kn Ke Kr) (rest := []) hall' (fun f w hK => wpListIn_nil ⟨f, ds, rfl, hK⟩) ops.toList f w (fun o ho => hall o (Array.mem_toList_iff.1 ho)) h
  simpa using this

theorem eval_frD' (N : Nat) (f : F) (ds : Mk) (x : Operand) (h : xOk N x = true) : (frD N f ds).eval x = ev f x := by rw [eval_frD]; exact eval_fr N f x h

theorem dx_sound {Fc : Fence} (hF : OpenF Fc) {y : Bool} {P : Program} {N : Nat} : ∀ (c : Code) {Kn : KD} {Ke : Nat → KD} {Kr : KD} {ds : Mk} {f : F} {w : World}, DX Fc y P N c Kn Ke Kr ds f w → CD Fc P N c Kn Ke Kr ds f w := by
  intro c
  induction c with
  | skip => intro _ _ _ _ _ _ h _; exact wpIn_skip ⟨_, _, rfl, h⟩
  | region id ops draw =>
    intro Kn Ke Kr ds f w h
    simp only [DX] at h
    split at h
    · exact h
    · rename_i e
      obtain rfl : draw = false := by cases draw <;> simp_all
      exact rl_cd hF h
  | seq a b iha ihb =>
    intro Kn Ke Kr ds f w h hok
    simp only [codeOkD, Bool.and_eq_true] at hok
    refine wpIn_seq (wpIn_mono (iha h hok.1) ?_)
    intro e a w hq
    cases e <;> simp only [contD, Exit.then] at hq ⊢
    case normal => obtain ⟨f, ds, rfl, hf⟩ := hq; exact ihb hf hok.2
    all_goals first | exact hq | exact hq.elim
  | cond c a b iha ihb =>
    intro _ _ _ ds f w h hok
    simp only [codeOkD, Bool.and_eq_true] at hok
    simp only [DX] at h
    unfold cdK at h
    split at h
    · rename_i t ht
      exact wpIn_cond_split (t := t) (by rw [eval_frD' N f ds c hok.1.1]; exact ht) (fun e => iha (h.1 e) hok.1.2) (fun e => ihb (h.2 e) hok.2)
    · exact h.elim
  | block id c ih =>
    intro _ _ _ _ _ _ h hok
    refine wpIn_block (wpIn_mono (ih h hok) ?_)
    intro e a w hq
    cases e <;> simp only [contD, Exit.inBlock] at hq ⊢
    case exit j =>
      obtain ⟨f, ds, rfl, hf⟩ := hq
      unfold kxD kbK at hf
      split
      · rename_i e; rw [decide_eq_true e] at hf; exact ⟨f, ds, rfl, hf⟩
      · rename_i e; rw [decide_eq_false e] at hf; exact ⟨f, ds, rfl, hf⟩
    all_goals first | exact hq | exact hq.elim
  | exit id => intro _ _ _ _ _ _ h _; exact wpIn_exit ⟨_, _, rfl, h⟩
  | ret => intro _ _ _ _ _ _ h _; exact wpIn_ret ⟨_, _, rfl, h⟩
  | label l => intro _ _ _ _ _ _ h _; exact wpIn_label ⟨_, _, rfl, h⟩
  | loop c ih => intro _ _ _ _ _ _ h; exact h
  | rangeFunc g ps a b iha ihb => intro _ _ _ _ _ _ h; exact h
  | scope c ih => intro _ _ _ _ _ _ h; exact h
  | goto l => intro _ _ _ _ _ _ h; exact h
  | refuse s => intro _ _ _ _ _ _ h; exact h

section
variable {Fc : Fence} {y : Bool} {P : Program} {N : Nat} {Kn : KD} {Ke : Nat → KD} {Kr : KD} {ds : Mk} {f : F} {w : World}
theorem DX_skip : DX Fc y P N .skip Kn Ke Kr ds f w = Kn ds f w := (rfl)
theorem DX_region (id : Nat) (l : List Oper) : DX Fc false P N (.region id l.toArray false) Kn Ke Kr ds f w = RL false P l.toArray (Kn ds) l f w := (rfl)
theorem DX_draws (id : Nat) (ops : Array Oper) : DX Fc y P N (.region id ops true) Kn Ke Kr ds f w = LD Fc P N (.region id ops true) Kn Ke Kr ds f w := (rfl)
theorem DX_still (id : Nat) (ops : Array Oper) : DX Fc true P N (.region id ops false) Kn Ke Kr ds f w = LD Fc P N (.region id ops false) Kn Ke Kr ds f w := (rfl)
/-- A region of a function that calls yield. -/
theorem regD (hF : OpenF Fc) {id : Nat} {l : List Oper} (h : RL false P l.toArray (Kn ds) l f w) : LD Fc P N (.region id l.toArray false) Kn Ke Kr ds f w := rl_cd hF h
theorem DX_seq (a b : Code) : DX Fc y P N (.seq a b) Kn Ke Kr ds f w = DX Fc y P N a (DX Fc y P N b Kn Ke Kr) Ke Kr ds f w := (rfl)
theorem DX_cond (c : Operand) (a b : Code) : DX Fc y P N (.cond c a b) Kn Ke Kr ds f w = cdK (ev f c) (DX Fc y P N a Kn Ke Kr ds) (DX Fc y P N b Kn Ke Kr ds) f w := (rfl)
theorem DX_block (id : Nat) (c : Code) : DX Fc y P N (.block id c) Kn Ke Kr ds f w = DX Fc y P N c Kn (kxD id Kn Ke) Kr ds f w := (rfl)
theorem DX_exit (id : Nat) : DX Fc y P N (.exit id) Kn Ke Kr ds f w = Ke id ds f w := (rfl)
theorem DX_ret : DX Fc y P N .ret Kn Ke Kr ds f w = Kr ds f w := (rfl)
theorem DX_label (l : Nat) : DX Fc y P N (.label l) Kn Ke Kr ds f w = Kn ds f w := (rfl)
theorem DX_loop (c : Code) : DX Fc y P N (.loop c) Kn Ke Kr ds f w = LD Fc P N (.loop c) Kn Ke Kr ds f w := (rfl)
theorem DX_range (g : Operand) (ps : Array Tmp) (a b : Code) : DX Fc y P N (.rangeFunc g ps a b) Kn Ke Kr ds f w = LD Fc P N (.rangeFunc g ps a b) Kn Ke Kr ds f w := (rfl)
theorem kxD_go (id j : Nat) : kxD id Kn Ke j ds f w = kbK (decide (j = id)) (Kn ds) (Ke j ds) f w := (rfl)

/-- A loop, with a number that falls. -/
theorem loopD (hF : OpenF Fc) {c : Code} (I : Nat → KD) (n0 : Nat) (h0 : I n0 ds f w)
    (hr : ∀ n ds f w, I n ds f w → DX Fc y P N c (fun ds' f' w' => ∃ m, m < n ∧ I m ds' f' w') Ke Kr ds f w) : LD Fc P N (.loop c) Kn Ke Kr ds f w := by
  intro hok
  have hok' : codeOkD N c = true := hok
  haveI hdec : ∀ p : Prop, Decidable p := Classical.propDecidable
  let J : Act → World → Nat → Prop := fun a w n => ∃ f ds, a = frD N f ds ∧ I n ds f w
  have least : ∀ (p : Nat → Prop), (∃ n, p n) → ∃ n, p n ∧ ∀ m, m < n → ¬ p m := by
    intro p ⟨n, hn⟩
    induction n using Nat.strongRecOn with
    | _ n ih =>
      by_cases h : ∃ m, m < n ∧ p m
      · obtain ⟨m, hm, hp⟩ := h; exact ih m hm hp
      · exact ⟨n, hn, fun m hm hp => h ⟨m, hm, hp⟩⟩
  let μ : Act → World → Nat := fun a w => if h : ∃ n, J a w n then Classical.choose (least _ h) else 0
  have μ_le : ∀ a w n, J a w n → μ a w ≤ n := by
    intro a w n hn
    have h : ∃ n, J a w n := ⟨n, hn⟩
    have hs := Classical.choose_spec (least _ h)
    simp only [μ, dif_pos h]
    exact Nat.le_of_not_lt fun hlt => hs.2 n hlt hn
  have μ_spec : ∀ a w, (∃ n, J a w n) → J a w (μ a w) := by
    intro a w h
    simp only [μ, dif_pos h]
    exact (Classical.choose_spec (least _ h)).1
  refine wpIn_loop (fun a w => ∃ n, J a w n) μ ⟨n0, f, ds, rfl, h0⟩ ?_
  intro a w hJ
  obtain ⟨f, ds, rfl, hI⟩ := μ_spec a w hJ
  refine wpIn_mono (dx_sound hF c (hr _ ds f w hI) hok') ?_
  intro e a' w' hq
  cases e <;> simp only [contD, Exit.then] at hq ⊢
  case normal =>
    obtain ⟨f', ds', rfl, m, hm, hI'⟩ := hq
    exact ⟨⟨m, f', ds', rfl, hI'⟩, Nat.lt_of_le_of_lt (μ_le _ _ m ⟨f', ds', rfl, hI'⟩) hm⟩
  all_goals first | exact hq | exact hq.elim

/-- A region that draws, where no mark has been laid. -/
theorem drawD {id : Nat} {ops : Array Oper} (h : QR P N id ops (Kn []) (fun j => Ke j []) (Kr []) f w) (hall : codeOk N (.region id ops true) = true) : LD Fence.wide P N (.region id ops true) Kn Ke Kr [] f w := by
  intro _
  refine wpIn_wide.2 (wp_mono (h hall) ?_)
  intro e a w hq
  cases e <;> simp only [cont, contD] at hq ⊢
  case normal => obtain ⟨f, rfl, hf⟩ := hq; exact ⟨f, [], rfl, hf⟩
  case ret => obtain ⟨f, rfl, hf⟩ := hq; exact ⟨f, [], rfl, hf⟩
  case exit id => obtain ⟨f, rfl, hf⟩ := hq; exact ⟨f, [], rfl, hf⟩
  all_goals exact hq

/-- A region whose last operation calls yield. -/
theorem yieldD (hF : OpenF Fc) {id : Nat} (pre : List Oper) {o : Oper} {x : Operand} {args : Array Operand} {ts : Array TypeId} (ho : o.op = .call ⟨.value x, args, ts⟩) (hg : o.guard = none)
    (h : RL false P (pre ++ [o]).toArray (fun f' w' => ∃ l fn tmps assign body, ev f' x = .func (.yield l) #[] #[] ∧
      (Instr.yield l (args.map (ev f'))).run P w' = .ok (.round l fn tmps assign body) w' ∧ RoundIn Fc 0 P l fn tmps assign body w' fun e w'' => ∃ v, e = .returned v ∧ Kn ds (updO f' o.dst v) w'') pre f w) :
    LD Fc P N (.region id (pre ++ [o]).toArray false) Kn Ke Kr ds f w := by
  intro hok
  have hall : ∀ o' ∈ (pre ++ [o]).toArray, operOkD N o' = true := Array.all_eq_true_iff_forall_mem.1 hok
  have hall' : ∀ o' ∈ (pre ++ [o]).toArray, operOk N o' = true := fun o' ho' => by have := hall o' ho'; simp only [operOkD, Bool.and_eq_true] at this; exact this.1
  refine wpIn_region_list ?_
  have key := RL_wpListIn hF (ds := ds) (Q := contD N Kn Ke Kr) (rest := [o]) hall' (fun f' w' hK => ?_) pre f w (fun o' ho' => hall o' (by simp [ho'])) h
  · simpa using key
  · obtain ⟨l, fn, tmps, assign, body, hx, hy, hr⟩ := hK
    have hlast := hall' o (by simp)
    refine wpListIn_plain hg fun K hKK => ⟨fun g _ => hF.fn g, ?_⟩
    rw [semAt_any (by rw [ho]; rfl), eval_frD, exec_fr hlast]
    have hrun : (execOp (ev f') o).run P w' = .ok (.round l fn tmps assign body) w' := by
      unfold execOp
      rw [ho]
      refine (run_bindV (a := { target := .fn (.yield l) #[], args := args.map (ev f') }) (w' := w') ?_).trans ?_
      · simp [resolve, hx, Deferred.ofValue]
      · simpa [invoke] using hy
    rw [hrun, Oper.uponIn_round]
    refine ⟨fun hd => (by rw [hF.dep] at hd; cases hd), RoundIn.mono hr fun e w'' ⟨v, he, hk⟩ => ?_⟩
    subst he
    exact hKK _ _ (wpListIn_nil ⟨updO f' o.dst v, ds, put_frD hlast, hk⟩)
/-- A region of n + 1 operations, the last of which calls yield. -/
theorem yieldN (hF : OpenF Fc) {id : Nat} (n : Nat) {l : List Oper} {o : Oper} {x : Operand} {args : Array Operand} {ts : Array TypeId} (hl : l = l.take n ++ [o]) (ho : o.op = .call ⟨.value x, args, ts⟩) (hg : o.guard = none)
    (h : RL false P l.toArray (fun f' w' => ∃ r fn tmps assign body, ev f' x = .func (.yield r) #[] #[] ∧
      (Instr.yield r (args.map (ev f'))).run P w' = .ok (.round r fn tmps assign body) w' ∧ RoundIn Fc 0 P r fn tmps assign body w' fun e w'' => ∃ v, e = .returned v ∧ Kn ds (updO f' o.dst v) w'') (l.take n) f w) :
    LD Fc P N (.region id l.toArray false) Kn Ke Kr ds f w := by
  generalize l.take n = pre at hl h
  subst hl
  exact yieldD hF pre ho hg h
end

end Go.SW
