/- The walk's own ground, third part: rules for code, a function's entry, its results. -/
import Derived.Test.YtlnodngkacbfkaaSwb
set_option linter.all false
set_option maxRecDepth 20000
namespace Go.SW
open Go Go.RowKit

def cont (N : Nat) (Kn : F → World → Prop) (Ke : Nat → F → World → Prop) (Kr : F → World → Prop) : Exit → Act → World → Prop
  | .normal, a, w => ∃ f, a = fr N f ∧ Kn f w
  | .exit id, a, w => ∃ f, a = fr N f ∧ Ke id f w
  | .ret, a, w => ∃ f, a = fr N f ∧ Kr f w
  | _, _, _ => False

def codeOk (N : Nat) : Code → Bool
  | .region _ ops _ => ops.all (operOk N)
  | .seq a b => codeOk N a && codeOk N b
  | .cond c a b => xOk N c && codeOk N a && codeOk N b
  | .block _ c => codeOk N c
  | .loop c => codeOk N c
  | .rangeFunc f ps a b => xOk N f && codeOk N a && codeOk N b && ps.all (fun t => decide (t < N))
  | .scope c => codeOk N c
  | _ => true

/-- The code c, from the frame f in the world w: it leaves by one of three doors. -/
def CW (P : Program) (N : Nat) (c : Code) (Kn : F → World → Prop) (Ke : Nat → F → World → Prop) (Kr : F → World → Prop) (f : F) (w : World) : Prop :=
  codeOk N c = true → c.wp P (cont N Kn Ke Kr) (fr N f) w

section
variable {P : Program} {N : Nat} {Kn : F → World → Prop} {Ke : Nat → F → World → Prop} {Kr : F → World → Prop} {f : F} {w : World}

theorem cw_seq {x y : Code} (h : ∀ K : F → World → Prop, (∀ f w, CW P N y Kn Ke Kr f w → K f w) → CW P N x K Ke Kr f w) : CW P N (.seq x y) Kn Ke Kr f w := by
  intro hok
  simp only [codeOk, Bool.and_eq_true] at hok
  refine wp_seq (wp_mono (h (fun f w => CW P N y Kn Ke Kr f w) (fun _ _ h => h) hok.1) ?_)
  intro e a w hq
  cases e <;> simp only [cont, Exit.then] at hq ⊢
  case normal => obtain ⟨f, rfl, hf⟩ := hq; exact hf hok.2
  all_goals first | exact hq | exact hq.elim

theorem cw_skip (h : Kn f w) : CW P N .skip Kn Ke Kr f w := fun _ => wp_skip ⟨f, rfl, h⟩
theorem cw_ret (h : Kr f w) : CW P N .ret Kn Ke Kr f w := fun _ => wp_ret ⟨f, rfl, h⟩
theorem cw_exit {id : Nat} (h : Ke id f w) : CW P N (.exit id) Kn Ke Kr f w := fun _ => wp_exit ⟨f, rfl, h⟩
theorem cw_label {id : Nat} (h : Kn f w) : CW P N (.label id) Kn Ke Kr f w := fun _ => wp_label ⟨f, rfl, h⟩

def kb (id : Nat) (Kn : F → World → Prop) (Ke : Nat → F → World → Prop) : Nat → F → World → Prop := fun j => if j = id then Kn else Ke j
theorem kb_same (id : Nat) (Kn : F → World → Prop) (Ke : Nat → F → World → Prop) (f : F) (w : World) (h : Kn f w) : kb id Kn Ke id f w := by simp only [kb, if_true]; exact h
theorem kb_ne {id j : Nat} (hj : j ≠ id) (Kn : F → World → Prop) (Ke : Nat → F → World → Prop) (f : F) (w : World) (h : Ke j f w) : kb id Kn Ke j f w := by simp only [kb, if_neg hj]; exact h

theorem cw_block {id : Nat} {c : Code} (h : CW P N c Kn (kb id Kn Ke) Kr f w) : CW P N (.block id c) Kn Ke Kr f w := by
  intro hok
  refine wp_block (wp_mono (h hok) ?_)
  intro e a w hq
  cases e <;> simp only [cont, Exit.inBlock] at hq ⊢
  case exit j =>
    obtain ⟨f, rfl, hf⟩ := hq
    unfold kb at hf
    split
    · rename_i e; rw [if_pos e] at hf; exact ⟨f, rfl, hf⟩
    · rename_i e; rw [if_neg e] at hf; exact ⟨f, rfl, hf⟩
  all_goals first | exact hq | exact hq.elim

def cndK (v : Value) (p q : Prop) : Prop :=
  match v with
  | .bool b => (b = true → p) ∧ (b = false → q)
  | _ => False
theorem cndK_bool (b : Bool) (p q : Prop) : cndK (.bool b) p q = ((b = true → p) ∧ (b = false → q)) := (rfl)

theorem cw_cond {c : Operand} {x y : Code} (h : cndK (ev f c) (CW P N x Kn Ke Kr f w) (CW P N y Kn Ke Kr f w)) : CW P N (.cond c x y) Kn Ke Kr f w := by
  intro hok
  simp only [codeOk, Bool.and_eq_true] at hok
  unfold cndK at h
  split at h
  · rename_i b hb
    refine wp_cond_split (t := b) (by rw [eval_fr N f c hok.1.1]; exact hb) (fun e => h.1 e hok.1.2) (fun e => h.2 e hok.2)
  · exact h.elim

theorem cw_if_true {c : Operand} {x y : Code} (hc : ev f c = .bool true) (h : CW P N x Kn Ke Kr f w) : CW P N (.cond c x y) Kn Ke Kr f w := by
  refine cw_cond ?_; rw [hc]; exact ⟨fun _ => h, fun e => (by cases e)⟩
theorem cw_if_false {c : Operand} {x y : Code} (hc : ev f c = .bool false) (h : CW P N y Kn Ke Kr f w) : CW P N (.cond c x y) Kn Ke Kr f w := by
  refine cw_cond ?_; rw [hc]; exact ⟨fun e => (by cases e), fun _ => h⟩

/-- A loop, with a number that falls from round to round. -/
theorem cw_loop {c : Code} (I : Nat → F → World → Prop) (n0 : Nat) (h0 : I n0 f w)
    (hr : ∀ n f w, I n f w → ∀ K : F → World → Prop, (∀ m f' w', m < n → I m f' w' → K f' w') → CW P N c K Ke Kr f w) : CW P N (.loop c) Kn Ke Kr f w := by
  intro hok
  have hok' : codeOk N c = true := hok
  haveI hdec : ∀ p : Prop, Decidable p := Classical.propDecidable
  let J : Act → World → Nat → Prop := fun a w n => ∃ f, a = fr N f ∧ I n f w
  have least : ∀ (p : Nat → Prop), (∃ n, p n) → ∃ n, p n ∧ ∀ m, m < n → ¬ p m := by
    intro p ⟨n, hn⟩
    induction n using Nat.strongRecOn with
    | _ n ih =>
      by_cases h : ∃ m, m < n ∧ p m
      · obtain ⟨m, hm, hp⟩ := h; exact ih m hm hp
      · exact ⟨n, hn, fun m hm hp => h ⟨m, hm, hp⟩⟩
  let μ : Act → World → Nat := fun a w => if h : ∃ n, J a w n then Classical.choose (least _ h) else 0
  have μ_le : ∀ a w n, J a w n → μ a w ≤ n := by
    intro a w n hn
    have h : ∃ n, J a w n := ⟨n, hn⟩
    have hs := Classical.choose_spec (least _ h)
    simp only [μ, dif_pos h]
    exact Nat.le_of_not_lt fun hlt => hs.2 n hlt hn
  have μ_spec : ∀ a w, (∃ n, J a w n) → J a w (μ a w) := by
    intro a w h
    simp only [μ, dif_pos h]
    exact (Classical.choose_spec (least _ h)).1
  refine wp_loop (fun a w => ∃ n, J a w n) μ ⟨n0, f, rfl, h0⟩ ?_
  intro a w hJ
  obtain ⟨f, rfl, hI⟩ := μ_spec a w hJ
  refine wp_mono (hr _ f w hI (fun f' w' => ∃ m, m < μ (fr N f) w ∧ I m f' w') (fun m f' w' hm hI' => ⟨m, hm, hI'⟩) hok') ?_
  intro e a' w' hq
  cases e <;> simp only [cont, Exit.then] at hq ⊢
  case normal =>
    obtain ⟨f', rfl, m, hm, hI'⟩ := hq
    exact ⟨⟨m, f', rfl, hI'⟩, Nat.lt_of_le_of_lt (μ_le _ _ m ⟨f', rfl, hI'⟩) hm⟩
  all_goals first | exact hq | exact hq.elim

theorem cw_region {id : Nat} {ops : Array Oper} (h : RL false P ops Kn ops.toList f w) : CW P N (.region id ops false) Kn Ke Kr f w := by
  intro hok
  have hall : ∀ o ∈ ops, operOk N o = true := Array.all_eq_true_iff_forall_mem.1 hok
  exact wp_region_list (RL_wpList hall (fun f w hK => ⟨f, rfl, hK⟩) ops.toList f w (fun o ho => hall o (Array.mem_toList_iff.1 ho)) h)

theorem cw_draws {id : Nat} {ops : Array Oper} (hm : P.follows .mixedOrders = true) (hB : Region.lexB .any ops = true) (h : RL true P ops Kn ops.toList f w) : CW P N (.region id ops true) Kn Ke Kr f w := by
  intro hok
  have hall : ∀ o ∈ ops, operOk N o = true := Array.all_eq_true_iff_forall_mem.1 hok
  refine wp_region_quiet (C := Ext w) hm hB (Ext.drew w) ?_
  exact RL_wpQuiet hall (fun f hK w' e => ⟨f, rfl, hK w' e⟩) ops.toList f (fun o ho => hall o (Array.mem_toList_iff.1 ho)) h

theorem cw_mono {c : Code} {Kn' : F → World → Prop} {Kr' : F → World → Prop} (h : CW P N c Kn Ke Kr f w) (h1 : ∀ f w, Kn f w → Kn' f w) (h2 : ∀ f w, Kr f w → Kr' f w) : CW P N c Kn' Ke Kr' f w := by
  intro hok
  refine wp_mono (h hok) ?_
  intro e a w hq
  cases e <;> simp only [cont] at hq ⊢
  case normal => obtain ⟨f, rfl, hf⟩ := hq; exact ⟨f, rfl, h1 _ _ hf⟩
  case ret => obtain ⟨f, rfl, hf⟩ := hq; exact ⟨f, rfl, h2 _ _ hf⟩
  all_goals first | exact hq | exact hq.elim
end

/-! ## a function's entry -/
def resK (P : Program) (rs : List ResultVar) (f : F) (w : World) : Option (List Value) :=
  match rs with
  | [] => some []
  | .tmp t :: rs => (resK P rs f w).map (f t :: ·)
  | .cell a T :: rs =>
    match f a with
    | .pointer (some p) => if scal P T then match w.cell? p, resK P rs f w with
        | some v, some vs => some (v :: vs)
        | _, _ => none
      else match aggN P T with
        | some n => match readCells w p n, resK P rs f w with
          | some cs, some vs => some (.agg cs.toArray :: vs)
          | _, _ => none
        | none => none
    | _ => none

def tup : List Value → Value
  | [v] => v
  | vs => .tuple vs.toArray

def outK (P : Program) (fn : Func) (R : Value → World → Prop) (f : F) (w : World) : Prop :=
  match resK P fn.results.toList f w with
  | some vs => R (tup vs) w
  | none => False

def resOk (N : Nat) (rs : List ResultVar) : Bool := rs.all fun | .tmp t => decide (t < N) | .cell a _ => decide (a < N)

theorem resK_run {P : Program} {N : Nat} {f : F} {w : World} : ∀ (rs : List ResultVar) (vs : List Value), resOk N rs = true → resK P rs f w = some vs →
    (rs.mapM (m := Sem) fun
      | .tmp t => pure ((fr N f).tmps.getD t undef)
      | .cell a t => do loadVar t (← asAddr ((fr N f).tmps.getD a undef))).run P w = .ok vs w
  | [], vs, _, h => by simp only [resK, Option.some.injEq] at h; subst h; rfl
  | .tmp t :: rs, vs, hok, h => by
    simp only [resOk, List.all_cons, Bool.and_eq_true, decide_eq_true_eq] at hok
    simp only [resK] at h
    cases hr : resK P rs f w with
    | none => simp [hr] at h
    | some us =>
      simp only [hr, Option.map_some, Option.some.injEq] at h
      subst h
      rw [List.mapM_cons]
      refine (run_bindV (a := f t) (w' := w) ?_).trans ((run_bindV (resK_run rs us hok.2 hr)).trans rfl)
      simp only [getD_fr N f t hok.1]; rfl
  | .cell a T :: rs, vs, hok, h => by
    simp only [resOk, List.all_cons, Bool.and_eq_true, decide_eq_true_eq] at hok
    simp only [resK] at h
    have hload : ∀ p v, f a = .pointer (some p) → (loadVar T p).run P w = .ok v w →
        (do loadVar T (← asAddr ((fr N f).tmps.getD a undef)) : Sem Value).run P w = .ok v w := fun p v ha hl => by
      refine (run_bindV (a := p) (w' := w) ?_).trans hl
      simp only [getD_fr N f a hok.1, ha]; rfl
    split at h
    · rename_i p ha
      split at h
      · rename_i hs
        split at h
        · rename_i v us hc hr
          simp only [Option.some.injEq] at h
          subst h
          obtain ⟨u, hu, rfl⟩ := ldK_run (P := P) (T := T) (x := .pointer (some p)) (k := fun u _ => u = v) (w := w) (by simp only [ldK, hs, if_true, hc, rdK])
          rw [List.mapM_cons]
          exact (run_bindV (hload p _ ha hu)).trans ((run_bindV (resK_run rs us hok.2 hr)).trans rfl)
        · cases h
      · rename_i hs
        split at h
        · rename_i n hn
          split at h
          · rename_i cs us hc hr
            simp only [Option.some.injEq] at h
            subst h
            obtain ⟨u, hu, rfl⟩ := ldK_run (P := P) (T := T) (x := .pointer (some p)) (k := fun u _ => u = .agg cs.toArray) (w := w) (by simp only [ldK, hs, hn, hc, rdcK]; simp)
            rw [List.mapM_cons]
            exact (run_bindV (hload p _ ha hu)).trans ((run_bindV (resK_run rs us hok.2 hr)).trans rfl)
          · cases h
        · cases h
    · cases h

theorem outK_run {P : Program} {fn : Func} {N : Nat} {R : Value → World → Prop} {f : F} {w : World} (hok : resOk N fn.results.toList = true) (h : outK P fn R f w) :
    ∃ v, (results fn (fr N f).tmps).run P w = .ok v w ∧ R v w := by
  unfold outK at h
  cases hr : resK P fn.results.toList f w with
  | none => rw [hr] at h; exact h.elim
  | some vs =>
    rw [hr] at h
    refine ⟨_, ?_, h⟩
    unfold results
    rw [Array.mapM_eq_mapM_toList]
    have := resK_run (P := P) (N := N) fn.results.toList vs hok hr
    refine (run_bindV (a := vs.toArray) (w' := w) ?_).trans ?_
    · rw [map_eq_pure_bind]
      exact (run_bindV this).trans rfl
    · match vs with
      | [] => rfl
      | [v] => rfl
      | v :: u :: l => simp [tup]

def entryOk (fn : Func) (c : Code) : Bool := codeOk fn.ntmps c && resOk fn.ntmps fn.results.toList

/-- A function is entered: its arguments lie in the first slots. -/
theorem enter {P : Program} {g : FuncId} {fn : Func} {c : Code} {args : Array Value} {w : World} {R : Value → World → Prop} (hf : P.funcs[g]? = some fn) (hb : fn.body = some c)
    (hok : entryOk fn c = true) (hargs : args.size ≤ fn.ntmps)
    (h : ∀ f : F, (∀ i, i < args.size → args[i]? = some (f i)) → CW P fn.ntmps c (outK P fn R) (fun _ _ _ => False) (outK P fn R) f w) :
    Calls P g args w fun e w' => ∃ v, e = .returned v ∧ R v w' := by
  simp only [entryOk, Bool.and_eq_true] at hok
  refine calls_of_wp hf hb ?_
  let f : F := fun i => (args[i]?).getD undef
  have hfr : ({ tmps := args ++ Array.replicate (fn.ntmps - args.size) undef, defers := [] } : Act) = fr fn.ntmps f := by
    unfold fr
    congr 1
    apply Array.ext
    · simp; omega
    · intro i h1 h2
      simp only [Array.getElem_ofFn, f]
      by_cases hi : i < args.size
      · rw [Array.getElem_append_left hi, Array.getElem?_eq_getElem hi]; rfl
      · rw [Array.getElem_append_right (by omega), Array.getElem?_eq_none (by omega)]; simp
  rw [hfr]
  refine wp_mono (h f (fun i hi => by simp only [f]; rw [Array.getElem?_eq_getElem hi]; rfl) hok.1) ?_
  intro e a w hq
  cases e <;> simp only [cont, bodyPost] at hq ⊢
  case normal =>
    obtain ⟨f, rfl, hR⟩ := hq
    obtain ⟨v, hv, hR'⟩ := outK_run hok.2 hR
    exact ⟨rfl, v, hv, v, rfl, hR'⟩
  case ret =>
    obtain ⟨f, rfl, hR⟩ := hq
    obtain ⟨v, hv, hR'⟩ := outK_run hok.2 hR
    exact ⟨rfl, v, hv, v, rfl, hR'⟩
  case exit id => obtain ⟨f, _, hx⟩ := hq; exact hx.elim
  all_goals exact hq.elim

theorem outK_0 {P : Program} {fn : Func} {R : Value → World → Prop} {f : F} {w : World} (h : fn.results = #[]) (hR : R (.tuple #[]) w) : outK P fn R f w := by
  simp only [outK, h, resK, tup]; exact hR
theorem outK_1 {P : Program} {fn : Func} {R : Value → World → Prop} {f : F} {w : World} {t : Nat} (h : fn.results = #[.tmp t]) (hR : R (f t) w) : outK P fn R f w := by
  simp only [outK, h, resK, tup, Option.map_some]; exact hR
theorem outK_2 {P : Program} {fn : Func} {R : Value → World → Prop} {f : F} {w : World} {t u : Nat} (h : fn.results = #[.tmp t, .tmp u]) (hR : R (.tuple #[f t, f u]) w) : outK P fn R f w := by
  simp only [outK, h, resK, tup, Option.map_some]; exact hR
theorem outK_3 {P : Program} {fn : Func} {R : Value → World → Prop} {f : F} {w : World} {t u x : Nat} (h : fn.results = #[.tmp t, .tmp u, .tmp x]) (hR : R (.tuple #[f t, f u, f x]) w) : outK P fn R f w := by
  simp only [outK, h, resK, tup, Option.map_some]; exact hR
theorem outK_c {P : Program} {fn : Func} {R : Value → World → Prop} {f : F} {w : World} {t T : Nat} {p : Addr} {n : Nat} {cs : List Value} (h : fn.results = #[.cell t T]) (ht : f t = .pointer (some p)) (hs : scal P T = false) (hn : aggN P T = some n)
    (hc : readCells w p n = some cs) (hR : R (.agg cs.toArray) w) : outK P fn R f w := by
  simp only [outK, h, resK, tup, ht, hs, hn, hc, Bool.false_eq_true, if_false]; exact hR
theorem outK_c1 {P : Program} {fn : Func} {R : Value → World → Prop} {f : F} {w : World} {t T u : Nat} {p : Addr} {n : Nat} {cs : List Value} (h : fn.results = #[.cell t T, .tmp u]) (ht : f t = .pointer (some p)) (hs : scal P T = false) (hn : aggN P T = some n)
    (hc : readCells w p n = some cs) (hR : R (.tuple #[.agg cs.toArray, f u]) w) : outK P fn R f w := by
  simp only [outK, h, resK, tup, ht, hs, hn, hc, Bool.false_eq_true, if_false, Option.map_some]; exact hR

/-- A contract: the function returns, and what it returns satisfies R. -/
def Ret (P : Program) (g : FuncId) (args : Array Value) (w : World) (R : Value → World → Prop) : Prop :=
  Calls P g args w fun e w' => ∃ v, e = .returned v ∧ R v w'
theorem Ret.mono {P : Program} {g : FuncId} {args : Array Value} {w : World} {R R' : Value → World → Prop} (h : Ret P g args w R) (hr : ∀ v w', R v w' → R' v w') : Ret P g args w R' :=
  Calls.mono h fun _ _ ⟨v, he, hR⟩ => ⟨v, he, hr _ _ hR⟩

theorem callK_of {P : Program} {g : FuncId} {args : Array Value} {k : Value → World → Prop} {w : World} {R : Value → World → Prop} (hg : goB P g = true) (hc : Ret P g args w R)
    (h : ∀ v w', R v w' → k v w') : callK false P g args k w := ⟨hg, by simp only [Bool.false_eq_true, if_false]; exact Ret.mono hc h⟩

theorem callK_q {P : Program} {g : FuncId} {args : Array Value} {k : Value → World → Prop} {w : World} {v : Value} (hg : goB P g = true)
    (hc : ∀ w', Ext w w' → Ret P g args w' fun u w'' => u = v ∧ Ext w' w'') (h : k v w) : callK true P g args k w :=
  ⟨hg, by simp only [if_true]; exact ⟨v, fun w' e => Calls.mono (hc w' e) (fun _ _ ⟨u, he, hu, e'⟩ => ⟨by rw [he, hu], e'⟩), h⟩⟩

end Go.SW
