/- The walk's own ground, second part: one operation after the other; what an operation may ask of the world; code. -/
import Derived.Test.YtlnodngkacbfkaaSw
set_option linter.all false
set_option maxRecDepth 20000
namespace Go.SW
open Go Go.RowKit

/-! ## worlds -/
/-- All that was there is as it was. -/
def Ext (w w' : World) : Prop := Below w.heap.size w w'
theorem Ext.refl (w : World) : Ext w w := Below.refl _ _
theorem Ext.trans {a b c : World} (h : Ext a b) (k : Ext b c) : Ext a c := Below.trans h (Below.mono k (Below.size h))
theorem Ext.size {w w' : World} (h : Ext w w') : w.heap.size ≤ w'.heap.size := Below.size h
theorem Ext.cell {w w' : World} (h : Ext w w') {a : Addr} {v : Value} (hc : w.cell? a = some v) : w'.cell? a = some v := by
  rw [Below.cell h (World.block_lt_of_cell? w a hc), hc]
theorem Ext.drew (w : World) : Ext w w.drew := (Below.refl _ _).drew
theorem Ext.blk {w w' : World} (h : Ext w w') {b : Nat} {o : Obj} (hc : w.heap[b]? = some o) : w'.heap[b]? = some o := by
  rw [Below.block h b (Array.getElem?_eq_some_iff.1 hc).1, hc]

/-- Block b is a row of cells, none frozen. -/
def Blk (w : World) (b : Nat) (cs : Array Value) (T : TypeId) : Prop := w.heap[b]? = some (.cells cs T (0, 0))
theorem Blk.ext {w w' : World} {b : Nat} {cs : Array Value} {T : TypeId} (h : Blk w b cs T) (e : Ext w w') : Blk w' b cs T := e.blk h
theorem Blk.cell {w : World} {b : Nat} {cs : Array Value} {T : TypeId} (h : Blk w b cs T) (i : Nat) : w.cell? ⟨b, i, none⟩ = cs[i]? := by
  unfold Blk at h; simp [World.cell?, h]
theorem Blk.lt {w : World} {b : Nat} {cs : Array Value} {T : TypeId} (h : Blk w b cs T) : b < w.heap.size := (Array.getElem?_eq_some_iff.1 h).1
theorem Blk.frozen {w : World} {b : Nat} {cs : Array Value} {T : TypeId} (h : Blk w b cs T) (i : Nat) : w.frozen? ⟨b, i, none⟩ = false := by
  unfold Blk at h; simp [World.frozen?, h]

/-- Block b alone has been written. -/
structure Wrote (b : Nat) (w w' : World) : Prop where
  os : w'.os = w.os
  tape : w'.tape = w.tape
  output : w'.output = w.output
  size : w'.heap.size = w.heap.size
  other : ∀ c, c ≠ b → w'.heap[c]? = w.heap[c]?
theorem Wrote.ext {b : Nat} {w0 w w' : World} (h : Wrote b w w') (e : Ext w0 w) (hb : w0.heap.size ≤ b) : Ext w0 w' :=
  Below.trans e ⟨h.os, h.tape, h.output, Nat.le_of_eq h.size.symm, fun k hk => h.other k (by omega)⟩
theorem Wrote.blk {b c : Nat} {w w' : World} {cs : Array Value} {T : TypeId} (h : Wrote b w w') (hc : Blk w c cs T) (hne : c ≠ b) : Blk w' c cs T := by
  unfold Blk; rw [h.other c hne]; exact hc
theorem Wrote.cell {b : Nat} {w w' : World} {a : Addr} {v : Value} (h : Wrote b w w') (hc : w.cell? a = some v) (hne : a.block ≠ b) : w'.cell? a = some v := by
  rw [World.cell?_of_block (h.other a.block hne)]; exact hc
theorem wrote_setCell (w : World) (a : Addr) (v : Value) : Wrote a.block w (w.setCell a v) :=
  ⟨rfl, rfl, rfl, by simp [World.setCell], fun c hc => Below.heap_setCell w a v c hc⟩
theorem wrote_setRow (w : World) (b : Nat) (cs : Array Value) : Wrote b w (w.setRow b cs) :=
  ⟨rfl, rfl, rfl, by simp, fun c hc => setRow_other w b c cs hc⟩

theorem ext_alloc (w : World) (o : Obj) : Ext w (w.alloc o) := (Below.refl _ _).alloc (Nat.le_refl _) o

/-! ## one operation -/
abbrev F := Nat → Value

def scal (P : Program) (T : TypeId) : Bool :=
  match P.underlying T with
  | some (.struct _) | some (.array ..) => false
  | some _ => true
  | none => false
def aggN (P : Program) (T : TypeId) : Option Nat :=
  match P.underlying T with
  | some (.struct _) | some (.array ..) => (P.info? T).map (·.size)
  | _ => none

def readCells (w : World) (a : Addr) (n : Nat) : Option (List Value) := (List.range n).mapM fun i => w.cell? (a.add i)

def rdK : Option Value → (Value → World → Prop) → World → Prop
  | some v, k, w => k v w
  | none, _, _ => False
def rdcK : Option (List Value) → (Value → World → Prop) → World → Prop
  | some vs, k, w => k (.agg vs.toArray) w
  | none, _, _ => False

def ldK (P : Program) (T : TypeId) (x : Value) (k : Value → World → Prop) (w : World) : Prop :=
  match x with
  | .pointer (some a) => if scal P T then rdK (w.cell? a) k w else match aggN P T with
    | some n => rdcK (readCells w a n) k w
    | none => False
  | _ => False

def goB (P : Program) (g : FuncId) : Bool :=
  match P.funcs[g]? with
  | some fn => fn.body.isSome && !(fn.name == "runtime.NumGoroutine")
  | none => false

/-- A call of a Go function: by its contract. In a region that draws its order (q) the value is one for all worlds. -/
def callK (q : Bool) (P : Program) (g : FuncId) (args : Array Value) (k : Value → World → Prop) (w : World) : Prop :=
  goB P g = true ∧ (if q then ∃ v, (∀ w', Ext w w' → Calls P g args w' fun e w'' => e = .returned v ∧ Ext w' w'') ∧ k v w
    else Calls P g args w fun e w'' => ∃ v, e = .returned v ∧ k v w'')

def genK (P : Program) (o : Oper) (f : F) (k : Value → World → Prop) (w : World) : Prop :=
  match (execOp (ev f) o).run P w with
  | .ok (.value v) w' => k v w'
  | .ok .skip w' => k undef w'
  | _ => False

def fnK (q : Bool) (P : Program) (o : Oper) (f : F) (args : Array Value) (k : Value → World → Prop) (w : World) : Value → Prop
  | .func (.func g) first captured => callK q P g (first ++ args ++ captured) k w
  | _ => if q then False else genK P o f k w

def OW (q : Bool) (P : Program) (o : Oper) (f : F) (k : Value → World → Prop) (w : World) : Prop :=
  match o.op with
  | .load T x => ldK P T (ev f x) k w
  | .call c => match c.callee with
    | .value g => fnK q P o f (c.args.map (ev f)) k w (ev f g)
    | _ => if q then False else genK P o f k w
  | _ => if q then False else genK P o f k w

def stepR (q : Bool) (P : Program) (o : Oper) (f : F) (k : Value → World → Prop) (w : World) : Option Value → Prop
  | some v => k v w
  | none => OW q P o f k w

def isB : Value → Bool → Bool
  | .bool b, want => b == want
  | _, _ => false
def gb (f : F) (want : Bool) : Option Tmp → Bool
  | some d => isB (f d) want
  | none => false

def finK (q : Bool) (K : F → World → Prop) (f : F) (w : World) : Prop := if q then ∀ w', Ext w w' → K f w' else K f w

def guK (g : Option (Nat × Bool)) (ops : Array Oper) (f : F) (p q : Prop) : Prop :=
  match g with
  | none => p
  | some (j, want) => if gb f want ((ops[j]?).bind (·.dst)) then p else q

def RL (q : Bool) (P : Program) (ops : Array Oper) (K : F → World → Prop) : List Oper → F → World → Prop
  | [], f, w => finK q K f w
  | o :: l, f, w => guK o.guard ops f
      (stepR q P o f (fun v w' => RL q P ops K l (updO f o.dst v) w') w (pv P f o.op))
      (RL q P ops K l (updO f o.dst undef) w)

/-! ## it is sound -/
def noSel : Op → Bool
  | .select .. => false
  | _ => true
def operOk (N : Nat) (o : Oper) : Bool := opOk N o && noSel o.op

theorem exec_fr {N : Nat} {f : F} {o : Oper} (h : operOk N o = true) : execOp (fr N f).eval o = execOp (ev f) o := by
  simp only [operOk, opOk, Bool.and_eq_true] at h
  refine execOp_congr o (fun cs b e => by rw [e] at h; simp [noSel] at h) fun x hx => eval_fr N f x ?_
  exact (Array.all_eq_true_iff_forall_mem.1 h.1.1) x hx

theorem put_fr' {N : Nat} {f : F} {o : Oper} {v : Value} (h : operOk N o = true) : (fr N f).put o.dst v = fr N (updO f o.dst v) := by
  simp only [operOk, opOk, Bool.and_eq_true] at h
  refine put_fr N f o.dst v fun t ht => ?_
  have := h.1.2
  rw [ht] at this
  simpa using this

theorem wanted_fr {N : Nat} {f : F} {o : Oper} {ops : Array Oper} (hall : ∀ o ∈ ops, operOk N o = true) :
    Region.wanted o (yielded ops (fr N f).tmps) = match o.guard with | none => true | some (j, want) => gb f want ((ops[j]?).bind (·.dst)) := by
  unfold Region.wanted
  cases hg : o.guard with
  | none => rfl
  | some jw =>
    obtain ⟨j, want⟩ := jw
    simp only
    cases hd : (ops[j]?).bind (·.dst) with
    | none => simp [gb, yielded, hd]
    | some d =>
      have hdN : d < N := by
        cases ho : ops[j]? with
        | none => simp [ho] at hd
        | some o' =>
          have hm : o' ∈ ops := by obtain ⟨h1, h2⟩ := Array.getElem?_eq_some_iff.1 ho; exact h2 ▸ Array.getElem_mem h1
          have := hall o' hm
          simp only [operOk, opOk, Bool.and_eq_true] at this
          simp only [ho, Option.bind_some] at hd
          have h2 := this.1.2
          rw [hd] at h2
          simpa using h2
      rw [yielded_fr N f ops j d hd hdN]
      simp only [gb]
      cases hv : f d <;> simp [isB]

theorem guK_wanted {N : Nat} {f : F} {o : Oper} {ops : Array Oper} (hall : ∀ o ∈ ops, operOk N o = true) {p q : Prop} (h : guK o.guard ops f p q) :
    if Region.wanted o (yielded ops (fr N f).tmps) = true then p else q := by
  rw [wanted_fr hall]
  unfold guK at h
  cases hg : o.guard with
  | none => rw [hg] at h; simpa using h
  | some jw => obtain ⟨j, want⟩ := jw; rw [hg] at h; exact h

theorem rd_run {P : Program} {w : World} (a : Addr) : ∀ (n i : Nat) (acc : Array Value) (vs : List Value), (List.range' i n).mapM (fun i => w.cell? (a.add i)) = some vs →
    (loadCellsFrom a i n acc).run P w = .ok (acc ++ vs.toArray) w
  | 0, i, acc, vs, h => by
    simp only [List.range'_zero, List.mapM_nil, Option.pure_def, Option.some.injEq] at h
    subst h; simp [loadCellsFrom]
  | n + 1, i, acc, vs, h => by
    rw [List.range'_succ, List.mapM_cons] at h
    cases hc : w.cell? (a.add i) with
    | none => simp [hc] at h
    | some v =>
      cases hr : (List.range' (i + 1) n).mapM (fun i => w.cell? (a.add i)) with
      | none => simp [hc, hr] at h
      | some rest =>
        simp only [hc, hr, Option.bind_eq_bind, Option.bind_some, Option.pure_def, Option.some.injEq] at h
        subst h
        have := rd_run (P := P) (w := w) a n (i + 1) (acc.push v) rest hr
        simp only [loadCellsFrom]
        refine (run_bindV (a := v) (w' := w) ?_).trans ?_
        · simp only [load, Sem.run, hc]
        · rw [this]; simp

theorem ldK_run {P : Program} {T : TypeId} {x : Value} {k : Value → World → Prop} {w : World} (h : ldK P T x k w) : ∃ v, (Instr.loadAt T x).run P w = .ok v w ∧ k v w := by
  unfold ldK at h
  split at h
  · rename_i a
    split at h
    · rename_i hs
      cases hc : w.cell? a with
      | none => rw [hc] at h; exact h.elim
      | some v =>
        rw [hc] at h
        refine ⟨v, ?_, h⟩
        refine (run_bindV (a := a) (w' := w) rfl).trans ?_
        unfold scal at hs
        cases hu : P.underlying T with
        | none => simp [hu] at hs
        | some d =>
          refine (run_bindV (a := false) (w' := w) ?_).trans ?_
          · refine (run_bindV (run_underlying_some hu)).trans ?_
            cases d <;> first | rfl | (simp [hu] at hs; done)
          · simp [load, Sem.run, hc]
    · split at h
      · rename_i n hn
        unfold readCells at h
        cases hc : (List.range n).mapM (fun i => w.cell? (a.add i)) with
        | none => rw [hc] at h; exact h.elim
        | some vs =>
          rw [hc] at h
          refine ⟨_, ?_, h⟩
          refine (run_bindV (a := a) (w' := w) rfl).trans ?_
          unfold aggN at hn
          split at hn
          · rename_i hu
            cases hi : P.info? T with
            | none => simp [hi] at hn
            | some inf =>
              simp only [hi, Option.map_some, Option.some.injEq] at hn
              refine (run_bindV (a := true) (w' := w) ((run_bindV (run_underlying_some hu)).trans rfl)).trans ?_
              simp only [if_true]
              refine (run_bindV (run_sizeOf_some hi)).trans ?_
              rw [hn]
              have := rd_run (P := P) (w := w) a n 0 #[] vs (by rw [← List.range_eq_range']; exact hc)
              exact (run_bindV this).trans (by simp)
          · rename_i hu
            cases hi : P.info? T with
            | none => simp [hi] at hn
            | some inf =>
              simp only [hi, Option.map_some, Option.some.injEq] at hn
              refine (run_bindV (a := true) (w' := w) ((run_bindV (run_underlying_some hu)).trans rfl)).trans ?_
              simp only [if_true]
              refine (run_bindV (run_sizeOf_some hi)).trans ?_
              rw [hn]
              have := rd_run (P := P) (w := w) a n 0 #[] vs (by rw [← List.range_eq_range']; exact hc)
              exact (run_bindV this).trans (by simp)
          · cases hn
      · exact h.elim
  · exact h.elim

theorem readCells_ext {w w' : World} (e : Ext w w') {a : Addr} : ∀ {n : Nat} {vs : List Value}, readCells w a n = some vs → readCells w' a n = some vs := by
  intro n
  unfold readCells
  generalize List.range n = l
  induction l with
  | nil => intro vs h; exact h
  | cons i l ih =>
    intro vs h
    rw [List.mapM_cons] at h ⊢
    cases hc : w.cell? (a.add i) with
    | none => simp [hc] at h
    | some v =>
      cases hr : l.mapM (fun i => w.cell? (a.add i)) with
      | none => simp [hc, hr] at h
      | some rest =>
        rw [e.cell hc, ih hr]
        rw [hc, hr] at h
        exact h

theorem ldK_all {P : Program} {T : TypeId} {x : Value} {k : Value → World → Prop} {w : World} (h : ldK P T x k w) : ∃ v, (∀ w', Ext w w' → (Instr.loadAt T x).run P w' = .ok v w') ∧ k v w := by
  cases x with
  | pointer p =>
    cases p with
    | none => exact h.elim
    | some a =>
      simp only [ldK] at h
      split at h
      · rename_i hs
        cases hc : w.cell? a with
        | none => rw [hc] at h; exact h.elim
        | some v =>
          rw [hc] at h
          refine ⟨v, fun w' e => ?_, h⟩
          obtain ⟨u, hu, rfl⟩ := ldK_run (P := P) (T := T) (x := .pointer (some a)) (k := fun u _ => u = v) (w := w') (by simp only [ldK, hs, if_true, e.cell hc, rdK])
          exact hu
      · rename_i hs
        cases hn : aggN P T with
        | none => rw [hn] at h; exact h.elim
        | some n =>
          rw [hn] at h
          simp only at h
          cases hc : readCells w a n with
          | none => rw [hc] at h; exact h.elim
          | some vs =>
            rw [hc] at h
            refine ⟨_, fun w' e => ?_, h⟩
            obtain ⟨u, hu, rfl⟩ := ldK_run (P := P) (T := T) (x := .pointer (some a)) (k := fun u _ => u = .agg vs.toArray) (w := w') (by simp only [ldK, hs, hn, readCells_ext e hc, rdcK]; simp)
            exact hu
  | _ => exact h.elim

theorem callFunc_run {P : Program} {g : FuncId} {args : Array Value} {w : World} (h : goB P g = true) : (callFunc g args).run P w = .ok (.enter g args) w := by
  unfold goB at h
  split at h
  · rename_i fn hf
    simp only [Bool.and_eq_true, Bool.not_eq_true'] at h
    have hb : fn.body.isNone = false := by cases hb : fn.body <;> simp_all
    simp only [callFunc, program, bind, Sem.bind, Sem.run, hf, h.2, hb, Bool.false_eq_true, if_false, pure]
  · cases h

theorem genK_upon {P : Program} {o : Oper} {f : F} {k : Value → World → Prop} {w : World} {a : Act} {next : Act → World → Prop} {Q : Exit → Act → World → Prop}
    (hk : ∀ v w', k v w' → next (a.put o.dst v) w') (h : genK P o f k w) : o.upon P a next Q ((execOp (ev f) o).run P w) := by
  unfold genK at h
  split at h
  · rename_i v w' hr; rw [hr]; exact hk _ _ h
  · rename_i w' hr; rw [hr]; exact hk _ _ h
  · exact h.elim

theorem callOp_run {P : Program} {o : Oper} {f : F} {w : World} {c : Call} {x : Operand} {g : FuncId} {first captured : Array Value} (ho : o.op = .call c) (hc : c.callee = .value x)
    (hx : ev f x = .func (.func g) first captured) (hg : goB P g = true) : (execOp (ev f) o).run P w = .ok (.enter g (first ++ c.args.map (ev f) ++ captured)) w := by
  unfold execOp
  rw [ho]
  refine (run_bindV (a := { target := .fn (.func g) captured, args := first ++ c.args.map (ev f) }) (w' := w) ?_).trans ?_
  · simp only [resolve, hc, hx, Deferred.ofValue]; rfl
  · exact callFunc_run hg

theorem OW_upon {P : Program} {o : Oper} {f : F} {k : Value → World → Prop} {w : World} {a : Act} {next : Act → World → Prop} {Q : Exit → Act → World → Prop}
    (hk : ∀ v w', k v w' → next (a.put o.dst v) w') (h : OW false P o f k w) : o.upon P a next Q ((execOp (ev f) o).run P w) := by
  unfold OW at h
  split at h
  · rename_i T x hop
    obtain ⟨v, hv, hkv⟩ := ldK_run h
    have hr : (execOp (ev f) o).run P w = .ok (.value v) w := by
      unfold execOp; rw [hop]; exact run_bindV hv
    rw [hr]; exact hk _ _ hkv
  · rename_i c hop
    split at h
    · rename_i x hc
      unfold fnK at h
      split at h
      · rename_i g first captured hx
        obtain ⟨hg, h⟩ := h
        simp only [Bool.false_eq_true, if_false] at h
        rw [callOp_run hop hc hx hg]
        refine Calls.mono h fun e w'' ⟨v, he, hkv⟩ => ?_
        subst he
        exact hk _ _ hkv
      · simp only [Bool.false_eq_true, if_false] at h
        exact genK_upon hk h
    · simp only [Bool.false_eq_true, if_false] at h
      exact genK_upon hk h
  · simp only [Bool.false_eq_true, if_false] at h
    exact genK_upon hk h

theorem RL_wpList {P : Program} {N : Nat} {ops : Array Oper} {K : F → World → Prop} {Q : Exit → Act → World → Prop} (hall : ∀ o ∈ ops, operOk N o = true) (hQ : ∀ f w, K f w → Q .normal (fr N f) w) :
    ∀ (l : List Oper) (f : F) (w : World), (∀ o ∈ l, operOk N o = true) → RL false P ops K l f w → wpList P ops Q l (fr N f) w
  | [], f, w, _, h => hQ f w h
  | o :: l, f, w, hl, h => by
    have ho := hl o (List.mem_cons_self ..)
    have hl' : ∀ o ∈ l, operOk N o = true := fun o' h' => hl o' (List.mem_cons_of_mem _ h')
    have h' := guK_wanted hall h
    unfold wpList
    by_cases hw : Region.wanted o (yielded ops (fr N f).tmps) = true
    · rw [if_pos hw] at h' ⊢
      left
      unfold Oper.wp
      rw [exec_fr ho]
      cases hp : pv P f o.op with
      | some v =>
        rw [hp] at h'
        rw [pv_run hp]
        show wpList P ops Q l ((fr N f).put o.dst v) w
        rw [put_fr' ho]
        exact RL_wpList hall hQ l _ _ hl' h'
      | none =>
        rw [hp] at h'
        refine OW_upon (k := fun v w' => RL false P ops K l (updO f o.dst v) w') (fun v w' hk => ?_) h'
        rw [put_fr' ho]
        exact RL_wpList hall hQ l _ _ hl' hk
    · rw [if_neg hw] at h' ⊢
      rw [put_fr' ho]
      exact RL_wpList hall hQ l _ _ hl' h'

theorem RL_wpQuiet {P : Program} {N : Nat} {ops : Array Oper} {K : F → World → Prop} {w : World} {Q : Act → Prop} (hall : ∀ o ∈ ops, operOk N o = true) (hQ : ∀ f, (∀ w', Ext w w' → K f w') → Q (fr N f)) :
    ∀ (l : List Oper) (f : F), (∀ o ∈ l, operOk N o = true) → RL true P ops K l f w → wpQuiet P ops (Ext w) Q l (fr N f)
  | [], f, _, h => hQ f h
  | o :: l, f, hl, h => by
    have ho := hl o (List.mem_cons_self ..)
    have hl' : ∀ o ∈ l, operOk N o = true := fun o' h' => hl o' (List.mem_cons_of_mem _ h')
    have h' := guK_wanted hall h
    unfold wpQuiet
    by_cases hw : Region.wanted o (yielded ops (fr N f).tmps) = true
    · rw [if_pos hw] at h' ⊢
      have key : ∀ v, (∀ w', Ext w w' → o.quietAt P (fr N f) (Ext w) w' v) → RL true P ops K l (updO f o.dst v) w → o.quiet P (fr N f) (Ext w) (wpQuiet P ops (Ext w) Q l) := fun v hv hk =>
        ⟨v, hv, by rw [put_fr' ho]; exact RL_wpQuiet hall hQ l _ hl' hk⟩
      cases hp : pv P f o.op with
      | some v =>
        rw [hp] at h'
        refine key v (fun w' _ => ?_) h'
        unfold Oper.quietAt
        rw [exec_fr ho, pv_run hp]
        exact ⟨rfl, rfl⟩
      | none =>
        rw [hp] at h'
        simp only [stepR] at h'
        unfold OW at h'
        split at h'
        · rename_i T x hop
          obtain ⟨v, hv, hkv⟩ := ldK_all h'
          refine key v (fun w' e => ?_) hkv
          unfold Oper.quietAt
          have hr : (execOp (ev f) o).run P w' = .ok (.value v) w' := by
            unfold execOp; rw [hop]; exact run_bindV (hv w' e)
          rw [exec_fr ho, hr]
          exact ⟨rfl, rfl⟩
        · rename_i c hop
          split at h'
          · rename_i x hc
            unfold fnK at h'
            split at h'
            · rename_i g first captured hx
              obtain ⟨hg, h'⟩ := h'
              simp only [if_true] at h'
              obtain ⟨v, hv, hkv⟩ := h'
              refine key v (fun w' e => ?_) hkv
              unfold Oper.quietAt
              rw [exec_fr ho, callOp_run hop hc hx hg]
              exact ⟨rfl, (hv w' e).mono fun _ _ ⟨he, e'⟩ => ⟨he, e.trans e'⟩⟩
            · exact h'.elim
          · exact h'.elim
        · exact h'.elim
    · rw [if_neg hw] at h' ⊢
      rw [put_fr' ho]
      exact RL_wpQuiet hall hQ l _ hl' h'

end Go.SW
