/- The walk's own ground, sixth part: code as one function of its continuation; entry, loops, results. -/
import Derived.Test.YtlnodngkacbfkaaSwe
set_option linter.all false
set_option maxRecDepth 20000
namespace Go.SW
open Go Go.RowKit

/-- A region that draws its order. -/
def QR (P : Program) (N : Nat) (id : Nat) (ops : Array Oper) (Kn : F → World → Prop) (Ke : Nat → F → World → Prop) (Kr : F → World → Prop) (f : F) (w : World) : Prop :=
  CW P N (.region id ops true) Kn Ke Kr f w
def LX (P : Program) (N : Nat) (c : Code) (Kn : F → World → Prop) (Ke : Nat → F → World → Prop) (Kr : F → World → Prop) (f : F) (w : World) : Prop :=
  CW P N c Kn Ke Kr f w
def kbK (b : Bool) (p q : F → World → Prop) (f : F) (w : World) : Prop := match b with | true => p f w | false => q f w
def kx (id : Nat) (Kn : F → World → Prop) (Ke : Nat → F → World → Prop) (j : Nat) (f : F) (w : World) : Prop := kbK (decide (j = id)) Kn (Ke j) f w
def cdK (v : Value) (p q : F → World → Prop) (f : F) (w : World) : Prop :=
  match v with
  | .bool b => (b = true → p f w) ∧ (b = false → q f w)
  | _ => False

def CX (P : Program) (N : Nat) : Code → (F → World → Prop) → (Nat → F → World → Prop) → (F → World → Prop) → F → World → Prop
  | .skip, Kn, _, _, f, w => Kn f w
  | .region id ops draw, Kn, Ke, Kr, f, w => match draw with
    | true => QR P N id ops Kn Ke Kr f w
    | false => RL false P ops Kn ops.toList f w
  | .seq a b, Kn, Ke, Kr, f, w => CX P N a (CX P N b Kn Ke Kr) Ke Kr f w
  | .cond c a b, Kn, Ke, Kr, f, w => cdK (ev f c) (CX P N a Kn Ke Kr) (CX P N b Kn Ke Kr) f w
  | .block id c, Kn, Ke, Kr, f, w => CX P N c Kn (kx id Kn Ke) Kr f w
  | .exit id, _, Ke, _, f, w => Ke id f w
  | .ret, _, _, Kr, f, w => Kr f w
  | .label _, Kn, _, _, f, w => Kn f w
  | c, Kn, Ke, Kr, f, w => LX P N c Kn Ke Kr f w

theorem cw_any {P : Program} {N : Nat} {c : Code} {Kn Kn' : F → World → Prop} {Ke Ke' : Nat → F → World → Prop} {Kr Kr' : F → World → Prop} {f : F} {w : World} (h : CW P N c Kn Ke Kr f w)
    (h1 : ∀ f w, Kn f w → Kn' f w) (h3 : ∀ j f w, Ke j f w → Ke' j f w) (h2 : ∀ f w, Kr f w → Kr' f w) : CW P N c Kn' Ke' Kr' f w := by
  intro hok
  refine wp_mono (h hok) ?_
  intro e a w hq
  cases e <;> simp only [cont] at hq ⊢
  case normal => obtain ⟨f, rfl, hf⟩ := hq; exact ⟨f, rfl, h1 _ _ hf⟩
  case ret => obtain ⟨f, rfl, hf⟩ := hq; exact ⟨f, rfl, h2 _ _ hf⟩
  case exit id => obtain ⟨f, rfl, hf⟩ := hq; exact ⟨f, rfl, h3 _ _ _ hf⟩
  all_goals first | exact hq | exact hq.elim

theorem cx_sound {P : Program} {N : Nat} : ∀ (c : Code) {Kn : F → World → Prop} {Ke : Nat → F → World → Prop} {Kr : F → World → Prop} {f : F} {w : World}, CX P N c Kn Ke Kr f w → CW P N c Kn Ke Kr f w := by
  intro c
  induction c with
  | skip => intro _ _ _ _ _ h; exact cw_skip h
  | region id ops draw =>
    intro _ _ _ _ _ h
    cases draw with
    | true => exact h
    | false => exact cw_region h
  | seq a b iha ihb => intro _ _ _ _ _ h; exact cw_seq fun K hK => cw_any (iha h) (fun f w h => hK f w (ihb h)) (fun _ _ _ h => h) (fun _ _ h => h)
  | cond c a b iha ihb =>
    intro _ _ _ f w h
    refine cw_cond ?_
    simp only [CX] at h
    unfold cdK at h
    unfold cndK
    split at h
    · rename_i t ht
      rw [ht]
      exact ⟨fun e => iha (h.1 e), fun e => ihb (h.2 e)⟩
    · exact h.elim
  | block id c ih =>
    intro _ _ _ _ _ h
    refine cw_block (cw_any (ih h) (fun _ _ h => h) (fun j f w h => ?_) (fun _ _ h => h))
    unfold kx kbK at h
    unfold kb
    split at h
    · rename_i e; rw [if_pos (of_decide_eq_true e)]; exact h
    · rename_i e; rw [if_neg (of_decide_eq_false e)]; exact h
  | exit id => intro _ _ _ _ _ h; exact cw_exit h
  | ret => intro _ _ _ _ _ h; exact cw_ret h
  | label l => intro _ _ _ _ _ h; exact cw_label h
  | loop c ih => intro _ _ _ _ _ h; exact h
  | rangeFunc g ps a b iha ihb => intro _ _ _ _ _ h; exact h
  | scope c ih => intro _ _ _ _ _ h; exact h
  | goto l => intro _ _ _ _ _ h; exact h
  | refuse s => intro _ _ _ _ _ h; exact h

theorem ldK_mono {P : Program} {T : TypeId} {x : Value} {k k' : Value → World → Prop} {w : World} (hk : ∀ v w, k v w → k' v w) (h : ldK P T x k w) : ldK P T x k' w := by
  cases x with
  | pointer a =>
    cases a with
    | none => exact h.elim
    | some a =>
      simp only [ldK] at *
      split
      · rename_i hs
        rw [if_pos hs] at h
        cases hc : w.cell? a with
        | none => rw [hc] at h; exact h.elim
        | some v => rw [hc] at h; exact hk _ _ h
      · rename_i hs
        rw [if_neg hs] at h
        cases hn : aggN P T with
        | none => rw [hn] at h; exact h.elim
        | some n =>
          rw [hn] at h
          simp only at h ⊢
          cases hc : readCells w a n with
          | none => rw [hc] at h; exact h.elim
          | some vs => rw [hc] at h; exact hk _ _ h
  | _ => exact h.elim

theorem RL_mono {q : Bool} {P : Program} {ops : Array Oper} {K K' : F → World → Prop} (hK : ∀ f w, K f w → K' f w) : ∀ (l : List Oper) (f : F) (w : World), RL q P ops K l f w → RL q P ops K' l f w := by
  have hstep : ∀ {o : Oper} {f : F} {k k' : Value → World → Prop} {w : World} (_ : ∀ v w, k v w → k' v w) (x : Option Value), stepR q P o f k w x → stepR q P o f k' w x := by
    intro o f k k' w hk x h
    cases x with
    | some v => exact hk _ _ h
    | none =>
      have gen : genK P o f k w → genK P o f k' w := by
        intro h
        unfold genK at *
        generalize (execOp (ev f) o).run P w = r at *
        cases r with
        | ok x w' => cases x <;> first | exact hk _ _ h | exact h.elim
        | halt x w' => exact h.elim
      simp only [stepR] at h ⊢
      unfold OW at *
      split at h
      · rename_i T y hop
        exact ldK_mono hk h
      · rename_i c hop
        split at h
        · rename_i g hg
          unfold fnK at *
          split at h
          · obtain ⟨h1, h2⟩ := h
            refine ⟨h1, ?_⟩
            split
            · rename_i hq
              rw [if_pos hq] at h2
              obtain ⟨v, hv, hkv⟩ := h2
              exact ⟨v, hv, hk _ _ hkv⟩
            · rename_i hq
              rw [if_neg hq] at h2
              exact Calls.mono h2 fun _ _ ⟨v, he, hkv⟩ => ⟨v, he, hk _ _ hkv⟩
          · split
            · rename_i hq; rw [if_pos hq] at h; exact h
            · rename_i hq; rw [if_neg hq] at h; exact gen h
        · split
          · rename_i hq; rw [if_pos hq] at h; exact h
          · rename_i hq; rw [if_neg hq] at h; exact gen h
      · split
        · rename_i hq; rw [if_pos hq] at h; exact h
        · rename_i hq; rw [if_neg hq] at h; exact gen h
  intro l
  induction l with
  | nil =>
    intro f w h
    simp only [RL, finK] at *
    split
    · rename_i hq; rw [if_pos hq] at h; exact fun w' e => hK _ _ (h w' e)
    · rename_i hq; rw [if_neg hq] at h; exact hK _ _ h
  | cons o l ih =>
    intro f w h
    simp only [RL] at h ⊢
    unfold guK at *
    split
    · rename_i hg
      rw [hg] at h
      exact hstep (fun v w => ih _ _) _ h
    · rename_i j want hg
      rw [hg] at h
      simp only at h
      split
      · rename_i hb; rw [if_pos hb] at h; exact hstep (fun v w => ih _ _) _ h
      · rename_i hb; rw [if_neg hb] at h; exact ih _ _ h

theorem cx_mono {P : Program} {N : Nat} : ∀ (c : Code) {Kn Kn' : F → World → Prop} {Ke Ke' : Nat → F → World → Prop} {Kr : F → World → Prop} {f : F} {w : World},
    (∀ f w, Kn f w → Kn' f w) → (∀ j f w, Ke j f w → Ke' j f w) → CX P N c Kn Ke Kr f w → CX P N c Kn' Ke' Kr f w := by
  intro c
  induction c with
  | skip => intro _ _ _ _ _ _ _ hK _ h; exact hK _ _ h
  | region id ops draw =>
    intro _ _ _ _ _ _ _ hK hE h
    cases draw with
    | true => exact cw_any h hK hE (fun _ _ h => h)
    | false => exact RL_mono hK _ _ _ h
  | seq a b iha ihb => intro _ _ _ _ _ _ _ hK hE h; exact iha (fun _ _ h => ihb hK hE h) hE h
  | cond c a b iha ihb =>
    intro _ _ _ _ _ _ _ hK hE h
    simp only [CX] at *
    unfold cdK at *
    split at h
    · exact ⟨fun e => iha hK hE (h.1 e), fun e => ihb hK hE (h.2 e)⟩
    · exact h.elim
  | block id c ih =>
    intro _ _ _ _ _ _ _ hK hE h
    refine ih hK (fun j f w h => ?_) h
    unfold kx kbK at *
    split
    · rename_i e; rw [e] at h; exact hK _ _ h
    · rename_i e; rw [e] at h; exact hE _ _ _ h
  | exit id => intro _ _ _ _ _ _ _ _ hE h; exact hE _ _ _ h
  | ret => intro _ _ _ _ _ _ _ _ _ h; exact h
  | label l => intro _ _ _ _ _ _ _ hK _ h; exact hK _ _ h
  | loop c ih => intro _ _ _ _ _ _ _ hK hE h; exact cw_any h hK hE (fun _ _ h => h)
  | rangeFunc g ps a b iha ihb => intro _ _ _ _ _ _ _ hK hE h; exact cw_any h hK hE (fun _ _ h => h)
  | scope c ih => intro _ _ _ _ _ _ _ hK hE h; exact cw_any h hK hE (fun _ _ h => h)
  | goto l => intro _ _ _ _ _ _ _ hK hE h; exact cw_any h hK hE (fun _ _ h => h)
  | refuse s => intro _ _ _ _ _ _ _ hK hE h; exact cw_any h hK hE (fun _ _ h => h)

section
variable {P : Program} {N : Nat} {Kn : F → World → Prop} {Ke : Nat → F → World → Prop} {Kr : F → World → Prop} {f : F} {w : World}

theorem CX_skip : CX P N .skip Kn Ke Kr f w = Kn f w := (rfl)
theorem CX_region (id : Nat) (l : List Oper) : CX P N (.region id l.toArray false) Kn Ke Kr f w = RL false P l.toArray Kn l f w := (rfl)
theorem CX_draws (id : Nat) (ops : Array Oper) : CX P N (.region id ops true) Kn Ke Kr f w = QR P N id ops Kn Ke Kr f w := (rfl)
theorem CX_seq (a b : Code) : CX P N (.seq a b) Kn Ke Kr f w = CX P N a (CX P N b Kn Ke Kr) Ke Kr f w := (rfl)
theorem CX_cond (c : Operand) (a b : Code) : CX P N (.cond c a b) Kn Ke Kr f w = cdK (ev f c) (CX P N a Kn Ke Kr) (CX P N b Kn Ke Kr) f w := (rfl)
theorem CX_block (id : Nat) (c : Code) : CX P N (.block id c) Kn Ke Kr f w = CX P N c Kn (kx id Kn Ke) Kr f w := (rfl)
theorem CX_exit (id : Nat) : CX P N (.exit id) Kn Ke Kr f w = Ke id f w := (rfl)
theorem CX_ret : CX P N .ret Kn Ke Kr f w = Kr f w := (rfl)
theorem CX_label (l : Nat) : CX P N (.label l) Kn Ke Kr f w = Kn f w := (rfl)
theorem CX_loop (c : Code) : CX P N (.loop c) Kn Ke Kr f w = LX P N (.loop c) Kn Ke Kr f w := (rfl)
theorem kx_go (id j : Nat) : kx id Kn Ke j f w = kbK (decide (j = id)) Kn (Ke j) f w := (rfl)
theorem kbK_true (p q : F → World → Prop) : kbK true p q f w = p f w := (rfl)
theorem kbK_false (p q : F → World → Prop) : kbK false p q f w = q f w := (rfl)
theorem cdK_true (p q : F → World → Prop) : cdK (.bool true) p q f w = p f w := by simp [cdK]
theorem cdK_false (p q : F → World → Prop) : cdK (.bool false) p q f w = q f w := by simp [cdK]
theorem cdK_congr {v u : Value} {p q : F → World → Prop} (h : v = u) : cdK v p q f w = cdK u p q f w := by rw [h]
theorem kbK_congr {b c : Bool} {p q : F → World → Prop} (h : b = c) : kbK b p q f w = kbK c p q f w := by rw [h]

/-- A test that parts the ways. -/
theorem cd_of {b : Bool} {p q : F → World → Prop} (h1 : b = true → p f w) (h2 : b = false → q f w) : cdK (.bool b) p q f w := ⟨h1, h2⟩
theorem cd_dec {c : Prop} [Decidable c] {p q : F → World → Prop} (h1 : c → p f w) (h2 : ¬ c → q f w) : cdK (.bool (decide c)) p q f w :=
  ⟨fun e => h1 (of_decide_eq_true e), fun e => h2 (of_decide_eq_false e)⟩
/-- A test whose ways meet again, in J. -/
theorem cd_cut {v : Value} {a b : Code} {K : F → World → Prop} (J : F → World → Prop) (hJ : ∀ f w, J f w → K f w) (h : cdK v (CX P N a J Ke Kr) (CX P N b J Ke Kr) f w) :
    cdK v (CX P N a K Ke Kr) (CX P N b K Ke Kr) f w := by
  unfold cdK at *
  split at h
  · exact ⟨fun e => cx_mono a hJ (fun _ _ _ h => h) (h.1 e), fun e => cx_mono b hJ (fun _ _ _ h => h) (h.2 e)⟩
  · exact h.elim

/-- A loop: what holds at every round's head, with a number that falls. -/
theorem loopX {c : Code} (I : Nat → F → World → Prop) (n0 : Nat) (h0 : I n0 f w)
    (hr : ∀ n f w, I n f w → CX P N c (fun f' w' => ∃ m, m < n ∧ I m f' w') Ke Kr f w) : LX P N (.loop c) Kn Ke Kr f w :=
  cw_loop I n0 h0 fun n f w hI _ hK => cw_any (cx_sound c (hr n f w hI)) (fun f' w' ⟨m, hm, hI'⟩ => hK m f' w' hm hI') (fun _ _ _ h => h) (fun _ _ h => h)

theorem QR_of {id : Nat} {l : List Oper} (hm : P.follows .mixedOrders = true) (hB : Region.lexB .any l.toArray = true) (h : RL true P l.toArray Kn l f w) : QR P N id l.toArray Kn Ke Kr f w :=
  cw_draws hm hB (by simpa using h)
end

/-! ## entry -/
theorem enterX {P : Program} {g : FuncId} {fn : Func} {c : Code} {args : Array Value} {w : World} {R : Value → World → Prop} (hf : P.funcs[g]? = some fn) (hb : fn.body = some c)
    (hok : entryOk fn c = true) (hargs : args.size ≤ fn.ntmps)
    (h : ∀ f : F, (∀ i, i < args.size → args[i]? = some (f i)) → CX P fn.ntmps c (outK P fn R) (fun _ _ _ => False) (outK P fn R) f w) : Ret P g args w R :=
  enter hf hb hok hargs fun f hfa => cx_sound c (h f hfa)

theorem enter0 {P : Program} {g : FuncId} {fn : Func} {c : Code} {w : World} {R : Value → World → Prop} (hf : P.funcs[g]? = some fn) (hb : fn.body = some c) (hok : entryOk fn c = true)
    (h : ∀ f : F, CX P fn.ntmps c (outK P fn R) (fun _ _ _ => False) (outK P fn R) f w) : Ret P g #[] w R :=
  enterX hf hb hok (Nat.zero_le _) fun f _ => h f
theorem enter1 {P : Program} {g : FuncId} {fn : Func} {c : Code} {a0 : Value} {w : World} {R : Value → World → Prop} (hf : P.funcs[g]? = some fn) (hb : fn.body = some c) (hok : entryOk fn c = true) (hargs : 1 ≤ fn.ntmps)
    (h : ∀ f : F, f 0 = a0 → CX P fn.ntmps c (outK P fn R) (fun _ _ _ => False) (outK P fn R) f w) : Ret P g #[a0] w R :=
  enterX hf hb hok hargs fun f hfa => h f (by simpa using (hfa 0 (by simp)).symm)
theorem enter2 {P : Program} {g : FuncId} {fn : Func} {c : Code} {a0 a1 : Value} {w : World} {R : Value → World → Prop} (hf : P.funcs[g]? = some fn) (hb : fn.body = some c) (hok : entryOk fn c = true) (hargs : 2 ≤ fn.ntmps)
    (h : ∀ f : F, f 0 = a0 → f 1 = a1 → CX P fn.ntmps c (outK P fn R) (fun _ _ _ => False) (outK P fn R) f w) : Ret P g #[a0, a1] w R :=
  enterX hf hb hok hargs fun f hfa => h f (by simpa using (hfa 0 (by simp)).symm) (by simpa using (hfa 1 (by simp)).symm)
theorem enter3 {P : Program} {g : FuncId} {fn : Func} {c : Code} {a0 a1 a2 : Value} {w : World} {R : Value → World → Prop} (hf : P.funcs[g]? = some fn) (hb : fn.body = some c) (hok : entryOk fn c = true) (hargs : 3 ≤ fn.ntmps)
    (h : ∀ f : F, f 0 = a0 → f 1 = a1 → f 2 = a2 → CX P fn.ntmps c (outK P fn R) (fun _ _ _ => False) (outK P fn R) f w) : Ret P g #[a0, a1, a2] w R :=
  enterX hf hb hok hargs fun f hfa => h f (by simpa using (hfa 0 (by simp)).symm) (by simpa using (hfa 1 (by simp)).symm) (by simpa using (hfa 2 (by simp)).symm)
theorem enter4 {P : Program} {g : FuncId} {fn : Func} {c : Code} {a0 a1 a2 a3 : Value} {w : World} {R : Value → World → Prop} (hf : P.funcs[g]? = some fn) (hb : fn.body = some c) (hok : entryOk fn c = true) (hargs : 4 ≤ fn.ntmps)
    (h : ∀ f : F, f 0 = a0 → f 1 = a1 → f 2 = a2 → f 3 = a3 → CX P fn.ntmps c (outK P fn R) (fun _ _ _ => False) (outK P fn R) f w) : Ret P g #[a0, a1, a2, a3] w R :=
  enterX hf hb hok hargs fun f hfa => h f (by simpa using (hfa 0 (by simp)).symm) (by simpa using (hfa 1 (by simp)).symm) (by simpa using (hfa 2 (by simp)).symm) (by simpa using (hfa 3 (by simp)).symm)

/-! ## results -/
def outL (P : Program) (rs : List ResultVar) (R : Value → World → Prop) (f : F) (w : World) : Prop :=
  match resK P rs f w with
  | some vs => R (tup vs) w
  | none => False
section
variable {P : Program} {fn : Func} {R : Value → World → Prop} {f : F} {w : World}
theorem outK_go : outK P fn R f w = outL P fn.results.toList R f w := (rfl)
theorem outL_0 : outL P [] R f w = R (.tuple #[]) w := (rfl)
theorem outL_1 (t : Nat) : outL P [.tmp t] R f w = R (f t) w := (rfl)
theorem outL_2 (t u : Nat) : outL P [.tmp t, .tmp u] R f w = R (.tuple #[f t, f u]) w := (rfl)
def tupR (R : Value → World → Prop) (x : Value) : Value → World → Prop := fun v w => R (.tuple #[v, x]) w
theorem tupR_go (x v : Value) : tupR R x v w = R (.tuple #[v, x]) w := (rfl)
theorem outL_c (t T : Nat) : outL P [.cell t T] R f w = ldK P T (f t) R w := by
  simp only [outL, resK, ldK]
  cases hv : f t with
  | pointer p =>
    cases p with
    | none => exact (rfl)
    | some p =>
      simp only
      cases scal P T with
      | true =>
        simp only [if_true]
        cases w.cell? p <;> exact (rfl)
      | false =>
        simp only [Bool.false_eq_true, if_false]
        cases aggN P T with
        | none => exact (rfl)
        | some n =>
          simp only
          cases readCells w p n <;> exact (rfl)
  | _ => exact (rfl)
theorem outL_c1 (t T u : Nat) : outL P [.cell t T, .tmp u] R f w = ldK P T (f t) (tupR R (f u)) w := by
  simp only [outL, resK, ldK]
  cases hv : f t with
  | pointer p =>
    cases p with
    | none => exact (rfl)
    | some p =>
      simp only
      cases scal P T with
      | true =>
        simp only [if_true]
        cases w.cell? p <;> exact (rfl)
      | false =>
        simp only [Bool.false_eq_true, if_false]
        cases aggN P T with
        | none => exact (rfl)
        | some n =>
          simp only
          cases readCells w p n <;> exact (rfl)
  | _ => exact (rfl)
theorem outL_3 (t u x : Nat) : outL P [.tmp t, .tmp u, .tmp x] R f w = R (.tuple #[f t, f u, f x]) w := (rfl)
end

attribute [congr] cdK_congr kbK_congr

attribute [go_sem ↓] CX_skip CX_region CX_draws CX_seq CX_cond CX_block CX_exit CX_ret CX_label CX_loop kx_go kbK_true kbK_false cdK_true cdK_false outK_go outL_0 outL_1 outL_2 outL_3 outL_c outL_c1 tupR_go

end Go.SW
