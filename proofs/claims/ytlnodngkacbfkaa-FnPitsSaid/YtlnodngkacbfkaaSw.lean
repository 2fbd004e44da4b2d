/- The walk's own ground: sparse frames, straight-line rules, rules for code. No function of the program occurs here. -/
import Derived.WalkKit
import Derived.Deep.Quiet
import Derived.KernelRfl
set_option linter.all false
set_option maxRecDepth 20000
namespace Go.SW
open Go Go.RowKit

/-! ## frames -/
def upd (f : Nat → Value) (d : Nat) (v : Value) : Nat → Value := fun j => if j = d then v else f j
theorem upd_apply (f : Nat → Value) (d : Nat) (v : Value) (j : Nat) : upd f d v j = if j = d then v else f j := (rfl)

def fr (n : Nat) (f : Nat → Value) : Act := { tmps := Array.ofFn (n := n) fun i => f i.val, defers := [] }

def updO (f : Nat → Value) : Option Tmp → Value → (Nat → Value)
  | some d, v => upd f d v
  | none, _ => f
theorem updO_some (f : Nat → Value) (d : Nat) (v : Value) : updO f (some d) v = upd f d v := (rfl)
theorem updO_none (f : Nat → Value) (v : Value) : updO f none v = f := (rfl)

def ev (f : Nat → Value) : Operand → Value
  | .tmp t => f t
  | .const v => v
  | .global g => .pointer (some ⟨g, 0, none⟩)
  | .func g => .func (.func g) #[] #[]
theorem ev_tmp (f : Nat → Value) (t : Nat) : ev f (.tmp t) = f t := (rfl)
theorem ev_const (f : Nat → Value) (v : Value) : ev f (.const v) = v := (rfl)
theorem ev_func (f : Nat → Value) (g : Nat) : ev f (.func g) = .func (.func g) #[] #[] := (rfl)
theorem ev_global (f : Nat → Value) (g : Nat) : ev f (.global g) = .pointer (some ⟨g, 0, none⟩) := (rfl)

def xOk (n : Nat) : Operand → Bool
  | .tmp t => decide (t < n)
  | _ => true

theorem getD_fr (n : Nat) (f : Nat → Value) (t : Nat) (h : t < n) : (fr n f).tmps.getD t undef = f t := by
  simp [fr, Array.getD, h]

theorem eval_fr (n : Nat) (f : Nat → Value) (x : Operand) (h : xOk n x = true) : (fr n f).eval x = ev f x := by
  cases x with
  | tmp t => exact getD_fr n f t (by simpa [xOk] using h)
  | const v => rfl
  | global g => rfl
  | func g => rfl

theorem put_fr (n : Nat) (f : Nat → Value) (d : Option Tmp) (v : Value) (h : ∀ t, d = some t → t < n) : (fr n f).put d v = fr n (updO f d v) := by
  cases d with
  | none => rfl
  | some d =>
    have hd := h d rfl
    simp only [Act.put, fr, updO_some]
    congr 1
    apply Array.ext
    · simp
    · intro i h1 h2
      simp only [Array.size_setIfInBounds, Array.size_ofFn] at h1
      rw [Array.getElem_setIfInBounds]
      · simp only [Array.getElem_ofFn, upd_apply]
        by_cases e : d = i
        · simp [e]
        · rw [if_neg e, if_neg (fun h => e h.symm), Array.getElem_ofFn]
      · simpa using h1

theorem yielded_fr (n : Nat) (f : Nat → Value) (ops : Array Oper) (j : Nat) (d : Nat) (hj : (ops[j]?).bind (·.dst) = some d) (hd : d < n) :
    yielded ops (fr n f).tmps j = match f d with | .bool b => some b | _ => none := by
  simp only [yielded, hj, Option.bind_some]
  have : (fr n f).tmps[d]? = some (f d) := by simp [fr, hd]
  rw [this]
  cases f d <;> rfl

/-! ## what an operand list must satisfy -/
def opOk (n : Nat) (o : Oper) : Bool :=
  o.op.operands.all (xOk n) && (match o.dst with | some d => decide (d < n) | none => true)

/-! ## what an operation yields, in whatever world -/
def esz (P : Program) (T : TypeId) : Option Nat :=
  match P.underlying T with
  | some (.slice e) => (P.info? e).map (·.size)
  | _ => none

def foff (P : Program) (s k : Nat) : Option Nat :=
  match P.underlying s with
  | some (.struct fields) =>
    match fields[k]? with
    | some fd => match P.info? fd.type with
      | some i => if i.size = 0 then none else some fd.offset
      | none => none
    | none => none
  | _ => none

def intV (op : BinOp) (k : IntKind) (a b : Int) : Option Value :=
  match op with
  | .add => some (.int k (k.wrap (a + b)))
  | .sub => some (.int k (k.wrap (a - b)))
  | .mul => some (.int k (k.wrap (a * b)))
  | .quo => if b = 0 then none else some (.int k (k.wrap (a.tdiv b)))
  | .rem => if b = 0 then none else some (.int k (a.tmod b))
  | .eql => some (.bool (a == b))
  | .neq => some (.bool (a != b))
  | .lss => some (.bool (decide (a < b)))
  | .leq => some (.bool (decide (a ≤ b)))
  | .gtr => some (.bool (decide (a > b)))
  | .geq => some (.bool (decide (a ≥ b)))
  | .xor => some (.int k (k.wrap (BitVec.ofInt k.bits a ^^^ BitVec.ofInt k.bits b).toNat))
  | .and => some (.int k (k.wrap (BitVec.ofInt k.bits a &&& BitVec.ofInt k.bits b).toNat))
  | _ => none

def binV (P : Program) (op : BinOp) (T : TypeId) : Value → Value → Option Value
  | .int k a, .int k' b => if k = k' then intV op k a b else none
  | .string a, .string b =>
    match op with
    | .eql => some (.bool (a.toList == b.toList))
    | .neq => some (.bool (!(a.toList == b.toList)))
    | .add => if a.size + b.size ≤ 9223372036854775807 then some (.string (a ++ b)) else none
    | _ => none
  | .bool a, .bool b =>
    match P.underlying T with
    | some .bool => match op with
      | .eql => some (.bool (a == b))
      | .neq => some (.bool (!(a == b)))
      | _ => none
    | _ => none
  | _, _ => none

def unV (op : UnOp) : Value → Option Value
  | .bool b => match op with | .not => some (.bool (!b)) | _ => none
  | .int k n => match op with | .neg => some (.int k (k.wrap (0 - n))) | _ => none
  | _ => none

def pickV : Value → Value → Value → Option Value
  | .bool t, a, b => some (if t then a else b)
  | _, _, _ => none

def idxV (es : Option Nat) : Value → Value → Option Value
  | .slice (some a) n _, .int _ i => match es with
    | some s => if 0 ≤ i ∧ i < (n : Int) then some (.pointer (some (a.add (i.toNat * s)))) else none
    | none => none
  | _, _ => none

def fldV (o : Option Nat) : Value → Option Value
  | .pointer (some a) => match o with
    | some k => some (.pointer (some (a.add k)))
    | none => none
  | _ => none

def sidxV (P : Program) (T : TypeId) : Value → Value → Option Value
  | .string s, .int _ i => match P.underlying T with
    | some .string => if h : 0 ≤ i ∧ i.toNat < s.size then some (.int .u8 (s[i.toNat]'h.2).toNat) else none
    | _ => none
  | _, _ => none

def lenV (P : Program) (t : TypeId) : Value → Option Value
  | .slice _ n _ => match P.underlying t with
    | some (.slice _) => some (.int .i64 n)
    | _ => none
  | .string s => match P.underlying t with
    | some .string => some (.int .i64 s.size)
    | _ => none
  | _ => none

def biV (P : Program) (b : Builtin) (ts : List TypeId) (vs : List Value) : Option Value :=
  match b, ts, vs with
  | .len, t :: _, v :: _ => lenV P t v
  | .min, _, [.int k x, .int _ y] => some (.int k (min x y))
  | .max, _, [.int k x, .int _ y] => some (.int k (max x y))
  | .min, _, [.int k x, .int k' y, .int k2 z, .int k3 u] => if k = k' ∧ k = k2 ∧ k = k3 then some (.int k (min (min (min x y) z) u)) else none
  | _, _, _ => none

def boundV (y : Nat) (dflt : Nat) : Option Value → Option Nat
  | none => some dflt
  | some (.int _ i) => if 0 ≤ i ∧ i ≤ (y : Int) then some i.toNat else none
  | some _ => none

def slcV (P : Program) (T : TypeId) (x : Value) (lo hi : Option Value) : Option Value :=
  match x with
  | .slice a len cap => match esz P T with
    | some s => match boundV cap len hi with
      | some h => match boundV h 0 lo with
        | some l => some (.slice (if cap = l then a else a.map (·.add (l * s))) (h - l) (cap - l))
        | none => none
      | none => none
    | none => none
  | .string s => match P.underlying T with
    | some .string => match boundV s.size s.size hi with
      | some h => match boundV h 0 lo with
        | some l => some (.string (s.extract l h))
        | none => none
      | none => none
    | _ => none
  | _ => none

def exV : Value → Nat → Option Value
  | .tuple vs, i => vs[i]?
  | _, _ => none

def cvV (P : Program) (src dst : TypeId) : Value → Option Value
  | .int _ n => match P.underlying src, P.underlying dst with
    | some _, some (.int k) => some (.int k (k.wrap n))
    | _, _ => none
  | _ => none

def buildV (P : Program) (T : TypeId) (parts : List (Nat × Value)) : Option Value := (P.built T parts).map Value.agg

def nilV : Value → Option Value
  | .pointer (some a) => some (.pointer (some a))
  | _ => none

def pv (P : Program) (f : Nat → Value) : Op → Option Value
  | .nilCheck x => nilV (ev f x)
  | .move x => some (ev f x)
  | .assign x => some (ev f x)
  | .pick c a b => pickV (ev f c) (ev f a) (ev f b)
  | .binOp op T x y _ => binV P op T (ev f x) (ev f y)
  | .unOp op _ x => unV op (ev f x)
  | .indexAddr T x i => idxV (esz P T) (ev f x) (ev f i)
  | .fieldAddr s x k => fldV (foff P s k) (ev f x)
  | .index T x i => sidxV P T (ev f x) (ev f i)
  | .call c => match c.callee with
    | .builtin b => biV P b c.argTypes.toList (c.args.toList.map (ev f))
    | _ => none
  | .slice T x lo hi none => slcV P T (ev f x) (lo.map (ev f)) (hi.map (ev f))
  | .extract t i => exV (ev f t) i
  | .makeFunc fn first captured => some (.func fn (first.map (ev f)) (captured.map (ev f)))
  | .convert src dst x => cvV P src dst (ev f x)
  | .build T parts => buildV P T (parts.toList.map fun p => (p.1, ev f p.2))
  | _ => none

theorem run_typeInfo_some {P : Program} {w : World} {T : TypeId} {i : TypeInfo} (h : P.info? T = some i) : (typeInfo T).run P w = .ok i w := by
  simp only [typeInfo, program, bind, Sem.bind, Sem.run, h]; rfl
theorem run_sizeOf_some {P : Program} {w : World} {T : TypeId} {i : TypeInfo} (h : P.info? T = some i) : (sizeOf T).run P w = .ok i.size w := by
  simp only [sizeOf, typeInfo, program, bind, Sem.bind, Sem.run, h]; rfl
theorem run_underlying_some {P : Program} {w : World} {T : TypeId} {d : TypeDesc} (h : P.underlying T = some d) : (underlying T).run P w = .ok d w := by
  simp only [underlying, program, bind, Sem.bind, Sem.run, h]; rfl

theorem esz_some {P : Program} {T s : Nat} (h : esz P T = some s) : ∃ e i, P.underlying T = some (.slice e) ∧ P.info? e = some i ∧ i.size = s := by
  unfold esz at h
  split at h
  · rename_i e he
    cases hi : P.info? e with
    | none => simp [hi] at h
    | some i => exact ⟨e, i, he, hi, by simpa [hi] using h⟩
  · cases h

theorem foff_some {P : Program} {s k o : Nat} (h : foff P s k = some o) : ∃ fields fd i, P.underlying s = some (.struct fields) ∧ fields[k]? = some fd ∧ P.info? fd.type = some i ∧ i.size ≠ 0 ∧ fd.offset = o := by
  unfold foff at h
  split at h
  · rename_i fields hs
    split at h
    · rename_i fd hf
      split at h
      · rename_i i hi
        split at h
        · cases h
        · rename_i hz
          exact ⟨fields, fd, i, hs, hf, hi, hz, by simpa using h⟩
      · cases h
    · cases h
  · cases h

def plainPair : Value → Value → Bool
  | .nilIface, .nilIface => false
  | .agg _, .agg _ => false
  | _, _ => true

theorem run_eqGuard_plain {P : Program} {op : BinOp} {t : TypeId} {x y : Operand} {a b : Value} {w : World}
    (h : plainPair a b = true) : (eqGuard op t x y a b).run P w = .ok () w := by
  unfold eqGuard
  cases a <;> cases b <;> first
    | (simp only [plainPair] at h; cases h; done)
    | (cases op <;> rfl)

theorem intV_run {P : Program} {op : BinOp} {k : IntKind} {a b : Int} {v : Value} {T : TypeId} {w : World} (h : intV op k a b = some v) :
    (binOp op T (.int k a) (.int k b)).run P w = .ok v w := by
  cases op <;> simp only [intV] at h <;> first
    | (cases h; done)
    | (simp only [Option.some.injEq] at h; subst h; simp only [binOp, ne_eq, not_true_eq_false, if_false, Op.intArith, Op.intCmp, Op.intBits]; rfl)
    | (split at h
       · cases h
       · rename_i hb
         simp only [Option.some.injEq] at h; subst h
         simp only [binOp, ne_eq, not_true_eq_false, if_false, Op.intDiv, hb]; rfl)

theorem equalIn_bool {P : Program} {T : TypeId} {a b : Bool} {w : World} (hT : P.underlying T = some .bool) (d : Nat) :
    (Op.equalIn (d + 1) T (.bool a) (.bool b)).run P w = .ok (a == b) w := by
  simp only [Op.equalIn, underlying, program, bind, Sem.bind, Sem.run, hT]
  rfl

theorem equal_bool {P : Program} {T : TypeId} {a b : Bool} {w : World} (hT : P.underlying T = some .bool) :
    (Op.equal T (.bool a) (.bool b)).run P w = .ok (a == b) w := equalIn_bool hT 9999

theorem run_bindV {α β : Type} {P : Program} {w w' : World} {s : Sem α} {k : α → Sem β} {a : α} (h : s.run P w = .ok a w') : (s >>= k).run P w = (k a).run P w' := by
  rw [Sem.run_bind, h]; rfl

theorem binV_run {P : Program} {op : BinOp} {T : TypeId} {x y v : Value} {w : World} (h : binV P op T x y = some v) :
    (binOp op T x y).run P w = .ok v w ∧ plainPair x y = true := by
  unfold binV at h
  split at h
  · rename_i k a k' b
    split at h
    · rename_i e
      subst e
      exact ⟨intV_run h, rfl⟩
    · cases h
  · rename_i a b
    cases op <;> simp only at h <;> first
      | (cases h; done)
      | (simp only [Option.some.injEq] at h; subst h; exact ⟨rfl, rfl⟩)
      | (split at h
         · rename_i hs
           simp only [Option.some.injEq] at h; subst h
           refine ⟨?_, rfl⟩
           simp only [binOp, Op.stringOp]
           rw [if_neg (by simp [IntKind.max, IntKind.bits, IntKind.signed]; omega)]
           rfl
         · cases h)
  · rename_i a b
    split at h
    · rename_i hT
      cases op <;> simp only at h <;> first
        | (cases h; done)
        | (simp only [Option.some.injEq] at h; subst h
           exact ⟨run_bindV (equal_bool hT), rfl⟩)
    · cases h
  · cases h

theorem unV_run {P : Program} {op : UnOp} {x v : Value} {w : World} (h : unV op x = some v) : (Op.unary op x).run P w = .ok v w := by
  unfold unV at h
  split at h
  · cases op <;> simp only at h <;> first
      | (cases h; done)
      | (simp only [Option.some.injEq] at h; subst h; rfl)
  · cases op <;> simp only at h <;> first
      | (cases h; done)
      | (simp only [Option.some.injEq] at h; subst h; rfl)
  · cases h

theorem idxV_run {P : Program} {T : TypeId} {x i v : Value} {w : World} (h : idxV (esz P T) x i = some v) : (Instr.indexAt T x i).run P w = .ok v w := by
  unfold idxV at h
  split at h
  · rename_i a n c k i
    split at h
    · rename_i s hs
      obtain ⟨e, inf, hT, he, hsz⟩ := esz_some hs
      split at h
      · rename_i hb
        simp only [Option.some.injEq] at h; subst h
        simp only [Instr.indexAt, asIntOf, underlying, sizeOf, typeInfo, program, bind, Sem.bind, pure, Sem.run, hT, hb, and_self, if_true, he, hsz]
      · cases h
    · cases h
  · cases h

theorem fldV_run {P : Program} {s k : Nat} {x v : Value} {w : World} (h : fldV (foff P s k) x = some v) : (Instr.fieldAt s x k).run P w = .ok v w := by
  unfold fldV at h
  split at h
  · rename_i a
    split at h
    · rename_i o ho
      obtain ⟨fields, fd, inf, hs, hf, hi, hz, rfl⟩ := foff_some ho
      simp only [Option.some.injEq] at h; subst h
      simp only [Instr.fieldAt, Instr.sureAddr, fieldPlace, underlying, sizeOf, typeInfo, program, bind, Sem.bind, pure, Sem.run, hs, hf, hi, hz, if_false]
    · cases h
  · cases h

theorem sidxV_run {P : Program} {T : TypeId} {x i v : Value} {w : World} (h : sidxV P T x i = some v) : (Instr.index T x i).run P w = .ok v w := by
  unfold sidxV at h
  split at h
  · rename_i s k i
    split at h
    · rename_i hT
      split at h
      · rename_i hb
        simp only [Option.some.injEq] at h; subst h
        have hg : s[i.toNat]? = some (s[i.toNat]'hb.2) := by
          exact getElem?_pos s i.toNat hb.2
        simp only [Instr.index, asIntOf, underlying, program, bind, Sem.bind, pure, Sem.run, hT, hb.1, if_true, hg]
      · cases h
    · cases h
  · cases h

theorem lenV_run {P : Program} {ty t : TypeId} {ts : Array TypeId} {as : Array Value} {x v : Value} {w : World} (hts : ts[0]? = some t) (has : as[0]? = some x) (h : lenV P t x = some v) :
    (Builtin.len_ ts ty as).run P w = .ok v w := by
  unfold lenV at h
  split at h
  · split at h
    · rename_i hT
      simp only [Option.some.injEq] at h; subst h
      simp only [Builtin.len_, hts, has, underlying, program, bind, Sem.bind, pure, Sem.run, hT, goInt]
    · cases h
  · split at h
    · rename_i hT
      simp only [Option.some.injEq] at h; subst h
      simp only [Builtin.len_, hts, has, underlying, program, bind, Sem.bind, pure, Sem.run, hT, goInt]
    · cases h
  · cases h

theorem getElem?_0_of_toList {α : Type} {as : Array α} {x : α} {l : List α} (h : as.toList = x :: l) : as[0]? = some x := by
  cases as; simp_all

theorem biV_run {P : Program} {b : Builtin} {ty : TypeId} {ts : Array TypeId} {as : Array Value} {cs : Array Bool} {v : Value} {w : World} (h : biV P b ts.toList as.toList = some v) :
    (builtin b ts ty cs as).run P w = .ok (.value v) w := by
  unfold biV at h
  split at h
  · rename_i t _ x _ hts has
    exact run_bindV (lenV_run (getElem?_0_of_toList hts) (getElem?_0_of_toList has) h)
  · rename_i k x k' y has
    simp only [Option.some.injEq] at h; subst h
    refine run_bindV (a := Value.int k (min x y)) (w' := w) ?_
    simp only [Builtin.min_, has]
    have e : (if y < x then y else x) = min x y := by omega
    simp only [List.foldlM, Builtin.min2, e]
    rfl
  · rename_i k x k' y has
    simp only [Option.some.injEq] at h; subst h
    refine run_bindV (a := Value.int k (max x y)) (w' := w) ?_
    simp only [Builtin.max_, has]
    have e : (if y > x then y else x) = max x y := by omega
    simp only [List.foldlM, Builtin.max2, e]
    rfl
  · rename_i k x k' y k2 z k3 u has
    split at h
    · simp only [Option.some.injEq] at h; subst h
      refine run_bindV (a := Value.int k (min (min (min x y) z) u)) (w' := w) ?_
      simp only [Builtin.min_, has]
      have e : (if y < x then y else x) = min x y := by omega
      have e2 : (if z < min x y then z else min x y) = min (min x y) z := by omega
      have e3 : (if u < min (min x y) z then u else min (min x y) z) = min (min (min x y) z) u := by omega
      simp only [List.foldlM, Builtin.min2, bind, Sem.bind, pure, e, e2, e3]
      rfl
    · cases h
  · cases h

theorem boundV_run {P : Program} {y d h : Nat} {k : IntKind} {i : Int} {w : World} {code : BoundsCode} (hh : boundV y d (some (.int k i)) = some h) : (Instr.sliceBound (.int k i) y code).run P w = .ok h w := by
  simp only [boundV] at hh
  split at hh
  · rename_i hb
    simp only [Option.some.injEq] at hh; subst hh
    simp only [Instr.sliceBound, asIntOf, bind, Sem.bind, pure, hb, and_self, if_true, Sem.run]
  · cases hh

theorem bounds_run {P : Program} {b : Bool} {len cap h l : Nat} {lo hi : Option Value} {w : World} (hh : boundV cap len hi = some h) (hl : boundV h 0 lo = some l) :
    (Instr.sliceBounds b len cap lo hi none).run P w = .ok (l, h, cap) w := by
  cases hi with
  | none =>
    simp only [boundV, Option.some.injEq] at hh; subst hh
    cases lo with
    | none => simp only [boundV, Option.some.injEq] at hl; subst hl; rfl
    | some v => cases v <;> first
      | (simp only [boundV] at hl; cases hl; done)
      | exact (run_bindV (boundV_run hl)).trans rfl
  | some u =>
    cases u <;> first
      | (simp only [boundV] at hh; cases hh; done)
      | (refine (run_bindV (boundV_run hh)).trans ?_
         cases lo with
         | none => simp only [boundV, Option.some.injEq] at hl; subst hl; rfl
         | some v => cases v <;> first
           | (simp only [boundV] at hl; cases hl; done)
           | exact (run_bindV (boundV_run hl)).trans rfl)

theorem slcV_run {P : Program} {T : TypeId} {x v : Value} {lo hi : Option Value} {w : World} (h : slcV P T x lo hi = some v) : (Instr.sliceAt T x lo hi none).run P w = .ok v w := by
  unfold slcV at h
  split at h
  · rename_i a len cap
    split at h
    · rename_i s hs
      obtain ⟨e, inf, hT, he, hsz⟩ := esz_some hs
      split at h
      · rename_i hi' hh
        split at h
        · rename_i lo' hl
          simp only [Option.some.injEq] at h; subst h
          refine (run_bindV (run_underlying_some hT)).trans ?_
          simp only [Instr.slice]
          refine (run_bindV (run_underlying_some hT)).trans ?_
          refine (run_bindV (bounds_run hh hl)).trans ?_
          refine (run_bindV (run_sizeOf_some he)).trans ?_
          rw [hsz]; rfl
        · cases h
      · cases h
    · cases h
  · rename_i s
    split at h
    · rename_i hT
      split at h
      · rename_i hi' hh
        split at h
        · rename_i lo' hl
          simp only [Option.some.injEq] at h; subst h
          refine (run_bindV (run_underlying_some hT)).trans ?_
          simp only [Instr.slice]
          refine (run_bindV (run_underlying_some hT)).trans ?_
          exact (run_bindV (bounds_run hh hl)).trans rfl
        · cases h
      · cases h
    · cases h
  · cases h

theorem exV_run {P : Program} {x v : Value} {i : Nat} {w : World} (h : exV x i = some v) : (Instr.extract x i).run P w = .ok v w := by
  unfold exV at h
  split at h
  · simp only [Instr.extract, h]; rfl
  · cases h

theorem cvV_run {P : Program} {src dst : TypeId} {x v : Value} {w : World} (h : cvV P src dst x = some v) : (convert src dst x).run P w = .ok v w := by
  unfold cvV at h
  split at h
  · split at h
    · rename_i hs hd
      simp only [Option.some.injEq] at h; subst h
      simp only [convert, underlying, program, bind, Sem.bind, Sem.run, hs, hd, Conv.intToInt, pure]
    · cases h
  · cases h

theorem buildV_run {P : Program} {T : TypeId} {parts : Array (Nat × Value)} {v : Value} {w : World} (h : buildV P T parts.toList = some v) : (Instr.build T parts).run P w = .ok v w := by
  unfold buildV at h
  cases hb : P.built T parts.toList with
  | none => simp [hb] at h
  | some cells =>
    simp only [hb, Option.map_some, Option.some.injEq] at h
    subst h
    exact run_build w T parts cells hb

theorem pv_run {P : Program} {f : Nat → Value} {o : Oper} {v : Value} {w : World} (h : pv P f o.op = some v) : (execOp (ev f) o).run P w = .ok (.value v) w := by
  unfold execOp
  cases hop : o.op <;> rw [hop] at h <;> first
    | (simp only [pv] at h; cases h; done)
    | skip
  case nilCheck x =>
    simp only [pv] at h
    cases hx : ev f x with
    | pointer a =>
      cases a with
      | none => rw [hx] at h; cases h
      | some a => rw [hx] at h; simp only [nilV, Option.some.injEq] at h; subst h; simp only [hx]; rfl
    | _ => rw [hx] at h; cases h
  case move x => simp only [pv, Option.some.injEq] at h; subst h; rfl
  case assign x => simp only [pv, Option.some.injEq] at h; subst h; rfl
  case pick c a b =>
    simp only [pv] at h
    cases hc : ev f c <;> rw [hc] at h <;> simp only [pickV] at h <;> first
      | (cases h; done)
      | (simp only [Option.some.injEq] at h; subst h; simp only [hc, asBool]; rfl)
  case build T parts =>
    simp only [pv] at h
    refine run_bindV (buildV_run (P := P) (T := T) (parts := parts.map fun (i, x) => (i, ev f x)) ?_)
    rw [← h]; simp
  case binOp op T x y yT =>
    simp only [pv] at h
    obtain ⟨h1, h2⟩ := binV_run (w := w) h
    exact run_bindV ((run_bindV (run_eqGuard_plain h2)).trans h1)
  case unOp op T x => exact run_bindV (unV_run h)
  case convert s d x => exact run_bindV (cvV_run h)
  case makeFunc fn a b => simp only [pv, Option.some.injEq] at h; subst h; rfl
  case slice T x lo hi mx =>
    cases mx with
    | some m => simp only [pv] at h; cases h
    | none => exact run_bindV (slcV_run h)
  case fieldAddr s x k => exact run_bindV (fldV_run h)
  case indexAddr T x i => exact run_bindV (idxV_run h)
  case index T x i => exact run_bindV (sidxV_run h)
  case extract x i => exact run_bindV (exV_run h)
  case call c =>
    simp only [pv] at h
    cases hc : c.callee with
    | value g => rw [hc] at h; cases h
    | invoke r m => rw [hc] at h; cases h
    | builtin b =>
      rw [hc] at h
      simp only at h
      have h' : biV P b c.argTypes.toList (c.args.map (ev f)).toList = some v := by rw [← h]; simp
      refine (run_bindV (w' := w) (a := { target := .builtin b c.argTypes o.type (c.args.map fun | .const _ => true | _ => false), args := c.args.map (ev f) }) ?_).trans ?_
      · simp only [resolve, hc]; rfl
      · exact biV_run h'

end Go.SW
