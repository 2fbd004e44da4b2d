import Derived.Test.YtcbmhjndbpafbaaGreatDoorJ0
import Derived.WalkKit
import Derived.Deep.Quiet
import Derived.KernelRfl
set_option linter.all false
set_option maxRecDepth 20000
namespace Go.SW
open Go Go.RowKit
def upd (f : Nat → Value) (d : Nat) (v : Value) : Nat → Value := fun j => if j = d then v else f j
theorem upd_apply (f : Nat → Value) (d : Nat) (v : Value) (j : Nat) : upd f d v j = if j = d then v else f j := (rfl)
theorem uu {p : Prop} (h : p := by first | assumption | (simp only [upd_apply, Nat.reduceEqDiff, ↓reduceIte] <;> first | rfl | assumption) | simp [upd_apply, *]) : p := h
def fr (n : Nat) (f : Nat → Value) : Act := { tmps := Array.ofFn (n := n) fun i => f i.val, defers := [] }
def updO (f : Nat → Value) : Option Tmp → Value → (Nat → Value)
  | some d, v => upd f d v
  | none, _ => f
theorem updO_some (f : Nat → Value) (d : Nat) (v : Value) : updO f (some d) v = upd f d v := (rfl)
theorem updO_none (f : Nat → Value) (v : Value) : updO f none v = f := (rfl)
def ev (f : Nat → Value) : Operand → Value
  | .tmp t => f t
  | .const v => v
  | .global g => .pointer (some ⟨g, 0, none⟩)
  | .func g => .func (.func g) #[] #[]
theorem ev_tmp (f : Nat → Value) (t : Nat) : ev f (.tmp t) = f t := (rfl)
theorem ev_const (f : Nat → Value) (v : Value) : ev f (.const v) = v := (rfl)
theorem ev_func (f : Nat → Value) (g : Nat) : ev f (.func g) = .func (.func g) #[] #[] := (rfl)
theorem ev_global (f : Nat → Value) (g : Nat) : ev f (.global g) = .pointer (some ⟨g, 0, none⟩) := (rfl)
def xOk (n : Nat) : Operand → Bool
  | .tmp t => decide (t < n)
  | _ => true
theorem getD_fr (n : Nat) (f : Nat → Value) (t : Nat) (h : t < n) : (fr n f).tmps.getD t undef = f t := by
  simp [fr, Array.getD, h]
theorem eval_fr (n : Nat) (f : Nat → Value) (x : Operand) (h : xOk n x = true) : (fr n f).eval x = ev f x := by
  cases x with
  | tmp t => exact getD_fr n f t (by simpa [xOk] using h)
  | const v => rfl
  | global g => rfl
  | func g => rfl
theorem put_fr (n : Nat) (f : Nat → Value) (d : Option Tmp) (v : Value) (h : ∀ t, d = some t → t < n) : (fr n f).put d v = fr n (updO f d v) := by
  cases d with
  | none => rfl
  | some d =>
    have hd := h d rfl
    simp only [Act.put, fr, updO_some]
    congr 1
    apply Array.ext
    · simp
    · intro i h1 h2
      simp only [Array.size_setIfInBounds, Array.size_ofFn] at h1
      rw [Array.getElem_setIfInBounds]
      · simp only [Array.getElem_ofFn, upd_apply]
        by_cases e : d = i
        · simp [e]
        · rw [if_neg e, if_neg (fun h => e h.symm), Array.getElem_ofFn]
      · simpa using h1
theorem yielded_fr (n : Nat) (f : Nat → Value) (ops : Array Oper) (j : Nat) (d : Nat) (hj : (ops[j]?).bind (·.dst) = some d) (hd : d < n) :
    yielded ops (fr n f).tmps j = match f d with | .bool b => some b | _ => none := by
  simp only [yielded, hj, Option.bind_some]
  have : (fr n f).tmps[d]? = some (f d) := by simp [fr, hd]
  rw [this]
  cases f d <;> rfl
def opOk (n : Nat) (o : Oper) : Bool :=
  o.op.operands.all (xOk n) && (match o.dst with | some d => decide (d < n) | none => true)
def esz (P : Program) (T : TypeId) : Option Nat :=
  match P.underlying T with
  | some (.slice e) => (P.info? e).map (·.size)
  | _ => none
def foff (P : Program) (s k : Nat) : Option Nat :=
  match P.underlying s with
  | some (.struct fields) =>
    match fields[k]? with
    | some fd => match P.info? fd.type with
      | some i => if i.size = 0 then none else some fd.offset
      | none => none
    | none => none
  | _ => none
def intV (op : BinOp) (k : IntKind) (a b : Int) : Option Value :=
  match op with
  | .add => some (.int k (k.wrap (a + b)))
  | .sub => some (.int k (k.wrap (a - b)))
  | .mul => some (.int k (k.wrap (a * b)))
  | .quo => if b = 0 then none else some (.int k (k.wrap (a.tdiv b)))
  | .rem => if b = 0 then none else some (.int k (a.tmod b))
  | .eql => some (.bool (a == b))
  | .neq => some (.bool (a != b))
  | .lss => some (.bool (decide (a < b)))
  | .leq => some (.bool (decide (a ≤ b)))
  | .gtr => some (.bool (decide (a > b)))
  | .geq => some (.bool (decide (a ≥ b)))
  | .xor => some (.int k (k.wrap (BitVec.ofInt k.bits a ^^^ BitVec.ofInt k.bits b).toNat))
  | .and => some (.int k (k.wrap (BitVec.ofInt k.bits a &&& BitVec.ofInt k.bits b).toNat))
  | _ => none
def binV (P : Program) (op : BinOp) (T : TypeId) : Value → Value → Option Value
  | .int k a, .int k' b => if k = k' then intV op k a b else none
  | .string a, .string b =>
    match op with
    | .eql => some (.bool (a.toList == b.toList))
    | .neq => some (.bool (!(a.toList == b.toList)))
    | .add => if a.size + b.size ≤ 9223372036854775807 then some (.string (a ++ b)) else none
    | _ => none
  | .bool a, .bool b =>
    match P.underlying T with
    | some .bool => match op with
      | .eql => some (.bool (a == b))
      | .neq => some (.bool (!(a == b)))
      | _ => none
    | _ => none
  | _, _ => none
def unV (op : UnOp) : Value → Option Value
  | .bool b => match op with | .not => some (.bool (!b)) | _ => none
  | .int k n => match op with | .neg => some (.int k (k.wrap (0 - n))) | _ => none
  | _ => none
def pickV : Value → Value → Value → Option Value
  | .bool t, a, b => some (if t then a else b)
  | _, _, _ => none
def idxV (es : Option Nat) : Value → Value → Option Value
  | .slice (some a) n _, .int _ i => match es with
    | some s => if 0 ≤ i ∧ i < (n : Int) then some (.pointer (some (a.add (i.toNat * s)))) else none
    | none => none
  | _, _ => none
def fldV (o : Option Nat) : Value → Option Value
  | .pointer (some a) => match o with
    | some k => some (.pointer (some (a.add k)))
    | none => none
  | _ => none
def sidxV (P : Program) (T : TypeId) : Value → Value → Option Value
  | .string s, .int _ i => match P.underlying T with
    | some .string => if h : 0 ≤ i ∧ i.toNat < s.size then some (.int .u8 (s[i.toNat]'h.2).toNat) else none
    | _ => none
  | _, _ => none
def lenV (P : Program) (t : TypeId) : Value → Option Value
  | .slice _ n _ => match P.underlying t with
    | some (.slice _) => some (.int .i64 n)
    | _ => none
  | .string s => match P.underlying t with
    | some .string => some (.int .i64 s.size)
    | _ => none
  | _ => none
def biV (P : Program) (b : Builtin) (ts : List TypeId) (vs : List Value) : Option Value :=
  match b, ts, vs with
  | .len, t :: _, v :: _ => lenV P t v
  | .min, _, [.int k x, .int _ y] => some (.int k (min x y))
  | .max, _, [.int k x, .int _ y] => some (.int k (max x y))
  | .min, _, [.int k x, .int k' y, .int k2 z, .int k3 u] => if k = k' ∧ k = k2 ∧ k = k3 then some (.int k (min (min (min x y) z) u)) else none
  | _, _, _ => none
def boundV (y : Nat) (dflt : Nat) : Option Value → Option Nat
  | none => some dflt
  | some (.int _ i) => if 0 ≤ i ∧ i ≤ (y : Int) then some i.toNat else none
  | some _ => none
def slcV (P : Program) (T : TypeId) (x : Value) (lo hi : Option Value) : Option Value :=
  match x with
  | .slice a len cap => match esz P T with
    | some s => match boundV cap len hi with
      | some h => match boundV h 0 lo with
        | some l => some (.slice (if cap = l then a else a.map (·.add (l * s))) (h - l) (cap - l))
        | none => none
      | none => none
    | none => none
  | .string s => match P.underlying T with
    | some .string => match boundV s.size s.size hi with
      | some h => match boundV h 0 lo with
        | some l => some (.string (s.extract l h))
        | none => none
      | none => none
    | _ => none
  | _ => none
def exV : Value → Nat → Option Value
  | .tuple vs, i => vs[i]?
  | _, _ => none
def cvV (P : Program) (src dst : TypeId) : Value → Option Value
  | .int _ n => match P.underlying src, P.underlying dst with
    | some _, some (.int k) => some (.int k (k.wrap n))
    | _, _ => none
  | _ => none
def buildV (P : Program) (T : TypeId) (parts : List (Nat × Value)) : Option Value := (P.built T parts).map Value.agg
def nilV : Value → Option Value
  | .pointer (some a) => some (.pointer (some a))
  | _ => none
def pv (P : Program) (f : Nat → Value) : Op → Option Value
  | .nilCheck x => nilV (ev f x)
  | .move x => some (ev f x)
  | .assign x => some (ev f x)
  | .pick c a b => pickV (ev f c) (ev f a) (ev f b)
  | .binOp op T x y _ => binV P op T (ev f x) (ev f y)
  | .unOp op _ x => unV op (ev f x)
  | .indexAddr T x i => idxV (esz P T) (ev f x) (ev f i)
  | .fieldAddr s x k => fldV (foff P s k) (ev f x)
  | .index T x i => sidxV P T (ev f x) (ev f i)
  | .call c => match c.callee with
    | .builtin b => biV P b c.argTypes.toList (c.args.toList.map (ev f))
    | _ => none
  | .slice T x lo hi none => slcV P T (ev f x) (lo.map (ev f)) (hi.map (ev f))
  | .extract t i => exV (ev f t) i
  | .makeFunc fn first captured => some (.func fn (first.map (ev f)) (captured.map (ev f)))
  | .convert src dst x => cvV P src dst (ev f x)
  | .build T parts => buildV P T (parts.toList.map fun p => (p.1, ev f p.2))
  | _ => none
theorem run_typeInfo_some {P : Program} {w : World} {T : TypeId} {i : TypeInfo} (h : P.info? T = some i) : (typeInfo T).run P w = .ok i w := by
  simp only [typeInfo, program, bind, Sem.bind, Sem.run, h]; rfl
theorem run_sizeOf_some {P : Program} {w : World} {T : TypeId} {i : TypeInfo} (h : P.info? T = some i) : (sizeOf T).run P w = .ok i.size w := by
  simp only [sizeOf, typeInfo, program, bind, Sem.bind, Sem.run, h]; rfl
theorem run_underlying_some {P : Program} {w : World} {T : TypeId} {d : TypeDesc} (h : P.underlying T = some d) : (underlying T).run P w = .ok d w := by
  simp only [underlying, program, bind, Sem.bind, Sem.run, h]; rfl
theorem esz_some {P : Program} {T s : Nat} (h : esz P T = some s) : ∃ e i, P.underlying T = some (.slice e) ∧ P.info? e = some i ∧ i.size = s := by
  unfold esz at h
  split at h
  · rename_i e he
    cases hi : P.info? e with
    | none => simp [hi] at h
    | some i => exact ⟨e, i, he, hi, by simpa [hi] using h⟩
  · cases h
theorem foff_some {P : Program} {s k o : Nat} (h : foff P s k = some o) : ∃ fields fd i, P.underlying s = some (.struct fields) ∧ fields[k]? = some fd ∧ P.info? fd.type = some i ∧ i.size ≠ 0 ∧ fd.offset = o := by
  unfold foff at h
  split at h
  · rename_i fields hs
    split at h
    · rename_i fd hf
      split at h
      · rename_i i hi
        split at h
        · cases h
        · rename_i hz
          exact ⟨fields, fd, i, hs, hf, hi, hz, by simpa using h⟩
      · cases h
    · cases h
  · cases h
def plainPair : Value → Value → Bool
  | .nilIface, .nilIface => false
  | .agg _, .agg _ => false
  | _, _ => true
theorem run_eqGuard_plain {P : Program} {op : BinOp} {t : TypeId} {x y : Operand} {a b : Value} {w : World}
    (h : plainPair a b = true) : (eqGuard op t x y a b).run P w = .ok () w := by
  unfold eqGuard
  cases a <;> cases b <;> first
    | (simp only [plainPair] at h; cases h; done)
    | (cases op <;> rfl)
theorem intV_run {P : Program} {op : BinOp} {k : IntKind} {a b : Int} {v : Value} {T : TypeId} {w : World} (h : intV op k a b = some v) :
    (binOp op T (.int k a) (.int k b)).run P w = .ok v w := by
  cases op <;> simp only [intV] at h <;> first
    | (cases h; done)
    | (simp only [Option.some.injEq] at h; subst h; simp only [binOp, ne_eq, not_true_eq_false, if_false, Op.intArith, Op.intCmp, Op.intBits]; rfl)
    | (split at h
       · cases h
       · rename_i hb
         simp only [Option.some.injEq] at h; subst h
         simp only [binOp, ne_eq, not_true_eq_false, if_false, Op.intDiv, hb]; rfl)
theorem equalIn_bool {P : Program} {T : TypeId} {a b : Bool} {w : World} (hT : P.underlying T = some .bool) (d : Nat) :
    (Op.equalIn (d + 1) T (.bool a) (.bool b)).run P w = .ok (a == b) w := by
  simp only [Op.equalIn, underlying, program, bind, Sem.bind, Sem.run, hT]
  rfl
theorem equal_bool {P : Program} {T : TypeId} {a b : Bool} {w : World} (hT : P.underlying T = some .bool) :
    (Op.equal T (.bool a) (.bool b)).run P w = .ok (a == b) w := equalIn_bool hT 9999
theorem run_bindV {α β : Type} {P : Program} {w w' : World} {s : Sem α} {k : α → Sem β} {a : α} (h : s.run P w = .ok a w') : (s >>= k).run P w = (k a).run P w' := by
  rw [Sem.run_bind, h]; rfl
theorem binV_run {P : Program} {op : BinOp} {T : TypeId} {x y v : Value} {w : World} (h : binV P op T x y = some v) :
    (binOp op T x y).run P w = .ok v w ∧ plainPair x y = true := by
  unfold binV at h
  split at h
  · rename_i k a k' b
    split at h
    · rename_i e
      subst e
      exact ⟨intV_run h, rfl⟩
    · cases h
  · rename_i a b
    cases op <;> simp only at h <;> first
      | (cases h; done)
      | (simp only [Option.some.injEq] at h; subst h; exact ⟨rfl, rfl⟩)
      | (split at h
         · rename_i hs
           simp only [Option.some.injEq] at h; subst h
           refine ⟨?_, rfl⟩
           simp only [binOp, Op.stringOp]
           rw [if_neg (by simp [IntKind.max, IntKind.bits, IntKind.signed]; omega)]
           rfl
         · cases h)
  · rename_i a b
    split at h
    · rename_i hT
      cases op <;> simp only at h <;> first
        | (cases h; done)
        | (simp only [Option.some.injEq] at h; subst h
           exact ⟨run_bindV (equal_bool hT), rfl⟩)
    · cases h
  · cases h
theorem unV_run {P : Program} {op : UnOp} {x v : Value} {w : World} (h : unV op x = some v) : (Op.unary op x).run P w = .ok v w := by
  unfold unV at h
  split at h
  · cases op <;> simp only at h <;> first
      | (cases h; done)
      | (simp only [Option.some.injEq] at h; subst h; rfl)
  · cases op <;> simp only at h <;> first
      | (cases h; done)
      | (simp only [Option.some.injEq] at h; subst h; rfl)
  · cases h
theorem idxV_run {P : Program} {T : TypeId} {x i v : Value} {w : World} (h : idxV (esz P T) x i = some v) : (Instr.indexAt T x i).run P w = .ok v w := by
  unfold idxV at h
  split at h
  · rename_i a n c k i
    split at h
    · rename_i s hs
      obtain ⟨e, inf, hT, he, hsz⟩ := esz_some hs
      split at h
      · rename_i hb
        simp only [Option.some.injEq] at h; subst h
        simp only [Instr.indexAt, asIntOf, underlying, sizeOf, typeInfo, program, bind, Sem.bind, pure, Sem.run, hT, hb, and_self, if_true, he, hsz]
      · cases h
    · cases h
  · cases h
theorem fldV_run {P : Program} {s k : Nat} {x v : Value} {w : World} (h : fldV (foff P s k) x = some v) : (Instr.fieldAt s x k).run P w = .ok v w := by
  unfold fldV at h
  split at h
  · rename_i a
    split at h
    · rename_i o ho
      obtain ⟨fields, fd, inf, hs, hf, hi, hz, rfl⟩ := foff_some ho
      simp only [Option.some.injEq] at h; subst h
      simp only [Instr.fieldAt, Instr.sureAddr, fieldPlace, underlying, sizeOf, typeInfo, program, bind, Sem.bind, pure, Sem.run, hs, hf, hi, hz, if_false]
    · cases h
  · cases h
theorem sidxV_run {P : Program} {T : TypeId} {x i v : Value} {w : World} (h : sidxV P T x i = some v) : (Instr.index T x i).run P w = .ok v w := by
  unfold sidxV at h
  split at h
  · rename_i s k i
    split at h
    · rename_i hT
      split at h
      · rename_i hb
        simp only [Option.some.injEq] at h; subst h
        have hg : s[i.toNat]? = some (s[i.toNat]'hb.2) := by
          exact getElem?_pos s i.toNat hb.2
        simp only [Instr.index, asIntOf, underlying, program, bind, Sem.bind, pure, Sem.run, hT, hb.1, if_true, hg]
      · cases h
    · cases h
  · cases h
theorem lenV_run {P : Program} {ty t : TypeId} {ts : Array TypeId} {as : Array Value} {x v : Value} {w : World} (hts : ts[0]? = some t) (has : as[0]? = some x) (h : lenV P t x = some v) :
    (Builtin.len_ ts ty as).run P w = .ok v w := by
  unfold lenV at h
  split at h
  · split at h
    · rename_i hT
      simp only [Option.some.injEq] at h; subst h
      simp only [Builtin.len_, hts, has, underlying, program, bind, Sem.bind, pure, Sem.run, hT, goInt]
    · cases h
  · split at h
    · rename_i hT
      simp only [Option.some.injEq] at h; subst h
      simp only [Builtin.len_, hts, has, underlying, program, bind, Sem.bind, pure, Sem.run, hT, goInt]
    · cases h
  · cases h
theorem getElem?_0_of_toList {α : Type} {as : Array α} {x : α} {l : List α} (h : as.toList = x :: l) : as[0]? = some x := by
  cases as; simp_all
theorem biV_run {P : Program} {b : Builtin} {ty : TypeId} {ts : Array TypeId} {as : Array Value} {cs : Array Bool} {v : Value} {w : World} (h : biV P b ts.toList as.toList = some v) :
    (builtin b ts ty cs as).run P w = .ok (.value v) w := by
  unfold biV at h
  split at h
  · rename_i t _ x _ hts has
    exact run_bindV (lenV_run (getElem?_0_of_toList hts) (getElem?_0_of_toList has) h)
  · rename_i k x k' y has
    simp only [Option.some.injEq] at h; subst h
    refine run_bindV (a := Value.int k (min x y)) (w' := w) ?_
    simp only [Builtin.min_, has]
    have e : (if y < x then y else x) = min x y := om
    simp only [List.foldlM, Builtin.min2, e]
    rfl
  · rename_i k x k' y has
    simp only [Option.some.injEq] at h; subst h
    refine run_bindV (a := Value.int k (max x y)) (w' := w) ?_
    simp only [Builtin.max_, has]
    have e : (if y > x then y else x) = max x y := om
    simp only [List.foldlM, Builtin.max2, e]
    rfl
  · rename_i k x k' y k2 z k3 u has
    split at h
    · simp only [Option.some.injEq] at h; subst h
      refine run_bindV (a := Value.int k (min (min (min x y) z) u)) (w' := w) ?_
      simp only [Builtin.min_, has]
      have e : (if y < x then y else x) = min x y := om
      have e2 : (if z < min x y then z else min x y) = min (min x y) z := om
      have e3 : (if u < min (min x y) z then u else min (min x y) z) = min (min (min x y) z) u := om
      simp only [List.foldlM, Builtin.min2, bind, Sem.bind, pure, e, e2, e3]
      rfl
    · cases h
  · cases h
theorem boundV_run {P : Program} {y d h : Nat} {k : IntKind} {i : Int} {w : World} {code : BoundsCode} (hh : boundV y d (some (.int k i)) = some h) : (Instr.sliceBound (.int k i) y code).run P w = .ok h w := by
  simp only [boundV] at hh
  split at hh
  · rename_i hb
    simp only [Option.some.injEq] at hh; subst hh
    simp only [Instr.sliceBound, asIntOf, bind, Sem.bind, pure, hb, and_self, if_true, Sem.run]
  · cases hh
theorem bounds_run {P : Program} {b : Bool} {len cap h l : Nat} {lo hi : Option Value} {w : World} (hh : boundV cap len hi = some h) (hl : boundV h 0 lo = some l) :
    (Instr.sliceBounds b len cap lo hi none).run P w = .ok (l, h, cap) w := by
  cases hi with
  | none =>
    simp only [boundV, Option.some.injEq] at hh; subst hh
    cases lo with
    | none => simp only [boundV, Option.some.injEq] at hl; subst hl; rfl
    | some v => cases v <;> first
      | (simp only [boundV] at hl; cases hl; done)
      | exact (run_bindV (boundV_run hl)).trans rfl
  | some u =>
    cases u <;> first
      | (simp only [boundV] at hh; cases hh; done)
      | (refine (run_bindV (boundV_run hh)).trans ?_
         cases lo with
         | none => simp only [boundV, Option.some.injEq] at hl; subst hl; rfl
         | some v => cases v <;> first
           | (simp only [boundV] at hl; cases hl; done)
           | exact (run_bindV (boundV_run hl)).trans rfl)
theorem slcV_run {P : Program} {T : TypeId} {x v : Value} {lo hi : Option Value} {w : World} (h : slcV P T x lo hi = some v) : (Instr.sliceAt T x lo hi none).run P w = .ok v w := by
  unfold slcV at h
  split at h
  · rename_i a len cap
    split at h
    · rename_i s hs
      obtain ⟨e, inf, hT, he, hsz⟩ := esz_some hs
      split at h
      · rename_i hi' hh
        split at h
        · rename_i lo' hl
          simp only [Option.some.injEq] at h; subst h
          refine (run_bindV (run_underlying_some hT)).trans ?_
          simp only [Instr.slice]
          refine (run_bindV (run_underlying_some hT)).trans ?_
          refine (run_bindV (bounds_run hh hl)).trans ?_
          refine (run_bindV (run_sizeOf_some he)).trans ?_
          rw [hsz]; rfl
        · cases h
      · cases h
    · cases h
  · rename_i s
    split at h
    · rename_i hT
      split at h
      · rename_i hi' hh
        split at h
        · rename_i lo' hl
          simp only [Option.some.injEq] at h; subst h
          refine (run_bindV (run_underlying_some hT)).trans ?_
          simp only [Instr.slice]
          refine (run_bindV (run_underlying_some hT)).trans ?_
          exact (run_bindV (bounds_run hh hl)).trans rfl
        · cases h
      · cases h
    · cases h
  · cases h
theorem exV_run {P : Program} {x v : Value} {i : Nat} {w : World} (h : exV x i = some v) : (Instr.extract x i).run P w = .ok v w := by
  unfold exV at h
  split at h
  · simp only [Instr.extract, h]; rfl
  · cases h
theorem cvV_run {P : Program} {src dst : TypeId} {x v : Value} {w : World} (h : cvV P src dst x = some v) : (convert src dst x).run P w = .ok v w := by
  unfold cvV at h
  split at h
  · split at h
    · rename_i hs hd
      simp only [Option.some.injEq] at h; subst h
      simp only [convert, underlying, program, bind, Sem.bind, Sem.run, hs, hd, Conv.intToInt, pure]
    · cases h
  · cases h
theorem buildV_run {P : Program} {T : TypeId} {parts : Array (Nat × Value)} {v : Value} {w : World} (h : buildV P T parts.toList = some v) : (Instr.build T parts).run P w = .ok v w := by
  unfold buildV at h
  cases hb : P.built T parts.toList with
  | none => simp [hb] at h
  | some cells =>
    simp only [hb, Option.map_some, Option.some.injEq] at h
    subst h
    exact run_build w T parts cells hb
theorem pv_run {P : Program} {f : Nat → Value} {o : Oper} {v : Value} {w : World} (h : pv P f o.op = some v) : (execOp (ev f) o).run P w = .ok (.value v) w := by
  unfold execOp
  cases hop : o.op <;> rw [hop] at h <;> first
    | (simp only [pv] at h; cases h; done)
    | skip
  case nilCheck x =>
    simp only [pv] at h
    cases hx : ev f x with
    | pointer a =>
      cases a with
      | none => rw [hx] at h; cases h
      | some a => rw [hx] at h; simp only [nilV, Option.some.injEq] at h; subst h; simp only [hx]; rfl
    | _ => rw [hx] at h; cases h
  case move x => simp only [pv, Option.some.injEq] at h; subst h; rfl
  case assign x => simp only [pv, Option.some.injEq] at h; subst h; rfl
  case pick c a b =>
    simp only [pv] at h
    cases hc : ev f c <;> rw [hc] at h <;> simp only [pickV] at h <;> first
      | (cases h; done)
      | (simp only [Option.some.injEq] at h; subst h; simp only [hc, asBool]; rfl)
  case build T parts =>
    simp only [pv] at h
    refine run_bindV (buildV_run (P := P) (T := T) (parts := parts.map fun (i, x) => (i, ev f x)) ?_)
    rw [← h]; simp
  case binOp op T x y yT =>
    simp only [pv] at h
    obtain ⟨h1, h2⟩ := binV_run (w := w) h
    exact run_bindV ((run_bindV (run_eqGuard_plain h2)).trans h1)
  case unOp op T x => exact run_bindV (unV_run h)
  case convert s d x => exact run_bindV (cvV_run h)
  case makeFunc fn a b => simp only [pv, Option.some.injEq] at h; subst h; rfl
  case slice T x lo hi mx =>
    cases mx with
    | some m => simp only [pv] at h; cases h
    | none => exact run_bindV (slcV_run h)
  case fieldAddr s x k => exact run_bindV (fldV_run h)
  case indexAddr T x i => exact run_bindV (idxV_run h)
  case index T x i => exact run_bindV (sidxV_run h)
  case extract x i => exact run_bindV (exV_run h)
  case call c =>
    simp only [pv] at h
    cases hc : c.callee with
    | value g => rw [hc] at h; cases h
    | invoke r m => rw [hc] at h; cases h
    | builtin b =>
      rw [hc] at h
      simp only at h
      have h' : biV P b c.argTypes.toList (c.args.map (ev f)).toList = some v := by rw [← h]; simp
      refine (run_bindV (w' := w) (a := { target := .builtin b c.argTypes o.type (c.args.map fun | .const _ => true | _ => false), args := c.args.map (ev f) }) ?_).trans ?_
      · simp only [resolve, hc]; rfl
      · exact biV_run h'
def Ext (w w' : World) : Prop := Below w.heap.size w w'
theorem Ext.refl (w : World) : Ext w w := Below.refl _ _
theorem Ext.trans {a b c : World} (h : Ext a b) (k : Ext b c) : Ext a c := Below.trans h (Below.mono k (Below.size h))
theorem Ext.size {w w' : World} (h : Ext w w') : w.heap.size ≤ w'.heap.size := Below.size h
theorem Ext.cell {w w' : World} (h : Ext w w') {a : Addr} {v : Value} (hc : w.cell? a = some v) : w'.cell? a = some v := by
  rw [Below.cell h (World.block_lt_of_cell? w a hc), hc]
theorem Ext.drew (w : World) : Ext w w.drew := (Below.refl _ _).drew
theorem Ext.blk {w w' : World} (h : Ext w w') {b : Nat} {o : Obj} (hc : w.heap[b]? = some o) : w'.heap[b]? = some o := by
  rw [Below.block h b (Array.getElem?_eq_some_iff.1 hc).1, hc]
def Blk (w : World) (b : Nat) (cs : Array Value) (T : TypeId) : Prop := w.heap[b]? = some (.cells cs T (0, 0))
theorem Blk.ext {w w' : World} {b : Nat} {cs : Array Value} {T : TypeId} (h : Blk w b cs T) (e : Ext w w') : Blk w' b cs T := e.blk h
theorem Blk.cell {w : World} {b : Nat} {cs : Array Value} {T : TypeId} (h : Blk w b cs T) (i : Nat) : w.cell? ⟨b, i, none⟩ = cs[i]? := by
  unfold Blk at h; simp [World.cell?, h]
theorem Blk.lt {w : World} {b : Nat} {cs : Array Value} {T : TypeId} (h : Blk w b cs T) : b < w.heap.size := (Array.getElem?_eq_some_iff.1 h).1
theorem Blk.frozen {w : World} {b : Nat} {cs : Array Value} {T : TypeId} (h : Blk w b cs T) (i : Nat) : w.frozen? ⟨b, i, none⟩ = false := by
  unfold Blk at h; simp [World.frozen?, h]
structure Wrote (b : Nat) (w w' : World) : Prop where
  os : w'.os = w.os
  tape : w'.tape = w.tape
  output : w'.output = w.output
  size : w'.heap.size = w.heap.size
  other : ∀ c, c ≠ b → w'.heap[c]? = w.heap[c]?
theorem Wrote.ext {b : Nat} {w0 w w' : World} (h : Wrote b w w') (e : Ext w0 w) (hb : w0.heap.size ≤ b) : Ext w0 w' :=
  Below.trans e ⟨h.os, h.tape, h.output, Nat.le_of_eq h.size.symm, fun k hk => h.other k om⟩
theorem Wrote.blk {b c : Nat} {w w' : World} {cs : Array Value} {T : TypeId} (h : Wrote b w w') (hc : Blk w c cs T) (hne : c ≠ b) : Blk w' c cs T := by
  unfold Blk; rw [h.other c hne]; exact hc
theorem Wrote.cell {b : Nat} {w w' : World} {a : Addr} {v : Value} (h : Wrote b w w') (hc : w.cell? a = some v) (hne : a.block ≠ b) : w'.cell? a = some v := by
  rw [World.cell?_of_block (h.other a.block hne)]; exact hc
theorem wrote_setCell (w : World) (a : Addr) (v : Value) : Wrote a.block w (w.setCell a v) :=
  ⟨rfl, rfl, rfl, by simp [World.setCell], fun c hc => Below.heap_setCell w a v c hc⟩
theorem wrote_setRow (w : World) (b : Nat) (cs : Array Value) : Wrote b w (w.setRow b cs) :=
  ⟨rfl, rfl, rfl, by simp, fun c hc => setRow_other w b c cs hc⟩
theorem ext_alloc (w : World) (o : Obj) : Ext w (w.alloc o) := (Below.refl _ _).alloc (Nat.le_refl _) o
abbrev F := Nat → Value
def scal (P : Program) (T : TypeId) : Bool :=
  match P.underlying T with
  | some (.struct _) | some (.array ..) => false
  | some _ => true
  | none => false
def aggN (P : Program) (T : TypeId) : Option Nat :=
  match P.underlying T with
  | some (.struct _) | some (.array ..) => (P.info? T).map (·.size)
  | _ => none
def readCells (w : World) (a : Addr) (n : Nat) : Option (List Value) := (List.range n).mapM fun i => w.cell? (a.add i)
def rdK : Option Value → (Value → World → Prop) → World → Prop
  | some v, k, w => k v w
  | none, _, _ => False
def rdcK : Option (List Value) → (Value → World → Prop) → World → Prop
  | some vs, k, w => k (.agg vs.toArray) w
  | none, _, _ => False
def ldK (P : Program) (T : TypeId) (x : Value) (k : Value → World → Prop) (w : World) : Prop :=
  match x with
  | .pointer (some a) => if scal P T then rdK (w.cell? a) k w else match aggN P T with
    | some n => rdcK (readCells w a n) k w
    | none => False
  | _ => False
def goB (P : Program) (g : FuncId) : Bool :=
  match P.funcs[g]? with
  | some fn => fn.body.isSome && !(fn.name == "runtime.NumGoroutine")
  | none => false
def callK (q : Bool) (P : Program) (g : FuncId) (args : Array Value) (k : Value → World → Prop) (w : World) : Prop :=
  goB P g = true ∧ (if q then ∃ v, (∀ w', Ext w w' → Calls P g args w' fun e w'' => e = .returned v ∧ Ext w' w'') ∧ k v w
    else Calls P g args w fun e w'' => ∃ v, e = .returned v ∧ k v w'')
def genK (P : Program) (o : Oper) (f : F) (k : Value → World → Prop) (w : World) : Prop :=
  match (execOp (ev f) o).run P w with
  | .ok (.value v) w' => k v w'
  | .ok .skip w' => k undef w'
  | _ => False
def fnK (q : Bool) (P : Program) (o : Oper) (f : F) (args : Array Value) (k : Value → World → Prop) (w : World) : Value → Prop
  | .func (.func g) first captured => callK q P g (first ++ args ++ captured) k w
  | _ => if q then False else genK P o f k w
def OW (q : Bool) (P : Program) (o : Oper) (f : F) (k : Value → World → Prop) (w : World) : Prop :=
  match o.op with
  | .load T x => ldK P T (ev f x) k w
  | .call c => match c.callee with
    | .value g => fnK q P o f (c.args.map (ev f)) k w (ev f g)
    | _ => if q then False else genK P o f k w
  | _ => if q then False else genK P o f k w
def stepR (q : Bool) (P : Program) (o : Oper) (f : F) (k : Value → World → Prop) (w : World) : Option Value → Prop
  | some v => k v w
  | none => OW q P o f k w
def isB : Value → Bool → Bool
  | .bool b, want => b == want
  | _, _ => false
def gb (f : F) (want : Bool) : Option Tmp → Bool
  | some d => isB (f d) want
  | none => false
def finK (q : Bool) (K : F → World → Prop) (f : F) (w : World) : Prop := if q then ∀ w', Ext w w' → K f w' else K f w
def guK (g : Option (Nat × Bool)) (ops : Array Oper) (f : F) (p q : Prop) : Prop :=
  match g with
  | none => p
  | some (j, want) => if gb f want ((ops[j]?).bind (·.dst)) then p else q
def RL (q : Bool) (P : Program) (ops : Array Oper) (K : F → World → Prop) : List Oper → F → World → Prop
  | [], f, w => finK q K f w
  | o :: l, f, w => guK o.guard ops f
      (stepR q P o f (fun v w' => RL q P ops K l (updO f o.dst v) w') w (pv P f o.op))
      (RL q P ops K l (updO f o.dst undef) w)
def noSel : Op → Bool
  | .select .. => false
  | _ => true
def operOk (N : Nat) (o : Oper) : Bool := opOk N o && noSel o.op
theorem exec_fr {N : Nat} {f : F} {o : Oper} (h : operOk N o = true) : execOp (fr N f).eval o = execOp (ev f) o := by
  simp only [operOk, opOk, Bool.and_eq_true] at h
  refine execOp_congr o (fun cs b e => by rw [e] at h; simp [noSel] at h) fun x hx => eval_fr N f x ?_
  exact (Array.all_eq_true_iff_forall_mem.1 h.1.1) x hx
theorem put_fr' {N : Nat} {f : F} {o : Oper} {v : Value} (h : operOk N o = true) : (fr N f).put o.dst v = fr N (updO f o.dst v) := by
  simp only [operOk, opOk, Bool.and_eq_true] at h
  refine put_fr N f o.dst v fun t ht => ?_
  have := h.1.2
  rw [ht] at this
  simpa using this
theorem wanted_fr {N : Nat} {f : F} {o : Oper} {ops : Array Oper} (hall : ∀ o ∈ ops, operOk N o = true) :
    Region.wanted o (yielded ops (fr N f).tmps) = match o.guard with | none => true | some (j, want) => gb f want ((ops[j]?).bind (·.dst)) := by
  unfold Region.wanted
  cases hg : o.guard with
  | none => rfl
  | some jw =>
    obtain ⟨j, want⟩ := jw
    simp only
    cases hd : (ops[j]?).bind (·.dst) with
    | none => simp [gb, yielded, hd]
    | some d =>
      have hdN : d < N := by
        cases ho : ops[j]? with
        | none => simp [ho] at hd
        | some o' =>
          have hm : o' ∈ ops := by obtain ⟨h1, h2⟩ := Array.getElem?_eq_some_iff.1 ho; exact h2 ▸ Array.getElem_mem h1
          have := hall o' hm
          simp only [operOk, opOk, Bool.and_eq_true] at this
          simp only [ho, Option.bind_some] at hd
          have h2 := this.1.2
          rw [hd] at h2
          simpa using h2
      rw [yielded_fr N f ops j d hd hdN]
      simp only [gb]
      cases hv : f d <;> simp [isB]
theorem guK_wanted {N : Nat} {f : F} {o : Oper} {ops : Array Oper} (hall : ∀ o ∈ ops, operOk N o = true) {p q : Prop} (h : guK o.guard ops f p q) :
    if Region.wanted o (yielded ops (fr N f).tmps) = true then p else q := by
  rw [wanted_fr hall]
  unfold guK at h
  cases hg : o.guard with
  | none => rw [hg] at h; simpa using h
  | some jw => obtain ⟨j, want⟩ := jw; rw [hg] at h; exact h
theorem rd_run {P : Program} {w : World} (a : Addr) : ∀ (n i : Nat) (acc : Array Value) (vs : List Value), (List.range' i n).mapM (fun i => w.cell? (a.add i)) = some vs →
    (loadCellsFrom a i n acc).run P w = .ok (acc ++ vs.toArray) w
  | 0, i, acc, vs, h => by
    simp only [List.range'_zero, List.mapM_nil, Option.pure_def, Option.some.injEq] at h
    subst h; simp [loadCellsFrom]
  | n + 1, i, acc, vs, h => by
    rw [List.range'_succ, List.mapM_cons] at h
    cases hc : w.cell? (a.add i) with
    | none => simp [hc] at h
    | some v =>
      cases hr : (List.range' (i + 1) n).mapM (fun i => w.cell? (a.add i)) with
      | none => simp [hc, hr] at h
      | some rest =>
        simp only [hc, hr, Option.bind_eq_bind, Option.bind_some, Option.pure_def, Option.some.injEq] at h
        subst h
        have := rd_run (P := P) (w := w) a n (i + 1) (acc.push v) rest hr
        simp only [loadCellsFrom]
        refine (run_bindV (a := v) (w' := w) ?_).trans ?_
        · simp only [load, Sem.run, hc]
        · rw [this]; simp
theorem ldK_run {P : Program} {T : TypeId} {x : Value} {k : Value → World → Prop} {w : World} (h : ldK P T x k w) : ∃ v, (Instr.loadAt T x).run P w = .ok v w ∧ k v w := by
  unfold ldK at h
  split at h
  · rename_i a
    split at h
    · rename_i hs
      cases hc : w.cell? a with
      | none => rw [hc] at h; exact h.elim
      | some v =>
        rw [hc] at h
        refine ⟨v, ?_, h⟩
        refine (run_bindV (a := a) (w' := w) rfl).trans ?_
        unfold scal at hs
        cases hu : P.underlying T with
        | none => simp [hu] at hs
        | some d =>
          refine (run_bindV (a := false) (w' := w) ?_).trans ?_
          · refine (run_bindV (run_underlying_some hu)).trans ?_
            cases d <;> first | rfl | (simp [hu] at hs; done)
          · simp [load, Sem.run, hc]
    · split at h
      · rename_i n hn
        unfold readCells at h
        cases hc : (List.range n).mapM (fun i => w.cell? (a.add i)) with
        | none => rw [hc] at h; exact h.elim
        | some vs =>
          rw [hc] at h
          refine ⟨_, ?_, h⟩
          refine (run_bindV (a := a) (w' := w) rfl).trans ?_
          unfold aggN at hn
          split at hn
          · rename_i hu
            cases hi : P.info? T with
            | none => simp [hi] at hn
            | some inf =>
              simp only [hi, Option.map_some, Option.some.injEq] at hn
              refine (run_bindV (a := true) (w' := w) ((run_bindV (run_underlying_some hu)).trans rfl)).trans ?_
              simp only [if_true]
              refine (run_bindV (run_sizeOf_some hi)).trans ?_
              rw [hn]
              have := rd_run (P := P) (w := w) a n 0 #[] vs (by rw [← List.range_eq_range']; exact hc)
              exact (run_bindV this).trans sm
          · rename_i hu
            cases hi : P.info? T with
            | none => simp [hi] at hn
            | some inf =>
              simp only [hi, Option.map_some, Option.some.injEq] at hn
              refine (run_bindV (a := true) (w' := w) ((run_bindV (run_underlying_some hu)).trans rfl)).trans ?_
              simp only [if_true]
              refine (run_bindV (run_sizeOf_some hi)).trans ?_
              rw [hn]
              have := rd_run (P := P) (w := w) a n 0 #[] vs (by rw [← List.range_eq_range']; exact hc)
              exact (run_bindV this).trans sm
          · cases hn
      · exact h.elim
  · exact h.elim
theorem readCells_ext {w w' : World} (e : Ext w w') {a : Addr} : ∀ {n : Nat} {vs : List Value}, readCells w a n = some vs → readCells w' a n = some vs := by
  intro n
  unfold readCells
  generalize List.range n = l
  induction l with
  | nil => intro vs h; exact h
  | cons i l ih =>
    intro vs h
    rw [List.mapM_cons] at h ⊢
    cases hc : w.cell? (a.add i) with
    | none => simp [hc] at h
    | some v =>
      cases hr : l.mapM (fun i => w.cell? (a.add i)) with
      | none => simp [hc, hr] at h
      | some rest =>
        rw [e.cell hc, ih hr]
        rw [hc, hr] at h
        exact h
theorem ldK_all {P : Program} {T : TypeId} {x : Value} {k : Value → World → Prop} {w : World} (h : ldK P T x k w) : ∃ v, (∀ w', Ext w w' → (Instr.loadAt T x).run P w' = .ok v w') ∧ k v w := by
  cases x with
  | pointer p =>
    cases p with
    | none => exact h.elim
    | some a =>
      simp only [ldK] at h
      split at h
      · rename_i hs
        cases hc : w.cell? a with
        | none => rw [hc] at h; exact h.elim
        | some v =>
          rw [hc] at h
          refine ⟨v, fun w' e => ?_, h⟩
          obtain ⟨u, hu, rfl⟩ := ldK_run (P := P) (T := T) (x := .pointer (some a)) (k := fun u _ => u = v) (w := w') (by simp only [ldK, hs, if_true, e.cell hc, rdK])
          exact hu
      · rename_i hs
        cases hn : aggN P T with
        | none => rw [hn] at h; exact h.elim
        | some n =>
          rw [hn] at h
          simp only at h
          cases hc : readCells w a n with
          | none => rw [hc] at h; exact h.elim
          | some vs =>
            rw [hc] at h
            refine ⟨_, fun w' e => ?_, h⟩
            obtain ⟨u, hu, rfl⟩ := ldK_run (P := P) (T := T) (x := .pointer (some a)) (k := fun u _ => u = .agg vs.toArray) (w := w') (by simp only [ldK, hs, hn, readCells_ext e hc, rdcK]; simp)
            exact hu
  | _ => exact h.elim
theorem callFunc_run {P : Program} {g : FuncId} {args : Array Value} {w : World} (h : goB P g = true) : (callFunc g args).run P w = .ok (.enter g args) w := by
  unfold goB at h
  split at h
  · rename_i fn hf
    simp only [Bool.and_eq_true, Bool.not_eq_true'] at h
    have hb : fn.body.isNone = false := by cases hb : fn.body <;> simp_all
    simp only [callFunc, program, bind, Sem.bind, Sem.run, hf, h.2, hb, Bool.false_eq_true, if_false, pure]
  · cases h
theorem genK_upon {P : Program} {o : Oper} {f : F} {k : Value → World → Prop} {w : World} {a : Act} {next : Act → World → Prop} {Q : Exit → Act → World → Prop}
    (hk : ∀ v w', k v w' → next (a.put o.dst v) w') (h : genK P o f k w) : o.upon P a next Q ((execOp (ev f) o).run P w) := by
  unfold genK at h
  split at h
  · rename_i v w' hr; rw [hr]; exact hk _ _ h
  · rename_i w' hr; rw [hr]; exact hk _ _ h
  · exact h.elim
theorem callOp_run {P : Program} {o : Oper} {f : F} {w : World} {c : Call} {x : Operand} {g : FuncId} {first captured : Array Value} (ho : o.op = .call c) (hc : c.callee = .value x)
    (hx : ev f x = .func (.func g) first captured) (hg : goB P g = true) : (execOp (ev f) o).run P w = .ok (.enter g (first ++ c.args.map (ev f) ++ captured)) w := by
  unfold execOp
  rw [ho]
  refine (run_bindV (a := { target := .fn (.func g) captured, args := first ++ c.args.map (ev f) }) (w' := w) ?_).trans ?_
  · simp only [resolve, hc, hx, Deferred.ofValue]; rfl
  · exact callFunc_run hg
theorem OW_upon {P : Program} {o : Oper} {f : F} {k : Value → World → Prop} {w : World} {a : Act} {next : Act → World → Prop} {Q : Exit → Act → World → Prop}
    (hk : ∀ v w', k v w' → next (a.put o.dst v) w') (h : OW false P o f k w) : o.upon P a next Q ((execOp (ev f) o).run P w) := by
  unfold OW at h
  split at h
  · rename_i T x hop
    obtain ⟨v, hv, hkv⟩ := ldK_run h
    have hr : (execOp (ev f) o).run P w = .ok (.value v) w := by
      unfold execOp; rw [hop]; exact run_bindV hv
    rw [hr]; exact hk _ _ hkv
  · rename_i c hop
    split at h
    · rename_i x hc
      unfold fnK at h
      split at h
      · rename_i g first captured hx
        obtain ⟨hg, h⟩ := h
        simp only [Bool.false_eq_true, if_false] at h
        rw [callOp_run hop hc hx hg]
        refine Calls.mono h fun e w'' ⟨v, he, hkv⟩ => ?_
        subst he
        exact hk _ _ hkv
      · simp only [Bool.false_eq_true, if_false] at h
        exact genK_upon hk h
    · simp only [Bool.false_eq_true, if_false] at h
      exact genK_upon hk h
  · simp only [Bool.false_eq_true, if_false] at h
    exact genK_upon hk h
theorem RL_wpList {P : Program} {N : Nat} {ops : Array Oper} {K : F → World → Prop} {Q : Exit → Act → World → Prop} (hall : ∀ o ∈ ops, operOk N o = true) (hQ : ∀ f w, K f w → Q .normal (fr N f) w) :
    ∀ (l : List Oper) (f : F) (w : World), (∀ o ∈ l, operOk N o = true) → RL false P ops K l f w → wpList P ops Q l (fr N f) w
  | [], f, w, _, h => hQ f w h
  | o :: l, f, w, hl, h => by
    have ho := hl o (List.mem_cons_self ..)
    have hl' : ∀ o ∈ l, operOk N o = true := fun o' h' => hl o' (List.mem_cons_of_mem _ h')
    have h' := guK_wanted hall h
    unfold wpList
    by_cases hw : Region.wanted o (yielded ops (fr N f).tmps) = true
    · rw [if_pos hw] at h' ⊢
      left
      unfold Oper.wp
      rw [exec_fr ho]
      cases hp : pv P f o.op with
      | some v =>
        rw [hp] at h'
        rw [pv_run hp]
        show wpList P ops Q l ((fr N f).put o.dst v) w
        rw [put_fr' ho]
        exact RL_wpList hall hQ l _ _ hl' h'
      | none =>
        rw [hp] at h'
        refine OW_upon (k := fun v w' => RL false P ops K l (updO f o.dst v) w') (fun v w' hk => ?_) h'
        rw [put_fr' ho]
        exact RL_wpList hall hQ l _ _ hl' hk
    · rw [if_neg hw] at h' ⊢
      rw [put_fr' ho]
      exact RL_wpList hall hQ l _ _ hl' h'
theorem RL_wpQuiet {P : Program} {N : Nat} {ops : Array Oper} {K : F → World → Prop} {w : World} {Q : Act → Prop} (hall : ∀ o ∈ ops, operOk N o = true) (hQ : ∀ f, (∀ w', Ext w w' → K f w') → Q (fr N f)) :
    ∀ (l : List Oper) (f : F), (∀ o ∈ l, operOk N o = true) → RL true P ops K l f w → wpQuiet P ops (Ext w) Q l (fr N f)
  | [], f, _, h => hQ f h
  | o :: l, f, hl, h => by
    have ho := hl o (List.mem_cons_self ..)
    have hl' : ∀ o ∈ l, operOk N o = true := fun o' h' => hl o' (List.mem_cons_of_mem _ h')
    have h' := guK_wanted hall h
    unfold wpQuiet
    by_cases hw : Region.wanted o (yielded ops (fr N f).tmps) = true
    · rw [if_pos hw] at h' ⊢
      have key : ∀ v, (∀ w', Ext w w' → o.quietAt P (fr N f) (Ext w) w' v) → RL true P ops K l (updO f o.dst v) w → o.quiet P (fr N f) (Ext w) (wpQuiet P ops (Ext w) Q l) := fun v hv hk =>
        ⟨v, hv, by rw [put_fr' ho]; exact RL_wpQuiet hall hQ l _ hl' hk⟩
      cases hp : pv P f o.op with
      | some v =>
        rw [hp] at h'
        refine key v (fun w' _ => ?_) h'
        unfold Oper.quietAt
        rw [exec_fr ho, pv_run hp]
        exact ⟨rfl, rfl⟩
      | none =>
        rw [hp] at h'
        simp only [stepR] at h'
        unfold OW at h'
        split at h'
        · rename_i T x hop
          obtain ⟨v, hv, hkv⟩ := ldK_all h'
          refine key v (fun w' e => ?_) hkv
          unfold Oper.quietAt
          have hr : (execOp (ev f) o).run P w' = .ok (.value v) w' := by
            unfold execOp; rw [hop]; exact run_bindV (hv w' e)
          rw [exec_fr ho, hr]
          exact ⟨rfl, rfl⟩
        · rename_i c hop
          split at h'
          · rename_i x hc
            unfold fnK at h'
            split at h'
            · rename_i g first captured hx
              obtain ⟨hg, h'⟩ := h'
              simp only [if_true] at h'
              obtain ⟨v, hv, hkv⟩ := h'
              refine key v (fun w' e => ?_) hkv
              unfold Oper.quietAt
              rw [exec_fr ho, callOp_run hop hc hx hg]
              exact ⟨rfl, (hv w' e).mono fun _ _ ⟨he, e'⟩ => ⟨he, e.trans e'⟩⟩
            · exact h'.elim
          · exact h'.elim
        · exact h'.elim
    · rw [if_neg hw] at h' ⊢
      rw [put_fr' ho]
      exact RL_wpQuiet hall hQ l _ hl' h'
def cont (N : Nat) (Kn : F → World → Prop) (Ke : Nat → F → World → Prop) (Kr : F → World → Prop) : Exit → Act → World → Prop
  | .normal, a, w => ∃ f, a = fr N f ∧ Kn f w
  | .exit id, a, w => ∃ f, a = fr N f ∧ Ke id f w
  | .ret, a, w => ∃ f, a = fr N f ∧ Kr f w
  | _, _, _ => False
def codeOk (N : Nat) : Code → Bool
  | .region _ ops _ => ops.all (operOk N)
  | .seq a b => codeOk N a && codeOk N b
  | .cond c a b => xOk N c && codeOk N a && codeOk N b
  | .block _ c => codeOk N c
  | .loop c => codeOk N c
  | .rangeFunc f ps a b => xOk N f && codeOk N a && codeOk N b && ps.all (fun t => decide (t < N))
  | .scope c => codeOk N c
  | _ => true
def CW (P : Program) (N : Nat) (c : Code) (Kn : F → World → Prop) (Ke : Nat → F → World → Prop) (Kr : F → World → Prop) (f : F) (w : World) : Prop :=
  codeOk N c = true → c.wp P (cont N Kn Ke Kr) (fr N f) w
section
variable {P : Program} {N : Nat} {Kn : F → World → Prop} {Ke : Nat → F → World → Prop} {Kr : F → World → Prop} {f : F} {w : World}
theorem cw_seq {x y : Code} (h : ∀ K : F → World → Prop, (∀ f w, CW P N y Kn Ke Kr f w → K f w) → CW P N x K Ke Kr f w) : CW P N (.seq x y) Kn Ke Kr f w := by
  intro hok
  simp only [codeOk, Bool.and_eq_true] at hok
  refine wp_seq (wp_mono (h (fun f w => CW P N y Kn Ke Kr f w) (fun _ _ h => h) hok.1) ?_)
  intro e a w hq
  cases e <;> simp only [cont, Exit.then] at hq ⊢
  case normal => obtain ⟨f, rfl, hf⟩ := hq; exact hf hok.2
  all_goals first | exact hq | exact hq.elim
theorem cw_skip (h : Kn f w) : CW P N .skip Kn Ke Kr f w := fun _ => wp_skip ⟨f, rfl, h⟩
theorem cw_ret (h : Kr f w) : CW P N .ret Kn Ke Kr f w := fun _ => wp_ret ⟨f, rfl, h⟩
theorem cw_exit {id : Nat} (h : Ke id f w) : CW P N (.exit id) Kn Ke Kr f w := fun _ => wp_exit ⟨f, rfl, h⟩
theorem cw_label {id : Nat} (h : Kn f w) : CW P N (.label id) Kn Ke Kr f w := fun _ => wp_label ⟨f, rfl, h⟩
def kb (id : Nat) (Kn : F → World → Prop) (Ke : Nat → F → World → Prop) : Nat → F → World → Prop := fun j => if j = id then Kn else Ke j
theorem cw_block {id : Nat} {c : Code} (h : CW P N c Kn (kb id Kn Ke) Kr f w) : CW P N (.block id c) Kn Ke Kr f w := by
  intro hok
  refine wp_block (wp_mono (h hok) ?_)
  intro e a w hq
  cases e <;> simp only [cont, Exit.inBlock] at hq ⊢
  case exit j =>
    obtain ⟨f, rfl, hf⟩ := hq
    unfold kb at hf
    split
    · rename_i e; rw [if_pos e] at hf; exact ⟨f, rfl, hf⟩
    · rename_i e; rw [if_neg e] at hf; exact ⟨f, rfl, hf⟩
  all_goals first | exact hq | exact hq.elim
def cndK (v : Value) (p q : Prop) : Prop :=
  match v with
  | .bool b => (b = true → p) ∧ (b = false → q)
  | _ => False
theorem cndK_bool (b : Bool) (p q : Prop) : cndK (.bool b) p q = ((b = true → p) ∧ (b = false → q)) := (rfl)
theorem cw_cond {c : Operand} {x y : Code} (h : cndK (ev f c) (CW P N x Kn Ke Kr f w) (CW P N y Kn Ke Kr f w)) : CW P N (.cond c x y) Kn Ke Kr f w := by
  intro hok
  simp only [codeOk, Bool.and_eq_true] at hok
  unfold cndK at h
  split at h
  · rename_i b hb
    refine wp_cond_split (t := b) (by rw [eval_fr N f c hok.1.1]; exact hb) (fun e => h.1 e hok.1.2) (fun e => h.2 e hok.2)
  · exact h.elim
theorem cw_loop {c : Code} (I : Nat → F → World → Prop) (n0 : Nat) (h0 : I n0 f w)
    (hr : ∀ n f w, I n f w → ∀ K : F → World → Prop, (∀ m f' w', m < n → I m f' w' → K f' w') → CW P N c K Ke Kr f w) : CW P N (.loop c) Kn Ke Kr f w := by
  intro hok
  have hok' : codeOk N c = true := hok
  haveI hdec : ∀ p : Prop, Decidable p := Classical.propDecidable
  let J : Act → World → Nat → Prop := fun a w n => ∃ f, a = fr N f ∧ I n f w
  have least : ∀ (p : Nat → Prop), (∃ n, p n) → ∃ n, p n ∧ ∀ m, m < n → ¬ p m := by
    intro p ⟨n, hn⟩
    induction n using Nat.strongRecOn with
    | _ n ih =>
      by_cases h : ∃ m, m < n ∧ p m
      · obtain ⟨m, hm, hp⟩ := h; exact ih m hm hp
      · exact ⟨n, hn, fun m hm hp => h ⟨m, hm, hp⟩⟩
  let μ : Act → World → Nat := fun a w => if h : ∃ n, J a w n then Classical.choose (least _ h) else 0
  have μ_le : ∀ a w n, J a w n → μ a w ≤ n := by
    intro a w n hn
    have h : ∃ n, J a w n := ⟨n, hn⟩
    have hs := Classical.choose_spec (least _ h)
    simp only [μ, dif_pos h]
    exact Nat.le_of_not_lt fun hlt => hs.2 n hlt hn
  have μ_spec : ∀ a w, (∃ n, J a w n) → J a w (μ a w) := by
    intro a w h
    simp only [μ, dif_pos h]
    exact (Classical.choose_spec (least _ h)).1
  refine wp_loop (fun a w => ∃ n, J a w n) μ ⟨n0, f, rfl, h0⟩ ?_
  intro a w hJ
  obtain ⟨f, rfl, hI⟩ := μ_spec a w hJ
  refine wp_mono (hr _ f w hI (fun f' w' => ∃ m, m < μ (fr N f) w ∧ I m f' w') (fun m f' w' hm hI' => ⟨m, hm, hI'⟩) hok') ?_
  intro e a' w' hq
  cases e <;> simp only [cont, Exit.then] at hq ⊢
  case normal =>
    obtain ⟨f', rfl, m, hm, hI'⟩ := hq
    exact ⟨⟨m, f', rfl, hI'⟩, Nat.lt_of_le_of_lt (μ_le _ _ m ⟨f', rfl, hI'⟩) hm⟩
  all_goals first | exact hq | exact hq.elim
theorem cw_region {id : Nat} {ops : Array Oper} (h : RL false P ops Kn ops.toList f w) : CW P N (.region id ops false) Kn Ke Kr f w := by
  intro hok
  have hall : ∀ o ∈ ops, operOk N o = true := Array.all_eq_true_iff_forall_mem.1 hok
  exact wp_region_list (RL_wpList hall (fun f w hK => ⟨f, rfl, hK⟩) ops.toList f w (fun o ho => hall o (Array.mem_toList_iff.1 ho)) h)
theorem cw_draws {id : Nat} {ops : Array Oper} (hm : P.follows .mixedOrders = true) (hB : Region.lexB .any ops = true) (h : RL true P ops Kn ops.toList f w) : CW P N (.region id ops true) Kn Ke Kr f w := by
  intro hok
  have hall : ∀ o ∈ ops, operOk N o = true := Array.all_eq_true_iff_forall_mem.1 hok
  refine wp_region_quiet (C := Ext w) hm hB (Ext.drew w) ?_
  exact RL_wpQuiet hall (fun f hK w' e => ⟨f, rfl, hK w' e⟩) ops.toList f (fun o ho => hall o (Array.mem_toList_iff.1 ho)) h
theorem cw_mono {c : Code} {Kn' : F → World → Prop} {Kr' : F → World → Prop} (h : CW P N c Kn Ke Kr f w) (h1 : ∀ f w, Kn f w → Kn' f w) (h2 : ∀ f w, Kr f w → Kr' f w) : CW P N c Kn' Ke Kr' f w := by
  intro hok
  refine wp_mono (h hok) ?_
  intro e a w hq
  cases e <;> simp only [cont] at hq ⊢
  case normal => obtain ⟨f, rfl, hf⟩ := hq; exact ⟨f, rfl, h1 _ _ hf⟩
  case ret => obtain ⟨f, rfl, hf⟩ := hq; exact ⟨f, rfl, h2 _ _ hf⟩
  all_goals first | exact hq | exact hq.elim
end
def resK (P : Program) (rs : List ResultVar) (f : F) (w : World) : Option (List Value) :=
  match rs with
  | [] => some []
  | .tmp t :: rs => (resK P rs f w).map (f t :: ·)
  | .cell a T :: rs =>
    match f a with
    | .pointer (some p) => if scal P T then match w.cell? p, resK P rs f w with
        | some v, some vs => some (v :: vs)
        | _, _ => none
      else match aggN P T with
        | some n => match readCells w p n, resK P rs f w with
          | some cs, some vs => some (.agg cs.toArray :: vs)
          | _, _ => none
        | none => none
    | _ => none
def tup : List Value → Value
  | [v] => v
  | vs => .tuple vs.toArray
def outK (P : Program) (fn : Func) (R : Value → World → Prop) (f : F) (w : World) : Prop :=
  match resK P fn.results.toList f w with
  | some vs => R (tup vs) w
  | none => False
def resOk (N : Nat) (rs : List ResultVar) : Bool := rs.all fun | .tmp t => decide (t < N) | .cell a _ => decide (a < N)
theorem resK_run {P : Program} {N : Nat} {f : F} {w : World} : ∀ (rs : List ResultVar) (vs : List Value), resOk N rs = true → resK P rs f w = some vs →
    (rs.mapM (m := Sem) fun
      | .tmp t => pure ((fr N f).tmps.getD t undef)
      | .cell a t => do loadVar t (← asAddr ((fr N f).tmps.getD a undef))).run P w = .ok vs w
  | [], vs, _, h => by simp only [resK, Option.some.injEq] at h; subst h; rfl
  | .tmp t :: rs, vs, hok, h => by
    simp only [resOk, List.all_cons, Bool.and_eq_true, decide_eq_true_eq] at hok
    simp only [resK] at h
    cases hr : resK P rs f w with
    | none => simp [hr] at h
    | some us =>
      simp only [hr, Option.map_some, Option.some.injEq] at h
      subst h
      rw [List.mapM_cons]
      refine (run_bindV (a := f t) (w' := w) ?_).trans ((run_bindV (resK_run rs us hok.2 hr)).trans rfl)
      simp only [getD_fr N f t hok.1]; rfl
  | .cell a T :: rs, vs, hok, h => by
    simp only [resOk, List.all_cons, Bool.and_eq_true, decide_eq_true_eq] at hok
    simp only [resK] at h
    have hload : ∀ p v, f a = .pointer (some p) → (loadVar T p).run P w = .ok v w →
        (do loadVar T (← asAddr ((fr N f).tmps.getD a undef)) : Sem Value).run P w = .ok v w := fun p v ha hl => by
      refine (run_bindV (a := p) (w' := w) ?_).trans hl
      simp only [getD_fr N f a hok.1, ha]; rfl
    split at h
    · rename_i p ha
      split at h
      · rename_i hs
        split at h
        · rename_i v us hc hr
          simp only [Option.some.injEq] at h
          subst h
          obtain ⟨u, hu, rfl⟩ := ldK_run (P := P) (T := T) (x := .pointer (some p)) (k := fun u _ => u = v) (w := w) (by simp only [ldK, hs, if_true, hc, rdK])
          rw [List.mapM_cons]
          exact (run_bindV (hload p _ ha hu)).trans ((run_bindV (resK_run rs us hok.2 hr)).trans rfl)
        · cases h
      · rename_i hs
        split at h
        · rename_i n hn
          split at h
          · rename_i cs us hc hr
            simp only [Option.some.injEq] at h
            subst h
            obtain ⟨u, hu, rfl⟩ := ldK_run (P := P) (T := T) (x := .pointer (some p)) (k := fun u _ => u = .agg cs.toArray) (w := w) (by simp only [ldK, hs, hn, hc, rdcK]; simp)
            rw [List.mapM_cons]
            exact (run_bindV (hload p _ ha hu)).trans ((run_bindV (resK_run rs us hok.2 hr)).trans rfl)
          · cases h
        · cases h
    · cases h
theorem outK_run {P : Program} {fn : Func} {N : Nat} {R : Value → World → Prop} {f : F} {w : World} (hok : resOk N fn.results.toList = true) (h : outK P fn R f w) :
    ∃ v, (results fn (fr N f).tmps).run P w = .ok v w ∧ R v w := by
  unfold outK at h
  cases hr : resK P fn.results.toList f w with
  | none => rw [hr] at h; exact h.elim
  | some vs =>
    rw [hr] at h
    refine ⟨_, ?_, h⟩
    unfold results
    rw [Array.mapM_eq_mapM_toList]
    have := resK_run (P := P) (N := N) fn.results.toList vs hok hr
    refine (run_bindV (a := vs.toArray) (w' := w) ?_).trans ?_
    · rw [map_eq_pure_bind]
      exact (run_bindV this).trans rfl
    · match vs with
      | [] => rfl
      | [v] => rfl
      | v :: u :: l => simp [tup]
def entryOk (fn : Func) (c : Code) : Bool := codeOk fn.ntmps c && resOk fn.ntmps fn.results.toList
theorem enter {P : Program} {g : FuncId} {fn : Func} {c : Code} {args : Array Value} {w : World} {R : Value → World → Prop} (hf : P.funcs[g]? = some fn) (hb : fn.body = some c)
    (hok : entryOk fn c = true) (hargs : args.size ≤ fn.ntmps)
    (h : ∀ f : F, (∀ i, i < args.size → args[i]? = some (f i)) → CW P fn.ntmps c (outK P fn R) (fun _ _ _ => False) (outK P fn R) f w) :
    Calls P g args w fun e w' => ∃ v, e = .returned v ∧ R v w' := by
  simp only [entryOk, Bool.and_eq_true] at hok
  refine calls_of_wp hf hb ?_
  let f : F := fun i => (args[i]?).getD undef
  have hfr : ({ tmps := args ++ Array.replicate (fn.ntmps - args.size) undef, defers := [] } : Act) = fr fn.ntmps f := by
    unfold fr
    congr 1
    apply Array.ext
    · simp; omega
    · intro i h1 h2
      simp only [Array.getElem_ofFn, f]
      by_cases hi : i < args.size
      · rw [Array.getElem_append_left hi, Array.getElem?_eq_getElem hi]; rfl
      · rw [Array.getElem_append_right om, Array.getElem?_eq_none om]; simp
  rw [hfr]
  refine wp_mono (h f (fun i hi => by simp only [f]; rw [Array.getElem?_eq_getElem hi]; rfl) hok.1) ?_
  intro e a w hq
  cases e <;> simp only [cont, bodyPost] at hq ⊢
  case normal =>
    obtain ⟨f, rfl, hR⟩ := hq
    obtain ⟨v, hv, hR'⟩ := outK_run hok.2 hR
    exact ⟨rfl, v, hv, v, rfl, hR'⟩
  case ret =>
    obtain ⟨f, rfl, hR⟩ := hq
    obtain ⟨v, hv, hR'⟩ := outK_run hok.2 hR
    exact ⟨rfl, v, hv, v, rfl, hR'⟩
  case exit id => obtain ⟨f, _, hx⟩ := hq; exact hx.elim
  all_goals exact hq.elim
def Ret (P : Program) (g : FuncId) (args : Array Value) (w : World) (R : Value → World → Prop) : Prop :=
  Calls P g args w fun e w' => ∃ v, e = .returned v ∧ R v w'
theorem Ret.mono {P : Program} {g : FuncId} {args : Array Value} {w : World} {R R' : Value → World → Prop} (h : Ret P g args w R) (hr : ∀ v w', R v w' → R' v w') : Ret P g args w R' :=
  Calls.mono h fun _ _ ⟨v, he, hR⟩ => ⟨v, he, hr _ _ hR⟩
theorem callK_of {P : Program} {g : FuncId} {args : Array Value} {k : Value → World → Prop} {w : World} {R : Value → World → Prop} (hg : goB P g = true) (hc : Ret P g args w R)
    (h : ∀ v w', R v w' → k v w') : callK false P g args k w := ⟨hg, by simp only [Bool.false_eq_true, if_false]; exact Ret.mono hc h⟩
theorem callK_q {P : Program} {g : FuncId} {args : Array Value} {k : Value → World → Prop} {w : World} {v : Value} (hg : goB P g = true)
    (hc : ∀ w', Ext w w' → Ret P g args w' fun u w'' => u = v ∧ Ext w' w'') (h : k v w) : callK true P g args k w :=
  ⟨hg, by simp only [if_true]; exact ⟨v, fun w' e => Calls.mono (hc w' e) (fun _ _ ⟨u, he, hu, e'⟩ => ⟨by rw [he, hu], e'⟩), h⟩⟩
theorem add_mk (b o n : Nat) : Addr.add ⟨b, o, none⟩ n = ⟨b, o + n, none⟩ := by
  unfold Addr.add; split <;> simp_all
def boxK (T : TypeId) (v : Value) (k : Value → World → Prop) (w : World) : Prop :=
  k (.pointer (some ⟨w.heap.size, 0, none⟩)) (w.alloc (.cells v.cells T))
def zeroC (P : Program) (T : TypeId) : Option (Array Value) := ((P.info? T).bind (·.zero)).map Value.cells
def allocK (P : Program) (T : TypeId) (k : Value → World → Prop) (w : World) : Prop :=
  match zeroC P T with
  | some cs => k (.pointer (some ⟨w.heap.size, 0, none⟩)) (w.alloc (.cells cs T))
  | none => False
def bslK (P : Program) (T n : Nat) (parts : List (Nat × Value)) (k : Value → World → Prop) (w : World) : Prop :=
  match (Instr.buildSlice T n parts.toArray).run P w with
  | .ok v w' => k v w'
  | _ => False
def mksK (P : Program) (T : TypeId) (l c : Value) (k : Value → World → Prop) (w : World) : Prop :=
  match (Instr.makeSlice T l c).run P w with
  | .ok v w' => k v w'
  | _ => False
def stK (P : Program) (T : TypeId) (x v : Value) (k : Value → World → Prop) (w : World) : Prop :=
  match (Instr.storeAt T x v).run P w with
  | .ok _ w' => k undef w'
  | _ => False
def biK (P : Program) (b : Builtin) (ts : Array TypeId) (ty : TypeId) (as : Array Value) (k : Value → World → Prop) (w : World) : Prop :=
  match (builtin b ts ty #[] as).run P w with
  | .ok (.value v) w' => k v w'
  | _ => False
section
variable {q : Bool} {P : Program} {ops : Array Oper} {K : F → World → Prop} {f : F} {w : World} {k : Value → World → Prop} {l : List Oper}
  {d : Option Tmp} {ty : TypeId} {pos : String} {aft : Array Edge} {g : Option (Nat × Bool)}
def nx (q : Bool) (P : Program) (ops : Array Oper) (K : F → World → Prop) (l : List Oper) (f : F) (d : Option Tmp) : Value → World → Prop := fun v w' => RL q P ops K l (updO f d v) w'
theorem nx_some (n : Nat) (v : Value) : nx q P ops K l f (some n) v w = RL q P ops K l (upd f n v) w := (rfl)
theorem nx_none (v : Value) : nx q P ops K l f none v w = RL q P ops K l f w := (rfl)
theorem RL_nil : RL q P ops K [] f w = finK q K f w := (rfl)
theorem RL_cons {op : Op} : RL q P ops K (⟨d, op, ty, pos, aft, none⟩ :: l) f w =
    stepR q P ⟨d, op, ty, pos, aft, none⟩ f (nx q P ops K l f d) w (pv P f op) := (rfl)
def gK (b : Bool) (p q : World → Prop) (w : World) : Prop := if b then p w else q w
theorem gK_true (p q : World → Prop) : gK true p q w = p w := if_pos rfl
theorem gK_false (p q : World → Prop) : gK false p q w = q w := if_neg sm
def dstAt (ops : Array Oper) (j : Nat) : Option Tmp := (ops[j]?).bind (·.dst)
theorem dstAt_zero (op : Op) (l : List Oper) : dstAt (⟨d, op, ty, pos, aft, g⟩ :: l).toArray 0 = d := by simp [dstAt]
theorem dstAt_succ (o : Oper) (l : List Oper) (n : Nat) : dstAt (o :: l).toArray (n + 1) = dstAt l.toArray n := by simp [dstAt]
def sgK (q : Bool) (P : Program) (ops : Array Oper) (K : F → World → Prop) (l : List Oper) (f : F) (d : Option Tmp) (op : Op) (ty : TypeId) (pos : String) (aft : Array Edge) (g : Option (Nat × Bool)) (w : World) : Prop :=
  stepR q P ⟨d, op, ty, pos, aft, g⟩ f (nx q P ops K l f d) w (pv P f op)
theorem sgK_go {op : Op} : sgK q P ops K l f d op ty pos aft g w = stepR q P ⟨d, op, ty, pos, aft, g⟩ f (nx q P ops K l f d) w (pv P f op) := (rfl)
def skK (q : Bool) (P : Program) (ops : Array Oper) (K : F → World → Prop) (l : List Oper) (f : F) (d : Option Tmp) (w : World) : Prop := RL q P ops K l (updO f d undef) w
theorem skK_some (n : Nat) : skK q P ops K l f (some n) w = RL q P ops K l (upd f n undef) w := (rfl)
theorem skK_none : skK q P ops K l f none w = RL q P ops K l f w := (rfl)
theorem RL_guard {op : Op} {j : Nat} {want : Bool} : RL q P ops K (⟨d, op, ty, pos, aft, some (j, want)⟩ :: l) f w =
    gK (gb f want (dstAt ops j)) (sgK q P ops K l f d op ty pos aft (some (j, want))) (skK q P ops K l f d) w := (rfl)
theorem gb_some (d : Nat) (want : Bool) : gb f want (some d) = isB (f d) want := (rfl)
theorem isB_true (b : Bool) : isB (.bool b) true = b := by simp [isB]
theorem isB_false (b : Bool) : isB (.bool b) false = !b := by simp [isB]
theorem finK_true : finK true K f w = ∀ w', Ext w w' → K f w' := by simp [finK]
theorem finK_false : finK false K f w = K f w := by simp [finK]
theorem stepR_some {o : Oper} (v : Value) : stepR q P o f k w (some v) = k v w := (rfl)
theorem stepR_none {o : Oper} : stepR q P o f k w none = OW q P o f k w := (rfl)
theorem stepR_congr {o : Oper} {x y : Option Value} (h : x = y) : stepR q P o f k w x = stepR q P o f k w y := by rw [h]
theorem gK_congr {b c : Bool} {p r : World → Prop} (h : b = c) : gK b p r w = gK c p r w := by rw [h]
theorem rdK_congr {x y : Option Value} (h : x = y) : rdK x k w = rdK y k w := by rw [h]
theorem rdcK_congr {x y : Option (List Value)} (h : x = y) : rdcK x k w = rdcK y k w := by rw [h]
theorem ldK_congr {T : TypeId} {x y : Value} (h : x = y) : ldK P T x k w = ldK P T y k w := by rw [h]
theorem cndK_congr {v u : Value} {p r : Prop} (h : v = u) : cndK v p r = cndK u p r := by rw [h]
theorem boxK_congr {T : TypeId} {v u : Value} (h : v = u) : boxK T v k w = boxK T u k w := by rw [h]
theorem bslK_congr {T n : Nat} {ps rs : List (Nat × Value)} (h : ps = rs) : bslK P T n ps k w = bslK P T n rs k w := by rw [h]
theorem mksK_congr {T : TypeId} {v u v' u' : Value} (h : v = u) (h' : v' = u') : mksK P T v v' k w = mksK P T u u' k w := by rw [h, h']
theorem stK_congr {T : TypeId} {v u v' u' : Value} (h : v = u) (h' : v' = u') : stK P T v v' k w = stK P T u u' k w := by rw [h, h']
theorem biK_congr {b : Builtin} {ts : Array TypeId} {as as' : Array Value} (h : as = as') : biK P b ts ty as k w = biK P b ts ty as' k w := by rw [h]
theorem callK_congr {n : FuncId} {as as' : Array Value} (h : as = as') : callK q P n as k w = callK q P n as' k w := by rw [h]
theorem fnK_congr {o : Oper} {as as' : Array Value} {v u : Value} (h : as = as') (h' : v = u) : fnK q P o f as k w v = fnK q P o f as' k w u := by rw [h, h']
theorem RL_congr : RL q P ops K l f w = RL q P ops K l f w := (rfl)
theorem genK_congr {o : Oper} : genK P o f k w = genK P o f k w := (rfl)
theorem OW_congr {o : Oper} : OW q P o f k w = OW q P o f k w := (rfl)
theorem allocK_congr {T : TypeId} : allocK P T k w = allocK P T k w := (rfl)
theorem pv_move (x : Operand) : pv P f (.move x) = some (ev f x) := (rfl)
theorem pv_assign (x : Operand) : pv P f (.assign x) = some (ev f x) := (rfl)
theorem pv_pick (c a b : Operand) : pv P f (.pick c a b) = pickV (ev f c) (ev f a) (ev f b) := (rfl)
theorem pv_binOp (op : BinOp) (T : TypeId) (x y : Operand) (T' : TypeId) : pv P f (.binOp op T x y T') = binV P op T (ev f x) (ev f y) := (rfl)
theorem pv_unOp (op : UnOp) (T : TypeId) (x : Operand) : pv P f (.unOp op T x) = unV op (ev f x) := (rfl)
theorem pv_indexAddr (T : TypeId) (x i : Operand) : pv P f (.indexAddr T x i) = idxV (esz P T) (ev f x) (ev f i) := (rfl)
theorem pv_fieldAddr (s n : Nat) (x : Operand) : pv P f (.fieldAddr s x n) = fldV (foff P s n) (ev f x) := (rfl)
theorem pv_index (T : TypeId) (x i : Operand) : pv P f (.index T x i) = sidxV P T (ev f x) (ev f i) := (rfl)
theorem pv_slice (T : TypeId) (x : Operand) (lo hi : Option Operand) : pv P f (.slice T x lo hi none) = slcV P T (ev f x) (lo.map (ev f)) (hi.map (ev f)) := (rfl)
theorem pv_extract (x : Operand) (i : Nat) : pv P f (.extract x i) = exV (ev f x) i := (rfl)
theorem pv_makeFunc (fn : Fn) (a b : Array Operand) : pv P f (.makeFunc fn a b) = some (.func fn (a.map (ev f)) (b.map (ev f))) := (rfl)
theorem pv_convert (s t : TypeId) (x : Operand) : pv P f (.convert s t x) = cvV P s t (ev f x) := (rfl)
theorem pv_build (T : TypeId) (parts : Array (Nat × Operand)) : pv P f (.build T parts) = buildV P T (parts.toList.map fun p => (p.1, ev f p.2)) := (rfl)
theorem pv_builtin (b : Builtin) (as : Array Operand) (ts : Array TypeId) : pv P f (.call ⟨.builtin b, as, ts⟩) = biV P b ts.toList (as.toList.map (ev f)) := (rfl)
theorem pv_call (x : Operand) (as : Array Operand) (ts : Array TypeId) : pv P f (.call ⟨.value x, as, ts⟩) = none := (rfl)
theorem pv_load (T : TypeId) (x : Operand) : pv P f (.load T x) = none := (rfl)
theorem pv_store (T : TypeId) (x y : Operand) : pv P f (.store T x y) = none := (rfl)
theorem pv_box (T : TypeId) (x : Operand) : pv P f (.box T x) = none := (rfl)
theorem pv_alloc (T : TypeId) : pv P f (.alloc T) = none := (rfl)
theorem pv_buildSlice (T n : Nat) (ps : Array (Nat × Operand)) : pv P f (.buildSlice T n ps) = none := (rfl)
theorem pv_makeSlice (T : TypeId) (x y : Operand) : pv P f (.makeSlice T x y) = none := (rfl)
theorem pickV_true (a b : Value) : pickV (.bool true) a b = some a := (rfl)
theorem pickV_false (a b : Value) : pickV (.bool false) a b = some b := (rfl)
theorem bin_add (T : TypeId) (k : IntKind) (a b : Int) : binV P .add T (.int k a) (.int k b) = some (.int k (k.wrap (a + b))) := by simp [binV, intV]
theorem bin_sub (T : TypeId) (k : IntKind) (a b : Int) : binV P .sub T (.int k a) (.int k b) = some (.int k (k.wrap (a - b))) := by simp [binV, intV]
theorem bin_mul (T : TypeId) (k : IntKind) (a b : Int) : binV P .mul T (.int k a) (.int k b) = some (.int k (k.wrap (a * b))) := by simp [binV, intV]
theorem bin_quo (T : TypeId) (a b : Int) (h0 : 0 ≤ a) (hb : 0 < b) (h : a ≤ 9223372036854775807) : binV P .quo T (.int .i64 a) (.int .i64 b) = some (.int .i64 (a / b)) := by
  have e : a.tdiv b = a / b := Int.tdiv_eq_ediv_of_nonneg h0
  have h1 : 0 ≤ a / b := Int.ediv_nonneg h0 om
  have h2 : a / b ≤ a := Int.ediv_le_self _ h0
  have hw : IntKind.i64.wrap (a / b) = a / b := IntWalk.i64_in _ (by constructor <;> omega)
  simp only [binV, intV, if_true, e, hw, if_neg (show ¬ b = 0 from om)]
theorem bin_rem (T : TypeId) (a b : Int) (h0 : 0 ≤ a) (hb : 0 < b) : binV P .rem T (.int .i64 a) (.int .i64 b) = some (.int .i64 (a % b)) := by
  have e : a.tmod b = a % b := Int.tmod_eq_emod_of_nonneg h0
  simp only [binV, intV, if_true, e, if_neg (show ¬ b = 0 from om)]
theorem bin_eql (T : TypeId) (k : IntKind) (a b : Int) : binV P .eql T (.int k a) (.int k b) = some (.bool (a == b)) := by simp [binV, intV]
theorem bin_neq (T : TypeId) (k : IntKind) (a b : Int) : binV P .neq T (.int k a) (.int k b) = some (.bool (a != b)) := by simp [binV, intV]
theorem bin_lss (T : TypeId) (k : IntKind) (a b : Int) : binV P .lss T (.int k a) (.int k b) = some (.bool (decide (a < b))) := by simp [binV, intV]
theorem bin_leq (T : TypeId) (k : IntKind) (a b : Int) : binV P .leq T (.int k a) (.int k b) = some (.bool (decide (a ≤ b))) := by simp [binV, intV]
theorem bin_gtr (T : TypeId) (k : IntKind) (a b : Int) : binV P .gtr T (.int k a) (.int k b) = some (.bool (decide (b < a))) := by simp [binV, intV]
theorem bin_geq (T : TypeId) (k : IntKind) (a b : Int) : binV P .geq T (.int k a) (.int k b) = some (.bool (decide (b ≤ a))) := by simp [binV, intV]
theorem un_not (b : Bool) : unV .not (.bool b) = some (.bool (!b)) := (rfl)
theorem un_neg (k : IntKind) (n : Int) : unV .neg (.int k n) = some (.int k (k.wrap (0 - n))) := (rfl)
theorem wrap_i64 (x : Int) (h1 : -9223372036854775808 ≤ x) (h2 : x ≤ 9223372036854775807) : IntKind.i64.wrap x = x := IntWalk.i64_in _ (by constructor <;> omega)
theorem idx_at (s : Nat) (a : Addr) (n c : Nat) (k : IntKind) (i : Int) (h0 : 0 ≤ i) (h1 : i < (n : Int)) : idxV (some s) (.slice (some a) n c) (.int k i) = some (.pointer (some (a.add (i.toNat * s)))) := by
  simp only [idxV, h0, h1, and_self, if_true]
theorem fld_at (o : Nat) (a : Addr) : fldV (some o) (.pointer (some a)) = some (.pointer (some (a.add o))) := (rfl)
def isSl (P : Program) (t : TypeId) : Bool := match P.underlying t with | some (.slice _) => true | _ => false
def lenS (b : Bool) (n : Nat) : Option Value := match b with | true => some (.int .i64 n) | false => none
theorem len_sl (t : TypeId) (ts : List TypeId) (a : Option Addr) (n c : Nat) (vs : List Value) : biV P .len (t :: ts) (.slice a n c :: vs) = lenS (isSl P t) n := by
  simp only [biV, lenV, lenS, isSl]
  cases P.underlying t with
  | none => exact (rfl)
  | some d => cases d <;> exact (rfl)
theorem len_true (n : Nat) : lenS true n = some (.int .i64 n) := (rfl)
theorem bi_min (ts : List TypeId) (k k' : IntKind) (x y : Int) : biV P .min ts [.int k x, .int k' y] = some (.int k (min x y)) := by simp [biV]
theorem bi_max (ts : List TypeId) (k k' : IntKind) (x y : Int) : biV P .max ts [.int k x, .int k' y] = some (.int k (max x y)) := by simp [biV]
theorem bi_min4 (ts : List TypeId) (k : IntKind) (x y z u : Int) : biV P .min ts [.int k x, .int k y, .int k z, .int k u] = some (.int k (min (min (min x y) z) u)) := by simp [biV]
theorem bi_append (ts : List TypeId) (vs : List Value) : biV P .append ts vs = none := (rfl)
theorem bi_copy (ts : List TypeId) (vs : List Value) : biV P .copy ts vs = none := (rfl)
theorem ex_at (vs : Array Value) (i : Nat) : exV (.tuple vs) i = vs[i]? := (rfl)
theorem OW_load (T : TypeId) (x : Operand) : OW q P ⟨d, .load T x, ty, pos, aft, g⟩ f k w = ldK P T (ev f x) k w := (rfl)
theorem OW_call (x : Operand) (as : Array Operand) (ts : Array TypeId) : OW q P ⟨d, .call ⟨.value x, as, ts⟩, ty, pos, aft, g⟩ f k w =
    fnK q P ⟨d, .call ⟨.value x, as, ts⟩, ty, pos, aft, g⟩ f (as.map (ev f)) k w (ev f x) := (rfl)
theorem fnK_func {o : Oper} (n : FuncId) (as : Array Value) : fnK q P o f as k w (.func (.func n) #[] #[]) = callK q P n as k w := by simp [fnK]
theorem fnK_clo {o : Oper} (n : FuncId) (as first captured : Array Value) : fnK q P o f as k w (.func (.func n) first captured) = callK q P n (first ++ as ++ captured) k w := (rfl)
def ldB (b : Bool) (P : Program) (T : TypeId) (a : Addr) (k : Value → World → Prop) (w : World) : Prop :=
  if b then rdK (w.cell? a) k w else match aggN P T with
    | some n => rdcK (readCells w a n) k w
    | none => False
def ldN (n : Option Nat) (a : Addr) (k : Value → World → Prop) (w : World) : Prop :=
  match n with
  | some n => rdcK (readCells w a n) k w
  | none => False
theorem ldK_ptr (T : TypeId) (a : Addr) : ldK P T (.pointer (some a)) k w = ldB (scal P T) P T a k w := (rfl)
theorem ldK_true (T : TypeId) (a : Addr) : ldB true P T a k w = rdK (w.cell? a) k w := by simp [ldB]
theorem ldK_false (T : TypeId) (a : Addr) : ldB false P T a k w = ldN (aggN P T) a k w := by simp [ldB, ldN]
theorem ldK_n (n : Nat) (a : Addr) : ldN (some n) a k w = rdcK (readCells w a n) k w := (rfl)
theorem ldB_congr {b c : Bool} {T : TypeId} {a : Addr} (h : b = c) : ldB b P T a k w = ldB c P T a k w := by rw [h]
theorem ldN_congr {n m : Option Nat} {a : Addr} (h : n = m) : ldN n a k w = ldN m a k w := by rw [h]
theorem rdK_some (v : Value) : rdK (some v) k w = k v w := (rfl)
theorem rdcK_some (vs : List Value) : rdcK (some vs) k w = k (.agg vs.toArray) w := (rfl)
theorem OW_box (T : TypeId) (x : Operand) : OW false P ⟨d, .box T x, ty, pos, aft, g⟩ f k w = boxK T (ev f x) k w := (rfl)
theorem OW_alloc (T : TypeId) : OW false P ⟨d, .alloc T, ty, pos, aft, g⟩ f k w = allocK P T k w := by
  simp only [OW, Bool.false_eq_true, if_false, genK, allocK, zeroC, execOp, Instr.alloc]
  cases hi : P.info? T with
  | none =>
    have hz : (zeroValue T).run P w = .halt (.stuck "no such type") w := by
      simp only [zeroValue, typeInfo, program, bind, Sem.bind, Sem.run, hi]; rfl
    simp only [Sem.run_bind, hz, Result.andThen, Option.bind_none, Option.map_none]
  | some i =>
    cases hz : i.zero with
    | none =>
      have hz' : (zeroValue T).run P w = .halt (.unsupported (.resourceLimit "a value of more than 2^22 cells")) w := by
        refine (run_bindV (run_typeInfo_some hi)).trans ?_
        rw [hz]; rfl
      simp only [Sem.run_bind, hz', Result.andThen, Option.bind_some, hz, Option.map_none]
    | some z =>
      have hz' : (zeroValue T).run P w = .ok z w := by
        refine (run_bindV (run_typeInfo_some hi)).trans ?_
        rw [hz]; rfl
      simp only [Sem.run_bind, hz', Result.andThen, Option.bind_some, hz, Option.map_some]
      rfl
theorem OW_store (T : TypeId) (x y : Operand) : OW false P ⟨d, .store T x y, ty, pos, aft, g⟩ f k w = stK P T (ev f x) (ev f y) k w := by
  simp only [OW, Bool.false_eq_true, if_false, genK, stK, execOp, Sem.run_bind]
  cases (Instr.storeAt T (ev f x) (ev f y)).run P w <;> rfl
theorem OW_buildSlice (T n : Nat) (ps : Array (Nat × Operand)) : OW false P ⟨d, .buildSlice T n ps, ty, pos, aft, g⟩ f k w = bslK P T n (ps.toList.map fun p => (p.1, ev f p.2)) k w := by
  have e : (ps.toList.map fun p => (p.1, ev f p.2)).toArray = ps.map fun (i, x) => (i, ev f x) := by
    apply Array.ext' ; simp
  simp only [OW, Bool.false_eq_true, if_false, genK, bslK, execOp, Sem.run_bind, e]
  cases (Instr.buildSlice T n (ps.map fun (i, x) => (i, ev f x))).run P w <;> rfl
theorem OW_builtin (b : Builtin) (as : Array Operand) (ts : Array TypeId) (hb : b = .append ∨ b = .copy) : OW false P ⟨d, .call ⟨.builtin b, as, ts⟩, ty, pos, aft, g⟩ f k w = biK P b ts ty (as.map (ev f)) k w := by
  have e : ∀ cs cs', builtin b ts ty cs (as.map (ev f)) = builtin b ts ty cs' (as.map (ev f)) := by
    rcases hb with rfl | rfl <;> exact fun _ _ => rfl
  have e2 : (execOp (ev f) ⟨d, .call ⟨.builtin b, as, ts⟩, ty, pos, aft, g⟩).run P w = (builtin b ts ty #[] (as.map (ev f))).run P w := by
    rw [← e (as.map fun | .const _ => true | _ => false) #[]]; rfl
  simp only [OW, Bool.false_eq_true, if_false, genK, biK, e2]
  rcases hb with rfl | rfl
  · simp only [builtin, Sem.run_bind]
    cases (Builtin.append_ ts ty (as.map (ev f))).run P w <;> rfl
  · simp only [builtin, Sem.run_bind]
    cases (Builtin.copy_ ts ty (as.map (ev f))).run P w <;> rfl
theorem OW_append (as : Array Operand) (ts : Array TypeId) : OW false P ⟨d, .call ⟨.builtin .append, as, ts⟩, ty, pos, aft, g⟩ f k w = biK P .append ts ty (as.map (ev f)) k w := OW_builtin _ _ _ (.inl rfl)
theorem OW_copy (as : Array Operand) (ts : Array TypeId) : OW false P ⟨d, .call ⟨.builtin .copy, as, ts⟩, ty, pos, aft, g⟩ f k w = biK P .copy ts ty (as.map (ev f)) k w := OW_builtin _ _ _ (.inr rfl)
theorem OW_makeSlice (T : TypeId) (x y : Operand) : OW false P ⟨d, .makeSlice T x y, ty, pos, aft, g⟩ f k w = mksK P T (ev f x) (ev f y) k w := by
  simp only [OW, Bool.false_eq_true, if_false, genK, mksK, execOp, Sem.run_bind]
  cases (Instr.makeSlice T (ev f x) (ev f y)).run P w <;> rfl
end
theorem toL {α : Type} (l : List α) : l.toArray.toList = l := by simp
theorem arr_getElem? {α : Type} (l : List α) (i : Nat) : l.toArray[i]? = l[i]? := by simp
attribute [congr] stepR_congr gK_congr rdK_congr rdcK_congr ldK_congr cndK_congr boxK_congr bslK_congr mksK_congr stK_congr biK_congr callK_congr fnK_congr RL_congr genK_congr OW_congr allocK_congr ldB_congr ldN_congr
attribute [go_sem] Nat.reduceEqDiff Nat.reduceAdd
attribute [go_sem ↓] reduceIte
attribute [go_sem ↓] nx_some nx_none RL_nil RL_cons gK_true gK_false dstAt_zero dstAt_succ sgK_go skK_some skK_none RL_guard finK_true finK_false stepR_some stepR_none pv_move pv_assign pv_pick pv_binOp pv_unOp pv_indexAddr pv_fieldAddr pv_index pv_slice pv_extract pv_makeFunc pv_convert pv_build pv_builtin pv_call pv_load pv_store pv_box pv_alloc pv_buildSlice pv_makeSlice OW_load OW_call fnK_func fnK_clo OW_box OW_alloc OW_store OW_buildSlice OW_append OW_copy OW_makeSlice ev_tmp ev_const ev_func ev_global upd_apply cndK_bool
attribute [go_sem] add_mk gb_some isB_true isB_false pickV_true pickV_false bin_add bin_sub bin_mul bin_quo bin_rem bin_eql bin_neq bin_lss bin_leq bin_gtr bin_geq un_not un_neg wrap_i64 idx_at fld_at len_sl len_true bi_min bi_max bi_min4 bi_append bi_copy ex_at ldK_ptr ldK_true ldK_false ldK_n rdK_some rdcK_some
attribute [go_sem] toL arr_getElem? List.map_cons List.map_nil List.map_toArray Option.map_some Option.map_none List.getElem?_cons_zero List.getElem?_cons_succ Bool.not_true Bool.not_false decide_true decide_false Nat.add_zero Nat.zero_add Nat.mul_one Nat.zero_mul Int.toNat_zero Int.toNat_natCast Bool.false_eq_true
def elt (P : Program) (T : TypeId) : Option (TypeId × Nat × Value × Nat) :=
  match P.underlying T with
  | some (.slice e) => match P.info? e with
    | some i => match i.zero with
      | some z => if i.size = z.cells.size then some (e, i.size, z, i.bytes) else none
      | none => none
    | none => none
  | _ => none
theorem elt_some {P : Program} {T e s bs : Nat} {z : Value} (h : elt P T = some (e, s, z, bs)) :
    P.underlying T = some (.slice e) ∧ ∃ i, P.info? e = some i ∧ i.size = s ∧ i.zero = some z ∧ i.bytes = bs ∧ z.cells.size = s := by
  unfold elt at h
  split at h
  · rename_i e' hT
    split at h
    · rename_i i hi
      split at h
      · rename_i z' hz
        split at h
        · rename_i hs
          simp only [Option.some.injEq, Prod.mk.injEq] at h
          obtain ⟨rfl, rfl, rfl, rfl⟩ := h
          exact ⟨hT, i, hi, rfl, hz, rfl, hs.symm⟩
        · cases h
      · cases h
    · cases h
  · cases h
structure Grow (ob : Option Nat) (w w' : World) : Prop where
  os : w'.os = w.os
  tape : w'.tape = w.tape
  output : w'.output = w.output
  size : w.heap.size ≤ w'.heap.size
  other : ∀ b, b < w.heap.size → ob ≠ some b → w'.heap[b]? = w.heap[b]?
theorem Ext.grow {w w' : World} (h : Ext w w') (ob : Option Nat) : Grow ob w w' := ⟨h.os, h.tape, h.output, Below.size h, fun b hb _ => Below.block h b hb⟩
theorem Wrote.grow {b : Nat} {w w' : World} (h : Wrote b w w') : Grow (some b) w w' := ⟨h.os, h.tape, h.output, Nat.le_of_eq h.size.symm, fun c _ hc => h.other c (fun e => hc (by rw [e]))⟩
theorem Grow.refl (ob : Option Nat) (w : World) : Grow ob w w := ⟨rfl, rfl, rfl, Nat.le_refl _, fun _ _ _ => rfl⟩
theorem Grow.trans {ob : Option Nat} {a b c : World} (h : Grow ob a b) (k : Grow ob b c) : Grow ob a c :=
  ⟨k.os.trans h.os, k.tape.trans h.tape, k.output.trans h.output, Nat.le_trans h.size k.size, fun i hi ho => (k.other i (Nat.lt_of_lt_of_le hi h.size) ho).trans (h.other i hi ho)⟩
theorem Grow.ext {ob : Option Nat} {w0 w w' : World} (h : Grow ob w w') (e : Ext w0 w) (hb : ∀ b, ob = some b → w0.heap.size ≤ b) : Ext w0 w' :=
  Below.trans e ⟨h.os, h.tape, h.output, h.size, fun k hk => h.other k (Nat.lt_of_lt_of_le hk e.size) (fun e' => by have := hb k e'; omega)⟩
theorem Grow.blk {ob : Option Nat} {w w' : World} {c : Nat} {cs : Array Value} {T : TypeId} (h : Grow ob w w') (hc : Blk w c cs T) (hne : ob ≠ some c) : Blk w' c cs T := by
  unfold Blk; rw [h.other c hc.lt hne]; exact hc
theorem Grow.cell {ob : Option Nat} {w w' : World} {a : Addr} {v : Value} (h : Grow ob w w') (hc : w.cell? a = some v) (hne : ob ≠ some a.block) : w'.cell? a = some v := by
  rw [World.cell?_of_block (h.other a.block (World.block_lt_of_cell? w a hc) hne)]; exact hc
def blk (a : Option Addr) : Option Nat := a.map (·.block)
theorem blk_some (b o : Nat) : blk (some ⟨b, o, none⟩) = some b := (rfl)
def OwnS (w : World) (e s : Nat) (a : Option Addr) (n c : Nat) (xs : List Value) : Prop :=
  xs.length = n * s ∧ ((a = none ∧ n = 0 ∧ c = 0) ∨
    ∃ b cur, a = some ⟨b, 0, none⟩ ∧ w.heap[b]? = some (.cells cur e (0, 0)) ∧ n ≤ c ∧ c ≤ maxLen ∧ cur.size = c * s ∧ cur.toList.take (n * s) = xs)
section
variable {w w' : World} {e s n c : Nat} {a : Option Addr} {xs : List Value}
theorem OwnS.len (h : OwnS w e s a n c xs) : xs.length = n * s := h.1
theorem OwnS.nil (w : World) (e s : Nat) : OwnS w e s none 0 0 [] := ⟨by simp, .inl ⟨rfl, rfl, rfl⟩⟩
theorem OwnS.blk_lt (h : OwnS w e s a n c xs) {b : Nat} (hb : blk a = some b) : b < w.heap.size := by
  rcases h.2 with ⟨rfl, _⟩ | ⟨g, cur, rfl, hg, _⟩
  · cases hb
  · simp only [blk_some, Option.some.injEq] at hb; subst hb; exact (Array.getElem?_eq_some_iff.1 hg).1
theorem OwnS.kept (h : OwnS w e s a n c xs) (hk : ∀ b, blk a = some b → w'.heap[b]? = w.heap[b]?) : OwnS w' e s a n c xs := by
  refine ⟨h.1, ?_⟩
  rcases h.2 with hn | ⟨g, cur, rfl, hg, r⟩
  · exact .inl hn
  · exact .inr ⟨g, cur, rfl, by rw [hk g rfl]; exact hg, r⟩
theorem OwnS.ext (h : OwnS w e s a n c xs) (x : Ext w w') : OwnS w' e s a n c xs := h.kept fun b hb => Below.block x b (h.blk_lt hb)
theorem OwnS.grow {ob : Option Nat} (h : OwnS w e s a n c xs) (x : Grow ob w w') (hne : ∀ b, blk a = some b → ob ≠ some b) : OwnS w' e s a n c xs :=
  h.kept fun b hb => x.other b (h.blk_lt hb) (hne b hb)
theorem OwnS.of_blk {b : Nat} {cs : Array Value} (h : Blk w b cs e) (hn : cs.size = n * s) (hm : n ≤ maxLen) : OwnS w e s (some ⟨b, 0, none⟩) n n cs.toList :=
  ⟨by simpa using hn, .inr ⟨b, cs, rfl, h, Nat.le_refl _, hm, hn, by rw [← hn, ← Array.length_toList, List.take_length]⟩⟩
theorem OwnS.le_cap (h : OwnS w e s a n c xs) : n ≤ c := by
  rcases h.2 with ⟨_, rfl, rfl⟩ | ⟨_, _, _, _, hl, _⟩
  · exact Nat.le_refl _
  · exact hl
theorem OwnS.some (h : OwnS w e s a n c xs) (hn : 0 < n) : ∃ b, a = .some ⟨b, 0, none⟩ := by
  rcases h.2 with ⟨_, rfl, _⟩ | ⟨b, _, rfl, _⟩
  · omega
  · exact ⟨b, rfl⟩
theorem OwnS.cell {b : Nat} (h : OwnS w e s (.some ⟨b, 0, none⟩) n c xs) {i : Nat} (hi : i < n * s) : w.cell? ⟨b, i, none⟩ = xs[i]? := by
  rcases h.2 with ⟨h0, _⟩ | ⟨g, cur, hg, hh, _, _, hs, rfl⟩
  · cases h0
  · simp only [Option.some.injEq, Addr.mk.injEq] at hg
    obtain ⟨rfl, _⟩ := hg
    simp [World.cell?, hh, hi]
theorem OwnS.frozen {b : Nat} (h : OwnS w e s (.some ⟨b, 0, none⟩) n c xs) (i : Nat) : w.frozen? ⟨b, i, none⟩ = false := by
  rcases h.2 with ⟨h0, _⟩ | ⟨g, cur, hg, hh, _⟩
  · cases h0
  · simp only [Option.some.injEq, Addr.mk.injEq] at hg
    obtain ⟨rfl, _⟩ := hg
    simp [World.frozen?, hh]
theorem OwnS.set {b : Nat} (h : OwnS w e s (.some ⟨b, 0, none⟩) n c xs) (i : Nat) (v : Value) : OwnS (w.setCell ⟨b, i, none⟩ v) e s (.some ⟨b, 0, none⟩) n c (xs.set i v) := by
  refine ⟨by rw [List.length_set]; exact h.1, ?_⟩
  rcases h.2 with ⟨h0, _⟩ | ⟨g, cur, hg, hh, hnc, hcm, hs, rfl⟩
  · cases h0
  · simp only [Option.some.injEq, Addr.mk.injEq] at hg
    obtain ⟨rfl, _⟩ := hg
    refine .inr ⟨b, cur.setIfInBounds i v, rfl, ?_, hnc, hcm, by simpa using hs, ?_⟩
    · rw [setCell_eq_setRow w b i cur e (0, 0) v hh]
      exact setRow_heap w b cur _ e (0, 0) hh
    · rw [Array.toList_setIfInBounds, List.take_set]
end
theorem boxK_of {T : TypeId} {v : Value} {k : Value → World → Prop} {w : World} (h : ∀ w' b, b = w.heap.size → Ext w w' → Blk w' b v.cells T → w'.heap.size = b + 1 → k (.pointer (some ⟨b, 0, none⟩)) w') : boxK T v k w :=
  h _ _ rfl (ext_alloc w _) (heap_alloc_new w _) sm
theorem allocK_of {P : Program} {T : TypeId} {k : Value → World → Prop} {w : World} {cs : Array Value} (hz : zeroC P T = some cs)
    (h : ∀ w' b, b = w.heap.size → Ext w w' → Blk w' b cs T → w'.heap.size = b + 1 → k (.pointer (some ⟨b, 0, none⟩)) w') : allocK P T k w := by
  unfold allocK
  rw [hz]
  exact h _ _ rfl (ext_alloc w _) (heap_alloc_new w _) sm
theorem bslK_0 {P : Program} {T e s bs : Nat} {z : Value} {k : Value → World → Prop} {w : World} (ht : elt P T = some (e, s, z, bs))
    (h : ∀ w' b, b = w.heap.size → Ext w w' → OwnS w' e s (some ⟨b, 0, none⟩) 0 0 [] → w'.heap.size = b + 1 → k (.slice (some ⟨b, 0, none⟩) 0 0) w') : bslK P T 0 [] k w := by
  obtain ⟨hT, i, hi, hs, hz, hb, hzs⟩ := elt_some ht
  have hr : (Instr.buildSlice T 0 [].toArray).run P w = .ok (.slice (some ⟨w.heap.size, 0, none⟩) 0 0) (w.alloc (.cells #[] e)) := by
    refine (run_bindV (run_underlying_some hT)).trans ?_
    refine (run_bindV (run_sizeOf_some hi)).trans ?_
    have e0 : (Array.range 0).map (fun _ => (default : Value)) = #[] := by apply Array.ext'; simp
    simp [Instr.fill, newRow, e0]
  unfold bslK
  rw [hr]
  exact h _ _ rfl (ext_alloc w _) (OwnS.of_blk (cs := #[]) (heap_alloc_new w _) sm (by simp [maxLen])) sm
theorem bslK_1 {P : Program} {T e bs : Nat} {z v : Value} {k : Value → World → Prop} {w : World} (ht : elt P T = some (e, 1, z, bs)) (hv : v.cells = #[v])
    (h : ∀ w' b, b = w.heap.size → Ext w w' → Blk w' b #[v] e → w'.heap.size = b + 1 → k (.slice (some ⟨b, 0, none⟩) 1 1) w') : bslK P T 1 [(0, v)] k w := by
  obtain ⟨hT, i, hi, hs, hz, hb, hzs⟩ := elt_some ht
  have hr : (Instr.buildSlice T 1 [(0, v)].toArray).run P w = .ok (.slice (some ⟨w.heap.size, 0, none⟩) 1 1) (w.alloc (.cells #[v] e)) := by
    refine (run_bindV (run_underlying_some hT)).trans ?_
    refine (run_bindV (run_sizeOf_some hi)).trans ?_
    have hzr : (zeroValue e).run P w = .ok z w := by
      refine (run_bindV (run_typeInfo_some hi)).trans ?_
      rw [hz]; rfl
    have e1 : ((Array.range 1).map (fun x => z.cells[x % z.cells.size]!)).setIfInBounds 0 v = #[v] := by
      apply Array.ext'; simp [List.range_succ]
    simp [hs, hzr, Instr.fill, newRow, hv, e1]
  unfold bslK
  rw [hr]
  exact h _ _ rfl (ext_alloc w _) (heap_alloc_new w _) sm
theorem mksK_of {P : Program} {T e s bs : Nat} {z : Value} {k : Value → World → Prop} {w : World} (ht : elt P T = some (e, s, z, bs)) (n c : Nat) (kl kc : IntKind) (l m : Int) (hl : l = (n : Int)) (hm : m = (c : Int)) (hnc : n ≤ c) (hbytes : bs * c ≤ 281474976710656) (h63 : c ≤ maxLen)
    (h : ∀ w' b, b = w.heap.size → Ext w w' → OwnS w' e s (some ⟨b, 0, none⟩) n c ((madeCells z.cells (c * s)).toList.take (n * s)) → w'.heap.size = b + 1 → k (.slice (some ⟨b, 0, none⟩) n c) w') : mksK P T (.int kl l) (.int kc m) k w := by
  obtain ⟨hT, i, hi, hs, hz, hb, hzs⟩ := elt_some ht
  subst hl hm
  have h63' : (c : Int) ≤ 9223372036854775807 := by
    have := h63
    simp [maxLen] at this
    omega
  have hb' : (i.bytes : Int) * (c : Int) ≤ 281474976710656 := by
    have h : ((i.bytes * c : Nat) : Int) ≤ 281474976710656 := by rw [hb]; omega
    rwa [Int.natCast_mul] at h
  have hr := run_make (P := P) w T e i z hT hi hz kl kc n c om om hb' h63'
  simp only [Int.toNat_natCast, hs] at hr
  unfold mksK
  rw [hr]
  have hms : (madeCells z.cells (c * s)).size = c * s := size_madeCells _ _
  refine h _ _ rfl (ext_alloc w _) ⟨?_, .inr ⟨_, _, rfl, heap_alloc_new w _, hnc, h63, hms, rfl⟩⟩ sm
  rw [List.length_take, Array.length_toList, hms]
  exact Nat.min_eq_left (Nat.mul_le_mul_right _ hnc)
theorem made_int (z : Value) (n : Nat) : (madeCells #[z] (n * 1)).toList.take (n * 1) = List.replicate n z := by
  rw [Nat.mul_one, toList_madeCells_one, List.take_of_length_le sm]
theorem stK_of {P : Program} {T : TypeId} {b i : Nat} {u v : Value} {k : Value → World → Prop} {w : World} (hs : (P.info? T).map (·.size) = some 1) (hv : v.cells = #[v]) (h1 : v.oneCell' = true)
    (hc : w.cell? ⟨b, i, none⟩ = some u) (hf : w.frozen? ⟨b, i, none⟩ = false) (h : k undef (w.setCell ⟨b, i, none⟩ v)) : stK P T (.pointer (some ⟨b, i, none⟩)) v k w := by
  have hr : (Instr.storeAt T (.pointer (some ⟨b, i, none⟩)) v).run P w = .ok () (w.setCell ⟨b, i, none⟩ v) := by
    cases hi : P.info? T with
    | none => simp [hi] at hs
    | some inf =>
      simp only [hi, Option.map_some, Option.some.injEq] at hs
      refine (run_bindV (a := ⟨b, i, none⟩) (w' := w) rfl).trans ?_
      refine (run_bindV (run_sizeOf_some hi)).trans ?_
      rw [hs, hv]
      simp only [storeCells]
      have hst : (store ((⟨b, i, none⟩ : Addr).add 0) v).run P w = .ok () (w.setCell ⟨b, i, none⟩ v) := by
        have ha : (⟨b, i, none⟩ : Addr).add 0 = ⟨b, i, none⟩ := by simp [Addr.add]
        rw [ha]
        cases v <;> first
          | (simp [Value.oneCell'] at h1; done)
          | (simp only [store, Sem.run, hc, hf, Bool.false_eq_true, if_false])
      simp only [List.size_toArray, List.length_cons, List.length_nil, ne_eq, not_true_eq_false, if_false]
      exact (run_bindV hst).trans rfl
  unfold stK
  rw [hr]
  exact h
theorem stK_own {P : Program} {T e b n c i : Nat} {v : Value} {xs : List Value} {k : Value → World → Prop} {w : World} (hs : (P.info? T).map (·.size) = some 1) (hv : v.cells = #[v]) (h1 : v.oneCell' = true)
    (o : OwnS w e 1 (some ⟨b, 0, none⟩) n c xs) (hi : i < n) (h : ∀ w', OwnS w' e 1 (some ⟨b, 0, none⟩) n c (xs.set i v) → Wrote b w w' → k undef w') : stK P T (.pointer (some ⟨b, i, none⟩)) v k w := by
  have hx : i < xs.length := by rw [o.1]; omega
  exact stK_of hs hv h1 (by rw [o.cell om, List.getElem?_eq_getElem hx]) (o.frozen i) (h _ (o.set i v) (wrote_setCell w ⟨b, i, none⟩ v))
theorem stK_blk {P : Program} {T e b i : Nat} {v : Value} {cs : Array Value} {k : Value → World → Prop} {w : World} (hs : (P.info? T).map (·.size) = some 1) (hv : v.cells = #[v]) (h1 : v.oneCell' = true)
    (o : Blk w b cs e) (hi : i < cs.size) (h : ∀ w', Blk w' b (cs.setIfInBounds i v) e → Wrote b w w' → k undef w') : stK P T (.pointer (some ⟨b, i, none⟩)) v k w := by
  refine stK_of hs hv h1 (by rw [o.cell, Array.getElem?_eq_getElem hi]) (o.frozen i) (h _ ?_ (wrote_setCell w ⟨b, i, none⟩ v))
  unfold Blk at *
  rw [setCell_eq_setRow w b i cs e (0, 0) v o]
  exact setRow_heap w b cs _ e (0, 0) o
theorem run_storeCells_all {P : Program} (b : Nat) (e : TypeId) (vs : List Value) (cs : Array Value) (w : World) (o : Blk w b cs e) (hn : vs.length = cs.size) (h1 : ∀ v ∈ vs, v.oneCell' = true) :
    (storeCells ⟨b, 0, none⟩ vs 0).run P w = .ok () (w.setRow b vs.toArray) := by
  have := run_storeCells_from (P := P) b e vs 0 cs w o om h1
  simpa using this
theorem stK_agg {P : Program} {T e b n : Nat} {vs : Array Value} {cs : Array Value} {k : Value → World → Prop} {w : World} (hs : (P.info? T).map (·.size) = some n) (hn : vs.size = n) (h1 : ∀ v ∈ vs.toList, v.oneCell' = true)
    (o : Blk w b cs e) (hc : cs.size = n) (h : ∀ w', Blk w' b vs e → Wrote b w w' → k undef w') : stK P T (.pointer (some ⟨b, 0, none⟩)) (.agg vs) k w := by
  have hr : (Instr.storeAt T (.pointer (some ⟨b, 0, none⟩)) (.agg vs)).run P w = .ok () (w.setRow b vs) := by
    cases hi : P.info? T with
    | none => simp [hi] at hs
    | some inf =>
      simp only [hi, Option.map_some, Option.some.injEq] at hs
      refine (run_bindV (a := ⟨b, 0, none⟩) (w' := w) rfl).trans ?_
      refine (run_bindV (run_sizeOf_some hi)).trans ?_
      have hst := run_storeCells_all (P := P) b e vs.toList cs w o sq h1
      simp only [Value.cells, hs, hn, ne_eq, not_true_eq_false, if_false]
      simpa using hst
  unfold stK
  rw [hr]
  exact h _ (setRow_heap w b cs vs e (0, 0) o) (wrote_setRow w b vs)
theorem mapM_cells {w : World} {b : Nat} {cs : Array Value} {T : TypeId} (h : Blk w b cs T) : ∀ (n i : Nat), i + n ≤ cs.size → (List.range' i n).mapM (fun j => w.cell? ((⟨b, 0, none⟩ : Addr).add j)) = some ((cs.toList.drop i).take n)
  | 0, i, _ => by simp
  | n + 1, i, hle => by
    have hi : i < cs.size := om
    have hd : cs.toList.drop i = cs[i] :: cs.toList.drop (i + 1) := by
      rw [List.drop_eq_getElem_cons (l := cs.toList) (i := i) (by simpa using hi)]; simp
    rw [List.range'_succ, List.mapM_cons, add_mk, Nat.zero_add, h.cell, Array.getElem?_eq_getElem hi, mapM_cells h n (i + 1) om, hd, List.take_succ_cons]
    simp
theorem readCells_blk {w : World} {b : Nat} {cs : Array Value} {T : TypeId} (h : Blk w b cs T) {n : Nat} (hn : cs.size = n) : readCells w ⟨b, 0, none⟩ n = some cs.toList := by
  unfold readCells
  rw [List.range_eq_range', mapM_cells h n 0 om, List.drop_zero, ← hn, ← Array.length_toList, List.take_length]
theorem OwnS.row {w : World} {e s n c : Nat} {a : Option Addr} {xs : List Value} (h : OwnS w e s a n c xs) : w.ownsRow 0 e s (.slice a n c) n xs := by
  refine ⟨h.1, ?_⟩
  rcases h.2 with ⟨rfl, rfl, rfl⟩ | ⟨g, cur, rfl, hg, hnc, hcm, hs, ht⟩
  · exact .inl ⟨rfl, rfl⟩
  · exact .inr ⟨g, c, cur, rfl, Nat.zero_le _, hg, hnc, hcm, hs, ht⟩
theorem own_of_row {w : World} {e s n : Nat} {v : Value} {xs : List Value} (h : w.ownsRow 0 e s v n xs) : ∃ a c, v = .slice a n c ∧ OwnS w e s a n c xs := by
  rcases h.2 with ⟨rfl, rfl⟩ | ⟨g, c, cur, rfl, _, hg, hnc, hcm, hs, ht⟩
  · exact ⟨none, 0, rfl, h.1, .inl ⟨rfl, rfl, rfl⟩⟩
  · exact ⟨_, c, rfl, h.1, .inr ⟨g, cur, rfl, hg, hnc, hcm, hs, ht⟩⟩
theorem appK_of {P : Program} {T ty e s bs : Nat} {z : Value} {k : Value → World → Prop} {w : World} (ht : elt P T = some (e, s, z, bs)) (hs0 : 0 < s)
    {a : Option Addr} {n c : Nat} {xs : List Value} (hown : OwnS w e s a n c xs) {ad : Addr} {m c2 : Nat} (news : List Value) (hl : news.length = m * s) (hnews : ∀ j u, news[j]? = some u → w.cell? (ad.add j) = some u)
    (h1 : ∀ u ∈ news, u.oneCell' = true) (h63 : n + m ≤ maxLen) (hbytes : (n + m) * bs ≤ 140737488355328)
    (h : ∀ w' a' c', OwnS w' e s a' (n + m) c' (xs ++ news) → Grow (blk a) w w' → (∀ b, blk a' = some b → blk a = some b ∨ w.heap.size ≤ b) → k (.slice a' (n + m) c') w') :
    biK P .append #[T, T] ty #[.slice a n c, .slice (some ad) m c2] k w := by
  obtain ⟨hT, i, hi, hs, hz, hb, hzs⟩ := elt_some ht
  obtain ⟨v', w', hr, hrow, hg, hnil⟩ := run_append_own (P := P) w 0 T ty e i z s bs hT hi hz hs hb hzs hs0 (.slice a n c) n xs hown.row ad m c2 news hl hnews h1 h63 hbytes (Nat.zero_le _)
  obtain ⟨a', c', rfl, hown'⟩ := own_of_row hrow
  have hgrow : Grow (blk a) w w' := ⟨hg.os, hg.tape, hg.output, hg.size, fun b hb hne => hg.block b hb (fun e => hne (by
    cases a with
    | none => simp [Value.ownBlock] at e
    | some x => simpa [Value.ownBlock, blk] using e.symm))⟩
  have hfit : (n + m : Nat) ≤ 9223372036854775807 := by have := h63; simp [maxLen] at this; omega
  have hblk : ∀ b, blk a' = some b → blk a = some b ∨ w.heap.size ≤ b := by
    intro b hb'
    rcases hown.2 with ⟨rfl, rfl, rfl⟩ | ⟨g, cur, rfl, hgg, hnc, hcm, hcs, htk⟩
    · by_cases hm : m = 0
      · subst hm
        have := hnil.2 ⟨rfl, rfl⟩
        simp only [Value.slice.injEq] at this
        rw [this.1] at hb'; cases hb'
      · right
        have hr2 := run_append_nil (P := P) w T ty e i z hT hi hz ad m c2 news (by rw [hs]; exact hl) hnews om om (by rw [hb]; simp only [Nat.zero_add] at hbytes; omega)
        have := hr.symm.trans hr2
        simp only [Result.ok.injEq, Value.slice.injEq] at this
        rw [this.1.1] at hb'
        simp only [blk_some, Option.some.injEq] at hb'
        omega
    · by_cases hroom : n + m ≤ c
      · left
        have hfit' : n * i.size + news.length ≤ cur.size := by rw [hl, hcs, hs, ← Nat.add_mul]; exact Nat.mul_le_mul_right _ hroom
        have hr2 := run_append_room (P := P) w T ty e i hT hi g n c cur hgg ad m c2 news (by rw [hs]; exact hl) hnews h1 hroom hfit'
        have := hr.symm.trans hr2
        simp only [Result.ok.injEq, Value.slice.injEq] at this
        rw [this.1.1] at hb'
        exact hb'
      · right
        have holds : ∀ j u, xs[j]? = some u → w.cell? ((⟨g, 0, none⟩ : Addr).add j) = some u := by
          intro j u hu
          have hj : j < n * s := by
            have h2 := (List.getElem?_eq_some_iff.1 hu).1
            rwa [hown.1] at h2
          rw [add_mk, Nat.zero_add, hown.cell hj, hu]
        have hr2 := run_append_grow (P := P) w T ty e i z hT hi hz ⟨g, 0, none⟩ n c xs (by rw [hs]; exact hown.1) holds ad m c2 news (by rw [hs]; exact hl) hnews om om (growslice_fits om (by rw [hb]; exact hbytes))
        have := hr.symm.trans hr2
        simp only [Result.ok.injEq, Value.slice.injEq] at this
        rw [this.1.1] at hb'
        simp only [blk_some, Option.some.injEq] at hb'
        omega
  have hrun : (builtin .append #[T, T] ty #[] #[.slice a n c, .slice (some ad) m c2]).run P w = .ok (.value (.slice a' (n + m) c')) w' := run_bindV hr
  unfold biK
  rw [hrun]
  exact h w' a' c' hown' hgrow hblk
theorem appK_1 {P : Program} {T ty e bs : Nat} {z : Value} {k : Value → World → Prop} {w : World} (ht : elt P T = some (e, 1, z, bs))
    {a : Option Addr} {n c : Nat} {xs : List Value} (hown : OwnS w e 1 a n c xs) {b : Nat} {v : Value} (hb : Blk w b #[v] e) (h1 : v.oneCell' = true) (hn : n < 17592186044416) (hbs : bs ≤ 8 ∨ n < 1000000000 ∧ bs ≤ 1000)
    (h : ∀ w' a' c', OwnS w' e 1 a' (n + 1) c' (xs ++ [v]) → Grow (blk a) w w' → (∀ b, blk a' = some b → blk a = some b ∨ w.heap.size ≤ b) → k (.slice a' (n + 1) c') w') :
    biK P .append #[T, T] ty #[.slice a n c, .slice (some ⟨b, 0, none⟩) 1 1] k w := by
  refine appK_of ht dc hown [v] sm ?_ (by simpa using h1) (by simp [maxLen]; omega) ?_ h
  · intro j u hu
    rw [add_mk, Nat.zero_add, hb.cell]
    cases j with
    | zero => simpa using hu
    | succ j => simp at hu
  · rcases hbs with hbs | ⟨hn', hbs⟩
    · exact Nat.le_trans (Nat.mul_le_mul_left _ hbs) om
    · exact Nat.le_trans (Nat.mul_le_mul_left _ hbs) om
def QR (P : Program) (N : Nat) (id : Nat) (ops : Array Oper) (Kn : F → World → Prop) (Ke : Nat → F → World → Prop) (Kr : F → World → Prop) (f : F) (w : World) : Prop :=
  CW P N (.region id ops true) Kn Ke Kr f w
def LX (P : Program) (N : Nat) (c : Code) (Kn : F → World → Prop) (Ke : Nat → F → World → Prop) (Kr : F → World → Prop) (f : F) (w : World) : Prop :=
  CW P N c Kn Ke Kr f w
def kbK (b : Bool) (p q : F → World → Prop) (f : F) (w : World) : Prop := match b with | true => p f w | false => q f w
def kx (id : Nat) (Kn : F → World → Prop) (Ke : Nat → F → World → Prop) (j : Nat) (f : F) (w : World) : Prop := kbK (decide (j = id)) Kn (Ke j) f w
def cdK (v : Value) (p q : F → World → Prop) (f : F) (w : World) : Prop :=
  match v with
  | .bool b => (b = true → p f w) ∧ (b = false → q f w)
  | _ => False
def CX (P : Program) (N : Nat) : Code → (F → World → Prop) → (Nat → F → World → Prop) → (F → World → Prop) → F → World → Prop
  | .skip, Kn, _, _, f, w => Kn f w
  | .region id ops draw, Kn, Ke, Kr, f, w => match draw with
    | true => QR P N id ops Kn Ke Kr f w
    | false => RL false P ops Kn ops.toList f w
  | .seq a b, Kn, Ke, Kr, f, w => CX P N a (CX P N b Kn Ke Kr) Ke Kr f w
  | .cond c a b, Kn, Ke, Kr, f, w => cdK (ev f c) (CX P N a Kn Ke Kr) (CX P N b Kn Ke Kr) f w
  | .block id c, Kn, Ke, Kr, f, w => CX P N c Kn (kx id Kn Ke) Kr f w
  | .exit id, _, Ke, _, f, w => Ke id f w
  | .ret, _, _, Kr, f, w => Kr f w
  | .label _, Kn, _, _, f, w => Kn f w
  | c, Kn, Ke, Kr, f, w => LX P N c Kn Ke Kr f w
theorem cw_any {P : Program} {N : Nat} {c : Code} {Kn Kn' : F → World → Prop} {Ke Ke' : Nat → F → World → Prop} {Kr Kr' : F → World → Prop} {f : F} {w : World} (h : CW P N c Kn Ke Kr f w)
    (h1 : ∀ f w, Kn f w → Kn' f w) (h3 : ∀ j f w, Ke j f w → Ke' j f w) (h2 : ∀ f w, Kr f w → Kr' f w) : CW P N c Kn' Ke' Kr' f w := by
  intro hok
  refine wp_mono (h hok) ?_
  intro e a w hq
  cases e <;> simp only [cont] at hq ⊢
  case normal => obtain ⟨f, rfl, hf⟩ := hq; exact ⟨f, rfl, h1 _ _ hf⟩
  case ret => obtain ⟨f, rfl, hf⟩ := hq; exact ⟨f, rfl, h2 _ _ hf⟩
  case exit id => obtain ⟨f, rfl, hf⟩ := hq; exact ⟨f, rfl, h3 _ _ _ hf⟩
  all_goals first | exact hq | exact hq.elim
theorem cx_sound {P : Program} {N : Nat} : ∀ (c : Code) {Kn : F → World → Prop} {Ke : Nat → F → World → Prop} {Kr : F → World → Prop} {f : F} {w : World}, CX P N c Kn Ke Kr f w → CW P N c Kn Ke Kr f w := by
  intro c
  induction c with
  | skip => intro _ _ _ _ _ h; exact cw_skip h
  | region id ops draw =>
    intro _ _ _ _ _ h
    cases draw with
    | true => exact h
    | false => exact cw_region h
  | seq a b iha ihb => intro _ _ _ _ _ h; exact cw_seq fun K hK => cw_any (iha h) (fun f w h => hK f w (ihb h)) (fun _ _ _ h => h) (fun _ _ h => h)
  | cond c a b iha ihb =>
    intro _ _ _ f w h
    refine cw_cond ?_
    simp only [CX] at h
    unfold cdK at h
    unfold cndK
    split at h
    · rename_i t ht
      try rw [ht]
      exact ⟨fun e => iha (h.1 e), fun e => ihb (h.2 e)⟩
    · exact h.elim
  | block id c ih =>
    intro _ _ _ _ _ h
    refine cw_block (cw_any (ih h) (fun _ _ h => h) (fun j f w h => ?_) (fun _ _ h => h))
    unfold kx kbK at h
    unfold kb
    split at h
    · rename_i e; rw [if_pos (of_decide_eq_true e)]; exact h
    · rename_i e; rw [if_neg (of_decide_eq_false e)]; exact h
  | exit id => intro _ _ _ _ _ h; exact cw_exit h
  | ret => intro _ _ _ _ _ h; exact cw_ret h
  | label l => intro _ _ _ _ _ h; exact cw_label h
  | loop c ih => intro _ _ _ _ _ h; exact h
  | rangeFunc g ps a b iha ihb => intro _ _ _ _ _ h; exact h
  | scope c ih => intro _ _ _ _ _ h; exact h
  | goto l => intro _ _ _ _ _ h; exact h
  | refuse s => intro _ _ _ _ _ h; exact h
theorem ldK_mono {P : Program} {T : TypeId} {x : Value} {k k' : Value → World → Prop} {w : World} (hk : ∀ v w, k v w → k' v w) (h : ldK P T x k w) : ldK P T x k' w := by
  cases x with
  | pointer a =>
    cases a with
    | none => exact h.elim
    | some a =>
      simp only [ldK] at *
      split
      · rename_i hs
        rw [if_pos hs] at h
        cases hc : w.cell? a with
        | none => rw [hc] at h; exact h.elim
        | some v => rw [hc] at h; exact hk _ _ h
      · rename_i hs
        rw [if_neg hs] at h
        cases hn : aggN P T with
        | none => rw [hn] at h; exact h.elim
        | some n =>
          rw [hn] at h
          simp only at h ⊢
          cases hc : readCells w a n with
          | none => rw [hc] at h; exact h.elim
          | some vs => rw [hc] at h; exact hk _ _ h
  | _ => exact h.elim
theorem RL_mono {q : Bool} {P : Program} {ops : Array Oper} {K K' : F → World → Prop} (hK : ∀ f w, K f w → K' f w) : ∀ (l : List Oper) (f : F) (w : World), RL q P ops K l f w → RL q P ops K' l f w := by
  have hstep : ∀ {o : Oper} {f : F} {k k' : Value → World → Prop} {w : World} (_ : ∀ v w, k v w → k' v w) (x : Option Value), stepR q P o f k w x → stepR q P o f k' w x := by
    intro o f k k' w hk x h
    cases x with
    | some v => exact hk _ _ h
    | none =>
      have gen : genK P o f k w → genK P o f k' w := by
        intro h
        unfold genK at *
        generalize (execOp (ev f) o).run P w = r at *
        cases r with
        | ok x w' => cases x <;> first | exact hk _ _ h | exact h.elim
        | halt x w' => exact h.elim
      simp only [stepR] at h ⊢
      unfold OW at *
      split at h
      · rename_i T y hop
        exact ldK_mono hk h
      · rename_i c hop
        split at h
        · rename_i g hg
          unfold fnK at *
          split at h
          · obtain ⟨h1, h2⟩ := h
            refine ⟨h1, ?_⟩
            split
            · rename_i hq
              rw [if_pos hq] at h2
              obtain ⟨v, hv, hkv⟩ := h2
              exact ⟨v, hv, hk _ _ hkv⟩
            · rename_i hq
              rw [if_neg hq] at h2
              exact Calls.mono h2 fun _ _ ⟨v, he, hkv⟩ => ⟨v, he, hk _ _ hkv⟩
          · split
            · rename_i hq; rw [if_pos hq] at h; exact h
            · rename_i hq; rw [if_neg hq] at h; exact gen h
        · split
          · rename_i hq; rw [if_pos hq] at h; exact h
          · rename_i hq; rw [if_neg hq] at h; exact gen h
      · split
        · rename_i hq; rw [if_pos hq] at h; exact h
        · rename_i hq; rw [if_neg hq] at h; exact gen h
  intro l
  induction l with
  | nil =>
    intro f w h
    simp only [RL, finK] at *
    split
    · rename_i hq; rw [if_pos hq] at h; exact fun w' e => hK _ _ (h w' e)
    · rename_i hq; rw [if_neg hq] at h; exact hK _ _ h
  | cons o l ih =>
    intro f w h
    simp only [RL] at h ⊢
    unfold guK at *
    split
    · rename_i hg
      rw [hg] at h
      exact hstep (fun v w => ih _ _) _ h
    · rename_i j want hg
      rw [hg] at h
      simp only at h
      split
      · rename_i hb; rw [if_pos hb] at h; exact hstep (fun v w => ih _ _) _ h
      · rename_i hb; rw [if_neg hb] at h; exact ih _ _ h
theorem cx_mono {P : Program} {N : Nat} : ∀ (c : Code) {Kn Kn' : F → World → Prop} {Ke Ke' : Nat → F → World → Prop} {Kr : F → World → Prop} {f : F} {w : World},
    (∀ f w, Kn f w → Kn' f w) → (∀ j f w, Ke j f w → Ke' j f w) → CX P N c Kn Ke Kr f w → CX P N c Kn' Ke' Kr f w := by
  intro c
  induction c with
  | skip => intro _ _ _ _ _ _ _ hK _ h; exact hK _ _ h
  | region id ops draw =>
    intro _ _ _ _ _ _ _ hK hE h
    cases draw with
    | true => exact cw_any h hK hE (fun _ _ h => h)
    | false => exact RL_mono hK _ _ _ h
  | seq a b iha ihb => intro _ _ _ _ _ _ _ hK hE h; exact iha (fun _ _ h => ihb hK hE h) hE h
  | cond c a b iha ihb =>
    intro _ _ _ _ _ _ _ hK hE h
    simp only [CX] at *
    unfold cdK at *
    split at h
    · exact ⟨fun e => iha hK hE (h.1 e), fun e => ihb hK hE (h.2 e)⟩
    · exact h.elim
  | block id c ih =>
    intro _ _ _ _ _ _ _ hK hE h
    refine ih hK (fun j f w h => ?_) h
    unfold kx kbK at *
    split
    · rename_i e; rw [e] at h; exact hK _ _ h
    · rename_i e; rw [e] at h; exact hE _ _ _ h
  | exit id => intro _ _ _ _ _ _ _ _ hE h; exact hE _ _ _ h
  | ret => intro _ _ _ _ _ _ _ _ _ h; exact h
  | label l => intro _ _ _ _ _ _ _ hK _ h; exact hK _ _ h
  | loop c ih => intro _ _ _ _ _ _ _ hK hE h; exact cw_any h hK hE (fun _ _ h => h)
  | rangeFunc g ps a b iha ihb => intro _ _ _ _ _ _ _ hK hE h; exact cw_any h hK hE (fun _ _ h => h)
  | scope c ih => intro _ _ _ _ _ _ _ hK hE h; exact cw_any h hK hE (fun _ _ h => h)
  | goto l => intro _ _ _ _ _ _ _ hK hE h; exact cw_any h hK hE (fun _ _ h => h)
  | refuse s => intro _ _ _ _ _ _ _ hK hE h; exact cw_any h hK hE (fun _ _ h => h)
section
variable {P : Program} {N : Nat} {Kn : F → World → Prop} {Ke : Nat → F → World → Prop} {Kr : F → World → Prop} {f : F} {w : World}
theorem CX_skip : CX P N .skip Kn Ke Kr f w = Kn f w := (rfl)
theorem CX_region (id : Nat) (l : List Oper) : CX P N (.region id l.toArray false) Kn Ke Kr f w = RL false P l.toArray Kn l f w := (rfl)
theorem CX_draws (id : Nat) (ops : Array Oper) : CX P N (.region id ops true) Kn Ke Kr f w = QR P N id ops Kn Ke Kr f w := (rfl)
theorem CX_seq (a b : Code) : CX P N (.seq a b) Kn Ke Kr f w = CX P N a (CX P N b Kn Ke Kr) Ke Kr f w := (rfl)
theorem CX_cond (c : Operand) (a b : Code) : CX P N (.cond c a b) Kn Ke Kr f w = cdK (ev f c) (CX P N a Kn Ke Kr) (CX P N b Kn Ke Kr) f w := (rfl)
theorem CX_block (id : Nat) (c : Code) : CX P N (.block id c) Kn Ke Kr f w = CX P N c Kn (kx id Kn Ke) Kr f w := (rfl)
theorem CX_exit (id : Nat) : CX P N (.exit id) Kn Ke Kr f w = Ke id f w := (rfl)
theorem CX_ret : CX P N .ret Kn Ke Kr f w = Kr f w := (rfl)
theorem CX_label (l : Nat) : CX P N (.label l) Kn Ke Kr f w = Kn f w := (rfl)
theorem CX_loop (c : Code) : CX P N (.loop c) Kn Ke Kr f w = LX P N (.loop c) Kn Ke Kr f w := (rfl)
theorem kx_go (id j : Nat) : kx id Kn Ke j f w = kbK (decide (j = id)) Kn (Ke j) f w := (rfl)
theorem kbK_true (p q : F → World → Prop) : kbK true p q f w = p f w := (rfl)
theorem kbK_false (p q : F → World → Prop) : kbK false p q f w = q f w := (rfl)
theorem cdK_true (p q : F → World → Prop) : cdK (.bool true) p q f w = p f w := by simp [cdK]
theorem cdK_false (p q : F → World → Prop) : cdK (.bool false) p q f w = q f w := by simp [cdK]
theorem cdK_congr {v u : Value} {p q : F → World → Prop} (h : v = u) : cdK v p q f w = cdK u p q f w := by rw [h]
theorem kbK_congr {b c : Bool} {p q : F → World → Prop} (h : b = c) : kbK b p q f w = kbK c p q f w := by rw [h]
theorem cd_of {b : Bool} {p q : F → World → Prop} (h1 : b = true → p f w) (h2 : b = false → q f w) : cdK (.bool b) p q f w := ⟨h1, h2⟩
theorem cd_dec {c : Prop} [Decidable c] {p q : F → World → Prop} (h1 : c → p f w) (h2 : ¬ c → q f w) : cdK (.bool (decide c)) p q f w :=
  ⟨fun e => h1 (of_decide_eq_true e), fun e => h2 (of_decide_eq_false e)⟩
theorem cd_cut {v : Value} {a b : Code} {K : F → World → Prop} (J : F → World → Prop) (hJ : ∀ f w, J f w → K f w) (h : cdK v (CX P N a J Ke Kr) (CX P N b J Ke Kr) f w) :
    cdK v (CX P N a K Ke Kr) (CX P N b K Ke Kr) f w := by
  unfold cdK at *
  split at h
  · exact ⟨fun e => cx_mono a hJ (fun _ _ _ h => h) (h.1 e), fun e => cx_mono b hJ (fun _ _ _ h => h) (h.2 e)⟩
  · exact h.elim
theorem loopX {c : Code} (I : Nat → F → World → Prop) (n0 : Nat) (h0 : I n0 f w)
    (hr : ∀ n f w, I n f w → CX P N c (fun f' w' => ∃ m, m < n ∧ I m f' w') Ke Kr f w) : LX P N (.loop c) Kn Ke Kr f w :=
  cw_loop I n0 h0 fun n f w hI _ hK => cw_any (cx_sound c (hr n f w hI)) (fun f' w' ⟨m, hm, hI'⟩ => hK m f' w' hm hI') (fun _ _ _ h => h) (fun _ _ h => h)
theorem QR_of {id : Nat} {l : List Oper} (hm : P.follows .mixedOrders = true) (hB : Region.lexB .any l.toArray = true) (h : RL true P l.toArray Kn l f w) : QR P N id l.toArray Kn Ke Kr f w :=
  cw_draws hm hB (by simpa using h)
end
theorem enterX {P : Program} {g : FuncId} {fn : Func} {c : Code} {args : Array Value} {w : World} {R : Value → World → Prop} (hf : P.funcs[g]? = some fn) (hb : fn.body = some c)
    (hok : entryOk fn c = true) (hargs : args.size ≤ fn.ntmps)
    (h : ∀ f : F, (∀ i, i < args.size → args[i]? = some (f i)) → CX P fn.ntmps c (outK P fn R) (fun _ _ _ => False) (outK P fn R) f w) : Ret P g args w R :=
  enter hf hb hok hargs fun f hfa => cx_sound c (h f hfa)
theorem enter0 {P : Program} {g : FuncId} {fn : Func} {c : Code} {w : World} {R : Value → World → Prop} (hf : P.funcs[g]? = some fn) (hb : fn.body = some c)
    (h : ∀ f : F, CX P fn.ntmps c (outK P fn R) (fun _ _ _ => False) (outK P fn R) f w) (hok : entryOk fn c = true := by kernel_rfl) : Ret P g #[] w R :=
  enterX hf hb hok (Nat.zero_le _) fun f _ => h f
theorem enter1 {P : Program} {g : FuncId} {fn : Func} {c : Code} {a0 : Value} {w : World} {R : Value → World → Prop} (hf : P.funcs[g]? = some fn) (hb : fn.body = some c)
    (h : ∀ f : F, f 0 = a0 → CX P fn.ntmps c (outK P fn R) (fun _ _ _ => False) (outK P fn R) f w) (hok : entryOk fn c = true := by kernel_rfl) (hargs : decide (1 ≤ fn.ntmps) = true := by kernel_rfl) : Ret P g #[a0] w R :=
  enterX hf hb hok (of_decide_eq_true hargs) fun f hfa => h f (by simpa using (hfa 0 sm).symm)
theorem enter2 {P : Program} {g : FuncId} {fn : Func} {c : Code} {a0 a1 : Value} {w : World} {R : Value → World → Prop} (hf : P.funcs[g]? = some fn) (hb : fn.body = some c)
    (h : ∀ f : F, f 0 = a0 → f 1 = a1 → CX P fn.ntmps c (outK P fn R) (fun _ _ _ => False) (outK P fn R) f w) (hok : entryOk fn c = true := by kernel_rfl) (hargs : decide (2 ≤ fn.ntmps) = true := by kernel_rfl) : Ret P g #[a0, a1] w R :=
  enterX hf hb hok (of_decide_eq_true hargs) fun f hfa => h f (by simpa using (hfa 0 sm).symm) (by simpa using (hfa 1 sm).symm)
theorem enter3 {P : Program} {g : FuncId} {fn : Func} {c : Code} {a0 a1 a2 : Value} {w : World} {R : Value → World → Prop} (hf : P.funcs[g]? = some fn) (hb : fn.body = some c)
    (h : ∀ f : F, f 0 = a0 → f 1 = a1 → f 2 = a2 → CX P fn.ntmps c (outK P fn R) (fun _ _ _ => False) (outK P fn R) f w) (hok : entryOk fn c = true := by kernel_rfl) (hargs : decide (3 ≤ fn.ntmps) = true := by kernel_rfl) : Ret P g #[a0, a1, a2] w R :=
  enterX hf hb hok (of_decide_eq_true hargs) fun f hfa => h f (by simpa using (hfa 0 sm).symm) (by simpa using (hfa 1 sm).symm) (by simpa using (hfa 2 sm).symm)
theorem enter4 {P : Program} {g : FuncId} {fn : Func} {c : Code} {a0 a1 a2 a3 : Value} {w : World} {R : Value → World → Prop} (hf : P.funcs[g]? = some fn) (hb : fn.body = some c)
    (h : ∀ f : F, f 0 = a0 → f 1 = a1 → f 2 = a2 → f 3 = a3 → CX P fn.ntmps c (outK P fn R) (fun _ _ _ => False) (outK P fn R) f w) (hok : entryOk fn c = true := by kernel_rfl) (hargs : decide (4 ≤ fn.ntmps) = true := by kernel_rfl) : Ret P g #[a0, a1, a2, a3] w R :=
  enterX hf hb hok (of_decide_eq_true hargs) fun f hfa => h f (by simpa using (hfa 0 sm).symm) (by simpa using (hfa 1 sm).symm) (by simpa using (hfa 2 sm).symm) (by simpa using (hfa 3 sm).symm)
def outL (P : Program) (rs : List ResultVar) (R : Value → World → Prop) (f : F) (w : World) : Prop :=
  match resK P rs f w with
  | some vs => R (tup vs) w
  | none => False
section
variable {P : Program} {fn : Func} {R : Value → World → Prop} {f : F} {w : World}
theorem outK_go : outK P fn R f w = outL P fn.results.toList R f w := (rfl)
theorem outL_0 : outL P [] R f w = R (.tuple #[]) w := (rfl)
theorem outL_1 (t : Nat) : outL P [.tmp t] R f w = R (f t) w := (rfl)
theorem outL_2 (t u : Nat) : outL P [.tmp t, .tmp u] R f w = R (.tuple #[f t, f u]) w := (rfl)
def tupR (R : Value → World → Prop) (x : Value) : Value → World → Prop := fun v w => R (.tuple #[v, x]) w
theorem tupR_go (x v : Value) : tupR R x v w = R (.tuple #[v, x]) w := (rfl)
theorem outL_c (t T : Nat) : outL P [.cell t T] R f w = ldK P T (f t) R w := by
  simp only [outL, resK, ldK]
  cases hv : f t with
  | pointer p =>
    cases p with
    | none => exact (rfl)
    | some p =>
      simp only
      cases scal P T with
      | true =>
        simp only [if_true]
        cases w.cell? p <;> exact (rfl)
      | false =>
        simp only [Bool.false_eq_true, if_false]
        cases aggN P T with
        | none => exact (rfl)
        | some n =>
          simp only
          cases readCells w p n <;> exact (rfl)
  | _ => exact (rfl)
theorem outL_c1 (t T u : Nat) : outL P [.cell t T, .tmp u] R f w = ldK P T (f t) (tupR R (f u)) w := by
  simp only [outL, resK, ldK]
  cases hv : f t with
  | pointer p =>
    cases p with
    | none => exact (rfl)
    | some p =>
      simp only
      cases scal P T with
      | true =>
        simp only [if_true]
        cases w.cell? p <;> exact (rfl)
      | false =>
        simp only [Bool.false_eq_true, if_false]
        cases aggN P T with
        | none => exact (rfl)
        | some n =>
          simp only
          cases readCells w p n <;> exact (rfl)
  | _ => exact (rfl)
theorem outL_3 (t u x : Nat) : outL P [.tmp t, .tmp u, .tmp x] R f w = R (.tuple #[f t, f u, f x]) w := (rfl)
end
attribute [congr] cdK_congr kbK_congr
attribute [go_sem ↓] CX_skip CX_region CX_draws CX_seq CX_cond CX_block CX_exit CX_ret CX_label CX_loop kx_go kbK_true kbK_false cdK_true cdK_false outK_go outL_0 outL_1 outL_2 outL_3 outL_c outL_c1 tupR_go
end Go.SW
