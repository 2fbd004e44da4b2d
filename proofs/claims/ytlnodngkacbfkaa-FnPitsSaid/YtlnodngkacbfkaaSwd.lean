/- The walk's own ground, fourth part: the rules, as equations for simp; what makes memory. -/
import Derived.Test.YtlnodngkacbfkaaSwc
set_option linter.all false
set_option maxRecDepth 20000
namespace Go.SW
open Go Go.RowKit

theorem add_mk (b o n : Nat) : Addr.add ⟨b, o, none⟩ n = ⟨b, o + n, none⟩ := by
  unfold Addr.add; split <;> simp_all

/-! ## memory that an operation makes -/
def boxK (T : TypeId) (v : Value) (k : Value → World → Prop) (w : World) : Prop :=
  k (.pointer (some ⟨w.heap.size, 0, none⟩)) (w.alloc (.cells v.cells T))

def zeroC (P : Program) (T : TypeId) : Option (Array Value) := ((P.info? T).bind (·.zero)).map Value.cells
def allocK (P : Program) (T : TypeId) (k : Value → World → Prop) (w : World) : Prop :=
  match zeroC P T with
  | some cs => k (.pointer (some ⟨w.heap.size, 0, none⟩)) (w.alloc (.cells cs T))
  | none => False

def bslK (P : Program) (T n : Nat) (parts : List (Nat × Value)) (k : Value → World → Prop) (w : World) : Prop :=
  match (Instr.buildSlice T n parts.toArray).run P w with
  | .ok v w' => k v w'
  | _ => False

def mksK (P : Program) (T : TypeId) (l c : Value) (k : Value → World → Prop) (w : World) : Prop :=
  match (Instr.makeSlice T l c).run P w with
  | .ok v w' => k v w'
  | _ => False
def stK (P : Program) (T : TypeId) (x v : Value) (k : Value → World → Prop) (w : World) : Prop :=
  match (Instr.storeAt T x v).run P w with
  | .ok _ w' => k undef w'
  | _ => False
def biK (P : Program) (b : Builtin) (ts : Array TypeId) (ty : TypeId) (as : Array Value) (k : Value → World → Prop) (w : World) : Prop :=
  match (builtin b ts ty #[] as).run P w with
  | .ok (.value v) w' => k v w'
  | _ => False

section
variable {q : Bool} {P : Program} {ops : Array Oper} {K : F → World → Prop} {f : F} {w : World} {k : Value → World → Prop} {l : List Oper}
  {d : Option Tmp} {ty : TypeId} {pos : String} {aft : Array Edge} {g : Option (Nat × Bool)}

def nx (q : Bool) (P : Program) (ops : Array Oper) (K : F → World → Prop) (l : List Oper) (f : F) (d : Option Tmp) : Value → World → Prop := fun v w' => RL q P ops K l (updO f d v) w'
theorem nx_some (n : Nat) (v : Value) : nx q P ops K l f (some n) v w = RL q P ops K l (upd f n v) w := (rfl)
theorem nx_none (v : Value) : nx q P ops K l f none v w = RL q P ops K l f w := (rfl)
theorem RL_nil : RL q P ops K [] f w = finK q K f w := (rfl)
theorem RL_cons {op : Op} : RL q P ops K (⟨d, op, ty, pos, aft, none⟩ :: l) f w =
    stepR q P ⟨d, op, ty, pos, aft, none⟩ f (nx q P ops K l f d) w (pv P f op) := (rfl)
def gK (b : Bool) (p q : World → Prop) (w : World) : Prop := if b then p w else q w
theorem gK_true (p q : World → Prop) : gK true p q w = p w := if_pos rfl
theorem gK_false (p q : World → Prop) : gK false p q w = q w := if_neg (by simp)
def dstAt (ops : Array Oper) (j : Nat) : Option Tmp := (ops[j]?).bind (·.dst)
theorem dstAt_zero (op : Op) (l : List Oper) : dstAt (⟨d, op, ty, pos, aft, g⟩ :: l).toArray 0 = d := by simp [dstAt]
theorem dstAt_succ (o : Oper) (l : List Oper) (n : Nat) : dstAt (o :: l).toArray (n + 1) = dstAt l.toArray n := by simp [dstAt]
def sgK (q : Bool) (P : Program) (ops : Array Oper) (K : F → World → Prop) (l : List Oper) (f : F) (d : Option Tmp) (op : Op) (ty : TypeId) (pos : String) (aft : Array Edge) (g : Option (Nat × Bool)) (w : World) : Prop :=
  stepR q P ⟨d, op, ty, pos, aft, g⟩ f (nx q P ops K l f d) w (pv P f op)
theorem sgK_go {op : Op} : sgK q P ops K l f d op ty pos aft g w = stepR q P ⟨d, op, ty, pos, aft, g⟩ f (nx q P ops K l f d) w (pv P f op) := (rfl)
def skK (q : Bool) (P : Program) (ops : Array Oper) (K : F → World → Prop) (l : List Oper) (f : F) (d : Option Tmp) (w : World) : Prop := RL q P ops K l (updO f d undef) w
theorem skK_some (n : Nat) : skK q P ops K l f (some n) w = RL q P ops K l (upd f n undef) w := (rfl)
theorem skK_none : skK q P ops K l f none w = RL q P ops K l f w := (rfl)
theorem RL_guard {op : Op} {j : Nat} {want : Bool} : RL q P ops K (⟨d, op, ty, pos, aft, some (j, want)⟩ :: l) f w =
    gK (gb f want (dstAt ops j)) (sgK q P ops K l f d op ty pos aft (some (j, want))) (skK q P ops K l f d) w := (rfl)
theorem gb_some (d : Nat) (want : Bool) : gb f want (some d) = isB (f d) want := (rfl)
theorem isB_true (b : Bool) : isB (.bool b) true = b := by simp [isB]
theorem isB_false (b : Bool) : isB (.bool b) false = !b := by simp [isB]
theorem finK_true : finK true K f w = ∀ w', Ext w w' → K f w' := by simp [finK]
theorem finK_false : finK false K f w = K f w := by simp [finK]
theorem stepR_some {o : Oper} (v : Value) : stepR q P o f k w (some v) = k v w := (rfl)
theorem stepR_none {o : Oper} : stepR q P o f k w none = OW q P o f k w := (rfl)
theorem stepR_congr {o : Oper} {x y : Option Value} (h : x = y) : stepR q P o f k w x = stepR q P o f k w y := by rw [h]
theorem gK_congr {b c : Bool} {p r : World → Prop} (h : b = c) : gK b p r w = gK c p r w := by rw [h]
theorem rdK_congr {x y : Option Value} (h : x = y) : rdK x k w = rdK y k w := by rw [h]
theorem rdcK_congr {x y : Option (List Value)} (h : x = y) : rdcK x k w = rdcK y k w := by rw [h]
theorem ldK_congr {T : TypeId} {x y : Value} (h : x = y) : ldK P T x k w = ldK P T y k w := by rw [h]
theorem cndK_congr {v u : Value} {p r : Prop} (h : v = u) : cndK v p r = cndK u p r := by rw [h]
theorem boxK_congr {T : TypeId} {v u : Value} (h : v = u) : boxK T v k w = boxK T u k w := by rw [h]
theorem bslK_congr {T n : Nat} {ps rs : List (Nat × Value)} (h : ps = rs) : bslK P T n ps k w = bslK P T n rs k w := by rw [h]
theorem mksK_congr {T : TypeId} {v u v' u' : Value} (h : v = u) (h' : v' = u') : mksK P T v v' k w = mksK P T u u' k w := by rw [h, h']
theorem stK_congr {T : TypeId} {v u v' u' : Value} (h : v = u) (h' : v' = u') : stK P T v v' k w = stK P T u u' k w := by rw [h, h']
theorem biK_congr {b : Builtin} {ts : Array TypeId} {as as' : Array Value} (h : as = as') : biK P b ts ty as k w = biK P b ts ty as' k w := by rw [h]
theorem callK_congr {n : FuncId} {as as' : Array Value} (h : as = as') : callK q P n as k w = callK q P n as' k w := by rw [h]
theorem fnK_congr {o : Oper} {as as' : Array Value} {v u : Value} (h : as = as') (h' : v = u) : fnK q P o f as k w v = fnK q P o f as' k w u := by rw [h, h']
theorem RL_congr : RL q P ops K l f w = RL q P ops K l f w := (rfl)
theorem genK_congr {o : Oper} : genK P o f k w = genK P o f k w := (rfl)
theorem OW_congr {o : Oper} : OW q P o f k w = OW q P o f k w := (rfl)
theorem allocK_congr {T : TypeId} : allocK P T k w = allocK P T k w := (rfl)

theorem pv_move (x : Operand) : pv P f (.move x) = some (ev f x) := (rfl)
theorem pv_assign (x : Operand) : pv P f (.assign x) = some (ev f x) := (rfl)
theorem pv_pick (c a b : Operand) : pv P f (.pick c a b) = pickV (ev f c) (ev f a) (ev f b) := (rfl)
theorem pv_binOp (op : BinOp) (T : TypeId) (x y : Operand) (T' : TypeId) : pv P f (.binOp op T x y T') = binV P op T (ev f x) (ev f y) := (rfl)
theorem pv_unOp (op : UnOp) (T : TypeId) (x : Operand) : pv P f (.unOp op T x) = unV op (ev f x) := (rfl)
theorem pv_indexAddr (T : TypeId) (x i : Operand) : pv P f (.indexAddr T x i) = idxV (esz P T) (ev f x) (ev f i) := (rfl)
theorem pv_fieldAddr (s n : Nat) (x : Operand) : pv P f (.fieldAddr s x n) = fldV (foff P s n) (ev f x) := (rfl)
theorem pv_index (T : TypeId) (x i : Operand) : pv P f (.index T x i) = sidxV P T (ev f x) (ev f i) := (rfl)
theorem pv_slice (T : TypeId) (x : Operand) (lo hi : Option Operand) : pv P f (.slice T x lo hi none) = slcV P T (ev f x) (lo.map (ev f)) (hi.map (ev f)) := (rfl)
theorem pv_extract (x : Operand) (i : Nat) : pv P f (.extract x i) = exV (ev f x) i := (rfl)
theorem pv_makeFunc (fn : Fn) (a b : Array Operand) : pv P f (.makeFunc fn a b) = some (.func fn (a.map (ev f)) (b.map (ev f))) := (rfl)
theorem pv_convert (s t : TypeId) (x : Operand) : pv P f (.convert s t x) = cvV P s t (ev f x) := (rfl)
theorem pv_build (T : TypeId) (parts : Array (Nat × Operand)) : pv P f (.build T parts) = buildV P T (parts.toList.map fun p => (p.1, ev f p.2)) := (rfl)
theorem pv_builtin (b : Builtin) (as : Array Operand) (ts : Array TypeId) : pv P f (.call ⟨.builtin b, as, ts⟩) = biV P b ts.toList (as.toList.map (ev f)) := (rfl)
theorem pv_call (x : Operand) (as : Array Operand) (ts : Array TypeId) : pv P f (.call ⟨.value x, as, ts⟩) = none := (rfl)
theorem pv_load (T : TypeId) (x : Operand) : pv P f (.load T x) = none := (rfl)
theorem pv_store (T : TypeId) (x y : Operand) : pv P f (.store T x y) = none := (rfl)
theorem pv_box (T : TypeId) (x : Operand) : pv P f (.box T x) = none := (rfl)
theorem pv_alloc (T : TypeId) : pv P f (.alloc T) = none := (rfl)
theorem pv_buildSlice (T n : Nat) (ps : Array (Nat × Operand)) : pv P f (.buildSlice T n ps) = none := (rfl)
theorem pv_makeSlice (T : TypeId) (x y : Operand) : pv P f (.makeSlice T x y) = none := (rfl)

theorem pickV_true (a b : Value) : pickV (.bool true) a b = some a := (rfl)
theorem pickV_false (a b : Value) : pickV (.bool false) a b = some b := (rfl)
theorem bin_add (T : TypeId) (k : IntKind) (a b : Int) : binV P .add T (.int k a) (.int k b) = some (.int k (k.wrap (a + b))) := by simp [binV, intV]
theorem bin_sub (T : TypeId) (k : IntKind) (a b : Int) : binV P .sub T (.int k a) (.int k b) = some (.int k (k.wrap (a - b))) := by simp [binV, intV]
theorem bin_mul (T : TypeId) (k : IntKind) (a b : Int) : binV P .mul T (.int k a) (.int k b) = some (.int k (k.wrap (a * b))) := by simp [binV, intV]
theorem bin_quo (T : TypeId) (a b : Int) (h0 : 0 ≤ a) (hb : 0 < b) (h : a ≤ 9223372036854775807) : binV P .quo T (.int .i64 a) (.int .i64 b) = some (.int .i64 (a / b)) := by
  have e : a.tdiv b = a / b := Int.tdiv_eq_ediv_of_nonneg h0
  have h1 : 0 ≤ a / b := Int.ediv_nonneg h0 (by omega)
  have h2 : a / b ≤ a := Int.ediv_le_self _ h0
  have hw : IntKind.i64.wrap (a / b) = a / b := IntWalk.i64_in _ (by constructor <;> omega)
  simp only [binV, intV, if_true, e, hw, if_neg (show ¬ b = 0 by omega)]
theorem bin_rem (T : TypeId) (a b : Int) (h0 : 0 ≤ a) (hb : 0 < b) : binV P .rem T (.int .i64 a) (.int .i64 b) = some (.int .i64 (a % b)) := by
  have e : a.tmod b = a % b := Int.tmod_eq_emod_of_nonneg h0
  simp only [binV, intV, if_true, e, if_neg (show ¬ b = 0 by omega)]
theorem bin_eql (T : TypeId) (k : IntKind) (a b : Int) : binV P .eql T (.int k a) (.int k b) = some (.bool (a == b)) := by simp [binV, intV]
theorem bin_neq (T : TypeId) (k : IntKind) (a b : Int) : binV P .neq T (.int k a) (.int k b) = some (.bool (a != b)) := by simp [binV, intV]
theorem bin_lss (T : TypeId) (k : IntKind) (a b : Int) : binV P .lss T (.int k a) (.int k b) = some (.bool (decide (a < b))) := by simp [binV, intV]
theorem bin_leq (T : TypeId) (k : IntKind) (a b : Int) : binV P .leq T (.int k a) (.int k b) = some (.bool (decide (a ≤ b))) := by simp [binV, intV]
theorem bin_gtr (T : TypeId) (k : IntKind) (a b : Int) : binV P .gtr T (.int k a) (.int k b) = some (.bool (decide (b < a))) := by simp [binV, intV]
theorem bin_geq (T : TypeId) (k : IntKind) (a b : Int) : binV P .geq T (.int k a) (.int k b) = some (.bool (decide (b ≤ a))) := by simp [binV, intV]
theorem un_not (b : Bool) : unV .not (.bool b) = some (.bool (!b)) := (rfl)
theorem un_neg (k : IntKind) (n : Int) : unV .neg (.int k n) = some (.int k (k.wrap (0 - n))) := (rfl)
theorem wrap_i64 (x : Int) (h1 : -9223372036854775808 ≤ x) (h2 : x ≤ 9223372036854775807) : IntKind.i64.wrap x = x := IntWalk.i64_in _ (by constructor <;> omega)
theorem idx_at (s : Nat) (a : Addr) (n c : Nat) (k : IntKind) (i : Int) (h0 : 0 ≤ i) (h1 : i < (n : Int)) : idxV (some s) (.slice (some a) n c) (.int k i) = some (.pointer (some (a.add (i.toNat * s)))) := by
  simp only [idxV, h0, h1, and_self, if_true]
theorem fld_at (o : Nat) (a : Addr) : fldV (some o) (.pointer (some a)) = some (.pointer (some (a.add o))) := (rfl)
def isSl (P : Program) (t : TypeId) : Bool := match P.underlying t with | some (.slice _) => true | _ => false
def lenS (b : Bool) (n : Nat) : Option Value := match b with | true => some (.int .i64 n) | false => none
theorem len_sl (t : TypeId) (ts : List TypeId) (a : Option Addr) (n c : Nat) (vs : List Value) : biV P .len (t :: ts) (.slice a n c :: vs) = lenS (isSl P t) n := by
  simp only [biV, lenV, lenS, isSl]
  cases P.underlying t with
  | none => exact (rfl)
  | some d => cases d <;> exact (rfl)
theorem len_true (n : Nat) : lenS true n = some (.int .i64 n) := (rfl)
theorem bi_min (ts : List TypeId) (k k' : IntKind) (x y : Int) : biV P .min ts [.int k x, .int k' y] = some (.int k (min x y)) := by simp [biV]
theorem bi_max (ts : List TypeId) (k k' : IntKind) (x y : Int) : biV P .max ts [.int k x, .int k' y] = some (.int k (max x y)) := by simp [biV]
theorem bi_min4 (ts : List TypeId) (k : IntKind) (x y z u : Int) : biV P .min ts [.int k x, .int k y, .int k z, .int k u] = some (.int k (min (min (min x y) z) u)) := by simp [biV]
theorem bi_append (ts : List TypeId) (vs : List Value) : biV P .append ts vs = none := (rfl)
theorem bi_copy (ts : List TypeId) (vs : List Value) : biV P .copy ts vs = none := (rfl)
theorem ex_at (vs : Array Value) (i : Nat) : exV (.tuple vs) i = vs[i]? := (rfl)

theorem OW_load (T : TypeId) (x : Operand) : OW q P ⟨d, .load T x, ty, pos, aft, g⟩ f k w = ldK P T (ev f x) k w := (rfl)
theorem OW_call (x : Operand) (as : Array Operand) (ts : Array TypeId) : OW q P ⟨d, .call ⟨.value x, as, ts⟩, ty, pos, aft, g⟩ f k w =
    fnK q P ⟨d, .call ⟨.value x, as, ts⟩, ty, pos, aft, g⟩ f (as.map (ev f)) k w (ev f x) := (rfl)
theorem fnK_func {o : Oper} (n : FuncId) (as : Array Value) : fnK q P o f as k w (.func (.func n) #[] #[]) = callK q P n as k w := by simp [fnK]
theorem fnK_clo {o : Oper} (n : FuncId) (as first captured : Array Value) : fnK q P o f as k w (.func (.func n) first captured) = callK q P n (first ++ as ++ captured) k w := (rfl)
def ldB (b : Bool) (P : Program) (T : TypeId) (a : Addr) (k : Value → World → Prop) (w : World) : Prop :=
  if b then rdK (w.cell? a) k w else match aggN P T with
    | some n => rdcK (readCells w a n) k w
    | none => False
def ldN (n : Option Nat) (a : Addr) (k : Value → World → Prop) (w : World) : Prop :=
  match n with
  | some n => rdcK (readCells w a n) k w
  | none => False
theorem ldK_ptr (T : TypeId) (a : Addr) : ldK P T (.pointer (some a)) k w = ldB (scal P T) P T a k w := (rfl)
theorem ldK_true (T : TypeId) (a : Addr) : ldB true P T a k w = rdK (w.cell? a) k w := by simp [ldB]
theorem ldK_false (T : TypeId) (a : Addr) : ldB false P T a k w = ldN (aggN P T) a k w := by simp [ldB, ldN]
theorem ldK_n (n : Nat) (a : Addr) : ldN (some n) a k w = rdcK (readCells w a n) k w := (rfl)
theorem ldB_congr {b c : Bool} {T : TypeId} {a : Addr} (h : b = c) : ldB b P T a k w = ldB c P T a k w := by rw [h]
theorem ldN_congr {n m : Option Nat} {a : Addr} (h : n = m) : ldN n a k w = ldN m a k w := by rw [h]
theorem rdK_some (v : Value) : rdK (some v) k w = k v w := (rfl)
theorem rdcK_some (vs : List Value) : rdcK (some vs) k w = k (.agg vs.toArray) w := (rfl)

theorem OW_box (T : TypeId) (x : Operand) : OW false P ⟨d, .box T x, ty, pos, aft, g⟩ f k w = boxK T (ev f x) k w := (rfl)
theorem OW_alloc (T : TypeId) : OW false P ⟨d, .alloc T, ty, pos, aft, g⟩ f k w = allocK P T k w := by
  simp only [OW, Bool.false_eq_true, if_false, genK, allocK, zeroC, execOp, Instr.alloc]
  cases hi : P.info? T with
  | none =>
    have hz : (zeroValue T).run P w = .halt (.stuck "no such type") w := by
      simp only [zeroValue, typeInfo, program, bind, Sem.bind, Sem.run, hi]; rfl
    simp only [Sem.run_bind, hz, Result.andThen, Option.bind_none, Option.map_none]
  | some i =>
    cases hz : i.zero with
    | none =>
      have hz' : (zeroValue T).run P w = .halt (.unsupported (.resourceLimit "a value of more than 2^22 cells")) w := by
        refine (run_bindV (run_typeInfo_some hi)).trans ?_
        rw [hz]; rfl
      simp only [Sem.run_bind, hz', Result.andThen, Option.bind_some, hz, Option.map_none]
    | some z =>
      have hz' : (zeroValue T).run P w = .ok z w := by
        refine (run_bindV (run_typeInfo_some hi)).trans ?_
        rw [hz]; rfl
      simp only [Sem.run_bind, hz', Result.andThen, Option.bind_some, hz, Option.map_some]
      rfl
theorem OW_store (T : TypeId) (x y : Operand) : OW false P ⟨d, .store T x y, ty, pos, aft, g⟩ f k w = stK P T (ev f x) (ev f y) k w := by
  simp only [OW, Bool.false_eq_true, if_false, genK, stK, execOp, Sem.run_bind]
  cases (Instr.storeAt T (ev f x) (ev f y)).run P w <;> rfl
theorem OW_buildSlice (T n : Nat) (ps : Array (Nat × Operand)) : OW false P ⟨d, .buildSlice T n ps, ty, pos, aft, g⟩ f k w = bslK P T n (ps.toList.map fun p => (p.1, ev f p.2)) k w := by
  have e : (ps.toList.map fun p => (p.1, ev f p.2)).toArray = ps.map fun (i, x) => (i, ev f x) := by
    apply Array.ext' ; simp
  simp only [OW, Bool.false_eq_true, if_false, genK, bslK, execOp, Sem.run_bind, e]
  cases (Instr.buildSlice T n (ps.map fun (i, x) => (i, ev f x))).run P w <;> rfl
theorem OW_builtin (b : Builtin) (as : Array Operand) (ts : Array TypeId) (hb : b = .append ∨ b = .copy) : OW false P ⟨d, .call ⟨.builtin b, as, ts⟩, ty, pos, aft, g⟩ f k w = biK P b ts ty (as.map (ev f)) k w := by
  have e : ∀ cs cs', builtin b ts ty cs (as.map (ev f)) = builtin b ts ty cs' (as.map (ev f)) := by
    rcases hb with rfl | rfl <;> exact fun _ _ => rfl
  have e2 : (execOp (ev f) ⟨d, .call ⟨.builtin b, as, ts⟩, ty, pos, aft, g⟩).run P w = (builtin b ts ty #[] (as.map (ev f))).run P w := by
    rw [← e (as.map fun | .const _ => true | _ => false) #[]]; rfl
  simp only [OW, Bool.false_eq_true, if_false, genK, biK, e2]
  rcases hb with rfl | rfl
  · simp only [builtin, Sem.run_bind]
    cases (Builtin.append_ ts ty (as.map (ev f))).run P w <;> rfl
  · simp only [builtin, Sem.run_bind]
    cases (Builtin.copy_ ts ty (as.map (ev f))).run P w <;> rfl
theorem OW_append (as : Array Operand) (ts : Array TypeId) : OW false P ⟨d, .call ⟨.builtin .append, as, ts⟩, ty, pos, aft, g⟩ f k w = biK P .append ts ty (as.map (ev f)) k w := OW_builtin _ _ _ (.inl rfl)
theorem OW_copy (as : Array Operand) (ts : Array TypeId) : OW false P ⟨d, .call ⟨.builtin .copy, as, ts⟩, ty, pos, aft, g⟩ f k w = biK P .copy ts ty (as.map (ev f)) k w := OW_builtin _ _ _ (.inr rfl)
theorem OW_makeSlice (T : TypeId) (x y : Operand) : OW false P ⟨d, .makeSlice T x y, ty, pos, aft, g⟩ f k w = mksK P T (ev f x) (ev f y) k w := by
  simp only [OW, Bool.false_eq_true, if_false, genK, mksK, execOp, Sem.run_bind]
  cases (Instr.makeSlice T (ev f x) (ev f y)).run P w <;> rfl
end

theorem upd_eq (f : F) (d j : Nat) (v : Value) : upd f d v j = bif Nat.beq j d then v else f j := by
  simp only [upd_apply]; by_cases h : j = d
  · subst h; simp
  · rw [if_neg h]; have : Nat.beq j d = false := by
      cases hb : Nat.beq j d with
      | true => exact absurd (Nat.eq_of_beq_eq_true hb) h
      | false => exact (rfl)
    rw [this]; rfl




theorem toL {α : Type} (l : List α) : l.toArray.toList = l := by simp
theorem arr_getElem? {α : Type} (l : List α) (i : Nat) : l.toArray[i]? = l[i]? := by simp

attribute [congr] stepR_congr gK_congr rdK_congr rdcK_congr ldK_congr cndK_congr boxK_congr bslK_congr mksK_congr stK_congr biK_congr callK_congr fnK_congr RL_congr genK_congr OW_congr allocK_congr ldB_congr ldN_congr

attribute [go_sem ↓] nx_some nx_none RL_nil RL_cons gK_true gK_false dstAt_zero dstAt_succ sgK_go skK_some skK_none RL_guard finK_true finK_false stepR_some stepR_none pv_move pv_assign pv_pick pv_binOp pv_unOp pv_indexAddr pv_fieldAddr pv_index pv_slice pv_extract pv_makeFunc pv_convert pv_build pv_builtin pv_call pv_load pv_store pv_box pv_alloc pv_buildSlice pv_makeSlice OW_load OW_call fnK_func fnK_clo OW_box OW_alloc OW_store OW_buildSlice OW_append OW_copy OW_makeSlice ev_tmp ev_const ev_func ev_global upd_apply cndK_bool

attribute [go_sem] add_mk gb_some isB_true isB_false pickV_true pickV_false bin_add bin_sub bin_mul bin_quo bin_rem bin_eql bin_neq bin_lss bin_leq bin_gtr bin_geq un_not un_neg wrap_i64 idx_at fld_at len_sl len_true bi_min bi_max bi_min4 bi_append bi_copy ex_at ldK_ptr ldK_true ldK_false ldK_n rdK_some rdcK_some

attribute [go_sem] toL arr_getElem? List.map_cons List.map_nil List.map_toArray Option.map_some Option.map_none List.getElem?_cons_zero List.getElem?_cons_succ Bool.not_true Bool.not_false decide_true decide_false Nat.add_zero Nat.zero_add Nat.mul_one Nat.zero_mul Int.toNat_zero Int.toNat_natCast Bool.false_eq_true

end Go.SW
