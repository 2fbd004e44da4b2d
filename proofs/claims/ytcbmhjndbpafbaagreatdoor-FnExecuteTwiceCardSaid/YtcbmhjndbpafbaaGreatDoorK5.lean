import Derived.Test.YtcbmhjndbpafbaaGreatDoorJ2
import Derived.Test.YtcbmhjndbpafbaaGreatDoorJ4
import Derived.Laws.BytesString
set_option linter.all false
set_option maxRecDepth 20000
namespace Go.SW
open Go Go.RowKit
structure Mid (B1 B2 : Nat) (w w' : World) : Prop where
 os : w'.os = w.os
 tape : w'.tape = w.tape
 output : w'.output = w.output
 size : w.heap.size ≤ w'.heap.size
 other : ∀ b, b < w.heap.size → (b < B1 ∨ B2 ≤ b) → w'.heap[b]? = w.heap[b]?
theorem Mid.refl (B1 B2 : Nat) (w : World) : Mid B1 B2 w w := ⟨rfl, rfl, rfl, Nat.le_refl _, fun _ _ _ => rfl⟩
theorem Mid.trans {B1 B2 : Nat} {a b c : World} (h : Mid B1 B2 a b) (k : Mid B1 B2 b c) : Mid B1 B2 a c :=
 ⟨k.os.trans h.os, k.tape.trans h.tape, k.output.trans h.output, Nat.le_trans h.size k.size, fun i hi ho => (k.other i (Nat.lt_of_lt_of_le hi h.size) ho).trans (h.other i hi ho)⟩
theorem Mid.ext {B1 B2 : Nat} {w0 w w' : World} (h : Mid B1 B2 w w') (e : Ext w0 w) (hB : w0.heap.size ≤ B1) : Ext w0 w' :=
 Below.trans e ⟨h.os, h.tape, h.output, h.size, fun k hk => h.other k (Nat.lt_of_lt_of_le hk e.size) (.inl om)⟩
theorem Mid.own {B1 B2 : Nat} {w w' : World} (h : Mid B1 B2 w w') {e s n c : Nat} {a : Option Addr} {xs : List Value} (o : OwnS w e s a n c xs) (hb : ∀ b, blk a = some b → b < B1 ∨ B2 ≤ b) : OwnS w' e s a n c xs :=
 o.kept fun b hb' => h.other b (o.blk_lt hb') (hb b hb')
end Go.SW
namespace Go.Proofs.YtcbmhjndbpafbaaGreatDoor
open Go.RowKit Go.SW
end Go.Proofs.YtcbmhjndbpafbaaGreatDoor
namespace Go.SW
open Go Go.RowKit
def cvK (P : Program) (s t : TypeId) (x : Value) (k : Value → World → Prop) (w : World) : Prop :=
 match (convert s t x).run P w with
 | .ok v w' => k v w'
 | _ => False
def mmK (P : Program) (T : TypeId) (k : Value → World → Prop) (w : World) : Prop := k (.map (some w.heap.size)) (w.alloc (.map #[] 0))
def insK (P : Program) (T : TypeId) (m key v : Value) (k : Value → World → Prop) (w : World) : Prop :=
 match (Instr.mapUpdate T m key v).run P w with
 | .ok _ w' => k undef w'
 | _ => False
def lkK (P : Program) (T : TypeId) (m key : Value) (c : Bool) (k : Value → World → Prop) (w : World) : Prop :=
 match (Instr.lookup T m key c).run P w with
 | .ok v w' => k v w'
 | _ => False
section
variable {q : Bool} {P : Program} {f : F} {w : World} {k : Value → World → Prop}
 {d : Option Tmp} {ty : TypeId} {pos : String} {aft : Array Edge} {g : Option (Nat × Bool)}
theorem OW_convert (s t : TypeId) (x : Operand) : OW false P ⟨d, .convert s t x, ty, pos, aft, g⟩ f k w = cvK P s t (ev f x) k w := by
 simp only [OW, Bool.false_eq_true, if_false, genK, cvK, execOp, Sem.run_bind]
 cases (convert s t (ev f x)).run P w <;> rfl
theorem OW_makeMap (T : TypeId) : OW false P ⟨d, .makeMap T none, ty, pos, aft, g⟩ f k w = mmK P T k w := by
 simp only [OW, Bool.false_eq_true, if_false, genK, mmK, execOp, Sem.run_bind]
 rfl
theorem OW_insert (T : TypeId) (m x y : Operand) : OW false P ⟨d, .insert T m x y, ty, pos, aft, g⟩ f k w = insK P T (ev f m) (ev f x) (ev f y) k w := by
 simp only [OW, Bool.false_eq_true, if_false, genK, insK, execOp, Sem.run_bind]
 cases (Instr.mapUpdate T (ev f m) (ev f x) (ev f y)).run P w <;> rfl
theorem OW_lookup (T : TypeId) (m x : Operand) (c : Bool) : OW false P ⟨d, .lookup T m x c, ty, pos, aft, g⟩ f k w = lkK P T (ev f m) (ev f x) c k w := by
 simp only [OW, Bool.false_eq_true, if_false, genK, lkK, execOp, Sem.run_bind]
 cases (Instr.lookup T (ev f m) (ev f x) c).run P w <;> rfl
theorem pv_makeMap (T : TypeId) (r : Option Operand) : pv P f (.makeMap T r) = none := (rfl)
theorem pv_insert (T : TypeId) (m x y : Operand) : pv P f (.insert T m x y) = none := (rfl)
theorem pv_lookup (T : TypeId) (m x : Operand) (c : Bool) : pv P f (.lookup T m x c) = none := (rfl)
theorem cv_sl (s t : TypeId) (a : Option Addr) (n c : Nat) : cvV P s t (.slice a n c) = none := (rfl)
theorem cvK_congr {s t : TypeId} {x y : Value} (h : x = y) : cvK P s t x k w = cvK P s t y k w := by rw [h]
theorem insK_congr {T : TypeId} {x y z x' y' z' : Value} (h : x = x') (h2 : y = y') (h3 : z = z') : insK P T x y z k w = insK P T x' y' z' k w := by rw [h, h2, h3]
theorem lkK_congr {T : TypeId} {x y x' y' : Value} {c : Bool} (h : x = x') (h2 : y = y') : lkK P T x y c k w = lkK P T x' y' c k w := by rw [h, h2]
end
attribute [congr] cvK_congr insK_congr lkK_congr
attribute [go_sem ↓] OW_convert OW_makeMap OW_insert OW_lookup pv_makeMap pv_insert pv_lookup
attribute [go_sem] cv_sl
def keyOk (P : Program) (T : TypeId) : Option (TypeId × TypeId × TypeDesc) :=
 match P.underlying T with
 | some (.map kt et) => match P.underlying kt with
  | some .string => some (kt, et, .string)
  | some (.int k) => some (kt, et, .int k)
  | _ => none
 | _ => none
theorem keyOk_some {P : Program} {T kt et : TypeId} {D : TypeDesc} (h : keyOk P T = some (kt, et, D)) : P.underlying T = some (.map kt et) ∧ P.underlying kt = some D ∧ (D = .string ∨ ∃ k, D = .int k) := by
 unfold keyOk at h
 split at h
 ·rename_i kt' et' hT
  split at h
  ·rename_i hk
   simp only [Option.some.injEq, Prod.mk.injEq] at h
   obtain ⟨rfl, rfl, rfl⟩ := h
   exact ⟨hT, hk, .inl rfl⟩
  ·rename_i k hk
   simp only [Option.some.injEq, Prod.mk.injEq] at h
   obtain ⟨rfl, rfl, rfl⟩ := h
   exact ⟨hT, hk, .inr ⟨k, rfl⟩⟩
  ·cases h
 ·cases h
theorem run_getMap {P : Program} {w : World} {b : Nat} {es : Array MapEntry} {cl : Nat} (h : w.heap[b]? = some (.map es cl)) : (getObj b).run P w = .ok (.map es cl) w := by
 simp [getObj, Sem.run, h]
theorem run_setMap {P : Program} {w : World} {b : Nat} {es : Array MapEntry} {cl : Nat} (o : Obj) (h : w.heap[b]? = some (.map es cl)) : (setObj b o).run P w = .ok () { w with heap := w.heap.setIfInBounds b o } := by
 simp [setObj, Sem.run, h]
theorem run_checkKey {P : Program} {w : World} {e : Bool} {kt : TypeId} {D : TypeDesc} {key : Value} (h : P.underlying kt = some D) (hD : D = .string ∨ ∃ k, D = .int k) : (Instr.checkKey e 10000 kt key).run P w = .ok () w := by
 unfold Instr.checkKey
 refine (run_bindV (run_underlying_some h)).trans ?_
 rcases hD with rfl | ⟨k, rfl⟩ <;> rfl
theorem run_findKey {P : Program} {w : World} {kt : TypeId} {D : TypeDesc} {key : Value} {es : List MapEntry} {r : Option (Nat × Value)} (h : P.underlying kt = some D) (hf : Instr.findNow D key es 0 = some r) : (Instr.findKey kt key es).run P w = .ok r w := by
 unfold Instr.findKey
 refine (run_bindV (run_underlying_some h)).trans ?_
 rw [hf]; rfl
theorem lkK_some {P : Program} {T kt et : TypeId} {D : TypeDesc} {b : Nat} {es : Array MapEntry} {cl i : Nat} {key v : Value} {c : Bool} {k : Value → World → Prop} {w : World} (ht : keyOk P T = some (kt, et, D)) (hb : w.heap[b]? = some (.map es cl))
  (hf : Instr.findNow D key es.toList 0 = some (some (i, v))) (h : k (if c then .tuple #[v, .bool true] else v) w) : lkK P T (.map (some b)) key c k w := by
 obtain ⟨h1, h2, h3⟩ := keyOk_some ht
 have hr : (Instr.lookup T (.map (some b)) key c).run P w = .ok (if c then .tuple #[v, .bool true] else v) w := by
  unfold Instr.lookup
  refine (run_bindV (run_underlying_some h1)).trans ?_
  refine (run_bindV (run_getMap hb)).trans ?_
  refine (run_bindV (run_checkKey h2 h3)).trans ?_
  refine (run_bindV (run_findKey h2 hf)).trans ?_
  rfl
 unfold lkK
 rw [hr]; exact h
theorem lkK_none {P : Program} {T kt et : TypeId} {D : TypeDesc} {b : Nat} {es : Array MapEntry} {cl : Nat} {key z : Value} {k : Value → World → Prop} {w : World} (ht : keyOk P T = some (kt, et, D)) (hz : ∀ w, (zeroValue et).run P w = .ok z w) (hb : w.heap[b]? = some (.map es cl))
  (hf : Instr.findNow D key es.toList 0 = some none) (c : Bool) (h : k (if c then .tuple #[z, .bool false] else z) w) : lkK P T (.map (some b)) key c k w := by
 obtain ⟨h1, h2, h3⟩ := keyOk_some ht
 have hr : (Instr.lookup T (.map (some b)) key c).run P w = .ok (if c then .tuple #[z, .bool false] else z) w := by
  unfold Instr.lookup
  refine (run_bindV (run_underlying_some h1)).trans ?_
  refine (run_bindV (run_getMap hb)).trans ?_
  refine (run_bindV (run_checkKey h2 h3)).trans ?_
  refine (run_bindV (run_findKey h2 hf)).trans ?_
  refine (run_bindV (hz w)).trans ?_
  rfl
 unfold lkK
 rw [hr]; exact h
theorem insK_new {P : Program} {T kt et : TypeId} {D : TypeDesc} {b : Nat} {es : Array MapEntry} {cl : Nat} {key v : Value} {k : Value → World → Prop} {w : World} (ht : keyOk P T = some (kt, et, D)) (hb : w.heap[b]? = some (.map es cl))
  (hf : Instr.findNow D key es.toList 0 = some none) (h : ∀ w', w'.heap[b]? = some (.map (es.push ⟨key, v, cl⟩) (cl + 1)) → Wrote b w w' → k undef w') : insK P T (.map (some b)) key v k w := by
 obtain ⟨h1, h2, h3⟩ := keyOk_some ht
 have hlt : b < w.heap.size := (Array.getElem?_eq_some_iff.1 hb).1
 have hr : (Instr.mapUpdate T (.map (some b)) key v).run P w = .ok () { w with heap := w.heap.setIfInBounds b (.map (es.push ⟨key, v, cl⟩) (cl + 1)) } := by
  unfold Instr.mapUpdate
  refine (run_bindV (run_underlying_some h1)).trans ?_
  refine (run_bindV (run_getMap hb)).trans ?_
  refine (run_bindV (run_checkKey h2 h3)).trans ?_
  refine (run_bindV (run_findKey h2 hf)).trans ?_
  exact run_setMap _ hb
 unfold insK
 rw [hr]
 refine h _ (by simp [hlt]) ⟨rfl, rfl, rfl, by simp, fun c hc => by simp [Array.getElem?_setIfInBounds, Ne.symm hc]⟩
theorem mmK_of {P : Program} {T : TypeId} {k : Value → World → Prop} {w : World} (h : ∀ w' b, b = w.heap.size → Ext w w' → w'.heap[b]? = some (.map #[] 0) → w'.heap.size = b + 1 → k (.map (some b)) w') : mmK P T k w :=
 h _ _ rfl (ext_alloc w _) (heap_alloc_new w _) sm
def bs (l : List UInt8) : ByteArray := ⟨l.toArray⟩
theorem bs_size (l : List UInt8) : (bs l).size = l.length := by simp [bs, ByteArray.size]
theorem bs_app (l m : List UInt8) : bs l ++ bs m = bs (l ++ m) := by
 apply ByteArray.ext
 simp [bs]
theorem bs_toList (l : List UInt8) : (bs l).toList = l := by
 rw [ByteArray.toList_eq]; simp [bs]
theorem bin_adds {P : Program} {T : TypeId} (l m : List UInt8) (h : l.length + m.length ≤ 9223372036854775807) : binV P .add T (.string (bs l)) (.string (bs m)) = some (.string (bs (l ++ m))) := by
 simp only [binV, bs_size]
 rw [if_pos h, bs_app]
theorem bin_adds1 {P : Program} {T : TypeId} (l : List UInt8) (x : UInt8) (h : l.length < 9223372036854775807) : binV P .add T (.string (bs l)) (.string (bs [x])) = some (.string (bs (l ++ [x]))) := bin_adds l [x] (by simp only [List.length_cons, List.length_nil]; omega)
theorem bin_1adds {P : Program} {T : TypeId} (m : List UInt8) (x : UInt8) (h : m.length < 9223372036854775807) : binV P .add T (.string (bs [x])) (.string (bs m)) = some (.string (bs (x :: m))) := bin_adds [x] m (by simp only [List.length_cons, List.length_nil]; omega)
theorem bin_eqls {P : Program} {T : TypeId} (l m : List UInt8) : binV P .eql T (.string (bs l)) (.string (bs m)) = some (.bool (l == m)) := by
 simp only [binV, bs_toList]
theorem bin_neqs {P : Program} {T : TypeId} (l m : List UInt8) : binV P .neq T (.string (bs l)) (.string (bs m)) = some (.bool (!(l == m))) := by
 simp only [binV, bs_toList]
def byteSl (P : Program) (s t : TypeId) : Bool :=
 match P.underlying s, P.underlying t with
 | some (.slice e), some .string => match P.underlying e with
  | some (.int .u8) => true
  | _ => false
 | _, _ => false
theorem cvK_1 {P : Program} {s t e : TypeId} {b c : Nat} {x : Int} {k : Value → World → Prop} {w : World} (ht : byteSl P s t = true) (hb : Blk w b #[.int .u8 x] e) (h : k (.string (bs [UInt8.ofNat x.toNat])) w) : cvK P s t (.slice (some ⟨b, 0, none⟩) 1 c) k w := by
 unfold byteSl at ht
 split at ht
 ·rename_i e' hs hd
  split at ht
  ·rename_i he
   have hr : (convert s t (.slice (some ⟨b, 0, none⟩) 1 c)).run P w = .ok (.string (bs [UInt8.ofNat x.toNat])) w := by
    have hc : w.cell? ((⟨b, 0, none⟩ : Addr).add 0) = some (.int .u8 x) := by rw [add_mk, hb.cell]; rfl
    have hl : (loadCells ⟨b, 0, none⟩ 1).run P w = .ok (([x].map (Value.int .u8)).toArray) w := by
     simp [loadCells, loadCellsFrom, load, Sem.run, Sem.run_bind, hc, Result.andThen, Sem.run_pure]
    rw [run_convert_bytes_string w s t e' _ _ _ hs he hd, run_bytesToString w _ 1 c [x] hl]
    rfl
   unfold cvK
   rw [hr]; exact h
  ·cases ht
 ·cases ht
def isStr (P : Program) (T : TypeId) : Bool := match P.underlying T with | some .string => true | _ => false
theorem mk_bs (l : List UInt8) : (ByteArray.mk l.toArray) = bs l := (rfl)
section
variable {P : Program}
def lenSE (b : Bool) (s : ByteArray) : Option Value := if b then some (.int .i64 s.size) else none
theorem len_str (t : TypeId) (ts : List TypeId) (s : ByteArray) (vs : List Value) : biV P .len (t :: ts) (.string s :: vs) = lenSE (isStr P t) s := by
 simp only [biV, lenV, lenSE, isStr]
 split <;> simp_all
theorem lenSE_t (l : List UInt8) : lenSE true (bs l) = some (.int .i64 l.length) := by simp [lenSE, bs_size]
def sidxE (b : Bool) (s : ByteArray) (i : Int) : Option Value := if b then (if h : 0 ≤ i ∧ i.toNat < s.size then some (.int .u8 (s[i.toNat]'h.2).toNat) else none) else none
theorem sidx_go (T : TypeId) (s : ByteArray) (k : IntKind) (i : Int) : sidxV P T (.string s) (.int k i) = sidxE (isStr P T) s i := by
 simp only [sidxV, sidxE, isStr]
 split <;> simp_all
theorem sidxE_t (l : List UInt8) (i : Int) (h0 : 0 ≤ i) (h1 : i < l.length) : sidxE true (bs l) i = some (.int .u8 ((l.getD i.toNat 0).toNat : Nat)) := by
 have h2 : i.toNat < l.length := om
 simp only [sidxE, if_true]
 rw [dif_pos ⟨h0, by rw [bs_size]; exact h2⟩]
 have e : (bs l)[i.toNat]'(by rw [bs_size]; exact h2) = l.getD i.toNat 0 := by
  rw [List.getD_eq_getElem?_getD, List.getElem?_eq_getElem h2, Option.getD_some]
  rfl
 rw [e]
def slcSE (b : Bool) (s : ByteArray) (lo hi : Option Value) : Option Value :=
 if b then match boundV s.size s.size hi with
   | some h => match boundV h 0 lo with
    | some l => some (.string (s.extract l h))
    | none => none
   | none => none
 else none
theorem slcs_go (T : TypeId) (s : ByteArray) (lo hi : Option Value) : slcV P T (.string s) lo hi = slcSE (isStr P T) s lo hi := by
 cases h : P.underlying T with
 | none => simp [slcV, slcSE, isStr, h]
 | some d => cases d <;> simp [slcV, slcSE, isStr, h] <;> rfl
theorem bs_ext (l : List UInt8) (i j : Nat) : (bs l).extract i j = bs ((l.drop i).take (j - i)) := by
 apply ByteArray.ext
 simp [bs, List.extract_eq_take_drop]
theorem slcs_lh (l : List UInt8) (k k' : IntKind) (lo hi : Int) (h0 : 0 ≤ lo) (h1 : lo ≤ hi) (h2 : hi ≤ l.length) :
  slcSE true (bs l) (some (.int k lo)) (some (.int k' hi)) = some (.string (bs ((l.drop lo.toNat).take (hi.toNat - lo.toNat)))) := by
 have a : 0 ≤ hi ∧ hi ≤ ((bs l).size : Int) := ⟨om, by rw [bs_size]; exact h2⟩
 have b : 0 ≤ lo ∧ lo ≤ (hi.toNat : Int) := ⟨h0, om⟩
 simp only [slcSE, if_true, boundV, if_pos a, if_pos b, bs_ext]
theorem slcs_h (l : List UInt8) (k' : IntKind) (hi : Int) (h1 : 0 ≤ hi) (h2 : hi ≤ l.length) :
  slcSE true (bs l) none (some (.int k' hi)) = some (.string (bs (l.take hi.toNat))) := by
 have a : 0 ≤ hi ∧ hi ≤ ((bs l).size : Int) := ⟨om, by rw [bs_size]; exact h2⟩
 simp only [slcSE, if_true, boundV, if_pos a, bs_ext, List.drop_zero, Nat.sub_zero]
theorem slcs_l (l : List UInt8) (k : IntKind) (lo : Int) (h0 : 0 ≤ lo) (h2 : lo ≤ l.length) :
  slcSE true (bs l) (some (.int k lo)) none = some (.string (bs (l.drop lo.toNat))) := by
 have b : 0 ≤ lo ∧ lo ≤ ((bs l).size : Int) := ⟨h0, by rw [bs_size]; exact h2⟩
 simp only [slcSE, if_true, boundV, if_pos b, bs_ext]
 rw [List.take_of_length_le (by simp [bs_size])]
end
theorem wrap_u8 (x : Int) (h0 : 0 ≤ x) (h1 : x < 256) : IntKind.u8.wrap x = x := by
 simp only [IntKind.wrap, IntKind.bits, IntKind.signed, Bool.false_and, Bool.false_eq_true, if_false]
 omega
attribute [go_sem] mk_bs len_str lenSE_t sidx_go sidxE_t slcs_go slcs_lh slcs_h slcs_l wrap_u8 bin_adds bin_adds1 bin_1adds bin_eqls bin_neqs
def dec (n : Nat) : List UInt8 := if n < 10 then [UInt8.ofNat (48 + n)] else dec (n / 10) ++ [UInt8.ofNat (48 + n % 10)]
termination_by n
theorem dec_lt {n : Nat} (h : n < 10) : dec n = [UInt8.ofNat (48 + n)] := by rw [dec, if_pos h]
theorem dec_ge {n : Nat} (h : ¬ n < 10) : dec n = dec (n / 10) ++ [UInt8.ofNat (48 + n % 10)] := by rw [dec, if_neg h]
theorem dec_len (n : Nat) : 1 ≤ (dec n).length ∧ (dec n).length ≤ n + 1 := by
 induction n using Nat.strongRecOn with
 | _ n ih =>
  by_cases h : n < 10
  ·rw [dec_lt h]; simp
  ·rw [dec_ge h]
   have := ih (n / 10) om
   simp only [List.length_append, List.length_cons, List.length_nil]
   omega
end Go.SW
namespace Go.Proofs.YtcbmhjndbpafbaaGreatDoor
open Go.RowKit Go.SW
theorem aggN_pl : aggN Tryz.prog 193 = some 2 := ke
theorem scal_pl : scal Tryz.prog 193 = false := ke
theorem siz_pl : (Tryz.prog.info? 193).map (·.size) = some 2 := ke
theorem foff_pl0 : foff Tryz.prog 193 0 = some 0 := ke
theorem foff_pl1 : foff Tryz.prog 193 1 = some 1 := ke
theorem zero_pl : zeroC Tryz.prog 193 = some #[.int .i64 0, .int .i64 0] := ke
theorem bld_pl (a b : Int) : buildV Tryz.prog 193 [(0, .int .i64 a), (1, .int .i64 b)] = some (.agg #[.int .i64 a, .int .i64 b]) := ke
attribute [go_sem] aggN_pl scal_pl foff_pl0 foff_pl1 bld_pl
theorem aggN_sh : aggN Tryz.prog 208 = some 2 := ke
theorem scal_sh : scal Tryz.prog 208 = false := ke
theorem siz_sh : (Tryz.prog.info? 208).map (·.size) = some 2 := ke
theorem foff_sh0 : foff Tryz.prog 208 0 = some 0 := ke
theorem foff_sh1 : foff Tryz.prog 208 1 = some 1 := ke
theorem zero_sh : zeroC Tryz.prog 208 = some #[.int .i64 0, .int .i64 0] := ke
theorem bld_sh (a b : Int) : buildV Tryz.prog 208 [(0, .int .i64 a), (1, .int .i64 b)] = some (.agg #[.int .i64 a, .int .i64 b]) := ke
theorem bld_sh0 : buildV Tryz.prog 208 [] = some (.agg #[.int .i64 0, .int .i64 0]) := ke
attribute [go_sem] aggN_sh scal_sh foff_sh0 foff_sh1 bld_sh bld_sh0
theorem isStr_str : isStr Tryz.prog 9 = true := ke
theorem cv_i8 (x : Int) : cvV Tryz.prog 3 5 (.int .i64 x) = some (.int .u8 (IntKind.u8.wrap x)) := ke
theorem cvb_bs : byteSl Tryz.prog 22 9 = true := ke
theorem elt_s : elt Tryz.prog 52 = some (9, 1, .string (bs []), 16) := ke
theorem binb_neqT (a b : Bool) : binV Tryz.prog .neq 4 (.bool a) (.bool b) = some (.bool (!(a == b))) := ke
theorem binb_eqlT (a b : Bool) : binV Tryz.prog .eql 4 (.bool a) (.bool b) = some (.bool (a == b)) := ke
attribute [go_sem] isStr_str cv_i8 binb_neqT binb_eqlT
theorem l6Dec_c (n : Nat) (hn : n ≤ 1000000000) (w : World) :
  Ret Tryz.prog 37 #[.int .i64 n] w fun v w' => v = .string (bs (dec n)) ∧ Ext w w' := by
 induction n using Nat.strongRecOn generalizing w with
 | _ n ih =>
  refine enter1 Tryz.func37 rfl fun f a0 => ?_
  have h1 : ¬ (n : Int) < -9223372036854775807 := om
  have h2 : ¬ (n : Int) < 0 := om
  by_cases h10 : n < 10
  ·have h3 : (n : Int) < 10 := om
   simp (disch := omega) only [go_sem, a0, h1, h2, h3]
   refine bslK_1 elt_b rfl fun w1 b1 _ x1 k1 _ => ?_
   simp (disch := omega) only [go_sem]
   refine cvK_1 cvb_bs k1 ?_
   simp (disch := omega) only [go_sem, Tryz.results37]
   exact ⟨by rw [dec_lt h10]; congr 4, x1⟩
  ·have h3 : ¬ (n : Int) < 10 := om
   have e1 : (n : Int) / 10 = ((n / 10 : Nat) : Int) := rfl
   have e2 : (n : Int) % 10 = ((n % 10 : Nat) : Int) := rfl
   have hl := dec_len (n / 10)
   have hd := dec_ge h10
   have hw : ∀ w, Ret Tryz.prog 37 #[.int .i64 (n / 10 : Nat)] w fun v w' => v = .string (bs (dec (n / 10))) ∧ Ext w w' := fun w => ih (n / 10) om om w
   simp (disch := omega) only [go_sem, a0, h1, h2, h3]
   refine QR_sch none (.st 0 (.st 1 (.st 3 (.st 4 (.st 5 (.st 6 (.alt (.ef 2 (.ef 7 (.ef 8 (.st 9 (.st 10 (.done)))))) (.ef 7 (.alt (.ef 2 (.ef 8 (.st 9 (.st 10 (.done))))) (.ef 8 (.ef 2 (.st 9 (.st 10 (.done)))))))))))))) ke ke fun w0 x0 => ?_
   have X := x0
   simp (disch := omega) only [go_sem, a0, e1, e2]
   refine RLT_alt ?_ ?_
   ·simp (disch := omega) only [go_sem, a0, e1, e2]
    refine callK_of ke (hw _) ?_
    rintro _ w1 ⟨rfl, y1⟩
    refine nxE_of (y1.grow _) ?_
    have X := X.trans y1
    simp (disch := omega) only [go_sem, a0, e1, e2]
    refine bslK_1 elt_b rfl fun w1 b1 _ y1 k1 _ => ?_
    refine nxE_of (y1.grow _) ?_
    have X := X.trans y1
    simp (disch := omega) only [go_sem, a0, e1, e2]
    refine cvK_1 cvb_bs k1 ?_
    refine nxE_of (Grow.refl _ _) ?_
    simp (disch := omega) only [go_sem, Tryz.results37]
    exact ⟨by rw [hd]; congr 4, X⟩
   ·simp (disch := omega) only [go_sem, a0, e1, e2]
    refine bslK_1 elt_b rfl fun w1 b1 _ y1 k1 _ => ?_
    refine nxE_of (y1.grow _) ?_
    have X := X.trans y1
    simp (disch := omega) only [go_sem, a0, e1, e2]
    refine RLT_alt ?_ ?_
    ·simp (disch := omega) only [go_sem, a0, e1, e2]
     refine callK_of ke (hw _) ?_
     rintro _ w1 ⟨rfl, y1⟩
     refine nxE_of (y1.grow _) ?_
     have X := X.trans y1
     have k1 := k1.ext y1
     simp (disch := omega) only [go_sem, a0, e1, e2]
     refine cvK_1 cvb_bs k1 ?_
     refine nxE_of (Grow.refl _ _) ?_
     simp (disch := omega) only [go_sem, Tryz.results37]
     exact ⟨by rw [hd]; congr 4, X⟩
    ·simp (disch := omega) only [go_sem, a0, e1, e2]
     refine cvK_1 cvb_bs k1 ?_
     refine nxE_of (Grow.refl _ _) ?_
     simp (disch := omega) only [go_sem, a0, e1, e2]
     refine callK_of ke (hw _) ?_
     rintro _ w1 ⟨rfl, y1⟩
     refine nxE_of (y1.grow _) ?_
     have X := X.trans y1
     have k1 := k1.ext y1
     simp (disch := omega) only [go_sem, Tryz.results37]
     exact ⟨by rw [hd]; congr 4, X⟩
def tbl2 : List UInt8 := [48,48,48,49,48,50,48,51,48,52,48,53,48,54,48,55,48,56,48,57,49,48,49,49,49,50,49,51,49,52,49,53,49,54,49,55,49,56,49,57,50,48,50,49,50,50,50,51,50,52,50,53,50,54,50,55,50,56,50,57,51,48,51,49,51,50,51,51,51,52,51,53,51,54,51,55,51,56,51,57,52,48,52,49,52,50,52,51,52,52,52,53,52,54,52,55,52,56,52,57,53,48,53,49,53,50,53,51,53,52,53,53,53,54,53,55,53,56,53,57,54,48,54,49,54,50,54,51,54,52,54,53,54,54,54,55,54,56,54,57,55,48,55,49,55,50,55,51,55,52,55,53,55,54,55,55,55,56,55,57,56,48,56,49,56,50,56,51,56,52,56,53,56,54,56,55,56,56,56,57,57,48,57,49,57,50,57,51,57,52,57,53,57,54,57,55,57,56,57,57]
def tbl1 : List UInt8 := [48,49,50,51,52,53,54,55,56,57,97,98,99,100,101,102,103,104,105,106,107,108,109,110,111,112,113,114,115,116,117,118,119,120,121,122]
theorem tbl2_ok : ∀ n : Nat, n < 100 → List.take ((2 * n + 2) - 2 * n) (List.drop (2 * n) tbl2) = [UInt8.ofNat (48 + n / 10), UInt8.ofNat (48 + n % 10)] := by decide +kernel
theorem tbl1_ok : ∀ n : Nat, n < 10 → List.take ((n + 1) - n) (List.drop n tbl1) = [UInt8.ofNat (48 + n)] := by decide +kernel
theorem eq1 : bs [48, 49, 50, 51, 52, 53, 54, 55, 56, 57, 97, 98, 99, 100, 101, 102, 103, 104, 105, 106, 107, 108, 109, 110, 111, 112, 113, 114, 115, 116, 117, 118, 119, 120, 121, 122] = bs tbl1 := (rfl)
theorem eq2 : bs (([48, 48, 48, 49, 48, 50, 48, 51, 48, 52, 48, 53, 48, 54, 48, 55, 48, 56, 48, 57, 49, 48, 49, 49, 49, 50, 49, 51, 49, 52, 49, 53, 49, 54, 49, 55, 49, 56, 49, 57, 50, 48, 50, 49, 50, 50, 50, 51, 50, 52].append [50, 53, 50, 54, 50, 55, 50, 56, 50, 57, 51, 48, 51, 49, 51, 50, 51, 51, 51, 52, 51, 53, 51, 54, 51, 55, 51, 56, 51, 57, 52, 48, 52, 49, 52, 50, 52, 51, 52, 52, 52, 53, 52, 54, 52, 55, 52, 56, 52, 57]).append ([53, 48, 53, 49, 53, 50, 53, 51, 53, 52, 53, 53, 53, 54, 53, 55, 53, 56, 53, 57, 54, 48, 54, 49, 54, 50, 54, 51, 54, 52, 54, 53, 54, 54, 54, 55, 54, 56, 54, 57, 55, 48, 55, 49, 55, 50, 55, 51, 55, 52].append [55, 53, 55, 54, 55, 55, 55, 56, 55, 57, 56, 48, 56, 49, 56, 50, 56, 51, 56, 52, 56, 53, 56, 54, 56, 55, 56, 56, 56, 57, 57, 48, 57, 49, 57, 50, 57, 51, 57, 52, 57, 53, 57, 54, 57, 55, 57, 56, 57, 57])) = bs tbl2 := ke
theorem small_c (n : Nat) (hn : n < 100) (w : World) :
  Ret Tryz.prog 132 #[.int .i64 n] w fun v w' => v = .string (bs (dec n)) ∧ Ext w w' := by
 refine enter1 Tryz.func132 rfl fun f a0 => ?_
 have L1 : tbl1.length = 36 := rfl
 have L2 : tbl2.length = 200 := rfl
 by_cases h10 : n < 10
 ·have h3 : (n : Int) < 10 := om
  have e0 : (n : Int) + 1 = ((n + 1 : Nat) : Int) := om
  simp (disch := omega) only [go_sem, a0, h3, e0, eq1, Int.toNat_natCast, Tryz.results132]
  exact ⟨by rw [dec_lt h10, ← tbl1_ok n h10], Ext.refl _⟩
 ·have h3 : ¬ (n : Int) < 10 := om
  have e1 : (n : Int) * 2 = ((2 * n : Nat) : Int) := om
  have e2 : ((2 * n : Nat) : Int) + 2 = ((2 * n + 2 : Nat) : Int) := om
  simp (disch := omega) only [go_sem, a0, h3, e1, e2, eq2, Int.toNat_natCast, Tryz.results132]
  exact ⟨by rw [dec_ge h10, dec_lt (show n / 10 < 10 from om), tbl2_ok n hn]; rfl, Ext.refl _⟩
theorem formatInt_c (n : Nat) (hn : n < 100) (w : World) :
  Ret Tryz.prog 96 #[.int .i64 n, .int .i64 10] w fun v w' => v = .string (bs (dec n)) ∧ Ext w w' := by
 refine enter2 Tryz.func96 rfl fun f a0 a1 => ?_
 have h1 : (0 : Int) ≤ n := om
 have h2 : (n : Int) < 100 := om
 have h3 : ((10 : Int) == 10) = true := rfl
 simp (disch := omega) only [go_sem, a0, a1, h1, h2, h3]
 refine callK_pure ke (small_c n hn _) fun w1 x1 => ?_
 simp (disch := omega) only [go_sem, Tryz.results96]
 exact ⟨trivial, x1⟩
theorem itoaI_c (n : Nat) (hn : n < 100) (w : World) :
  Ret Tryz.prog 66 #[.int .i64 n] w fun v w' => v = .string (bs (dec n)) ∧ Ext w w' := by
 refine enter1 Tryz.func66 rfl fun f a0 => ?_
 simp (disch := omega) only [go_sem, a0]
 refine callK_pure ke (formatInt_c n hn _) fun w1 x1 => ?_
 simp (disch := omega) only [go_sem, Tryz.results66]
 exact ⟨trivial, x1⟩
theorem itoa_c (n : Nat) (hn : n < 100) (w : World) :
  Ret Tryz.prog 33 #[.int .i64 n] w fun v w' => v = .string (bs (dec n)) ∧ Ext w w' := by
 refine enter1 Tryz.func33 rfl fun f a0 => ?_
 simp (disch := omega) only [go_sem, a0]
 refine callK_pure ke (itoaI_c n hn _) fun w1 x1 => ?_
 simp (disch := omega) only [go_sem, Tryz.results33]
 exact ⟨trivial, x1⟩
end Go.Proofs.YtcbmhjndbpafbaaGreatDoor
