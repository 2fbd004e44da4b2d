/- The walk's own ground, fifth part: memory that a function makes and writes. -/
import Derived.Test.YtlnodngkacbfkaaSwd
set_option linter.all false
set_option maxRecDepth 20000
namespace Go.SW
open Go Go.RowKit

/-- The element type of a slice type: its number, its cells, its zero, its bytes. -/
def elt (P : Program) (T : TypeId) : Option (TypeId × Nat × Value × Nat) :=
  match P.underlying T with
  | some (.slice e) => match P.info? e with
    | some i => match i.zero with
      | some z => if i.size = z.cells.size then some (e, i.size, z, i.bytes) else none
      | none => none
    | none => none
  | _ => none

theorem elt_some {P : Program} {T e s bs : Nat} {z : Value} (h : elt P T = some (e, s, z, bs)) :
    P.underlying T = some (.slice e) ∧ ∃ i, P.info? e = some i ∧ i.size = s ∧ i.zero = some z ∧ i.bytes = bs ∧ z.cells.size = s := by
  unfold elt at h
  split at h
  · rename_i e' hT
    split at h
    · rename_i i hi
      split at h
      · rename_i z' hz
        split at h
        · rename_i hs
          simp only [Option.some.injEq, Prod.mk.injEq] at h
          obtain ⟨rfl, rfl, rfl, rfl⟩ := h
          exact ⟨hT, i, hi, rfl, hz, rfl, hs.symm⟩
        · cases h
      · cases h
    · cases h
  · cases h

/-- Of what was there, block ob alone may have been written. -/
structure Grow (ob : Option Nat) (w w' : World) : Prop where
  os : w'.os = w.os
  tape : w'.tape = w.tape
  output : w'.output = w.output
  size : w.heap.size ≤ w'.heap.size
  other : ∀ b, b < w.heap.size → ob ≠ some b → w'.heap[b]? = w.heap[b]?

theorem Ext.grow {w w' : World} (h : Ext w w') (ob : Option Nat) : Grow ob w w' := ⟨h.os, h.tape, h.output, Below.size h, fun b hb _ => Below.block h b hb⟩
theorem Wrote.grow {b : Nat} {w w' : World} (h : Wrote b w w') : Grow (some b) w w' := ⟨h.os, h.tape, h.output, Nat.le_of_eq h.size.symm, fun c _ hc => h.other c (fun e => hc (by rw [e]))⟩
theorem Grow.refl (ob : Option Nat) (w : World) : Grow ob w w := ⟨rfl, rfl, rfl, Nat.le_refl _, fun _ _ _ => rfl⟩
theorem Grow.trans {ob : Option Nat} {a b c : World} (h : Grow ob a b) (k : Grow ob b c) : Grow ob a c :=
  ⟨k.os.trans h.os, k.tape.trans h.tape, k.output.trans h.output, Nat.le_trans h.size k.size, fun i hi ho => (k.other i (Nat.lt_of_lt_of_le hi h.size) ho).trans (h.other i hi ho)⟩
theorem Grow.ext {ob : Option Nat} {w0 w w' : World} (h : Grow ob w w') (e : Ext w0 w) (hb : ∀ b, ob = some b → w0.heap.size ≤ b) : Ext w0 w' :=
  Below.trans e ⟨h.os, h.tape, h.output, h.size, fun k hk => h.other k (Nat.lt_of_lt_of_le hk e.size) (fun e' => by have := hb k e'; omega)⟩
theorem Grow.ext_none {w w' : World} (h : Grow none w w') : Ext w w' := ⟨h.os, h.tape, h.output, h.size, fun k hk => h.other k hk (by simp)⟩
theorem Grow.blk {ob : Option Nat} {w w' : World} {c : Nat} {cs : Array Value} {T : TypeId} (h : Grow ob w w') (hc : Blk w c cs T) (hne : ob ≠ some c) : Blk w' c cs T := by
  unfold Blk; rw [h.other c hc.lt hne]; exact hc
theorem Grow.cell {ob : Option Nat} {w w' : World} {a : Addr} {v : Value} (h : Grow ob w w') (hc : w.cell? a = some v) (hne : ob ≠ some a.block) : w'.cell? a = some v := by
  rw [World.cell?_of_block (h.other a.block (World.block_lt_of_cell? w a hc) hne)]; exact hc

def blk (a : Option Addr) : Option Nat := a.map (·.block)
theorem blk_some (b o : Nat) : blk (some ⟨b, o, none⟩) = some b := (rfl)
theorem blk_none : blk none = none := (rfl)

/-- A slice at the head of a block of its own: n elements of s cells of type e, room for c. -/
def OwnS (w : World) (e s : Nat) (a : Option Addr) (n c : Nat) (xs : List Value) : Prop :=
  xs.length = n * s ∧ ((a = none ∧ n = 0 ∧ c = 0) ∨
    ∃ b cur, a = some ⟨b, 0, none⟩ ∧ w.heap[b]? = some (.cells cur e (0, 0)) ∧ n ≤ c ∧ c ≤ maxLen ∧ cur.size = c * s ∧ cur.toList.take (n * s) = xs)

section
variable {w w' : World} {e s n c : Nat} {a : Option Addr} {xs : List Value}

theorem OwnS.len (h : OwnS w e s a n c xs) : xs.length = n * s := h.1
theorem OwnS.nil (w : World) (e s : Nat) : OwnS w e s none 0 0 [] := ⟨by simp, .inl ⟨rfl, rfl, rfl⟩⟩
theorem OwnS.blk_lt (h : OwnS w e s a n c xs) {b : Nat} (hb : blk a = some b) : b < w.heap.size := by
  rcases h.2 with ⟨rfl, _⟩ | ⟨g, cur, rfl, hg, _⟩
  · cases hb
  · simp only [blk_some, Option.some.injEq] at hb; subst hb; exact (Array.getElem?_eq_some_iff.1 hg).1
theorem OwnS.kept (h : OwnS w e s a n c xs) (hk : ∀ b, blk a = some b → w'.heap[b]? = w.heap[b]?) : OwnS w' e s a n c xs := by
  refine ⟨h.1, ?_⟩
  rcases h.2 with hn | ⟨g, cur, rfl, hg, r⟩
  · exact .inl hn
  · exact .inr ⟨g, cur, rfl, by rw [hk g rfl]; exact hg, r⟩
theorem OwnS.ext (h : OwnS w e s a n c xs) (x : Ext w w') : OwnS w' e s a n c xs := h.kept fun b hb => Below.block x b (h.blk_lt hb)
theorem OwnS.grow {ob : Option Nat} (h : OwnS w e s a n c xs) (x : Grow ob w w') (hne : ∀ b, blk a = some b → ob ≠ some b) : OwnS w' e s a n c xs :=
  h.kept fun b hb => x.other b (h.blk_lt hb) (hne b hb)
theorem OwnS.of_blk {b : Nat} {cs : Array Value} (h : Blk w b cs e) (hn : cs.size = n * s) (hm : n ≤ maxLen) : OwnS w e s (some ⟨b, 0, none⟩) n n cs.toList :=
  ⟨by simpa using hn, .inr ⟨b, cs, rfl, h, Nat.le_refl _, hm, hn, by rw [← hn, ← Array.length_toList, List.take_length]⟩⟩
theorem OwnS.le_cap (h : OwnS w e s a n c xs) : n ≤ c := by
  rcases h.2 with ⟨_, rfl, rfl⟩ | ⟨_, _, _, _, hl, _⟩
  · exact Nat.le_refl _
  · exact hl
theorem OwnS.some (h : OwnS w e s a n c xs) (hn : 0 < n) : ∃ b, a = .some ⟨b, 0, none⟩ := by
  rcases h.2 with ⟨_, rfl, _⟩ | ⟨b, _, rfl, _⟩
  · omega
  · exact ⟨b, rfl⟩
theorem OwnS.cell {b : Nat} (h : OwnS w e s (.some ⟨b, 0, none⟩) n c xs) {i : Nat} (hi : i < n * s) : w.cell? ⟨b, i, none⟩ = xs[i]? := by
  rcases h.2 with ⟨h0, _⟩ | ⟨g, cur, hg, hh, _, _, hs, rfl⟩
  · cases h0
  · simp only [Option.some.injEq, Addr.mk.injEq] at hg
    obtain ⟨rfl, _⟩ := hg
    simp [World.cell?, hh, hi]
theorem OwnS.frozen {b : Nat} (h : OwnS w e s (.some ⟨b, 0, none⟩) n c xs) (i : Nat) : w.frozen? ⟨b, i, none⟩ = false := by
  rcases h.2 with ⟨h0, _⟩ | ⟨g, cur, hg, hh, _⟩
  · cases h0
  · simp only [Option.some.injEq, Addr.mk.injEq] at hg
    obtain ⟨rfl, _⟩ := hg
    simp [World.frozen?, hh]
theorem OwnS.set {b : Nat} (h : OwnS w e s (.some ⟨b, 0, none⟩) n c xs) (i : Nat) (v : Value) : OwnS (w.setCell ⟨b, i, none⟩ v) e s (.some ⟨b, 0, none⟩) n c (xs.set i v) := by
  refine ⟨by rw [List.length_set]; exact h.1, ?_⟩
  rcases h.2 with ⟨h0, _⟩ | ⟨g, cur, hg, hh, hnc, hcm, hs, rfl⟩
  · cases h0
  · simp only [Option.some.injEq, Addr.mk.injEq] at hg
    obtain ⟨rfl, _⟩ := hg
    refine .inr ⟨b, cur.setIfInBounds i v, rfl, ?_, hnc, hcm, by simpa using hs, ?_⟩
    · rw [setCell_eq_setRow w b i cur e (0, 0) v hh]
      exact setRow_heap w b cur _ e (0, 0) hh
    · rw [Array.toList_setIfInBounds, List.take_set]
end

theorem boxK_of {T : TypeId} {v : Value} {k : Value → World → Prop} {w : World} (h : ∀ w' b, b = w.heap.size → Ext w w' → Blk w' b v.cells T → w'.heap.size = b + 1 → k (.pointer (some ⟨b, 0, none⟩)) w') : boxK T v k w :=
  h _ _ rfl (ext_alloc w _) (heap_alloc_new w _) (by simp)

theorem allocK_of {P : Program} {T : TypeId} {k : Value → World → Prop} {w : World} {cs : Array Value} (hz : zeroC P T = some cs)
    (h : ∀ w' b, b = w.heap.size → Ext w w' → Blk w' b cs T → w'.heap.size = b + 1 → k (.pointer (some ⟨b, 0, none⟩)) w') : allocK P T k w := by
  unfold allocK
  rw [hz]
  exact h _ _ rfl (ext_alloc w _) (heap_alloc_new w _) (by simp)

theorem bslK_0 {P : Program} {T e s bs : Nat} {z : Value} {k : Value → World → Prop} {w : World} (ht : elt P T = some (e, s, z, bs))
    (h : ∀ w' b, b = w.heap.size → Ext w w' → OwnS w' e s (some ⟨b, 0, none⟩) 0 0 [] → w'.heap.size = b + 1 → k (.slice (some ⟨b, 0, none⟩) 0 0) w') : bslK P T 0 [] k w := by
  obtain ⟨hT, i, hi, hs, hz, hb, hzs⟩ := elt_some ht
  have hr : (Instr.buildSlice T 0 [].toArray).run P w = .ok (.slice (some ⟨w.heap.size, 0, none⟩) 0 0) (w.alloc (.cells #[] e)) := by
    refine (run_bindV (run_underlying_some hT)).trans ?_
    refine (run_bindV (run_sizeOf_some hi)).trans ?_
    have e0 : (Array.range 0).map (fun _ => (default : Value)) = #[] := by apply Array.ext'; simp
    simp [Instr.fill, newRow, e0]
  unfold bslK
  rw [hr]
  exact h _ _ rfl (ext_alloc w _) (OwnS.of_blk (cs := #[]) (heap_alloc_new w _) (by simp) (by simp [maxLen])) (by simp)

/-- One element of one cell. -/
theorem bslK_1 {P : Program} {T e bs : Nat} {z v : Value} {k : Value → World → Prop} {w : World} (ht : elt P T = some (e, 1, z, bs)) (hv : v.cells = #[v])
    (h : ∀ w' b, b = w.heap.size → Ext w w' → Blk w' b #[v] e → w'.heap.size = b + 1 → k (.slice (some ⟨b, 0, none⟩) 1 1) w') : bslK P T 1 [(0, v)] k w := by
  obtain ⟨hT, i, hi, hs, hz, hb, hzs⟩ := elt_some ht
  have hr : (Instr.buildSlice T 1 [(0, v)].toArray).run P w = .ok (.slice (some ⟨w.heap.size, 0, none⟩) 1 1) (w.alloc (.cells #[v] e)) := by
    refine (run_bindV (run_underlying_some hT)).trans ?_
    refine (run_bindV (run_sizeOf_some hi)).trans ?_
    have hzr : (zeroValue e).run P w = .ok z w := by
      refine (run_bindV (run_typeInfo_some hi)).trans ?_
      rw [hz]; rfl
    have e1 : ((Array.range 1).map (fun x => z.cells[x % z.cells.size]!)).setIfInBounds 0 v = #[v] := by
      apply Array.ext'; simp [List.range_succ]
    simp [hs, hzr, Instr.fill, newRow, hv, e1]
  unfold bslK
  rw [hr]
  exact h _ _ rfl (ext_alloc w _) (heap_alloc_new w _) (by simp)

theorem mksK_of {P : Program} {T e s bs : Nat} {z : Value} {k : Value → World → Prop} {w : World} (ht : elt P T = some (e, s, z, bs)) (n c : Nat) (kl kc : IntKind) (l m : Int) (hl : l = (n : Int)) (hm : m = (c : Int)) (hnc : n ≤ c) (hbytes : bs * c ≤ 281474976710656) (h63 : c ≤ maxLen)
    (h : ∀ w' b, b = w.heap.size → Ext w w' → OwnS w' e s (some ⟨b, 0, none⟩) n c ((madeCells z.cells (c * s)).toList.take (n * s)) → w'.heap.size = b + 1 → k (.slice (some ⟨b, 0, none⟩) n c) w') : mksK P T (.int kl l) (.int kc m) k w := by
  obtain ⟨hT, i, hi, hs, hz, hb, hzs⟩ := elt_some ht
  subst hl hm
  have h63' : (c : Int) ≤ 9223372036854775807 := by
    have := h63
    simp [maxLen] at this
    omega
  have hb' : (i.bytes : Int) * (c : Int) ≤ 281474976710656 := by
    have h : ((i.bytes * c : Nat) : Int) ≤ 281474976710656 := by rw [hb]; omega
    rwa [Int.natCast_mul] at h
  have hr := run_make (P := P) w T e i z hT hi hz kl kc n c (by omega) (by omega) hb' h63'
  simp only [Int.toNat_natCast, hs] at hr
  unfold mksK
  rw [hr]
  have hms : (madeCells z.cells (c * s)).size = c * s := size_madeCells _ _
  refine h _ _ rfl (ext_alloc w _) ⟨?_, .inr ⟨_, _, rfl, heap_alloc_new w _, hnc, h63, hms, rfl⟩⟩ (by simp)
  rw [List.length_take, Array.length_toList, hms]
  exact Nat.min_eq_left (Nat.mul_le_mul_right _ hnc)

theorem made_int (z : Value) (n : Nat) : (madeCells #[z] (n * 1)).toList.take (n * 1) = List.replicate n z := by
  rw [Nat.mul_one, toList_madeCells_one, List.take_of_length_le (by simp)]

/-- A store of one cell. -/
theorem stK_of {P : Program} {T : TypeId} {b i : Nat} {u v : Value} {k : Value → World → Prop} {w : World} (hs : (P.info? T).map (·.size) = some 1) (hv : v.cells = #[v]) (h1 : v.oneCell' = true)
    (hc : w.cell? ⟨b, i, none⟩ = some u) (hf : w.frozen? ⟨b, i, none⟩ = false) (h : k undef (w.setCell ⟨b, i, none⟩ v)) : stK P T (.pointer (some ⟨b, i, none⟩)) v k w := by
  have hr : (Instr.storeAt T (.pointer (some ⟨b, i, none⟩)) v).run P w = .ok () (w.setCell ⟨b, i, none⟩ v) := by
    cases hi : P.info? T with
    | none => simp [hi] at hs
    | some inf =>
      simp only [hi, Option.map_some, Option.some.injEq] at hs
      refine (run_bindV (a := ⟨b, i, none⟩) (w' := w) rfl).trans ?_
      refine (run_bindV (run_sizeOf_some hi)).trans ?_
      rw [hs, hv]
      simp only [storeCells]
      have hst : (store ((⟨b, i, none⟩ : Addr).add 0) v).run P w = .ok () (w.setCell ⟨b, i, none⟩ v) := by
        have ha : (⟨b, i, none⟩ : Addr).add 0 = ⟨b, i, none⟩ := by simp [Addr.add]
        rw [ha]
        cases v <;> first
          | (simp [Value.oneCell'] at h1; done)
          | (simp only [store, Sem.run, hc, hf, Bool.false_eq_true, if_false])
      simp only [List.size_toArray, List.length_cons, List.length_nil, ne_eq, not_true_eq_false, if_false]
      exact (run_bindV hst).trans rfl
  unfold stK
  rw [hr]
  exact h

/-- A store into a slice of the call's own, of elements of one cell. -/
theorem stK_own {P : Program} {T e b n c i : Nat} {v : Value} {xs : List Value} {k : Value → World → Prop} {w : World} (hs : (P.info? T).map (·.size) = some 1) (hv : v.cells = #[v]) (h1 : v.oneCell' = true)
    (o : OwnS w e 1 (some ⟨b, 0, none⟩) n c xs) (hi : i < n) (h : ∀ w', OwnS w' e 1 (some ⟨b, 0, none⟩) n c (xs.set i v) → Wrote b w w' → k undef w') : stK P T (.pointer (some ⟨b, i, none⟩)) v k w := by
  have hx : i < xs.length := by rw [o.1]; omega
  exact stK_of hs hv h1 (by rw [o.cell (by omega), List.getElem?_eq_getElem hx]) (o.frozen i) (h _ (o.set i v) (wrote_setCell w ⟨b, i, none⟩ v))

/-- A store into a block that is known whole. -/
theorem stK_blk {P : Program} {T e b i : Nat} {v : Value} {cs : Array Value} {k : Value → World → Prop} {w : World} (hs : (P.info? T).map (·.size) = some 1) (hv : v.cells = #[v]) (h1 : v.oneCell' = true)
    (o : Blk w b cs e) (hi : i < cs.size) (h : ∀ w', Blk w' b (cs.setIfInBounds i v) e → Wrote b w w' → k undef w') : stK P T (.pointer (some ⟨b, i, none⟩)) v k w := by
  refine stK_of hs hv h1 (by rw [o.cell, Array.getElem?_eq_getElem hi]) (o.frozen i) (h _ ?_ (wrote_setCell w ⟨b, i, none⟩ v))
  unfold Blk at *
  rw [setCell_eq_setRow w b i cs e (0, 0) v o]
  exact setRow_heap w b cs _ e (0, 0) o

theorem run_storeCells_all {P : Program} (b : Nat) (e : TypeId) (vs : List Value) (cs : Array Value) (w : World) (o : Blk w b cs e) (hn : vs.length = cs.size) (h1 : ∀ v ∈ vs, v.oneCell' = true) :
    (storeCells ⟨b, 0, none⟩ vs 0).run P w = .ok () (w.setRow b vs.toArray) := by
  have := run_storeCells_from (P := P) b e vs 0 cs w o (by omega) h1
  simpa using this

/-- A struct is stored whole into a variable's block. -/
theorem stK_agg {P : Program} {T e b n : Nat} {vs : Array Value} {cs : Array Value} {k : Value → World → Prop} {w : World} (hs : (P.info? T).map (·.size) = some n) (hn : vs.size = n) (h1 : ∀ v ∈ vs.toList, v.oneCell' = true)
    (o : Blk w b cs e) (hc : cs.size = n) (h : ∀ w', Blk w' b vs e → Wrote b w w' → k undef w') : stK P T (.pointer (some ⟨b, 0, none⟩)) (.agg vs) k w := by
  have hr : (Instr.storeAt T (.pointer (some ⟨b, 0, none⟩)) (.agg vs)).run P w = .ok () (w.setRow b vs) := by
    cases hi : P.info? T with
    | none => simp [hi] at hs
    | some inf =>
      simp only [hi, Option.map_some, Option.some.injEq] at hs
      refine (run_bindV (a := ⟨b, 0, none⟩) (w' := w) rfl).trans ?_
      refine (run_bindV (run_sizeOf_some hi)).trans ?_
      have hst := run_storeCells_all (P := P) b e vs.toList cs w o (by simp; omega) h1
      simp only [Value.cells, hs, hn, ne_eq, not_true_eq_false, if_false]
      simpa using hst
  unfold stK
  rw [hr]
  exact h _ (setRow_heap w b cs vs e (0, 0) o) (wrote_setRow w b vs)

theorem mapM_cells {w : World} {b : Nat} {cs : Array Value} {T : TypeId} (h : Blk w b cs T) : ∀ (n i : Nat), i + n ≤ cs.size → (List.range' i n).mapM (fun j => w.cell? ((⟨b, 0, none⟩ : Addr).add j)) = some ((cs.toList.drop i).take n)
  | 0, i, _ => by simp
  | n + 1, i, hle => by
    have hi : i < cs.size := by omega
    have hd : cs.toList.drop i = cs[i] :: cs.toList.drop (i + 1) := by
      rw [List.drop_eq_getElem_cons (l := cs.toList) (i := i) (by simpa using hi)]; simp
    rw [List.range'_succ, List.mapM_cons, add_mk, Nat.zero_add, h.cell, Array.getElem?_eq_getElem hi, mapM_cells h n (i + 1) (by omega), hd, List.take_succ_cons]
    simp
theorem readCells_blk {w : World} {b : Nat} {cs : Array Value} {T : TypeId} (h : Blk w b cs T) {n : Nat} (hn : cs.size = n) : readCells w ⟨b, 0, none⟩ n = some cs.toList := by
  unfold readCells
  rw [List.range_eq_range', mapM_cells h n 0 (by omega), List.drop_zero, ← hn, ← Array.length_toList, List.take_length]

theorem OwnS.row {w : World} {e s n c : Nat} {a : Option Addr} {xs : List Value} (h : OwnS w e s a n c xs) : w.ownsRow 0 e s (.slice a n c) n xs := by
  refine ⟨h.1, ?_⟩
  rcases h.2 with ⟨rfl, rfl, rfl⟩ | ⟨g, cur, rfl, hg, hnc, hcm, hs, ht⟩
  · exact .inl ⟨rfl, rfl⟩
  · exact .inr ⟨g, c, cur, rfl, Nat.zero_le _, hg, hnc, hcm, hs, ht⟩

theorem own_of_row {w : World} {e s n : Nat} {v : Value} {xs : List Value} (h : w.ownsRow 0 e s v n xs) : ∃ a c, v = .slice a n c ∧ OwnS w e s a n c xs := by
  rcases h.2 with ⟨rfl, rfl⟩ | ⟨g, c, cur, rfl, _, hg, hnc, hcm, hs, ht⟩
  · exact ⟨none, 0, rfl, h.1, .inl ⟨rfl, rfl, rfl⟩⟩
  · exact ⟨_, c, rfl, h.1, .inr ⟨g, cur, rfl, hg, hnc, hcm, hs, ht⟩⟩

/-- append: the new slice is the call's own; its block is the old one or a new one. -/
theorem appK_of {P : Program} {T ty e s bs : Nat} {z : Value} {k : Value → World → Prop} {w : World} (ht : elt P T = some (e, s, z, bs)) (hs0 : 0 < s)
    {a : Option Addr} {n c : Nat} {xs : List Value} (hown : OwnS w e s a n c xs) {ad : Addr} {m c2 : Nat} (news : List Value) (hl : news.length = m * s) (hnews : ∀ j u, news[j]? = some u → w.cell? (ad.add j) = some u)
    (h1 : ∀ u ∈ news, u.oneCell' = true) (h63 : n + m ≤ maxLen) (hbytes : (n + m) * bs ≤ 140737488355328)
    (h : ∀ w' a' c', OwnS w' e s a' (n + m) c' (xs ++ news) → Grow (blk a) w w' → (∀ b, blk a' = some b → blk a = some b ∨ w.heap.size ≤ b) → k (.slice a' (n + m) c') w') :
    biK P .append #[T, T] ty #[.slice a n c, .slice (some ad) m c2] k w := by
  obtain ⟨hT, i, hi, hs, hz, hb, hzs⟩ := elt_some ht
  obtain ⟨v', w', hr, hrow, hg, hnil⟩ := run_append_own (P := P) w 0 T ty e i z s bs hT hi hz hs hb hzs hs0 (.slice a n c) n xs hown.row ad m c2 news hl hnews h1 h63 hbytes (Nat.zero_le _)
  obtain ⟨a', c', rfl, hown'⟩ := own_of_row hrow
  have hgrow : Grow (blk a) w w' := ⟨hg.os, hg.tape, hg.output, hg.size, fun b hb hne => hg.block b hb (fun e => hne (by
    cases a with
    | none => simp [Value.ownBlock] at e
    | some x => simpa [Value.ownBlock, blk] using e.symm))⟩
  have hfit : (n + m : Nat) ≤ 9223372036854775807 := by have := h63; simp [maxLen] at this; omega
  have hblk : ∀ b, blk a' = some b → blk a = some b ∨ w.heap.size ≤ b := by
    intro b hb'
    rcases hown.2 with ⟨rfl, rfl, rfl⟩ | ⟨g, cur, rfl, hgg, hnc, hcm, hcs, htk⟩
    · by_cases hm : m = 0
      · subst hm
        have := hnil.2 ⟨rfl, rfl⟩
        simp only [Value.slice.injEq] at this
        rw [this.1] at hb'; cases hb'
      · right
        have hr2 := run_append_nil (P := P) w T ty e i z hT hi hz ad m c2 news (by rw [hs]; exact hl) hnews (by omega) (by omega) (by rw [hb]; simp only [Nat.zero_add] at hbytes; omega)
        have := hr.symm.trans hr2
        simp only [Result.ok.injEq, Value.slice.injEq] at this
        rw [this.1.1] at hb'
        simp only [blk_some, Option.some.injEq] at hb'
        omega
    · by_cases hroom : n + m ≤ c
      · left
        have hfit' : n * i.size + news.length ≤ cur.size := by rw [hl, hcs, hs, ← Nat.add_mul]; exact Nat.mul_le_mul_right _ hroom
        have hr2 := run_append_room (P := P) w T ty e i hT hi g n c cur hgg ad m c2 news (by rw [hs]; exact hl) hnews h1 hroom hfit'
        have := hr.symm.trans hr2
        simp only [Result.ok.injEq, Value.slice.injEq] at this
        rw [this.1.1] at hb'
        exact hb'
      · right
        have holds : ∀ j u, xs[j]? = some u → w.cell? ((⟨g, 0, none⟩ : Addr).add j) = some u := by
          intro j u hu
          have hj : j < n * s := by
            have h2 := (List.getElem?_eq_some_iff.1 hu).1
            rwa [hown.1] at h2
          rw [add_mk, Nat.zero_add, hown.cell hj, hu]
        have hr2 := run_append_grow (P := P) w T ty e i z hT hi hz ⟨g, 0, none⟩ n c xs (by rw [hs]; exact hown.1) holds ad m c2 news (by rw [hs]; exact hl) hnews (by omega) (by omega) (growslice_fits (by omega) (by rw [hb]; exact hbytes))
        have := hr.symm.trans hr2
        simp only [Result.ok.injEq, Value.slice.injEq] at this
        rw [this.1.1] at hb'
        simp only [blk_some, Option.some.injEq] at hb'
        omega
  have hrun : (builtin .append #[T, T] ty #[] #[.slice a n c, .slice (some ad) m c2]).run P w = .ok (.value (.slice a' (n + m) c')) w' := run_bindV hr
  unfold biK
  rw [hrun]
  exact h w' a' c' hown' hgrow hblk

/-- append of one element of one cell, which has just been laid in a block of its own. -/
theorem appK_1 {P : Program} {T ty e bs : Nat} {z : Value} {k : Value → World → Prop} {w : World} (ht : elt P T = some (e, 1, z, bs))
    {a : Option Addr} {n c : Nat} {xs : List Value} (hown : OwnS w e 1 a n c xs) {b : Nat} {v : Value} (hb : Blk w b #[v] e) (h1 : v.oneCell' = true) (hn : n < 17592186044416) (hbs : bs ≤ 8 ∨ n < 1000000000 ∧ bs ≤ 1000)
    (h : ∀ w' a' c', OwnS w' e 1 a' (n + 1) c' (xs ++ [v]) → Grow (blk a) w w' → (∀ b, blk a' = some b → blk a = some b ∨ w.heap.size ≤ b) → k (.slice a' (n + 1) c') w') :
    biK P .append #[T, T] ty #[.slice a n c, .slice (some ⟨b, 0, none⟩) 1 1] k w := by
  refine appK_of ht (by decide) hown [v] (by simp) ?_ (by simpa using h1) (by simp [maxLen]; omega) ?_ h
  · intro j u hu
    rw [add_mk, Nat.zero_add, hb.cell]
    cases j with
    | zero => simpa using hu
    | succ j => simp at hu
  · rcases hbs with hbs | ⟨hn', hbs⟩
    · exact Nat.le_trans (Nat.mul_le_mul_left _ hbs) (by omega)
    · exact Nat.le_trans (Nat.mul_le_mul_left _ hbs) (by omega)

end Go.SW
