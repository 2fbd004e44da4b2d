/- Slices of elements of two cells. No function of the program occurs here. -/
import Derived.Test.YtdlepfeckiahdaaPc
set_option linter.all false
namespace Go.SW
open Go Go.RowKit
/-- One element of two cells. -/
theorem bslK_2 {P : Program} {T e bs : Nat} {z v x y : Value} {k : Value → World → Prop} {w : World} (ht : elt P T = Option.some (e, 2, z, bs)) (hv : v.cells = #[x, y])
    (h : ∀ w' b, b = w.heap.size → Ext w w' → Blk w' b #[x, y] e → w'.heap.size = b + 1 → k (.slice (Option.some ⟨b, 0, none⟩) 1 1) w') : bslK P T 1 [(0, v)] k w := by
  obtain ⟨hT, i, hi, hs, hz, hb, hzs⟩ := elt_some ht
  have hr : (Instr.buildSlice T 1 [(0, v)].toArray).run P w = .ok (.slice (Option.some ⟨w.heap.size, 0, none⟩) 1 1) (w.alloc (.cells #[x, y] e)) := by
    refine (run_bindV (run_underlying_some hT)).trans ?_
    refine (run_bindV (run_sizeOf_some hi)).trans ?_
    have hzr : (zeroValue e).run P w = .ok z w := by
      refine (run_bindV (run_typeInfo_some hi)).trans ?_
      rw [hz]; rfl
    have e1 : (((Array.range 2).map (fun x => z.cells[x % z.cells.size]!)).setIfInBounds 0 x).setIfInBounds 1 y = #[x, y] := by
      apply Array.ext'; simp [List.range_succ]
    simp [hs, hzr, Instr.fill, newRow, hv, e1]
  unfold bslK
  rw [hr]
  exact h _ _ rfl (ext_alloc w _) (heap_alloc_new w _) (by simp)
theorem OwnS.read2 {w : World} {e n c b : Nat} {xs : List Value} (o : OwnS w e 2 (Option.some ⟨b, 0, none⟩) n c xs) {k : Nat} (hk : k < n) {x y : Value} (hx : xs[k * 2]? = Option.some x) (hy : xs[k * 2 + 1]? = Option.some y) : readCells w ⟨b, k * 2, none⟩ 2 = Option.some [x, y] := by
  have h0 : w.cell? ⟨b, k * 2, none⟩ = Option.some x := by rw [o.cell (by omega), hx]
  have h1 : w.cell? ⟨b, k * 2 + 1, none⟩ = Option.some y := by rw [o.cell (by omega), hy]
  simp [readCells, List.range_succ, add_mk, h0, h1]
theorem run_store_one {P : Program} {b i : Nat} {u v : Value} {w : World} (h1 : v.oneCell' = true) (hc : w.cell? ⟨b, i, none⟩ = Option.some u) (hf : w.frozen? ⟨b, i, none⟩ = false) : (store ⟨b, i, none⟩ v).run P w = .ok () (w.setCell ⟨b, i, none⟩ v) := by
  cases v <;> first
    | (simp [Value.oneCell'] at h1; done)
    | (simp only [store, Sem.run, hc, hf, Bool.false_eq_true, if_false])
theorem Grow.refl2 (w : World) (b : Nat) (v : Value) (i : Nat) : Grow (Option.some b) w (w.setCell ⟨b, i, none⟩ v) := (wrote_setCell w ⟨b, i, none⟩ v).grow
/-- A store of an element of two cells into a slice of the call's own. -/
theorem stK_own2 {P : Program} {T e b n c i : Nat} {x y : Value} {xs : List Value} {k : Value → World → Prop} {w : World} (hs : (P.info? T).map (·.size) = Option.some 2) (h1 : x.oneCell' = true) (h2 : y.oneCell' = true)
    (o : OwnS w e 2 (Option.some ⟨b, 0, none⟩) n c xs) (hi : i < n) (h : ∀ w', OwnS w' e 2 (Option.some ⟨b, 0, none⟩) n c ((xs.set (i * 2) x).set (i * 2 + 1) y) → Grow (Option.some b) w w' → k undef w') : stK P T (.pointer (Option.some ⟨b, i * 2, none⟩)) (.agg #[x, y]) k w := by
  have hl := o.1
  have c0 : w.cell? ⟨b, i * 2, none⟩ = Option.some xs[i * 2] := by rw [o.cell (by omega), List.getElem?_eq_getElem (by omega)]
  have o1 := o.set (i * 2) x
  have c1 : (w.setCell ⟨b, i * 2, none⟩ x).cell? ⟨b, i * 2 + 1, none⟩ = Option.some ((xs.set (i * 2) x)[i * 2 + 1]'(by rw [List.length_set]; omega)) := by rw [o1.cell (by omega), List.getElem?_eq_getElem]
  have o2 := o1.set (i * 2 + 1) y
  have hr : (Instr.storeAt T (.pointer (Option.some ⟨b, i * 2, none⟩)) (.agg #[x, y])).run P w = .ok () ((w.setCell ⟨b, i * 2, none⟩ x).setCell ⟨b, i * 2 + 1, none⟩ y) := by
    cases hinf : P.info? T with
    | none => simp [hinf] at hs
    | some inf =>
      simp only [hinf, Option.map_some, Option.some.injEq] at hs
      refine (run_bindV (a := ⟨b, i * 2, none⟩) (w' := w) rfl).trans ?_
      refine (run_bindV (run_sizeOf_some hinf)).trans ?_
      have r0 := run_store_one (P := P) h1 c0 (o.frozen _)
      have r1 := run_store_one (P := P) h2 c1 (o1.frozen _)
      have a0 : (⟨b, i * 2, none⟩ : Addr).add 0 = ⟨b, i * 2, none⟩ := by simp [Addr.add]
      have a1 : (⟨b, i * 2, none⟩ : Addr).add (0 + 1) = ⟨b, i * 2 + 1, none⟩ := by simp [Addr.add]
      simp only [hs, Value.cells, List.size_toArray, List.length_cons, List.length_nil, ne_eq, not_true_eq_false, if_false, storeCells, a0, a1, Nat.reduceAdd]
      refine (run_bindV r0).trans ?_
      exact (run_bindV r1).trans rfl
  unfold stK
  rw [hr]
  exact h _ o2 ((Grow.refl2 w b x _).trans (Grow.refl2 _ b y _))
/-- append of one element of two cells, which has just been laid in a block of its own. -/
theorem appK_2 {P : Program} {T ty e bs : Nat} {z : Value} {k : Value → World → Prop} {w : World} (ht : elt P T = Option.some (e, 2, z, bs))
    {a : Option Addr} {n c : Nat} {xs : List Value} (hown : OwnS w e 2 a n c xs) {b : Nat} {x y : Value} (hb : Blk w b #[x, y] e) (h1 : x.oneCell' = true) (h2 : y.oneCell' = true) (hn : n < 1000000) (hbs : bs ≤ 1000)
    (h : ∀ w' a' c', OwnS w' e 2 a' (n + 1) c' (xs ++ [x, y]) → Grow (blk a) w w' → (∀ b, blk a' = Option.some b → blk a = Option.some b ∨ w.heap.size ≤ b) → k (.slice a' (n + 1) c') w') :
    biK P .append #[T, T] ty #[.slice a n c, .slice (Option.some ⟨b, 0, none⟩) 1 1] k w := by
  refine appK_of ht (by decide) hown [x, y] (by simp) ?_ (fun u hu => ?_) (by simp [maxLen]; omega) ?_ h
  · intro j u hu
    rw [add_mk, Nat.zero_add, hb.cell]
    match j with
    | 0 => simpa using hu
    | 1 => simpa using hu
    | j + 2 => simp at hu
  · simp only [List.mem_cons, List.not_mem_nil, or_false] at hu
    rcases hu with rfl | rfl
    · exact h1
    · exact h2
  · exact Nat.le_trans (Nat.mul_le_mul_left _ hbs) (by omega)
/-- Items of two numbers, one after another. -/
def sv (n : Nat) (L : Nat → Nat × Int) : List Value := (List.range (n * 2)).map fun j => if j % 2 = 0 then .int .i64 ((L (j / 2)).1 : Nat) else .int .i64 (L (j / 2)).2
theorem sv_len (n : Nat) (L : Nat → Nat × Int) : (sv n L).length = n * 2 := by simp [sv]
theorem sv_at {n j : Nat} (L : Nat → Nat × Int) (h : j < n * 2) : (sv n L)[j]? = Option.some (if j % 2 = 0 then .int .i64 ((L (j / 2)).1 : Nat) else .int .i64 (L (j / 2)).2) := by
  simp [sv, List.getElem?_map, List.getElem?_range h]
theorem sv_get0 {n k : Nat} (L : Nat → Nat × Int) (h : k < n) : (sv n L)[k * 2]? = Option.some (.int .i64 ((L k).1 : Nat)) := by
  rw [sv_at L (by omega), if_pos (by omega), show k * 2 / 2 = k by omega]
theorem sv_get1 {n k : Nat} (L : Nat → Nat × Int) (h : k < n) : (sv n L)[k * 2 + 1]? = Option.some (.int .i64 (L k).2) := by
  rw [sv_at L (by omega), if_neg (by omega), show (k * 2 + 1) / 2 = k by omega]
theorem sv_set {n i : Nat} {L L' : Nat → Nat × Int} {x y : Int} (hi : i < n) (hx : x = ((L' i).1 : Nat)) (hy : y = (L' i).2) (h : ∀ j, j < n → j ≠ i → L' j = L j) :
    ((sv n L).set (i * 2) (.int .i64 x)).set (i * 2 + 1) (.int .i64 y) = sv n L' := by
  apply List.ext_getElem?; intro j
  rw [List.getElem?_set, List.getElem?_set]
  by_cases hj : j < n * 2
  · rw [sv_at L' hj, sv_at L hj]
    simp only [List.length_set, sv_len]
    by_cases e1 : i * 2 + 1 = j
    · subst e1
      rw [if_pos rfl, if_pos hj, if_neg (by omega), show (i * 2 + 1) / 2 = i by omega, hy]
    · rw [if_neg e1]
      by_cases e2 : i * 2 = j
      · subst e2
        rw [if_pos rfl, if_pos hj, if_pos (by omega), show i * 2 / 2 = i by omega, hx]
      · rw [if_neg e2, h (j / 2) (by omega) (by omega)]
  · have h1 : ¬ i * 2 + 1 = j := by omega
    have h2 : ¬ i * 2 = j := by omega
    rw [if_neg h1, if_neg h2, List.getElem?_eq_none (by rw [sv_len]; omega), List.getElem?_eq_none (by rw [sv_len]; omega)]
theorem sv_snoc {n : Nat} {L L' : Nat → Nat × Int} {x y : Int} (hx : x = ((L' n).1 : Nat)) (hy : y = (L' n).2) (h : ∀ j, j < n → L' j = L j) : sv n L ++ [.int .i64 x, .int .i64 y] = sv (n + 1) L' := by
  apply List.ext_getElem?; intro j
  by_cases h1 : j < n * 2
  · rw [List.getElem?_append_left (by rw [sv_len]; omega), sv_at L h1, sv_at L' (by omega), h (j / 2) (by omega)]
  · rw [List.getElem?_append_right (by rw [sv_len]; omega), sv_len]
    by_cases h2 : j < (n + 1) * 2
    · rw [sv_at L' h2]
      by_cases h3 : j = n * 2
      · subst h3
        rw [if_pos (by omega), show n * 2 / 2 = n by omega, Nat.sub_self, hx]; rfl
      · have h4 : j = n * 2 + 1 := by omega
        subst h4
        rw [if_neg (by omega), show (n * 2 + 1) / 2 = n by omega, show n * 2 + 1 - n * 2 = 1 by omega, hy]; rfl
    · rw [List.getElem?_eq_none (by simp; omega), List.getElem?_eq_none (by rw [sv_len]; omega)]
theorem sv_take {n m : Nat} (L : Nat → Nat × Int) (h : m ≤ n) : (sv n L).take (m * 2) = sv m L := by
  simp only [sv, ← List.map_take]
  rw [List.take_range, Nat.min_eq_left (by omega)]
def stB (a b : Nat × Int) : Bool := decide (b.2 < a.2)
theorem stB_ahead : Ahead stB := by
  refine ⟨fun a b e => ?_, fun a b c e1 e2 => ?_⟩
  · simp only [stB, decide_eq_true_eq, decide_eq_false_iff_not] at *; omega
  · simp only [stB, decide_eq_false_iff_not] at *; omega
end Go.SW
