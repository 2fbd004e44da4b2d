/- What slices of integers and slices of slices read as. No program occurs here. -/
import Derived.Test.YtlnodngkacbfkaaSwf
set_option linter.all false
set_option maxRecDepth 20000
namespace Go.SW
open Go Go.RowKit

def vi (l : List Int) : List Value := l.map (Value.int .i64)
theorem vi_snoc (l : List Int) (x : Int) : vi l ++ [.int .i64 x] = vi (l ++ [x]) := by simp [vi]
theorem vi_len (l : List Int) : (vi l).length = l.length := by simp [vi]
theorem vi_get (l : List Int) (i : Nat) (h : i < l.length) : (vi l)[i]? = some (.int .i64 (l.getD i 0)) := by simp [vi, h]

theorem vi_ext {xs : List Value} {l : List Int} (hn : xs.length = l.length) (h : ∀ j, j < l.length → xs[j]? = some (.int .i64 (l.getD j 0))) : xs = vi l := by
  apply List.ext_getElem?
  intro j
  by_cases hj : j < l.length
  · rw [h j hj, vi_get l j hj]
  · rw [List.getElem?_eq_none (by omega), List.getElem?_eq_none (by rw [vi_len]; omega)]
theorem set_get {xs : List Value} {k : Nat} {v : Value} (P : Nat → Value) (hk : k < xs.length) (hv : v = P k) (h : ∀ j, j < k → xs[j]? = some (P j)) : ∀ j, j < k + 1 → (xs.set k v)[j]? = some (P j) := by
  intro j hj
  rw [List.getElem?_set]
  by_cases e : k = j
  · subst e; simp [hk, hv]
  · rw [if_neg e]; exact h j (by omega)

theorem maxLen_le {n : Nat} (h : n ≤ maxLen) : (n : Int) ≤ 9223372036854775807 := by simp [maxLen] at h; omega

/-- An int of Go's. -/
def I64 (x : Int) : Prop := -9223372036854775808 ≤ x ∧ x ≤ 9223372036854775807

/-- A slice of integers at a that reads as l. -/
structure IntS (w : World) (a : Option Addr) (l : List Int) : Prop where
  head : l ≠ [] → ∃ b o, a = some ⟨b, o, none⟩
  cell : ∀ b o, a = some ⟨b, o, none⟩ → ∀ i : Nat, i < l.length → w.cell? ⟨b, o + i, none⟩ = some (.int .i64 (l.getD i 0))

theorem IntS.kept {w w' : World} {a : Option Addr} {l : List Int} (h : IntS w a l) (hk : ∀ b, blk a = some b → b < w.heap.size → w'.heap[b]? = w.heap[b]?) : IntS w' a l :=
  ⟨h.head, fun b o ha i h1 => by
    have hc := h.cell b o ha i h1
    rw [World.cell?_of_block (w := w) (hk b (by rw [ha]; rfl) (World.block_lt_of_cell? w _ hc)), hc]⟩
theorem IntS.ext {w w' : World} {a : Option Addr} {l : List Int} (h : IntS w a l) (e : Ext w w') : IntS w' a l := h.kept fun b _ hb => Below.block e b hb
theorem IntS.grow {ob : Option Nat} {w w' : World} {a : Option Addr} {l : List Int} (h : IntS w a l) (g : Grow ob w w') (hne : ∀ b, blk a = some b → ob ≠ some b) : IntS w' a l :=
  h.kept fun b hb hlt => g.other b hlt (hne b hb)
theorem IntS.nil (w : World) (a : Option Addr) : IntS w a [] := ⟨fun h => absurd rfl h, fun _ _ _ i h1 => by simp at h1⟩
theorem OwnS.ints {w : World} {e n c : Nat} {a : Option Addr} {l : List Int} (h : OwnS w e 1 a n c (vi l)) : IntS w a l := by
  have hn : l.length = n := by have := h.1; rw [vi_len] at this; omega
  refine ⟨fun hne => ?_, fun b o ha i h1 => ?_⟩
  · obtain ⟨b, rfl⟩ := h.some (by rw [← hn]; exact List.length_pos_iff.2 hne)
    exact ⟨b, 0, rfl⟩
  · obtain ⟨b', rfl⟩ := h.some (by omega)
    simp only [Option.some.injEq, Addr.mk.injEq] at ha
    obtain ⟨rfl, rfl, _⟩ := ha
    rw [Nat.zero_add, h.cell (by omega), vi_get l i h1]

/-- A slice of slices of integers at a: row r is the slice at A r, with room for Cp r. -/
structure RowsAt (w : World) (a : Option Addr) (rows : List (List Int)) (A : Nat → Option Addr) (Cp : Nat → Nat) : Prop where
  head : rows ≠ [] → ∃ b o, a = some ⟨b, o, none⟩
  row : ∀ b o, a = some ⟨b, o, none⟩ → ∀ r : Nat, r < rows.length → w.cell? ⟨b, o + r, none⟩ = some (.slice (A r) (rows.getD r []).length (Cp r))
  ints : ∀ r, r < rows.length → IntS w (A r) (rows.getD r [])
  i64 : ∀ l ∈ rows, ∀ x ∈ l, I64 x
  len : ∀ l ∈ rows, l.length ≤ maxLen
  lens : rows.length ≤ maxLen

theorem RowsAt.ext {w w' : World} {a : Option Addr} {rows : List (List Int)} {A : Nat → Option Addr} {Cp : Nat → Nat} (h : RowsAt w a rows A Cp) (e : Ext w w') : RowsAt w' a rows A Cp :=
  ⟨h.head, fun b o ha r h1 => e.cell (h.row b o ha r h1), fun r hr => (h.ints r hr).ext e, h.i64, h.len, h.lens⟩

/-- A slice of slices of integers that a call has made for itself, from block B on, its outer block b: no two rows share a block. -/
structure OwnRows (w : World) (eo ei B b : Nat) (rows : List (List Int)) (A : Nat → Option Addr) : Prop where
  top : ∃ xs, OwnS w eo 1 (some ⟨b, 0, none⟩) rows.length rows.length xs ∧ ∀ r, r < rows.length → xs[r]? = some (.slice (A r) (rows.getD r []).length (rows.getD r []).length)
  hb : B ≤ b
  row : ∀ r, r < rows.length → ∃ br, A r = some ⟨br, 0, none⟩ ∧ B ≤ br ∧ br ≠ b ∧ OwnS w ei 1 (A r) (rows.getD r []).length (rows.getD r []).length (vi (rows.getD r []))
  inj : ∀ r s, r < rows.length → s < rows.length → blk (A r) = blk (A s) → r = s

theorem OwnRows.ext {w w' : World} {eo ei B b : Nat} {rows : List (List Int)} {A : Nat → Option Addr} (h : OwnRows w eo ei B b rows A) (e : Ext w w') : OwnRows w' eo ei B b rows A :=
  ⟨let ⟨xs, o, hx⟩ := h.top; ⟨xs, o.ext e, hx⟩, h.hb, fun r hr => let ⟨br, h1, h2, h3, o⟩ := h.row r hr; ⟨br, h1, h2, h3, o.ext e⟩, h.inj⟩
theorem OwnRows.at {w : World} {eo ei B b : Nat} {rows : List (List Int)} {A : Nat → Option Addr} (h : OwnRows w eo ei B b rows A) (hi : ∀ l ∈ rows, ∀ x ∈ l, I64 x) (hn : rows.length ≤ maxLen)
    (hl : ∀ l ∈ rows, l.length ≤ maxLen) : RowsAt w (some ⟨b, 0, none⟩) rows A (fun r => (rows.getD r []).length) := by
  obtain ⟨xs, o, hx⟩ := h.top
  refine ⟨fun _ => ⟨b, 0, rfl⟩, fun b' o' ha r hr => ?_, fun r hr => ?_, hi, hl, hn⟩
  · simp only [Option.some.injEq, Addr.mk.injEq] at ha
    obtain ⟨rfl, rfl, _⟩ := ha
    rw [Nat.zero_add, o.cell (by omega), hx r hr]
  · obtain ⟨br, _, _, _, o'⟩ := h.row r hr
    exact o'.ints

/-- A slice of slices of integers that reads as the grid h of R rows and C columns. -/
structure GridAt (w : World) (gb go : Nat) (rb ro rc : Nat → Nat) (R C : Nat) (h : Nat → Int) : Prop where
  row : ∀ r : Nat, r < R → w.cell? ⟨gb, go + r, none⟩ = some (.slice (some ⟨rb r, ro r, none⟩) C (rc r))
  cell : ∀ r c : Nat, r < R → c < C → w.cell? ⟨rb r, ro r + c, none⟩ = some (.int .i64 (h (r * C + c)))
theorem GridAt.ext {w w' : World} {gb go : Nat} {rb ro rc : Nat → Nat} {R C : Nat} {h : Nat → Int} (g : GridAt w gb go rb ro rc R C h) (e : Ext w w') : GridAt w' gb go rb ro rc R C h :=
  ⟨fun r h1 => e.cell (g.row r h1), fun r c h1 h3 => e.cell (g.cell r c h1 h3)⟩

/-! ## grids as lists -/
def rowLen (rows : List (List Int)) : Nat := (rows.getD 0 []).length
def gvalid (rows : List (List Int)) : Bool :=
  decide (1 ≤ rows.length ∧ rows.length ≤ 7 ∧ 1 ≤ rowLen rows ∧ rowLen rows ≤ 7) && rows.all fun l => decide (l.length = rowLen rows) && l.all fun x => decide (0 ≤ x ∧ x ≤ 99)
/-- The height of a cell by its index. -/
def hgt (rows : List (List Int)) (i : Nat) : Int := (rows.getD (i / rowLen rows) []).getD (i % rowLen rows) 0

structure Valid (rows : List (List Int)) : Prop where
  r1 : 1 ≤ rows.length
  r7 : rows.length ≤ 7
  c1 : 1 ≤ rowLen rows
  c7 : rowLen rows ≤ 7
  len : ∀ r, r < rows.length → (rows.getD r []).length = rowLen rows
  cell : ∀ r c, r < rows.length → c < rowLen rows → 0 ≤ (rows.getD r []).getD c 0 ∧ (rows.getD r []).getD c 0 ≤ 99

theorem getD_at {α : Type} (l : List α) (d : α) {i : Nat} (h : i < l.length) : l.getD i d = l[i] := by simp [h]
theorem getD_mem {α : Type} {l : List α} {i : Nat} {d : α} (h : i < l.length) : l.getD i d ∈ l := by
  rw [getD_at l d h]; exact List.getElem_mem h

theorem gvalid_iff (rows : List (List Int)) : gvalid rows = true ↔ Valid rows := by
  simp only [gvalid, Bool.and_eq_true, decide_eq_true_eq, List.all_eq_true]
  constructor
  · intro ⟨⟨a, b, c, d⟩, h⟩
    refine ⟨a, b, c, d, fun r hr => (h _ (getD_mem hr)).1, fun r c hr hc => ?_⟩
    have h2 := h _ (getD_mem (d := []) hr)
    exact h2.2 _ (getD_mem (by rw [h2.1]; exact hc))
  · intro v
    refine ⟨⟨v.r1, v.r7, v.c1, v.c7⟩, fun l hl => ?_⟩
    obtain ⟨r, hr, rfl⟩ := List.getElem_of_mem hl
    have e : rows.getD r [] = rows[r] := getD_at rows [] hr
    refine ⟨by rw [← e]; exact v.len r hr, fun x hx => ?_⟩
    obtain ⟨c, hc, rfl⟩ := List.getElem_of_mem hx
    have := v.cell r c hr (by rw [← v.len r hr, e]; exact hc)
    rw [e, getD_at _ _ hc] at this
    exact this

theorem div_row (C r c : Nat) (h1 : c < C) : (r * C + c) / C = r ∧ (r * C + c) % C = c := by
  have hC : 0 < C := by omega
  constructor
  · rw [Nat.mul_comm, Nat.mul_add_div hC, Nat.div_eq_of_lt h1, Nat.add_zero]
  · rw [Nat.mul_comm, Nat.mul_add_mod, Nat.mod_eq_of_lt h1]

theorem RowsAt.grid {w : World} {a : Option Addr} {rows : List (List Int)} {A : Nat → Option Addr} {Cp : Nat → Nat} (h : RowsAt w a rows A Cp) (v : Valid rows) :
    ∃ gb go rb ro, a = some ⟨gb, go, none⟩ ∧ (∀ r, r < rows.length → A r = some ⟨rb r, ro r, none⟩) ∧ GridAt w gb go rb ro Cp rows.length (rowLen rows) (hgt rows) := by
  obtain ⟨gb, go, rfl⟩ := h.head (by intro e; have := v.r1; rw [e] at this; simp at this)
  have hA : ∀ r, r < rows.length → ∃ b o, A r = some ⟨b, o, none⟩ := fun r hr => (h.ints r hr).head (by
    intro e; have := v.len r hr; have := v.c1; rw [e] at *; simp at *; omega)
  let rb : Nat → Nat := fun r => ((A r).map (·.block)).getD 0
  let ro : Nat → Nat := fun r => ((A r).map (·.off)).getD 0
  have hA' : ∀ r, r < rows.length → A r = some ⟨rb r, ro r, none⟩ := fun r hr => by
    obtain ⟨b, o, e⟩ := hA r hr; simp only [rb, ro, e, Option.map_some, Option.getD_some]
  refine ⟨gb, go, rb, ro, rfl, hA', fun r h1 => ?_, fun r c h1 h3 => ?_⟩
  · rw [h.row gb go rfl r h1, hA' r h1, v.len r h1]
  · have := (h.ints r h1).cell _ _ (hA' r h1) c (by rw [v.len _ h1]; exact h3)
    rw [this]
    obtain ⟨e1, e2⟩ := div_row (rowLen rows) r c h3
    simp only [hgt, e1, e2]

/-- An index of a grid, taken apart as Go does it. -/
theorem idx_div {i : Int} {R C : Nat} (h0 : 0 ≤ i) (h : i < (R * C : Nat)) : i / C < R ∧ 0 ≤ i / C ∧ i % C < C ∧ 0 ≤ i % C ∧ 0 < C ∧ 0 < R ∧ (i / C).toNat * C + (i % C).toNat = i.toNat := by
  obtain ⟨n, rfl⟩ := Int.eq_ofNat_of_zero_le h0
  have h' : n < R * C := by omega
  have hC : 0 < C := Nat.pos_of_ne_zero fun e => by subst e; simp at h'
  have hR : 0 < R := Nat.pos_of_ne_zero fun e => by subst e; simp at h'
  have hq : n / C < R := Nat.div_lt_of_lt_mul (by rw [Nat.mul_comm]; exact h')
  have hm : n % C < C := Nat.mod_lt _ hC
  have e1 : (n : Int) / C = ((n / C : Nat) : Int) := rfl
  have e2 : (n : Int) % C = ((n % C : Nat) : Int) := rfl
  rw [e1, e2]
  refine ⟨Int.ofNat_lt.2 hq, Int.natCast_nonneg _, Int.ofNat_lt.2 hm, Int.natCast_nonneg _, hC, hR, ?_⟩
  simp only [Int.toNat_natCast]
  rw [Nat.mul_comm]; exact Nat.div_add_mod n C

/-- A slice of bytes at a that reads as l. -/
structure ByteS (w : World) (a : Option Addr) (l : List Int) : Prop where
  head : l ≠ [] → ∃ b o, a = Option.some ⟨b, o, none⟩
  cell : ∀ b o, a = Option.some ⟨b, o, none⟩ → ∀ i : Nat, i < l.length → w.cell? ⟨b, o + i, none⟩ = Option.some (.int .u8 (l.getD i 0))
  rng : ∀ x ∈ l, 0 ≤ x ∧ x ≤ 255
theorem ByteS.ext {w w' : World} {a : Option Addr} {l : List Int} (h : ByteS w a l) (e : Ext w w') : ByteS w' a l :=
  ⟨h.head, fun b o ha i hi => e.cell (h.cell b o ha i hi), h.rng⟩
theorem ByteS.grow {ob : Option Nat} {w w' : World} {a : Option Addr} {l : List Int} (h : ByteS w a l) (g : Grow ob w w') (hne : l ≠ [] → ∀ b, blk a = Option.some b → ob ≠ Option.some b) : ByteS w' a l :=
  ⟨h.head, fun b o ha i hi => g.cell (h.cell b o ha i hi) (by subst ha; exact hne (by intro e; subst e; simp at hi) b rfl), h.rng⟩
theorem ByteS.old {w : World} {a : Option Addr} {l : List Int} (h : ByteS w a l) (hne : l ≠ []) : ∀ b, blk a = Option.some b → b < w.heap.size := by
  intro b hb
  obtain ⟨b', o, rfl⟩ := h.head hne
  simp only [blk_some, Option.some.injEq] at hb
  subst hb
  exact World.block_lt_of_cell? w _ (h.cell _ _ rfl 0 (List.length_pos_iff.2 hne))
theorem ByteS.take {w : World} {a : Option Addr} {l : List Int} (h : ByteS w a l) (n : Nat) : ByteS w a (l.take n) :=
  ⟨fun hne => h.head (by intro e; subst e; simp at hne), fun b o ha i hi => by
    rw [List.length_take] at hi
    rw [h.cell b o ha i (by omega)]
    simp [List.getD_eq_getElem?_getD, List.getElem?_take, show i < n by omega], fun x hx => h.rng x (List.mem_of_mem_take hx)⟩

/-- How many of the first n numbers have p. -/
def cntp (p : Nat → Prop) [DecidablePred p] : Nat → Nat
  | 0 => 0
  | n + 1 => cntp p n + if p n then 1 else 0
theorem cntp_le (p : Nat → Prop) [DecidablePred p] (n : Nat) : cntp p n ≤ n := by
  induction n with
  | zero => exact Nat.le_refl 0
  | succ n ih => simp only [cntp]; split <;> omega
/-- Integers in a block of their own, from its start on. -/
def CellsAt (w : World) (cb n : Nat) (h : Nat → Int) : Prop := ∀ i, i < n → w.cell? ⟨cb, i, none⟩ = some (.int .i64 (h i))
theorem CellsAt.ext {w w' : World} {cb n : Nat} {h : Nat → Int} (c : CellsAt w cb n h) (e : Ext w w') : CellsAt w' cb n h := fun i hi => e.cell (c i hi)
theorem OwnS.cellsAt {w : World} {e n c cb : Nat} {l : List Int} (o : OwnS w e 1 (.some ⟨cb, 0, none⟩) n c (vi l)) : CellsAt w cb n fun i => l.getD i 0 := fun i hi => by
  have hn := o.1
  rw [vi_len] at hn
  rw [o.cell (by omega), vi_get l i (by omega)]
theorem CellsAt.grow {ob : Option Nat} {w w' : World} {cb n : Nat} {h : Nat → Int} (c : CellsAt w cb n h) (g : Grow ob w w') (hne : ob ≠ some cb) : CellsAt w' cb n h := fun i hi => g.cell (c i hi) hne
theorem CellsAt.lt {w : World} {cb n : Nat} {h : Nat → Int} (c : CellsAt w cb n h) (hn : 0 < n) : cb < w.heap.size := World.block_lt_of_cell? w _ (c 0 hn)
def lvok (rows : List (List Int)) (lv : Int) : Bool := gvalid rows && decide (0 ≤ lv ∧ lv ≤ 99)

end Go.SW
