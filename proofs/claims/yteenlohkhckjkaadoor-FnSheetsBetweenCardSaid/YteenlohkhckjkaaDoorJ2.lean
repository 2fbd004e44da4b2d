/- J2: the texts G F G2 Ca Cb Cc Cd Ce Cf D1 D2 as one. -/
import Derived.Test.YteenlohkhckjkaaDoorJ1
import Derived.Test.YteenlohkhckjkaaDoorChecked
import Derived.Test.YteenlohkhckjkaaDoorJ3
import Derived.Test.YteenlohkhckjkaaDoorSwi
set_option linter.all false
set_option maxRecDepth 20000
/- What slices of integers and slices of slices read as. No program occurs here. -/
namespace Go.SW
open Go Go.RowKit

def vi (l : List Int) : List Value := l.map (Value.int .i64)
theorem vi_snoc (l : List Int) (x : Int) : vi l ++ [.int .i64 x] = vi (l ++ [x]) := by simp [vi]
theorem vi_len (l : List Int) : (vi l).length = l.length := by simp [vi]
theorem vi_get (l : List Int) (i : Nat) (h : i < l.length) : (vi l)[i]? = some (.int .i64 (l.getD i 0)) := by simp [vi, h]

theorem vi_ext {xs : List Value} {l : List Int} (hn : xs.length = l.length) (h : ∀ j, j < l.length → xs[j]? = some (.int .i64 (l.getD j 0))) : xs = vi l := by
  apply List.ext_getElem?
  intro j
  by_cases hj : j < l.length
  · rw [h j hj, vi_get l j hj]
  · rw [List.getElem?_eq_none (by omega), List.getElem?_eq_none (by rw [vi_len]; omega)]
theorem set_get {xs : List Value} {k : Nat} {v : Value} (P : Nat → Value) (hk : k < xs.length) (hv : v = P k) (h : ∀ j, j < k → xs[j]? = some (P j)) : ∀ j, j < k + 1 → (xs.set k v)[j]? = some (P j) := by
  intro j hj
  rw [List.getElem?_set]
  by_cases e : k = j
  · subst e; simp [hk, hv]
  · rw [if_neg e]; exact h j (by omega)

theorem maxLen_le {n : Nat} (h : n ≤ maxLen) : (n : Int) ≤ 9223372036854775807 := by simp [maxLen] at h; omega

/-- An int of Go's. -/
def I64 (x : Int) : Prop := -9223372036854775808 ≤ x ∧ x ≤ 9223372036854775807

/-- A slice of integers at a that reads as l. -/
structure IntS (w : World) (a : Option Addr) (l : List Int) : Prop where
  head : l ≠ [] → ∃ b o, a = some ⟨b, o, none⟩
  cell : ∀ b o, a = some ⟨b, o, none⟩ → ∀ i : Nat, i < l.length → w.cell? ⟨b, o + i, none⟩ = some (.int .i64 (l.getD i 0))

theorem IntS.kept {w w' : World} {a : Option Addr} {l : List Int} (h : IntS w a l) (hk : ∀ b, blk a = some b → b < w.heap.size → w'.heap[b]? = w.heap[b]?) : IntS w' a l :=
  ⟨h.head, fun b o ha i h1 => by
    have hc := h.cell b o ha i h1
    rw [World.cell?_of_block (w := w) (hk b (by rw [ha]; rfl) (World.block_lt_of_cell? w _ hc)), hc]⟩
theorem IntS.ext {w w' : World} {a : Option Addr} {l : List Int} (h : IntS w a l) (e : Ext w w') : IntS w' a l := h.kept fun b _ hb => Below.block e b hb
theorem IntS.grow {ob : Option Nat} {w w' : World} {a : Option Addr} {l : List Int} (h : IntS w a l) (g : Grow ob w w') (hne : ∀ b, blk a = some b → ob ≠ some b) : IntS w' a l :=
  h.kept fun b hb hlt => g.other b hlt (hne b hb)
theorem IntS.nil (w : World) (a : Option Addr) : IntS w a [] := ⟨fun h => absurd rfl h, fun _ _ _ i h1 => by simp at h1⟩
theorem OwnS.ints {w : World} {e n c : Nat} {a : Option Addr} {l : List Int} (h : OwnS w e 1 a n c (vi l)) : IntS w a l := by
  have hn : l.length = n := by have := h.1; rw [vi_len] at this; omega
  refine ⟨fun hne => ?_, fun b o ha i h1 => ?_⟩
  · obtain ⟨b, rfl⟩ := h.some (by rw [← hn]; exact List.length_pos_iff.2 hne)
    exact ⟨b, 0, rfl⟩
  · obtain ⟨b', rfl⟩ := h.some (by omega)
    simp only [Option.some.injEq, Addr.mk.injEq] at ha
    obtain ⟨rfl, rfl, _⟩ := ha
    rw [Nat.zero_add, h.cell (by omega), vi_get l i h1]

/-- A slice of slices of integers at a: row r is the slice at A r, with room for Cp r. -/
structure RowsAt (w : World) (a : Option Addr) (rows : List (List Int)) (A : Nat → Option Addr) (Cp : Nat → Nat) : Prop where
  head : rows ≠ [] → ∃ b o, a = some ⟨b, o, none⟩
  row : ∀ b o, a = some ⟨b, o, none⟩ → ∀ r : Nat, r < rows.length → w.cell? ⟨b, o + r, none⟩ = some (.slice (A r) (rows.getD r []).length (Cp r))
  ints : ∀ r, r < rows.length → IntS w (A r) (rows.getD r [])
  i64 : ∀ l ∈ rows, ∀ x ∈ l, I64 x
  len : ∀ l ∈ rows, l.length ≤ maxLen
  lens : rows.length ≤ maxLen

theorem RowsAt.ext {w w' : World} {a : Option Addr} {rows : List (List Int)} {A : Nat → Option Addr} {Cp : Nat → Nat} (h : RowsAt w a rows A Cp) (e : Ext w w') : RowsAt w' a rows A Cp :=
  ⟨h.head, fun b o ha r h1 => e.cell (h.row b o ha r h1), fun r hr => (h.ints r hr).ext e, h.i64, h.len, h.lens⟩

/-- A slice of slices of integers that a call has made for itself, from block B on, its outer block b: no two rows share a block. -/
structure OwnRows (w : World) (eo ei B b : Nat) (rows : List (List Int)) (A : Nat → Option Addr) : Prop where
  top : ∃ xs, OwnS w eo 1 (some ⟨b, 0, none⟩) rows.length rows.length xs ∧ ∀ r, r < rows.length → xs[r]? = some (.slice (A r) (rows.getD r []).length (rows.getD r []).length)
  hb : B ≤ b
  row : ∀ r, r < rows.length → ∃ br, A r = some ⟨br, 0, none⟩ ∧ B ≤ br ∧ br ≠ b ∧ OwnS w ei 1 (A r) (rows.getD r []).length (rows.getD r []).length (vi (rows.getD r []))
  inj : ∀ r s, r < rows.length → s < rows.length → blk (A r) = blk (A s) → r = s

theorem OwnRows.ext {w w' : World} {eo ei B b : Nat} {rows : List (List Int)} {A : Nat → Option Addr} (h : OwnRows w eo ei B b rows A) (e : Ext w w') : OwnRows w' eo ei B b rows A :=
  ⟨let ⟨xs, o, hx⟩ := h.top; ⟨xs, o.ext e, hx⟩, h.hb, fun r hr => let ⟨br, h1, h2, h3, o⟩ := h.row r hr; ⟨br, h1, h2, h3, o.ext e⟩, h.inj⟩
theorem OwnRows.at {w : World} {eo ei B b : Nat} {rows : List (List Int)} {A : Nat → Option Addr} (h : OwnRows w eo ei B b rows A) (hi : ∀ l ∈ rows, ∀ x ∈ l, I64 x) (hn : rows.length ≤ maxLen)
    (hl : ∀ l ∈ rows, l.length ≤ maxLen) : RowsAt w (some ⟨b, 0, none⟩) rows A (fun r => (rows.getD r []).length) := by
  obtain ⟨xs, o, hx⟩ := h.top
  refine ⟨fun _ => ⟨b, 0, rfl⟩, fun b' o' ha r hr => ?_, fun r hr => ?_, hi, hl, hn⟩
  · simp only [Option.some.injEq, Addr.mk.injEq] at ha
    obtain ⟨rfl, rfl, _⟩ := ha
    rw [Nat.zero_add, o.cell (by omega), hx r hr]
  · obtain ⟨br, _, _, _, o'⟩ := h.row r hr
    exact o'.ints

/-- A slice of slices of integers that reads as the grid h of R rows and C columns. -/
structure GridAt (w : World) (gb go : Nat) (rb ro rc : Nat → Nat) (R C : Nat) (h : Nat → Int) : Prop where
  row : ∀ r : Nat, r < R → w.cell? ⟨gb, go + r, none⟩ = some (.slice (some ⟨rb r, ro r, none⟩) C (rc r))
  cell : ∀ r c : Nat, r < R → c < C → w.cell? ⟨rb r, ro r + c, none⟩ = some (.int .i64 (h (r * C + c)))
theorem GridAt.ext {w w' : World} {gb go : Nat} {rb ro rc : Nat → Nat} {R C : Nat} {h : Nat → Int} (g : GridAt w gb go rb ro rc R C h) (e : Ext w w') : GridAt w' gb go rb ro rc R C h :=
  ⟨fun r h1 => e.cell (g.row r h1), fun r c h1 h3 => e.cell (g.cell r c h1 h3)⟩

/-! ## grids as lists -/
def rowLen (rows : List (List Int)) : Nat := (rows.getD 0 []).length
def gvalid (rows : List (List Int)) : Bool :=
  decide (1 ≤ rows.length ∧ rows.length ≤ 7 ∧ 1 ≤ rowLen rows ∧ rowLen rows ≤ 7) && rows.all fun l => decide (l.length = rowLen rows) && l.all fun x => decide (0 ≤ x ∧ x ≤ 99)
/-- The height of a cell by its index. -/
def hgt (rows : List (List Int)) (i : Nat) : Int := (rows.getD (i / rowLen rows) []).getD (i % rowLen rows) 0

structure Valid (rows : List (List Int)) : Prop where
  r1 : 1 ≤ rows.length
  r7 : rows.length ≤ 7
  c1 : 1 ≤ rowLen rows
  c7 : rowLen rows ≤ 7
  len : ∀ r, r < rows.length → (rows.getD r []).length = rowLen rows
  cell : ∀ r c, r < rows.length → c < rowLen rows → 0 ≤ (rows.getD r []).getD c 0 ∧ (rows.getD r []).getD c 0 ≤ 99

theorem getD_at {α : Type} (l : List α) (d : α) {i : Nat} (h : i < l.length) : l.getD i d = l[i] := by simp [h]
theorem getD_mem {α : Type} {l : List α} {i : Nat} {d : α} (h : i < l.length) : l.getD i d ∈ l := by
  rw [getD_at l d h]; exact List.getElem_mem h

theorem gvalid_iff (rows : List (List Int)) : gvalid rows = true ↔ Valid rows := by
  simp only [gvalid, Bool.and_eq_true, decide_eq_true_eq, List.all_eq_true]
  constructor
  · intro ⟨⟨a, b, c, d⟩, h⟩
    refine ⟨a, b, c, d, fun r hr => (h _ (getD_mem hr)).1, fun r c hr hc => ?_⟩
    have h2 := h _ (getD_mem (d := []) hr)
    exact h2.2 _ (getD_mem (by rw [h2.1]; exact hc))
  · intro v
    refine ⟨⟨v.r1, v.r7, v.c1, v.c7⟩, fun l hl => ?_⟩
    obtain ⟨r, hr, rfl⟩ := List.getElem_of_mem hl
    have e : rows.getD r [] = rows[r] := getD_at rows [] hr
    refine ⟨by rw [← e]; exact v.len r hr, fun x hx => ?_⟩
    obtain ⟨c, hc, rfl⟩ := List.getElem_of_mem hx
    have := v.cell r c hr (by rw [← v.len r hr, e]; exact hc)
    rw [e, getD_at _ _ hc] at this
    exact this

theorem div_row (C r c : Nat) (h1 : c < C) : (r * C + c) / C = r ∧ (r * C + c) % C = c := by
  have hC : 0 < C := by omega
  constructor
  · rw [Nat.mul_comm, Nat.mul_add_div hC, Nat.div_eq_of_lt h1, Nat.add_zero]
  · rw [Nat.mul_comm, Nat.mul_add_mod, Nat.mod_eq_of_lt h1]

theorem RowsAt.grid {w : World} {a : Option Addr} {rows : List (List Int)} {A : Nat → Option Addr} {Cp : Nat → Nat} (h : RowsAt w a rows A Cp) (v : Valid rows) :
    ∃ gb go rb ro, a = some ⟨gb, go, none⟩ ∧ (∀ r, r < rows.length → A r = some ⟨rb r, ro r, none⟩) ∧ GridAt w gb go rb ro Cp rows.length (rowLen rows) (hgt rows) := by
  obtain ⟨gb, go, rfl⟩ := h.head (by intro e; have := v.r1; rw [e] at this; simp at this)
  have hA : ∀ r, r < rows.length → ∃ b o, A r = some ⟨b, o, none⟩ := fun r hr => (h.ints r hr).head (by
    intro e; have := v.len r hr; have := v.c1; rw [e] at *; simp at *; omega)
  let rb : Nat → Nat := fun r => ((A r).map (·.block)).getD 0
  let ro : Nat → Nat := fun r => ((A r).map (·.off)).getD 0
  have hA' : ∀ r, r < rows.length → A r = some ⟨rb r, ro r, none⟩ := fun r hr => by
    obtain ⟨b, o, e⟩ := hA r hr; simp only [rb, ro, e, Option.map_some, Option.getD_some]
  refine ⟨gb, go, rb, ro, rfl, hA', fun r h1 => ?_, fun r c h1 h3 => ?_⟩
  · rw [h.row gb go rfl r h1, hA' r h1, v.len r h1]
  · have := (h.ints r h1).cell _ _ (hA' r h1) c (by rw [v.len _ h1]; exact h3)
    rw [this]
    obtain ⟨e1, e2⟩ := div_row (rowLen rows) r c h3
    simp only [hgt, e1, e2]

/-- An index of a grid, taken apart as Go does it. -/
theorem idx_div {i : Int} {R C : Nat} (h0 : 0 ≤ i) (h : i < (R * C : Nat)) : i / C < R ∧ 0 ≤ i / C ∧ i % C < C ∧ 0 ≤ i % C ∧ 0 < C ∧ 0 < R ∧ (i / C).toNat * C + (i % C).toNat = i.toNat := by
  obtain ⟨n, rfl⟩ := Int.eq_ofNat_of_zero_le h0
  have h' : n < R * C := by omega
  have hC : 0 < C := Nat.pos_of_ne_zero fun e => by subst e; simp at h'
  have hR : 0 < R := Nat.pos_of_ne_zero fun e => by subst e; simp at h'
  have hq : n / C < R := Nat.div_lt_of_lt_mul (by rw [Nat.mul_comm]; exact h')
  have hm : n % C < C := Nat.mod_lt _ hC
  have e1 : (n : Int) / C = ((n / C : Nat) : Int) := rfl
  have e2 : (n : Int) % C = ((n % C : Nat) : Int) := rfl
  rw [e1, e2]
  refine ⟨Int.ofNat_lt.2 hq, Int.natCast_nonneg _, Int.ofNat_lt.2 hm, Int.natCast_nonneg _, hC, hR, ?_⟩
  simp only [Int.toNat_natCast]
  rw [Nat.mul_comm]; exact Nat.div_add_mod n C

/-- A slice of bytes at a that reads as l. -/
structure ByteS (w : World) (a : Option Addr) (l : List Int) : Prop where
  head : l ≠ [] → ∃ b o, a = Option.some ⟨b, o, none⟩
  cell : ∀ b o, a = Option.some ⟨b, o, none⟩ → ∀ i : Nat, i < l.length → w.cell? ⟨b, o + i, none⟩ = Option.some (.int .u8 (l.getD i 0))
  rng : ∀ x ∈ l, 0 ≤ x ∧ x ≤ 255
theorem ByteS.ext {w w' : World} {a : Option Addr} {l : List Int} (h : ByteS w a l) (e : Ext w w') : ByteS w' a l :=
  ⟨h.head, fun b o ha i hi => e.cell (h.cell b o ha i hi), h.rng⟩
theorem ByteS.grow {ob : Option Nat} {w w' : World} {a : Option Addr} {l : List Int} (h : ByteS w a l) (g : Grow ob w w') (hne : l ≠ [] → ∀ b, blk a = Option.some b → ob ≠ Option.some b) : ByteS w' a l :=
  ⟨h.head, fun b o ha i hi => g.cell (h.cell b o ha i hi) (by subst ha; exact hne (by intro e; subst e; simp at hi) b rfl), h.rng⟩
theorem ByteS.old {w : World} {a : Option Addr} {l : List Int} (h : ByteS w a l) (hne : l ≠ []) : ∀ b, blk a = Option.some b → b < w.heap.size := by
  intro b hb
  obtain ⟨b', o, rfl⟩ := h.head hne
  simp only [blk_some, Option.some.injEq] at hb
  subst hb
  exact World.block_lt_of_cell? w _ (h.cell _ _ rfl 0 (List.length_pos_iff.2 hne))
theorem ByteS.take {w : World} {a : Option Addr} {l : List Int} (h : ByteS w a l) (n : Nat) : ByteS w a (l.take n) :=
  ⟨fun hne => h.head (by intro e; subst e; simp at hne), fun b o ha i hi => by
    rw [List.length_take] at hi
    rw [h.cell b o ha i (by omega)]
    simp [List.getD_eq_getElem?_getD, List.getElem?_take, show i < n by omega], fun x hx => h.rng x (List.mem_of_mem_take hx)⟩

/-- How many of the first n numbers have p. -/
def cntp (p : Nat → Prop) [DecidablePred p] : Nat → Nat
  | 0 => 0
  | n + 1 => cntp p n + if p n then 1 else 0
theorem cntp_le (p : Nat → Prop) [DecidablePred p] (n : Nat) : cntp p n ≤ n := by
  induction n with
  | zero => exact Nat.le_refl 0
  | succ n ih => simp only [cntp]; split <;> omega
/-- Integers in a block of their own, from its start on. -/
def CellsAt (w : World) (cb n : Nat) (h : Nat → Int) : Prop := ∀ i, i < n → w.cell? ⟨cb, i, none⟩ = some (.int .i64 (h i))
theorem CellsAt.ext {w w' : World} {cb n : Nat} {h : Nat → Int} (c : CellsAt w cb n h) (e : Ext w w') : CellsAt w' cb n h := fun i hi => e.cell (c i hi)
theorem OwnS.cellsAt {w : World} {e n c cb : Nat} {l : List Int} (o : OwnS w e 1 (.some ⟨cb, 0, none⟩) n c (vi l)) : CellsAt w cb n fun i => l.getD i 0 := fun i hi => by
  have hn := o.1
  rw [vi_len] at hn
  rw [o.cell (by omega), vi_get l i (by omega)]
theorem CellsAt.grow {ob : Option Nat} {w w' : World} {cb n : Nat} {h : Nat → Int} (c : CellsAt w cb n h) (g : Grow ob w w') (hne : ob ≠ some cb) : CellsAt w' cb n h := fun i hi => g.cell (c i hi) hne
theorem CellsAt.lt {w : World} {cb n : Nat} {h : Nat → Int} (c : CellsAt w cb n h) (hn : 0 < n) : cb < w.heap.size := World.block_lt_of_cell? w _ (c 0 hn)
def lvok (rows : List (List Int)) (lv : Int) : Bool := gvalid rows && decide (0 ≤ lv ∧ lv ≤ 99)

end Go.SW

/- Facts on the types of this seat. Written by a program of ours. -/
namespace Go.Proofs.YteenlohkhckjkaaDoor
open Go.RowKit Go.SW

theorem esz_i : esz Tryd.prog 66 = some 1 := by kernel_rfl
theorem isl_i : isSl Tryd.prog 66 = true := by kernel_rfl
theorem elt_i : elt Tryd.prog 66 = some (3, 1, .int .i64 0, 8) := by kernel_rfl
attribute [go_sem] esz_i isl_i
theorem esz_b : esz Tryd.prog 33 = some 1 := by kernel_rfl
theorem isl_b : isSl Tryd.prog 33 = true := by kernel_rfl
theorem elt_b : elt Tryd.prog 33 = some (5, 1, .int .u8 0, 1) := by kernel_rfl
attribute [go_sem] esz_b isl_b
theorem esz_s : esz Tryd.prog 27 = some 1 := by kernel_rfl
theorem isl_s : isSl Tryd.prog 27 = true := by kernel_rfl
attribute [go_sem] esz_s isl_s
theorem scal_int : scal Tryd.prog 3 = true := by kernel_rfl
theorem siz_int : (Tryd.prog.info? 3).map (·.size) = some 1 := by kernel_rfl
attribute [go_sem] scal_int
theorem scal_u8 : scal Tryd.prog 5 = true := by kernel_rfl
theorem siz_u8 : (Tryd.prog.info? 5).map (·.size) = some 1 := by kernel_rfl
attribute [go_sem] scal_u8
theorem scal_bool : scal Tryd.prog 4 = true := by kernel_rfl
theorem siz_bool : (Tryd.prog.info? 4).map (·.size) = some 1 := by kernel_rfl
attribute [go_sem] scal_bool
theorem scal_str : scal Tryd.prog 9 = true := by kernel_rfl
theorem siz_str : (Tryd.prog.info? 9).map (·.size) = some 1 := by kernel_rfl
attribute [go_sem] scal_str
theorem scal_i : scal Tryd.prog 66 = true := by kernel_rfl
theorem siz_i : (Tryd.prog.info? 66).map (·.size) = some 1 := by kernel_rfl
attribute [go_sem] scal_i
theorem scal_b : scal Tryd.prog 33 = true := by kernel_rfl
theorem siz_b : (Tryd.prog.info? 33).map (·.size) = some 1 := by kernel_rfl
attribute [go_sem] scal_b
theorem scal_s : scal Tryd.prog 27 = true := by kernel_rfl
theorem siz_s : (Tryd.prog.info? 27).map (·.size) = some 1 := by kernel_rfl
attribute [go_sem] scal_s
theorem aggN_rd : aggN Tryd.prog 77 = some 2 := by kernel_rfl
theorem scal_rd : scal Tryd.prog 77 = false := by kernel_rfl
theorem foff_rd0 : foff Tryd.prog 77 0 = some 0 := by kernel_rfl
theorem foff_rd1 : foff Tryd.prog 77 1 = some 1 := by kernel_rfl
theorem bld_rd (x : Option Addr) (n c : Nat) : buildV Tryd.prog 77 [(0, .slice x n c)] = some (.agg #[.slice x n c, .int .i64 0]) := by kernel_rfl
theorem cv_u8 (x : Int) : cvV Tryd.prog 5 3 (.int .u8 x) = some (.int .i64 (IntKind.i64.wrap x)) := by kernel_rfl
attribute [go_sem] aggN_rd scal_rd foff_rd0 foff_rd1 bld_rd cv_u8

end Go.Proofs.YteenlohkhckjkaaDoor

/- Slices of slices that a draw function builds by append. No program occurs here. -/
namespace Go.SW
open Go Go.RowKit

theorem Grow.fresh {ob oc : Option Nat} {w w1 w2 : World} (h : Grow ob w w1) (k : Grow oc w1 w2) (hb : ∀ b, oc = some b → w.heap.size ≤ b) : Grow ob w w2 :=
  ⟨k.os.trans h.os, k.tape.trans h.tape, k.output.trans h.output, Nat.le_trans h.size k.size, fun i hi ho =>
    (k.other i (Nat.lt_of_lt_of_le hi h.size) (fun e => by have := hb i e; omega)).trans (h.other i hi ho)⟩
theorem Ext.fresh {ob : Option Nat} {w w1 w2 : World} (h : Grow ob w w1) (k : Ext w1 w2) : Grow ob w w2 := h.trans (k.grow ob)

structure BRows (w : World) (eo ei B : Nat) (a : Option Addr) (c : Nat) (rows : List (List Int)) (A : Nat → Option Addr) (Cp : Nat → Nat) : Prop where
  top : ∃ xs, OwnS w eo 1 a rows.length c xs ∧ ∀ r, r < rows.length → xs[r]? = some (.slice (A r) (rows.getD r []).length (Cp r))
  ha : ∀ b, blk a = some b → B ≤ b
  row : ∀ r, r < rows.length → OwnS w ei 1 (A r) (rows.getD r []).length (Cp r) (vi (rows.getD r []))
  far : ∀ r, r < rows.length → ∀ b, blk (A r) = some b → B ≤ b ∧ blk a ≠ some b
  inj : ∀ r s, r < rows.length → s < rows.length → ∀ b, blk (A r) = some b → blk (A s) = some b → r = s

variable {w w' : World} {eo ei B c : Nat} {a : Option Addr} {rows : List (List Int)} {A : Nat → Option Addr} {Cp : Nat → Nat}

theorem BRows.ext (h : BRows w eo ei B a c rows A Cp) (e : Ext w w') : BRows w' eo ei B a c rows A Cp :=
  ⟨let ⟨xs, o, hx⟩ := h.top; ⟨xs, o.ext e, hx⟩, h.ha, fun r hr => (h.row r hr).ext e, h.far, h.inj⟩
theorem BRows.other {ob : Option Nat} (h : BRows w eo ei B a c rows A Cp) (g : Grow ob w w') (hne : ∀ b, B ≤ b → (blk a = some b ∨ ∃ r, r < rows.length ∧ blk (A r) = some b) → ob ≠ some b) : BRows w' eo ei B a c rows A Cp :=
  ⟨let ⟨xs, o, hx⟩ := h.top; ⟨xs, o.grow g (fun b hb => hne b (h.ha b hb) (.inl hb)), hx⟩, h.ha, fun r hr => (h.row r hr).grow g (fun b hb => hne b (h.far r hr b hb).1 (.inr ⟨r, hr, hb⟩)), h.far, h.inj⟩
theorem BRows.low {rb : Nat} (h : BRows w eo ei B a c rows A Cp) (g : Grow (some rb) w w') (hrb : rb < B) : BRows w' eo ei B a c rows A Cp :=
  h.other g fun b hb _ e => by simp only [Option.some.injEq] at e; omega
theorem BRows.up {B' : Nat} (h : BRows w eo ei B a c rows A Cp) (hB : B' ≤ B) : BRows w eo ei B' a c rows A Cp :=
  ⟨h.top, fun b hb => Nat.le_trans hB (h.ha b hb), h.row, fun r hr b hb => ⟨Nat.le_trans hB (h.far r hr b hb).1, (h.far r hr b hb).2⟩, h.inj⟩
theorem vi_set (l : List Int) (i : Nat) (x : Int) : (vi l).set i (.int .i64 x) = vi (l.set i x) := by simp [vi]
theorem BRows.lt (h : BRows w eo ei B a c rows A Cp) {b : Nat} (hb : blk a = some b ∨ ∃ r, r < rows.length ∧ blk (A r) = some b) : b < w.heap.size := by
  rcases hb with hb | ⟨r, hr, hb⟩
  · obtain ⟨xs, o, _⟩ := h.top; exact o.blk_lt hb
  · exact (h.row r hr).blk_lt hb
theorem BRows.nil (o : OwnS w eo 1 a 0 c []) (ha : ∀ b, blk a = some b → B ≤ b) (A : Nat → Option Addr) (Cp : Nat → Nat) : BRows w eo ei B a c [] A Cp :=
  ⟨⟨[], by simpa using o, fun r hr => by simp at hr⟩, ha, fun r hr => by simp at hr, fun r hr => by simp at hr, fun r s hr => by simp at hr⟩

/-- A new row has been appended. -/
theorem BRows.push (h : BRows w eo ei B a c rows A Cp) {aN : Option Addr} {cN : Nat} {l : List Int} (hN : OwnS w ei 1 aN l.length cN (vi l)) (fN : ∀ b, blk aN = some b → B ≤ b ∧ blk a ≠ some b ∧ ∀ r, r < rows.length → blk (A r) ≠ some b)
    {xs : List Value} (hx : OwnS w eo 1 a rows.length c xs) (hxs : ∀ r, r < rows.length → xs[r]? = some (.slice (A r) (rows.getD r []).length (Cp r)))
    {a' : Option Addr} {c' : Nat} (o : OwnS w' eo 1 a' (rows.length + 1) c' (xs ++ [.slice aN l.length cN])) (g : Grow (blk a) w w') (hf : ∀ b, blk a' = some b → blk a = some b ∨ w.heap.size ≤ b) (hB : B ≤ w.heap.size) :
    BRows w' eo ei B a' c' (rows ++ [l]) (fun r => if r = rows.length then aN else A r) (fun r => if r = rows.length then cN else Cp r) := by
  have hxl : xs.length = rows.length := by rw [hx.1]; omega
  have lt : ∀ r, r < (rows ++ [l]).length → r = rows.length ∨ r < rows.length := fun r hr => by simp at hr; omega
  have g1 : ∀ r, r < rows.length → (rows ++ [l]).getD r [] = rows.getD r [] := fun r hr => by simp [List.getElem?_append_left hr]
  have g2 : (rows ++ [l]).getD rows.length [] = l := by simp
  refine ⟨⟨_, by simpa using o, fun r hr => ?_⟩, fun b hb => ?_, fun r hr => ?_, fun r hr b hb => ?_, fun r s hr hs b h1 h2 => ?_⟩
  · rcases lt r hr with rfl | hr
    · simp only [if_true, g2]
      rw [List.getElem?_append_right (by omega), hxl]; simp
    · rw [if_neg (by omega), if_neg (by omega), g1 r hr, List.getElem?_append_left (by omega)]
      exact hxs r hr
  · rcases hf b hb with h1 | h1
    · exact h.ha b h1
    · omega
  · rcases lt r hr with rfl | hr
    · simp only [if_true, g2]
      exact hN.grow g fun b hb e => (fN b hb).2.1 e
    · rw [if_neg (by omega), if_neg (by omega), g1 r hr]
      exact (h.row r hr).grow g fun b hb e => (h.far r hr b hb).2 e
  · rcases lt r hr with rfl | hr
    · simp only [if_true] at hb
      refine ⟨(fN b hb).1, fun e => ?_⟩
      rcases hf b e with h1 | h1
      · exact (fN b hb).2.1 h1
      · have := hN.blk_lt hb; omega
    · rw [if_neg (by omega)] at hb
      refine ⟨(h.far r hr b hb).1, fun e => ?_⟩
      rcases hf b e with h1 | h1
      · exact (h.far r hr b hb).2 h1
      · have := (h.row r hr).blk_lt hb; omega
  · rcases lt r hr with rfl | hr <;> rcases lt s hs with rfl | hs
    · rfl
    · simp only [if_true] at h1
      rw [if_neg (by omega)] at h2
      exact absurd h2 ((fN b h1).2.2 s hs)
    · simp only [if_true] at h2
      rw [if_neg (by omega)] at h1
      exact absurd h1 ((fN b h2).2.2 r hr)
    · rw [if_neg (by omega)] at h1 h2
      exact h.inj r s hr hs b h1 h2

theorem BRows.at (h : BRows w eo ei B a c rows A Cp) (hi : ∀ l ∈ rows, ∀ x ∈ l, I64 x) (hn : rows.length ≤ maxLen) (hl : ∀ l ∈ rows, l.length ≤ maxLen) : RowsAt w a rows A Cp := by
  obtain ⟨xs, o, hx⟩ := h.top
  refine ⟨fun hne => ?_, fun b' o' ha r hr => ?_, fun r hr => (h.row r hr).ints, hi, hl, hn⟩
  · obtain ⟨b, rfl⟩ := o.some (List.length_pos_iff.2 hne)
    exact ⟨b, 0, rfl⟩
  · obtain ⟨b, rfl⟩ := o.some (by omega)
    simp only [Option.some.injEq, Addr.mk.injEq] at ha
    obtain ⟨rfl, rfl, _⟩ := ha
    rw [Nat.zero_add, o.cell (by omega), hx r hr]

/-- Row r has been written, appended to or not. -/
theorem BRows.setRow (h : BRows w eo ei B a c rows A Cp) {r : Nat} (hr : r < rows.length) {l : List Int} (hlen : l.length = (rows.getD r []).length) (hN : OwnS w' ei 1 (A r) l.length (Cp r) (vi l)) (g : Grow (blk (A r)) w w') :
    BRows w' eo ei B a c (rows.set r l) A Cp := by
  have e1 : ∀ s, s < rows.length → (rows.set r l).getD s [] = if s = r then l else rows.getD s [] := fun s hs => by
    by_cases e : s = r
    · subst e; simp [hs]
    · rw [if_neg e]; simp only [List.getD_eq_getElem?_getD]; rw [List.getElem?_set_ne (Ne.symm e)]
  obtain ⟨xs, o, hx⟩ := h.top
  refine ⟨⟨xs, by rw [List.length_set]; exact o.grow g fun b hb e => (h.far r hr b e).2 hb, fun s hs => ?_⟩, h.ha, fun s hs => ?_, fun s hs => h.far s (by simpa using hs), fun s t hs ht => h.inj s t (by simpa using hs) (by simpa using ht)⟩
  · rw [List.length_set] at hs
    rw [hx s hs, e1 s hs]
    by_cases e : s = r
    · subst e; simp [hlen]
    · simp [e]
  · rw [List.length_set] at hs
    rw [e1 s hs]
    by_cases e : s = r
    · subst e; simpa using hN
    · rw [if_neg e]
      exact (h.row s hs).grow g fun b hb e' => e (h.inj s r hs hr b hb e')

/-- Row r has been replaced by another slice. -/
theorem BRows.put {w1 w2 : World} (h : BRows w eo ei B a c rows A Cp) {r : Nat} (hr : r < rows.length) {aN : Option Addr} {cN : Nat} {l : List Int} (hN : OwnS w1 ei 1 aN l.length cN (vi l)) (g1 : Grow (blk (A r)) w w1)
    (hf : ∀ b, blk aN = some b → blk (A r) = some b ∨ w.heap.size ≤ b) (hB : B ≤ w.heap.size) {xs : List Value} (hxs : ∀ r, r < rows.length → xs[r]? = some (.slice (A r) (rows.getD r []).length (Cp r))) (hx : OwnS w eo 1 a rows.length c xs)
    (o2 : OwnS w2 eo 1 a rows.length c (xs.set r (.slice aN l.length cN))) (g2 : Grow (blk a) w1 w2) :
    BRows w2 eo ei B a c (rows.set r l) (fun s => if s = r then aN else A s) (fun s => if s = r then cN else Cp s) := by
  have hxl : xs.length = rows.length := by rw [hx.1]; omega
  have e1 : ∀ s, s < rows.length → (rows.set r l).getD s [] = if s = r then l else rows.getD s [] := fun s hs => by
    by_cases e : s = r
    · subst e; simp [hs]
    · rw [if_neg e]; simp only [List.getD_eq_getElem?_getD]; rw [List.getElem?_set_ne (Ne.symm e)]
  have fN : ∀ b, blk aN = some b → B ≤ b ∧ blk a ≠ some b ∧ ∀ s, s < rows.length → s ≠ r → blk (A s) ≠ some b := fun b hb => by
    rcases hf b hb with h1 | h1
    · exact ⟨(h.far r hr b h1).1, (h.far r hr b h1).2, fun s hs hne e => hne (h.inj s r hs hr b e h1)⟩
    · exact ⟨by omega, fun e => by have := h.lt (.inl e); omega, fun s hs _ e => by have := h.lt (.inr ⟨s, hs, e⟩); omega⟩
  refine ⟨⟨_, by rw [List.length_set]; exact o2, fun s hs => ?_⟩, h.ha, fun s hs => ?_, fun s hs b hb => ?_, fun s t hs ht b h1 h2 => ?_⟩
  · rw [List.length_set] at hs
    rw [e1 s hs]
    by_cases e : s = r
    · subst e; simp [show s < xs.length by omega]
    · simp only [e, if_false]
      rw [List.getElem?_set_ne (Ne.symm e)]; exact hxs s hs
  · rw [List.length_set] at hs
    rw [e1 s hs]
    by_cases e : s = r
    · subst e
      simp only [if_true]
      exact hN.grow g2 fun b hb e => (fN b hb).2.1 e
    · simp only [e, if_false]
      exact ((h.row s hs).grow g1 fun b hb e' => e (h.inj s r hs hr b hb e')).grow g2 fun b hb e' => (h.far s hs b hb).2 e'
  · rw [List.length_set] at hs
    by_cases e : s = r
    · simp only [e, if_true] at hb; exact ⟨(fN b hb).1, (fN b hb).2.1⟩
    · simp only [e, if_false] at hb; exact h.far s hs b hb
  · rw [List.length_set] at hs ht
    by_cases e : s = r <;> by_cases e' : t = r
    · rw [e, e']
    · simp only [e, e', if_true, if_false] at h1 h2
      exact absurd h2 ((fN b h1).2.2 t ht e')
    · simp only [e, e', if_true, if_false] at h1 h2
      exact absurd h1 ((fN b h2).2.2 s hs e)
    · simp only [e, e', if_false] at h1 h2
      exact h.inj s t hs ht b h1 h2

theorem set_row (rows : List (List Int)) (j r : Nat) (x : List Int) (hr : r < rows.length) : (rows.set j x).getD r [] = if r = j then x else rows.getD r [] := by
  by_cases e : r = j
  · subst e; simp [hr]
  · rw [if_neg e]; simp only [List.getD_eq_getElem?_getD]; rw [List.getElem?_set_ne (Ne.symm e)]

end Go.SW

/- Contracts of the laws' helpers on slices of integers. -/
namespace Go.Proofs.YteenlohkhckjkaaDoor
open Go.RowKit Go.SW



end Go.Proofs.YteenlohkhckjkaaDoor

/- Contracts: grids, both sides. -/
namespace Go.SW
theorem gv_false {rows : List (List Int)} (h : ¬ Valid rows) : gvalid rows = false := by
  cases hg : gvalid rows with
  | false => rfl
  | true => exact absurd ((gvalid_iff rows).1 hg) h
def hs (rows : List (List Int)) : List Int := (List.range (rows.length * rowLen rows)).map (hgt rows)
theorem hs_len (rows : List (List Int)) : (hs rows).length = rows.length * rowLen rows := by simp [hs]
theorem hs_get (rows : List (List Int)) (i : Nat) (h : i < rows.length * rowLen rows) : (hs rows).getD i 0 = hgt rows i := by simp [hs, h]
end Go.SW
namespace Go.Proofs.YteenlohkhckjkaaDoor
open Go.RowKit Go.SW

theorem l6In_c (n lo hi : Int) (w : World) :
    Ret Tryd.prog 46 #[.int .i64 n, .int .i64 lo, .int .i64 hi] w fun v w' => v = .bool (decide (lo ≤ n ∧ n ≤ hi)) ∧ Ext w w' := by
  refine enter3 Tryd.func46 rfl (by kernel_rfl) (of_decide_eq_true (by kernel_rfl)) fun f a0 a1 a2 => ?_
  by_cases h : lo ≤ n <;>
    simp only [go_sem, Nat.reduceEqDiff, ↓reduceIte, a0, a1, a2, h, Tryd.results46, Ext.refl, and_true, true_and, false_and]

/-- What fieldOf hands back. -/
def FieldOf (w : World) (rows : List (List Int)) (v : Value) (w' : World) : Prop :=
  Ext w w' ∧ ((gvalid rows = true ∧ ∃ cb, v = .tuple #[.agg #[.int .i64 rows.length, .int .i64 (rowLen rows), .slice (some ⟨cb, 0, none⟩) (rows.length * rowLen rows) (rows.length * rowLen rows)], .bool true] ∧ w.heap.size ≤ cb ∧
      OwnS w' 3 1 (some ⟨cb, 0, none⟩) (rows.length * rowLen rows) (rows.length * rowLen rows) (vi (hs rows))) ∨
    (gvalid rows = false ∧ v = .tuple #[.agg #[.int .i64 0, .int .i64 0, .slice none 0 0], .bool false]))

end Go.Proofs.YteenlohkhckjkaaDoor

/- Contracts: spec.GridValid and the land of a level, both sides. -/
namespace Go.Proofs.YteenlohkhckjkaaDoor
open Go.RowKit Go.SW

end Go.Proofs.YteenlohkhckjkaaDoor

/- Contracts: levels and land, both sides; the law FnExactLevelLand. -/
namespace Go.Proofs.YteenlohkhckjkaaDoor
open Go.RowKit Go.SW

/-- What leveled hands back. -/
def Leveled (w : World) (rows : List (List Int)) (lv : Int) (v : Value) (w' : World) : Prop :=
  Ext w w' ∧ ((lvok rows lv = true ∧ ∃ cb, v = .tuple #[.agg #[.int .i64 rows.length, .int .i64 (rowLen rows), .slice (some ⟨cb, 0, none⟩) (rows.length * rowLen rows) (rows.length * rowLen rows)], .bool true] ∧ w.heap.size ≤ cb ∧
      CellsAt w' cb (rows.length * rowLen rows) (hgt rows)) ∨
    (lvok rows lv = false ∧ v = .tuple #[.agg #[.int .i64 0, .int .i64 0, .slice none 0 0], .bool false]))

/-- What LevelLand answers. -/
def landOf (rows : List (List Int)) (lv : Int) : Int := if lvok rows lv = true then (cntp (fun i => lv ≤ hgt rows i) (rows.length * rowLen rows) : Nat) else -1

theorem lv_le {rows : List (List Int)} {lv : Int} (h : lvok rows lv = true) : rows.length * rowLen rows ≤ 49 := by
  simp only [lvok, Bool.and_eq_true] at h
  have v := (gvalid_iff rows).1 h.1
  exact Nat.mul_le_mul v.r7 v.c7

end Go.Proofs.YteenlohkhckjkaaDoor

/- Contracts: the range of a grid and the greatest level, both sides. -/
namespace Go.SW
/-- The least and the greatest of the first n numbers and of the first one. -/
def mnN (h : Nat → Int) : Nat → Int
  | 0 => h 0
  | n + 1 => min (mnN h n) (h n)
def mxN (h : Nat → Int) : Nat → Int
  | 0 => h 0
  | n + 1 => max (mxN h n) (h n)
theorem mxN_ge (h : Nat → Int) : ∀ (n i : Nat), i < n → h i ≤ mxN h n
  | n + 1, i, hi => by
    simp only [mxN]
    by_cases e : i = n
    · subst e; omega
    · have := mxN_ge h n i (by omega); omega
theorem mxN_at (h : Nat → Int) : ∀ (n : Nat), 0 < n → ∃ i, i < n ∧ mxN h n = h i
  | n + 1, _ => by
    simp only [mxN]
    by_cases h0 : n = 0
    · subst h0; exact ⟨0, by omega, by simp [mxN]⟩
    · obtain ⟨i, hi, e⟩ := mxN_at h n (by omega)
      by_cases hm : mxN h n ≤ h n
      · exact ⟨n, by omega, by omega⟩
      · exact ⟨i, by omega, by omega⟩
theorem cntp_pos (p : Nat → Prop) [DecidablePred p] : ∀ (n i : Nat), i < n → p i → 1 ≤ cntp p n
  | n + 1, i, hi, hp => by
    simp only [cntp]
    by_cases e : i = n
    · subst e; simp [hp]
    · have := cntp_pos p n i (by omega) hp; omega
theorem cntp_zero (p : Nat → Prop) [DecidablePred p] : ∀ (n : Nat), (∀ i, i < n → ¬ p i) → cntp p n = 0
  | 0, _ => rfl
  | n + 1, h => by
    simp only [cntp, cntp_zero p n (fun i hi => h i (by omega)), if_neg (h n (by omega))]
theorem cntp_le_of (p q : Nat → Prop) [DecidablePred p] [DecidablePred q] (h : ∀ i, p i → q i) : ∀ n, cntp p n ≤ cntp q n
  | 0 => by simp [cntp]
  | n + 1 => by
    have ih := cntp_le_of p q h n
    simp only [cntp]
    by_cases hp : p n
    · rw [if_pos hp, if_pos (h n hp)]; omega
    · rw [if_neg hp]; omega
theorem cntp_all (p : Nat → Prop) [DecidablePred p] : ∀ n, (∀ i, i < n → p i) → cntp p n = n
  | 0, _ => rfl
  | n + 1, h => by simp only [cntp, cntp_all p n (fun i hi => h i (by omega)), if_pos (h n (by omega))]
theorem Valid.hgt {rows : List (List Int)} (v : Valid rows) (i : Nat) (hi : i < rows.length * rowLen rows) : 0 ≤ hgt rows i ∧ hgt rows i ≤ 99 := by
  have hc := v.c1
  exact v.cell _ _ (Nat.div_lt_of_lt_mul (by rw [Nat.mul_comm]; exact hi)) (Nat.mod_lt _ (by omega))
end Go.SW
namespace Go.Proofs.YteenlohkhckjkaaDoor
open Go.RowKit Go.SW

/-- What GridRange answers. -/
def rangeOf (rows : List (List Int)) : Value :=
  if gvalid rows = true then .tuple #[.int .i64 (mnN (hgt rows) (rows.length * rowLen rows)), .int .i64 (mxN (hgt rows) (rows.length * rowLen rows)), .bool true] else .tuple #[.int .i64 0, .int .i64 0, .bool false]
def greatestOf (rows : List (List Int)) : Int := if gvalid rows = true then mxN (hgt rows) (rows.length * rowLen rows) else -1

end Go.Proofs.YteenlohkhckjkaaDoor

/- Contracts: reading a field's cell, turning a grid over. -/
namespace Go.Proofs.YteenlohkhckjkaaDoor
open Go.RowKit Go.SW

/-- A grid of R rows and C columns as a list of rows. -/
def mkRows (R C : Nat) (h : Nat → Int) : List (List Int) := (List.range R).map fun r => (List.range C).map fun c => h (r * C + c)
theorem mkRows_len (R C : Nat) (h : Nat → Int) : (mkRows R C h).length = R := by simp [mkRows]
theorem mkRows_get {R C : Nat} {h : Nat → Int} {r : Nat} (hr : r < R) : (mkRows R C h).getD r [] = (List.range C).map fun c => h (r * C + c) := by simp [mkRows, hr]

end Go.Proofs.YteenlohkhckjkaaDoor

/- The reader of the draw functions: open and pick; no program's law occurs here. -/
namespace Go.Proofs.YteenlohkhckjkaaDoor
open Go.RowKit Go.SW

/-- A reader at block rb that has been asked at most lim times; all that it reads lies below block B. -/
def Rdr (w : World) (rb B lim : Nat) : Prop :=
  ∃ (a : Option Addr) (l : List Int) (c p : Nat), Blk w rb #[.slice a l.length c, .int .i64 p] 77 ∧ ByteS w a l ∧ (l ≠ [] → ∀ b, blk a = some b → b < B ∧ b ≠ rb) ∧ l.length ≤ 2000 ∧ p ≤ lim ∧ rb < B
theorem Rdr.le {w : World} {rb B lim lim' : Nat} (h : Rdr w rb B lim) (hl : lim ≤ lim') : Rdr w rb B lim' := by
  obtain ⟨a, l, c, p, h1, h2, h3, h4, h5, h6⟩ := h; exact ⟨a, l, c, p, h1, h2, h3, h4, by omega, h6⟩
theorem Rdr.up {w : World} {rb B B' lim : Nat} (h : Rdr w rb B lim) (hl : B ≤ B') : Rdr w rb B' lim := by
  obtain ⟨a, l, c, p, h1, h2, h3, h4, h5, h6⟩ := h; exact ⟨a, l, c, p, h1, h2, fun hn b hb => by have := h3 hn b hb; omega, h4, by omega, by omega⟩
theorem Rdr.ext {w w' : World} {rb B lim : Nat} (h : Rdr w rb B lim) (e : Ext w w') : Rdr w' rb B lim := by
  obtain ⟨a, l, c, p, h1, h2, h3, h4, h5, h6⟩ := h; exact ⟨a, l, c, p, h1.ext e, h2.ext e, h3, h4, h5, h6⟩
theorem Rdr.below {w : World} {rb B lim : Nat} (h : Rdr w rb B lim) : rb < B := by
  obtain ⟨a, l, c, p, h1, h2, h3, h4, h5, h6⟩ := h; exact h6
theorem Rdr.fresh {ob : Option Nat} {w w' : World} {rb B lim : Nat} (h : Rdr w rb B lim) (g : Grow ob w w') (hB : ∀ b, ob = some b → B ≤ b) : Rdr w' rb B lim := by
  obtain ⟨a, l, c, p, h1, h2, h3, h4, h5, h6⟩ := h
  exact ⟨a, l, c, p, g.blk h1 (fun e => by have := hB _ e; omega), h2.grow g (fun hn b hb e => by have := hB _ e; have := h3 hn b hb; omega), h3, h4, h5, h6⟩

theorem pick_c (rb B lim : Nat) (n : Int) (w : World) (hr : Rdr w rb B lim) (hl : lim ≤ 1000000000) (hn : n ≤ 1000000000) :
    Ret Tryd.prog 54 #[.pointer (some ⟨rb, 0, none⟩), .int .i64 n] w fun v w' => ∃ k : Nat, v = .int .i64 k ∧ (k = 0 ∨ (k : Int) < n) ∧ Grow (some rb) w w' ∧ Rdr w' rb B (lim + 1) := by
  obtain ⟨a, l, c, p, hb, hs, hne, hlen, hp, hlow⟩ := hr
  refine enter2 Tryd.func54 rfl (by kernel_rfl) (of_decide_eq_true (by kernel_rfl)) fun f a0 a1 => ?_
  simp (disch := omega) only [go_sem, Nat.reduceEqDiff, ↓reduceIte, Nat.reduceAdd, a0, hb.cell]
  refine stK_blk siz_int (by rfl) (by rfl) hb (by simp) fun w1 b1 g1 => ?_
  have g := g1.grow
  have hs1 := hs.grow g fun hn b hb e => (hne hn b hb).2 (by simpa using e.symm)
  have hr1 : Rdr w1 rb B (lim + 1) := ⟨a, l, c, p + 1, by simpa using b1, hs1, hne, hlen, by omega, hlow⟩
  have b1 : Blk w1 rb #[.slice a l.length c, .int .i64 (p + 1 : Nat)] 77 := by simpa using b1
  clear hb hs
  by_cases hn1 : n < 1
  · simp (disch := omega) only [go_sem, Nat.reduceEqDiff, ↓reduceIte, a1, hn1, Tryd.results54]
    exact ⟨0, rfl, .inl rfl, g, hr1⟩
  have e1 : (((p + 1 : Nat) : Int) - 1) = (p : Nat) := by omega
  have hlr : ∀ k : Nat, k < l.length → 0 ≤ l.getD k 0 ∧ l.getD k 0 ≤ 255 := fun k hk => hs1.rng _ (getD_mem hk)
  by_cases h0 : l.length = 0
  · have e0 : ((l.length : Int) == 0) = true := by simp [h0]
    simp (disch := omega) only [go_sem, Nat.reduceEqDiff, ↓reduceIte, Nat.reduceAdd, a0, a1, hn1, b1.cell, e0, List.getElem?_toArray, List.getElem?_cons_zero, Tryd.results54]
    exact ⟨0, rfl, .inl rfl, g, hr1⟩
  have e0 : ((l.length : Int) == 0) = false := by simp [h0]
  obtain ⟨b, o, rfl⟩ := hs1.head (by intro e; rw [e] at h0; simp at h0)
  simp (disch := omega) only [go_sem, Nat.reduceEqDiff, ↓reduceIte, Nat.reduceAdd, a0, a1, hn1, b1.cell, e0, List.getElem?_toArray, List.getElem?_cons_zero, e1]
  by_cases hlt : (p : Int) < l.length
  · have hc := hs1.cell b o rfl p (by omega)
    have hr2 := hlr p (by omega)
    simp (disch := omega) only [go_sem, Nat.reduceEqDiff, ↓reduceIte, Nat.reduceAdd, a0, a1, b1.cell, hlt, List.getElem?_toArray, List.getElem?_cons_zero, hc, Tryd.results54]
    refine ⟨(l.getD p 0 % n).toNat, ?_, .inr ?_, g, hr1⟩
    · rw [Int.toNat_of_nonneg (Int.emod_nonneg _ (by omega))]
    · rw [Int.toNat_of_nonneg (Int.emod_nonneg _ (by omega))]; exact Int.emod_lt_of_pos _ (by omega)
  · simp (disch := omega) only [go_sem, Nat.reduceEqDiff, ↓reduceIte, Nat.reduceAdd, a0, a1, b1.cell, hlt]
    have q1 : p % l.length < l.length := Nat.mod_lt _ (by omega)
    have q2 : (p * 7 + 3) % l.length < l.length := Nat.mod_lt _ (by omega)
    have q3 : p / l.length ≤ p := Nat.div_le_self _ _
    have c1 := hs1.cell b o rfl _ q1
    have c2 := hs1.cell b o rfl _ q2
    have r1 := hlr _ q1
    have r2 := hlr _ q2
    have m1 : (p : Int) % (l.length : Int) = ((p % l.length : Nat) : Int) := rfl
    have m2 : ((p : Int) * 7 + 3) % (l.length : Int) = (((p * 7 + 3) % l.length : Nat) : Int) := rfl
    have m3 : (p : Int) / (l.length : Int) = ((p / l.length : Nat) : Int) := rfl
    generalize p / l.length = D at m3 q3
    generalize hA : l.getD (p % l.length) 0 = A at r1 c1
    generalize hB : l.getD ((p * 7 + 3) % l.length) 0 = B at r2 c2
    refine QR_of (by kernel_rfl) (by kernel_rfl) ?_
    simp (disch := omega) only [go_sem, Nat.reduceEqDiff, ↓reduceIte, Nat.reduceAdd, a0, a1, b1.cell, List.getElem?_toArray, List.getElem?_cons_zero, m1, m2, m3, c1, c2]
    obtain ⟨X, hX⟩ : ∃ X : Nat, A * 131 + B * 1117 + (p : Int) * 29 + (D : Int) * 53 = (X : Int) := ⟨(A * 131 + B * 1117 + (p : Int) * 29 + (D : Int) * 53).toNat, by omega⟩
    have hX' : X < 1000000000000 := by omega
    have m4 : (X : Int) / 64 = ((X / 64 : Nat) : Int) := rfl
    have q4 : X / 64 ≤ X := Nat.div_le_self _ _
    intro w2 x2
    simp (disch := omega) only [hX, go_sem, Nat.reduceEqDiff, ↓reduceIte, Nat.reduceAdd, a1, m4, Tryd.results54]
    refine ⟨(((X ^^^ X / 64 : Nat) : Int) % n).toNat, ?_, .inr ?_, g.trans (x2.grow _), hr1.ext x2⟩
    · rw [Int.toNat_of_nonneg (Int.emod_nonneg _ (by omega))]
    · rw [Int.toNat_of_nonneg (Int.emod_nonneg _ (by omega))]; exact Int.emod_lt_of_pos _ (by omega)

theorem l6Open_c (a : Option Addr) (l : List Int) (c : Nat) (w : World) (hl : l.length ≤ c) (hc : c ≤ maxLen) (hs : ByteS w a l) :
    Ret Tryd.prog 52 #[.slice a l.length c] w fun v w' => ∃ rb, v = .pointer (some ⟨rb, 0, none⟩) ∧ Ext w w' ∧ w.heap.size ≤ rb ∧ Rdr w' rb (rb + 1) 0 ∧ w'.heap.size = rb + 1 := by
  have hl' := maxLen_le (Nat.le_trans hl hc)
  have hc' := maxLen_le hc
  refine enter1 Tryd.func52 rfl (by kernel_rfl) (of_decide_eq_true (by kernel_rfl)) fun f a0 => ?_
  have fin : ∀ (l' : List Int), ByteS w a l' → l'.length ≤ 2000 → ∀ (w' : World) (b : Nat), b = w.heap.size → Ext w w' → Blk w' b #[.slice a l'.length c, .int .i64 0] 77 → w'.heap.size = b + 1 →
      Ext w w' ∧ w.heap.size ≤ b ∧ Rdr w' b (b + 1) 0 ∧ w'.heap.size = b + 1 := fun l' hs' h2 w' b eb x k e =>
    ⟨x, by omega, ⟨a, l', c, 0, k, hs'.ext x, fun hne b' hb' => by have := hs'.old hne b' hb'; omega, h2, by omega, by omega⟩, e⟩
  by_cases h : (2000 : Int) < l.length
  · simp (disch := omega) only [go_sem, Nat.reduceEqDiff, ↓reduceIte, Nat.reduceAdd, a0, h]
    refine boxK_of fun w1 b eb x1 k1 e1 => ?_
    simp (disch := omega) only [go_sem, Nat.reduceEqDiff, ↓reduceIte, Tryd.results52]
    have hl2 : (l.take 2000).length = 2000 := by rw [List.length_take]; omega
    exact ⟨b, rfl, fin _ (hs.take 2000) (by omega) w1 b eb x1 (by rw [hl2]; exact k1) e1⟩
  · simp (disch := omega) only [go_sem, Nat.reduceEqDiff, ↓reduceIte, Nat.reduceAdd, a0, h]
    refine boxK_of fun w1 b eb x1 k1 e1 => ?_
    simp (disch := omega) only [go_sem, Nat.reduceEqDiff, ↓reduceIte, Tryd.results52]
    exact ⟨b, rfl, fin l hs (by omega) w1 b eb x1 k1 e1⟩

end Go.Proofs.YteenlohkhckjkaaDoor

/- The draw functions for grids. -/
namespace Go.Proofs.YteenlohkhckjkaaDoor
open Go.RowKit Go.SW

/-- A drawn grid: R rows, none empty, heights from -1 to 100. -/
structure Drawn (w : World) (B R : Nat) (a : Option Addr) (c : Nat) (rows : List (List Int)) (A : Nat → Option Addr) (Cp : Nat → Nat) : Prop where
  b : BRows w 66 3 B a c rows A Cp
  len : rows.length = R
  row : ∀ l ∈ rows, 1 ≤ l.length ∧ l.length ≤ 1001 ∧ ∀ x ∈ l, -1 ≤ x ∧ x ≤ 100
  wide : ∀ r, r < rows.length → (rows.getD 0 []).length ≤ (rows.getD r []).length

theorem Drawn.other {ob : Option Nat} {w w' : World} {B R c : Nat} {a : Option Addr} {rows : List (List Int)} {A : Nat → Option Addr} {Cp : Nat → Nat} (h : Drawn w B R a c rows A Cp) (g : Grow ob w w') (hb : ∀ b, ob = some b → b < B) : Drawn w' B R a c rows A Cp :=
  ⟨h.b.other g fun b hB _ e => by have := hb b e; omega, h.len, h.row, h.wide⟩
theorem Drawn.ext {w w' : World} {B R c : Nat} {a : Option Addr} {rows : List (List Int)} {A : Nat → Option Addr} {Cp : Nat → Nat} (h : Drawn w B R a c rows A Cp) (e : Ext w w') : Drawn w' B R a c rows A Cp := ⟨h.b.ext e, h.len, h.row, h.wide⟩
theorem Drawn.at {w : World} {B R c : Nat} {a : Option Addr} {rows : List (List Int)} {A : Nat → Option Addr} {Cp : Nat → Nat} (h : Drawn w B R a c rows A Cp) (hR : R ≤ 1000) : RowsAt w a rows A Cp :=
  h.b.at (fun l hl x hx => by have := (h.row l hl).2.2 x hx; simp [I64]; omega) (by rw [h.len]; simp [maxLen]; omega) (fun l hl => by have := (h.row l hl).2.1; simp [maxLen]; omega)

end Go.Proofs.YteenlohkhckjkaaDoor

