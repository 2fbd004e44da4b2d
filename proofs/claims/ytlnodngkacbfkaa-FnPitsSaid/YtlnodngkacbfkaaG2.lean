/- Slices of slices that a draw function builds by append. No program occurs here. -/
import Derived.Test.YtlnodngkacbfkaaG
import Derived.Test.YtlnodngkacbfkaaSwh
set_option linter.all false
set_option maxRecDepth 20000
namespace Go.SW
open Go Go.RowKit

theorem Grow.fresh {ob oc : Option Nat} {w w1 w2 : World} (h : Grow ob w w1) (k : Grow oc w1 w2) (hb : ∀ b, oc = some b → w.heap.size ≤ b) : Grow ob w w2 :=
  ⟨k.os.trans h.os, k.tape.trans h.tape, k.output.trans h.output, Nat.le_trans h.size k.size, fun i hi ho =>
    (k.other i (Nat.lt_of_lt_of_le hi h.size) (fun e => by have := hb i e; omega)).trans (h.other i hi ho)⟩
theorem Ext.fresh {ob : Option Nat} {w w1 w2 : World} (h : Grow ob w w1) (k : Ext w1 w2) : Grow ob w w2 := h.trans (k.grow ob)

structure BRows (w : World) (eo ei B : Nat) (a : Option Addr) (c : Nat) (rows : List (List Int)) (A : Nat → Option Addr) (Cp : Nat → Nat) : Prop where
  top : ∃ xs, OwnS w eo 1 a rows.length c xs ∧ ∀ r, r < rows.length → xs[r]? = some (.slice (A r) (rows.getD r []).length (Cp r))
  ha : ∀ b, blk a = some b → B ≤ b
  row : ∀ r, r < rows.length → OwnS w ei 1 (A r) (rows.getD r []).length (Cp r) (vi (rows.getD r []))
  far : ∀ r, r < rows.length → ∀ b, blk (A r) = some b → B ≤ b ∧ blk a ≠ some b
  inj : ∀ r s, r < rows.length → s < rows.length → ∀ b, blk (A r) = some b → blk (A s) = some b → r = s

variable {w w' : World} {eo ei B c : Nat} {a : Option Addr} {rows : List (List Int)} {A : Nat → Option Addr} {Cp : Nat → Nat}

theorem BRows.ext (h : BRows w eo ei B a c rows A Cp) (e : Ext w w') : BRows w' eo ei B a c rows A Cp :=
  ⟨let ⟨xs, o, hx⟩ := h.top; ⟨xs, o.ext e, hx⟩, h.ha, fun r hr => (h.row r hr).ext e, h.far, h.inj⟩
theorem BRows.other {ob : Option Nat} (h : BRows w eo ei B a c rows A Cp) (g : Grow ob w w') (hne : ∀ b, B ≤ b → (blk a = some b ∨ ∃ r, r < rows.length ∧ blk (A r) = some b) → ob ≠ some b) : BRows w' eo ei B a c rows A Cp :=
  ⟨let ⟨xs, o, hx⟩ := h.top; ⟨xs, o.grow g (fun b hb => hne b (h.ha b hb) (.inl hb)), hx⟩, h.ha, fun r hr => (h.row r hr).grow g (fun b hb => hne b (h.far r hr b hb).1 (.inr ⟨r, hr, hb⟩)), h.far, h.inj⟩
theorem BRows.low {rb : Nat} (h : BRows w eo ei B a c rows A Cp) (g : Grow (some rb) w w') (hrb : rb < B) : BRows w' eo ei B a c rows A Cp :=
  h.other g fun b hb _ e => by simp only [Option.some.injEq] at e; omega
theorem BRows.up {B' : Nat} (h : BRows w eo ei B a c rows A Cp) (hB : B' ≤ B) : BRows w eo ei B' a c rows A Cp :=
  ⟨h.top, fun b hb => Nat.le_trans hB (h.ha b hb), h.row, fun r hr b hb => ⟨Nat.le_trans hB (h.far r hr b hb).1, (h.far r hr b hb).2⟩, h.inj⟩
theorem vi_set (l : List Int) (i : Nat) (x : Int) : (vi l).set i (.int .i64 x) = vi (l.set i x) := by simp [vi]
theorem BRows.lt (h : BRows w eo ei B a c rows A Cp) {b : Nat} (hb : blk a = some b ∨ ∃ r, r < rows.length ∧ blk (A r) = some b) : b < w.heap.size := by
  rcases hb with hb | ⟨r, hr, hb⟩
  · obtain ⟨xs, o, _⟩ := h.top; exact o.blk_lt hb
  · exact (h.row r hr).blk_lt hb
theorem BRows.nil (o : OwnS w eo 1 a 0 c []) (ha : ∀ b, blk a = some b → B ≤ b) (A : Nat → Option Addr) (Cp : Nat → Nat) : BRows w eo ei B a c [] A Cp :=
  ⟨⟨[], by simpa using o, fun r hr => by simp at hr⟩, ha, fun r hr => by simp at hr, fun r hr => by simp at hr, fun r s hr => by simp at hr⟩

/-- A new row has been appended. -/
theorem BRows.push (h : BRows w eo ei B a c rows A Cp) {aN : Option Addr} {cN : Nat} {l : List Int} (hN : OwnS w ei 1 aN l.length cN (vi l)) (fN : ∀ b, blk aN = some b → B ≤ b ∧ blk a ≠ some b ∧ ∀ r, r < rows.length → blk (A r) ≠ some b)
    {xs : List Value} (hx : OwnS w eo 1 a rows.length c xs) (hxs : ∀ r, r < rows.length → xs[r]? = some (.slice (A r) (rows.getD r []).length (Cp r)))
    {a' : Option Addr} {c' : Nat} (o : OwnS w' eo 1 a' (rows.length + 1) c' (xs ++ [.slice aN l.length cN])) (g : Grow (blk a) w w') (hf : ∀ b, blk a' = some b → blk a = some b ∨ w.heap.size ≤ b) (hB : B ≤ w.heap.size) :
    BRows w' eo ei B a' c' (rows ++ [l]) (fun r => if r = rows.length then aN else A r) (fun r => if r = rows.length then cN else Cp r) := by
  have hxl : xs.length = rows.length := by rw [hx.1]; omega
  have lt : ∀ r, r < (rows ++ [l]).length → r = rows.length ∨ r < rows.length := fun r hr => by simp at hr; omega
  have g1 : ∀ r, r < rows.length → (rows ++ [l]).getD r [] = rows.getD r [] := fun r hr => by simp [List.getElem?_append_left hr]
  have g2 : (rows ++ [l]).getD rows.length [] = l := by simp
  refine ⟨⟨_, by simpa using o, fun r hr => ?_⟩, fun b hb => ?_, fun r hr => ?_, fun r hr b hb => ?_, fun r s hr hs b h1 h2 => ?_⟩
  · rcases lt r hr with rfl | hr
    · simp only [if_true, g2]
      rw [List.getElem?_append_right (by omega), hxl]; simp
    · rw [if_neg (by omega), if_neg (by omega), g1 r hr, List.getElem?_append_left (by omega)]
      exact hxs r hr
  · rcases hf b hb with h1 | h1
    · exact h.ha b h1
    · omega
  · rcases lt r hr with rfl | hr
    · simp only [if_true, g2]
      exact hN.grow g fun b hb e => (fN b hb).2.1 e
    · rw [if_neg (by omega), if_neg (by omega), g1 r hr]
      exact (h.row r hr).grow g fun b hb e => (h.far r hr b hb).2 e
  · rcases lt r hr with rfl | hr
    · simp only [if_true] at hb
      refine ⟨(fN b hb).1, fun e => ?_⟩
      rcases hf b e with h1 | h1
      · exact (fN b hb).2.1 h1
      · have := hN.blk_lt hb; omega
    · rw [if_neg (by omega)] at hb
      refine ⟨(h.far r hr b hb).1, fun e => ?_⟩
      rcases hf b e with h1 | h1
      · exact (h.far r hr b hb).2 h1
      · have := (h.row r hr).blk_lt hb; omega
  · rcases lt r hr with rfl | hr <;> rcases lt s hs with rfl | hs
    · rfl
    · simp only [if_true] at h1
      rw [if_neg (by omega)] at h2
      exact absurd h2 ((fN b h1).2.2 s hs)
    · simp only [if_true] at h2
      rw [if_neg (by omega)] at h1
      exact absurd h1 ((fN b h2).2.2 r hr)
    · rw [if_neg (by omega)] at h1 h2
      exact h.inj r s hr hs b h1 h2

theorem BRows.at (h : BRows w eo ei B a c rows A Cp) (hi : ∀ l ∈ rows, ∀ x ∈ l, I64 x) (hn : rows.length ≤ maxLen) (hl : ∀ l ∈ rows, l.length ≤ maxLen) : RowsAt w a rows A Cp := by
  obtain ⟨xs, o, hx⟩ := h.top
  refine ⟨fun hne => ?_, fun b' o' ha r hr => ?_, fun r hr => (h.row r hr).ints, hi, hl, hn⟩
  · obtain ⟨b, rfl⟩ := o.some (List.length_pos_iff.2 hne)
    exact ⟨b, 0, rfl⟩
  · obtain ⟨b, rfl⟩ := o.some (by omega)
    simp only [Option.some.injEq, Addr.mk.injEq] at ha
    obtain ⟨rfl, rfl, _⟩ := ha
    rw [Nat.zero_add, o.cell (by omega), hx r hr]

/-- Row r has been written, appended to or not. -/
theorem BRows.setRow (h : BRows w eo ei B a c rows A Cp) {r : Nat} (hr : r < rows.length) {l : List Int} (hlen : l.length = (rows.getD r []).length) (hN : OwnS w' ei 1 (A r) l.length (Cp r) (vi l)) (g : Grow (blk (A r)) w w') :
    BRows w' eo ei B a c (rows.set r l) A Cp := by
  have e1 : ∀ s, s < rows.length → (rows.set r l).getD s [] = if s = r then l else rows.getD s [] := fun s hs => by
    by_cases e : s = r
    · subst e; simp [hs]
    · rw [if_neg e]; simp only [List.getD_eq_getElem?_getD]; rw [List.getElem?_set_ne (Ne.symm e)]
  obtain ⟨xs, o, hx⟩ := h.top
  refine ⟨⟨xs, by rw [List.length_set]; exact o.grow g fun b hb e => (h.far r hr b e).2 hb, fun s hs => ?_⟩, h.ha, fun s hs => ?_, fun s hs => h.far s (by simpa using hs), fun s t hs ht => h.inj s t (by simpa using hs) (by simpa using ht)⟩
  · rw [List.length_set] at hs
    rw [hx s hs, e1 s hs]
    by_cases e : s = r
    · subst e; simp [hlen]
    · simp [e]
  · rw [List.length_set] at hs
    rw [e1 s hs]
    by_cases e : s = r
    · subst e; simpa using hN
    · rw [if_neg e]
      exact (h.row s hs).grow g fun b hb e' => e (h.inj s r hs hr b hb e')

/-- Row r has been replaced by another slice. -/
theorem BRows.put {w1 w2 : World} (h : BRows w eo ei B a c rows A Cp) {r : Nat} (hr : r < rows.length) {aN : Option Addr} {cN : Nat} {l : List Int} (hN : OwnS w1 ei 1 aN l.length cN (vi l)) (g1 : Grow (blk (A r)) w w1)
    (hf : ∀ b, blk aN = some b → blk (A r) = some b ∨ w.heap.size ≤ b) (hB : B ≤ w.heap.size) {xs : List Value} (hxs : ∀ r, r < rows.length → xs[r]? = some (.slice (A r) (rows.getD r []).length (Cp r))) (hx : OwnS w eo 1 a rows.length c xs)
    (o2 : OwnS w2 eo 1 a rows.length c (xs.set r (.slice aN l.length cN))) (g2 : Grow (blk a) w1 w2) :
    BRows w2 eo ei B a c (rows.set r l) (fun s => if s = r then aN else A s) (fun s => if s = r then cN else Cp s) := by
  have hxl : xs.length = rows.length := by rw [hx.1]; omega
  have e1 : ∀ s, s < rows.length → (rows.set r l).getD s [] = if s = r then l else rows.getD s [] := fun s hs => by
    by_cases e : s = r
    · subst e; simp [hs]
    · rw [if_neg e]; simp only [List.getD_eq_getElem?_getD]; rw [List.getElem?_set_ne (Ne.symm e)]
  have fN : ∀ b, blk aN = some b → B ≤ b ∧ blk a ≠ some b ∧ ∀ s, s < rows.length → s ≠ r → blk (A s) ≠ some b := fun b hb => by
    rcases hf b hb with h1 | h1
    · exact ⟨(h.far r hr b h1).1, (h.far r hr b h1).2, fun s hs hne e => hne (h.inj s r hs hr b e h1)⟩
    · exact ⟨by omega, fun e => by have := h.lt (.inl e); omega, fun s hs _ e => by have := h.lt (.inr ⟨s, hs, e⟩); omega⟩
  refine ⟨⟨_, by rw [List.length_set]; exact o2, fun s hs => ?_⟩, h.ha, fun s hs => ?_, fun s hs b hb => ?_, fun s t hs ht b h1 h2 => ?_⟩
  · rw [List.length_set] at hs
    rw [e1 s hs]
    by_cases e : s = r
    · subst e; simp [show s < xs.length by omega]
    · simp only [e, if_false]
      rw [List.getElem?_set_ne (Ne.symm e)]; exact hxs s hs
  · rw [List.length_set] at hs
    rw [e1 s hs]
    by_cases e : s = r
    · subst e
      simp only [if_true]
      exact hN.grow g2 fun b hb e => (fN b hb).2.1 e
    · simp only [e, if_false]
      exact ((h.row s hs).grow g1 fun b hb e' => e (h.inj s r hs hr b hb e')).grow g2 fun b hb e' => (h.far s hs b hb).2 e'
  · rw [List.length_set] at hs
    by_cases e : s = r
    · simp only [e, if_true] at hb; exact ⟨(fN b hb).1, (fN b hb).2.1⟩
    · simp only [e, if_false] at hb; exact h.far s hs b hb
  · rw [List.length_set] at hs ht
    by_cases e : s = r <;> by_cases e' : t = r
    · rw [e, e']
    · simp only [e, e', if_true, if_false] at h1 h2
      exact absurd h2 ((fN b h1).2.2 t ht e')
    · simp only [e, e', if_true, if_false] at h1 h2
      exact absurd h1 ((fN b h2).2.2 s hs e)
    · simp only [e, e', if_false] at h1 h2
      exact h.inj s t hs ht b h1 h2

theorem set_row (rows : List (List Int)) (j r : Nat) (x : List Int) (hr : r < rows.length) : (rows.set j x).getD r [] = if r = j then x else rows.getD r [] := by
  by_cases e : r = j
  · subst e; simp [hr]
  · rw [if_neg e]; simp only [List.getD_eq_getElem?_getD]; rw [List.getElem?_set_ne (Ne.symm e)]

end Go.SW
