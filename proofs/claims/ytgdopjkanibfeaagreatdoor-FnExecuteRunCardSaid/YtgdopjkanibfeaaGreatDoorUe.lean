/- What a script works on, in memory; the text that a call builds. No function of the program occurs here. -/
import Derived.Test.YtgdopjkanibfeaaGreatDoorUc
import Derived.Test.YtgdopjkanibfeaaGreatDoorJ2
set_option linter.all false
set_option maxRecDepth 20000
namespace Go.SW
open Go Go.RowKit
theorem RowsAt.kept {w w' : World} {a : Option Addr} {rows : List (List Int)} {A : Nat → Option Addr} {Cp : Nat → Nat} (h : RowsAt w a rows A Cp) (hb : ∀ b, blk a = some b → b < w.heap.size → w'.heap[b]? = w.heap[b]?) (hr : ∀ r, r < rows.length → ∀ b, blk (A r) = some b → b < w.heap.size → w'.heap[b]? = w.heap[b]?) : RowsAt w' a rows A Cp :=
  ⟨h.head, fun b o ha r h1 => by
    have hc := h.row b o ha r h1
    rw [World.cell?_of_block (w := w) (hb b (by rw [ha]; rfl) (World.block_lt_of_cell? w _ hc)), hc], fun r hr' => (h.ints r hr').kept (hr r hr'), h.i64, h.len, h.lens⟩
/-- Blocks outside X are as they were. -/
structure GrowP (X : Nat → Prop) (w w' : World) : Prop where
  os : w'.os = w.os
  tape : w'.tape = w.tape
  output : w'.output = w.output
  size : w.heap.size ≤ w'.heap.size
  other : ∀ k, k < w.heap.size → ¬ X k → w'.heap[k]? = w.heap[k]?
theorem Grow.growP {ob : Option Nat} {w w' : World} {X : Nat → Prop} (g : Grow ob w w') (h : ∀ b, ob = some b → X b) : GrowP X w w' :=
  ⟨g.os, g.tape, g.output, g.size, fun k hk hx => g.other k hk fun e => hx (h k e)⟩
theorem GrowP.trans {X : Nat → Prop} {w w1 w2 : World} (g : GrowP X w w1) (h : GrowP X w1 w2) : GrowP X w w2 :=
  ⟨h.os.trans g.os, h.tape.trans g.tape, h.output.trans g.output, Nat.le_trans g.size h.size, fun k hk hx => by rw [h.other k (Nat.lt_of_lt_of_le hk g.size) hx, g.other k hk hx]⟩
theorem GrowP.weaken {X Y : Nat → Prop} {w w' : World} (g : GrowP X w w') (h : ∀ b, X b → Y b ∨ w.heap.size ≤ b) : GrowP Y w w' :=
  ⟨g.os, g.tape, g.output, g.size, fun k hk hx => g.other k hk fun e => (h k e).elim hx (by omega)⟩
theorem GrowP.ext {X : Nat → Prop} {w0 w w' : World} (g : GrowP X w w') (e : Ext w0 w) (h : ∀ b, X b → w0.heap.size ≤ b) : Ext w0 w' :=
  (g.weaken (Y := fun b => w0.heap.size ≤ b) fun b hb => .inl (h b hb)) |> fun g =>
  ⟨g.os.trans e.os, g.tape.trans e.tape, g.output.trans e.output, Nat.le_trans e.size g.size, fun k hk => by rw [g.other k (Nat.lt_of_lt_of_le hk e.size) (by omega), e.block k hk]⟩
theorem GrowP.blk {X : Nat → Prop} {w w' : World} {c : Nat} {cs : Array Value} {T : TypeId} (h : GrowP X w w') (hc : Blk w c cs T) (hne : ¬ X c) : Blk w' c cs T := by
  unfold Blk; rw [h.other c hc.lt hne]; exact hc
theorem Ext.growP {w w' : World} (X : Nat → Prop) (e : Ext w w') : GrowP X w w' := (e.grow none).growP fun _ h => by cases h
/-- The grid of a desk at block d, whose blocks are none of X. -/
structure Desk (w : World) (D d : Nat) (rows : List (List Int)) (X : Nat → Prop) : Prop where
  ex : ∃ a A Cp gc, Blk w d #[.slice a rows.length gc, .slice none 0 0] D ∧ RowsAt w a rows A Cp ∧ (∀ b, Go.SW.blk a = some b → ¬ X b ∧ b ≠ d ∧ b < w.heap.size) ∧ ∀ r, r < rows.length → ∀ b, Go.SW.blk (A r) = some b → ¬ X b ∧ b ≠ d ∧ b < w.heap.size
theorem Desk.grow {w w' : World} {D d : Nat} {rows : List (List Int)} {X Y : Nat → Prop} (h : Desk w D d rows X) (g : GrowP Y w w') (hx : ∀ y, Y y → X y) (hd : ¬ Y d) : Desk w' D d rows X := by
  obtain ⟨a, A, Cp, gc, k, r, h1, h2⟩ := h.ex
  have s := g.size
  exact ⟨a, A, Cp, gc, g.blk k hd, r.kept (fun b hb hl => g.other b hl fun e => (h1 b hb).1 (hx b e)) (fun i hi b hb hl => g.other b hl fun e => (h2 i hi b hb).1 (hx b e)),
    fun b hb => let ⟨p, q, z⟩ := h1 b hb; ⟨p, q, by omega⟩, fun i hi b hb => let ⟨p, q, z⟩ := h2 i hi b hb; ⟨p, q, by omega⟩⟩
theorem Desk.ext {w w' : World} {D d : Nat} {rows : List (List Int)} {X : Nat → Prop} (h : Desk w D d rows X) (e : Ext w w') : Desk w' D d rows X := by
  obtain ⟨a, A, Cp, gc, k, r, h1, h2⟩ := h.ex
  have s := e.size
  exact ⟨a, A, Cp, gc, k.ext e, r.ext e, fun b hb => let ⟨p, q, z⟩ := h1 b hb; ⟨p, q, by omega⟩, fun i hi b hb => let ⟨p, q, z⟩ := h2 i hi b hb; ⟨p, q, by omega⟩⟩
/-- The blocks may be asked to be none of other ones, if these are new or were asked for. -/
theorem Desk.avoid {w : World} {D d : Nat} {rows : List (List Int)} {X Y : Nat → Prop} (h : Desk w D d rows X) (hY : ∀ y, Y y → X y ∨ w.heap.size ≤ y) : Desk w D d rows Y := by
  obtain ⟨a, A, Cp, gc, k, r, h1, h2⟩ := h.ex
  refine ⟨a, A, Cp, gc, k, r, fun b hb => ?_, fun i hi b hb => ?_⟩
  · obtain ⟨p, q, z⟩ := h1 b hb
    exact ⟨fun hy => (hY b hy).elim p (by omega), q, z⟩
  · obtain ⟨p, q, z⟩ := h2 i hi b hb
    exact ⟨fun hy => (hY b hy).elim p (by omega), q, z⟩
/-- A strings.Builder (type T) at block b that holds the text l; its bytes (type e) lie in block bf. -/
def Bld (w : World) (T e b : Nat) (l : List UInt8) (bf : Option Nat) : Prop :=
  ∃ p a c, Blk w b #[p, .slice a l.length c] T ∧ (p = .pointer none ∨ p = .pointer (some ⟨b, 0, none⟩)) ∧ OwnS w e 1 a l.length c (vb l) ∧ blk a = bf ∧ bf ≠ some b
theorem Bld.grow {w w' : World} {T e b : Nat} {l : List UInt8} {bf : Option Nat} {ob : Option Nat} (h : Bld w T e b l bf) (g : Grow ob w w') (h1 : ob ≠ some b) (h2 : ∀ x, bf = some x → ob ≠ some x) : Bld w' T e b l bf := by
  obtain ⟨p, a, c, k, hp, o, rfl, hn⟩ := h
  exact ⟨p, a, c, g.blk k h1, hp, o.grow g h2, rfl, hn⟩
theorem Bld.ext {w w' : World} {T e b : Nat} {l : List UInt8} {bf : Option Nat} (h : Bld w T e b l bf) (x : Ext w w') : Bld w' T e b l bf := by
  obtain ⟨p, a, c, k, hp, o, rfl, hn⟩ := h
  exact ⟨p, a, c, k.ext x, hp, o.ext x, rfl, hn⟩
theorem Bld.lt {w : World} {T e b : Nat} {l : List UInt8} {bf : Option Nat} (h : Bld w T e b l bf) : b < w.heap.size ∧ ∀ x, bf = some x → x < w.heap.size := by
  obtain ⟨p, a, c, k, hp, o, rfl, hn⟩ := h
  exact ⟨k.lt, fun x hx => o.blk_lt hx⟩
end Go.SW
