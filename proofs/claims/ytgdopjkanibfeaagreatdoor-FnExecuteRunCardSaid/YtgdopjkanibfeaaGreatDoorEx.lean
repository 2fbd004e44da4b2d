/- Contracts of the laws' helpers that write: markIntS, markIntSS, heldIntS. -/
import Derived.Test.YtgdopjkanibfeaaGreatDoorJ2
import Derived.Test.YtgdopjkanibfeaaGreatDoorJ4
set_option linter.all false
set_option maxRecDepth 20000
namespace Go.SW
open Go Go.RowKit
/-- Blocks from B1 up to B2 alone have been written. -/
structure Mid (B1 B2 : Nat) (w w' : World) : Prop where
  os : w'.os = w.os
  tape : w'.tape = w.tape
  output : w'.output = w.output
  size : w.heap.size ≤ w'.heap.size
  other : ∀ b, b < w.heap.size → (b < B1 ∨ B2 ≤ b) → w'.heap[b]? = w.heap[b]?
theorem Mid.refl (B1 B2 : Nat) (w : World) : Mid B1 B2 w w := ⟨rfl, rfl, rfl, Nat.le_refl _, fun _ _ _ => rfl⟩
theorem Mid.trans {B1 B2 : Nat} {a b c : World} (h : Mid B1 B2 a b) (k : Mid B1 B2 b c) : Mid B1 B2 a c :=
  ⟨k.os.trans h.os, k.tape.trans h.tape, k.output.trans h.output, Nat.le_trans h.size k.size, fun i hi ho => (k.other i (Nat.lt_of_lt_of_le hi h.size) ho).trans (h.other i hi ho)⟩
theorem Mid.ext {B1 B2 : Nat} {w0 w w' : World} (h : Mid B1 B2 w w') (e : Ext w0 w) (hB : w0.heap.size ≤ B1) : Ext w0 w' :=
  Below.trans e ⟨h.os, h.tape, h.output, h.size, fun k hk => h.other k (Nat.lt_of_lt_of_le hk e.size) (.inl (by omega))⟩
theorem Mid.own {B1 B2 : Nat} {w w' : World} (h : Mid B1 B2 w w') {e s n c : Nat} {a : Option Addr} {xs : List Value} (o : OwnS w e s a n c xs) (hb : ∀ b, blk a = some b → b < B1 ∨ B2 ≤ b) : OwnS w' e s a n c xs :=
  o.kept fun b hb' => h.other b (o.blk_lt hb') (hb b hb')
theorem Grow.mid {ob : Option Nat} {B1 B2 : Nat} {w w' : World} (g : Grow ob w w') (hb : ∀ b, ob = some b → B1 ≤ b ∧ b < B2) : Mid B1 B2 w w' :=
  ⟨g.os, g.tape, g.output, g.size, fun b hlt ho => g.other b hlt fun e => by have := hb b e; omega⟩
theorem Ext.mid {w w' : World} (e : Ext w w') (B1 B2 : Nat) : Mid B1 B2 w w' := (e.grow none).mid fun _ h => by cases h
/-- Marks from k on. -/
def marks (k : Int) (n : Nat) : List Int := (List.range n).map fun j : Nat => k + (j : Int)
theorem marks_len (k : Int) (n : Nat) : (marks k n).length = n := by simp [marks]
theorem marks_get (k : Int) {n j : Nat} (h : j < n) : (marks k n).getD j 0 = k + j := by simp [marks, h]
end Go.SW
namespace Go.Proofs.YtgdopjkanibfeaaGreatDoor
open Go.RowKit Go.SW

end Go.Proofs.YtgdopjkanibfeaaGreatDoor
