/- Contracts of the laws' helpers that write: markIntS, markIntSS, heldIntS. -/
import Derived.Test.YtlnodngkacbfkaaJ2
import Derived.Test.YtlnodngkacbfkaaJ4
set_option linter.all false
set_option maxRecDepth 20000
namespace Go.SW
open Go Go.RowKit
/-- Blocks from B1 up to B2 alone have been written. -/
structure Mid (B1 B2 : Nat) (w w' : World) : Prop where
  os : w'.os = w.os
  tape : w'.tape = w.tape
  output : w'.output = w.output
  size : w.heap.size ≤ w'.heap.size
  other : ∀ b, b < w.heap.size → (b < B1 ∨ B2 ≤ b) → w'.heap[b]? = w.heap[b]?
theorem Mid.refl (B1 B2 : Nat) (w : World) : Mid B1 B2 w w := ⟨rfl, rfl, rfl, Nat.le_refl _, fun _ _ _ => rfl⟩
theorem Mid.trans {B1 B2 : Nat} {a b c : World} (h : Mid B1 B2 a b) (k : Mid B1 B2 b c) : Mid B1 B2 a c :=
  ⟨k.os.trans h.os, k.tape.trans h.tape, k.output.trans h.output, Nat.le_trans h.size k.size, fun i hi ho => (k.other i (Nat.lt_of_lt_of_le hi h.size) ho).trans (h.other i hi ho)⟩
theorem Mid.ext {B1 B2 : Nat} {w0 w w' : World} (h : Mid B1 B2 w w') (e : Ext w0 w) (hB : w0.heap.size ≤ B1) : Ext w0 w' :=
  Below.trans e ⟨h.os, h.tape, h.output, h.size, fun k hk => h.other k (Nat.lt_of_lt_of_le hk e.size) (.inl (by omega))⟩
theorem Mid.own {B1 B2 : Nat} {w w' : World} (h : Mid B1 B2 w w') {e s n c : Nat} {a : Option Addr} {xs : List Value} (o : OwnS w e s a n c xs) (hb : ∀ b, blk a = some b → b < B1 ∨ B2 ≤ b) : OwnS w' e s a n c xs :=
  o.kept fun b hb' => h.other b (o.blk_lt hb') (hb b hb')
theorem Grow.mid {ob : Option Nat} {B1 B2 : Nat} {w w' : World} (g : Grow ob w w') (hb : ∀ b, ob = some b → B1 ≤ b ∧ b < B2) : Mid B1 B2 w w' :=
  ⟨g.os, g.tape, g.output, g.size, fun b hlt ho => g.other b hlt fun e => by have := hb b e; omega⟩
theorem Ext.mid {w w' : World} (e : Ext w w') (B1 B2 : Nat) : Mid B1 B2 w w' := (e.grow none).mid fun _ h => by cases h
/-- Marks from k on. -/
def marks (k : Int) (n : Nat) : List Int := (List.range n).map fun j : Nat => k + (j : Int)
theorem marks_len (k : Int) (n : Nat) : (marks k n).length = n := by simp [marks]
theorem marks_get (k : Int) {n j : Nat} (h : j < n) : (marks k n).getD j 0 = k + j := by simp [marks, h]
end Go.SW
namespace Go.Proofs.Ytlnodngkacbfkaa
open Go.RowKit Go.SW

theorem markIntS_c (a : Option Addr) (n c : Nat) (xs : List Value) (k0 : Int) (w : World) (o : OwnS w 3 1 a n c xs) (h0 : 0 ≤ k0) (h1 : k0 ≤ 1125899906842624) (hn : n ≤ 1048576) :
    Ret Try.prog 23 #[.slice a n c, .int .i64 k0] w fun v w' => v = .int .i64 (k0 + n) ∧ Grow (blk a) w w' ∧ OwnS w' 3 1 a n c (vi (marks k0 n)) := by
  refine enter2 Try.func23 rfl (by kernel_rfl) (of_decide_eq_true (by kernel_rfl)) fun f a0 a1 => ?_
  simp (disch := omega) only [go_sem, Nat.reduceEqDiff, ↓reduceIte, Nat.reduceAdd]
  refine loopN n (fun k f W => f 0 = .slice a n c ∧ f 1 = .int .i64 (k0 + k) ∧ f 5 = .int .i64 k ∧ Grow (blk a) w W ∧ ∃ ys, OwnS W 3 1 a n c ys ∧ ∀ j, j < k → ys[j]? = some (.int .i64 (k0 + j))) ⟨(by first | assumption | (simp only [upd_apply, Nat.reduceEqDiff, ↓reduceIte] <;> first | rfl | assumption) | simp [upd_apply, *]), by simp [upd_apply, a1], (by first | assumption | (simp only [upd_apply, Nat.reduceEqDiff, ↓reduceIte] <;> first | rfl | assumption) | simp [upd_apply, *]), Grow.refl _ _, xs, o, fun j hj => by omega⟩ fun k f W hk ⟨a0, a1, a5, gw, ys, oy, hy⟩ => ?_
  by_cases hlt : (k : Int) < n
  · obtain ⟨b, rfl⟩ := oy.some (by omega)
    simp (disch := omega) only [go_sem, Nat.reduceEqDiff, ↓reduceIte, Nat.reduceAdd, a0, a1, a5, hlt]
    refine stK_own siz_int (by rfl) (by rfl) oy (by omega) fun w2 o2 g2 => ?_
    simp (disch := omega) only [go_sem, Nat.reduceEqDiff, ↓reduceIte, Nat.reduceAdd, a1, a5]
    exact ⟨by omega, (by first | assumption | (simp only [upd_apply, Nat.reduceEqDiff, ↓reduceIte] <;> first | rfl | assumption) | simp [upd_apply, *]), by simp [upd_apply]; omega, (by first | assumption | (simp only [upd_apply, Nat.reduceEqDiff, ↓reduceIte] <;> first | rfl | assumption) | simp [upd_apply, *]), gw.trans g2.grow, _, o2, set_get (fun j => .int .i64 (k0 + j)) (by rw [oy.1]; omega) rfl hy⟩
  · obtain rfl : k = n := by omega
    simp (disch := omega) only [go_sem, Nat.reduceEqDiff, ↓reduceIte, Nat.reduceAdd, a0, a1, a5, hlt, Try.results23]
    have e : ys = vi (marks k0 k) := vi_ext (by rw [oy.1, marks_len]; omega) fun j hj => by
      rw [marks_len] at hj; rw [hy j hj, marks_get _ hj]
    exact ⟨trivial, gw, by rw [← e]; exact oy⟩

theorem heldIntS_c (a : Option Addr) (n c : Nat) (k0 : Int) (w : World) (o : IntS w a (marks k0 n)) (h0 : 0 ≤ k0) (h1 : k0 ≤ 1125899906842624) (hn : n ≤ 1048576) :
    Ret Try.prog 24 #[.slice a n c, .int .i64 k0] w fun v w' => v = .int .i64 (k0 + n) ∧ Ext w w' := by
  refine enter2 Try.func24 rfl (by kernel_rfl) (of_decide_eq_true (by kernel_rfl)) fun f a0 a1 => ?_
  simp (disch := omega) only [go_sem, Nat.reduceEqDiff, ↓reduceIte, Nat.reduceAdd]
  refine loopN n (fun k f W => f 0 = .slice a n c ∧ f 1 = .int .i64 (k0 + k) ∧ f 5 = .int .i64 k ∧ Ext w W) ⟨(by first | assumption | (simp only [upd_apply, Nat.reduceEqDiff, ↓reduceIte] <;> first | rfl | assumption) | simp [upd_apply, *]), by simp [upd_apply, a1], (by first | assumption | (simp only [upd_apply, Nat.reduceEqDiff, ↓reduceIte] <;> first | rfl | assumption) | simp [upd_apply, *]), Ext.refl _⟩ fun k f W hk ⟨a0, a1, a5, xw⟩ => ?_
  by_cases hlt : (k : Int) < n
  · obtain ⟨b, o', rfl⟩ := o.head (by intro e; have := congrArg List.length e; rw [marks_len] at this; simp at this; omega)
    have g0 := (o.ext xw).cell b o' rfl k (by rw [marks_len]; omega)
    rw [marks_get _ (by omega)] at g0
    have hb : ((k0 + (k : Int)) != (k0 + (k : Int))) = false := bne_self_eq_false _
    simp (disch := omega) only [go_sem, Nat.reduceEqDiff, ↓reduceIte, Nat.reduceAdd, a0, a1, a5, hlt, g0, hb]
    exact ⟨by omega, (by first | assumption | (simp only [upd_apply, Nat.reduceEqDiff, ↓reduceIte] <;> first | rfl | assumption) | simp [upd_apply, *]), by simp [upd_apply]; omega, (by first | assumption | (simp only [upd_apply, Nat.reduceEqDiff, ↓reduceIte] <;> first | rfl | assumption) | simp [upd_apply, *]), xw⟩
  · obtain rfl : k = n := by omega
    simp (disch := omega) only [go_sem, Nat.reduceEqDiff, ↓reduceIte, Nat.reduceAdd, a0, a1, a5, hlt, Try.results24]
    exact ⟨trivial, xw⟩

theorem markIntSS_c (B B2 b : Nat) (rows : List (List Int)) (A : Nat → Option Addr) (c : Nat) (w : World) (o : OwnRows w 24 3 B b rows A) (hc : c = rows.length) (hn : rows.length ≤ 1048576) (hl : ∀ r, r < rows.length → (rows.getD r []).length ≤ 1048576) (hB2 : ∀ r, r < rows.length → ∀ b, blk (A r) = some b → b < B2) :
    Ret Try.prog 22 #[.slice (some ⟨b, 0, none⟩) rows.length c, .int .i64 1] w fun v w' => ∃ x, v = .int .i64 x ∧ 0 ≤ x ∧ Mid B B2 w w' := by
  subst hc
  obtain ⟨xs, ox, hx⟩ := o.top
  have hbw : b < w.heap.size := ox.blk_lt rfl
  refine enter2 Try.func22 rfl (by kernel_rfl) (of_decide_eq_true (by kernel_rfl)) fun f a0 a1 => ?_
  simp (disch := omega) only [go_sem, Nat.reduceEqDiff, ↓reduceIte, Nat.reduceAdd]
  refine loopN rows.length (fun k f W => f 0 = .slice (some ⟨b, 0, none⟩) rows.length rows.length ∧ (∃ x : Int, f 1 = .int .i64 x ∧ 0 ≤ x ∧ x ≤ 1 + k * 1048576) ∧ f 5 = .int .i64 k ∧ Mid B B2 w W ∧ OwnS W 24 1 (some ⟨b, 0, none⟩) rows.length rows.length xs ∧
    ∀ r, r < rows.length → ∃ ys, OwnS W 3 1 (A r) (rows.getD r []).length (rows.getD r []).length ys) ⟨(by first | assumption | (simp only [upd_apply, Nat.reduceEqDiff, ↓reduceIte] <;> first | rfl | assumption) | simp [upd_apply, *]), ⟨1, by simp [upd_apply, a1], by omega, by omega⟩, (by first | assumption | (simp only [upd_apply, Nat.reduceEqDiff, ↓reduceIte] <;> first | rfl | assumption) | simp [upd_apply, *]), Mid.refl _ _ _, ox, fun r hr => by obtain ⟨br, h1, h2, h3, o'⟩ := o.row r hr; exact ⟨_, o'⟩⟩ fun k f W hk ⟨a0, ⟨x, a1, hx0, hx1⟩, a5, mw, oW, hW⟩ => ?_
  by_cases hlt : (k : Int) < rows.length
  · have hkr : k < rows.length := by omega
    have g0 : W.cell? ⟨b, k, none⟩ = some (.slice (A k) (rows.getD k []).length (rows.getD k []).length) := by rw [oW.cell (by omega), hx k hkr]
    obtain ⟨ys, oy⟩ := hW k hkr
    obtain ⟨br, hA, hB, hne, o'⟩ := o.row k hkr
    have hbr := o'.blk_lt (by rw [hA]; rfl)
    have hlk := hl k hkr
    simp (disch := omega) only [go_sem, Nat.reduceEqDiff, ↓reduceIte, Nat.reduceAdd, a0, a1, a5, hlt, g0]
    refine callK_of (by kernel_rfl) (markIntS_c _ _ _ _ x _ oy hx0 (by omega) hlk) ?_
    rintro _ w2 ⟨rfl, g2, o2⟩
    simp (disch := omega) only [go_sem, Nat.reduceEqDiff, ↓reduceIte, Nat.reduceAdd, a5]
    have hbr2 := hB2 k hkr br (by rw [hA]; rfl)
    have m2 : Mid B B2 W w2 := g2.mid fun b' hb' => by rw [hA] at hb'; simp only [blk_some, Option.some.injEq] at hb'; omega
    refine ⟨hkr, (by first | assumption | (simp only [upd_apply, Nat.reduceEqDiff, ↓reduceIte] <;> first | rfl | assumption) | simp [upd_apply, *]), ⟨x + (rows.getD k []).length, by simp [upd_apply], by omega, by omega⟩, (by first | assumption | (simp only [upd_apply, Nat.reduceEqDiff, ↓reduceIte] <;> first | rfl | assumption) | simp [upd_apply, *]), mw.trans m2, oW.grow g2 fun b' hb' e => ?_, fun r hr => ?_⟩
    · rw [hA] at e; simp only [blk_some, Option.some.injEq] at e hb'; omega
    · by_cases e : r = k
      · subst e; exact ⟨_, o2⟩
      · obtain ⟨ys', oy'⟩ := hW r hr
        exact ⟨ys', oy'.grow g2 fun b' hb' e' => e (o.inj r k hr hkr (by rw [hb', ← e']))⟩
  · obtain rfl : k = rows.length := by omega
    simp (disch := omega) only [go_sem, Nat.reduceEqDiff, ↓reduceIte, Nat.reduceAdd, a0, a1, a5, hlt, Try.results22]
    exact ⟨x, rfl, hx0, mw⟩

end Go.Proofs.Ytlnodngkacbfkaa
