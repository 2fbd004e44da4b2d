/- The reader of the draw functions: open and pick; no program's law occurs here. -/
import Derived.Test.YtlnodngkacbfkaaF
import Derived.Test.YtlnodngkacbfkaaSwh
set_option linter.all false
set_option maxRecDepth 20000
namespace Go.Proofs.Ytlnodngkacbfkaa
open Go.RowKit Go.SW

/-- A reader at block rb that has been asked at most lim times; all that it reads lies below block B. -/
def Rdr (w : World) (rb B lim : Nat) : Prop :=
  ∃ (a : Option Addr) (l : List Int) (c p : Nat), Blk w rb #[.slice a l.length c, .int .i64 p] 80 ∧ ByteS w a l ∧ (l ≠ [] → ∀ b, blk a = some b → b < B ∧ b ≠ rb) ∧ l.length ≤ 2000 ∧ p ≤ lim ∧ rb < B
theorem Rdr.le {w : World} {rb B lim lim' : Nat} (h : Rdr w rb B lim) (hl : lim ≤ lim') : Rdr w rb B lim' := by
  obtain ⟨a, l, c, p, h1, h2, h3, h4, h5, h6⟩ := h; exact ⟨a, l, c, p, h1, h2, h3, h4, by omega, h6⟩
theorem Rdr.up {w : World} {rb B B' lim : Nat} (h : Rdr w rb B lim) (hl : B ≤ B') : Rdr w rb B' lim := by
  obtain ⟨a, l, c, p, h1, h2, h3, h4, h5, h6⟩ := h; exact ⟨a, l, c, p, h1, h2, fun hn b hb => by have := h3 hn b hb; omega, h4, by omega, by omega⟩
theorem Rdr.ext {w w' : World} {rb B lim : Nat} (h : Rdr w rb B lim) (e : Ext w w') : Rdr w' rb B lim := by
  obtain ⟨a, l, c, p, h1, h2, h3, h4, h5, h6⟩ := h; exact ⟨a, l, c, p, h1.ext e, h2.ext e, h3, h4, h5, h6⟩
theorem Rdr.below {w : World} {rb B lim : Nat} (h : Rdr w rb B lim) : rb < B := by
  obtain ⟨a, l, c, p, h1, h2, h3, h4, h5, h6⟩ := h; exact h6
theorem Rdr.fresh {ob : Option Nat} {w w' : World} {rb B lim : Nat} (h : Rdr w rb B lim) (g : Grow ob w w') (hB : ∀ b, ob = some b → B ≤ b) : Rdr w' rb B lim := by
  obtain ⟨a, l, c, p, h1, h2, h3, h4, h5, h6⟩ := h
  exact ⟨a, l, c, p, g.blk h1 (fun e => by have := hB _ e; omega), h2.grow g (fun hn b hb e => by have := hB _ e; have := h3 hn b hb; omega), h3, h4, h5, h6⟩

theorem pick_c (rb B lim : Nat) (n : Int) (w : World) (hr : Rdr w rb B lim) (hl : lim ≤ 1000000000) (hn : n ≤ 1000000000) :
    Ret Try.prog 89 #[.pointer (some ⟨rb, 0, none⟩), .int .i64 n] w fun v w' => ∃ k : Nat, v = .int .i64 k ∧ (k = 0 ∨ (k : Int) < n) ∧ Grow (some rb) w w' ∧ Rdr w' rb B (lim + 1) := by
  obtain ⟨a, l, c, p, hb, hs, hne, hlen, hp, hlow⟩ := hr
  refine enter2 Try.func89 rfl (by kernel_rfl) (of_decide_eq_true (by kernel_rfl)) fun f a0 a1 => ?_
  simp (disch := omega) only [go_sem, Nat.reduceEqDiff, ↓reduceIte, Nat.reduceAdd, a0, hb.cell]
  refine stK_blk siz_int (by rfl) (by rfl) hb (by simp) fun w1 b1 g1 => ?_
  have g := g1.grow
  have hs1 := hs.grow g fun hn b hb e => (hne hn b hb).2 (by simpa using e.symm)
  have hr1 : Rdr w1 rb B (lim + 1) := ⟨a, l, c, p + 1, by simpa using b1, hs1, hne, hlen, by omega, hlow⟩
  have b1 : Blk w1 rb #[.slice a l.length c, .int .i64 (p + 1 : Nat)] 80 := by simpa using b1
  clear hb hs
  by_cases hn1 : n < 1
  · simp (disch := omega) only [go_sem, Nat.reduceEqDiff, ↓reduceIte, a1, hn1, Try.results89]
    exact ⟨0, rfl, .inl rfl, g, hr1⟩
  have e1 : (((p + 1 : Nat) : Int) - 1) = (p : Nat) := by omega
  have hlr : ∀ k : Nat, k < l.length → 0 ≤ l.getD k 0 ∧ l.getD k 0 ≤ 255 := fun k hk => hs1.rng _ (getD_mem hk)
  by_cases h0 : l.length = 0
  · have e0 : ((l.length : Int) == 0) = true := by simp [h0]
    simp (disch := omega) only [go_sem, Nat.reduceEqDiff, ↓reduceIte, Nat.reduceAdd, a0, a1, hn1, b1.cell, e0, List.getElem?_toArray, List.getElem?_cons_zero, Try.results89]
    exact ⟨0, rfl, .inl rfl, g, hr1⟩
  have e0 : ((l.length : Int) == 0) = false := by simp [h0]
  obtain ⟨b, o, rfl⟩ := hs1.head (by intro e; rw [e] at h0; simp at h0)
  simp (disch := omega) only [go_sem, Nat.reduceEqDiff, ↓reduceIte, Nat.reduceAdd, a0, a1, hn1, b1.cell, e0, List.getElem?_toArray, List.getElem?_cons_zero, e1]
  by_cases hlt : (p : Int) < l.length
  · have hc := hs1.cell b o rfl p (by omega)
    have hr2 := hlr p (by omega)
    simp (disch := omega) only [go_sem, Nat.reduceEqDiff, ↓reduceIte, Nat.reduceAdd, a0, a1, b1.cell, hlt, List.getElem?_toArray, List.getElem?_cons_zero, hc, Try.results89]
    refine ⟨(l.getD p 0 % n).toNat, ?_, .inr ?_, g, hr1⟩
    · rw [Int.toNat_of_nonneg (Int.emod_nonneg _ (by omega))]
    · rw [Int.toNat_of_nonneg (Int.emod_nonneg _ (by omega))]; exact Int.emod_lt_of_pos _ (by omega)
  · simp (disch := omega) only [go_sem, Nat.reduceEqDiff, ↓reduceIte, Nat.reduceAdd, a0, a1, b1.cell, hlt]
    have q1 : p % l.length < l.length := Nat.mod_lt _ (by omega)
    have q2 : (p * 7 + 3) % l.length < l.length := Nat.mod_lt _ (by omega)
    have q3 : p / l.length ≤ p := Nat.div_le_self _ _
    have c1 := hs1.cell b o rfl _ q1
    have c2 := hs1.cell b o rfl _ q2
    have r1 := hlr _ q1
    have r2 := hlr _ q2
    have m1 : (p : Int) % (l.length : Int) = ((p % l.length : Nat) : Int) := rfl
    have m2 : ((p : Int) * 7 + 3) % (l.length : Int) = (((p * 7 + 3) % l.length : Nat) : Int) := rfl
    have m3 : (p : Int) / (l.length : Int) = ((p / l.length : Nat) : Int) := rfl
    generalize p / l.length = D at m3 q3
    generalize hA : l.getD (p % l.length) 0 = A at r1 c1
    generalize hB : l.getD ((p * 7 + 3) % l.length) 0 = B at r2 c2
    refine QR_of (by kernel_rfl) (by kernel_rfl) ?_
    simp (disch := omega) only [go_sem, Nat.reduceEqDiff, ↓reduceIte, Nat.reduceAdd, a0, a1, b1.cell, List.getElem?_toArray, List.getElem?_cons_zero, m1, m2, m3, c1, c2]
    obtain ⟨X, hX⟩ : ∃ X : Nat, A * 131 + B * 1117 + (p : Int) * 29 + (D : Int) * 53 = (X : Int) := ⟨(A * 131 + B * 1117 + (p : Int) * 29 + (D : Int) * 53).toNat, by omega⟩
    have hX' : X < 1000000000000 := by omega
    have m4 : (X : Int) / 64 = ((X / 64 : Nat) : Int) := rfl
    have q4 : X / 64 ≤ X := Nat.div_le_self _ _
    intro w2 x2
    simp (disch := omega) only [hX, go_sem, Nat.reduceEqDiff, ↓reduceIte, Nat.reduceAdd, a1, m4, Try.results89]
    refine ⟨(((X ^^^ X / 64 : Nat) : Int) % n).toNat, ?_, .inr ?_, g.trans (x2.grow _), hr1.ext x2⟩
    · rw [Int.toNat_of_nonneg (Int.emod_nonneg _ (by omega))]
    · rw [Int.toNat_of_nonneg (Int.emod_nonneg _ (by omega))]; exact Int.emod_lt_of_pos _ (by omega)

theorem l6Open_c (a : Option Addr) (l : List Int) (c : Nat) (w : World) (hl : l.length ≤ c) (hc : c ≤ maxLen) (hs : ByteS w a l) :
    Ret Try.prog 69 #[.slice a l.length c] w fun v w' => ∃ rb, v = .pointer (some ⟨rb, 0, none⟩) ∧ Ext w w' ∧ w.heap.size ≤ rb ∧ Rdr w' rb (rb + 1) 0 ∧ w'.heap.size = rb + 1 := by
  have hl' := maxLen_le (Nat.le_trans hl hc)
  have hc' := maxLen_le hc
  refine enter1 Try.func69 rfl (by kernel_rfl) (of_decide_eq_true (by kernel_rfl)) fun f a0 => ?_
  have fin : ∀ (l' : List Int), ByteS w a l' → l'.length ≤ 2000 → ∀ (w' : World) (b : Nat), b = w.heap.size → Ext w w' → Blk w' b #[.slice a l'.length c, .int .i64 0] 80 → w'.heap.size = b + 1 →
      Ext w w' ∧ w.heap.size ≤ b ∧ Rdr w' b (b + 1) 0 ∧ w'.heap.size = b + 1 := fun l' hs' h2 w' b eb x k e =>
    ⟨x, by omega, ⟨a, l', c, 0, k, hs'.ext x, fun hne b' hb' => by have := hs'.old hne b' hb'; omega, h2, by omega, by omega⟩, e⟩
  by_cases h : (2000 : Int) < l.length
  · simp (disch := omega) only [go_sem, Nat.reduceEqDiff, ↓reduceIte, Nat.reduceAdd, a0, h]
    refine boxK_of fun w1 b eb x1 k1 e1 => ?_
    simp (disch := omega) only [go_sem, Nat.reduceEqDiff, ↓reduceIte, Try.results69]
    have hl2 : (l.take 2000).length = 2000 := by rw [List.length_take]; omega
    exact ⟨b, rfl, fin _ (hs.take 2000) (by omega) w1 b eb x1 (by rw [hl2]; exact k1) e1⟩
  · simp (disch := omega) only [go_sem, Nat.reduceEqDiff, ↓reduceIte, Nat.reduceAdd, a0, h]
    refine boxK_of fun w1 b eb x1 k1 e1 => ?_
    simp (disch := omega) only [go_sem, Nat.reduceEqDiff, ↓reduceIte, Try.results69]
    exact ⟨b, rfl, fin l hs (by omega) w1 b eb x1 k1 e1⟩

end Go.Proofs.Ytlnodngkacbfkaa
