/- Contracts of the laws' helpers on slices of integers. -/
import Derived.Test.YtlnodngkacbfkaaF
set_option linter.all false
set_option maxRecDepth 20000
namespace Go.Proofs.Ytlnodngkacbfkaa
open Go.RowKit Go.SW



theorem szIntS_c (a : Option Addr) (n c : Nat) (left : Int) (w : World) (h0 : 0 ≤ left) (h1 : left ≤ 1048576) (hn : n ≤ maxLen) :
    Ret Try.prog 60 #[.slice a n c, .int .i64 left] w fun v w' => v = .int .i64 (if left - n < 0 then -1 else left - n) ∧ Ext w w' := by
  have hn' := maxLen_le hn
  refine enter2 Try.func60 rfl (by kernel_rfl) (of_decide_eq_true (by kernel_rfl)) fun f a0 a1 => ?_
  by_cases h : left - n < 0 <;>
    simp (disch := omega) only [go_sem, Nat.reduceEqDiff, ↓reduceIte, a0, a1, h, Try.results60, Ext.refl, and_true]

theorem szIntSS_c (a : Option Addr) (rows : List (List Int)) (A : Nat → Option Addr) (Cp : Nat → Nat) (c : Nat) (left : Int) (w : World) (hr : RowsAt w a rows A Cp) (h0 : 0 ≤ left) (h1 : left ≤ 1048576) :
    Ret Try.prog 16 #[.slice a rows.length c, .int .i64 left] w fun v w' => ∃ x, v = .int .i64 x ∧ Ext w w' ∧
      (0 ≤ x → rows.length ≤ left ∧ ∀ r, r < rows.length → ((rows.getD r []).length : Int) ≤ left) := by
  have hn' := maxLen_le hr.lens
  refine enter2 Try.func16 rfl (by kernel_rfl) (of_decide_eq_true (by kernel_rfl)) fun f a0 a1 => ?_
  by_cases h : left - rows.length < 0
  · simp (disch := omega) only [go_sem, Nat.reduceEqDiff, ↓reduceIte, a0, a1, h, Try.results16]
    exact ⟨_, rfl, Ext.refl _, fun h => by omega⟩
  · simp (disch := omega) only [go_sem, Nat.reduceEqDiff, ↓reduceIte, a0, a1, h]
    refine loopX (fun m f w' => ∃ (k : Nat) (x : Int), m = rows.length - k ∧ k ≤ rows.length ∧ f 0 = .slice a rows.length c ∧ f 1 = .int .i64 x ∧ f 5 = .int .i64 k ∧ 0 ≤ x ∧ x ≤ left ∧ Ext w w' ∧
      ∀ r, r < k → ((rows.getD r []).length : Int) ≤ left) rows.length ?_ fun m f w' ⟨k, x, hm, hk, a0, a1, a5, hx0, hx1, xw, hl⟩ => ?_
    · exact ⟨0, left - rows.length, by omega, by omega, by simp only [upd_apply, Nat.reduceEqDiff, ↓reduceIte, a0], by simp only [upd_apply, Nat.reduceEqDiff, ↓reduceIte], by simp only [upd_apply, Nat.reduceEqDiff, ↓reduceIte]; rfl, by omega, by omega, Ext.refl _, fun r hr => by omega⟩
    · by_cases hlt : (k : Int) < rows.length
      · obtain ⟨b, o, rfl⟩ := hr.head (by intro e; rw [e] at hlt; simp at hlt; omega)
        have hr' := hr.ext xw
        have hlen := maxLen_le (hr.len _ (getD_mem (d := []) (show k < rows.length by omega)))
        have g0 := hr'.row b o rfl k (by omega)
        simp (disch := omega) only [go_sem, Nat.reduceEqDiff, ↓reduceIte, a0, a1, a5, hlt, g0]
        refine callK_of (by kernel_rfl) (szIntS_c _ _ _ x _ hx0 (by omega) (by simpa using hr.len _ (getD_mem (d := []) (show k < rows.length by omega)))) ?_
        rintro _ w2 ⟨rfl, x2⟩
        by_cases h2 : x - (rows.getD k []).length < 0
        · simp (disch := omega) only [go_sem, Nat.reduceEqDiff, ↓reduceIte, h2, Try.results16, Int.reduceLT, Int.reduceNeg]
          exact ⟨_, rfl, xw.trans x2, fun h => by omega⟩
        · simp (disch := omega) only [go_sem, Nat.reduceEqDiff, ↓reduceIte, h2, a5]
          refine ⟨rows.length - (k + 1), by omega, k + 1, x - (rows.getD k []).length, rfl, by omega, ?_, ?_, ?_, by omega, by omega, xw.trans x2, fun r hr2 => ?_⟩
          · simp [upd_apply, a0]
          · simp [upd_apply]
          · simp [upd_apply]
          · by_cases e : r = k
            · subst e; omega
            · exact hl r (by omega)
      · simp (disch := omega) only [go_sem, Nat.reduceEqDiff, ↓reduceIte, a0, a1, a5, hlt, Try.results16]
        exact ⟨x, rfl, xw, fun _ => ⟨by omega, fun r hr => hl r (by omega)⟩⟩

theorem toIntS_c (a : Option Addr) (l : List Int) (c : Nat) (w : World) (hl : IntS w a l) (hn : l.length ≤ 1048576) :
    Ret Try.prog 65 #[.slice a l.length c] w fun v w' => ∃ b, v = .slice (some ⟨b, 0, none⟩) l.length l.length ∧ w.heap.size ≤ b ∧ Ext w w' ∧ OwnS w' 3 1 (some ⟨b, 0, none⟩) l.length l.length (vi l) := by
  refine enter1 Try.func65 rfl (by kernel_rfl) (of_decide_eq_true (by kernel_rfl)) fun f a0 => ?_
  simp only [go_sem, Nat.reduceEqDiff, ↓reduceIte, a0]
  refine mksK_of elt_i l.length l.length _ _ _ _ rfl rfl (Nat.le_refl _) (by omega) (by simp [maxLen]; omega) fun w1 b eb x1 o1 _ => ?_
  simp only [go_sem, Nat.reduceEqDiff, ↓reduceIte]
  refine loopX (fun m f w' => ∃ (k : Nat) (xs : List Value), m = l.length - k ∧ k ≤ l.length ∧ f 0 = .slice a l.length c ∧ f 3 = .slice (some ⟨b, 0, none⟩) l.length l.length ∧ f 4 = .int .i64 k ∧ Ext w w' ∧
      OwnS w' 3 1 (some ⟨b, 0, none⟩) l.length l.length xs ∧ ∀ j, j < k → xs[j]? = some (.int .i64 (l.getD j 0))) l.length ?_ fun m f w' ⟨k, xs, hm, hk, a0, a3, a4, xw, o, hx⟩ => ?_
  · exact ⟨0, _, by omega, by omega, by simp [upd_apply, a0], by simp [upd_apply], by simp [upd_apply], x1, o1, fun j hj => by omega⟩
  · by_cases hlt : (k : Int) < l.length
    · obtain ⟨b', o', rfl⟩ := hl.head (by intro e; rw [e] at hlt; simp at hlt; omega)
      have g0 := (hl.ext xw).cell b' o' rfl k (by omega)
      simp (disch := omega) only [go_sem, Nat.reduceEqDiff, ↓reduceIte, a0, a3, a4, hlt, g0]
      refine stK_own siz_int (by rfl) (by rfl) o (by omega) fun w2 o2 g2 => ?_
      simp (disch := omega) only [go_sem, Nat.reduceEqDiff, ↓reduceIte, a4]
      refine ⟨l.length - (k + 1), by omega, k + 1, _, rfl, by omega, by simp [upd_apply, a0], by simp [upd_apply, a3], by simp [upd_apply], g2.ext xw (by omega), o2, ?_⟩
      exact set_get (fun j => .int .i64 (l.getD j 0)) (by rw [o.1]; omega) (by simp) hx
    · simp (disch := omega) only [go_sem, Nat.reduceEqDiff, ↓reduceIte, a0, a3, a4, hlt, Try.results65]
      refine ⟨b, rfl, by omega, xw, ?_⟩
      have : xs = vi l := vi_ext (by rw [o.1]; omega) (fun j hj => hx j (by omega))
      exact this ▸ o

theorem toIntSS_c (a : Option Addr) (rows : List (List Int)) (A : Nat → Option Addr) (Cp : Nat → Nat) (c : Nat) (w : World) (hr : RowsAt w a rows A Cp) (hn : rows.length ≤ 1048576) (hl : ∀ r, r < rows.length → (rows.getD r []).length ≤ 1048576) :
    Ret Try.prog 18 #[.slice a rows.length c] w fun v w' => ∃ b A', v = .slice (some ⟨b, 0, none⟩) rows.length rows.length ∧ Ext w w' ∧ OwnRows w' 24 3 w.heap.size b rows A' := by
  refine enter1 Try.func18 rfl (by kernel_rfl) (of_decide_eq_true (by kernel_rfl)) fun f a0 => ?_
  simp only [go_sem, Nat.reduceEqDiff, ↓reduceIte, a0]
  refine mksK_of elt_ii rows.length rows.length _ _ _ _ rfl rfl (Nat.le_refl _) (by omega) (by simp [maxLen]; omega) fun w1 b eb x1 o1 _ => ?_
  simp only [go_sem, Nat.reduceEqDiff, ↓reduceIte]
  refine loopX (fun m f w' => ∃ (k : Nat) (xs : List Value) (A' : Nat → Option Addr), m = rows.length - k ∧ k ≤ rows.length ∧ f 0 = .slice a rows.length c ∧ f 3 = .slice (some ⟨b, 0, none⟩) rows.length rows.length ∧ f 4 = .int .i64 k ∧ Ext w w' ∧
      OwnS w' 24 1 (some ⟨b, 0, none⟩) rows.length rows.length xs ∧ (∀ j, j < k → xs[j]? = some (.slice (A' j) (rows.getD j []).length (rows.getD j []).length)) ∧
      (∀ r, r < k → ∃ br, A' r = some ⟨br, 0, none⟩ ∧ w.heap.size ≤ br ∧ br ≠ b ∧ OwnS w' 3 1 (A' r) (rows.getD r []).length (rows.getD r []).length (vi (rows.getD r []))) ∧
      (∀ r s, r < k → s < k → blk (A' r) = blk (A' s) → r = s)) rows.length ?_ fun m f w' ⟨k, xs, A', hm, hk, a0, a3, a4, xw, o, hx, hrow, hinj⟩ => ?_
  · exact ⟨0, _, fun _ => none, by omega, by omega, by simp [upd_apply, a0], by simp [upd_apply], by simp [upd_apply], x1, o1, fun j hj => by omega, fun j hj => by omega, fun j _ hj => by omega⟩
  · by_cases hlt : (k : Int) < rows.length
    · obtain ⟨b', o', rfl⟩ := hr.head (by intro e; rw [e] at hlt; simp at hlt; omega)
      have hr' := hr.ext xw
      have g0 := hr'.row b' o' rfl k (by omega)
      simp (disch := omega) only [go_sem, Nat.reduceEqDiff, ↓reduceIte, a0, a3, a4, hlt, g0]
      refine callK_of (by kernel_rfl) (toIntS_c _ _ _ _ (hr'.ints k (by omega)) (hl k (by omega))) ?_
      rintro _ w2 ⟨bk, rfl, hbk, x2, ok⟩
      have hbw : b < w'.heap.size := o.blk_lt rfl
      simp (disch := omega) only [go_sem, Nat.reduceEqDiff, ↓reduceIte, a3, a4]
      refine stK_own siz_i (by rfl) (by rfl) (o.ext x2) (by omega) fun w3 o3 g3 => ?_
      simp (disch := omega) only [go_sem, Nat.reduceEqDiff, ↓reduceIte, a4]
      refine ⟨rows.length - (k + 1), by omega, k + 1, _, fun j => if j = k then some ⟨bk, 0, none⟩ else A' j, rfl, by omega, by simp [upd_apply, a0], by simp [upd_apply, a3], by simp [upd_apply], g3.ext (xw.trans x2) (by omega), o3, ?_, ?_, ?_⟩
      · refine set_get (fun j => .slice (if j = k then some ⟨bk, 0, none⟩ else A' j) (rows.getD j []).length (rows.getD j []).length) (by rw [o.1]; omega) (by simp) fun j hj => ?_
        rw [if_neg (by omega)]; exact hx j hj
      · intro r hr2
        by_cases e : r = k
        · subst e
          exact ⟨bk, by simp, by have := xw.size; omega, by omega, by simpa using ok.grow g3.grow (by simp [blk]; omega)⟩
        · obtain ⟨br, h1, h2, h3, oo⟩ := hrow r (by omega)
          exact ⟨br, by simp [e, h1], h2, h3, by simpa [e] using (oo.ext x2).grow g3.grow (by rw [h1]; simp [blk]; omega)⟩
      · intro r s hr2 hs2 he
        have lt : ∀ j, j < k → ∀ bj, blk (A' j) = some bj → bj < bk := fun j hj bj hbj => by
          obtain ⟨br, h1, h2, h3, oo⟩ := hrow j hj
          have := oo.blk_lt hbj; omega
        by_cases e1 : r = k <;> by_cases e2 : s = k
        · omega
        · simp only [e1, e2, if_true, if_false, blk_some] at he
          have := lt s (by omega) bk he.symm; omega
        · simp only [e1, e2, if_true, if_false, blk_some] at he
          have := lt r (by omega) bk he; omega
        · simp only [e1, e2, if_false] at he
          exact hinj r s (by omega) (by omega) he
    · simp (disch := omega) only [go_sem, Nat.reduceEqDiff, ↓reduceIte, a0, a3, a4, hlt, Try.results18]
      have e : k = rows.length := by omega
      subst e
      exact ⟨b, A', rfl, xw, ⟨xs, o, hx⟩, by omega, hrow, hinj⟩

theorem eqIntS_c (a b : Option Addr) (l m : List Int) (c d : Nat) (w : World) (hl : IntS w a l) (hm : IntS w b m) (hn : l.length ≤ maxLen) :
    Ret Try.prog 20 #[.slice a l.length c, .slice b m.length d] w fun v w' => v = .bool (decide (l = m)) ∧ Ext w w' := by
  have hn' := maxLen_le hn
  refine enter2 Try.func20 rfl (by kernel_rfl) (of_decide_eq_true (by kernel_rfl)) fun f a0 a1 => ?_
  by_cases hlen : l.length = m.length
  · have hne : ((l.length : Int) != (m.length : Int)) = false := by simp [hlen]
    simp (disch := omega) only [go_sem, Nat.reduceEqDiff, ↓reduceIte, a0, a1, hne]
    refine loopX (fun n f w' => ∃ k : Nat, n = l.length - k ∧ k ≤ l.length ∧ f 0 = .slice a l.length c ∧ f 1 = .slice b m.length d ∧ f 5 = .int .i64 k ∧ Ext w w' ∧ ∀ j, j < k → l.getD j 0 = m.getD j 0) l.length ?_ fun n f w' ⟨k, hn, hk, a0, a1, a5, xw, he⟩ => ?_
    · exact ⟨0, by omega, by omega, by simp [upd_apply, a0], by simp [upd_apply, a1], by simp [upd_apply], Ext.refl _, fun j hj => by omega⟩
    · by_cases hlt : (k : Int) < l.length
      · obtain ⟨b1, o1, rfl⟩ := hl.head (by intro e; rw [e] at hlt; simp at hlt; omega)
        obtain ⟨b2, o2, rfl⟩ := hm.head (by intro e; rw [e] at hlen; rw [hlen] at hlt; simp at hlt; omega)
        have g1 := (hl.ext xw).cell b1 o1 rfl k (by omega)
        have g2 := (hm.ext xw).cell b2 o2 rfl k (by omega)
        simp (disch := omega) only [go_sem, Nat.reduceEqDiff, ↓reduceIte, a0, a1, a5, hlt]
        refine QR_of (by kernel_rfl) (by kernel_rfl) ?_
        by_cases hx : l.getD k 0 = m.getD k 0
        · have hne : (l.getD k 0 != m.getD k 0) = false := bne_eq_false_iff_eq.2 hx
          simp (disch := omega) only [go_sem, Nat.reduceEqDiff, ↓reduceIte, a0, a1, a5, g1, g2, hne]
          refine fun w2 x2 => ⟨l.length - (k + 1), by omega, k + 1, rfl, by omega, by simp [upd_apply, a0], by simp [upd_apply, a1], by simp [upd_apply], xw.trans x2, fun j hj => ?_⟩
          by_cases e : j = k
          · subst e; exact hx
          · exact he j (by omega)
        · have hne : (l.getD k 0 != m.getD k 0) = true := bne_iff_ne.2 hx
          simp (disch := omega) only [go_sem, Nat.reduceEqDiff, ↓reduceIte, a0, a1, a5, g1, g2, hne, Try.results20]
          refine fun w2 x2 => ⟨?_, xw.trans x2⟩
          rw [decide_eq_false (fun e => hx (by rw [e]))]
      · simp (disch := omega) only [go_sem, Nat.reduceEqDiff, ↓reduceIte, a0, a1, a5, hlt, Try.results20]
        refine ⟨?_, xw⟩
        rw [decide_eq_true]
        refine List.ext_getElem hlen fun j h1 h2 => ?_
        have := he j (by omega)
        rwa [getD_at _ _ h1, getD_at _ _ h2] at this
  · have hne : ((l.length : Int) != (m.length : Int)) = true := by simp; omega
    simp (disch := omega) only [go_sem, Nat.reduceEqDiff, ↓reduceIte, a0, a1, hne, Try.results20]
    exact ⟨by rw [decide_eq_false (fun e => hlen (by rw [e]))], Ext.refl _⟩

theorem eqIntSS_c (a b : Option Addr) (l m : List (List Int)) (A B : Nat → Option Addr) (Cp Dp : Nat → Nat) (c d : Nat) (w : World) (hl : RowsAt w a l A Cp) (hm : RowsAt w b m B Dp) :
    Ret Try.prog 21 #[.slice a l.length c, .slice b m.length d] w fun v w' => v = .bool (decide (l = m)) ∧ Ext w w' := by
  have hn' := maxLen_le hl.lens
  refine enter2 Try.func21 rfl (by kernel_rfl) (of_decide_eq_true (by kernel_rfl)) fun f a0 a1 => ?_
  by_cases hlen : l.length = m.length
  · have hne : ((l.length : Int) != (m.length : Int)) = false := by simp [hlen]
    simp (disch := omega) only [go_sem, Nat.reduceEqDiff, ↓reduceIte, a0, a1, hne]
    refine loopX (fun n f w' => ∃ k : Nat, n = l.length - k ∧ k ≤ l.length ∧ f 0 = .slice a l.length c ∧ f 1 = .slice b m.length d ∧ f 5 = .int .i64 k ∧ Ext w w' ∧ ∀ j, j < k → l.getD j [] = m.getD j []) l.length ?_ fun n f w' ⟨k, hn, hk, a0, a1, a5, xw, he⟩ => ?_
    · exact ⟨0, by omega, by omega, by simp [upd_apply, a0], by simp [upd_apply, a1], by simp [upd_apply], Ext.refl _, fun j hj => by omega⟩
    · by_cases hlt : (k : Int) < l.length
      · obtain ⟨b1, o1, rfl⟩ := hl.head (by intro e; rw [e] at hlt; simp at hlt; omega)
        obtain ⟨b2, o2, rfl⟩ := hm.head (by intro e; rw [e] at hlen; rw [hlen] at hlt; simp at hlt; omega)
        have hl' := hl.ext xw
        have hm' := hm.ext xw
        have g1 := hl'.row b1 o1 rfl k (by omega)
        have g2 := hm'.row b2 o2 rfl k (by omega)
        simp (disch := omega) only [go_sem, Nat.reduceEqDiff, ↓reduceIte, a0, a1, a5, hlt]
        refine QR_of (by kernel_rfl) (by kernel_rfl) ?_
        simp (disch := omega) only [go_sem, Nat.reduceEqDiff, ↓reduceIte, a0, a1, a5, g1, g2]
        refine callK_q (by kernel_rfl) (fun w2 x2 => eqIntS_c _ _ _ _ _ _ _ ((hl'.ints k (by omega)).ext x2) ((hm'.ints k (by omega)).ext x2) (hl.len _ (getD_mem (by omega)))) ?_
        by_cases hx : l.getD k [] = m.getD k []
        · simp (disch := omega) only [go_sem, Nat.reduceEqDiff, ↓reduceIte, a0, a1, a5, hx]
          refine fun w2 x2 => ⟨l.length - (k + 1), by omega, k + 1, rfl, by omega, by simp [upd_apply, a0], by simp [upd_apply, a1], by simp [upd_apply], xw.trans x2, fun j hj => ?_⟩
          by_cases e : j = k
          · subst e; exact hx
          · exact he j (by omega)
        · simp (disch := omega) only [go_sem, Nat.reduceEqDiff, ↓reduceIte, a0, a1, a5, hx, Try.results21]
          refine fun w2 x2 => ⟨?_, xw.trans x2⟩
          rw [decide_eq_false (fun e => hx (by rw [e]))]
      · simp (disch := omega) only [go_sem, Nat.reduceEqDiff, ↓reduceIte, a0, a1, a5, hlt, Try.results21]
        refine ⟨?_, xw⟩
        rw [decide_eq_true]
        refine List.ext_getElem hlen fun j h1 h2 => ?_
        have := he j (by omega)
        rwa [getD_at _ _ h1, getD_at _ _ h2] at this
  · have hne : ((l.length : Int) != (m.length : Int)) = true := by simp; omega
    simp (disch := omega) only [go_sem, Nat.reduceEqDiff, ↓reduceIte, a0, a1, hne, Try.results21]
    exact ⟨by rw [decide_eq_false (fun e => hlen (by rw [e]))], Ext.refl _⟩

end Go.Proofs.Ytlnodngkacbfkaa
