/- Comparing and marking slices of strings; the law FnExactSheetsBetween. -/
import Derived.Test.YteenlohkhckjkaaDoorTh
set_option linter.all false
set_option maxRecDepth 20000
namespace Go.Proofs.YteenlohkhckjkaaDoor
open Go.RowKit Go.SW

theorem eqStringS_c (a b : Option Addr) (L M : List (List UInt8)) (c d : Nat) (w : World) (hl : StrS w a L) (hm : StrS w b M) (hn : L.length ≤ 1000000) (hn2 : M.length ≤ 1000000) :
    Ret Tryd.prog 22 #[.slice a L.length c, .slice b M.length d] w fun v w' => v = .bool (decide (L = M)) ∧ Ext w w' := by
  refine enter2 Tryd.func22 rfl (by kernel_rfl) (of_decide_eq_true (by kernel_rfl)) fun f a0 a1 => ?_
  by_cases hlen : L.length = M.length
  · have hne : ((L.length : Int) != (M.length : Int)) = false := by simp [hlen]
    simp (disch := omega) only [go_sem, Nat.reduceEqDiff, ↓reduceIte, Nat.reduceAdd, a0, a1, hne]
    refine loopN L.length (fun k f w' => f 0 = .slice a L.length c ∧ f 1 = .slice b M.length d ∧ f 5 = .int .i64 k ∧ Ext w w' ∧ ∀ j, j < k → L.getD j [] = M.getD j []) ⟨(by first | assumption | (simp only [upd_apply, Nat.reduceEqDiff, ↓reduceIte] <;> first | rfl | assumption) | simp [upd_apply, *]), (by first | assumption | (simp only [upd_apply, Nat.reduceEqDiff, ↓reduceIte] <;> first | rfl | assumption) | simp [upd_apply, *]), (by first | assumption | (simp only [upd_apply, Nat.reduceEqDiff, ↓reduceIte] <;> first | rfl | assumption) | simp [upd_apply, *]), Ext.refl _, fun j hj => by omega⟩ fun k f w' hk ⟨a0, a1, a5, xw, he⟩ => ?_
    by_cases hlt : (k : Int) < L.length
    · obtain ⟨b1, o1, rfl⟩ := hl.head (by intro e; rw [e] at hlt; simp at hlt; omega)
      obtain ⟨b2, o2, rfl⟩ := hm.head (by intro e; rw [e] at hlen; rw [hlen] at hlt; simp at hlt; omega)
      have g1 := (hl.ext xw).cell b1 o1 rfl k (by omega)
      have g2 := (hm.ext xw).cell b2 o2 rfl k (by omega)
      simp (disch := omega) only [go_sem, Nat.reduceEqDiff, ↓reduceIte, Nat.reduceAdd, a0, a1, a5, hlt]
      refine QR_of (by kernel_rfl) (by kernel_rfl) ?_
      by_cases hx : L.getD k [] = M.getD k []
      · have hne : (!(L.getD k [] == M.getD k [])) = false := by simpa using hx
        simp (disch := omega) only [go_sem, Nat.reduceEqDiff, ↓reduceIte, Nat.reduceAdd, a0, a1, a5, g1, g2, hne]
        refine fun w2 x2 => ⟨by omega, (by first | assumption | (simp only [upd_apply, Nat.reduceEqDiff, ↓reduceIte] <;> first | rfl | assumption) | simp [upd_apply, *]), (by first | assumption | (simp only [upd_apply, Nat.reduceEqDiff, ↓reduceIte] <;> first | rfl | assumption) | simp [upd_apply, *]), (by first | assumption | (simp only [upd_apply, Nat.reduceEqDiff, ↓reduceIte] <;> first | rfl | assumption) | simp [upd_apply, *]), xw.trans x2, fun j hj => ?_⟩
        by_cases e : j = k
        · subst e; exact hx
        · exact he j (by omega)
      · have hne : (!(L.getD k [] == M.getD k [])) = true := by simpa using hx
        simp (disch := omega) only [go_sem, Nat.reduceEqDiff, ↓reduceIte, Nat.reduceAdd, a0, a1, a5, g1, g2, hne, Tryd.results22]
        refine fun w2 x2 => ⟨?_, xw.trans x2⟩
        rw [decide_eq_false (fun e => hx (by rw [e]))]
    · simp (disch := omega) only [go_sem, Nat.reduceEqDiff, ↓reduceIte, Nat.reduceAdd, a0, a1, a5, hlt, Tryd.results22]
      refine ⟨?_, xw⟩
      rw [decide_eq_true]
      refine List.ext_getElem hlen fun j h1 h2 => ?_
      have := he j (by omega)
      rwa [getD_at _ _ h1, getD_at _ _ h2] at this
  · have hne : ((L.length : Int) != (M.length : Int)) = true := by simp; omega
    simp (disch := omega) only [go_sem, Nat.reduceEqDiff, ↓reduceIte, Nat.reduceAdd, a0, a1, hne, Tryd.results22]
    exact ⟨by rw [decide_eq_false (fun e => hlen (by rw [e]))], Ext.refl _⟩

theorem markText_c (n : Nat) (h1 : 1 ≤ n) (h2 : n ≤ 1000000) (w : World) : Ret Tryd.prog 51 #[.int .i64 n] w fun v w' => v = .string (bs (109 :: dec n)) ∧ Ext w w' := by
  refine enter1 Tryd.func51 rfl (by kernel_rfl) (of_decide_eq_true (by kernel_rfl)) fun f a0 => ?_
  have h0 : ¬ (n : Int) ≤ 0 := by omega
  have hdl := dec_len n
  simp (disch := omega) only [go_sem, Nat.reduceEqDiff, ↓reduceIte, Nat.reduceAdd, a0, h0]
  refine loopX (fun m f w' => m ≤ n ∧ f 0 = .int .i64 m ∧ (∃ out, f 3 = .string (bs out) ∧ (if m = 0 then [] else dec m) ++ out = dec n) ∧ Ext w w') n ⟨by omega, (by first | assumption | (simp only [upd_apply, Nat.reduceEqDiff, ↓reduceIte] <;> first | rfl | assumption) | simp [upd_apply, *]), ⟨[], (by first | assumption | (simp only [upd_apply, Nat.reduceEqDiff, ↓reduceIte] <;> first | rfl | assumption) | simp [upd_apply, *]), by rw [if_neg (by omega), List.append_nil]⟩, Ext.refl _⟩ fun m f w1 ⟨hm, a0, ⟨out, a3, ho⟩, xw⟩ => ?_
  have hlo : out.length ≤ (dec n).length := by rw [← ho]; simp
  by_cases hlt : (0 : Int) < m
  · have e2 : (m : Int) % 10 = ((m % 10 : Nat) : Int) := rfl
    have e3 : (48 : Int) + ((m % 10 : Nat) : Int) = ((48 + m % 10 : Nat) : Int) := by omega
    have e4 : (m : Int) / 10 = ((m / 10 : Nat) : Int) := rfl
    simp (disch := omega) only [go_sem, Nat.reduceEqDiff, ↓reduceIte, Nat.reduceAdd, a0, a3, hlt, e2, e3]
    refine bslK_1 elt_b rfl fun w2 b2 _ x2 k2 _ => ?_
    simp (disch := omega) only [go_sem, Nat.reduceEqDiff, ↓reduceIte, Nat.reduceAdd]
    refine cvK_1 cvb_bs k2 ?_
    simp (disch := omega) only [go_sem, Nat.reduceEqDiff, ↓reduceIte, Nat.reduceAdd, a0, a3, e4, Int.toNat_natCast]
    refine ⟨m / 10, by omega, by omega, (by first | assumption | (simp only [upd_apply, Nat.reduceEqDiff, ↓reduceIte] <;> first | rfl | assumption) | simp [upd_apply, *]), ⟨UInt8.ofNat (48 + m % 10) :: out, (by first | assumption | (simp only [upd_apply, Nat.reduceEqDiff, ↓reduceIte] <;> first | rfl | assumption) | simp [upd_apply, *]), ?_⟩, xw.trans x2⟩
    rw [if_neg (show ¬ m = 0 by omega)] at ho
    rw [← ho]
    by_cases h10 : m < 10
    · rw [if_pos (show m / 10 = 0 by omega), dec_lt h10, show m % 10 = m by omega]; rfl
    · rw [if_neg (show ¬ m / 10 = 0 by omega), dec_ge h10, List.append_assoc]; rfl
  · obtain rfl : m = 0 := by omega
    rw [if_pos rfl, List.nil_append] at ho
    subst ho
    have hnot : ¬ (0 : Int) < ((0 : Nat) : Int) := by omega
    simp (disch := omega) only [go_sem, Nat.reduceEqDiff, ↓reduceIte, Nat.reduceAdd, a0, a3, hnot, Tryd.results51]
    exact ⟨trivial, xw⟩

theorem markStringS_c (a : Option Addr) (n c : Nat) (xs : List Value) (k0 : Nat) (w : World) (o : OwnS w 9 1 a n c xs) (h0 : 1 ≤ k0) (h1 : k0 + n ≤ 1000000) :
    Ret Tryd.prog 23 #[.slice a n c, .int .i64 k0] w fun v w' => v = .int .i64 (k0 + n : Nat) ∧ Grow (blk a) w w' ∧ OwnS w' 9 1 a n c (vst (tmarks k0 n)) := by
  refine enter2 Tryd.func23 rfl (by kernel_rfl) (of_decide_eq_true (by kernel_rfl)) fun f a0 a1 => ?_
  simp (disch := omega) only [go_sem, Nat.reduceEqDiff, ↓reduceIte, Nat.reduceAdd]
  refine loopN n (fun k f W => f 0 = .slice a n c ∧ f 1 = .int .i64 (k0 + k : Nat) ∧ f 5 = .int .i64 k ∧ Grow (blk a) w W ∧ ∃ ys, OwnS W 9 1 a n c ys ∧ ∀ j, j < k → ys[j]? = some (.string (bs (109 :: dec (k0 + j))))) ⟨(by first | assumption | (simp only [upd_apply, Nat.reduceEqDiff, ↓reduceIte] <;> first | rfl | assumption) | simp [upd_apply, *]), by simp [upd_apply, a1], (by first | assumption | (simp only [upd_apply, Nat.reduceEqDiff, ↓reduceIte] <;> first | rfl | assumption) | simp [upd_apply, *]), Grow.refl _ _, xs, o, fun j hj => by omega⟩ fun k f W hk ⟨a0, a1, a5, gw, ys, oy, hy⟩ => ?_
  by_cases hlt : (k : Int) < n
  · obtain ⟨b, rfl⟩ := oy.some (by omega)
    simp (disch := omega) only [go_sem, Nat.reduceEqDiff, ↓reduceIte, Nat.reduceAdd, a0, a1, a5, hlt]
    refine callK_pure (by kernel_rfl) (markText_c (k0 + k) (by omega) (by omega) _) fun w2 x2 => ?_
    simp (disch := omega) only [go_sem, Nat.reduceEqDiff, ↓reduceIte, Nat.reduceAdd]
    refine stK_own siz_str (by rfl) (by rfl) (oy.ext x2) (by omega) fun w3 o3 g3 => ?_
    simp (disch := omega) only [go_sem, Nat.reduceEqDiff, ↓reduceIte, Nat.reduceAdd, a0, a1, a5]
    exact ⟨by omega, (by first | assumption | (simp only [upd_apply, Nat.reduceEqDiff, ↓reduceIte] <;> first | rfl | assumption) | simp [upd_apply, *]), by simp [upd_apply]; omega, (by first | assumption | (simp only [upd_apply, Nat.reduceEqDiff, ↓reduceIte] <;> first | rfl | assumption) | simp [upd_apply, *]), (gw.trans (x2.grow _)).trans g3.grow, _, o3, set_get (fun j => .string (bs (109 :: dec (k0 + j)))) (by rw [oy.1]; omega) rfl hy⟩
  · obtain rfl : k = n := by omega
    simp (disch := omega) only [go_sem, Nat.reduceEqDiff, ↓reduceIte, Nat.reduceAdd, a0, a1, a5, hlt, Tryd.results23]
    have e : ys = vst (tmarks k0 k) := vst_ext (by rw [oy.1, tmarks_len]; omega) fun j hj => by
      rw [tmarks_len] at hj; rw [hy j hj, tmarks_get _ hj]
    exact ⟨trivial, gw, by rw [← e]; exact oy⟩

theorem heldStringS_c (a : Option Addr) (n c : Nat) (k0 : Nat) (w : World) (o : StrS w a (tmarks k0 n)) (h0 : 1 ≤ k0) (h1 : k0 + n ≤ 1000000) :
    Ret Tryd.prog 24 #[.slice a n c, .int .i64 k0] w fun v w' => v = .int .i64 (k0 + n : Nat) ∧ Ext w w' := by
  refine enter2 Tryd.func24 rfl (by kernel_rfl) (of_decide_eq_true (by kernel_rfl)) fun f a0 a1 => ?_
  simp (disch := omega) only [go_sem, Nat.reduceEqDiff, ↓reduceIte, Nat.reduceAdd]
  refine loopN n (fun k f W => f 0 = .slice a n c ∧ f 1 = .int .i64 (k0 + k : Nat) ∧ f 5 = .int .i64 k ∧ Ext w W) ⟨(by first | assumption | (simp only [upd_apply, Nat.reduceEqDiff, ↓reduceIte] <;> first | rfl | assumption) | simp [upd_apply, *]), by simp [upd_apply, a1], (by first | assumption | (simp only [upd_apply, Nat.reduceEqDiff, ↓reduceIte] <;> first | rfl | assumption) | simp [upd_apply, *]), Ext.refl _⟩ fun k f W hk ⟨a0, a1, a5, xw⟩ => ?_
  by_cases hlt : (k : Int) < n
  · obtain ⟨b, o', rfl⟩ := o.head (by intro e; have := congrArg List.length e; rw [tmarks_len] at this; simp at this; omega)
    have g0 : ∀ W', Ext W W' → W'.cell? ⟨b, o' + k, none⟩ = some (.string (bs (109 :: dec (k0 + k)))) := fun W' x => by
      rw [((o.ext xw).ext x).cell b o' rfl k (by rw [tmarks_len]; omega), tmarks_get _ (by omega)]
    have hb : (!((109 :: dec (k0 + k)) == (109 :: dec (k0 + k)))) = false := by simp
    simp (disch := omega) only [go_sem, Nat.reduceEqDiff, ↓reduceIte, Nat.reduceAdd, a0, a1, a5, hlt]
    refine QR_sch none (.st 0 (.st 1 (.st 2 (.st 3 (.st 4 (.ef 5 (.st 6 (.done)))))))) (by kernel_rfl) (by kernel_rfl) fun w0 x0 => ?_
    have X := xw.trans x0
    simp (disch := omega) only [go_sem, Nat.reduceEqDiff, ↓reduceIte, Nat.reduceAdd, a0, a1, a5, g0 _ x0, ldS_none, hb]
    refine callK_of (by kernel_rfl) (markText_c (k0 + k) (by omega) (by omega) _) ?_
    rintro _ w1 ⟨rfl, y1⟩
    have x0 := x0.trans y1
    refine nxE_of (y1.grow _) ?_
    have X := X.trans y1
    simp (disch := omega) only [go_sem, Nat.reduceEqDiff, ↓reduceIte, Nat.reduceAdd, a0, a1, a5, hb]
    exact ⟨by omega, (by first | assumption | (simp only [upd_apply, Nat.reduceEqDiff, ↓reduceIte] <;> first | rfl | assumption) | simp [upd_apply, *]), by simp [upd_apply]; omega, (by first | assumption | (simp only [upd_apply, Nat.reduceEqDiff, ↓reduceIte] <;> first | rfl | assumption) | simp [upd_apply, *]), X⟩
  · obtain rfl : k = n := by omega
    simp (disch := omega) only [go_sem, Nat.reduceEqDiff, ↓reduceIte, Nat.reduceAdd, a0, a1, a5, hlt, Tryd.results24]
    exact ⟨trivial, xw⟩

theorem btList_len (ax ay bx dy : Int) : (btList ax ay bx dy).length ≤ 20 := by
  unfold btList
  split
  · rename_i h
    simp only [btOk, Bool.and_eq_true, decide_eq_true_eq] at h
    rw [nams_len]; exact h.2
  · simp

theorem exactSheetsBetween_c (ax ay bx dy : Int) (w : World) (h0 : I64 ax) (h1 : I64 ay) (h2 : I64 bx) (h3 : I64 dy) : Ret Tryd.prog 6 #[.int .i64 ax, .int .i64 ay, .int .i64 bx, .int .i64 dy] w fun v w' => v = .bool true ∧ Ext w w' := by
  have hn := btList_len ax ay bx dy
  have hd : decide (btList ax ay bx dy = btList ax ay bx dy) = true := decide_eq_true rfl
  have hk : (!(btOk ax ay bx dy == btOk ax ay bx dy)) = false := by simp
  refine enter4 Tryd.func6 rfl (by kernel_rfl) (of_decide_eq_true (by kernel_rfl)) fun f a0 a1 a2 a3 => ?_
  simp (disch := omega) only [go_sem, Nat.reduceEqDiff, ↓reduceIte, Nat.reduceAdd, a0, a1, a2, a3]
  refine callK_of (by kernel_rfl) (specSheetsBetween_c ax ay bx dy _) ?_
  rintro _ w1 ⟨wa, wc, rfl, x1, ow, hwa⟩
  simp (disch := omega) only [go_sem, Nat.reduceEqDiff, ↓reduceIte, Nat.reduceAdd, a0, a1, a2, a3]
  refine callK_of (by kernel_rfl) (implSheetsBetween_c ax ay bx dy _) ?_
  rintro _ w2 ⟨ga, gc, rfl, x2, og, hga⟩
  simp (disch := omega) only [go_sem, Nat.reduceEqDiff, ↓reduceIte, Nat.reduceAdd]
  refine callK_pure (by kernel_rfl) (eqStringS_c _ _ _ _ gc wc _ og.strs (ow.ext x2).strs (by omega) (by omega)) fun w3 x3 => ?_
  generalize hL : btList ax ay bx dy = L at *
  simp (disch := omega) only [go_sem, Nat.reduceEqDiff, ↓reduceIte, Nat.reduceAdd, hd, hk]
  refine callK_of (by kernel_rfl) (markStringS_c ga L.length gc _ 1 _ (og.ext x3) (by omega) (by omega)) ?_
  rintro _ w4 ⟨rfl, g4, o4⟩
  simp (disch := omega) only [go_sem, Nat.reduceEqDiff, ↓reduceIte, Nat.reduceAdd]
  refine callK_pure (by kernel_rfl) (heldStringS_c ga L.length gc 1 _ o4.strs (by omega) (by omega)) fun w5 x5 => ?_
  have hq : ¬ ((1 + L.length : Nat) : Int) < 0 := by omega
  have hq2 : (((1 + L.length : Nat) : Int) != ((1 + L.length : Nat) : Int)) = false := bne_self_eq_false _
  simp (disch := omega) only [go_sem, Nat.reduceEqDiff, ↓reduceIte, Nat.reduceAdd, hq, hq2, a0, a1, a2, a3]
  refine callK_of (by kernel_rfl) (implSheetsBetween_c ax ay bx dy _) ?_
  rintro _ w6 ⟨ha, hc, rfl, x6, oh, hha⟩
  rw [hL] at oh
  have ow6 := ((ow.ext (x2.trans x3)).grow g4 fun b hb e => by have := hga b e; have := ow.blk_lt hb; omega).ext (x5.trans x6)
  rw [hL]
  simp (disch := omega) only [go_sem, Nat.reduceEqDiff, ↓reduceIte, Nat.reduceAdd]
  refine callK_pure (by kernel_rfl) (eqStringS_c _ _ _ _ hc wc _ oh.strs ow6.strs (by omega) (by omega)) fun w7 x7 => ?_
  simp (disch := omega) only [go_sem, Nat.reduceEqDiff, ↓reduceIte, Nat.reduceAdd, hd, hk]
  refine callK_pure (by kernel_rfl) (heldStringS_c ga L.length gc 1 _ (o4.ext ((x5.trans x6).trans x7)).strs (by omega) (by omega)) fun w8 x8 => ?_
  simp (disch := omega) only [go_sem, Nat.reduceEqDiff, ↓reduceIte, Nat.reduceAdd, hq, hq2, Tryd.results6]
  have s1 := x1.size
  exact ⟨trivial, (g4.ext ((x1.trans x2).trans x3) fun b hb => by have := hga b hb; omega).trans (((x5.trans x6).trans x7).trans x8)⟩
end Go.Proofs.YteenlohkhckjkaaDoor
