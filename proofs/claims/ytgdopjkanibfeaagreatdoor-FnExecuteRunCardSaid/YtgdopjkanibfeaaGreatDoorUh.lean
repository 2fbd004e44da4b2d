/- Reading grids, numbers; writing numbers. -/
import Derived.Test.YtgdopjkanibfeaaGreatDoorUg
import Derived.Test.YtgdopjkanibfeaaGreatDoorTb
set_option linter.all false
set_option maxRecDepth 20000
namespace Go.Proofs.YtgdopjkanibfeaaGreatDoor
open Go.RowKit Go.SW

theorem twoDigits_c (h : Int) (h0 : 0 ≤ h ∧ h ≤ 99) (w : World) : Ret Tryz.prog 109 #[.string (bs (c2 h))] w fun v w' => v = .tuple #[.int .i64 h, .bool true] ∧ Ext w w' := by
  have e0 : ((c2 h).getD 0 0).toNat = 48 + h.toNat / 10 := u8n' (by omega)
  have e1 : ((c2 h).getD 1 0).toNat = 48 + h.toNat % 10 := u8n' (by omega)
  have el : ((c2 h).length : Int) = 2 := rfl
  have hl2 : (c2 h).length = 2 := rfl
  have t1 : ¬ (((48 + h.toNat / 10 : Nat) : Int) < 48) := by omega
  have t2 : ¬ ((57 : Int) < ((48 + h.toNat / 10 : Nat) : Int)) := by omega
  have t3 : ¬ (((48 + h.toNat % 10 : Nat) : Int) < 48) := by omega
  have t4 : ¬ ((57 : Int) < ((48 + h.toNat % 10 : Nat) : Int)) := by omega
  refine enter1 Tryz.func109 rfl (by kernel_rfl) (of_decide_eq_true (by kernel_rfl)) fun f a0 => ?_
  simp (disch := omega) only [go_sem, Nat.reduceEqDiff, ↓reduceIte, Nat.reduceAdd, a0, el, bne_self_eq_false, Int.reduceToNat, e0, e1, t1, t2, t3, t4]
  refine QR_of (by kernel_rfl) (by kernel_rfl) ?_
  simp (disch := omega) only [go_sem, Nat.reduceEqDiff, ↓reduceIte, Nat.reduceAdd, a0, Int.reduceToNat, e0, e1, Tryz.results109]
  refine fun w' x => ⟨?_, x⟩
  have e : 10 * (((48 + h.toNat / 10 : Nat) : Int) - 48) + (((48 + h.toNat % 10 : Nat) : Int) - 48) = h := by omega
  rw [e]

theorem numberOf_c (n : Nat) (hn : n < 100) (w : World) : Ret Tryz.prog 99 #[.string (bs (dec n))] w fun v w' => v = .int .i64 n ∧ Ext w w' := by
  obtain ⟨l1, l2⟩ := dec_len2 hn
  have hd := fun i hi => digits_dec (n := n) hn (i := i) hi
  have hnf := nf_dec hn
  have t1 : ¬ (((dec n).length : Int) < 1) := by omega
  have t2 : ¬ ((3 : Int) < ((dec n).length : Int)) := by omega
  generalize dec n = l at *
  refine enter1 Tryz.func99 rfl (by kernel_rfl) (of_decide_eq_true (by kernel_rfl)) fun f a0 => ?_
  simp (disch := omega) only [go_sem, Nat.reduceEqDiff, ↓reduceIte, Nat.reduceAdd, a0, t1, t2]
  refine loopN l.length (fun k f W => f 0 = .string (bs l) ∧ f 3 = .int .i64 (nf l k : Nat) ∧ f 14 = .int .i64 l.length ∧ f 15 = .int .i64 k ∧ Ext w W) ⟨(by first | assumption | (simp only [upd_apply, Nat.reduceEqDiff, ↓reduceIte] <;> first | rfl | assumption) | simp [upd_apply, *]), (by first | assumption | (simp only [upd_apply, Nat.reduceEqDiff, ↓reduceIte] <;> first | rfl | assumption) | simp [upd_apply, *]), (by first | assumption | (simp only [upd_apply, Nat.reduceEqDiff, ↓reduceIte] <;> first | rfl | assumption) | simp [upd_apply, *]), (by first | assumption | (simp only [upd_apply, Nat.reduceEqDiff, ↓reduceIte] <;> first | rfl | assumption) | simp [upd_apply, *]), Ext.refl _⟩ fun k f W hk ⟨a0, a3, a14, a15, xw⟩ => ?_
  have hlt2 := nf_lt (l := l) (k := k) fun i hi => (hd i (by omega)).2
  have hp := Nat.pow_le_pow_right (show 0 < 10 by omega) (show k ≤ 2 by omega)
  by_cases hlt : (k : Int) < (l.length : Int)
  · have hdk := hd k (by omega)
    have q1 : ¬ (((l.getD k 0).toNat : Int) < 48) := by omega
    have q2 : ¬ ((57 : Int) < ((l.getD k 0).toNat : Int)) := by omega
    have e1 : (10 : Int) * (nf l k : Nat) + ((l.getD k 0).toNat - 48) = (nf l (k + 1) : Nat) := by rw [nf]; omega
    simp (disch := omega) only [go_sem, Nat.reduceEqDiff, ↓reduceIte, Nat.reduceAdd, a0, a3, a14, a15, hlt, Int.toNat_natCast, q1, q2, e1]
    exact ⟨by omega, (by first | assumption | (simp only [upd_apply, Nat.reduceEqDiff, ↓reduceIte] <;> first | rfl | assumption) | simp [upd_apply, *]), (by first | assumption | (simp only [upd_apply, Nat.reduceEqDiff, ↓reduceIte] <;> first | rfl | assumption) | simp [upd_apply, *]), (by first | assumption | (simp only [upd_apply, Nat.reduceEqDiff, ↓reduceIte] <;> first | rfl | assumption) | simp [upd_apply, *]), (by first | assumption | (simp only [upd_apply, Nat.reduceEqDiff, ↓reduceIte] <;> first | rfl | assumption) | simp [upd_apply, *]), xw⟩
  · obtain rfl : k = l.length := by omega
    simp (disch := omega) only [go_sem, Nat.reduceEqDiff, ↓reduceIte, Nat.reduceAdd, a0, a3, a14, a15, hlt, Tryz.results99]
    exact ⟨by rw [hnf], xw⟩

theorem digits_c (n : Nat) (hn : n < 100) (w : World) : Ret Tryz.prog 11 #[.int .i64 n] w fun v w' => v = .string (bs (dec n)) ∧ Ext w w' := by
  have one : ∀ (n : Nat) (w : World), n < 10 → Ret Tryz.prog 11 #[.int .i64 n] w fun v w' => v = .string (bs (dec n)) ∧ Ext w w' := fun n w h10 => by
    refine enter1 Tryz.func11 rfl (by kernel_rfl) (of_decide_eq_true (by kernel_rfl)) fun f a0 => ?_
    have h3 : (n : Int) < 10 := by omega
    simp (disch := omega) only [go_sem, Nat.reduceEqDiff, ↓reduceIte, Nat.reduceAdd, a0, h3]
    refine bslK_1 elt_b rfl fun w1 b1 _ x1 k1 _ => ?_
    simp (disch := omega) only [go_sem, Nat.reduceEqDiff, ↓reduceIte, Nat.reduceAdd]
    refine cvK_1 cvb_bs k1 ?_
    simp (disch := omega) only [go_sem, Nat.reduceEqDiff, ↓reduceIte, Nat.reduceAdd, Tryz.results11]
    exact ⟨by rw [dec_lt h10]; congr 4, x1⟩
  by_cases h10 : n < 10
  · exact one n w h10
  · refine enter1 Tryz.func11 rfl (by kernel_rfl) (of_decide_eq_true (by kernel_rfl)) fun f a0 => ?_
    have h3 : ¬ (n : Int) < 10 := by omega
    have e1 : (n : Int) / 10 = ((n / 10 : Nat) : Int) := rfl
    have e2 : (n : Int) % 10 = ((n % 10 : Nat) : Int) := rfl
    have hl := dec_len2 (n := n / 10) (by omega)
    have hd := dec_ge h10
    simp (disch := omega) only [go_sem, Nat.reduceEqDiff, ↓reduceIte, Nat.reduceAdd, a0, h3]
    refine QR_sch none (.st 0 (.st 1 (.st 3 (.st 4 (.st 5 (.st 6 (.alt (.ef 2 (.ef 7 (.ef 8 (.st 9 (.st 10 (.done)))))) (.ef 7 (.alt (.ef 2 (.ef 8 (.st 9 (.st 10 (.done))))) (.ef 8 (.ef 2 (.st 9 (.st 10 (.done)))))))))))))) (by kernel_rfl) (by kernel_rfl) fun w0 x0 => ?_
    have X := x0
    simp (disch := omega) only [go_sem, Nat.reduceEqDiff, ↓reduceIte, Nat.reduceAdd, a0, e1, e2]
    refine RLT_alt ?_ ?_
    · simp (disch := omega) only [go_sem, Nat.reduceEqDiff, ↓reduceIte, Nat.reduceAdd, a0, e1, e2]
      refine callK_of (by kernel_rfl) (one (n / 10) _ (by omega)) ?_
      rintro _ w1 ⟨rfl, y1⟩
      refine nxE_of (y1.grow _) ?_
      have X := X.trans y1
      simp (disch := omega) only [go_sem, Nat.reduceEqDiff, ↓reduceIte, Nat.reduceAdd, a0, e1, e2]
      refine bslK_1 elt_b rfl fun w1 b1 _ y1 k1 _ => ?_
      refine nxE_of (y1.grow _) ?_
      have X := X.trans y1
      simp (disch := omega) only [go_sem, Nat.reduceEqDiff, ↓reduceIte, Nat.reduceAdd, a0, e1, e2]
      refine cvK_1 cvb_bs k1 ?_
      refine nxE_of (Grow.refl _ _) ?_
      simp (disch := omega) only [go_sem, Nat.reduceEqDiff, ↓reduceIte, Nat.reduceAdd, Tryz.results11]
      exact ⟨by rw [hd]; congr 4, X⟩
    · simp (disch := omega) only [go_sem, Nat.reduceEqDiff, ↓reduceIte, Nat.reduceAdd, a0, e1, e2]
      refine bslK_1 elt_b rfl fun w1 b1 _ y1 k1 _ => ?_
      refine nxE_of (y1.grow _) ?_
      have X := X.trans y1
      simp (disch := omega) only [go_sem, Nat.reduceEqDiff, ↓reduceIte, Nat.reduceAdd, a0, e1, e2]
      refine RLT_alt ?_ ?_
      · simp (disch := omega) only [go_sem, Nat.reduceEqDiff, ↓reduceIte, Nat.reduceAdd, a0, e1, e2]
        refine callK_of (by kernel_rfl) (one (n / 10) _ (by omega)) ?_
        rintro _ w1 ⟨rfl, y1⟩
        refine nxE_of (y1.grow _) ?_
        have X := X.trans y1
        have k1 := k1.ext y1
        simp (disch := omega) only [go_sem, Nat.reduceEqDiff, ↓reduceIte, Nat.reduceAdd, a0, e1, e2]
        refine cvK_1 cvb_bs k1 ?_
        refine nxE_of (Grow.refl _ _) ?_
        simp (disch := omega) only [go_sem, Nat.reduceEqDiff, ↓reduceIte, Nat.reduceAdd, Tryz.results11]
        exact ⟨by rw [hd]; congr 4, X⟩
      · simp (disch := omega) only [go_sem, Nat.reduceEqDiff, ↓reduceIte, Nat.reduceAdd, a0, e1, e2]
        refine cvK_1 cvb_bs k1 ?_
        refine nxE_of (Grow.refl _ _) ?_
        simp (disch := omega) only [go_sem, Nat.reduceEqDiff, ↓reduceIte, Nat.reduceAdd, a0, e1, e2]
        refine callK_of (by kernel_rfl) (one (n / 10) _ (by omega)) ?_
        rintro _ w1 ⟨rfl, y1⟩
        refine nxE_of (y1.grow _) ?_
        have X := X.trans y1
        have k1 := k1.ext y1
        simp (disch := omega) only [go_sem, Nat.reduceEqDiff, ↓reduceIte, Nat.reduceAdd, Tryz.results11]
        exact ⟨by rw [hd]; congr 4, X⟩
/-- Numbers with spaces between. -/
def sp (L : List Int) : List UInt8 := jn 32 (L.map fun x => dec x.toNat)
theorem sp_len {L : List Int} (hL : L.length ≤ 1000) (h : ∀ x ∈ L, 0 ≤ x ∧ x ≤ 99) : (sp L).length ≤ 3000 := by
  have := jn_len (c := 32) (L := L.map fun x => dec x.toNat) (m := 2) fun l hl => by
    obtain ⟨x, hx, rfl⟩ := List.mem_map.1 hl
    exact (dec_len2 (by have := h x hx; omega)).2
  rw [List.length_map] at this
  unfold sp
  omega
theorem sp_take {L : List Int} {k : Nat} (hk : k < L.length) : sp (L.take (k + 1)) = sp (L.take k) ++ (if k = 0 then [] else [32]) ++ dec (L.getD k 0).toNat := by
  rw [sp, take_snoc 0 hk, List.map_append]
  by_cases h0 : k = 0
  · subst h0; simp [sp, jn]
  · rw [if_neg h0]
    have : (L.take k).map (fun x => dec x.toNat) ≠ [] := by
      intro e
      have := congrArg List.length e
      rw [List.length_map, List.length_take, List.length_nil] at this; omega
    simp only [List.map_cons, List.map_nil]
    rw [jn_snoc this]
    simp [sp]

theorem lawSpaced_c (a : Option Addr) (L : List Int) (c : Nat) (w : World) (hi : IntS w a L) (hL : L.length ≤ 1000) (h : ∀ x ∈ L, 0 ≤ x ∧ x ≤ 99) :
    Ret Tryz.prog 19 #[.slice a L.length c] w fun v w' => v = .string (bs (sp L)) ∧ Ext w w' := by
  refine enter1 Tryz.func19 rfl (by kernel_rfl) (of_decide_eq_true (by kernel_rfl)) fun f a0 => ?_
  simp (disch := omega) only [go_sem, Nat.reduceEqDiff, ↓reduceIte, Nat.reduceAdd]
  refine loopN L.length (fun k f W => f 0 = .slice a L.length c ∧ f 3 = .string (bs (sp (L.take k))) ∧ f 4 = .int .i64 k ∧ Ext w W) ⟨(by first | assumption | (simp only [upd_apply, Nat.reduceEqDiff, ↓reduceIte] <;> first | rfl | assumption) | simp [upd_apply, *]), by simp [upd_apply, sp, jn], (by first | assumption | (simp only [upd_apply, Nat.reduceEqDiff, ↓reduceIte] <;> first | rfl | assumption) | simp [upd_apply, *]), Ext.refl _⟩ fun k f W hk ⟨a0, a3, a4, xw⟩ => ?_
  have hsl := sp_len (L := L.take k) (by rw [List.length_take]; omega) fun x hx => h x (List.mem_of_mem_take hx)
  by_cases hlt : (k : Int) < (L.length : Int)
  · have hkL : k < L.length := by omega
    obtain ⟨b1, o1, rfl⟩ := hi.head (by intro e; rw [e] at hkL; simp at hkL)
    have hx := h _ (getD_mem (d := 0) hkL)
    have g1 := (hi.ext xw).cell b1 o1 rfl k hkL
    have en : L.getD k 0 = (((L.getD k 0).toNat : Nat) : Int) := by omega
    have hs := sp_take hkL
    have hdl := dec_len2 (n := (L.getD k 0).toNat) (by omega)
    rw [en] at g1
    by_cases h0 : (0 : Int) < k
    · have ea : binV Tryz.prog .add 9 (.string (bs (sp (L.take k)))) (.string (bs [32])) = some (.string (bs (sp (L.take k) ++ [32]))) := bin_adds1 _ _ (by omega)
      have eb : binV Tryz.prog .add 9 (.string (bs (sp (L.take k) ++ [32]))) (.string (bs (dec (L.getD k 0).toNat))) = some (.string (bs (sp (L.take k) ++ [32] ++ dec (L.getD k 0).toNat))) := bin_adds _ _ (by simp only [List.length_append, List.length_cons, List.length_nil]; omega)
      simp (disch := omega) only [go_sem, Nat.reduceEqDiff, ↓reduceIte, Nat.reduceAdd, a0, a3, a4, hlt, h0, ea, g1]
      refine callK_pure (by kernel_rfl) (digits_c (L.getD k 0).toNat (by omega) _) fun w2 x2 => ?_
      simp (disch := omega) only [go_sem, Nat.reduceEqDiff, ↓reduceIte, Nat.reduceAdd, a4, eb]
      rw [if_neg (by omega)] at hs
      exact ⟨by omega, (by first | assumption | (simp only [upd_apply, Nat.reduceEqDiff, ↓reduceIte] <;> first | rfl | assumption) | simp [upd_apply, *]), by rw [hs], (by first | assumption | (simp only [upd_apply, Nat.reduceEqDiff, ↓reduceIte] <;> first | rfl | assumption) | simp [upd_apply, *]), xw.trans x2⟩
    · have eb : binV Tryz.prog .add 9 (.string (bs (sp (L.take k)))) (.string (bs (dec (L.getD k 0).toNat))) = some (.string (bs (sp (L.take k) ++ dec (L.getD k 0).toNat))) := bin_adds _ _ (by omega)
      simp (disch := omega) only [go_sem, Nat.reduceEqDiff, ↓reduceIte, Nat.reduceAdd, a0, a3, a4, hlt, h0, g1]
      refine callK_pure (by kernel_rfl) (digits_c (L.getD k 0).toNat (by omega) _) fun w2 x2 => ?_
      simp (disch := omega) only [go_sem, Nat.reduceEqDiff, ↓reduceIte, Nat.reduceAdd, a4, eb]
      rw [if_pos (by omega), List.append_nil] at hs
      exact ⟨by omega, (by first | assumption | (simp only [upd_apply, Nat.reduceEqDiff, ↓reduceIte] <;> first | rfl | assumption) | simp [upd_apply, *]), by rw [hs], (by first | assumption | (simp only [upd_apply, Nat.reduceEqDiff, ↓reduceIte] <;> first | rfl | assumption) | simp [upd_apply, *]), xw.trans x2⟩
  · obtain rfl : k = L.length := by omega
    simp (disch := omega) only [go_sem, Nat.reduceEqDiff, ↓reduceIte, Nat.reduceAdd, a0, a3, a4, hlt, List.take_length, Tryz.results19]
    exact ⟨trivial, xw⟩
end Go.Proofs.YtgdopjkanibfeaaGreatDoor
