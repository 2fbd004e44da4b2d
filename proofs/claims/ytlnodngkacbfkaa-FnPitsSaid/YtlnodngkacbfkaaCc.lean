/- Contracts: spec.GridValid and the land of a level, both sides. -/
import Derived.Test.YtlnodngkacbfkaaCb
set_option linter.all false
set_option maxRecDepth 20000
namespace Go.Proofs.Ytlnodngkacbfkaa
open Go.RowKit Go.SW

theorem gridValid_c (a : Option Addr) (rows : List (List Int)) (A : Nat → Option Addr) (Cp : Nat → Nat) (gc : Nat) (w : World) (hr : RowsAt w a rows A Cp) :
    Ret Try.prog 61 #[.slice a rows.length gc] w fun v w' => v = .bool (gvalid rows) ∧ Ext w w' := by
  refine enter1 Try.func61 rfl (by kernel_rfl) (of_decide_eq_true (by kernel_rfl)) fun f a0 => ?_
  have hmax := maxLen_le hr.lens
  simp only [go_sem, Nat.reduceEqDiff, ↓reduceIte, a0]
  refine callK_of (by kernel_rfl) (l6In_c _ _ _ _) ?_
  rintro _ w1 ⟨rfl, x1⟩
  by_cases hR : (1 : Int) ≤ rows.length ∧ (rows.length : Int) ≤ 7
  case neg =>
    simp only [go_sem, Nat.reduceEqDiff, ↓reduceIte, a0, hR, Try.results61]
    exact ⟨by rw [gv_false fun v => hR ⟨by have := v.r1; omega, by have := v.r7; omega⟩], x1⟩
  obtain ⟨gb, go, rfl⟩ := hr.head (by intro e; rw [e] at hR; simp at hR)
  have g0 := (hr.ext x1).row gb go rfl 0 (by omega)
  simp only [Nat.add_zero] at g0
  rw [show (rows.getD 0 []).length = rowLen rows from rfl] at g0
  simp (disch := omega) only [go_sem, Nat.reduceEqDiff, ↓reduceIte, a0, hR, g0, and_self]
  refine callK_of (by kernel_rfl) (l6In_c _ _ _ _) ?_
  rintro _ w2 ⟨rfl, x2⟩
  by_cases hC : (1 : Int) ≤ rowLen rows ∧ (rowLen rows : Int) ≤ 7
  case neg =>
    simp only [go_sem, Nat.reduceEqDiff, ↓reduceIte, a0, hC, Try.results61]
    exact ⟨by rw [gv_false fun v => hC ⟨by have := v.c1; omega, by have := v.c7; omega⟩], x1.trans x2⟩
  simp (disch := omega) only [go_sem, Nat.reduceEqDiff, ↓reduceIte, a0, hC, and_self]
  refine loopX (fun m f w' => ∃ k : Nat, m = rows.length - k ∧ k ≤ rows.length ∧ f 0 = .slice (some ⟨gb, go, none⟩) rows.length gc ∧ f 3 = .int .i64 k ∧ Ext w w' ∧
      ∀ r, r < k → (rows.getD r []).length = rowLen rows ∧ ∀ c, c < rowLen rows → 0 ≤ (rows.getD r []).getD c 0 ∧ (rows.getD r []).getD c 0 ≤ 99) rows.length ?_ fun m f w' ⟨k, hm, hk, a0, a3, xw, hV⟩ => ?_
  · exact ⟨0, by omega, by omega, by simp [upd_apply, a0], by simp [upd_apply], x1.trans x2, fun r hr => by omega⟩
  · by_cases hlt : (k : Int) < rows.length
    · have hr' := hr.ext xw
      have g0 := hr'.row gb go rfl 0 (by omega)
      have gk := hr'.row gb go rfl k (by omega)
      simp only [Nat.add_zero] at g0
      rw [show (rows.getD 0 []).length = rowLen rows from rfl] at g0
      have hmk := maxLen_le (hr.len _ (getD_mem (d := []) (show k < rows.length by omega)))
      simp (disch := omega) only [go_sem, Nat.reduceEqDiff, ↓reduceIte, a0, a3, hlt]
      refine QR_of (by kernel_rfl) (by kernel_rfl) ?_
      by_cases hlen : (rows.getD k []).length = rowLen rows
      · have hne : (((rows.getD k []).length : Int) != (rowLen rows : Int)) = false := bne_eq_false_iff_eq.2 (by rw [hlen])
        simp (disch := omega) only [go_sem, Nat.reduceEqDiff, ↓reduceIte, a0, a3, g0, gk, hne]
        intro w3 x3
        refine loopX (fun m f w' => ∃ c : Nat, m = rowLen rows - c ∧ c ≤ rowLen rows ∧ f 0 = .slice (some ⟨gb, go, none⟩) rows.length gc ∧ f 3 = .int .i64 k ∧ f 4 = .int .i64 c ∧ Ext w w' ∧
          ∀ c', c' < c → 0 ≤ (rows.getD k []).getD c' 0 ∧ (rows.getD k []).getD c' 0 ≤ 99) (rowLen rows) ?_ fun m' f w' ⟨c, hm', hc, a0, a3, a4, xw, hVc⟩ => ?_
        · exact ⟨0, by omega, by omega, by simp [upd_apply, a0], by simp [upd_apply, a3], by simp [upd_apply], xw.trans x3, fun c' hc' => by omega⟩
        · have hr' := hr.ext xw
          have gk := hr'.row gb go rfl k (by omega)
          by_cases hltc : (c : Int) < (rows.getD k []).length
          · obtain ⟨rb, ro, hA⟩ := (hr'.ints k (by omega)).head (by intro e; rw [e] at hltc; simp at hltc; omega)
            have g1 := (hr'.ints k (by omega)).cell rb ro hA c (by omega)
            rw [hA] at gk
            simp (disch := omega) only [go_sem, Nat.reduceEqDiff, ↓reduceIte, a0, a3, a4, gk, hltc, g1]
            refine callK_of (by kernel_rfl) (l6In_c _ _ _ _) ?_
            rintro _ w5 ⟨rfl, x5⟩
            by_cases hh : 0 ≤ (rows.getD k []).getD c 0 ∧ (rows.getD k []).getD c 0 ≤ 99
            · simp (disch := omega) only [go_sem, Nat.reduceEqDiff, ↓reduceIte, hh, and_self, a4]
              refine ⟨rowLen rows - (c + 1), by omega, c + 1, rfl, by omega, by simp [upd_apply, a0], by simp [upd_apply, a3], by simp [upd_apply], xw.trans x5, fun c' hc' => ?_⟩
              by_cases e : c' = c
              · subst e; exact hh
              · exact hVc c' (by omega)
            · simp only [go_sem, Nat.reduceEqDiff, ↓reduceIte, hh, Try.results61]
              exact ⟨by rw [gv_false fun v => hh (v.cell _ _ (by omega) (by omega))], xw.trans x5⟩
          · simp (disch := omega) only [go_sem, Nat.reduceEqDiff, ↓reduceIte, a0, a3, a4, gk, hltc]
            refine ⟨rows.length - (k + 1), by omega, k + 1, rfl, by omega, by simp [upd_apply, a0], by simp [upd_apply], xw, fun r hr2 => ?_⟩
            by_cases e2 : r = k
            · subst e2; exact ⟨hlen, fun c' hc' => hVc c' (by omega)⟩
            · exact hV r (by omega)
      · have hne : (((rows.getD k []).length : Int) != (rowLen rows : Int)) = true := bne_iff_ne.2 (by omega)
        simp (disch := omega) only [go_sem, Nat.reduceEqDiff, ↓reduceIte, a0, a3, g0, gk, hne, Try.results61]
        exact fun w3 x3 => ⟨by rw [gv_false fun v => hlen (v.len _ (by omega))], xw.trans x3⟩
    · simp (disch := omega) only [go_sem, Nat.reduceEqDiff, ↓reduceIte, a0, a3, hlt, Try.results61]
      exact ⟨by rw [(gvalid_iff rows).2 ⟨by omega, by omega, by omega, by omega, fun r hr => (hV r (by omega)).1, fun r c hr hc => (hV r (by omega)).2 c hc⟩], xw⟩

theorem l2Cells_c (gb go gc : Nat) (rb ro rc : Nat → Nat) (R C : Nat) (h : Nat → Int) (w : World) (hg : GridAt w gb go rb ro rc R C h) (hR : 1 ≤ R) (hR7 : R ≤ 7) (hC7 : C ≤ 7) :
    Ret Try.prog 62 #[.slice (some ⟨gb, go, none⟩) R gc] w fun v w' => v = .int .i64 (R * C : Nat) ∧ Ext w w' := by
  have h1 : R * C ≤ 7 * 7 := Nat.mul_le_mul hR7 hC7
  have h2 : (R : Int) * C = ((R * C : Nat) : Int) := by simp
  have g0 := hg.row 0 (by omega)
  simp only [Nat.add_zero] at g0
  refine enter1 Try.func62 rfl (by kernel_rfl) (of_decide_eq_true (by kernel_rfl)) fun f a0 => ?_
  simp (disch := omega) only [go_sem, Nat.reduceEqDiff, ↓reduceIte, a0, g0, h2, Try.results62]
  exact ⟨trivial, Ext.refl _⟩

theorem l2Height_c (gb go gc : Nat) (rb ro rc : Nat → Nat) (R C : Nat) (h : Nat → Int) (w : World) (hg : GridAt w gb go rb ro rc R C h) (hR7 : R ≤ 7) (hC7 : C ≤ 7) (i : Int) (h0 : 0 ≤ i) (h1 : i < (R * C : Nat)) :
    Ret Try.prog 92 #[.slice (some ⟨gb, go, none⟩) R gc, .int .i64 i] w fun v w' => v = .int .i64 (h i.toNat) ∧ Ext w w' := by
  obtain ⟨q1, q0, m1, m0, hC, hR, hdm⟩ := idx_div h0 h1
  have h3 : R * C ≤ 7 * 7 := Nat.mul_le_mul hR7 hC7
  have g0 := hg.row 0 (by omega)
  simp only [Nat.add_zero] at g0
  refine enter2 Try.func92 rfl (by kernel_rfl) (of_decide_eq_true (by kernel_rfl)) fun f a0 a1 => ?_
  simp only [go_sem, Nat.reduceEqDiff, ↓reduceIte, a0, a1]
  refine QR_of (by kernel_rfl) (by kernel_rfl) ?_
  simp (disch := omega) only [go_sem, Nat.reduceEqDiff, ↓reduceIte, a0, a1, g0, hg.row, hg.cell, hdm, Try.results92]
  exact fun w' e => ⟨trivial, e⟩

end Go.Proofs.Ytlnodngkacbfkaa
