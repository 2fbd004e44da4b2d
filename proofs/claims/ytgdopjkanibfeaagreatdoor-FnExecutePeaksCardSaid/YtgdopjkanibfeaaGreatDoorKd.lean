/- Kd: the texts Lv Ly as one. -/
import Derived.Test.YtgdopjkanibfeaaGreatDoorKc
import Derived.Test.YtgdopjkanibfeaaGreatDoorKb
import Derived.Test.YtgdopjkanibfeaaGreatDoorJ2
set_option linter.all false
set_option maxRecDepth 20000
/- The draw functions for lakes and Euler numbers, and the law FnLakes. -/
namespace Go.Proofs.YtgdopjkanibfeaaGreatDoor
open Go.RowKit Go.SW

theorem l91Ring_c (rb B lim : Nat) (w : World) (hr : Rdr w rb B lim) (hB : B ≤ w.heap.size) (hl : lim ≤ 100000) :
    Ret Tryz.prog 55 #[.pointer (some ⟨rb, 0, none⟩)] w fun v w' => ∃ a c rows A Cp R lv, v = .tuple #[.slice a rows.length c, .int .i64 lv] ∧ 1 ≤ R ∧ R ≤ 5 ∧ -2 ≤ lv ∧ lv ≤ 102 ∧ Drawn w' w.heap.size R a c rows A Cp ∧ Grow (some rb) w w' := by
  have hrb := hr.below
  refine enter1 Tryz.func55 rfl (by kernel_rfl) (of_decide_eq_true (by kernel_rfl)) fun f a0 => ?_
  simp (disch := omega) only [go_sem, Nat.reduceEqDiff, ↓reduceIte, Nat.reduceAdd, a0]
  refine callK_of (by kernel_rfl) (l91Level_c rb B lim _ hr hB (by omega)) ?_
  rintro _ w1 ⟨a, c, rows, A, Cp, R, lv, rfl, hR1, hR5, hl1, hl2, d, g1, r1⟩
  have s1 := g1.size
  have hn := d.len
  rcases Nat.lt_or_ge rows.length 3 with hsm | hsm
  · have hsm' : (rows.length : Int) < 3 := by omega
    simp (disch := omega) only [go_sem, Nat.reduceEqDiff, ↓reduceIte, Nat.reduceAdd, hsm', Tryz.results55]
    exact ⟨a, c, rows, A, Cp, R, lv, rfl, hR1, hR5, hl1, hl2, d, g1⟩
  have hsm' : ¬ (rows.length : Int) < 3 := by omega
  simp (disch := omega) only [go_sem, Nat.reduceEqDiff, ↓reduceIte, Nat.reduceAdd, a0, hsm']
  refine callK_of (by kernel_rfl) (pick_c rb B _ 2 _ r1 (by omega) (by omega)) ?_
  rintro _ w2 ⟨k, rfl, hk, g2, r2⟩
  have s2 := g2.size
  have d2 := d.other g2 fun b hb => by simp at hb; omega
  have g12 := g1.trans g2
  by_cases hk0 : k = 0
  · have ne0 : ((k : Int) == 0) = true := by simp [hk0]
    simp (disch := omega) only [go_sem, Nat.reduceEqDiff, ↓reduceIte, Nat.reduceAdd, ne0, Tryz.results55]
    exact ⟨a, c, rows, A, Cp, R, lv, rfl, hR1, hR5, hl1, hl2, d2, g12⟩
  have ne0 : ((k : Int) == 0) = false := by simp [hk0]
  simp (disch := omega) only [go_sem, Nat.reduceEqDiff, ↓reduceIte, Nat.reduceAdd, ne0]
  refine callK_pure (by kernel_rfl) (gridValid_c _ _ _ _ _ _ (d2.at (by omega))) fun w3 x3 => ?_
  have s3 := x3.size
  have d3 := d2.ext x3
  have r3 := r2.ext x3
  have g3 := g12.trans (x3.grow (some rb))
  cases hv : gvalid rows with
  | false =>
    simp (disch := omega) only [go_sem, Nat.reduceEqDiff, ↓reduceIte, Nat.reduceAdd, Tryz.results55]
    exact ⟨a, c, rows, A, Cp, R, lv, rfl, hR1, hR5, hl1, hl2, d3, g3⟩
  | true =>
  have v := (gvalid_iff rows).1 hv
  have hc1 := v.c1
  have hc7 := v.c7
  have hlen : ∀ r, r < rows.length → (rows.getD r []).length = rowLen rows := v.len
  generalize hCC : rowLen rows = C at *
  obtain ⟨xs0, ox0, -⟩ := d3.b.top
  obtain ⟨ab, rfl⟩ := ox0.some (by omega)
  have hab := d3.b.ha ab rfl
  simp (disch := omega) only [go_sem, Nat.reduceEqDiff, ↓reduceIte, Nat.reduceAdd]
  refine loopN rows.length (fun r f W => f 0 = .pointer (some ⟨rb, 0, none⟩) ∧ f 4 = .slice (some ⟨ab, 0, none⟩) rows.length c ∧ f 6 = .int .i64 r ∧ Grow (some rb) w W ∧ Rdr W rb B (lim + 111 + 10 * r) ∧ ∃ rs : List (List Int), rs.length = rows.length ∧ (∀ r, r < rows.length → (rs.getD r []).length = C) ∧ Drawn W w.heap.size R (some ⟨ab, 0, none⟩) c rs A Cp) ⟨by simp [upd_apply, a0], (by first | assumption | (simp only [upd_apply, Nat.reduceEqDiff, ↓reduceIte] <;> first | rfl | assumption) | simp [upd_apply, *]), (by first | assumption | (simp only [upd_apply, Nat.reduceEqDiff, ↓reduceIte] <;> first | rfl | assumption) | simp [upd_apply, *]), g3, r3.le (by omega), rows, rfl, hlen, d3⟩ fun r f W hrr ⟨a0, a4, a6, gW, rW, rs, hrs, hrl, dW⟩ => ?_
  by_cases hlt : (r : Int) < rows.length
  · have hrn : r < rows.length := by omega
    simp (disch := omega) only [go_sem, Nat.reduceEqDiff, ↓reduceIte, Nat.reduceAdd, a4, a6, hlt]
    refine loopN C (fun q f W => f 0 = .pointer (some ⟨rb, 0, none⟩) ∧ f 4 = .slice (some ⟨ab, 0, none⟩) rows.length c ∧ f 6 = .int .i64 r ∧ f 7 = .int .i64 q ∧ Grow (some rb) w W ∧ Rdr W rb B (lim + 111 + 10 * r + q) ∧ ∃ rs : List (List Int), rs.length = rows.length ∧ (∀ r, r < rows.length → (rs.getD r []).length = C) ∧ Drawn W w.heap.size R (some ⟨ab, 0, none⟩) c rs A Cp) ⟨(by first | assumption | (simp only [upd_apply, Nat.reduceEqDiff, ↓reduceIte] <;> first | rfl | assumption) | simp [upd_apply, *]), (by first | assumption | (simp only [upd_apply, Nat.reduceEqDiff, ↓reduceIte] <;> first | rfl | assumption) | simp [upd_apply, *]), (by first | assumption | (simp only [upd_apply, Nat.reduceEqDiff, ↓reduceIte] <;> first | rfl | assumption) | simp [upd_apply, *]), (by first | assumption | (simp only [upd_apply, Nat.reduceEqDiff, ↓reduceIte] <;> first | rfl | assumption) | simp [upd_apply, *]), gW, rW.le (by omega), rs, hrs, hrl, dW⟩ fun q f W hq ⟨a0, a4, a6, a7, gW, rW, rs, hrs, hrl, dW⟩ => ?_
    obtain ⟨xs, ox, hxs⟩ := dW.b.top
    rw [hrs] at ox
    have sW := gW.size
    have c0 : W.cell? ⟨ab, 0, none⟩ = some (.slice (A 0) C (Cp 0)) := by rw [ox.cell (by omega), hxs 0 (by omega), hrl 0 (by omega)]
    by_cases hlq : (q : Int) < C
    · have hqn : q < C := by omega
      have oq := dW.b.row r (by omega)
      rw [hrl r hrn] at oq
      obtain ⟨bq, hAq⟩ := oq.some (by omega)
      rw [hAq] at oq
      have hfar := dW.b.far r (by omega) bq (by rw [hAq]; rfl)
      have cq : W.cell? ⟨ab, r, none⟩ = some (.slice (some ⟨bq, 0, none⟩) C (Cp r)) := by rw [ox.cell (by omega), hxs r (by omega), hAq, hrl r hrn]
      have hcs : (((r : Int) == 0) = true) ∨ (((r : Int) == 0) = false ∧ ((q : Int) == 0) = true) ∨ (((r : Int) == 0) = false ∧ ((q : Int) == 0) = false ∧ ((r : Int) == (rows.length : Int) - 1) = true) ∨ (((r : Int) == 0) = false ∧ ((q : Int) == 0) = false ∧ ((r : Int) == (rows.length : Int) - 1) = false ∧ ((q : Int) == (C : Int) - 1) = true) ∨
          (((r : Int) == 0) = false ∧ ((q : Int) == 0) = false ∧ ((r : Int) == (rows.length : Int) - 1) = false ∧ ((q : Int) == (C : Int) - 1) = false) := by
        cases ((r : Int) == 0) <;> cases ((q : Int) == 0) <;> cases ((r : Int) == (rows.length : Int) - 1) <;> cases ((q : Int) == (C : Int) - 1) <;> simp
      have done : ∀ (p : Nat), (p = 0 ∨ (p : Int) < 3) → ∀ W1 W2 W3, Ext W W1 → Grow (some rb) W1 W2 → Rdr W2 rb B (lim + 111 + 10 * r + q + 1) → OwnS W3 3 1 (some ⟨bq, 0, none⟩) C (Cp r) ((vi (rs.getD r [])).set q (.int .i64 (7 + p))) → Grow (some bq) W2 W3 → Grow (some rb) w W3 ∧ Rdr W3 rb B (lim + 111 + 10 * r + (q + 1)) ∧ ∃ rs : List (List Int), rs.length = rows.length ∧ (∀ r, r < rows.length → (rs.getD r []).length = C) ∧ Drawn W3 w.heap.size R (some ⟨ab, 0, none⟩) c rs A Cp := by
        intro p hp W1 W2 W3 e1 g2 rr o3 g3
        rw [vi_set] at o3
        have d2 := (dW.ext e1).other g2 fun b hb => by simp at hb; omega
        have hb3 := d2.b.setRow (r := r) (l := (rs.getD r []).set q (7 + p)) (by omega) (by simp) (by rw [hAq, List.length_set, hrl r hrn]; exact o3) (by rw [hAq]; exact g3)
        have e1' : ∀ s, s < rows.length → (rs.set r ((rs.getD r []).set q (7 + (p : Int)))).getD s [] = if s = r then (rs.getD r []).set q (7 + p) else rs.getD s [] := fun s hs => set_row rs r s _ (by omega)
        have lens : ∀ s, s < rows.length → ((rs.set r ((rs.getD r []).set q (7 + (p : Int)))).getD s []).length = C := fun s hs => by
          rw [e1' s hs]; split
          · rw [List.length_set, hrl r hrn]
          · exact hrl s hs
        refine ⟨((gW.trans (e1.grow _)).trans g2).fresh g3 fun b hb => by simp at hb; omega, ?_, rs.set r ((rs.getD r []).set q (7 + p)), by rw [List.length_set]; exact hrs, lens, hb3, by rw [List.length_set]; exact dW.len, fun l hl => ?_, fun s hs => ?_⟩
        · exact (rr.fresh g3 fun b hb => by simp at hb; omega).le (by omega)
        · rcases List.mem_or_eq_of_mem_set hl with h | h
          · exact dW.row l h
          · have hx := dW.row _ (getD_mem (d := []) (show r < rs.length by omega))
            subst h
            refine ⟨by rw [List.length_set]; exact hx.1, by rw [List.length_set]; exact hx.2.1, fun x hx' => ?_⟩
            rcases List.mem_or_eq_of_mem_set hx' with h | h
            · exact hx.2.2 x h
            · subst h; omega
        · rw [List.length_set, hrs] at hs
          rw [lens 0 (by omega), lens s hs]; exact Nat.le_refl _
      rcases hcs with b1 | ⟨b1, b2⟩ | ⟨b1, b2, b3⟩ | ⟨b1, b2, b3, b4⟩ | ⟨b1, b2, b3, b4⟩
      · simp (disch := omega) only [go_sem, Nat.reduceEqDiff, ↓reduceIte, Nat.reduceAdd, a0, a4, a6, a7, hlq, c0, b1]
        refine QR_sch (some rb) (.st 0 (.st 1 (.st 2 (.st 3 (.st 4 (.st 5 (.ef 6 (.st 7 (.st 8 (.fin 9 (.done))))))))))) (by kernel_rfl) (by kernel_rfl) fun w5 x5 => ?_
        have cq5 := x5.cell cq
        simp (disch := omega) only [go_sem, Nat.reduceEqDiff, ↓reduceIte, Nat.reduceAdd, a0, a4, a6, a7, cq5]
        refine callK_of (by kernel_rfl) (pick_c rb B _ 3 _ (rW.ext x5) (by omega) (by omega)) ?_
        rintro _ w6 ⟨p, rfl, hp, g6, r6⟩
        refine nxE_of g6 ?_
        have oq6 := (oq.ext x5).grow g6 fun b hb e => by simp [blk] at hb e; omega
        simp (disch := omega) only [go_sem, Nat.reduceEqDiff, ↓reduceIte, Nat.reduceAdd]
        refine stK_own siz_int (by rfl) (by rfl) oq6 (by omega) fun w7 o7 g7 => ?_
        obtain ⟨gz, rz, rs', h1, h2, h3⟩ := done p hp _ _ _ x5 g6 r6 o7 g7.grow
        simp (disch := omega) only [go_sem, Nat.reduceEqDiff, ↓reduceIte, Nat.reduceAdd, a7]
        exact ⟨by first | trivial | omega, (by first | assumption | (simp only [upd_apply, Nat.reduceEqDiff, ↓reduceIte] <;> first | rfl | assumption) | simp [upd_apply, *]), (by first | assumption | (simp only [upd_apply, Nat.reduceEqDiff, ↓reduceIte] <;> first | rfl | assumption) | simp [upd_apply, *]), (by first | assumption | (simp only [upd_apply, Nat.reduceEqDiff, ↓reduceIte] <;> first | rfl | assumption) | simp [upd_apply, *]), (by first | assumption | (simp only [upd_apply, Nat.reduceEqDiff, ↓reduceIte] <;> first | rfl | assumption) | simp [upd_apply, *]), gz, rz, rs', h1, h2, h3⟩
      · simp (disch := omega) only [go_sem, Nat.reduceEqDiff, ↓reduceIte, Nat.reduceAdd, a0, a4, a6, a7, hlq, c0, b1, b2]
        refine QR_sch (some rb) (.st 0 (.st 1 (.st 2 (.st 3 (.st 4 (.st 5 (.ef 6 (.st 7 (.st 8 (.fin 9 (.done))))))))))) (by kernel_rfl) (by kernel_rfl) fun w5 x5 => ?_
        have cq5 := x5.cell cq
        simp (disch := omega) only [go_sem, Nat.reduceEqDiff, ↓reduceIte, Nat.reduceAdd, a0, a4, a6, a7, cq5]
        refine callK_of (by kernel_rfl) (pick_c rb B _ 3 _ (rW.ext x5) (by omega) (by omega)) ?_
        rintro _ w6 ⟨p, rfl, hp, g6, r6⟩
        refine nxE_of g6 ?_
        have oq6 := (oq.ext x5).grow g6 fun b hb e => by simp [blk] at hb e; omega
        simp (disch := omega) only [go_sem, Nat.reduceEqDiff, ↓reduceIte, Nat.reduceAdd]
        refine stK_own siz_int (by rfl) (by rfl) oq6 (by omega) fun w7 o7 g7 => ?_
        obtain ⟨gz, rz, rs', h1, h2, h3⟩ := done p hp _ _ _ x5 g6 r6 o7 g7.grow
        simp (disch := omega) only [go_sem, Nat.reduceEqDiff, ↓reduceIte, Nat.reduceAdd, a7]
        exact ⟨by first | trivial | omega, (by first | assumption | (simp only [upd_apply, Nat.reduceEqDiff, ↓reduceIte] <;> first | rfl | assumption) | simp [upd_apply, *]), (by first | assumption | (simp only [upd_apply, Nat.reduceEqDiff, ↓reduceIte] <;> first | rfl | assumption) | simp [upd_apply, *]), (by first | assumption | (simp only [upd_apply, Nat.reduceEqDiff, ↓reduceIte] <;> first | rfl | assumption) | simp [upd_apply, *]), (by first | assumption | (simp only [upd_apply, Nat.reduceEqDiff, ↓reduceIte] <;> first | rfl | assumption) | simp [upd_apply, *]), gz, rz, rs', h1, h2, h3⟩
      · simp (disch := omega) only [go_sem, Nat.reduceEqDiff, ↓reduceIte, Nat.reduceAdd, a0, a4, a6, a7, hlq, c0, b1, b2, b3]
        refine QR_sch (some rb) (.st 0 (.st 1 (.st 2 (.st 3 (.st 4 (.st 5 (.ef 6 (.st 7 (.st 8 (.fin 9 (.done))))))))))) (by kernel_rfl) (by kernel_rfl) fun w5 x5 => ?_
        have cq5 := x5.cell cq
        simp (disch := omega) only [go_sem, Nat.reduceEqDiff, ↓reduceIte, Nat.reduceAdd, a0, a4, a6, a7, cq5]
        refine callK_of (by kernel_rfl) (pick_c rb B _ 3 _ (rW.ext x5) (by omega) (by omega)) ?_
        rintro _ w6 ⟨p, rfl, hp, g6, r6⟩
        refine nxE_of g6 ?_
        have oq6 := (oq.ext x5).grow g6 fun b hb e => by simp [blk] at hb e; omega
        simp (disch := omega) only [go_sem, Nat.reduceEqDiff, ↓reduceIte, Nat.reduceAdd]
        refine stK_own siz_int (by rfl) (by rfl) oq6 (by omega) fun w7 o7 g7 => ?_
        obtain ⟨gz, rz, rs', h1, h2, h3⟩ := done p hp _ _ _ x5 g6 r6 o7 g7.grow
        simp (disch := omega) only [go_sem, Nat.reduceEqDiff, ↓reduceIte, Nat.reduceAdd, a7]
        exact ⟨by first | trivial | omega, (by first | assumption | (simp only [upd_apply, Nat.reduceEqDiff, ↓reduceIte] <;> first | rfl | assumption) | simp [upd_apply, *]), (by first | assumption | (simp only [upd_apply, Nat.reduceEqDiff, ↓reduceIte] <;> first | rfl | assumption) | simp [upd_apply, *]), (by first | assumption | (simp only [upd_apply, Nat.reduceEqDiff, ↓reduceIte] <;> first | rfl | assumption) | simp [upd_apply, *]), (by first | assumption | (simp only [upd_apply, Nat.reduceEqDiff, ↓reduceIte] <;> first | rfl | assumption) | simp [upd_apply, *]), gz, rz, rs', h1, h2, h3⟩
      · simp (disch := omega) only [go_sem, Nat.reduceEqDiff, ↓reduceIte, Nat.reduceAdd, a0, a4, a6, a7, hlq, c0, b1, b2, b3, b4]
        refine QR_sch (some rb) (.st 0 (.st 1 (.st 2 (.st 3 (.st 4 (.st 5 (.ef 6 (.st 7 (.st 8 (.fin 9 (.done))))))))))) (by kernel_rfl) (by kernel_rfl) fun w5 x5 => ?_
        have cq5 := x5.cell cq
        simp (disch := omega) only [go_sem, Nat.reduceEqDiff, ↓reduceIte, Nat.reduceAdd, a0, a4, a6, a7, cq5]
        refine callK_of (by kernel_rfl) (pick_c rb B _ 3 _ (rW.ext x5) (by omega) (by omega)) ?_
        rintro _ w6 ⟨p, rfl, hp, g6, r6⟩
        refine nxE_of g6 ?_
        have oq6 := (oq.ext x5).grow g6 fun b hb e => by simp [blk] at hb e; omega
        simp (disch := omega) only [go_sem, Nat.reduceEqDiff, ↓reduceIte, Nat.reduceAdd]
        refine stK_own siz_int (by rfl) (by rfl) oq6 (by omega) fun w7 o7 g7 => ?_
        obtain ⟨gz, rz, rs', h1, h2, h3⟩ := done p hp _ _ _ x5 g6 r6 o7 g7.grow
        simp (disch := omega) only [go_sem, Nat.reduceEqDiff, ↓reduceIte, Nat.reduceAdd, a7]
        exact ⟨by first | trivial | omega, (by first | assumption | (simp only [upd_apply, Nat.reduceEqDiff, ↓reduceIte] <;> first | rfl | assumption) | simp [upd_apply, *]), (by first | assumption | (simp only [upd_apply, Nat.reduceEqDiff, ↓reduceIte] <;> first | rfl | assumption) | simp [upd_apply, *]), (by first | assumption | (simp only [upd_apply, Nat.reduceEqDiff, ↓reduceIte] <;> first | rfl | assumption) | simp [upd_apply, *]), (by first | assumption | (simp only [upd_apply, Nat.reduceEqDiff, ↓reduceIte] <;> first | rfl | assumption) | simp [upd_apply, *]), gz, rz, rs', h1, h2, h3⟩
      · simp (disch := omega) only [go_sem, Nat.reduceEqDiff, ↓reduceIte, Nat.reduceAdd, a0, a4, a6, a7, hlq, c0, b1, b2, b3, b4]
        exact ⟨by first | trivial | omega, (by first | assumption | (simp only [upd_apply, Nat.reduceEqDiff, ↓reduceIte] <;> first | rfl | assumption) | simp [upd_apply, *]), (by first | assumption | (simp only [upd_apply, Nat.reduceEqDiff, ↓reduceIte] <;> first | rfl | assumption) | simp [upd_apply, *]), (by first | assumption | (simp only [upd_apply, Nat.reduceEqDiff, ↓reduceIte] <;> first | rfl | assumption) | simp [upd_apply, *]), (by first | assumption | (simp only [upd_apply, Nat.reduceEqDiff, ↓reduceIte] <;> first | rfl | assumption) | simp [upd_apply, *]), gW, rW.le (by omega), rs, hrs, hrl, dW⟩
    · obtain rfl : q = C := by omega
      simp (disch := omega) only [go_sem, Nat.reduceEqDiff, ↓reduceIte, Nat.reduceAdd, a4, a6, a7, hlq, c0]
      exact ⟨hrn, (by first | assumption | (simp only [upd_apply, Nat.reduceEqDiff, ↓reduceIte] <;> first | rfl | assumption) | simp [upd_apply, *]), (by first | assumption | (simp only [upd_apply, Nat.reduceEqDiff, ↓reduceIte] <;> first | rfl | assumption) | simp [upd_apply, *]), (by first | assumption | (simp only [upd_apply, Nat.reduceEqDiff, ↓reduceIte] <;> first | rfl | assumption) | simp [upd_apply, *]), gW, rW.le (by omega), rs, hrs, hrl, dW⟩
  · obtain rfl : r = rows.length := by omega
    simp (disch := omega) only [go_sem, Nat.reduceEqDiff, ↓reduceIte, Nat.reduceAdd, a0, a4, a6, hlt]
    refine callK_of (by kernel_rfl) (pick_c rb B _ 4 _ rW (by omega) (by omega)) ?_
    rintro _ w4 ⟨u, rfl, hu, g4, r4⟩
    simp (disch := omega) only [go_sem, Nat.reduceEqDiff, ↓reduceIte, Nat.reduceAdd, Tryz.results55]
    exact ⟨_, c, rs, A, Cp, R, _, by rw [hrs], hR1, hR5, by omega, by omega, dW.other g4 fun b hb => by simp at hb; omega, gW.trans g4⟩
end Go.Proofs.YtgdopjkanibfeaaGreatDoor

/- The law FnLakes: it returns true, and nothing that was there is written. -/
namespace Go.Proofs.YtgdopjkanibfeaaGreatDoor
open Go.RowKit Go.SW

theorem drawLevelLakes_c (a : Option Addr) (l : List Int) (c : Nat) (w : World) (hl : l.length ≤ c) (hc : c ≤ maxLen) (hs : ByteS w a l) :
    Ret Tryz.prog 24 #[.slice a l.length c] w fun v w' => DrawnL w w' v := by
  refine enter1 Tryz.func24 rfl (by kernel_rfl) (of_decide_eq_true (by kernel_rfl)) fun f a0 => ?_
  simp (disch := omega) only [go_sem, Nat.reduceEqDiff, ↓reduceIte, Nat.reduceAdd, a0]
  refine callK_of (by kernel_rfl) (l6Open_c _ _ _ _ hl hc hs) ?_
  rintro _ w1 ⟨rb, rfl, x1, hrb, r1, e1⟩
  simp (disch := omega) only [go_sem, Nat.reduceEqDiff, ↓reduceIte, Nat.reduceAdd]
  refine callK_of (by kernel_rfl) (l91Ring_c rb _ 0 _ r1 (by omega) (by omega)) ?_
  rintro _ w2 ⟨a, c, rows, A, Cp, R, lv, rfl, hR1, hR5, hl1, hl2, d, g⟩
  simp (disch := omega) only [go_sem, Nat.reduceEqDiff, ↓reduceIte, Nat.reduceAdd, Tryz.results24]
  exact ⟨a, c, rows, A, Cp, lv, rfl, hl1, hl2, d.at (by omega), g.ext x1 fun b hb => by simp at hb; omega⟩

theorem lakes_turned {rows : List (List Int)} (v : Valid rows) {lv : Int} (hv : lvok rows lv = true) : lakesOf (turned rows) lv = lakesOf rows lv := by
  obtain ⟨vm, lm, cm, hm⟩ := turned_ok v hv
  simp only [lakesOf, hv, lm, if_true, turned_len, cm]
  rw [lake_sym (turn_sym8 rows.length (rowLen rows)) (P := watB (hgt rows) lv) (Q := watB (hgt (turned rows)) lv) fun i hi => by simp only [watB, hm i hi]]
theorem lakes_mirrored {rows : List (List Int)} (v : Valid rows) {lv : Int} (hv : lvok rows lv = true) : lakesOf (mirrored rows) lv = lakesOf rows lv := by
  obtain ⟨vm, lm, cm, hm⟩ := mirrored_ok v hv
  simp only [lakesOf, hv, lm, if_true, mirrored_len, cm]
  rw [lake_sym (mir_sym8 rows.length (rowLen rows)) (P := watB (hgt rows) lv) (Q := watB (hgt (mirrored rows)) lv) fun i hi => by simp only [watB, hm i hi]]

end Go.Proofs.YtgdopjkanibfeaaGreatDoor

