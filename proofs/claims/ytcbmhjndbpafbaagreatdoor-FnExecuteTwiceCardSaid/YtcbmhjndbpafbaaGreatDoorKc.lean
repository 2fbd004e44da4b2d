import Derived.Test.YtcbmhjndbpafbaaGreatDoorKb
set_option linter.all false
set_option maxRecDepth 20000
namespace Go.SW
theorem arCell_km {R C q c k m : Nat} (hm : m < 3) : arCell R C q c (3 * k + m) = if ¬ (k = 1 ∧ m = 1) ∧ 1 ≤ q + k ∧ q + k ≤ R ∧ 1 ≤ c + m ∧ c + m ≤ C then [(q + k - 1) * C + (c + m - 1)] else [] := by
 have e1 : (3 * k + m) / 3 = k := om
 have e2 : (3 * k + m) % 3 = m := om
 simp only [arCell, e1, e2]
 by_cases h : k = 1 ∧ m = 1
 ·rw [if_neg (fun h' => om), if_neg (fun h' => h'.1 h)]
 ·have : (3 * k + m ≠ 4) ↔ ¬ (k = 1 ∧ m = 1) := om
  simp only [this]
end Go.SW
namespace Go.Proofs.YtcbmhjndbpafbaaGreatDoor
open Go.RowKit Go.SW
theorem around_c (R C i : Nat) (x : Option Addr) (n cc : Nat) (w : World) (hR7 : R ≤ 7) (hC7 : C ≤ 7) (hi : i < R * C) :
  Ret Tryz.prog 214 #[.agg #[.int .i64 R, .int .i64 C, .slice x n cc], .int .i64 i] w fun v w' => ∃ a c, v = .slice a (aroundN R C i).length c ∧ OwnS w' 3 1 a (aroundN R C i).length c (vi (ni (aroundN R C i))) ∧ (∀ b, blk a = some b → w.heap.size ≤ b) ∧ Ext w w' := by
 have hC : 0 < C := Nat.pos_of_ne_zero fun e => by subst e; simp at hi
 have hRC : R * C ≤ 7 * 7 := Nat.mul_le_mul hR7 hC7
 have hm : i % C < C := Nat.mod_lt _ hC
 have hq : i / C < R := Nat.div_lt_of_lt_mul (by rw [Nat.mul_comm]; exact hi)
 have m1 : (i : Int) / (C : Int) = ((i / C : Nat) : Int) := rfl
 have m2 : (i : Int) % (C : Int) = ((i % C : Nat) : Int) := rfl
 refine enter2 Tryz.func214 rfl fun f a0 a1 => ?_
 simp only [go_sem, a0]
 refine boxK_of fun w0 fb eb x0 k0 _ => ?_
 have s0 := x0.size
 have k0 : Blk w0 fb #[.int .i64 R, .int .i64 C, .slice x n cc] 70 := by simpa [Value.cells] using k0
 simp (disch := omega) only [go_sem, a1]
 refine QR_of ke ke ?_
 simp (disch := omega) only [go_sem, a1, k0.cell, Value.cells, m1, m2]
 intro w00 x00
 generalize hq' : i / C = q at *
 generalize hc' : i % C = c at *
 refine mksK_of elt_i 0 8 _ _ _ _ rfl rfl om om (by simp [maxLen]) fun w1 b1 eb1 x1 o1 _ => ?_
 have x01 := x00.trans x1
 have s00 := x00.size
 have o1 : OwnS w1 3 1 (some ⟨b1, 0, none⟩) 0 8 (vi (ni [])) := by simpa [vi, ni] using o1
 simp (disch := omega) only [go_sem]
 refine loopN 3 (fun k f W => f 2 = .pointer (some ⟨fb, 0, none⟩) ∧ f 5 = .int .i64 q ∧ f 6 = .int .i64 c ∧ f 8 = .int .i64 ((k : Int) - 1) ∧ Ext w0 W ∧ ∃ a cp, f 7 = .slice a (aroundTo R C i (3 * k)).length cp ∧ OwnS W 3 1 a (aroundTo R C i (3 * k)).length cp (vi (ni (aroundTo R C i (3 * k)))) ∧ ∀ b, blk a = some b → w0.heap.size ≤ b) ⟨uu, uu, uu, by simp [upd_apply], x01, _, _, uu, by simpa [aroundTo] using o1, fun b hb => by simp [blk] at hb; omega⟩ fun k f W hk ⟨a2, a5, a6, a8, xW, a, cp, a7, oW, fW⟩ => ?_
 by_cases hlt : (k : Int) - 1 ≤ 1
 ·simp (disch := omega) only [go_sem, a8, hlt]
  refine loopN 3 (fun m f W => f 2 = .pointer (some ⟨fb, 0, none⟩) ∧ f 5 = .int .i64 q ∧ f 6 = .int .i64 c ∧ f 8 = .int .i64 ((k : Int) - 1) ∧ f 9 = .int .i64 ((m : Int) - 1) ∧ Ext w0 W ∧ ∃ a cp, f 7 = .slice a (aroundTo R C i (3 * k + m)).length cp ∧ OwnS W 3 1 a (aroundTo R C i (3 * k + m)).length cp (vi (ni (aroundTo R C i (3 * k + m)))) ∧ ∀ b, blk a = some b → w0.heap.size ≤ b) ⟨uu, uu, uu, uu, by simp [upd_apply], xW, _, _, uu, oW, fW⟩ fun m f W hm' ⟨a2, a5, a6, a8, a9, xW, a, cp, a7, oW, fW⟩ => ?_
  by_cases hlm : (m : Int) - 1 ≤ 1
  ·have kW := k0.ext xW
   have hstep : aroundTo R C i (3 * k + (m + 1)) = aroundTo R C i (3 * k + m) ++ arCell R C q c (3 * k + m) := by rw [← hq', ← hc']; rfl
   rw [arCell_km om] at hstep
   have hlen := aroundTo_len R C i (3 * k + m)
   by_cases hmid : k = 1 ∧ m = 1
   ·have h1 : (((k : Int) - 1) != 0) = false := by simp [hmid.1]
    have h2 : (((m : Int) - 1) != 0) = false := by simp [hmid.2]
    rw [if_neg (fun h => h.1 hmid), List.append_nil] at hstep
    simp (disch := omega) only [go_sem, a8, a9, hlm, h1, h2]
    exact ⟨by first | trivial | omega, uu, uu, uu, uu, by simp [upd_apply], xW, a, cp, by rw [hstep]; exact uu, by rw [hstep]; exact oW, fW⟩
   ·have hne : (((k : Int) - 1) != 0) = true ∨ ((((k : Int) - 1) != 0) = false ∧ (((m : Int) - 1) != 0) = true) := by
     by_cases h1 : k = 1
     ·exact .inr ⟨by simp [h1], by simp; omega⟩
     ·exact .inl sq
    by_cases hin : 1 ≤ q + k ∧ q + k ≤ R ∧ 1 ≤ c + m ∧ c + m ≤ C
    ·rw [if_pos ⟨hmid, hin⟩] at hstep
     have hdec : decide (0 ≤ (q : Int) + ((k : Int) - 1) ∧ (q : Int) + ((k : Int) - 1) < R ∧ 0 ≤ (c : Int) + ((m : Int) - 1) ∧ (c : Int) + ((m : Int) - 1) < C) = true := by
      rw [decide_eq_true_eq]; omega
     have e1 : (q : Int) + ((k : Int) - 1) = ((q + k - 1 : Nat) : Int) := om
     have e2 : (c : Int) + ((m : Int) - 1) = ((c + m - 1 : Nat) : Int) := om
     have hlc : (q + k - 1) * C + (c + m - 1) < R * C := corner_ltN om om
     rcases hne with hne | ⟨hne1, hne⟩
     ·simp (disch := omega) only [go_sem, a2, a5, a6, a8, a9, hlm, hne, readCells_blk kW (n := 3) sm]
      refine callK_of ke (has_c _ _ _ _ _ _) ?_
      rintro _ W1 ⟨rfl, y1⟩
      simp (disch := omega) only [go_sem, a2, a5, a6, a7, a8, a9, hdec, readCells_blk (kW.ext y1) (n := 3) sm]
      simp only [e1, e2]
      refine callK_of ke (index_c _ C _ _ _ (q + k - 1) (c + m - 1) _ om om om) ?_
      rintro _ W2 ⟨rfl, y2⟩
      simp (disch := omega) only [go_sem]
      refine bslK_1 elt_i rfl fun W3 b3 e3 y3 k3 _ => ?_
      simp (disch := omega) only [go_sem, a7]
      refine appK_1 elt_i ((oW.ext (y1.trans y2)).ext y3) k3 rfl om (.inl dc) fun W4 a4 c4 o4 g4 h4 => ?_
      have yy := (y1.trans y2).trans y3
      have sy := yy.size
      have sW := xW.size
      simp (disch := omega) only [go_sem, a9]
      refine ⟨om, uu, uu, uu, uu, by simp [upd_apply], g4.ext (xW.trans yy) fW, a4, c4, ?_, ?_, fun b hb => ?_⟩
      ·rw [hstep]; simp [upd_apply]
      ·rw [hstep, ← vi_ni_snoc _ _ _ rfl]; simpa using o4
      ·rcases h4 b hb with h | h
       ·exact fW b h
       ·omega
     ·simp (disch := omega) only [go_sem, a2, a5, a6, a8, a9, hlm, hne1, hne, readCells_blk kW (n := 3) sm]
      refine callK_of ke (has_c _ _ _ _ _ _) ?_
      rintro _ W1 ⟨rfl, y1⟩
      simp (disch := omega) only [go_sem, a2, a5, a6, a7, a8, a9, hdec, readCells_blk (kW.ext y1) (n := 3) sm]
      simp only [e1, e2]
      refine callK_of ke (index_c _ C _ _ _ (q + k - 1) (c + m - 1) _ om om om) ?_
      rintro _ W2 ⟨rfl, y2⟩
      simp (disch := omega) only [go_sem]
      refine bslK_1 elt_i rfl fun W3 b3 e3 y3 k3 _ => ?_
      simp (disch := omega) only [go_sem, a7]
      refine appK_1 elt_i ((oW.ext (y1.trans y2)).ext y3) k3 rfl om (.inl dc) fun W4 a4 c4 o4 g4 h4 => ?_
      have yy := (y1.trans y2).trans y3
      have sy := yy.size
      have sW := xW.size
      simp (disch := omega) only [go_sem, a9]
      refine ⟨om, uu, uu, uu, uu, by simp [upd_apply], g4.ext (xW.trans yy) fW, a4, c4, ?_, ?_, fun b hb => ?_⟩
      ·rw [hstep]; simp [upd_apply]
      ·rw [hstep, ← vi_ni_snoc _ _ _ rfl]; simpa using o4
      ·rcases h4 b hb with h | h
       ·exact fW b h
       ·omega
    ·rw [if_neg (fun h => hin h.2), List.append_nil] at hstep
     have hdec : decide (0 ≤ (q : Int) + ((k : Int) - 1) ∧ (q : Int) + ((k : Int) - 1) < R ∧ 0 ≤ (c : Int) + ((m : Int) - 1) ∧ (c : Int) + ((m : Int) - 1) < C) = false := by
      rw [decide_eq_false_iff_not]; omega
     rcases hne with hne | ⟨hne1, hne⟩
     ·simp (disch := omega) only [go_sem, a2, a5, a6, a8, a9, hlm, hne, readCells_blk kW (n := 3) sm]
      refine callK_of ke (has_c _ _ _ _ _ _) ?_
      rintro _ W1 ⟨rfl, y1⟩
      simp (disch := omega) only [go_sem, a9, hdec]
      exact ⟨om, uu, uu, uu, uu, by simp [upd_apply], xW.trans y1, a, cp, by rw [hstep]; exact uu, by rw [hstep]; exact oW.ext y1, fW⟩
     ·simp (disch := omega) only [go_sem, a2, a5, a6, a8, a9, hlm, hne1, hne, readCells_blk kW (n := 3) sm]
      refine callK_of ke (has_c _ _ _ _ _ _) ?_
      rintro _ W1 ⟨rfl, y1⟩
      simp (disch := omega) only [go_sem, a9, hdec]
      exact ⟨om, uu, uu, uu, uu, by simp [upd_apply], xW.trans y1, a, cp, by rw [hstep]; exact uu, by rw [hstep]; exact oW.ext y1, fW⟩
  ·obtain rfl : m = 3 := om
   simp (disch := omega) only [go_sem, a8, a9, hlm]
   exact ⟨om, uu, uu, uu, by simp [upd_apply], xW, a, cp, uu, oW, fW⟩
 ·obtain rfl : k = 3 := om
  simp (disch := omega) only [go_sem, a7, a8, hlt, Tryz.results214]
  exact ⟨a, cp, rfl, oW, fun b hb => by have := fW b hb; omega, x0.trans xW⟩
theorem l3Around_c (gb go gc : Nat) (rb ro rc : Nat → Nat) (R C : Nat) (h : Nat → Int) (w : World) (hg : GridAt w gb go rb ro rc R C h) (hR7 : R ≤ 7) (hC7 : C ≤ 7) (i : Nat) (hi : i < R * C) :
  Ret Tryz.prog 142 #[.slice (some ⟨gb, go, none⟩) R gc, .int .i64 i] w fun v w' => ∃ a c, v = .slice a (aroundN R C i).length c ∧ OwnS w' 3 1 a (aroundN R C i).length c (vi (ni (aroundN R C i))) ∧ (∀ b, blk a = some b → w.heap.size ≤ b) ∧ Ext w w' := by
 have hC : 0 < C := Nat.pos_of_ne_zero fun e => by subst e; simp at hi
 have hR : 0 < R := Nat.pos_of_ne_zero fun e => by subst e; simp at hi
 have hRC : R * C ≤ 7 * 7 := Nat.mul_le_mul hR7 hC7
 have hm : i % C < C := Nat.mod_lt _ hC
 have hq : i / C < R := Nat.div_lt_of_lt_mul (by rw [Nat.mul_comm]; exact hi)
 have m1 : (i : Int) / (C : Int) = ((i / C : Nat) : Int) := rfl
 have m2 : (i : Int) % (C : Int) = ((i % C : Nat) : Int) := rfl
 refine enter2 Tryz.func142 rfl fun f a0 a1 => ?_
 simp (disch := omega) only [go_sem, a0, a1]
 refine bslK_0 elt_i fun w1 b1 eb x1 o1 _ => ?_
 have s1 := x1.size
 have g0 := (hg.ext x1).row 0 om
 simp only [Nat.add_zero] at g0
 have o1 : OwnS w1 3 1 (some ⟨b1, 0, none⟩) 0 0 (vi (ni [])) := by simpa [vi, ni] using o1
 simp (disch := omega) only [go_sem, a0, a1, g0]
 generalize hq' : i / C = q at *
 generalize hc' : i % C = c at *
 refine loopN 3 (fun k f W => f 0 = .slice (some ⟨gb, go, none⟩) R gc ∧ f 1 = .int .i64 i ∧ f 6 = .int .i64 C ∧ f 7 = .int .i64 ((k : Int) - 1) ∧ Ext w W ∧ ∃ a cp, f 5 = .slice a (aroundTo R C i (3 * k)).length cp ∧ OwnS W 3 1 a (aroundTo R C i (3 * k)).length cp (vi (ni (aroundTo R C i (3 * k)))) ∧ ∀ b, blk a = some b → w.heap.size ≤ b) ⟨uu, uu, uu, by simp [upd_apply], x1, _, _, uu, by simpa [aroundTo] using o1, fun b hb => by simp [blk] at hb; omega⟩ fun k f W hk ⟨a0, a1, a6, a7, xW, a, cp, a5, oW, fW⟩ => ?_
 by_cases hlt : (k : Int) - 1 ≤ 1
 ·simp (disch := omega) only [go_sem, a7, hlt]
  refine loopN 3 (fun m f W => f 0 = .slice (some ⟨gb, go, none⟩) R gc ∧ f 1 = .int .i64 i ∧ f 6 = .int .i64 C ∧ f 7 = .int .i64 ((k : Int) - 1) ∧ f 8 = .int .i64 ((m : Int) - 1) ∧ Ext w W ∧ ∃ a cp, f 5 = .slice a (aroundTo R C i (3 * k + m)).length cp ∧ OwnS W 3 1 a (aroundTo R C i (3 * k + m)).length cp (vi (ni (aroundTo R C i (3 * k + m)))) ∧ ∀ b, blk a = some b → w.heap.size ≤ b) ⟨uu, uu, uu, uu, by simp [upd_apply], xW, _, _, uu, oW, fW⟩ fun m f W hm' ⟨a0, a1, a6, a7, a8, xW, a, cp, a5, oW, fW⟩ => ?_
  by_cases hlm : (m : Int) - 1 ≤ 1
  ·have hstep : aroundTo R C i (3 * k + (m + 1)) = aroundTo R C i (3 * k + m) ++ arCell R C q c (3 * k + m) := by rw [← hq', ← hc']; rfl
   rw [arCell_km om] at hstep
   have hlen := aroundTo_len R C i (3 * k + m)
   have hCn : ¬ (C : Int) = 0 := om
   by_cases hmid : k = 1 ∧ m = 1
   ·have h1 : (((k : Int) - 1) != 0) = false := by simp [hmid.1]
    have h2 : (((m : Int) - 1) != 0) = false := by simp [hmid.2]
    rw [if_neg (fun h => h.1 hmid), List.append_nil] at hstep
    simp (disch := omega) only [go_sem, a0, a1, a6, a7, a8, hlm, h1, h2, m1, m2]
    exact ⟨by first | trivial | omega, uu, uu, uu, uu, by simp [upd_apply], xW, a, cp, by rw [hstep]; exact uu, by rw [hstep]; exact oW, fW⟩
   ·have hne : (((k : Int) - 1) != 0) = true ∨ ((((k : Int) - 1) != 0) = false ∧ (((m : Int) - 1) != 0) = true) := by
     by_cases h1 : k = 1
     ·exact .inr ⟨by simp [h1], by simp; omega⟩
     ·exact .inl sq
    by_cases hin : 1 ≤ q + k ∧ q + k ≤ R ∧ 1 ≤ c + m ∧ c + m ≤ C
    ·rw [if_pos ⟨hmid, hin⟩] at hstep
     have e1 : (q : Int) + ((k : Int) - 1) = ((q + k - 1 : Nat) : Int) := om
     have e2 : (c : Int) + ((m : Int) - 1) = ((c + m - 1 : Nat) : Int) := om
     have f1 : (0 : Int) ≤ ((q + k - 1 : Nat) : Int) := om
     have f2 : ((q + k - 1 : Nat) : Int) < (R : Int) := om
     have f3 : (0 : Int) ≤ ((c + m - 1 : Nat) : Int) := om
     have f4 : ((c + m - 1 : Nat) : Int) < (C : Int) := om
     have e3 : ((q + k - 1 : Nat) : Int) * (C : Int) = (((q + k - 1) * C : Nat) : Int) := by simp
     have hlc : (q + k - 1) * C + (c + m - 1) < R * C := corner_ltN om om
     rcases hne with hne | ⟨hne1, hne⟩
     ·simp (disch := omega) only [go_sem, a0, a1, a6, a7, a8, hlm, hne, m1, m2, e1, e2, e3, f1, f2, f3, f4]
      refine bslK_1 elt_i rfl fun W3 b3 e3' y3 k3 _ => ?_
      simp (disch := omega) only [go_sem, a5]
      refine appK_1 elt_i (oW.ext y3) k3 rfl om (.inl dc) fun W4 a4 c4 o4 g4 h4 => ?_
      have sy := y3.size
      have sW := xW.size
      simp (disch := omega) only [go_sem, a8]
      refine ⟨om, uu, uu, uu, uu, by simp [upd_apply], g4.ext (xW.trans y3) fW, a4, c4, ?_, ?_, fun b hb => ?_⟩
      ·rw [hstep]; simp [upd_apply]
      ·rw [hstep, ← vi_ni_snoc _ _ (((((q + k - 1) * C : Nat) : Int) + ((c + m - 1 : Nat) : Int))) sm]; simpa using o4
      ·rcases h4 b hb with h | h
       ·exact fW b h
       ·omega
     ·simp (disch := omega) only [go_sem, a0, a1, a6, a7, a8, hlm, hne1, hne, m1, m2, e1, e2, e3, f1, f2, f3, f4]
      refine bslK_1 elt_i rfl fun W3 b3 e3' y3 k3 _ => ?_
      simp (disch := omega) only [go_sem, a5]
      refine appK_1 elt_i (oW.ext y3) k3 rfl om (.inl dc) fun W4 a4 c4 o4 g4 h4 => ?_
      have sy := y3.size
      have sW := xW.size
      simp (disch := omega) only [go_sem, a8]
      refine ⟨om, uu, uu, uu, uu, by simp [upd_apply], g4.ext (xW.trans y3) fW, a4, c4, ?_, ?_, fun b hb => ?_⟩
      ·rw [hstep]; simp [upd_apply]
      ·rw [hstep, ← vi_ni_snoc _ _ (((((q + k - 1) * C : Nat) : Int) + ((c + m - 1 : Nat) : Int))) sm]; simpa using o4
      ·rcases h4 b hb with h | h
       ·exact fW b h
       ·omega
    ·rw [if_neg (fun h => hin h.2), List.append_nil] at hstep
     have hcs : (¬ (0 : Int) ≤ (q : Int) + ((k : Int) - 1)) ∨ ((0 : Int) ≤ (q : Int) + ((k : Int) - 1) ∧ ¬ (q : Int) + ((k : Int) - 1) < (R : Int)) ∨ ((0 : Int) ≤ (q : Int) + ((k : Int) - 1) ∧ (q : Int) + ((k : Int) - 1) < (R : Int) ∧ ¬ (0 : Int) ≤ (c : Int) + ((m : Int) - 1)) ∨ ((0 : Int) ≤ (q : Int) + ((k : Int) - 1) ∧ (q : Int) + ((k : Int) - 1) < (R : Int) ∧ (0 : Int) ≤ (c : Int) + ((m : Int) - 1) ∧ ¬ (c : Int) + ((m : Int) - 1) < (C : Int)) := om
     rcases hne with hne | ⟨hne1, hne⟩
     ·rcases hcs with z1 | ⟨z1, z2⟩ | ⟨z1, z2, z3⟩ | ⟨z1, z2, z3, z4⟩
      ·simp (disch := omega) only [go_sem, a0, a1, a6, a7, a8, hlm, hne, m1, m2, z1]
       exact ⟨by first | trivial | omega, uu, uu, uu, uu, by simp [upd_apply], xW, a, cp, by rw [hstep]; exact uu, by rw [hstep]; exact oW, fW⟩
      ·simp (disch := omega) only [go_sem, a0, a1, a6, a7, a8, hlm, hne, m1, m2, z1, z2]
       exact ⟨by first | trivial | omega, uu, uu, uu, uu, by simp [upd_apply], xW, a, cp, by rw [hstep]; exact uu, by rw [hstep]; exact oW, fW⟩
      ·simp (disch := omega) only [go_sem, a0, a1, a6, a7, a8, hlm, hne, m1, m2, z1, z2, z3]
       exact ⟨by first | trivial | omega, uu, uu, uu, uu, by simp [upd_apply], xW, a, cp, by rw [hstep]; exact uu, by rw [hstep]; exact oW, fW⟩
      ·simp (disch := omega) only [go_sem, a0, a1, a6, a7, a8, hlm, hne, m1, m2, z1, z2, z3, z4]
       exact ⟨by first | trivial | omega, uu, uu, uu, uu, by simp [upd_apply], xW, a, cp, by rw [hstep]; exact uu, by rw [hstep]; exact oW, fW⟩
     ·rcases hcs with z1 | ⟨z1, z2⟩ | ⟨z1, z2, z3⟩ | ⟨z1, z2, z3, z4⟩
      ·simp (disch := omega) only [go_sem, a0, a1, a6, a7, a8, hlm, hne1, hne, m1, m2, z1]
       exact ⟨by first | trivial | omega, uu, uu, uu, uu, by simp [upd_apply], xW, a, cp, by rw [hstep]; exact uu, by rw [hstep]; exact oW, fW⟩
      ·simp (disch := omega) only [go_sem, a0, a1, a6, a7, a8, hlm, hne1, hne, m1, m2, z1, z2]
       exact ⟨by first | trivial | omega, uu, uu, uu, uu, by simp [upd_apply], xW, a, cp, by rw [hstep]; exact uu, by rw [hstep]; exact oW, fW⟩
      ·simp (disch := omega) only [go_sem, a0, a1, a6, a7, a8, hlm, hne1, hne, m1, m2, z1, z2, z3]
       exact ⟨by first | trivial | omega, uu, uu, uu, uu, by simp [upd_apply], xW, a, cp, by rw [hstep]; exact uu, by rw [hstep]; exact oW, fW⟩
      ·simp (disch := omega) only [go_sem, a0, a1, a6, a7, a8, hlm, hne1, hne, m1, m2, z1, z2, z3, z4]
       exact ⟨by first | trivial | omega, uu, uu, uu, uu, by simp [upd_apply], xW, a, cp, by rw [hstep]; exact uu, by rw [hstep]; exact oW, fW⟩
  ·obtain rfl : m = 3 := om
   simp (disch := omega) only [go_sem, a7, a8, hlm]
   exact ⟨om, uu, uu, uu, by simp [upd_apply], xW, a, cp, uu, oW, fW⟩
 ·obtain rfl : k = 3 := om
  simp (disch := omega) only [go_sem, a5, a7, hlt, Tryz.results142]
  exact ⟨a, cp, rfl, oW, fW, xW⟩
theorem border_c (R C i : Nat) (sl : Value) (w : World) (hR7 : R ≤ 7) (hC7 : C ≤ 7) (hi : i < R * C) :
  Ret Tryz.prog 75 #[.agg #[.int .i64 R, .int .i64 C, sl], .int .i64 i] w fun v w' => v = .bool (bordB R C i) ∧ Ext w w' := by
 have hC : 0 < C := Nat.pos_of_ne_zero fun e => by subst e; simp at hi
 have hRC : R * C ≤ 7 * 7 := Nat.mul_le_mul hR7 hC7
 have hm : i % C < C := Nat.mod_lt _ hC
 have hq : i / C < R := Nat.div_lt_of_lt_mul (by rw [Nat.mul_comm]; exact hi)
 have m1 : (i : Int) / (C : Int) = ((i / C : Nat) : Int) := rfl
 have m2 : (i : Int) % (C : Int) = ((i % C : Nat) : Int) := rfl
 refine enter2 Tryz.func75 rfl fun f a0 a1 => ?_
 simp only [go_sem, a0]
 refine boxK_of fun w0 fb eb x0 k0 _ => ?_
 simp (disch := omega) only [go_sem, a1]
 refine QR_of ke ke ?_
 simp (disch := omega) only [go_sem, a1, k0.cell, Value.cells, m1, m2]
 intro w00 x00
 have k1 := k0.ext x00
 simp only [bordB]
 generalize i / C = q at *
 generalize i % C = c at *
 by_cases h1 : q = 0
 ·have b1 : ((q : Int) == 0) = true := by simp [h1]
  simp (disch := omega) only [go_sem, b1, Tryz.results75]
  exact ⟨by simp [h1], x0.trans x00⟩
 have b1 : ((q : Int) == 0) = false := by simp [h1]
 by_cases h2 : q + 1 = R
 ·have b2 : ((q : Int) == (R : Int) - 1) = true := by simp; omega
  simp (disch := omega) only [go_sem, b1, b2, k1.cell, Value.cells, Tryz.results75]
  exact ⟨by simp [h2], x0.trans x00⟩
 have b2 : ((q : Int) == (R : Int) - 1) = false := by simp; omega
 by_cases h3 : c = 0
 ·have b3 : ((c : Int) == 0) = true := by simp [h3]
  simp (disch := omega) only [go_sem, b1, b2, b3, k1.cell, Value.cells, Tryz.results75]
  exact ⟨by simp [h3], x0.trans x00⟩
 have b3 : ((c : Int) == 0) = false := by simp [h3]
 by_cases h4 : c + 1 = C
 ·have b4 : ((c : Int) == (C : Int) - 1) = true := by simp; omega
  simp (disch := omega) only [go_sem, b1, b2, b3, b4, k1.cell, Value.cells, Tryz.results75]
  exact ⟨by simp [h4], x0.trans x00⟩
 have b4 : ((c : Int) == (C : Int) - 1) = false := by simp; omega
 simp (disch := omega) only [go_sem, b1, b2, b3, b4, k1.cell, Value.cells, Tryz.results75]
 exact ⟨by simp [h1, h2, h3, h4], x0.trans x00⟩
theorem l2Border_c (gb go gc : Nat) (rb ro rc : Nat → Nat) (R C : Nat) (h : Nat → Int) (w : World) (hg : GridAt w gb go rb ro rc R C h) (hR7 : R ≤ 7) (hC7 : C ≤ 7) (i : Nat) (hi : i < R * C) :
  Ret Tryz.prog 79 #[.slice (some ⟨gb, go, none⟩) R gc, .int .i64 i] w fun v w' => v = .bool (bordB R C i) ∧ Ext w w' := by
 have hC : 0 < C := Nat.pos_of_ne_zero fun e => by subst e; simp at hi
 have hR : 0 < R := Nat.pos_of_ne_zero fun e => by subst e; simp at hi
 have hRC : R * C ≤ 7 * 7 := Nat.mul_le_mul hR7 hC7
 have hm : i % C < C := Nat.mod_lt _ hC
 have hq : i / C < R := Nat.div_lt_of_lt_mul (by rw [Nat.mul_comm]; exact hi)
 have m2 : (i : Int) % (C : Int) = ((i % C : Nat) : Int) := rfl
 have hCr : C * (R - 1) ≤ 7 * 7 := Nat.mul_le_mul hC7 om
 have m3 : (C : Int) * ((R : Int) - 1) = ((C * (R - 1) : Nat) : Int) := by rw [show (R : Int) - 1 = ((R - 1 : Nat) : Int) from om]; simp
 have q1 : (i : Int) < (C : Int) ↔ i / C = 0 := by
  have := @Nat.div_eq_zero_iff i C
  constructor
  ·intro h; exact this.2 (.inr om)
  ·intro h; rcases this.1 h with h | h <;> omega
 have q2 : ((C * (R - 1) : Nat) : Int) ≤ (i : Int) ↔ i / C + 1 = R := by
  have h1 := Nat.le_div_iff_mul_le (x := R - 1) (y := i) hC
  rw [Nat.mul_comm (R - 1) C] at h1
  omega
 refine enter2 Tryz.func79 rfl fun f a0 a1 => ?_
 have g0 := hg.row 0 om
 simp only [Nat.add_zero] at g0
 simp (disch := omega) only [go_sem, a0, a1, g0]
 simp only [bordB]
 by_cases h1 : i / C = 0
 ·simp (disch := omega) only [go_sem, q1.2 h1, Tryz.results79]
  exact ⟨by simp [h1], Ext.refl _⟩
 have n1 : ¬ (i : Int) < (C : Int) := fun h => h1 (q1.1 h)
 by_cases h2 : i / C + 1 = R
 ·simp (disch := omega) only [go_sem, a0, a1, n1, m3, q2.2 h2, Tryz.results79]
  exact ⟨by simp [h2], Ext.refl _⟩
 have n2 : ¬ ((C * (R - 1) : Nat) : Int) ≤ (i : Int) := fun h => h2 (q2.1 h)
 by_cases h3 : i % C = 0
 ·have b3 : (((i % C : Nat) : Int) == 0) = true := by simp [h3]
  simp (disch := omega) only [go_sem, a0, a1, n1, m3, n2, m2, b3, Tryz.results79]
  exact ⟨by simp [h3], Ext.refl _⟩
 have b3 : (((i % C : Nat) : Int) == 0) = false := by simp; omega
 by_cases h4 : i % C + 1 = C
 ·have b4 : (((i % C : Nat) : Int) == (C : Int) - 1) = true := by simp; omega
  simp (disch := omega) only [go_sem, a0, a1, n1, m3, n2, m2, b3, b4, Tryz.results79]
  exact ⟨by simp [h4], Ext.refl _⟩
 have b4 : (((i % C : Nat) : Int) == (C : Int) - 1) = false := by simp; omega
 simp (disch := omega) only [go_sem, a0, a1, n1, m3, n2, m2, b3, b4, Tryz.results79]
 exact ⟨by simp [h1, h2, h3, h4], Ext.refl _⟩
end Go.Proofs.YtcbmhjndbpafbaaGreatDoor
namespace Go.SW
open Go Go.RowKit
def watB (h : Nat → Int) (lv : Int) (i : Nat) : Bool := decide (h i < lv)
def vb (n : Nat) (f : Nat → Bool) : List Value := (List.range n).map fun j => .bool (f j)
theorem vb_set {n x : Nat} {f g : Nat → Bool} {y : Bool} (hx : x < n) (hy : y = g x) (hg : ∀ j, j < n → j ≠ x → g j = f j) : (vb n f).set x (.bool y) = vb n g := by
 apply List.ext_getElem?; intro j
 rw [List.getElem?_set]
 by_cases hj : j < n
 ·by_cases e : x = j
  ·subst e; simp [vb, hx, hy]
  ·rw [if_neg e]; simp [vb, hj, hg j hj (fun h => e h.symm)]
 ·have : x ≠ j := om
  rw [if_neg this]; simp [vb, hj]
theorem vb_get {n x : Nat} (f : Nat → Bool) (hx : x < n) : (vb n f)[x]? = some (.bool (f x)) := by simp [vb, hx]
theorem vb_zero (n : Nat) (f : Nat → Bool) (hf : ∀ j, j < n → f j = false) : List.replicate n (Value.bool false) = vb n f := by
 apply List.ext_getElem?; intro j
 by_cases hj : j < n
 ·simp [vb, hj, hf j hj]
 ·simp [vb, hj]
theorem vb_congr {n : Nat} {f g : Nat → Bool} (h : ∀ j, j < n → f j = g j) : vb n f = vb n g := List.map_congr_left fun j hj => by rw [h j (List.mem_range.1 hj)]
def lakesOf (rows : List (List Int)) (lv : Int) : Int := if lvok rows lv = true then (lakeN rows.length (rowLen rows) (watB (hgt rows) lv) : Nat) else -1
theorem lake_take {R C : Nat} {act : Nat → Bool} {k : Nat} (h : lakeP R C act k) : cntp (lakeP R C act) (k + 1) = cntp (lakeP R C act) k + 1 := by
 simp only [cntp]; rw [if_pos h]
theorem lake_skip {R C : Nat} {act : Nat → Bool} {k : Nat} (h : ¬ lakeP R C act k) : cntp (lakeP R C act) (k + 1) = cntp (lakeP R C act) k := by
 simp only [cntp]; rw [if_neg h, Nat.add_zero]
theorem lake_any {R C : Nat} {act : Nat → Bool} {i : Nat} {l : List Nat} (b : Bfs (aroundN R C) act (R * C) i l) (cl : ∀ x ∈ l, ∀ j ∈ aroundN R C x, act j = true → j ∈ l) : opTo R C act (R * C) i = l.any (bordB R C) := by
 rw [Bool.eq_iff_iff, opTo_iff, List.any_eq_true]
 constructor
 ·rintro ⟨x, h1, h2, h3⟩
  exact ⟨x, b.all aro_lt (fun i j hi hj h => aro_sym hi hj h) cl h1 h3, h2⟩
 ·rintro ⟨x, h1, h2⟩
  obtain ⟨h3, h4, h5⟩ := b.mem x h1
  exact ⟨x, h3, h2, h5⟩
end Go.SW
namespace Go.Proofs.YtcbmhjndbpafbaaGreatDoor
open Go.RowKit Go.SW
attribute [local irreducible] callK bslK
theorem lakes_c (R C cb : Nat) (h : Nat → Int) (lv : Int) (w : World) (g : Gd R C h) (hc : CellsAt w cb (R * C) h) :
  Ret Tryz.prog 193 #[.agg #[.int .i64 R, .int .i64 C, .slice (some ⟨cb, 0, none⟩) (R * C) (R * C)], .int .i64 lv] w fun v w' => v = .int .i64 (lakeN R C (watB h lv) : Nat) ∧ Ext w w' := by
 have hn49 := g.le
 have hpos := g.pos
 have hnb := aro_lt (R := R) (C := C)
 have hcl := hc.lt hpos
 refine enter2 Tryz.func193 rfl fun f a0 a1 => ?_
 simp only [go_sem, a0]
 refine boxK_of fun w0 fb efb x0 kb _ => ?_
 have s0 := x0.size
 have kb : Blk w0 fb #[.int .i64 R, .int .i64 C, .slice (some ⟨cb, 0, none⟩) (R * C) (R * C)] 70 := by simpa [Value.cells] using kb
 have kl := kb.lt
 simp (disch := omega) only [go_sem, kb.cell]
 refine callK_of ke (newForest_c (R * C) _ om) ?_
 rintro _ w5 ⟨tb, ub, rfl, htb, hub, t5, x5⟩
 have s5 := x5.size
 have kb5 := kb.ext x5
 have hc5 := (hc.ext x0).ext x5
 have x05 := x0.trans x5
 have tl := t5.lt
 simp (disch := omega) only [go_sem, kb5.cell]
 refine loopN (R * C) (fun k f W => f 1 = .int .i64 lv ∧ f 2 = .pointer (some ⟨fb, 0, none⟩) ∧ f 5 = .pointer (some ⟨tb, 0, none⟩) ∧ f 20 = .slice (some ⟨cb, 0, none⟩) (R * C) (R * C) ∧ f 21 = .int .i64 (R * C : Nat) ∧ f 22 = .int .i64 k ∧ Trees W tb ub (R * C) (ufTo (aroundN R C) (watB h lv) k) ∧ Grow (some ub) w5 W) ⟨uu, uu, uu, uu, uu, uu, t5, Grow.refl _ _⟩ fun k f W hk ⟨a1, a2, a5, a20, a21, a22, tW, gW⟩ => ?_
 ·by_cases hlt : (k : Int) < (R * C : Nat)
  ·have hkn : k < R * C := om
   have kbw := gW.blk kb5 sq
   have hcw := hc5.grow gW sq
   have ck := hcw k hkn
   simp (disch := omega) only [go_sem, a2, a5, a20, a21, a22, hlt, ck, readCells_blk kbw (n := 3) (by simp [Value.cells]), Value.cells]
   refine callK_of ke (around_c _ _ k _ _ _ _ g.r7 g.c7 hkn) ?_
   rintro _ w6 ⟨na, nc, rfl, no, nn, x6⟩
   have hn9 : (aroundN R C k).length ≤ 9 := aroundTo_len R C k 9
   have s6 := x6.size
   have sW := gW.size
   have tWl := tW.lt
   simp (disch := omega) only [go_sem]
   refine loopN (aroundN R C k).length (fun m f V => f 1 = .int .i64 lv ∧ f 2 = .pointer (some ⟨fb, 0, none⟩) ∧ f 5 = .pointer (some ⟨tb, 0, none⟩) ∧ f 6 = .int .i64 k ∧ f 7 = .int .i64 (h k) ∧ f 20 = .slice (some ⟨cb, 0, none⟩) (R * C) (R * C) ∧ f 21 = .int .i64 (R * C : Nat) ∧ f 22 = .int .i64 k ∧
    f 29 = .slice na (aroundN R C k).length nc ∧ f 30 = .int .i64 (aroundN R C k).length ∧ f 31 = .int .i64 m ∧ Trees V tb ub (R * C) (ufRow (watB h lv) k ((aroundN R C k).take m) (ufTo (aroundN R C) (watB h lv) k)) ∧ Grow (some ub) w6 V) ⟨uu, uu, uu, uu, uu, uu, uu, uu, uu, uu, uu, tW.ext x6, Grow.refl _ _⟩ fun m f V hm ⟨a1, a2, a5, a6, a7, a20, a21, a22, a29, a30, a31, tV, gV⟩ => ?_
   ·by_cases hlm : (m : Int) < (aroundN R C k).length
    ·have hml : m < (aroundN R C k).length := om
     obtain ⟨nb, rfl⟩ := no.some om
     have hnb' := nn nb rfl
     have hjk : (aroundN R C k).getD m 0 < R * C := aro_lt _ hkn _ (getD_mem hml)
     have g0 : V.cell? ⟨nb, m, none⟩ = some (.int .i64 ((aroundN R C k).getD m 0 : Nat)) := by rw [(no.grow gV (by simp [blk]; omega)).cell om, vi_get _ _ (by rw [ni_len]; omega), ni_get _ om]
     have hstep := ufRow_take (watB h lv) k (ufTo (aroundN R C) (watB h lv) k) hml
     have kbm := gV.blk (kbw.ext x6) sq
     have cj := ((hcw.ext x6).grow gV sq) _ hjk
     generalize (aroundN R C k).getD m 0 = j at *
     simp (disch := omega) only [go_sem, a29, a30, a31, hlm, g0]
     by_cases hk2 : h k < lv
     ·by_cases hj2 : h j < lv
      ·have hp : (watB h lv k && watB h lv j) = true := by simp [watB, hk2, hj2]
       rw [if_pos hp] at hstep
       simp (disch := omega) only [go_sem, a1, a2, a5, a6, a7, a31, hk2, hj2, kbm.cell, Value.cells, cj]
       refine callK_of ke (join_c _ _ _ _ _ _ _ tV hkn hjk om) ?_
       rintro _ w7 ⟨t7, g7⟩
       simp (disch := omega) only [go_sem, a31]
       exact ⟨om, uu, uu, uu, uu, uu, uu, uu, uu, uu, uu, uu, by rw [hstep]; exact t7, gV.trans g7⟩
      ·have hp : ¬ (watB h lv k && watB h lv j) = true := by simp [watB]; omega
       rw [if_neg hp] at hstep
       simp (disch := omega) only [go_sem, a1, a2, a7, a31, hk2, hj2, kbm.cell, Value.cells, cj]
       exact ⟨om, uu, uu, uu, uu, uu, uu, uu, uu, uu, uu, uu, by rw [hstep]; exact tV, gV⟩
     ·have hp : ¬ (watB h lv k && watB h lv j) = true := by simp [watB]; omega
      rw [if_neg hp] at hstep
      simp (disch := omega) only [go_sem, a1, a7, a31, hk2]
      exact ⟨om, uu, uu, uu, uu, uu, uu, uu, uu, uu, uu, uu, by rw [hstep]; exact tV, gV⟩
    ·obtain rfl : m = (aroundN R C k).length := om
     rw [List.take_length] at tV
     simp (disch := omega) only [go_sem, a22, a30, a31, hlm]
     exact ⟨hkn, uu, uu, uu, uu, uu, uu, tV, (gW.trans (x6.grow _)).trans gV⟩
  ·obtain rfl : k = R * C := om
   have kbw := gW.blk kb5 sq
   have hcw := hc5.grow gW sq
   have sW := gW.size
   have tWl := tW.lt
   simp (disch := omega) only [go_sem, a2, a21, a22, hlt, kbw.cell]
   refine mksK_of elt_o (R * C) (R * C) _ _ _ _ rfl rfl (Nat.le_refl _) om (by simp [maxLen]; omega) fun w7 b7 e7 x7 o7 _ => ?_
   have s7 := x7.size
   have kb7 := kbw.ext x7
   have hc7 := hcw.ext x7
   have t7 : Trees w7 tb ub (R * C) (repF (aroundN R C) (watB h lv) (R * C)) := tW.ext x7
   simp only [Value.cells, made_int] at o7
   rw [vb_zero (R * C) (opTo R C (watB h lv) 0) (fun j _ => rfl)] at o7
   have hb7 : w0.heap.size ≤ b7 ∧ b7 ≠ ub ∧ b7 ≠ tb ∧ fb < b7 := om
   have e7w : Ext w w7 := by
    have := gW.ext x05 (fun b hb => by cases hb; omega)
    exact this.trans x7
   have u := rep_ok (act := watB h lv) hnb
   simp (disch := omega) only [go_sem, a2, kb7.cell]
   refine loopN (R * C) (fun k f V => f 1 = .int .i64 lv ∧ f 2 = .pointer (some ⟨fb, 0, none⟩) ∧ f 5 = .pointer (some ⟨tb, 0, none⟩) ∧ f 10 = .slice (some ⟨b7, 0, none⟩) (R * C) (R * C) ∧ f 59 = .int .i64 (R * C : Nat) ∧ f 60 = .int .i64 k ∧
    Ext w V ∧ Blk V fb #[.int .i64 R, .int .i64 C, .slice (some ⟨cb, 0, none⟩) (R * C) (R * C)] 70 ∧ CellsAt V cb (R * C) h ∧ Trees V tb ub (R * C) (repF (aroundN R C) (watB h lv) (R * C)) ∧ OwnS V 4 1 (some ⟨b7, 0, none⟩) (R * C) (R * C) (vb (R * C) (opTo R C (watB h lv) k))) ⟨uu, uu, uu, uu, uu, uu, e7w, kb7, hc7, t7, o7⟩ fun k f V hk ⟨a1, a2, a5, a10, a59, a60, xV, kV, cV, tV, oV⟩ => ?_
   by_cases hlt : (k : Int) < (R * C : Nat)
   ·have hkn : k < R * C := om
    simp (disch := omega) only [go_sem, a2, a59, a60, hlt, readCells_blk kV (n := 3) sm]
    refine callK_pure ke (border_c _ _ _ _ _ g.r7 g.c7 hkn) fun w8 x8 => ?_
    have o8 := oV.ext x8
    have t8 := tV.ext x8
    have k8 := kV.ext x8
    have c8 := cV.ext x8
    have xw8 := xV.trans x8
    by_cases hbo : bordB R C k = true
    ·simp (disch := omega) only [go_sem, a5, a10, hbo]
     refine callK_of ke (root_c _ _ _ _ _ _ t8 hkn om) ?_
     rintro _ w9 ⟨rfl, t9, g9⟩
     have o9 := o8.grow g9 (by simp [blk]; omega)
     have hle := u.le k hkn
     simp (disch := omega) only [go_sem]
     refine stK_own siz_bool rf rf o9 om fun w10 o10 g10 => ?_
     have hset := vb_set (n := R * C) (x := repF (aroundN R C) (watB h lv) (R * C) k) (f := opTo R C (watB h lv) k) (g := opTo R C (watB h lv) (k + 1)) (y := true) om (by simp [opTo, hbo]) (fun j hj hne => by simp [opTo, hne.symm])
     rw [hset] at o10
     simp (disch := omega) only [go_sem, a60]
     refine ⟨hkn, uu, uu, uu, uu, uu, uu, g10.ext (g9.ext xw8 (fun b hb => by cases hb; omega)) om, g10.grow.blk (g9.blk k8 sq) sq, (c8.grow g9 sq).grow g10.grow sq, t9.grow g10.grow sq sq, o10⟩
    ·have hbo : bordB R C k = false := by simpa using hbo
     have e : vb (R * C) (opTo R C (watB h lv) (k + 1)) = vb (R * C) (opTo R C (watB h lv) k) := vb_congr fun j _ => by simp [opTo, hbo]
     simp (disch := omega) only [go_sem, a60, hbo]
     exact ⟨hkn, uu, uu, uu, uu, uu, uu, xw8, k8, c8, t8, by rw [e]; exact o8⟩
   ·obtain rfl : k = R * C := om
    simp (disch := omega) only [go_sem, a2, a59, a60, hlt, kV.cell]
    refine loopN (R * C) (fun k f V => f 1 = .int .i64 lv ∧ f 5 = .pointer (some ⟨tb, 0, none⟩) ∧ f 10 = .slice (some ⟨b7, 0, none⟩) (R * C) (R * C) ∧ f 12 = .int .i64 (cntp (lakeP R C (watB h lv)) k : Nat) ∧ f 73 = .slice (some ⟨cb, 0, none⟩) (R * C) (R * C) ∧ f 74 = .int .i64 (R * C : Nat) ∧ f 75 = .int .i64 k ∧
     Ext w V ∧ CellsAt V cb (R * C) h ∧ Trees V tb ub (R * C) (repF (aroundN R C) (watB h lv) (R * C)) ∧ OwnS V 4 1 (some ⟨b7, 0, none⟩) (R * C) (R * C) (vb (R * C) (opTo R C (watB h lv) (R * C)))) ⟨uu, uu, uu, by simp [upd_apply, cntp], uu, uu, uu, xV, cV, tV, oV⟩ fun k f V hk ⟨a1, a5, a10, a12, a73, a74, a75, xV, cV, tV, oV⟩ => ?_
    by_cases hlt : (k : Int) < (R * C : Nat)
    ·have hkn : k < R * C := om
     have ck := cV k hkn
     have hcnt := cntp_le (lakeP R C (watB h lv)) k
     by_cases hk2 : h k < lv
     ·have hact : watB h lv k = true := by simp [watB, hk2]
      simp (disch := omega) only [go_sem, a1, a5, a73, a74, a75, hlt, ck, hk2]
      refine callK_of ke (root_c _ _ _ _ _ _ tV hkn om) ?_
      rintro _ w8 ⟨rfl, t8, g8⟩
      have o8 := oV.grow g8 (by simp [blk]; omega)
      have c8 := cV.grow g8 sq
      have x8 : Ext w w8 := g8.ext xV (fun b hb => by cases hb; omega)
      by_cases hr : repF (aroundN R C) (watB h lv) (R * C) k = k
      ·have hre : (((repF (aroundN R C) (watB h lv) (R * C) k : Nat) : Int) == (k : Int)) = true := by rw [hr]; exact beq_self_eq_true _
       have c1 : w8.cell? ⟨b7, k, none⟩ = some (.bool (opTo R C (watB h lv) (R * C) k)) := by rw [o8.cell om, vb_get _ hkn]
       cases hop : opTo R C (watB h lv) (R * C) k with
       | true =>
        have hno : ¬ lakeP R C (watB h lv) k := fun hh => by rw [hh.2] at hop; cases hop
        have hs := lake_skip hno
        rw [hop] at c1
        simp (disch := omega) only [go_sem, a10, a75, hre, c1]
        exact ⟨hkn, uu, uu, uu, by simp [upd_apply, hs, a12], uu, uu, uu, x8, c8, t8, o8⟩
       | false =>
        have hs := lake_take (show lakeP R C (watB h lv) k from ⟨⟨hact, hr⟩, hop⟩)
        rw [hop] at c1
        simp (disch := omega) only [go_sem, a10, a12, a75, hre, c1]
        exact ⟨hkn, uu, uu, uu, by simp [upd_apply, hs], uu, uu, uu, x8, c8, t8, o8⟩
      ·have hre : (((repF (aroundN R C) (watB h lv) (R * C) k : Nat) : Int) == (k : Int)) = false := by simp; omega
       have hs := lake_skip (R := R) (C := C) (act := watB h lv) (k := k) fun hh => hr hh.1.2
       simp (disch := omega) only [go_sem, a75, hre]
       exact ⟨hkn, uu, uu, uu, by simp [upd_apply, hs, a12], uu, uu, uu, x8, c8, t8, o8⟩
     ·have hs := lake_skip (R := R) (C := C) (act := watB h lv) (k := k) fun hh => by have := hh.1.1; simp [watB] at this; omega
      simp (disch := omega) only [go_sem, a1, a73, a74, a75, hlt, ck, hk2]
      exact ⟨hkn, uu, uu, uu, by simp [upd_apply, hs, a12], uu, uu, uu, xV, cV, tV, oV⟩
    ·obtain rfl : k = R * C := om
     simp (disch := omega) only [go_sem, a12, a74, a75, hlt, Tryz.results193]
     exact ⟨rfl, xV⟩
theorem implLevelLakes_c (a : Option Addr) (rows : List (List Int)) (A : Nat → Option Addr) (Cp : Nat → Nat) (gc : Nat) (lv : Int) (w : World) (hr : RowsAt w a rows A Cp) :
  Ret Tryz.prog 161 #[.slice a rows.length gc, .int .i64 lv] w fun v w' => v = .int .i64 (lakesOf rows lv) ∧ Ext w w' := by
 refine enter2 Tryz.func161 rfl fun f a0 a1 => ?_
 simp (disch := omega) only [go_sem, a0, a1]
 refine callK_of ke (leveled_c _ _ _ _ _ lv _ hr) ?_
 rintro _ w2 ⟨x2, (⟨hlv, cb, rfl, hcb, o⟩ | ⟨hlv, rfl⟩)⟩
 rotate_left
 ·simp (disch := omega) only [go_sem]
  refine allocK_of zero_f fun w3 fb _ x3 k3 _ => ?_
  simp (disch := omega) only [go_sem]
  refine stK_agg siz_f sm oi k3 sm fun w4 k4 g4 => ?_
  have x4 : Ext w w4 := g4.ext (x2.trans x3) (by have := x2.size; omega)
  simp (disch := omega) only [go_sem, Tryz.results161]
  exact ⟨by simp [lakesOf, hlv], x4⟩
 have hv : gvalid rows = true := by simp only [lvok, Bool.and_eq_true] at hlv; exact hlv.1
 have hl0 : 0 ≤ lv ∧ lv ≤ 99 := by simp only [lvok, Bool.and_eq_true, decide_eq_true_eq] at hlv; exact hlv.2
 have v := (gvalid_iff rows).1 hv
 have g := v.gd
 have hr1 := g.r1
 have hr7 := g.r7
 have hc1 := g.c1
 have hc7 := g.c7
 have hn49 := g.le
 simp (disch := omega) only [go_sem]
 refine allocK_of zero_f fun w3 fb _ x3 k3 _ => ?_
 simp (disch := omega) only [go_sem]
 refine stK_agg siz_f sm oi k3 sm fun w4 kb g4 => ?_
 have s2 := x2.size
 have s3 := x3.size
 have x4 : Ext w w4 := g4.ext (x2.trans x3) om
 have s4 := x4.size
 have hc : CellsAt w4 cb (rows.length * rowLen rows) (hgt rows) := fun i hi => (o.ext x3).grow g4.grow (by have := o.lt g.pos; simp; omega) i hi
 simp (disch := omega) only [go_sem, a1, readCells_blk kb (n := 3) sm]
 refine callK_pure ke (lakes_c _ _ cb (hgt rows) lv _ g hc) fun w5 x5 => ?_
 simp (disch := omega) only [go_sem, Tryz.results161]
 exact ⟨by simp [lakesOf, hlv], x4.trans x5⟩
end Go.Proofs.YtcbmhjndbpafbaaGreatDoor
namespace Go.SW
theorem numIn_push {nb : Nat → List Nat} {act : Nat → Bool} {n i j y : Nat} {l : List Nat} (h : y ≠ j) : numIn nb act n i (l ++ [j]) y = numIn nb act n i l y := by simp [numIn, h]
end Go.SW
namespace Go.Proofs.YtcbmhjndbpafbaaGreatDoor
open Go.RowKit Go.SW
attribute [local irreducible] callK bslK
set_option maxHeartbeats 1000000 in
set_option maxRecDepth 20000 in
theorem specLevelLakes_c (a : Option Addr) (rows : List (List Int)) (A : Nat → Option Addr) (Cp : Nat → Nat) (gc : Nat) (lv : Int) (w : World) (hr : RowsAt w a rows A Cp) :
  Ret Tryz.prog 108 #[.slice a rows.length gc, .int .i64 lv] w fun v w' => v = .int .i64 (lakesOf rows lv) ∧ Ext w w' := by
 refine enter2 Tryz.func108 rfl fun f a0 a1 => ?_
 simp (disch := omega) only [go_sem, a0, a1]
 refine callK_pure ke (l3Ok_c _ _ _ _ _ _ _ hr) fun w1 x1 => ?_
 cases hlv : lvok rows lv with
 | false =>
  simp (disch := omega) only [go_sem, Tryz.results108]
  exact ⟨by simp [lakesOf, hlv], x1⟩
 | true =>
 obtain ⟨hv, hl0⟩ := lv_parts hlv
 have v := (gvalid_iff rows).1 hv
 have g := v.gd
 obtain ⟨gb, go, rb, ro, rfl, -, hg⟩ := hr.grid v
 have hans : lakesOf rows lv = (lakeN rows.length (rowLen rows) (watB (hgt rows) lv) : Nat) := by simp [lakesOf, hlv]
 rw [hans]
 generalize hRR : rows.length = R at *
 generalize hCC : rowLen rows = C at *
 generalize hgt rows = h at *
 have hn49 := g.le
 have hpos := g.pos
 have hnb := aro_lt (R := R) (C := C)
 have hsym : ∀ i j, i < R * C → j < R * C → j ∈ aroundN R C i → i ∈ aroundN R C j := fun i j hi hj h => aro_sym hi hj h
 have hr1 := g.r1
 have hr7 := g.r7
 have hc7 := g.c7
 simp (disch := omega) only [go_sem, a0]
 refine callK_pure ke (l2Cells_c gb go gc rb ro _ R C h _ (hg.ext x1) hr1 hr7 hc7) fun w2 x2 => ?_
 simp (disch := omega) only [go_sem]
 refine mksK_of elt_o (R * C) (R * C) _ _ _ _ rfl rfl (Nat.le_refl _) om (by simp [maxLen]; omega) fun w3 ob e3 x3 o3 _ => ?_
 have x123 := (x1.trans x2).trans x3
 have s3 := x3.size
 have s12 := (x1.trans x2).size
 have hob : w.heap.size ≤ ob := om
 simp only [Value.cells, made_int] at o3
 rw [vb_zero (R * C) (fun j => decide (0 ≤ numTo (aroundN R C) (watB h lv) (R * C) 0 j)) (fun j _ => by rw [numTo_zero]; rfl)] at o3
 simp (disch := omega) only [go_sem]
 refine loopN (R * C) (fun k f V => f 0 = .slice (some ⟨gb, go, none⟩) R gc ∧ f 1 = .int .i64 lv ∧ f 5 = .slice (some ⟨ob, 0, none⟩) (R * C) (R * C) ∧ f 6 = .int .i64 (cntp (lakeP R C (watB h lv)) k : Nat) ∧ f 7 = .int .i64 k ∧ OwnS V 4 1 (some ⟨ob, 0, none⟩) (R * C) (R * C) (vb (R * C) (fun j => decide (0 ≤ numTo (aroundN R C) (watB h lv) (R * C) k j))) ∧ Ext w V) ⟨uu, by simp [upd_apply, a1], uu, by simp [upd_apply, cntp], uu, o3, x123⟩ fun k f V hk ⟨a0, a1, a5, a6, a7, oV, xV⟩ => ?_
 by_cases hlt : (k : Int) < (R * C : Nat)
 ·have hkn : k < R * C := om
  have ck : V.cell? ⟨ob, k, none⟩ = some (.bool (decide (0 ≤ numTo (aroundN R C) (watB h lv) (R * C) k k))) := by rw [oV.cell om, vb_get _ hkn]
  have hcnt := cntp_le (lakeP R C (watB h lv)) k
  have u := rep_ok (act := watB h lv) hnb
  have hle := u.le k hkn
  by_cases hge : 0 ≤ numTo (aroundN R C) (watB h lv) (R * C) k k
  ·have hno : ¬ (watB h lv k = true ∧ repF (aroundN R C) (watB h lv) (R * C) k = k) := fun hh => by
    have := (numTo_neg (nb := aroundN R C) (act := watB h lv) (n := R * C) k k).2 (fun h' => om)
    omega
   have e1 : vb (R * C) (fun j => decide (0 ≤ numTo (aroundN R C) (watB h lv) (R * C) k j)) = vb (R * C) (fun j => decide (0 ≤ numTo (aroundN R C) (watB h lv) (R * C) (k + 1) j)) := vb_congr fun j hj => by simp only [numTo_skip hnb hkn hno hj]
   have hs := lake_skip (R := R) (C := C) (act := watB h lv) (k := k) fun hh => hno hh.1
   rw [decide_eq_true hge] at ck
   simp (disch := omega) only [go_sem, a5, a7, hlt, ck]
   exact ⟨hkn, uu, uu, uu, by simp [upd_apply, hs, a6], uu, by rw [← e1]; exact oV, xV⟩
  ·have hnr := (numTo_neg (nb := aroundN R C) (act := watB h lv) (n := R * C) k k).1 om
   have hki : ((k : Nat) : Int).toNat = k := om
   rw [decide_eq_false hge] at ck
   simp (disch := omega) only [go_sem, a0, a1, a5, a7, hlt, ck]
   refine callK_pure ke (l2Height_c gb go gc rb ro _ R C h _ (hg.ext xV) hr7 hc7 (k : Int) om om) fun w5 x5 => ?_
   by_cases hlow : lv ≤ h k
   ·have hno : ¬ (watB h lv k = true ∧ repF (aroundN R C) (watB h lv) (R * C) k = k) := fun hh => by
     have := hh.1; simp [watB] at this; omega
    have e1 : vb (R * C) (fun j => decide (0 ≤ numTo (aroundN R C) (watB h lv) (R * C) k j)) = vb (R * C) (fun j => decide (0 ≤ numTo (aroundN R C) (watB h lv) (R * C) (k + 1) j)) := vb_congr fun j hj => by simp only [numTo_skip hnb hkn hno hj]
    have hs := lake_skip (R := R) (C := C) (act := watB h lv) (k := k) fun hh => hno hh.1
    simp (disch := omega) only [go_sem, a1, a7, hki, hlow]
    exact ⟨hkn, uu, uu, uu, by simp [upd_apply, hs, a6], uu, by rw [← e1]; exact oV.ext x5, xV.trans x5⟩
   ·have hact : watB h lv k = true := by simp [watB]; omega
    have hroot : watB h lv k = true ∧ repF (aroundN R C) (watB h lv) (R * C) k = k := ⟨hact, by
     by_cases e : repF (aroundN R C) (watB h lv) (R * C) k = k
     ·exact e
     ·exact absurd ⟨hact, om⟩ hnr⟩
    simp (disch := omega) only [go_sem, a1, a5, a7, hki, hlow]
    refine stK_own siz_bool rf rf (oV.ext x5) om fun w6 o6 g6 => ?_
    have b0 := Bfs.one (nb := aroundN R C) hkn hroot
    have hset := vb_set (n := R * C) (x := k) (f := fun j => decide (0 ≤ numTo (aroundN R C) (watB h lv) (R * C) k j)) (g := fun j => decide (0 ≤ numIn (aroundN R C) (watB h lv) (R * C) k [k] j)) (y := true) hkn (by simp [numIn]) (fun j hj hne => by simp [numIn, hne])
    rw [hset] at o6
    have x6 : Ext w w6 := g6.ext (xV.trans x5) hob
    simp (disch := omega) only [go_sem, a7]
    refine bslK_1 elt_i rfl fun w7 b7 e7 x7 k7 _ => ?_
    have s6 := x6.size
    have o7 := o6.ext x7
    have obl := o6.blk_lt (b := ob) rfl
    have l7 : OwnS w7 3 1 (some ⟨b7, 0, none⟩) 1 1 (vi (ni [k])) := by
     have := OwnS.of_blk (e := 3) (n := 1) (s := 1) k7 sm (by simp [maxLen])
     simpa [vi, ni] using this
    simp (disch := omega) only [go_sem]
    refine loopN (R * C) (fun p f V => f 0 = .slice (some ⟨gb, go, none⟩) R gc ∧ f 1 = .int .i64 lv ∧ f 5 = .slice (some ⟨ob, 0, none⟩) (R * C) (R * C) ∧ f 6 = .int .i64 (cntp (lakeP R C (watB h lv)) k : Nat) ∧ f 7 = .int .i64 k ∧ f 10 = .int .i64 p ∧ Ext w V ∧
     ∃ l : List Nat, p ≤ l.length ∧ f 8 = .bool ((l.take p).any (bordB R C)) ∧ Bfs (aroundN R C) (watB h lv) (R * C) k l ∧ ClosedTo (aroundN R C) (watB h lv) l p ∧ OwnS V 4 1 (some ⟨ob, 0, none⟩) (R * C) (R * C) (vb (R * C) (fun j => decide (0 ≤ numIn (aroundN R C) (watB h lv) (R * C) k l j))) ∧
      ∃ la lc, f 9 = .slice la l.length lc ∧ OwnS V 3 1 la l.length lc (vi (ni l)) ∧ ∀ b, blk la = some b → w.heap.size ≤ b ∧ b ≠ ob) ⟨uu, uu, uu, by simp [upd_apply, a6], uu, uu, x6.trans x7, [k], by simp, by simp [upd_apply], b0, fun k' x h1 => om, o7, _, _, uu, l7, fun b hb => by simp [blk] at hb; omega⟩ fun p f V hp ⟨a0, a1, a5, a6, a7, a10, xV, l, hpl, a8, bl, cl, oV, la, lc, a9, ol, fl⟩ => ?_
    have hll := bl.len
    by_cases hlp : (p : Int) < (l.length : Int)
    ·have hpl' : p < l.length := om
     obtain ⟨lb, rfl⟩ := ol.some om
     have hx : l[p]? = some (l.getD p 0) := by rw [getD_at _ _ hpl']; exact List.getElem?_eq_getElem hpl'
     have hxl : l.getD p 0 ∈ l := getD_mem hpl'
     have hxn := (bl.mem _ hxl).1
     have cx : V.cell? ⟨lb, p, none⟩ = some (.int .i64 (l.getD p 0 : Nat)) := by rw [ol.cell om, vi_get _ _ (by rw [ni_len]; omega), ni_get _ hpl']
     have hany : (l.take (p + 1)).any (bordB R C) = ((l.take p).any (bordB R C) || bordB R C (l.getD p 0)) := by
      rw [List.take_succ_eq_append_getElem hpl', List.any_append, getD_at _ _ hpl']; simp
     generalize l.getD p 0 = x at *
     by_cases hfl : (l.take p).any (bordB R C) = true
     ·rw [hfl, Bool.true_or] at hany
      rw [hfl] at a8
      simp (disch := omega) only [go_sem, a0, a8, a9, a10, hlp, cx]
      refine callK_of ke (l3Around_c gb go gc rb ro _ R C h _ (hg.ext xV) hr7 hc7 x hxn) ?_
      rintro _ w8 ⟨na, nc, rfl, no, nn, x8⟩
      have hn9 : (aroundN R C x).length ≤ 9 := aroundTo_len R C x 9
      have sV := xV.size
      have obV := oV.blk_lt (b := ob) rfl
      have lbV := ol.blk_lt (b := lb) rfl
      simp (disch := omega) only [go_sem]
      refine loopN (aroundN R C x).length (fun m f V => f 0 = .slice (some ⟨gb, go, none⟩) R gc ∧ f 1 = .int .i64 lv ∧ f 5 = .slice (some ⟨ob, 0, none⟩) (R * C) (R * C) ∧ f 6 = .int .i64 (cntp (lakeP R C (watB h lv)) k : Nat) ∧ f 7 = .int .i64 k ∧ f 8 = .bool (true) ∧ f 10 = .int .i64 p ∧ f 11 = .slice na (aroundN R C x).length nc ∧ f 12 = .int .i64 m ∧ Ext w V ∧ OwnS V 3 1 na (aroundN R C x).length nc (vi (ni (aroundN R C x))) ∧
       ∃ l : List Nat, p < l.length ∧ l[p]? = some x ∧ x ∈ l ∧ (l.take (p + 1)).any (bordB R C) = (true) ∧ Bfs (aroundN R C) (watB h lv) (R * C) k l ∧ ClosedTo (aroundN R C) (watB h lv) l p ∧ (∀ j ∈ (aroundN R C x).take m, watB h lv j = true → j ∈ l) ∧ OwnS V 4 1 (some ⟨ob, 0, none⟩) (R * C) (R * C) (vb (R * C) (fun j => decide (0 ≤ numIn (aroundN R C) (watB h lv) (R * C) k l j))) ∧
        ∃ la lc, f 9 = .slice la l.length lc ∧ OwnS V 3 1 la l.length lc (vi (ni l)) ∧ ∀ b, blk la = some b → w.heap.size ≤ b ∧ b ≠ ob ∧ blk na ≠ some b) ⟨uu, uu, uu, uu, uu, uu, uu, uu, uu, xV.trans x8, no, l, hpl', hx, hxl, hany, bl, cl, fun j hj => by simp at hj, oV.ext x8, _, _, uu, ol.ext x8, fun b hb => ⟨(fl b hb).1, (fl b hb).2, fun e => by have := nn b e; simp [blk] at hb; omega⟩⟩ fun m f V hm ⟨a0, a1, a5, a6, a7, a8, a10, a11, a12, xV, nV, l, hpl, hx, hxl, hany, bl, cl, hm', oV, la, lc, a9, ol, fl⟩ => ?_
      have hll := bl.len
      by_cases hlm : (m : Int) < (aroundN R C x).length
      ·have hml : m < (aroundN R C x).length := om
       obtain ⟨nb, rfl⟩ := nV.some om
       have hjm : (aroundN R C x).getD m 0 ∈ aroundN R C x := getD_mem hml
       have hjn := hnb x hxn _ hjm
       have cj : V.cell? ⟨nb, m, none⟩ = some (.int .i64 ((aroundN R C x).getD m 0 : Nat)) := by rw [nV.cell om, vi_get _ _ (by rw [ni_len]; omega), ni_get _ hml]
       have htk : (aroundN R C x).take (m + 1) = (aroundN R C x).take m ++ [(aroundN R C x).getD m 0] := by rw [List.take_succ_eq_append_getElem hml, getD_at _ _ hml]
       generalize (aroundN R C x).getD m 0 = j at *
       have co : V.cell? ⟨ob, j, none⟩ = some (.bool (decide (0 ≤ numIn (aroundN R C) (watB h lv) (R * C) k l j))) := by rw [oV.cell om, vb_get _ hjn]
       have hneg := fun ha => numIn_neg (act := watB h lv) hnb bl hxl hjm ha
       by_cases hng : numIn (aroundN R C) (watB h lv) (R * C) k l j < 0
       ·rw [decide_eq_false om] at co
        simp (disch := omega) only [go_sem, a0, a1, a5, a11, a12, hlm, cj, co]
        have hji : ((j : Nat) : Int).toNat = j := om
        refine callK_pure ke (l2Height_c gb go gc rb ro _ R C h _ (hg.ext xV) hr7 hc7 (j : Int) om om) fun w9 x9 => ?_
        by_cases hhi : h j < lv
        ·have ha : watB h lv j = true := by simp [watB, hhi]
         have hjl := (hneg ha).1 hng
         have cj9 := x9.cell cj
         simp (disch := omega) only [go_sem, a1, a5, a11, a12, hji, hhi, cj9]
         refine stK_own siz_bool rf rf (oV.ext x9) om fun w10 o10 g10 => ?_
         have n10 := (nV.ext x9).grow g10.grow (fun b hb e => by have h1 := nn nb rfl; simp [blk] at hb; simp at e; omega)
         have l10 := (ol.ext x9).grow g10.grow (fun b hb e => by cases e; exact (fl ob hb).2.1 rfl)
         have cj10 : w10.cell? ⟨nb, m, none⟩ = some (.int .i64 (j : Nat)) := by
          have := g10.grow.cell cj9 (by intro e; have h1 := nn nb rfl; simp at e; omega)
          exact this
         have hset := vb_set (n := R * C) (x := j) (f := fun y => decide (0 ≤ numIn (aroundN R C) (watB h lv) (R * C) k l y)) (g := fun y => decide (0 ≤ numIn (aroundN R C) (watB h lv) (R * C) k (l ++ [j]) y)) (y := true) hjn (by simp [numIn]) (fun y hy hne => by simp only [numIn_push hne])
         rw [hset] at o10
         have x10 : Ext w w10 := g10.ext (xV.trans x9) hob
         simp (disch := omega) only [go_sem, a9, a11, a12, cj10]
         refine bslK_1 elt_i rfl fun w11 b11 e11 x11 k11 _ => ?_
         simp (disch := omega) only [go_sem]
         refine appK_1 elt_i (l10.ext x11) k11 rfl om (.inl dc) fun w12 a12' c12 o12 g12 h12 => ?_
         have s10 := x10.size
         have s11 := x11.size
         have n11 := (n10.ext x11).blk_lt (b := nb) rfl
         have o11 := (o10.ext x11).blk_lt (b := ob) rfl
         simp (disch := omega) only [go_sem, a12]
         have hbl := bl.push hnb hxl hjm ha hjl
         refine ⟨hml, uu, uu, uu, uu, uu, uu, uu, uu, uu, g12.ext (x10.trans x11) (fun b hb => (fl b hb).1), (n10.ext x11).grow g12 (fun b hb e => (fl b e).2.2 hb), l ++ [j], by simp; omega, by rw [List.getElem?_append_left hpl]; exact hx, by simp [hxl], by rw [List.take_append_of_le_length om]; exact hany, hbl, cl.push om j, fun y hy hya => ?_, (o10.ext x11).grow g12 (fun b hb e => (fl b e).2.1 (by cases hb; rfl)), a12', c12, by simp [upd_apply], ?_, fun b hb => ?_⟩
         ·rw [htk] at hy
          rcases List.mem_append.1 hy with h1 | h1
          ·exact List.mem_append_left _ (hm' y h1 hya)
          ·exact List.mem_append_right _ h1
         ·rw [← vi_ni_snoc l _ _ rfl]; simpa using o12
         ·rcases h12 b hb with h1 | h1
          ·exact fl b h1
          ·exact ⟨om, om, fun e => by simp [blk] at e; omega⟩
        ·have ha : watB h lv j = false := by simp [watB]; omega
         simp (disch := omega) only [go_sem, a1, a12, hji, hhi]
         refine ⟨hml, uu, uu, uu, uu, uu, uu, uu, uu, uu, xV.trans x9, nV.ext x9, l, hpl, hx, hxl, hany, bl, cl, fun y hy hya => ?_, oV.ext x9, la, lc, uu, ol.ext x9, fl⟩
         rw [htk] at hy
         rcases List.mem_append.1 hy with h1 | h1
         ·exact hm' y h1 hya
         ·rw [List.mem_singleton] at h1; subst h1; rw [ha] at hya; cases hya
       ·rw [decide_eq_true om] at co
        simp (disch := omega) only [go_sem, a5, a11, a12, hlm, cj, co]
        refine ⟨hml, uu, uu, uu, uu, uu, uu, uu, uu, uu, xV, nV, l, hpl, hx, hxl, hany, bl, cl, fun y hy hya => ?_, oV, la, lc, uu, ol, fl⟩
        rw [htk] at hy
        rcases List.mem_append.1 hy with h1 | h1
        ·exact hm' y h1 hya
        ·rw [List.mem_singleton] at h1; subst h1
         by_cases hjl : y ∈ l
         ·exact hjl
         ·exact absurd ((hneg hya).2 hjl) hng
      ·obtain rfl : m = (aroundN R C x).length := om
       rw [List.take_length] at hm'
       simp (disch := omega) only [go_sem, a10, a11, a12, hlm]
       exact ⟨om, uu, uu, uu, uu, uu, uu, xV, l, om, by rw [hany]; exact uu, bl, cl.step hx hm', oV, la, lc, uu, ol, fun b hb => ⟨(fl b hb).1, (fl b hb).2.1⟩⟩
     ·have hfl : (l.take p).any (bordB R C) = false := by simpa using hfl
      rw [hfl, Bool.false_or] at hany
      rw [hfl] at a8
      simp (disch := omega) only [go_sem, a0, a8, a9, a10, hlp, cx]
      refine callK_pure ke (l2Border_c gb go gc rb ro _ R C h _ (hg.ext xV) hr7 hc7 x hxn) fun wB xB => ?_
      replace xV := xV.trans xB
      replace oV := oV.ext xB
      replace ol := ol.ext xB
      have cxB := xB.cell cx
      simp (disch := omega) only [go_sem, a0, a9, a10, cxB]
      refine callK_of ke (l3Around_c gb go gc rb ro _ R C h _ (hg.ext xV) hr7 hc7 x hxn) ?_
      rintro _ w8 ⟨na, nc, rfl, no, nn, x8⟩
      have hn9 : (aroundN R C x).length ≤ 9 := aroundTo_len R C x 9
      have sV := xV.size
      have obV := oV.blk_lt (b := ob) rfl
      have lbV := ol.blk_lt (b := lb) rfl
      simp (disch := omega) only [go_sem]
      refine loopN (aroundN R C x).length (fun m f V => f 0 = .slice (some ⟨gb, go, none⟩) R gc ∧ f 1 = .int .i64 lv ∧ f 5 = .slice (some ⟨ob, 0, none⟩) (R * C) (R * C) ∧ f 6 = .int .i64 (cntp (lakeP R C (watB h lv)) k : Nat) ∧ f 7 = .int .i64 k ∧ f 8 = .bool (bordB R C x) ∧ f 10 = .int .i64 p ∧ f 11 = .slice na (aroundN R C x).length nc ∧ f 12 = .int .i64 m ∧ Ext w V ∧ OwnS V 3 1 na (aroundN R C x).length nc (vi (ni (aroundN R C x))) ∧
       ∃ l : List Nat, p < l.length ∧ l[p]? = some x ∧ x ∈ l ∧ (l.take (p + 1)).any (bordB R C) = (bordB R C x) ∧ Bfs (aroundN R C) (watB h lv) (R * C) k l ∧ ClosedTo (aroundN R C) (watB h lv) l p ∧ (∀ j ∈ (aroundN R C x).take m, watB h lv j = true → j ∈ l) ∧ OwnS V 4 1 (some ⟨ob, 0, none⟩) (R * C) (R * C) (vb (R * C) (fun j => decide (0 ≤ numIn (aroundN R C) (watB h lv) (R * C) k l j))) ∧
        ∃ la lc, f 9 = .slice la l.length lc ∧ OwnS V 3 1 la l.length lc (vi (ni l)) ∧ ∀ b, blk la = some b → w.heap.size ≤ b ∧ b ≠ ob ∧ blk na ≠ some b) ⟨uu, uu, uu, uu, uu, uu, uu, uu, uu, xV.trans x8, no, l, hpl', hx, hxl, hany, bl, cl, fun j hj => by simp at hj, oV.ext x8, _, _, uu, ol.ext x8, fun b hb => ⟨(fl b hb).1, (fl b hb).2, fun e => by have := nn b e; simp [blk] at hb; omega⟩⟩ fun m f V hm ⟨a0, a1, a5, a6, a7, a8, a10, a11, a12, xV, nV, l, hpl, hx, hxl, hany, bl, cl, hm', oV, la, lc, a9, ol, fl⟩ => ?_
      have hll := bl.len
      by_cases hlm : (m : Int) < (aroundN R C x).length
      ·have hml : m < (aroundN R C x).length := om
       obtain ⟨nb, rfl⟩ := nV.some om
       have hjm : (aroundN R C x).getD m 0 ∈ aroundN R C x := getD_mem hml
       have hjn := hnb x hxn _ hjm
       have cj : V.cell? ⟨nb, m, none⟩ = some (.int .i64 ((aroundN R C x).getD m 0 : Nat)) := by rw [nV.cell om, vi_get _ _ (by rw [ni_len]; omega), ni_get _ hml]
       have htk : (aroundN R C x).take (m + 1) = (aroundN R C x).take m ++ [(aroundN R C x).getD m 0] := by rw [List.take_succ_eq_append_getElem hml, getD_at _ _ hml]
       generalize (aroundN R C x).getD m 0 = j at *
       have co : V.cell? ⟨ob, j, none⟩ = some (.bool (decide (0 ≤ numIn (aroundN R C) (watB h lv) (R * C) k l j))) := by rw [oV.cell om, vb_get _ hjn]
       have hneg := fun ha => numIn_neg (act := watB h lv) hnb bl hxl hjm ha
       by_cases hng : numIn (aroundN R C) (watB h lv) (R * C) k l j < 0
       ·rw [decide_eq_false om] at co
        simp (disch := omega) only [go_sem, a0, a1, a5, a11, a12, hlm, cj, co]
        have hji : ((j : Nat) : Int).toNat = j := om
        refine callK_pure ke (l2Height_c gb go gc rb ro _ R C h _ (hg.ext xV) hr7 hc7 (j : Int) om om) fun w9 x9 => ?_
        by_cases hhi : h j < lv
        ·have ha : watB h lv j = true := by simp [watB, hhi]
         have hjl := (hneg ha).1 hng
         have cj9 := x9.cell cj
         simp (disch := omega) only [go_sem, a1, a5, a11, a12, hji, hhi, cj9]
         refine stK_own siz_bool rf rf (oV.ext x9) om fun w10 o10 g10 => ?_
         have n10 := (nV.ext x9).grow g10.grow (fun b hb e => by have h1 := nn nb rfl; simp [blk] at hb; simp at e; omega)
         have l10 := (ol.ext x9).grow g10.grow (fun b hb e => by cases e; exact (fl ob hb).2.1 rfl)
         have cj10 : w10.cell? ⟨nb, m, none⟩ = some (.int .i64 (j : Nat)) := by
          have := g10.grow.cell cj9 (by intro e; have h1 := nn nb rfl; simp at e; omega)
          exact this
         have hset := vb_set (n := R * C) (x := j) (f := fun y => decide (0 ≤ numIn (aroundN R C) (watB h lv) (R * C) k l y)) (g := fun y => decide (0 ≤ numIn (aroundN R C) (watB h lv) (R * C) k (l ++ [j]) y)) (y := true) hjn (by simp [numIn]) (fun y hy hne => by simp only [numIn_push hne])
         rw [hset] at o10
         have x10 : Ext w w10 := g10.ext (xV.trans x9) hob
         simp (disch := omega) only [go_sem, a9, a11, a12, cj10]
         refine bslK_1 elt_i rfl fun w11 b11 e11 x11 k11 _ => ?_
         simp (disch := omega) only [go_sem]
         refine appK_1 elt_i (l10.ext x11) k11 rfl om (.inl dc) fun w12 a12' c12 o12 g12 h12 => ?_
         have s10 := x10.size
         have s11 := x11.size
         have n11 := (n10.ext x11).blk_lt (b := nb) rfl
         have o11 := (o10.ext x11).blk_lt (b := ob) rfl
         simp (disch := omega) only [go_sem, a12]
         have hbl := bl.push hnb hxl hjm ha hjl
         refine ⟨hml, uu, uu, uu, uu, uu, uu, uu, uu, uu, g12.ext (x10.trans x11) (fun b hb => (fl b hb).1), (n10.ext x11).grow g12 (fun b hb e => (fl b e).2.2 hb), l ++ [j], by simp; omega, by rw [List.getElem?_append_left hpl]; exact hx, by simp [hxl], by rw [List.take_append_of_le_length om]; exact hany, hbl, cl.push om j, fun y hy hya => ?_, (o10.ext x11).grow g12 (fun b hb e => (fl b e).2.1 (by cases hb; rfl)), a12', c12, by simp [upd_apply], ?_, fun b hb => ?_⟩
         ·rw [htk] at hy
          rcases List.mem_append.1 hy with h1 | h1
          ·exact List.mem_append_left _ (hm' y h1 hya)
          ·exact List.mem_append_right _ h1
         ·rw [← vi_ni_snoc l _ _ rfl]; simpa using o12
         ·rcases h12 b hb with h1 | h1
          ·exact fl b h1
          ·exact ⟨om, om, fun e => by simp [blk] at e; omega⟩
        ·have ha : watB h lv j = false := by simp [watB]; omega
         simp (disch := omega) only [go_sem, a1, a12, hji, hhi]
         refine ⟨hml, uu, uu, uu, uu, uu, uu, uu, uu, uu, xV.trans x9, nV.ext x9, l, hpl, hx, hxl, hany, bl, cl, fun y hy hya => ?_, oV.ext x9, la, lc, uu, ol.ext x9, fl⟩
         rw [htk] at hy
         rcases List.mem_append.1 hy with h1 | h1
         ·exact hm' y h1 hya
         ·rw [List.mem_singleton] at h1; subst h1; rw [ha] at hya; cases hya
       ·rw [decide_eq_true om] at co
        simp (disch := omega) only [go_sem, a5, a11, a12, hlm, cj, co]
        refine ⟨hml, uu, uu, uu, uu, uu, uu, uu, uu, uu, xV, nV, l, hpl, hx, hxl, hany, bl, cl, fun y hy hya => ?_, oV, la, lc, uu, ol, fl⟩
        rw [htk] at hy
        rcases List.mem_append.1 hy with h1 | h1
        ·exact hm' y h1 hya
        ·rw [List.mem_singleton] at h1; subst h1
         by_cases hjl : y ∈ l
         ·exact hjl
         ·exact absurd ((hneg hya).2 hjl) hng
      ·obtain rfl : m = (aroundN R C x).length := om
       rw [List.take_length] at hm'
       simp (disch := omega) only [go_sem, a10, a11, a12, hlm]
       exact ⟨om, uu, uu, uu, uu, uu, uu, xV, l, om, by rw [hany]; exact uu, bl, cl.step hx hm', oV, la, lc, uu, ol, fun b hb => ⟨(fl b hb).1, (fl b hb).2.1⟩⟩
    ·obtain rfl : p = l.length := om
     rw [List.take_length] at a8
     have hall := cl.all
     have e1 : vb (R * C) (fun j => decide (0 ≤ numIn (aroundN R C) (watB h lv) (R * C) k l j)) = vb (R * C) (fun j => decide (0 ≤ numTo (aroundN R C) (watB h lv) (R * C) (k + 1) j)) := vb_congr fun j hj => by simp only [numIn_end hnb hsym bl hall hj]
     rw [e1] at oV
     have hop := lake_any bl hall
     cases hfl : l.any (bordB R C) with
     | true =>
      rw [hfl] at hop a8
      have hs := lake_skip (R := R) (C := C) (act := watB h lv) (k := k) fun hh => by rw [hh.2] at hop; cases hop
      simp (disch := omega) only [go_sem, a7, a8, a9, a10, hlp]
      exact ⟨hkn, uu, uu, uu, by simp [upd_apply, hs, a6], uu, oV, xV⟩
     | false =>
      rw [hfl] at hop a8
      have hs := lake_take (show lakeP R C (watB h lv) k from ⟨hroot, hop⟩)
      simp (disch := omega) only [go_sem, a6, a7, a8, a9, a10, hlp]
      exact ⟨hkn, uu, uu, uu, by simp [upd_apply, hs], uu, oV, xV⟩
 ·obtain rfl : k = R * C := om
  simp (disch := omega) only [go_sem, a5, a6, a7, hlt, Tryz.results108]
  exact ⟨rfl, xV⟩
end Go.Proofs.YtcbmhjndbpafbaaGreatDoor
