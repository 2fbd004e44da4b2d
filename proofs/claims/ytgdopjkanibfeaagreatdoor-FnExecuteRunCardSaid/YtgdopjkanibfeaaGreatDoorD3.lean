/- The draw functions for cells, and those of the water laws. -/
import Derived.Test.YtgdopjkanibfeaaGreatDoorJ2
import Derived.Test.YtgdopjkanibfeaaGreatDoorWs2
set_option linter.all false
set_option maxRecDepth 20000
namespace Go.Proofs.YtgdopjkanibfeaaGreatDoor
open Go.RowKit Go.SW
attribute [local irreducible] Go.SW.callK Go.SW.bslK Go.SW.RLT Go.SW.nxE Go.SW.nxT

set_option maxHeartbeats 4000000 in
theorem l91Cell_c (rb B lim : Nat) (w : World) (hr : Rdr w rb B lim) (hB : B ≤ w.heap.size) (hl : lim ≤ 1000000) :
    Ret Tryz.prog 46 #[.pointer (some ⟨rb, 0, none⟩)] w fun v w' => ∃ a c rows A Cp R r cc, v = .tuple #[.slice a rows.length c, .int .i64 r, .int .i64 cc] ∧ 1 ≤ R ∧ R ≤ 5 ∧ (-1 ≤ r ∧ r ≤ 1001 ∧ -1 ≤ cc ∧ cc ≤ 1001) ∧ Drawn w' w.heap.size R a c rows A Cp ∧ Grow (some rb) w w' ∧ Rdr w' rb B (lim + 110) := by
  have hrb := hr.below
  refine enter1 Tryz.func46 rfl (by kernel_rfl) (of_decide_eq_true (by kernel_rfl)) fun f a0 => ?_
  simp (disch := omega) only [go_sem, Nat.reduceEqDiff, ↓reduceIte, Nat.reduceAdd, a0]
  refine callK_of (by kernel_rfl) (l91Grid_c rb B lim _ hr hB (by omega)) ?_
  rintro _ w1 ⟨a, c, rows, A, Cp, R, rfl, hR1, hR5, d, g1, rr⟩
  have s1 := g1.size
  have hn := d.len
  simp (disch := omega) only [go_sem, Nat.reduceEqDiff, ↓reduceIte, Nat.reduceAdd, a0]
  refine callK_of (by kernel_rfl) (pick_c rb B _ rows.length _ rr (by omega) (by omega)) ?_
  rintro _ w2 ⟨q, rfl, hq, g2, rr⟩
  have s2 := g2.size
  replace d := d.other g2 fun b hb => by simp at hb; omega
  have gw := g1.trans g2
  clear g1 g2
  simp (disch := omega) only [go_sem, Nat.reduceEqDiff, ↓reduceIte, Nat.reduceAdd, a0]
  refine callK_of (by kernel_rfl) (pick_c rb B _ 16 _ rr (by omega) (by omega)) ?_
  rintro _ w3 ⟨k, rfl, hk, g3, rr⟩
  have s3 := g3.size
  replace d := d.other g3 fun b hb => by simp at hb; omega
  replace gw := gw.trans g3
  by_cases hk0 : k = 0
  · subst hk0
    clear g3
    simp (disch := omega) only [go_sem, Nat.reduceEqDiff, ↓reduceIte, Int.natCast_zero, beq_self_eq_true]
    refine QR_sch (some rb) (.st 0 (.st 1 (.st 2 (.st 3 (.st 5 (.st 10 (.alt (.ef 4 (.alt (.ef 6 (.st 7 (.st 8 (.alt (.ef 9 (.ef 11 (.st 12 (.st 13 (.st 14 (.st 15 (.st 16 (.done)))))))) (.ef 11 (.st 14 (.st 15 (.ef 9 (.st 12 (.st 13 (.st 16 (.done)))))))))))) (.ef 9 (.ef 6 (.st 7 (.st 8 (.ef 11 (.st 12 (.st 13 (.st 14 (.st 15 (.st 16 (.done))))))))))))) (.alt (.ef 6 (.alt (.ef 4 (.st 7 (.st 8 (.alt (.ef 9 (.ef 11 (.st 12 (.st 13 (.st 14 (.st 15 (.st 16 (.done)))))))) (.ef 11 (.st 14 (.st 15 (.ef 9 (.st 12 (.st 13 (.st 16 (.done)))))))))))) (.alt (.ef 9 (.alt (.ef 4 (.st 7 (.st 8 (.ef 11 (.st 12 (.st 13 (.st 14 (.st 15 (.st 16 (.done)))))))))) (.ef 11 (.st 12 (.st 13 (.st 14 (.ef 4 (.st 7 (.st 8 (.st 15 (.st 16 (.done)))))))))))) (.ef 11 (.st 14 (.alt (.ef 4 (.st 7 (.st 8 (.st 15 (.ef 9 (.st 12 (.st 13 (.st 16 (.done))))))))) (.ef 9 (.st 12 (.st 13 (.ef 4 (.st 7 (.st 8 (.st 15 (.st 16 (.done))))))))))))))) (.ef 9 (.alt (.ef 4 (.ef 6 (.st 7 (.st 8 (.ef 11 (.st 12 (.st 13 (.st 14 (.st 15 (.st 16 (.done))))))))))) (.ef 6 (.alt (.ef 4 (.st 7 (.st 8 (.ef 11 (.st 12 (.st 13 (.st 14 (.st 15 (.st 16 (.done)))))))))) (.ef 11 (.st 12 (.st 13 (.st 14 (.ef 4 (.st 7 (.st 8 (.st 15 (.st 16 (.done)))))))))))))))))))))) (by kernel_rfl) (by kernel_rfl) fun w4 x4 => ?_
    have s4 := x4.size
    replace d := d.ext x4
    replace rr := rr.ext x4
    replace gw := gw.trans (x4.grow _)
    have val3 : ∀ {w : World} {b : Nat} (p : Nat), (p = 0 ∨ (p : Int) < 3) → Blk w b #[.int .i64 (-1), .int .i64 rows.length, .int .i64 q] 3 → ∃ y : Int, w.cell? ⟨b, p, none⟩ = some (.int .i64 y) ∧ -1 ≤ y ∧ y ≤ 1001 := fun p hp kb => by
      have : p = 0 ∨ p = 1 ∨ p = 2 := by omega
      rcases this with rfl | rfl | rfl <;> exact ⟨_, by rw [kb.cell]; rfl, by omega, by omega⟩
    have val2 : ∀ {w : World} {b : Nat} (p : Nat), (p = 0 ∨ (p : Int) < 2) → Blk w b #[.int .i64 (-1), .int .i64 7] 3 → ∃ y : Int, w.cell? ⟨b, p, none⟩ = some (.int .i64 y) ∧ -1 ≤ y ∧ y ≤ 1001 := fun p hp kb => by
      have : p = 0 ∨ p = 1 := by omega
      rcases this with rfl | rfl <;> exact ⟨_, by rw [kb.cell]; rfl, by omega, by omega⟩
    clear x4
    simp (disch := omega) only [go_sem, Nat.reduceEqDiff, ↓reduceIte, Nat.reduceAdd, a0]
    repeat' first
      | refine RLT_alt ?_ ?_ <;> try simp (disch := omega) only [go_sem, Nat.reduceEqDiff, ↓reduceIte, Nat.reduceAdd]
      | (refine bslK_n [.int .i64 (-1), .int .i64 rows.length, .int .i64 q] elt_i (by simp [Value.cells]) rfl (by omega) (by omega) rfl fun wx b3 e3 x k3 _ => nxE_of (x.grow _) ?_
         have sx := x.size
         replace d := d.ext x
         replace rr := rr.ext x
         replace gw := gw.trans (x.grow _)
         try replace k2 := k2.ext x
         clear x
         try (have hv3 := val3 _ hp3 k3; obtain ⟨y3, hy3, hy31, hy32⟩ := hv3)
         first | simp (disch := omega) only [go_sem, Nat.reduceEqDiff, ↓reduceIte, Nat.reduceAdd, hy3] | simp (disch := omega) only [go_sem, Nat.reduceEqDiff, ↓reduceIte, Nat.reduceAdd])
      | (refine bslK_n [.int .i64 (-1), .int .i64 7] elt_i (by simp [Value.cells]) rfl (by omega) (by omega) rfl fun wx b2 e2 x k2 _ => nxE_of (x.grow _) ?_
         have sx := x.size
         replace d := d.ext x
         replace rr := rr.ext x
         replace gw := gw.trans (x.grow _)
         try replace k3 := k3.ext x
         clear x
         try (have hv2 := val2 _ hp2 k2; obtain ⟨y2, hy2, hy21, hy22⟩ := hv2)
         first | simp (disch := omega) only [go_sem, Nat.reduceEqDiff, ↓reduceIte, Nat.reduceAdd, hy2] | simp (disch := omega) only [go_sem, Nat.reduceEqDiff, ↓reduceIte, Nat.reduceAdd])
      | (refine callK_of (by kernel_rfl) (pick_c rb B _ _ _ rr (by omega) (by omega)) ?_
         rintro _ wx ⟨px, rfl, hpx, gx, rx⟩
         refine nxE_of gx ?_
         have sx := gx.size
         replace rr := rx
         replace d := d.other gx fun b hb => by simp at hb; omega
         replace gw := gw.trans gx
         try replace k3 := gx.blk k3 (by simp; omega)
         try replace k2 := gx.blk k2 (by simp; omega)
         clear gx rx
         first
           | (have hp3 : px = 0 ∨ (px : Int) < 3 := hpx
              clear hpx
              try (have hv3 := val3 _ hp3 k3; obtain ⟨y3, hy3, hy31, hy32⟩ := hv3)
              first | simp (disch := omega) only [go_sem, Nat.reduceEqDiff, ↓reduceIte, Nat.reduceAdd, hy3] | simp (disch := omega) only [go_sem, Nat.reduceEqDiff, ↓reduceIte, Nat.reduceAdd])
           | (have hp2 : px = 0 ∨ (px : Int) < 2 := hpx
              clear hpx
              try (have hv2 := val2 _ hp2 k2; obtain ⟨y2, hy2, hy21, hy22⟩ := hv2)
              first | simp (disch := omega) only [go_sem, Nat.reduceEqDiff, ↓reduceIte, Nat.reduceAdd, hy2] | simp (disch := omega) only [go_sem, Nat.reduceEqDiff, ↓reduceIte, Nat.reduceAdd]))
      | (simp only [go_sem, Tryz.results46]
         exact ⟨a, c, rows, A, Cp, R, y3, y2, rfl, hR1, hR5, ⟨hy31, hy32, hy21, hy22⟩, d, gw, rr.le (by omega)⟩)
      | exact ⟨a, c, rows, A, Cp, R, y3, y2, rfl, hR1, hR5, ⟨hy31, hy32, hy21, hy22⟩, d, gw, rr.le (by omega)⟩
  · have ne0 : ((k : Int) == 0) = false := by simp [hk0]
    obtain ⟨xs, ox, hxs⟩ := d.b.top
    obtain ⟨ob, rfl⟩ := ox.some (by omega)
    have hl0 := d.row _ (getD_mem (d := []) (show 0 < rows.length by omega))
    have c0 : w3.cell? ⟨ob, 0, none⟩ = some (.slice (A 0) (rows.getD 0 []).length (Cp 0)) := by rw [ox.cell (by omega), hxs 0 (by omega)]
    simp (disch := omega) only [go_sem, Nat.reduceEqDiff, ↓reduceIte, Nat.reduceAdd, ne0, a0, c0]
    refine callK_of (by kernel_rfl) (pick_c rb B _ (rows.getD 0 []).length _ rr (by omega) (by omega)) ?_
    rintro _ w4 ⟨j, rfl, hj, g4, rr⟩
    simp (disch := omega) only [go_sem, Nat.reduceEqDiff, ↓reduceIte, Nat.reduceAdd, Tryz.results46]
    exact ⟨_, c, rows, A, Cp, R, _, _, rfl, hR1, hR5, ⟨by omega, by omega, by omega, by omega⟩, d.other g4 (fun b hb => by simp at hb; omega), gw.trans g4, rr.le (by omega)⟩

end Go.Proofs.YtgdopjkanibfeaaGreatDoor
