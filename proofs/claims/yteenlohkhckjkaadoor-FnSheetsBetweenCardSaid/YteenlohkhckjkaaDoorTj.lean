/- What the laws of sheets draw. -/
import Derived.Test.YteenlohkhckjkaaDoorTi
set_option linter.all false
set_option maxRecDepth 20000
namespace Go.Proofs.YteenlohkhckjkaaDoor
open Go.RowKit Go.SW

theorem vi_cell {w : World} {b : Nat} {l : List Int} {T : TypeId} (k : Blk w b (vi l).toArray T) {i : Nat} (h : i < l.length) : w.cell? ⟨b, i, none⟩ = some (.int .i64 (l.getD i 0)) := by
  rw [k.cell, List.getElem?_toArray, vi_get l i h]
theorem vst_cell {w : World} {b : Nat} {l : List (List UInt8)} {T : TypeId} (k : Blk w b (vst l).toArray T) {i : Nat} (h : i < l.length) : w.cell? ⟨b, i, none⟩ = some (.string (bs (l.getD i []))) := by
  rw [k.cell, List.getElem?_toArray, vst_get l i h]

theorem of_c (rb B lim b : Nat) (L : List (List UInt8)) (w : World) (hr : Rdr w rb B lim) (hl : lim ≤ 1000000) (k : Blk w b (vst L).toArray 9) (h1 : 1 ≤ L.length) (h2 : L.length ≤ 1000) (hb : rb ≠ b) :
    Ret Tryd.prog 60 #[.pointer (some ⟨rb, 0, none⟩), .slice (some ⟨b, 0, none⟩) L.length L.length] w fun v w' => ∃ l, l ∈ L ∧ v = .string (bs l) ∧ Grow (some rb) w w' ∧ Rdr w' rb B (lim + 1) := by
  refine enter2 Tryd.func60 rfl (by kernel_rfl) (of_decide_eq_true (by kernel_rfl)) fun f a0 a1 => ?_
  simp (disch := omega) only [go_sem, Nat.reduceEqDiff, ↓reduceIte, Nat.reduceAdd, a0, a1]
  refine callK_of (by kernel_rfl) (pick_c rb B lim L.length _ hr (by omega) (by omega)) ?_
  rintro _ w1 ⟨p, rfl, hp, g1, r1⟩
  have hp' : p < L.length := by omega
  have hc := vst_cell (g1.blk k (by simpa using hb)) hp'
  simp (disch := omega) only [go_sem, Nat.reduceEqDiff, ↓reduceIte, Nat.reduceAdd, hc, Tryd.results60]
  exact ⟨_, getD_mem hp', rfl, g1, r1⟩

def lists9 : List (List UInt8) := [[], [65], [65, 48], [65, 50, 55], [67, 48, 49, 50], [99, 49, 50], [90, 50, 54], [65, 49], [65, 65]]
def ends9 : List (List UInt8) := [[97, 97], [97, 98], [99, 100], [100, 100], [98, 97], [97], [], [97, 101], [97, 98, 99]]

theorem l92Sheet_c (rb B lim : Nat) (w : World) (hr : Rdr w rb B lim) (hB : B ≤ w.heap.size) (hl : lim ≤ 1000) :
    Ret Tryd.prog 53 #[.pointer (some ⟨rb, 0, none⟩)] w fun v w' => ∃ l : List UInt8, v = .string (bs l) ∧ l.length ≤ 40 ∧ Grow (some rb) w w' ∧ Rdr w' rb B (lim + 3) := by
  have hrb := hr.below
  refine enter1 Tryd.func53 rfl (by kernel_rfl) (of_decide_eq_true (by kernel_rfl)) fun f a0 => ?_
  simp (disch := omega) only [go_sem, Nat.reduceEqDiff, ↓reduceIte, Nat.reduceAdd, a0]
  refine callK_of (by kernel_rfl) (pick_c rb B lim 12 _ hr (by omega) (by omega)) ?_
  rintro _ w1 ⟨p, rfl, hp, g1, r1⟩
  have s1 := g1.size
  by_cases h0 : p = 0
  · have e : ((p : Int) == 0) = true := by rw [h0]; rfl
    simp (disch := omega) only [go_sem, Nat.reduceEqDiff, ↓reduceIte, Nat.reduceAdd, e, a0]
    refine bslK_n (vst lists9) elt_s (by simp [vst, lists9, Value.cells]) rfl (by omega) (by omega) rfl fun w2 b2 e2 x2 k2 _ => ?_
    simp (disch := omega) only [go_sem, Nat.reduceEqDiff, ↓reduceIte, Nat.reduceAdd]
    refine callK_of (by kernel_rfl) (of_c rb B _ b2 lists9 _ (r1.ext x2) (by omega) k2 (by decide) (by decide) (by omega)) ?_
    rintro _ w3 ⟨l, hl', rfl, g3, r3⟩
    simp (disch := omega) only [go_sem, Nat.reduceEqDiff, ↓reduceIte, Nat.reduceAdd, Tryd.results53]
    refine ⟨l, rfl, ?_, (g1.trans (x2.grow _)).trans g3, r3.le (by omega)⟩
    have : ∀ l ∈ lists9, l.length ≤ 40 := by decide
    exact this l hl'
  · have e : ((p : Int) == 0) = false := by simp [h0]
    simp (disch := omega) only [go_sem, Nat.reduceEqDiff, ↓reduceIte, Nat.reduceAdd, e, a0]
    refine callK_of (by kernel_rfl) (pick_c rb B _ 26 _ r1 (by omega) (by omega)) ?_
    rintro _ w2 ⟨c, rfl, hc, g2, r2⟩
    simp (disch := omega) only [go_sem, Nat.reduceEqDiff, ↓reduceIte, Nat.reduceAdd, a0]
    refine callK_of (by kernel_rfl) (pick_c rb B _ 26 _ r2 (by omega) (by omega)) ?_
    rintro _ w3 ⟨r, rfl, hr', g3, r3⟩
    simp (disch := omega) only [go_sem, Nat.reduceEqDiff, ↓reduceIte, Nat.reduceAdd]
    refine callK_pure (by kernel_rfl) (l7Name_c c r (by omega) (by omega) _) fun w4 x4 => ?_
    simp (disch := omega) only [go_sem, Nat.reduceEqDiff, ↓reduceIte, Nat.reduceAdd, Tryd.results53]
    refine ⟨_, rfl, ?_, ((g1.trans g2).trans g3).trans (x4.grow _), (r3.ext x4).le (by omega)⟩
    have := sname_len c r
    omega

def xs4 : List Int := [-1, 104, 103, 0]
def ys3 : List Int := [0, 103, 104]
def big3 : List Int := [9223372036854775807, -9223372036854775808, 26]
theorem xs4_ok : ∀ i, i < 4 → -1 ≤ xs4.getD i 0 ∧ xs4.getD i 0 ≤ 104 := by decide
theorem ys3_ok : ∀ i, i < 3 → -1 ≤ ys3.getD i 0 ∧ ys3.getD i 0 ≤ 104 := by decide
theorem big3_ok : ∀ i, i < 3 → -9223372036854775808 ≤ big3.getD i 0 ∧ big3.getD i 0 ≤ 9223372036854775807 := by decide

theorem l92Place_c (rb B lim : Nat) (w : World) (hr : Rdr w rb B lim) (hB : B ≤ w.heap.size) (hl : lim ≤ 1000) :
    Ret Tryd.prog 56 #[.pointer (some ⟨rb, 0, none⟩)] w fun v w' => ∃ x y : Int, v = .tuple #[.int .i64 x, .int .i64 y] ∧ (-1 ≤ x ∧ x ≤ 104) ∧ (-1 ≤ y ∧ y ≤ 104) ∧ Grow (some rb) w w' ∧ Rdr w' rb B (lim + 3) := by
  have hrb := hr.below
  refine enter1 Tryd.func56 rfl (by kernel_rfl) (of_decide_eq_true (by kernel_rfl)) fun f a0 => ?_
  simp (disch := omega) only [go_sem, Nat.reduceEqDiff, ↓reduceIte, Nat.reduceAdd, a0]
  refine callK_of (by kernel_rfl) (pick_c rb B lim 16 _ hr (by omega) (by omega)) ?_
  rintro _ w1 ⟨p, rfl, hp, g1, r⟩
  have s1 := g1.size
  by_cases h0 : p = 0
  · have e : ((p : Int) == 0) = true := by rw [h0]; rfl
    have cz4 : ∀ {w : World} {b : Nat} (i : Nat), Blk w b (vi xs4).toArray 3 → i < 4 → w.cell? ⟨b, i, none⟩ = some (.int .i64 (xs4.getD i 0)) := fun i k h => vi_cell k h
    have cz3 : ∀ {w : World} {b : Nat} (i : Nat), Blk w b (vi ys3).toArray 3 → i < 3 → w.cell? ⟨b, i, none⟩ = some (.int .i64 (ys3.getD i 0)) := fun i k h => vi_cell k h
    simp (disch := omega) only [go_sem, Nat.reduceEqDiff, ↓reduceIte, Nat.reduceAdd, e]
    refine QR_sch (some rb) (.st 1 (.st 6 (.alt (.ef 0 (.alt (.ef 2 (.st 3 (.st 4 (.alt (.ef 5 (.ef 7 (.st 8 (.st 9 (.st 10 (.st 11 (.done))))))) (.ef 7 (.st 10 (.ef 5 (.st 8 (.st 9 (.st 11 (.done))))))))))) (.ef 5 (.ef 2 (.st 3 (.st 4 (.ef 7 (.st 8 (.st 9 (.st 10 (.st 11 (.done)))))))))))) (.alt (.ef 2 (.alt (.ef 0 (.st 3 (.st 4 (.alt (.ef 5 (.ef 7 (.st 8 (.st 9 (.st 10 (.st 11 (.done))))))) (.ef 7 (.st 10 (.ef 5 (.st 8 (.st 9 (.st 11 (.done))))))))))) (.alt (.ef 5 (.alt (.ef 0 (.st 3 (.st 4 (.ef 7 (.st 8 (.st 9 (.st 10 (.st 11 (.done))))))))) (.ef 7 (.st 8 (.st 9 (.ef 0 (.st 3 (.st 4 (.st 10 (.st 11 (.done))))))))))) (.ef 7 (.alt (.ef 0 (.st 3 (.st 4 (.st 10 (.ef 5 (.st 8 (.st 9 (.st 11 (.done))))))))) (.ef 5 (.st 8 (.st 9 (.ef 0 (.st 3 (.st 4 (.st 10 (.st 11 (.done)))))))))))))) (.ef 5 (.alt (.ef 0 (.ef 2 (.st 3 (.st 4 (.ef 7 (.st 8 (.st 9 (.st 10 (.st 11 (.done)))))))))) (.ef 2 (.alt (.ef 0 (.st 3 (.st 4 (.ef 7 (.st 8 (.st 9 (.st 10 (.st 11 (.done))))))))) (.ef 7 (.st 8 (.st 9 (.ef 0 (.st 3 (.st 4 (.st 10 (.st 11 (.done))))))))))))))))) (by kernel_rfl) (by kernel_rfl) fun w0 x0 => ?_
    have X := g1.trans (x0.grow _)
    have sz := x0.size
    have r := r.ext x0
    try simp (disch := first | assumption | omega) only [go_sem, Nat.reduceEqDiff, ↓reduceIte, Nat.reduceAdd, a0, cz4, cz3]
    refine RLT_alt ?_ ?_
    · try simp (disch := first | assumption | omega) only [go_sem, Nat.reduceEqDiff, ↓reduceIte, Nat.reduceAdd, a0, cz4, cz3]
      refine bslK_n (vi xs4) elt_i (by simp [vi, xs4, Value.cells]) rfl (by omega) (by omega) rfl fun w1 b4 e4 y1 k4 _ => ?_
      have sz := y1.size
      refine nxE_of (y1.grow _) ?_
      have X := X.trans (y1.grow _)
      have r := r.ext y1
      try simp (disch := first | assumption | omega) only [go_sem, Nat.reduceEqDiff, ↓reduceIte, Nat.reduceAdd, a0, cz4, cz3]
      refine RLT_alt ?_ ?_
      · try simp (disch := first | assumption | omega) only [go_sem, Nat.reduceEqDiff, ↓reduceIte, Nat.reduceAdd, a0, cz4, cz3]
        refine callK_of (by kernel_rfl) (pick_c rb B _ 4 _ r (by omega) (by omega)) ?_
        rintro _ w1 ⟨p4, rfl, hp4, gg, r⟩
        have sz := gg.size
        refine nxE_of (gg) ?_
        have X := X.trans gg
        have k4 := gg.blk k4 (by simp; omega)
        try simp (disch := first | assumption | omega) only [go_sem, Nat.reduceEqDiff, ↓reduceIte, Nat.reduceAdd, a0, cz4, cz3]
        refine RLT_alt ?_ ?_
        · try simp (disch := first | assumption | omega) only [go_sem, Nat.reduceEqDiff, ↓reduceIte, Nat.reduceAdd, a0, cz4, cz3]
          refine bslK_n (vi ys3) elt_i (by simp [vi, ys3, Value.cells]) rfl (by omega) (by omega) rfl fun w1 b3 e3 y1 k3 _ => ?_
          have sz := y1.size
          refine nxE_of (y1.grow _) ?_
          have X := X.trans (y1.grow _)
          have k4 := k4.ext y1
          have r := r.ext y1
          try simp (disch := first | assumption | omega) only [go_sem, Nat.reduceEqDiff, ↓reduceIte, Nat.reduceAdd, a0, cz4, cz3]
          refine callK_of (by kernel_rfl) (pick_c rb B _ 3 _ r (by omega) (by omega)) ?_
          rintro _ w1 ⟨p3, rfl, hp3, gg, r⟩
          have sz := gg.size
          refine nxE_of (gg) ?_
          have X := X.trans gg
          have k4 := gg.blk k4 (by simp; omega)
          have k3 := gg.blk k3 (by simp; omega)
          simp (disch := first | assumption | omega) only [go_sem, Nat.reduceEqDiff, ↓reduceIte, Nat.reduceAdd, a0, cz4, cz3, Tryd.results56]
          exact ⟨_, _, rfl, xs4_ok _ (by omega), ys3_ok _ (by omega), X, r.le (by omega)⟩
        · try simp (disch := first | assumption | omega) only [go_sem, Nat.reduceEqDiff, ↓reduceIte, Nat.reduceAdd, a0, cz4, cz3]
          refine callK_of (by kernel_rfl) (pick_c rb B _ 3 _ r (by omega) (by omega)) ?_
          rintro _ w1 ⟨p3, rfl, hp3, gg, r⟩
          have sz := gg.size
          refine nxE_of (gg) ?_
          have X := X.trans gg
          have k4 := gg.blk k4 (by simp; omega)
          try simp (disch := first | assumption | omega) only [go_sem, Nat.reduceEqDiff, ↓reduceIte, Nat.reduceAdd, a0, cz4, cz3]
          refine bslK_n (vi ys3) elt_i (by simp [vi, ys3, Value.cells]) rfl (by omega) (by omega) rfl fun w1 b3 e3 y1 k3 _ => ?_
          have sz := y1.size
          refine nxE_of (y1.grow _) ?_
          have X := X.trans (y1.grow _)
          have k4 := k4.ext y1
          have r := r.ext y1
          simp (disch := first | assumption | omega) only [go_sem, Nat.reduceEqDiff, ↓reduceIte, Nat.reduceAdd, a0, cz4, cz3, Tryd.results56]
          exact ⟨_, _, rfl, xs4_ok _ (by omega), ys3_ok _ (by omega), X, r.le (by omega)⟩
      · try simp (disch := first | assumption | omega) only [go_sem, Nat.reduceEqDiff, ↓reduceIte, Nat.reduceAdd, a0, cz4, cz3]
        refine bslK_n (vi ys3) elt_i (by simp [vi, ys3, Value.cells]) rfl (by omega) (by omega) rfl fun w1 b3 e3 y1 k3 _ => ?_
        have sz := y1.size
        refine nxE_of (y1.grow _) ?_
        have X := X.trans (y1.grow _)
        have r := r.ext y1
        have k4 := k4.ext y1
        try simp (disch := first | assumption | omega) only [go_sem, Nat.reduceEqDiff, ↓reduceIte, Nat.reduceAdd, a0, cz4, cz3]
        refine callK_of (by kernel_rfl) (pick_c rb B _ 4 _ r (by omega) (by omega)) ?_
        rintro _ w1 ⟨p4, rfl, hp4, gg, r⟩
        have sz := gg.size
        refine nxE_of (gg) ?_
        have X := X.trans gg
        have k4 := gg.blk k4 (by simp; omega)
        have k3 := gg.blk k3 (by simp; omega)
        try simp (disch := first | assumption | omega) only [go_sem, Nat.reduceEqDiff, ↓reduceIte, Nat.reduceAdd, a0, cz4, cz3]
        refine callK_of (by kernel_rfl) (pick_c rb B _ 3 _ r (by omega) (by omega)) ?_
        rintro _ w1 ⟨p3, rfl, hp3, gg, r⟩
        have sz := gg.size
        refine nxE_of (gg) ?_
        have X := X.trans gg
        have k4 := gg.blk k4 (by simp; omega)
        have k3 := gg.blk k3 (by simp; omega)
        simp (disch := first | assumption | omega) only [go_sem, Nat.reduceEqDiff, ↓reduceIte, Nat.reduceAdd, a0, cz4, cz3, Tryd.results56]
        exact ⟨_, _, rfl, xs4_ok _ (by omega), ys3_ok _ (by omega), X, r.le (by omega)⟩
    · try simp (disch := first | assumption | omega) only [go_sem, Nat.reduceEqDiff, ↓reduceIte, Nat.reduceAdd, a0, cz4, cz3]
      refine RLT_alt ?_ ?_
      · try simp (disch := first | assumption | omega) only [go_sem, Nat.reduceEqDiff, ↓reduceIte, Nat.reduceAdd, a0, cz4, cz3]
        refine callK_of (by kernel_rfl) (pick_c rb B _ 4 _ r (by omega) (by omega)) ?_
        rintro _ w1 ⟨p4, rfl, hp4, gg, r⟩
        have sz := gg.size
        refine nxE_of (gg) ?_
        have X := X.trans gg
        try simp (disch := first | assumption | omega) only [go_sem, Nat.reduceEqDiff, ↓reduceIte, Nat.reduceAdd, a0, cz4, cz3]
        refine RLT_alt ?_ ?_
        · try simp (disch := first | assumption | omega) only [go_sem, Nat.reduceEqDiff, ↓reduceIte, Nat.reduceAdd, a0, cz4, cz3]
          refine bslK_n (vi xs4) elt_i (by simp [vi, xs4, Value.cells]) rfl (by omega) (by omega) rfl fun w1 b4 e4 y1 k4 _ => ?_
          have sz := y1.size
          refine nxE_of (y1.grow _) ?_
          have X := X.trans (y1.grow _)
          have r := r.ext y1
          try simp (disch := first | assumption | omega) only [go_sem, Nat.reduceEqDiff, ↓reduceIte, Nat.reduceAdd, a0, cz4, cz3]
          refine RLT_alt ?_ ?_
          · try simp (disch := first | assumption | omega) only [go_sem, Nat.reduceEqDiff, ↓reduceIte, Nat.reduceAdd, a0, cz4, cz3]
            refine bslK_n (vi ys3) elt_i (by simp [vi, ys3, Value.cells]) rfl (by omega) (by omega) rfl fun w1 b3 e3 y1 k3 _ => ?_
            have sz := y1.size
            refine nxE_of (y1.grow _) ?_
            have X := X.trans (y1.grow _)
            have r := r.ext y1
            have k4 := k4.ext y1
            try simp (disch := first | assumption | omega) only [go_sem, Nat.reduceEqDiff, ↓reduceIte, Nat.reduceAdd, a0, cz4, cz3]
            refine callK_of (by kernel_rfl) (pick_c rb B _ 3 _ r (by omega) (by omega)) ?_
            rintro _ w1 ⟨p3, rfl, hp3, gg, r⟩
            have sz := gg.size
            refine nxE_of (gg) ?_
            have X := X.trans gg
            have k4 := gg.blk k4 (by simp; omega)
            have k3 := gg.blk k3 (by simp; omega)
            simp (disch := first | assumption | omega) only [go_sem, Nat.reduceEqDiff, ↓reduceIte, Nat.reduceAdd, a0, cz4, cz3, Tryd.results56]
            exact ⟨_, _, rfl, xs4_ok _ (by omega), ys3_ok _ (by omega), X, r.le (by omega)⟩
          · try simp (disch := first | assumption | omega) only [go_sem, Nat.reduceEqDiff, ↓reduceIte, Nat.reduceAdd, a0, cz4, cz3]
            refine callK_of (by kernel_rfl) (pick_c rb B _ 3 _ r (by omega) (by omega)) ?_
            rintro _ w1 ⟨p3, rfl, hp3, gg, r⟩
            have sz := gg.size
            refine nxE_of (gg) ?_
            have X := X.trans gg
            have k4 := gg.blk k4 (by simp; omega)
            try simp (disch := first | assumption | omega) only [go_sem, Nat.reduceEqDiff, ↓reduceIte, Nat.reduceAdd, a0, cz4, cz3]
            refine bslK_n (vi ys3) elt_i (by simp [vi, ys3, Value.cells]) rfl (by omega) (by omega) rfl fun w1 b3 e3 y1 k3 _ => ?_
            have sz := y1.size
            refine nxE_of (y1.grow _) ?_
            have X := X.trans (y1.grow _)
            have k4 := k4.ext y1
            have r := r.ext y1
            simp (disch := first | assumption | omega) only [go_sem, Nat.reduceEqDiff, ↓reduceIte, Nat.reduceAdd, a0, cz4, cz3, Tryd.results56]
            exact ⟨_, _, rfl, xs4_ok _ (by omega), ys3_ok _ (by omega), X, r.le (by omega)⟩
        · try simp (disch := first | assumption | omega) only [go_sem, Nat.reduceEqDiff, ↓reduceIte, Nat.reduceAdd, a0, cz4, cz3]
          refine RLT_alt ?_ ?_
          · try simp (disch := first | assumption | omega) only [go_sem, Nat.reduceEqDiff, ↓reduceIte, Nat.reduceAdd, a0, cz4, cz3]
            refine bslK_n (vi ys3) elt_i (by simp [vi, ys3, Value.cells]) rfl (by omega) (by omega) rfl fun w1 b3 e3 y1 k3 _ => ?_
            have sz := y1.size
            refine nxE_of (y1.grow _) ?_
            have X := X.trans (y1.grow _)
            have r := r.ext y1
            try simp (disch := first | assumption | omega) only [go_sem, Nat.reduceEqDiff, ↓reduceIte, Nat.reduceAdd, a0, cz4, cz3]
            refine RLT_alt ?_ ?_
            · try simp (disch := first | assumption | omega) only [go_sem, Nat.reduceEqDiff, ↓reduceIte, Nat.reduceAdd, a0, cz4, cz3]
              refine bslK_n (vi xs4) elt_i (by simp [vi, xs4, Value.cells]) rfl (by omega) (by omega) rfl fun w1 b4 e4 y1 k4 _ => ?_
              have sz := y1.size
              refine nxE_of (y1.grow _) ?_
              have X := X.trans (y1.grow _)
              have r := r.ext y1
              have k3 := k3.ext y1
              try simp (disch := first | assumption | omega) only [go_sem, Nat.reduceEqDiff, ↓reduceIte, Nat.reduceAdd, a0, cz4, cz3]
              refine callK_of (by kernel_rfl) (pick_c rb B _ 3 _ r (by omega) (by omega)) ?_
              rintro _ w1 ⟨p3, rfl, hp3, gg, r⟩
              have sz := gg.size
              refine nxE_of (gg) ?_
              have X := X.trans gg
              have k3 := gg.blk k3 (by simp; omega)
              have k4 := gg.blk k4 (by simp; omega)
              simp (disch := first | assumption | omega) only [go_sem, Nat.reduceEqDiff, ↓reduceIte, Nat.reduceAdd, a0, cz4, cz3, Tryd.results56]
              exact ⟨_, _, rfl, xs4_ok _ (by omega), ys3_ok _ (by omega), X, r.le (by omega)⟩
            · try simp (disch := first | assumption | omega) only [go_sem, Nat.reduceEqDiff, ↓reduceIte, Nat.reduceAdd, a0, cz4, cz3]
              refine callK_of (by kernel_rfl) (pick_c rb B _ 3 _ r (by omega) (by omega)) ?_
              rintro _ w1 ⟨p3, rfl, hp3, gg, r⟩
              have sz := gg.size
              refine nxE_of (gg) ?_
              have X := X.trans gg
              have k3 := gg.blk k3 (by simp; omega)
              try simp (disch := first | assumption | omega) only [go_sem, Nat.reduceEqDiff, ↓reduceIte, Nat.reduceAdd, a0, cz4, cz3]
              refine bslK_n (vi xs4) elt_i (by simp [vi, xs4, Value.cells]) rfl (by omega) (by omega) rfl fun w1 b4 e4 y1 k4 _ => ?_
              have sz := y1.size
              refine nxE_of (y1.grow _) ?_
              have X := X.trans (y1.grow _)
              have k3 := k3.ext y1
              have r := r.ext y1
              simp (disch := first | assumption | omega) only [go_sem, Nat.reduceEqDiff, ↓reduceIte, Nat.reduceAdd, a0, cz4, cz3, Tryd.results56]
              exact ⟨_, _, rfl, xs4_ok _ (by omega), ys3_ok _ (by omega), X, r.le (by omega)⟩
          · try simp (disch := first | assumption | omega) only [go_sem, Nat.reduceEqDiff, ↓reduceIte, Nat.reduceAdd, a0, cz4, cz3]
            refine callK_of (by kernel_rfl) (pick_c rb B _ 3 _ r (by omega) (by omega)) ?_
            rintro _ w1 ⟨p3, rfl, hp3, gg, r⟩
            have sz := gg.size
            refine nxE_of (gg) ?_
            have X := X.trans gg
            try simp (disch := first | assumption | omega) only [go_sem, Nat.reduceEqDiff, ↓reduceIte, Nat.reduceAdd, a0, cz4, cz3]
            refine RLT_alt ?_ ?_
            · try simp (disch := first | assumption | omega) only [go_sem, Nat.reduceEqDiff, ↓reduceIte, Nat.reduceAdd, a0, cz4, cz3]
              refine bslK_n (vi xs4) elt_i (by simp [vi, xs4, Value.cells]) rfl (by omega) (by omega) rfl fun w1 b4 e4 y1 k4 _ => ?_
              have sz := y1.size
              refine nxE_of (y1.grow _) ?_
              have X := X.trans (y1.grow _)
              have r := r.ext y1
              try simp (disch := first | assumption | omega) only [go_sem, Nat.reduceEqDiff, ↓reduceIte, Nat.reduceAdd, a0, cz4, cz3]
              refine bslK_n (vi ys3) elt_i (by simp [vi, ys3, Value.cells]) rfl (by omega) (by omega) rfl fun w1 b3 e3 y1 k3 _ => ?_
              have sz := y1.size
              refine nxE_of (y1.grow _) ?_
              have X := X.trans (y1.grow _)
              have r := r.ext y1
              have k4 := k4.ext y1
              simp (disch := first | assumption | omega) only [go_sem, Nat.reduceEqDiff, ↓reduceIte, Nat.reduceAdd, a0, cz4, cz3, Tryd.results56]
              exact ⟨_, _, rfl, xs4_ok _ (by omega), ys3_ok _ (by omega), X, r.le (by omega)⟩
            · try simp (disch := first | assumption | omega) only [go_sem, Nat.reduceEqDiff, ↓reduceIte, Nat.reduceAdd, a0, cz4, cz3]
              refine bslK_n (vi ys3) elt_i (by simp [vi, ys3, Value.cells]) rfl (by omega) (by omega) rfl fun w1 b3 e3 y1 k3 _ => ?_
              have sz := y1.size
              refine nxE_of (y1.grow _) ?_
              have X := X.trans (y1.grow _)
              have r := r.ext y1
              try simp (disch := first | assumption | omega) only [go_sem, Nat.reduceEqDiff, ↓reduceIte, Nat.reduceAdd, a0, cz4, cz3]
              refine bslK_n (vi xs4) elt_i (by simp [vi, xs4, Value.cells]) rfl (by omega) (by omega) rfl fun w1 b4 e4 y1 k4 _ => ?_
              have sz := y1.size
              refine nxE_of (y1.grow _) ?_
              have X := X.trans (y1.grow _)
              have r := r.ext y1
              have k3 := k3.ext y1
              simp (disch := first | assumption | omega) only [go_sem, Nat.reduceEqDiff, ↓reduceIte, Nat.reduceAdd, a0, cz4, cz3, Tryd.results56]
              exact ⟨_, _, rfl, xs4_ok _ (by omega), ys3_ok _ (by omega), X, r.le (by omega)⟩
      · try simp (disch := first | assumption | omega) only [go_sem, Nat.reduceEqDiff, ↓reduceIte, Nat.reduceAdd, a0, cz4, cz3]
        refine bslK_n (vi ys3) elt_i (by simp [vi, ys3, Value.cells]) rfl (by omega) (by omega) rfl fun w1 b3 e3 y1 k3 _ => ?_
        have sz := y1.size
        refine nxE_of (y1.grow _) ?_
        have X := X.trans (y1.grow _)
        have r := r.ext y1
        try simp (disch := first | assumption | omega) only [go_sem, Nat.reduceEqDiff, ↓reduceIte, Nat.reduceAdd, a0, cz4, cz3]
        refine RLT_alt ?_ ?_
        · try simp (disch := first | assumption | omega) only [go_sem, Nat.reduceEqDiff, ↓reduceIte, Nat.reduceAdd, a0, cz4, cz3]
          refine bslK_n (vi xs4) elt_i (by simp [vi, xs4, Value.cells]) rfl (by omega) (by omega) rfl fun w1 b4 e4 y1 k4 _ => ?_
          have sz := y1.size
          refine nxE_of (y1.grow _) ?_
          have X := X.trans (y1.grow _)
          have r := r.ext y1
          have k3 := k3.ext y1
          try simp (disch := first | assumption | omega) only [go_sem, Nat.reduceEqDiff, ↓reduceIte, Nat.reduceAdd, a0, cz4, cz3]
          refine callK_of (by kernel_rfl) (pick_c rb B _ 4 _ r (by omega) (by omega)) ?_
          rintro _ w1 ⟨p4, rfl, hp4, gg, r⟩
          have sz := gg.size
          refine nxE_of (gg) ?_
          have X := X.trans gg
          have k3 := gg.blk k3 (by simp; omega)
          have k4 := gg.blk k4 (by simp; omega)
          try simp (disch := first | assumption | omega) only [go_sem, Nat.reduceEqDiff, ↓reduceIte, Nat.reduceAdd, a0, cz4, cz3]
          refine callK_of (by kernel_rfl) (pick_c rb B _ 3 _ r (by omega) (by omega)) ?_
          rintro _ w1 ⟨p3, rfl, hp3, gg, r⟩
          have sz := gg.size
          refine nxE_of (gg) ?_
          have X := X.trans gg
          have k3 := gg.blk k3 (by simp; omega)
          have k4 := gg.blk k4 (by simp; omega)
          simp (disch := first | assumption | omega) only [go_sem, Nat.reduceEqDiff, ↓reduceIte, Nat.reduceAdd, a0, cz4, cz3, Tryd.results56]
          exact ⟨_, _, rfl, xs4_ok _ (by omega), ys3_ok _ (by omega), X, r.le (by omega)⟩
        · try simp (disch := first | assumption | omega) only [go_sem, Nat.reduceEqDiff, ↓reduceIte, Nat.reduceAdd, a0, cz4, cz3]
          refine callK_of (by kernel_rfl) (pick_c rb B _ 4 _ r (by omega) (by omega)) ?_
          rintro _ w1 ⟨p4, rfl, hp4, gg, r⟩
          have sz := gg.size
          refine nxE_of (gg) ?_
          have X := X.trans gg
          have k3 := gg.blk k3 (by simp; omega)
          try simp (disch := first | assumption | omega) only [go_sem, Nat.reduceEqDiff, ↓reduceIte, Nat.reduceAdd, a0, cz4, cz3]
          refine RLT_alt ?_ ?_
          · try simp (disch := first | assumption | omega) only [go_sem, Nat.reduceEqDiff, ↓reduceIte, Nat.reduceAdd, a0, cz4, cz3]
            refine bslK_n (vi xs4) elt_i (by simp [vi, xs4, Value.cells]) rfl (by omega) (by omega) rfl fun w1 b4 e4 y1 k4 _ => ?_
            have sz := y1.size
            refine nxE_of (y1.grow _) ?_
            have X := X.trans (y1.grow _)
            have k3 := k3.ext y1
            have r := r.ext y1
            try simp (disch := first | assumption | omega) only [go_sem, Nat.reduceEqDiff, ↓reduceIte, Nat.reduceAdd, a0, cz4, cz3]
            refine callK_of (by kernel_rfl) (pick_c rb B _ 3 _ r (by omega) (by omega)) ?_
            rintro _ w1 ⟨p3, rfl, hp3, gg, r⟩
            have sz := gg.size
            refine nxE_of (gg) ?_
            have X := X.trans gg
            have k3 := gg.blk k3 (by simp; omega)
            have k4 := gg.blk k4 (by simp; omega)
            simp (disch := first | assumption | omega) only [go_sem, Nat.reduceEqDiff, ↓reduceIte, Nat.reduceAdd, a0, cz4, cz3, Tryd.results56]
            exact ⟨_, _, rfl, xs4_ok _ (by omega), ys3_ok _ (by omega), X, r.le (by omega)⟩
          · try simp (disch := first | assumption | omega) only [go_sem, Nat.reduceEqDiff, ↓reduceIte, Nat.reduceAdd, a0, cz4, cz3]
            refine callK_of (by kernel_rfl) (pick_c rb B _ 3 _ r (by omega) (by omega)) ?_
            rintro _ w1 ⟨p3, rfl, hp3, gg, r⟩
            have sz := gg.size
            refine nxE_of (gg) ?_
            have X := X.trans gg
            have k3 := gg.blk k3 (by simp; omega)
            try simp (disch := first | assumption | omega) only [go_sem, Nat.reduceEqDiff, ↓reduceIte, Nat.reduceAdd, a0, cz4, cz3]
            refine bslK_n (vi xs4) elt_i (by simp [vi, xs4, Value.cells]) rfl (by omega) (by omega) rfl fun w1 b4 e4 y1 k4 _ => ?_
            have sz := y1.size
            refine nxE_of (y1.grow _) ?_
            have X := X.trans (y1.grow _)
            have k3 := k3.ext y1
            have r := r.ext y1
            simp (disch := first | assumption | omega) only [go_sem, Nat.reduceEqDiff, ↓reduceIte, Nat.reduceAdd, a0, cz4, cz3, Tryd.results56]
            exact ⟨_, _, rfl, xs4_ok _ (by omega), ys3_ok _ (by omega), X, r.le (by omega)⟩
  · have e : ((p : Int) == 0) = false := by simp [h0]
    simp (disch := omega) only [go_sem, Nat.reduceEqDiff, ↓reduceIte, Nat.reduceAdd, e, a0]
    refine callK_of (by kernel_rfl) (pick_c rb B _ 104 _ r (by omega) (by omega)) ?_
    rintro _ w2 ⟨c, rfl, hc, g2, r2⟩
    simp (disch := omega) only [go_sem, Nat.reduceEqDiff, ↓reduceIte, Nat.reduceAdd, a0]
    refine callK_of (by kernel_rfl) (pick_c rb B _ 104 _ r2 (by omega) (by omega)) ?_
    rintro _ w3 ⟨d, rfl, hd, g3, r3⟩
    simp (disch := omega) only [go_sem, Nat.reduceEqDiff, ↓reduceIte, Nat.reduceAdd, Tryd.results56]
    exact ⟨_, _, rfl, by omega, by omega, (g1.trans g2).trans g3, r3.le (by omega)⟩

theorem drawSheetOf_c (a : Option Addr) (l : List Int) (c : Nat) (w : World) (hl : l.length ≤ c) (hc : c ≤ maxLen) (hs : ByteS w a l) :
    Ret Tryd.prog 33 #[.slice a l.length c] w fun v w' => ∃ x y : Int, v = .tuple #[.int .i64 x, .int .i64 y] ∧ (-1 ≤ x ∧ x ≤ 104) ∧ (-1 ≤ y ∧ y ≤ 104) ∧ Ext w w' := by
  refine enter1 Tryd.func33 rfl (by kernel_rfl) (of_decide_eq_true (by kernel_rfl)) fun f a0 => ?_
  simp (disch := omega) only [go_sem, Nat.reduceEqDiff, ↓reduceIte, Nat.reduceAdd, a0]
  refine callK_of (by kernel_rfl) (l6Open_c _ _ _ _ hl hc hs) ?_
  rintro _ w1 ⟨rb, rfl, x1, hrb, r1, e1⟩
  simp (disch := omega) only [go_sem, Nat.reduceEqDiff, ↓reduceIte, Nat.reduceAdd]
  refine callK_of (by kernel_rfl) (l92Place_c rb _ _ _ r1 (by omega) (by omega)) ?_
  rintro _ w2 ⟨x, y, rfl, hx, hy, g2, r2⟩
  simp (disch := omega) only [go_sem, Nat.reduceEqDiff, ↓reduceIte, Nat.reduceAdd, Tryd.results33]
  exact ⟨x, y, rfl, hx, hy, g2.ext x1 fun b hb => by simp at hb; omega⟩

theorem drawPlaceName_c (a : Option Addr) (l : List Int) (c : Nat) (w : World) (hl : l.length ≤ c) (hc : c ≤ maxLen) (hs : ByteS w a l) :
    Ret Tryd.prog 34 #[.slice a l.length c] w fun v w' => ∃ x y : Int, v = .tuple #[.int .i64 x, .int .i64 y] ∧ (-1 ≤ x ∧ x ≤ 104) ∧ (-1 ≤ y ∧ y ≤ 104) ∧ Ext w w' := by
  refine enter1 Tryd.func34 rfl (by kernel_rfl) (of_decide_eq_true (by kernel_rfl)) fun f a0 => ?_
  simp (disch := omega) only [go_sem, Nat.reduceEqDiff, ↓reduceIte, Nat.reduceAdd, a0]
  refine callK_of (by kernel_rfl) (l6Open_c _ _ _ _ hl hc hs) ?_
  rintro _ w1 ⟨rb, rfl, x1, hrb, r1, e1⟩
  simp (disch := omega) only [go_sem, Nat.reduceEqDiff, ↓reduceIte, Nat.reduceAdd]
  refine callK_of (by kernel_rfl) (l92Place_c rb _ _ _ r1 (by omega) (by omega)) ?_
  rintro _ w2 ⟨x, y, rfl, hx, hy, g2, r2⟩
  simp (disch := omega) only [go_sem, Nat.reduceEqDiff, ↓reduceIte, Nat.reduceAdd, Tryd.results34]
  exact ⟨x, y, rfl, hx, hy, g2.ext x1 fun b hb => by simp at hb; omega⟩

theorem drawSheetFrom_c (a : Option Addr) (l : List Int) (c : Nat) (w : World) (hl : l.length ≤ c) (hc : c ≤ maxLen) (hs : ByteS w a l) :
    Ret Tryd.prog 31 #[.slice a l.length c] w fun v w' => ∃ l : List UInt8, v = .string (bs l) ∧ l.length ≤ 40 ∧ Ext w w' := by
  refine enter1 Tryd.func31 rfl (by kernel_rfl) (of_decide_eq_true (by kernel_rfl)) fun f a0 => ?_
  simp (disch := omega) only [go_sem, Nat.reduceEqDiff, ↓reduceIte, Nat.reduceAdd, a0]
  refine callK_of (by kernel_rfl) (l6Open_c _ _ _ _ hl hc hs) ?_
  rintro _ w1 ⟨rb, rfl, x1, hrb, r1, e1⟩
  simp (disch := omega) only [go_sem, Nat.reduceEqDiff, ↓reduceIte, Nat.reduceAdd]
  refine callK_of (by kernel_rfl) (l92Sheet_c rb _ _ _ r1 (by omega) (by omega)) ?_
  rintro _ w2 ⟨l, rfl, hll, g2, r2⟩
  simp (disch := omega) only [go_sem, Nat.reduceEqDiff, ↓reduceIte, Nat.reduceAdd, Tryd.results31]
  exact ⟨l, rfl, hll, g2.ext x1 fun b hb => by simp at hb; omega⟩

theorem drawPlaceFrom_c (a : Option Addr) (l : List Int) (c : Nat) (w : World) (hl : l.length ≤ c) (hc : c ≤ maxLen) (hs : ByteS w a l) :
    Ret Tryd.prog 38 #[.slice a l.length c] w fun v w' => ∃ l : List UInt8, v = .string (bs l) ∧ l.length ≤ 50 ∧ Ext w w' := by
  refine enter1 Tryd.func38 rfl (by kernel_rfl) (of_decide_eq_true (by kernel_rfl)) fun f a0 => ?_
  simp (disch := omega) only [go_sem, Nat.reduceEqDiff, ↓reduceIte, Nat.reduceAdd, a0]
  refine callK_of (by kernel_rfl) (l6Open_c _ _ _ _ hl hc hs) ?_
  rintro _ w1 ⟨rb, rfl, x1, hrb, r1, e1⟩
  simp (disch := omega) only [go_sem, Nat.reduceEqDiff, ↓reduceIte, Nat.reduceAdd]
  refine callK_of (by kernel_rfl) (l92Sheet_c rb _ _ _ r1 (by omega) (by omega)) ?_
  rintro _ w2 ⟨l, rfl, hll, g2, r2⟩
  have s2 := g2.size
  simp (disch := omega) only [go_sem, Nat.reduceEqDiff, ↓reduceIte, Nat.reduceAdd]
  refine bslK_n (vst ends9) elt_s (by simp [vst, ends9, Value.cells]) rfl (by omega) (by omega) rfl fun w3 b3 e3 x3 k3 _ => ?_
  simp (disch := omega) only [go_sem, Nat.reduceEqDiff, ↓reduceIte, Nat.reduceAdd]
  refine callK_of (by kernel_rfl) (of_c rb _ _ b3 ends9 _ (r2.ext x3) (by omega) k3 (by decide) (by decide) (by omega)) ?_
  rintro _ w4 ⟨m, hm', rfl, g4, r4⟩
  have hm : m.length ≤ 3 := by
    have : ∀ l ∈ ends9, l.length ≤ 3 := by decide
    exact this m hm'
  simp (disch := omega) only [go_sem, Nat.reduceEqDiff, ↓reduceIte, Nat.reduceAdd, Tryd.results38]
  refine ⟨l ++ m, rfl, by rw [List.length_append]; omega, ((g2.trans (x3.grow _)).trans g4).ext x1 fun b hb => by simp at hb; omega⟩

theorem drawPlaceFar_c (a : Option Addr) (l : List Int) (c : Nat) (w : World) (hl : l.length ≤ c) (hc : c ≤ maxLen) (hs : ByteS w a l) :
    Ret Tryd.prog 27 #[.slice a l.length c] w fun v w' => ∃ ax ay bx dy : Int, v = .tuple #[.int .i64 ax, .int .i64 ay, .int .i64 bx, .int .i64 dy] ∧ (-1 ≤ ax ∧ ax ≤ 104) ∧ (-1 ≤ ay ∧ ay ≤ 104) ∧ (-1 ≤ bx ∧ bx ≤ 104) ∧ (-1 ≤ dy ∧ dy ≤ 104) ∧ Ext w w' := by
  refine enter1 Tryd.func27 rfl (by kernel_rfl) (of_decide_eq_true (by kernel_rfl)) fun f a0 => ?_
  simp (disch := omega) only [go_sem, Nat.reduceEqDiff, ↓reduceIte, Nat.reduceAdd, a0]
  refine callK_of (by kernel_rfl) (l6Open_c _ _ _ _ hl hc hs) ?_
  rintro _ w1 ⟨rb, rfl, x1, hrb, r1, e1⟩
  simp (disch := omega) only [go_sem, Nat.reduceEqDiff, ↓reduceIte, Nat.reduceAdd]
  refine callK_of (by kernel_rfl) (l92Place_c rb _ _ _ r1 (by omega) (by omega)) ?_
  rintro _ w2 ⟨x, y, rfl, hx, hy, g2, r2⟩
  have s2 := g2.size
  simp (disch := omega) only [go_sem, Nat.reduceEqDiff, ↓reduceIte, Nat.reduceAdd]
  refine callK_of (by kernel_rfl) (l92Place_c rb _ _ _ r2 (by omega) (by omega)) ?_
  rintro _ w3 ⟨x', y', rfl, hx', hy', g3, r3⟩
  simp (disch := omega) only [go_sem, Nat.reduceEqDiff, ↓reduceIte, Nat.reduceAdd, Tryd.results27]
  exact ⟨x, y, x', y', rfl, hx, hy, hx', hy', (g2.trans g3).ext x1 fun b hb => by simp at hb; omega⟩

theorem drawSheetsBetween_c (a : Option Addr) (l : List Int) (c : Nat) (w : World) (hl : l.length ≤ c) (hc : c ≤ maxLen) (hs : ByteS w a l) :
    Ret Tryd.prog 36 #[.slice a l.length c] w fun v w' => ∃ ax ay bx dy : Int, v = .tuple #[.int .i64 ax, .int .i64 ay, .int .i64 bx, .int .i64 dy] ∧ (-1 ≤ ax ∧ ax ≤ 104) ∧ (-1 ≤ ay ∧ ay ≤ 104) ∧ (-20 ≤ bx ∧ bx ≤ 130) ∧ (-20 ≤ dy ∧ dy ≤ 130) ∧ Ext w w' := by
  refine enter1 Tryd.func36 rfl (by kernel_rfl) (of_decide_eq_true (by kernel_rfl)) fun f a0 => ?_
  simp (disch := omega) only [go_sem, Nat.reduceEqDiff, ↓reduceIte, Nat.reduceAdd, a0]
  refine callK_of (by kernel_rfl) (l6Open_c _ _ _ _ hl hc hs) ?_
  rintro _ w1 ⟨rb, rfl, x1, hrb, r1, e1⟩
  simp (disch := omega) only [go_sem, Nat.reduceEqDiff, ↓reduceIte, Nat.reduceAdd]
  refine callK_of (by kernel_rfl) (l92Place_c rb _ _ _ r1 (by omega) (by omega)) ?_
  rintro _ w2 ⟨x, y, rfl, hx, hy, g2, r2⟩
  have s2 := g2.size
  simp (disch := omega) only [go_sem, Nat.reduceEqDiff, ↓reduceIte, Nat.reduceAdd]
  refine callK_of (by kernel_rfl) (pick_c rb _ _ 21 _ r2 (by omega) (by omega)) ?_
  rintro _ w3 ⟨p, rfl, hp, g3, r3⟩
  simp (disch := omega) only [go_sem, Nat.reduceEqDiff, ↓reduceIte, Nat.reduceAdd]
  refine callK_of (by kernel_rfl) (pick_c rb _ _ 21 _ r3 (by omega) (by omega)) ?_
  rintro _ w4 ⟨q, rfl, hq, g4, r4⟩
  simp (disch := omega) only [go_sem, Nat.reduceEqDiff, ↓reduceIte, Nat.reduceAdd, Tryd.results36]
  exact ⟨x, y, _, _, rfl, hx, hy, by omega, by omega, ((g2.trans g3).trans g4).ext x1 fun b hb => by simp at hb; omega⟩

theorem drawSheetBeside_c (a : Option Addr) (l : List Int) (c : Nat) (w : World) (hl : l.length ≤ c) (hc : c ≤ maxLen) (hs : ByteS w a l) :
    Ret Tryd.prog 25 #[.slice a l.length c] w fun v w' => ∃ (l : List UInt8) (dx dy : Int), v = .tuple #[.string (bs l), .int .i64 dx, .int .i64 dy] ∧ l.length ≤ 40 ∧ I64 dx ∧ I64 dy ∧ Ext w w' := by
  refine enter1 Tryd.func25 rfl (by kernel_rfl) (of_decide_eq_true (by kernel_rfl)) fun f a0 => ?_
  simp (disch := omega) only [go_sem, Nat.reduceEqDiff, ↓reduceIte, Nat.reduceAdd, a0]
  refine callK_of (by kernel_rfl) (l6Open_c _ _ _ _ hl hc hs) ?_
  rintro _ w1 ⟨rb, rfl, x1, hrb, r1, e1⟩
  simp (disch := omega) only [go_sem, Nat.reduceEqDiff, ↓reduceIte, Nat.reduceAdd]
  refine callK_of (by kernel_rfl) (l92Sheet_c rb _ _ _ r1 (by omega) (by omega)) ?_
  rintro _ w2 ⟨l, rfl, hll, g2, r2⟩
  have s2 := g2.size
  simp (disch := omega) only [go_sem, Nat.reduceEqDiff, ↓reduceIte, Nat.reduceAdd]
  refine callK_of (by kernel_rfl) (pick_c rb _ _ 16 _ r2 (by omega) (by omega)) ?_
  rintro _ w3 ⟨p, rfl, hp, g3, r⟩
  have s3 := g3.size
  have gg := g2.trans g3
  by_cases h0 : p = 0
  · have e : ((p : Int) == 0) = true := by rw [h0]; rfl
    have cz3 : ∀ {w : World} {b : Nat} (i : Nat), Blk w b (vi big3).toArray 3 → i < 3 → w.cell? ⟨b, i, none⟩ = some (.int .i64 (big3.getD i 0)) := fun i k h => vi_cell k h
    simp (disch := omega) only [go_sem, Nat.reduceEqDiff, ↓reduceIte, Nat.reduceAdd, e]
    refine QR_sch (some rb) (.st 0 (.st 2 (.st 6 (.alt (.ef 1 (.ef 3 (.st 4 (.st 5 (.ef 7 (.st 8 (.st 9 (.st 10 (.done))))))))) (.ef 3 (.alt (.ef 1 (.st 4 (.st 5 (.ef 7 (.st 8 (.st 9 (.st 10 (.done)))))))) (.ef 7 (.st 8 (.ef 1 (.st 4 (.st 5 (.st 9 (.st 10 (.done)))))))))))))) (by kernel_rfl) (by kernel_rfl) fun w0 x0 => ?_
    have X := gg.trans (x0.grow _)
    have sz := x0.size
    have r := r.ext x0
    try simp (disch := first | assumption | omega) only [go_sem, Nat.reduceEqDiff, ↓reduceIte, Nat.reduceAdd, cz3]
    refine RLT_alt ?_ ?_
    · try simp (disch := first | assumption | omega) only [go_sem, Nat.reduceEqDiff, ↓reduceIte, Nat.reduceAdd, cz3]
      refine bslK_n (vi big3) elt_i (by simp [vi, big3, Value.cells]) rfl (by omega) (by omega) rfl fun w1 b3 e3 y1 k3 _ => ?_
      have sz := y1.size
      refine nxE_of (y1.grow _) ?_
      have X := X.trans (y1.grow _)
      have r := r.ext y1
      try simp (disch := first | assumption | omega) only [go_sem, Nat.reduceEqDiff, ↓reduceIte, Nat.reduceAdd, cz3]
      refine callK_of (by kernel_rfl) (pick_c rb _ _ 3 _ r (by omega) (by omega)) ?_
      rintro _ w1 ⟨p3, rfl, hp3, gg, r⟩
      have sz := gg.size
      refine nxE_of (gg) ?_
      have X := X.trans gg
      have k3 := gg.blk k3 (by simp; omega)
      try simp (disch := first | assumption | omega) only [go_sem, Nat.reduceEqDiff, ↓reduceIte, Nat.reduceAdd, cz3]
      refine callK_of (by kernel_rfl) (pick_c rb _ _ 3 _ r (by omega) (by omega)) ?_
      rintro _ w1 ⟨p4, rfl, hp4, gg, r⟩
      have sz := gg.size
      refine nxE_of (gg) ?_
      have X := X.trans gg
      have k3 := gg.blk k3 (by simp; omega)
      try simp (disch := first | assumption | omega) only [go_sem, Nat.reduceEqDiff, ↓reduceIte, Nat.reduceAdd, cz3, Tryd.results25]
      exact ⟨_, _, _, rfl, hll, big3_ok _ (by omega), ⟨by omega, by omega⟩, X.ext x1 fun b hb => by simp at hb; omega⟩
    · try simp (disch := first | assumption | omega) only [go_sem, Nat.reduceEqDiff, ↓reduceIte, Nat.reduceAdd, cz3]
      refine callK_of (by kernel_rfl) (pick_c rb _ _ 3 _ r (by omega) (by omega)) ?_
      rintro _ w1 ⟨p3, rfl, hp3, gg, r⟩
      have sz := gg.size
      refine nxE_of (gg) ?_
      have X := X.trans gg
      try simp (disch := first | assumption | omega) only [go_sem, Nat.reduceEqDiff, ↓reduceIte, Nat.reduceAdd, cz3]
      refine RLT_alt ?_ ?_
      · try simp (disch := first | assumption | omega) only [go_sem, Nat.reduceEqDiff, ↓reduceIte, Nat.reduceAdd, cz3]
        refine bslK_n (vi big3) elt_i (by simp [vi, big3, Value.cells]) rfl (by omega) (by omega) rfl fun w1 b3 e3 y1 k3 _ => ?_
        have sz := y1.size
        refine nxE_of (y1.grow _) ?_
        have X := X.trans (y1.grow _)
        have r := r.ext y1
        try simp (disch := first | assumption | omega) only [go_sem, Nat.reduceEqDiff, ↓reduceIte, Nat.reduceAdd, cz3]
        refine callK_of (by kernel_rfl) (pick_c rb _ _ 3 _ r (by omega) (by omega)) ?_
        rintro _ w1 ⟨p4, rfl, hp4, gg, r⟩
        have sz := gg.size
        refine nxE_of (gg) ?_
        have X := X.trans gg
        have k3 := gg.blk k3 (by simp; omega)
        try simp (disch := first | assumption | omega) only [go_sem, Nat.reduceEqDiff, ↓reduceIte, Nat.reduceAdd, cz3, Tryd.results25]
        exact ⟨_, _, _, rfl, hll, big3_ok _ (by omega), ⟨by omega, by omega⟩, X.ext x1 fun b hb => by simp at hb; omega⟩
      · try simp (disch := first | assumption | omega) only [go_sem, Nat.reduceEqDiff, ↓reduceIte, Nat.reduceAdd, cz3]
        refine callK_of (by kernel_rfl) (pick_c rb _ _ 3 _ r (by omega) (by omega)) ?_
        rintro _ w1 ⟨p4, rfl, hp4, gg, r⟩
        have sz := gg.size
        refine nxE_of (gg) ?_
        have X := X.trans gg
        try simp (disch := first | assumption | omega) only [go_sem, Nat.reduceEqDiff, ↓reduceIte, Nat.reduceAdd, cz3]
        refine bslK_n (vi big3) elt_i (by simp [vi, big3, Value.cells]) rfl (by omega) (by omega) rfl fun w1 b3 e3 y1 k3 _ => ?_
        have sz := y1.size
        refine nxE_of (y1.grow _) ?_
        have X := X.trans (y1.grow _)
        have r := r.ext y1
        try simp (disch := first | assumption | omega) only [go_sem, Nat.reduceEqDiff, ↓reduceIte, Nat.reduceAdd, cz3, Tryd.results25]
        exact ⟨_, _, _, rfl, hll, big3_ok _ (by omega), ⟨by omega, by omega⟩, X.ext x1 fun b hb => by simp at hb; omega⟩
  · have e : ((p : Int) == 0) = false := by simp [h0]
    simp (disch := omega) only [go_sem, Nat.reduceEqDiff, ↓reduceIte, Nat.reduceAdd, e]
    refine callK_of (by kernel_rfl) (pick_c rb _ _ 21 _ r (by omega) (by omega)) ?_
    rintro _ w4 ⟨q, rfl, hq, g4, r4⟩
    simp (disch := omega) only [go_sem, Nat.reduceEqDiff, ↓reduceIte, Nat.reduceAdd]
    refine callK_of (by kernel_rfl) (pick_c rb _ _ 21 _ r4 (by omega) (by omega)) ?_
    rintro _ w5 ⟨q2, rfl, hq2, g5, r5⟩
    simp (disch := omega) only [go_sem, Nat.reduceEqDiff, ↓reduceIte, Nat.reduceAdd, Tryd.results25]
    exact ⟨l, _, _, rfl, hll, ⟨by omega, by omega⟩, ⟨by omega, by omega⟩, ((gg.trans g4).trans g5).ext x1 fun b hb => by simp at hb; omega⟩

end Go.Proofs.YteenlohkhckjkaaDoor
