/- Steps between sheets; the law FnPlaceFar. -/
import Derived.Test.YteenlohkhckjkaaDoorTn
set_option linter.all false
set_option maxRecDepth 20000
namespace Go.SW
open Go Go.RowKit
def gq (d : Nat) : Int := if d = 0 then 0 else ((d : Int) - 1) * 4 + 1
theorem gq_le {d : Nat} (h : d ≤ 100) : 0 ≤ gq d ∧ gq d ≤ 400 := by unfold gq; split <;> omega
theorem gq_pos {d : Nat} (h : 0 < d) : gq d = ((d : Int) - 1) * 4 + 1 := by rw [gq, if_neg (by omega)]
def eof (a b k : Nat) : Nat := if k = 0 then a else b
def stof (a b k : Nat) : Int := if k = 0 then 0 else if k = 1 then gq a else gq a + gq b
theorem stof_succ (a b : Nat) {k : Nat} (h : k < 2) : stof a b (k + 1) = stof a b k + gq (eof a b k) := by
  have : k = 0 ∨ k = 1 := by omega
  rcases this with rfl | rfl <;> simp [stof, eof]
theorem stof_le {a b k : Nat} (ha : a ≤ 100) (hb : b ≤ 100) : 0 ≤ stof a b k ∧ stof a b k ≤ 800 := by
  have := gq_le ha; have := gq_le hb
  unfold stof; split <;> (try split) <;> omega
/-- Steps between two sheets that both are there. -/
def sf (l m : List UInt8) : Int := if fOk l = true ∧ fOk m = true then gq ((fRow l : Int) - fRow m).natAbs + gq ((fCol l : Int) - fCol m).natAbs else -1
theorem far_of {ax ay bx dy : Int} (h1 : plc ax ay = true) (h2 : plc bx dy = true) : far ax ay bx dy = ((ax - bx).natAbs : Int) + ((ay - dy).natAbs : Int) := by simp [far, h1, h2]
theorem gq_far {x y : Nat} : gq ((x / 4 : Nat) - (y / 4 : Nat) : Int).natAbs ≤ (((x : Int) - y).natAbs : Int) := by
  unfold gq; split <;> omega
theorem sf_le {x y x' y' : Nat} (hx : x < 104) (hy : y < 104) (hx' : x' < 104) (hy' : y' < 104) : sf (sheetOf x y) (sheetOf x' y') ≤ far x y x' y' := by
  obtain ⟨s1, s2⟩ := sheetOf_nat hx hy
  obtain ⟨t1, t2⟩ := sheetOf_nat hx' hy'
  rw [far_of s2 t2, s1, t1]
  obtain ⟨k1, k2, k3⟩ := fOk_of (sname_lt (c := x / 4) (r := y / 4) (by omega) (by omega))
  obtain ⟨j1, j2, j3⟩ := fOk_of (sname_lt (c := x' / 4) (r := y' / 4) (by omega) (by omega))
  have g1 := gq_far (x := x) (y := x')
  have g2 := gq_far (x := y) (y := y')
  rw [sf, if_pos ⟨k1, j1⟩, k2, k3, j2, j3]
  omega
end Go.SW
namespace Go.Proofs.YteenlohkhckjkaaDoor
open Go.RowKit Go.SW

theorem implSheetFar_c (l m : List UInt8) (w : World) : Ret Tryd.prog 30 #[.string (bs l), .string (bs m)] w fun v w' => v = .int .i64 (sf l m) ∧ Ext w w' := by
  obtain ⟨hc, hr⟩ := fnd_lt l
  obtain ⟨hc', hr'⟩ := fnd_lt m
  refine enter2 Tryd.func30 rfl (by kernel_rfl) (of_decide_eq_true (by kernel_rfl)) fun f a0 a1 => ?_
  simp (disch := omega) only [go_sem, Nat.reduceEqDiff, ↓reduceIte, Nat.reduceAdd, a0]
  refine callK_pure (by kernel_rfl) (sheetNamed_c l _) fun w1 x1 => ?_
  simp (disch := omega) only [go_sem, Nat.reduceEqDiff, ↓reduceIte, Nat.reduceAdd]
  refine allocK_of zero_sh fun w2 b2 _ x2 k2 _ => ?_
  simp (disch := omega) only [go_sem, Nat.reduceEqDiff, ↓reduceIte, Nat.reduceAdd]
  refine stK_agg siz_sh (by simp) (by simp [Value.oneCell']) k2 (by simp) fun w3 k3 g3 => ?_
  have x3 := g3.ext (x1.trans x2) (by have := x1.size; omega)
  simp (disch := omega) only [go_sem, Nat.reduceEqDiff, ↓reduceIte, Nat.reduceAdd, a1]
  refine callK_pure (by kernel_rfl) (sheetNamed_c m _) fun w4 x4 => ?_
  simp (disch := omega) only [go_sem, Nat.reduceEqDiff, ↓reduceIte, Nat.reduceAdd]
  refine allocK_of zero_sh fun w5 b5 _ x5 k5 _ => ?_
  simp (disch := omega) only [go_sem, Nat.reduceEqDiff, ↓reduceIte, Nat.reduceAdd]
  refine stK_agg siz_sh (by simp) (by simp [Value.oneCell']) k5 (by simp) fun w6 k6 g6 => ?_
  have x6 := g6.ext ((x3.trans x4).trans x5) (by have := (x3.trans x4).size; omega)
  have k3 := g6.blk ((k3.ext x4).ext x5) (by have := k3.lt; have := x4.size; omega)
  cases ho : fOk l with
  | false =>
    simp (disch := omega) only [go_sem, Nat.reduceEqDiff, ↓reduceIte, Nat.reduceAdd, Tryd.results30]
    exact ⟨by simp [sf, ho], x6⟩
  | true =>
    cases ho2 : fOk m with
    | false =>
      simp (disch := omega) only [go_sem, Nat.reduceEqDiff, ↓reduceIte, Nat.reduceAdd, Tryd.results30]
      exact ⟨by simp [sf, ho2], x6⟩
    | true =>
      have hsf : sf l m = stof ((fRow l : Int) - fRow m).natAbs ((fCol l : Int) - fCol m).natAbs 2 := by simp [sf, ho, ho2, stof]
      simp (disch := omega) only [go_sem, Nat.reduceEqDiff, ↓reduceIte, Nat.reduceAdd]
      refine QR_sch none (.st 0 (.st 1 (.st 2 (.st 3 (.st 5 (.st 6 (.st 7 (.st 8 (.st 12 (.ef 4 (.ef 9 (.ef 10 (.st 11 (.done)))))))))))))) (by kernel_rfl) (by kernel_rfl) fun w0 x0 => ?_
      have X := x6.trans x0
      have k3 := k3.ext x0
      have k6 := k6.ext x0
      simp (disch := omega) only [go_sem, Nat.reduceEqDiff, ↓reduceIte, Nat.reduceAdd, k3.cell, k6.cell, Value.cells, ldS_none]
      refine callK_of (by kernel_rfl) (apart_c _ _ _ (by omega) (by omega)) ?_
      rintro _ w1 ⟨rfl, y1⟩
      refine nxE_of (y1.grow _) ?_
      have X := X.trans y1
      have k3 := k3.ext y1
      have k6 := k6.ext y1
      simp (disch := omega) only [go_sem, Nat.reduceEqDiff, ↓reduceIte, Nat.reduceAdd, k3.cell, k6.cell, Value.cells, ldS_none]
      refine callK_of (by kernel_rfl) (apart_c _ _ _ (by omega) (by omega)) ?_
      rintro _ w1 ⟨rfl, y1⟩
      refine nxE_of (y1.grow _) ?_
      have X := X.trans y1
      have k3 := k3.ext y1
      have k6 := k6.ext y1
      simp (disch := omega) only [go_sem, Nat.reduceEqDiff, ↓reduceIte, Nat.reduceAdd, k3.cell, k6.cell, Value.cells, ldS_none]
      refine bslK_n [.int .i64 (((fRow l : Int) - fRow m).natAbs : Nat), .int .i64 (((fCol l : Int) - fCol m).natAbs : Nat)] elt_i (by simp [Value.cells]) rfl (by omega) (by omega) rfl fun w1 bz ez y1 kz _ => ?_
      refine nxE_of (y1.grow _) ?_
      have X := X.trans y1
      have k3 := k3.ext y1
      have k6 := k6.ext y1
      skip
      have ha : ((fRow l : Int) - fRow m).natAbs ≤ 100 := by omega
      have hb : ((fCol l : Int) - fCol m).natAbs ≤ 100 := by omega
      generalize ((fRow l : Int) - fRow m).natAbs = A at *
      generalize ((fCol l : Int) - fCol m).natAbs = B at *
      have ce : ∀ {W : World}, Ext w1 W → ∀ k, k < 2 → W.cell? ⟨bz, k, none⟩ = some (.int .i64 (eof A B k : Nat)) := fun x k hk => by
        rw [(kz.ext x).cell]
        have : k = 0 ∨ k = 1 := by omega
        rcases this with rfl | rfl <;> rfl
      simp (disch := omega) only [go_sem, Nat.reduceEqDiff, ↓reduceIte, Nat.reduceAdd]
      refine loopN 2 (fun k f W => f 38 = .slice (some ⟨bz, 0, none⟩) 2 2 ∧ f 39 = .int .i64 2 ∧ f 40 = .int .i64 k ∧ f 9 = .int .i64 (stof A B k) ∧ Ext w1 W) ⟨(by first | assumption | (simp only [upd_apply, Nat.reduceEqDiff, ↓reduceIte] <;> first | rfl | assumption) | simp [upd_apply, *]), (by first | assumption | (simp only [upd_apply, Nat.reduceEqDiff, ↓reduceIte] <;> first | rfl | assumption) | simp [upd_apply, *]), (by first | assumption | (simp only [upd_apply, Nat.reduceEqDiff, ↓reduceIte] <;> first | rfl | assumption) | simp [upd_apply, *]), (by first | assumption | (simp only [upd_apply, Nat.reduceEqDiff, ↓reduceIte] <;> first | rfl | assumption) | simp [upd_apply, *]), Ext.refl _⟩ fun k f W hk ⟨a38, a39, a40, a9, xw⟩ => ?_
      by_cases hlt : (k : Int) < 2
      · have hk2 : k < 2 := by omega
        have hce := ce xw k hk2
        have hs := stof_le (k := k) ha hb
        have hss := stof_succ A B hk2
        have he : eof A B k ≤ 100 := by unfold eof; split <;> omega
        by_cases h0 : (0 : Int) < (eof A B k : Nat)
        · have hq := gq_pos (show 0 < eof A B k by omega)
          simp (disch := omega) only [go_sem, Nat.reduceEqDiff, ↓reduceIte, Nat.reduceAdd, a38, a39, a40, a9, hlt, hce, h0]
          exact ⟨by omega, (by first | assumption | (simp only [upd_apply, Nat.reduceEqDiff, ↓reduceIte] <;> first | rfl | assumption) | simp [upd_apply, *]), (by first | assumption | (simp only [upd_apply, Nat.reduceEqDiff, ↓reduceIte] <;> first | rfl | assumption) | simp [upd_apply, *]), (by first | assumption | (simp only [upd_apply, Nat.reduceEqDiff, ↓reduceIte] <;> first | rfl | assumption) | simp [upd_apply, *]), by simp [upd_apply]; omega, xw⟩
        · have hq : gq (eof A B k) = 0 := by rw [gq, if_pos (by omega)]
          simp (disch := omega) only [go_sem, Nat.reduceEqDiff, ↓reduceIte, Nat.reduceAdd, a38, a39, a40, a9, hlt, hce, h0]
          exact ⟨by omega, (by first | assumption | (simp only [upd_apply, Nat.reduceEqDiff, ↓reduceIte] <;> first | rfl | assumption) | simp [upd_apply, *]), (by first | assumption | (simp only [upd_apply, Nat.reduceEqDiff, ↓reduceIte] <;> first | rfl | assumption) | simp [upd_apply, *]), (by first | assumption | (simp only [upd_apply, Nat.reduceEqDiff, ↓reduceIte] <;> first | rfl | assumption) | simp [upd_apply, *]), by simp [upd_apply, a9]; omega, xw⟩
      · obtain rfl : k = 2 := by omega
        simp (disch := omega) only [go_sem, Nat.reduceEqDiff, ↓reduceIte, Nat.reduceAdd, a39, a40, hlt, a9, Tryd.results30]
        exact ⟨by rw [hsf], X.trans xw⟩

set_option maxHeartbeats 1000000 in
theorem fnPlaceFar_c (a : Option Addr) (l : List Int) (c : Nat) (b : Option Addr) (m : List Int) (d : Nat) (w : World) (hl : l.length ≤ c) (hc : c ≤ maxLen) (hs : ByteS w a l) (hl2 : m.length ≤ d) (hc2 : d ≤ maxLen) (hs2 : ByteS w b m) :
    Ret Tryd.prog 8 #[.slice a l.length c, .slice b m.length d] w fun v w' => v = .bool true ∧ Ext w w' := by
  have hmax := maxLen_le (Nat.le_trans hl hc)
  have hmax2 := maxLen_le (Nat.le_trans hl2 hc2)
  refine enter2 Tryd.func8 rfl (by kernel_rfl) (of_decide_eq_true (by kernel_rfl)) fun f a0 a1 => ?_
  by_cases hbig : (1048576 : Int) < l.length
  · simp (disch := omega) only [go_sem, Nat.reduceEqDiff, ↓reduceIte, Nat.reduceAdd, a0, hbig, Tryd.results8]
    exact ⟨trivial, Ext.refl _⟩
  by_cases hbig2 : (1048576 : Int) < m.length
  · simp (disch := omega) only [go_sem, Nat.reduceEqDiff, ↓reduceIte, Nat.reduceAdd, a0, a1, hbig, hbig2, Tryd.results8]
    exact ⟨trivial, Ext.refl _⟩
  simp (disch := omega) only [go_sem, Nat.reduceEqDiff, ↓reduceIte, Nat.reduceAdd, a0, a1, hbig, hbig2]
  refine callK_of (by kernel_rfl) (drawPlaceFar_c _ _ _ _ hl hc hs) ?_
  rintro _ w1 ⟨ax, ay, bx, dy, rfl, h1, h2, h3, h4, x1⟩
  simp (disch := omega) only [go_sem, Nat.reduceEqDiff, ↓reduceIte, Nat.reduceAdd]
  refine callK_pure (by kernel_rfl) (implPlaceFar_c ax ay bx dy _) fun w2 x2 => ?_
  simp (disch := omega) only [go_sem, Nat.reduceEqDiff, ↓reduceIte, Nat.reduceAdd]
  refine callK_pure (by kernel_rfl) (specPlaceFar_c ax ay bx dy _) fun w3 x3 => ?_
  have x13 := (x1.trans x2).trans x3
  by_cases hp : plc ax ay = true ∧ plc bx dy = true
  · obtain ⟨p1, p2⟩ := hp
    have q1 := plc_iff.1 p1
    have q2 := plc_iff.1 p2
    have hf := far_of p1 p2
    have hnn : ¬ far ax ay bx dy < 0 := by omega
    have ecx : (m.length : Int) * 7 % 104 = ((m.length * 7 % 104 : Nat) : Int) := by omega
    have ecy : (m.length : Int) * 13 % 104 = ((m.length * 13 % 104 : Nat) : Int) := by omega
    have lx : m.length * 7 % 104 < 104 := Nat.mod_lt _ (by omega)
    have ly : m.length * 13 % 104 < 104 := Nat.mod_lt _ (by omega)
    simp (disch := omega) only [go_sem, Nat.reduceEqDiff, ↓reduceIte, Nat.reduceAdd, bne_self_eq_false, hnn, a1, ecx, ecy]
    generalize m.length * 7 % 104 = cx at *
    generalize m.length * 13 % 104 = cy at *
    have p3 : plc cx cy = true := plc_iff.2 ⟨by omega, by omega, by omega, by omega⟩
    have f1 := far_of p1 p3
    have f2 := far_of p3 p2
    have f3 := far_of p2 p1
    refine callK_pure (by kernel_rfl) (implSheetOf_c _ _ _) fun w4 x4 => ?_
    simp (disch := omega) only [go_sem, Nat.reduceEqDiff, ↓reduceIte, Nat.reduceAdd]
    refine callK_pure (by kernel_rfl) (implSheetOf_c _ _ _) fun w5 x5 => ?_
    simp (disch := omega) only [go_sem, Nat.reduceEqDiff, ↓reduceIte, Nat.reduceAdd]
    refine callK_pure (by kernel_rfl) (implPlaceFar_c _ _ _ _ _) fun w6 x6 => ?_
    simp (disch := omega) only [go_sem, Nat.reduceEqDiff, ↓reduceIte, Nat.reduceAdd]
    refine callK_pure (by kernel_rfl) (implPlaceFar_c _ _ _ _ _) fun w7 x7 => ?_
    simp (disch := omega) only [go_sem, Nat.reduceEqDiff, ↓reduceIte, Nat.reduceAdd, p1, p2]
    refine callK_pure (by kernel_rfl) (implPlaceFar_c _ _ _ _ _) fun w8 x8 => ?_
    have x18 := ((((x13.trans x4).trans x5).trans x6).trans x7).trans x8
    have hsym : (far bx dy ax ay == far ax ay bx dy) = true := by rw [beq_iff_eq, f3, hf]; omega
    have hov : far ax ay bx dy ≤ far ax ay cx cy + far cx cy bx dy := by omega
    have hsf : sf (sheetOf ax ay) (sheetOf bx dy) ≤ far ax ay bx dy := by
      obtain ⟨x, rfl⟩ := Int.eq_ofNat_of_zero_le q1.1
      obtain ⟨y, rfl⟩ := Int.eq_ofNat_of_zero_le q1.2.2.1
      obtain ⟨x', rfl⟩ := Int.eq_ofNat_of_zero_le q2.1
      obtain ⟨y', rfl⟩ := Int.eq_ofNat_of_zero_le q2.2.2.1
      exact sf_le (by omega) (by omega) (by omega) (by omega)
    by_cases hx : ax = bx
    · have ex : (ax == bx) = true := by simpa using hx
      by_cases hy : ay = dy
      · have ey : (ay == dy) = true := by simpa using hy
        have e0 : (far ax ay bx dy == 0) = true := by rw [beq_iff_eq]; omega
        simp (disch := omega) only [go_sem, Nat.reduceEqDiff, ↓reduceIte, Nat.reduceAdd, hsym, ex, ey, e0, beq_self_eq_true]
        refine callK_pure (by kernel_rfl) (implSheetFar_c _ _ _) fun w9 x9 => ?_
        simp (disch := omega) only [go_sem, Nat.reduceEqDiff, ↓reduceIte, Nat.reduceAdd, hsf, hov, Tryd.results8]
        exact ⟨trivial, x18.trans x9⟩
      · have ey : (ay == dy) = false := by simpa using hy
        have e0 : (far ax ay bx dy == 0) = false := by rw [beq_eq_false_iff_ne]; omega
        simp (disch := omega) only [go_sem, Nat.reduceEqDiff, ↓reduceIte, Nat.reduceAdd, hsym, ex, ey, e0, beq_self_eq_true]
        refine callK_pure (by kernel_rfl) (implSheetFar_c _ _ _) fun w9 x9 => ?_
        simp (disch := omega) only [go_sem, Nat.reduceEqDiff, ↓reduceIte, Nat.reduceAdd, hsf, hov, Tryd.results8]
        exact ⟨trivial, x18.trans x9⟩
    · have ex : (ax == bx) = false := by simpa using hx
      have e0 : (far ax ay bx dy == 0) = false := by rw [beq_eq_false_iff_ne]; omega
      simp (disch := omega) only [go_sem, Nat.reduceEqDiff, ↓reduceIte, Nat.reduceAdd, hsym, ex, e0, beq_self_eq_true]
      refine callK_pure (by kernel_rfl) (implSheetFar_c _ _ _) fun w9 x9 => ?_
      simp (disch := omega) only [go_sem, Nat.reduceEqDiff, ↓reduceIte, Nat.reduceAdd, hsf, hov, Tryd.results8]
      exact ⟨trivial, x18.trans x9⟩
  · have hf : far ax ay bx dy = -1 := by
      rw [far, if_neg]
      simpa using hp
    have hneg : far ax ay bx dy < 0 := by omega
    simp (disch := omega) only [go_sem, Nat.reduceEqDiff, ↓reduceIte, Nat.reduceAdd, bne_self_eq_false, hneg, beq_self_eq_true, Tryd.results8]
    exact ⟨trivial, x13⟩
end Go.Proofs.YteenlohkhckjkaaDoor
