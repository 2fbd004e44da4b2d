/- The draw functions for grids. -/
import Derived.Test.YtlnodngkacbfkaaD1
import Derived.Test.YtlnodngkacbfkaaG2
set_option linter.all false
set_option maxRecDepth 20000
namespace Go.Proofs.Ytlnodngkacbfkaa
open Go.RowKit Go.SW

/-- A drawn grid: R rows, none empty, heights from -1 to 100. -/
structure Drawn (w : World) (B R : Nat) (a : Option Addr) (c : Nat) (rows : List (List Int)) (A : Nat → Option Addr) (Cp : Nat → Nat) : Prop where
  b : BRows w 24 3 B a c rows A Cp
  len : rows.length = R
  row : ∀ l ∈ rows, 1 ≤ l.length ∧ l.length ≤ 1001 ∧ ∀ x ∈ l, -1 ≤ x ∧ x ≤ 100
  wide : ∀ r, r < rows.length → (rows.getD 0 []).length ≤ (rows.getD r []).length

theorem l91Rough_c (rb B lim R C : Nat) (w : World) (hr : Rdr w rb B lim) (hB : B ≤ w.heap.size) (hl : lim ≤ 100000000) (hR1 : 1 ≤ R) (hR : R ≤ 1000) (hC1 : 1 ≤ C) (hC : C ≤ 1000) :
    Ret Try.prog 102 #[.pointer (some ⟨rb, 0, none⟩), .int .i64 R, .int .i64 C] w fun v w' => ∃ a c rows A Cp, v = .slice a rows.length c ∧ Drawn w' w.heap.size R a c rows A Cp ∧ Grow (some rb) w w' ∧ Rdr w' rb B (lim + R * C + 3) := by
  have hRC : R * C ≤ 1000 * 1000 := Nat.mul_le_mul hR hC
  have hrb := hr.below
  refine enter3 Try.func102 rfl (by kernel_rfl) (of_decide_eq_true (by kernel_rfl)) fun f a0 a1 a2 => ?_
  simp (disch := omega) only [go_sem, Nat.reduceEqDiff, ↓reduceIte, a0]
  refine bslK_n [.int .i64 1, .int .i64 2, .int .i64 3, .int .i64 4, .int .i64 6, .int .i64 9, .int .i64 5, .int .i64 2] elt_i (by simp [Value.cells]) rfl (by omega) (by omega) rfl fun w1 h1 eh1 x1 k1 _ => ?_
  simp (disch := omega) only [go_sem, Nat.reduceEqDiff, ↓reduceIte, a0]
  refine callK_of (by kernel_rfl) (pick_c rb B lim 4 _ (hr.ext x1) (by omega) (by omega)) ?_
  rintro _ w2 ⟨k, rfl, hk, g2, r2⟩
  simp (disch := omega) only [go_sem, Nat.reduceEqDiff, ↓reduceIte, a0]
  let J : F → World → Prop := fun f w' => f 0 = .pointer (some ⟨rb, 0, none⟩) ∧ f 1 = .int .i64 R ∧ f 2 = .int .i64 C ∧ ∃ (hb : Nat) (h : Nat → Int), f 7 = .slice (some ⟨hb, 0, none⟩) 8 8 ∧ w.heap.size ≤ hb ∧ CellsAt w' hb 8 h ∧ (∀ i, i < 8 → 0 ≤ h i ∧ h i ≤ 99) ∧ Grow (some rb) w w' ∧ Rdr w' rb B (lim + 1)
  refine cd_cut J (fun f w3 ⟨a0, a1, a2, hb, h, a7, hhb, hc, hh, g3, r3⟩ => ?_) ?_
  · clear k1 g2 r2
    simp (disch := omega) only [go_sem, Nat.reduceEqDiff, ↓reduceIte, a0]
    refine bslK_0 elt_ii fun w4 b4 e4 x4 o4 _ => ?_
    have hhlt : hb < w3.heap.size := hc.lt (by omega)
    have hB4 : B ≤ w3.heap.size := Nat.le_trans hB g3.size
    simp (disch := omega) only [go_sem, Nat.reduceEqDiff, ↓reduceIte, a0]
    -- what both loops keep
    let S : F → World → Nat → Prop := fun f w' q => f 0 = .pointer (some ⟨rb, 0, none⟩) ∧ f 1 = .int .i64 R ∧ f 2 = .int .i64 C ∧ f 7 = .slice (some ⟨hb, 0, none⟩) 8 8 ∧ CellsAt w' hb 8 h ∧ Grow (some rb) w w' ∧ Rdr w' rb B (lim + 1 + q) ∧ w3.heap.size ≤ w'.heap.size
    let T : F → World → Nat → Prop := fun f w' i => ∃ a c rows A Cp, f 8 = .slice a rows.length c ∧ BRows w' 24 3 w3.heap.size a c rows A Cp ∧ rows.length = i ∧ ∀ l ∈ rows, l.length = C ∧ ∀ x ∈ l, 0 ≤ x ∧ x ≤ 99
    refine loopX (fun m f w' => ∃ i : Nat, m = R - i ∧ i ≤ R ∧ f 9 = .int .i64 i ∧ S f w' (i * C) ∧ T f w' i) R ?_ fun m f w' ⟨i, hm, hi, a9, ⟨a0, a1, a2, a7, hc, gw, rw', hsz⟩, ⟨a, c, rows, A, Cp, a8, br, hrl, hrow⟩⟩ => ?_
    · refine ⟨0, by omega, by omega, by simp [upd_apply], ⟨by simp [upd_apply, a0], by simp [upd_apply, a1], by simp [upd_apply, a2], by simp [upd_apply, a7], hc.ext x4, Ext.fresh g3 x4, (r3.ext x4).le (by omega), x4.size⟩,
        ⟨_, _, [], fun _ => none, fun _ => 0, by simp [upd_apply], BRows.nil o4 (fun b hb => by simp [blk] at hb; omega) _ _, rfl, fun l hl => by simp at hl⟩⟩
    · by_cases hlt : (i : Int) < R
      · have hq : i * C + C ≤ R * C := by
          have := Nat.mul_le_mul_right C (show i + 1 ≤ R by omega)
          rw [Nat.add_mul, Nat.one_mul] at this; exact this
        simp (disch := omega) only [go_sem, Nat.reduceEqDiff, ↓reduceIte, a1, a9, hlt]
        refine bslK_0 elt_i fun w5 b5 e5 x5 o5 _ => ?_
        simp (disch := omega) only [go_sem, Nat.reduceEqDiff, ↓reduceIte]
        have hBw : B ≤ w'.heap.size := by omega
        have br0 := br
        have hhb' : hb < w'.heap.size := by omega
        have hrb' : rb < w.heap.size := by omega
        let I : F → World → Nat → Prop := fun f w'' j => f 9 = .int .i64 i ∧ f 8 = .slice a rows.length c ∧ f 11 = .int .i64 j ∧ S f w'' (i * C + j) ∧ w'.heap.size ≤ w''.heap.size ∧ BRows w'' 24 3 w3.heap.size a c rows A Cp ∧
          ∃ (l : List Int) (ra : Option Addr) (rc : Nat), f 10 = .slice ra j rc ∧ l.length = j ∧ OwnS w'' 3 1 ra j rc (vi l) ∧ (∀ b, blk ra = some b → w'.heap.size ≤ b) ∧ ∀ x ∈ l, 0 ≤ x ∧ x ≤ 99
        refine loopX (fun m f w'' => ∃ j : Nat, m = C - j ∧ j ≤ C ∧ I f w'' j) C ?_ fun m f w'' ⟨j, hm, hj, a9, a8, a11, ⟨a0, a1, a2, a7, hc, gw, rw', hsz⟩, hsz2, br, l, ra, rc, a10, hll, o, hfr, hx⟩ => ?_
        · exact ⟨0, by omega, by omega, by simp [upd_apply, a9], by simp [upd_apply, a8], by simp [upd_apply], ⟨by simp [upd_apply, a0], by simp [upd_apply, a1], by simp [upd_apply, a2], by simp [upd_apply, a7], hc.ext x5, Ext.fresh gw x5, (rw'.ext x5).le (by omega), Nat.le_trans hsz x5.size⟩, x5.size, br.ext x5,
            [], _, _, by simp [upd_apply], rfl, o5, fun b hb => by simp [blk] at hb; omega, fun x hx => by simp at hx⟩
        · by_cases hlt2 : (j : Int) < C
          · simp (disch := omega) only [go_sem, Nat.reduceEqDiff, ↓reduceIte, a2, a11, hlt2, a10, a7, a0]
            refine callK_of (by kernel_rfl) (pick_c rb B _ 8 _ rw' (by omega) (by omega)) ?_
            rintro _ w6 ⟨k, rfl, hk, g6, r6⟩
            have hk8 : k < 8 := by omega
            have hc6 := hc.grow g6 (by simp; omega)
            have ck := hc6 k hk8
            have hhk := hh k hk8
            simp (disch := omega) only [go_sem, Nat.reduceEqDiff, ↓reduceIte, ck]
            refine bslK_1 elt_i rfl fun w7 b7 e7 x7 k7 _ => ?_
            have o6 := o.grow g6 fun b hb e => by have := hfr b hb; simp at e; omega
            simp (disch := omega) only [go_sem, Nat.reduceEqDiff, ↓reduceIte]
            refine appK_1 elt_i (o6.ext x7) k7 rfl (by omega) (.inl (by decide)) fun w8 a' c' o8 g8 hf8 => ?_
            simp (disch := omega) only [go_sem, Nat.reduceEqDiff, ↓reduceIte, a11]
            have s6 := g6.size
            have s7 := x7.size
            have s8 := g8.size
            refine ⟨C - (j + 1), by omega, j + 1, rfl, by omega, by simp [upd_apply, a9], by simp [upd_apply, a8], by simp [upd_apply], ⟨by simp [upd_apply, a0], by simp [upd_apply, a1], by simp [upd_apply, a2], by simp [upd_apply, a7], ?_, ?_, ?_, by omega⟩, by omega, ?_, l ++ [h k], a', c', by simp [upd_apply], by simp [hll], by rw [← vi_snoc]; exact o8, ?_, ?_⟩
            · exact (hc6.ext x7).grow g8 fun e => by have := hfr _ e; omega
            · exact ((gw.trans g6).trans (x7.grow _)).fresh g8 fun b hb => by have := hfr b hb; have := gw.size; omega
            · exact ((r6.ext x7).fresh g8 fun b hb => by have := hfr b hb; omega).le (by omega)
            · exact ((br.low g6 (by omega)).ext x7).other g8 fun b _ hb e => by
                have := hfr b e
                have := br0.lt hb
                omega
            · intro b hb
              rcases hf8 b hb with h1 | h1
              · exact hfr b h1
              · omega
            · intro x hx'
              rcases List.mem_append.1 hx' with h1 | h1
              · exact hx x h1
              · simp at h1; subst h1; exact hhk
          · obtain rfl : j = C := by omega
            simp (disch := omega) only [go_sem, Nat.reduceEqDiff, ↓reduceIte, a2, a11, hlt2, a10, a8]
            refine bslK_1 elt_ii rfl fun w6 b6 e6 x6 k6 _ => ?_
            obtain ⟨xs, ox, hxs⟩ := (br.ext x6).top
            simp (disch := omega) only [go_sem, Nat.reduceEqDiff, ↓reduceIte]
            refine appK_1 elt_ii ox k6 rfl (by omega) (.inr ⟨by omega, by decide⟩) fun w7 a' c' o7 g7 hf7 => ?_
            simp (disch := omega) only [go_sem, Nat.reduceEqDiff, ↓reduceIte, a9]
            have s6 := x6.size
            have s7 := g7.size
            have ha7 : ∀ b, blk a = some b → w3.heap.size ≤ b := br.ha
            have far : ∀ b, blk ra = some b → w3.heap.size ≤ b ∧ blk a ≠ some b ∧ ∀ r, r < rows.length → blk (A r) ≠ some b := fun b hb =>
              ⟨by have := hfr b hb; omega, fun e => by have := hfr b hb; have := br0.lt (.inl e); omega, fun r hr e => by have := hfr b hb; have := br0.lt (.inr ⟨r, hr, e⟩); omega⟩
            have hN := o.ext x6
            rw [← hll] at hN o7
            refine ⟨R - (i + 1), by omega, i + 1, rfl, by omega, by simp [upd_apply], ⟨by simp [upd_apply, a0], by simp [upd_apply, a1], by simp [upd_apply, a2], by simp [upd_apply, a7], ?_, ?_, ?_, by omega⟩,
              a', c', rows ++ [l], _, _, ?_, (br.ext x6).push hN far ox hxs o7 g7 hf7 (by omega), by simp [hrl], ?_⟩
            · exact (hc.ext x6).grow g7 fun e => by have := ha7 _ e; omega
            · exact (Ext.fresh gw x6).fresh g7 fun b hb => by have := ha7 b hb; have := g3.size; omega
            · exact ((rw'.ext x6).fresh g7 fun b hb => by have := ha7 b hb; omega).le (by rw [Nat.add_mul, Nat.one_mul]; omega)
            · simp [upd_apply]
            · intro l' hl'
              rcases List.mem_append.1 hl' with h1 | h1
              · exact hrow l' h1
              · simp at h1; subst h1; exact ⟨hll, hx⟩
      · obtain rfl : i = R := by omega
        simp (disch := omega) only [go_sem, Nat.reduceEqDiff, ↓reduceIte, a0, a1, a9, hlt]
        refine callK_of (by kernel_rfl) (pick_c rb B _ 60 _ rw' (by omega) (by omega)) ?_
        rintro _ w6 ⟨k, rfl, hk, g6, r6⟩
        have br6 := br.low g6 (by omega)
        have s6 := g6.size
        have gw6 := gw.trans g6
        obtain ⟨xs, ox, hxs⟩ := br6.top
        obtain ⟨ob, rfl⟩ := ox.some (by omega)
        have h0 : 0 < rows.length := by omega
        have hl0 := hrow _ (getD_mem (d := []) h0)
        obtain ⟨b0, hA0⟩ := (br6.row 0 h0).some (by omega)
        have hob := br6.ha ob rfl
        have hb0 := (br6.far 0 h0 b0 (by rw [hA0]; rfl)).1
        have hrange : ∀ l ∈ rows, 1 ≤ l.length ∧ l.length ≤ 1001 ∧ ∀ x ∈ l, -1 ≤ x ∧ x ≤ 100 := fun l hl => by
          obtain ⟨h1, h2⟩ := hrow l hl
          exact ⟨by omega, by omega, fun x hx => by have := h2 x hx; omega⟩
        by_cases hk0 : k = 0
        · subst hk0
          simp (disch := omega) only [go_sem, Nat.reduceEqDiff, ↓reduceIte, Int.natCast_zero, beq_self_eq_true]
          refine QR_sch (some rb) (.st 0 (.st 1 (.st 2 (.st 4 (.alt (.ef 3 (.ef 5 (.st 6 (.st 7 (.st 8 (.fin 9 (.done))))))) (.ef 5 (.ef 3 (.st 6 (.st 7 (.st 8 (.fin 9 (.done)))))))))))) (by kernel_rfl) (by kernel_rfl) fun w7 x7 => ?_
          have c0 : w7.cell? ⟨ob, 0, none⟩ = some (.slice (some ⟨b0, 0, none⟩) (rows.getD 0 []).length (Cp 0)) := by rw [(ox.ext x7).cell (by omega), hxs 0 h0, hA0]
          simp (disch := omega) only [go_sem, Nat.reduceEqDiff, ↓reduceIte, a0, a8, c0]
          refine RLT_alt ?_ ?_
          · simp (disch := omega) only [go_sem, Nat.reduceEqDiff, ↓reduceIte]
            refine bslK_n [.int .i64 (-1), .int .i64 100, .int .i64 99] elt_i (by simp [Value.cells]) rfl (by omega) (by omega) rfl fun w8 b8 e8 x8 k8 _ => nxE_of (x8.grow _) ?_
            simp (disch := omega) only [go_sem, Nat.reduceEqDiff, ↓reduceIte, a0]
            refine callK_of (by kernel_rfl) (pick_c rb B _ 3 _ ((r6.ext x7).ext x8) (by omega) (by omega)) ?_
            rintro _ w9 ⟨k', rfl, hk', g9, r9⟩
            refine nxE_of g9 ?_
            have s7 := x7.size
            have br9 := (((br6.ext x7).ext x8).low g9 (by omega))
            have k9 := g9.blk k8 (by simp; omega)
            have gw9 := ((gw6.trans (x7.grow _)).trans (x8.grow _)).trans g9
            obtain ⟨y, hy, hy1, hy2⟩ : ∃ y : Int, w9.cell? ⟨b8, k', none⟩ = some (.int .i64 y) ∧ -1 ≤ y ∧ y ≤ 100 := by
              have : k' = 0 ∨ k' = 1 ∨ k' = 2 := by omega
              rcases this with rfl | rfl | rfl <;> exact ⟨_, by rw [k9.cell]; rfl, by omega, by omega⟩
            simp (disch := omega) only [go_sem, Nat.reduceEqDiff, ↓reduceIte, hy]
            have o9 := br9.row 0 h0
            rw [hA0] at o9
            refine stK_own siz_int (by rfl) (by rfl) o9 (by omega) fun w10 o10 g10 => ?_
            simp (disch := omega) only [go_sem, Nat.reduceEqDiff, ↓reduceIte, a8, Try.results102]
            have hB0 := g3.size
            rw [vi_set] at o10
            refine ⟨_, _, rows.set 0 ((rows.getD 0 []).set 0 y), A, Cp, by rw [List.length_set], ⟨(br9.setRow h0 (by simp) (by rw [hA0, List.length_set]; exact o10) (by rw [hA0]; exact g10.grow)).up (by omega), by rw [List.length_set]; exact hrl, fun l hl => ?_, fun r hr => ?_⟩,
              gw9.fresh g10.grow (fun b hb => by simp at hb; omega), (r9.fresh g10.grow (fun b hb => by simp at hb; omega)).le (by omega)⟩
            rcases List.mem_or_eq_of_mem_set hl with h1 | rfl
            · exact hrange l h1
            · refine ⟨by rw [List.length_set]; omega, by rw [List.length_set]; omega, fun x hx' => ?_⟩
              rcases List.mem_or_eq_of_mem_set hx' with h1 | rfl
              · have := hl0.2 x h1; omega
              · omega
            · rw [List.length_set] at hr
              rw [set_row _ _ _ _ hr, set_row _ _ _ _ h0, if_pos rfl]
              have := (hrow _ (getD_mem (d := []) hr)).1
              split <;> rw [List.length_set] <;> omega
          · simp (disch := omega) only [go_sem, Nat.reduceEqDiff, ↓reduceIte, a0]
            refine callK_of (by kernel_rfl) (pick_c rb B _ 3 _ (r6.ext x7) (by omega) (by omega)) ?_
            rintro _ w8 ⟨k', rfl, hk', g9, r9⟩
            refine nxE_of g9 ?_
            simp (disch := omega) only [go_sem, Nat.reduceEqDiff, ↓reduceIte]
            refine bslK_n [.int .i64 (-1), .int .i64 100, .int .i64 99] elt_i (by simp [Value.cells]) rfl (by omega) (by omega) rfl fun w9 b8 e8 x8 k9 _ => nxE_of (x8.grow _) ?_
            have s7 := x7.size
            have s9 := g9.size
            have br9 := (((br6.ext x7).low g9 (by omega)).ext x8)
            have gw9 := ((gw6.trans (x7.grow _)).trans g9).trans (x8.grow _)
            have r9 := r9.ext x8
            obtain ⟨y, hy, hy1, hy2⟩ : ∃ y : Int, w9.cell? ⟨b8, k', none⟩ = some (.int .i64 y) ∧ -1 ≤ y ∧ y ≤ 100 := by
              have : k' = 0 ∨ k' = 1 ∨ k' = 2 := by omega
              rcases this with rfl | rfl | rfl <;> exact ⟨_, by rw [k9.cell]; rfl, by omega, by omega⟩
            simp (disch := omega) only [go_sem, Nat.reduceEqDiff, ↓reduceIte, hy]
            have o9 := br9.row 0 h0
            rw [hA0] at o9
            refine stK_own siz_int (by rfl) (by rfl) o9 (by omega) fun w10 o10 g10 => ?_
            simp (disch := omega) only [go_sem, Nat.reduceEqDiff, ↓reduceIte, a8, Try.results102]
            have hB0 := g3.size
            rw [vi_set] at o10
            refine ⟨_, _, rows.set 0 ((rows.getD 0 []).set 0 y), A, Cp, by rw [List.length_set], ⟨(br9.setRow h0 (by simp) (by rw [hA0, List.length_set]; exact o10) (by rw [hA0]; exact g10.grow)).up (by omega), by rw [List.length_set]; exact hrl, fun l hl => ?_, fun r hr => ?_⟩,
              gw9.fresh g10.grow (fun b hb => by simp at hb; omega), (r9.fresh g10.grow (fun b hb => by simp at hb; omega)).le (by omega)⟩
            rcases List.mem_or_eq_of_mem_set hl with h1 | rfl
            · exact hrange l h1
            · refine ⟨by rw [List.length_set]; omega, by rw [List.length_set]; omega, fun x hx' => ?_⟩
              rcases List.mem_or_eq_of_mem_set hx' with h1 | rfl
              · have := hl0.2 x h1; omega
              · omega
            · rw [List.length_set] at hr
              rw [set_row _ _ _ _ hr, set_row _ _ _ _ h0, if_pos rfl]
              have := (hrow _ (getD_mem (d := []) hr)).1
              split <;> rw [List.length_set] <;> omega
        · have ne0 : ((k : Int) == 0) = false := by simp [hk0]
          by_cases hk1 : k = 1
          · subst hk1
            have e1 : ((1 : Nat) : Int) == 1 := rfl
            have eq1 : ((i : Int) - 1) = ((i - 1 : Nat) : Int) := by omega
            have hq : i - 1 < rows.length := by omega
            have hlq := hrow _ (getD_mem (d := []) hq)
            obtain ⟨bq, hAq⟩ := (br6.row (i - 1) hq).some (by omega)
            have cq : w6.cell? ⟨ob, i - 1, none⟩ = some (.slice (some ⟨bq, 0, none⟩) (rows.getD (i - 1) []).length (Cp (i - 1))) := by rw [ox.cell (by omega), hxs _ hq, hAq]
            simp (disch := omega) only [go_sem, Nat.reduceEqDiff, ↓reduceIte, ne0, e1, a8, a1, eq1, cq]
            refine bslK_1 elt_i rfl fun w7 b7 e7 x7 k7 _ => ?_
            have s7 := x7.size
            have br7 := br6.ext x7
            have oq := br7.row (i - 1) hq
            rw [hAq] at oq
            simp (disch := omega) only [go_sem, Nat.reduceEqDiff, ↓reduceIte]
            refine appK_1 elt_i oq k7 rfl (by omega) (.inl (by decide)) fun w8 a' c' o8 g8 hf8 => ?_
            simp (disch := omega) only [go_sem, Nat.reduceEqDiff, ↓reduceIte]
            have hbq := br6.far (i - 1) hq bq (by rw [hAq]; rfl)
            have ox7 := ox.ext x7
            have s8 := g8.size
            refine stK_own siz_i (by rfl) (by rfl) (ox7.grow g8 (fun b hb e => hbq.2 (by simp [blk] at e hb ⊢; omega))) (by omega) fun w9 o9 g9 => ?_
            simp (disch := omega) only [go_sem, Nat.reduceEqDiff, ↓reduceIte, a8, Try.results102]
            have hB0 := g3.size
            have hlen : (rows.getD (i - 1) [] ++ [(3 : Int)]).length = (rows.getD (i - 1) []).length + 1 := by simp
            rw [vi_snoc, ← hlen] at o8
            rw [← hlen] at o9
            refine ⟨_, _, rows.set (i - 1) (rows.getD (i - 1) [] ++ [3]), _, _, by rw [List.length_set], ⟨(br7.put hq o8 (by rw [hAq]; exact g8) (by rw [hAq]; exact hf8) (by omega) hxs ox7 o9 g9.grow).up (by omega), by rw [List.length_set]; exact hrl, fun l hl => ?_, fun r hr => ?_⟩,
              ((gw6.trans (x7.grow _)).fresh g8 (fun b hb => by simp [blk] at hb; omega)).fresh g9.grow (fun b hb => by simp at hb; omega),
              (((r6.ext x7).fresh g8 (fun b hb => by simp [blk] at hb; omega)).fresh g9.grow (fun b hb => by simp at hb; omega)).le (by omega)⟩
            rcases List.mem_or_eq_of_mem_set hl with h1 | rfl
            · exact hrange l h1
            · refine ⟨by simp, by rw [hlen]; omega, fun x hx' => ?_⟩
              rcases List.mem_append.1 hx' with h1 | h1
              · have := hlq.2 x h1; omega
              · simp at h1; omega
            · rw [List.length_set] at hr
              rw [set_row _ _ _ _ hr, set_row _ _ _ _ h0]
              have := (hrow _ (getD_mem (d := []) hr)).1
              by_cases er : r = i - 1
              · rw [if_pos er, hlen]; split
                · rw [hlen]; omega
                · omega
              · rw [if_neg er, if_neg (by omega)]; omega
          · have ne1 : ((k : Int) == 1) = false := by simp; omega
            simp (disch := omega) only [go_sem, Nat.reduceEqDiff, ↓reduceIte, ne0, ne1, a8, Try.results102]
            exact ⟨_, _, rows, A, Cp, rfl, ⟨br6.up g3.size, hrl, hrange, fun r hr => by have := (hrow _ (getD_mem (d := []) hr)).1; omega⟩, gw6, r6.le (by omega)⟩
  · refine cd_of (fun he => ?_) fun he => ?_
    · simp (disch := omega) only [go_sem, Nat.reduceEqDiff, ↓reduceIte]
      refine bslK_n [.int .i64 0, .int .i64 10, .int .i64 25, .int .i64 40, .int .i64 55, .int .i64 70, .int .i64 99, .int .i64 12] elt_i (by simp [Value.cells]) rfl (by omega) (by omega) rfl fun w3 h3 eh3 x3 k3 _ => ?_
      simp (disch := omega) only [go_sem, Nat.reduceEqDiff, ↓reduceIte]
      refine ⟨by simp [upd_apply, a0], by simp [upd_apply, a1], by simp [upd_apply, a2], h3, fun i => [0, 10, 25, 40, 55, 70, 99, 12].getD i 0, by simp [upd_apply], by have := g2.size; have := x1.size; omega, ?_, ?_, Ext.fresh ((x1.grow _).trans g2) x3, r2.ext x3⟩
      · intro i hi
        rw [k3.cell]
        have : i = 0 ∨ i = 1 ∨ i = 2 ∨ i = 3 ∨ i = 4 ∨ i = 5 ∨ i = 6 ∨ i = 7 := by omega
        rcases this with rfl | rfl | rfl | rfl | rfl | rfl | rfl | rfl <;> rfl
      · intro i hi
        have : i = 0 ∨ i = 1 ∨ i = 2 ∨ i = 3 ∨ i = 4 ∨ i = 5 ∨ i = 6 ∨ i = 7 := by omega
        rcases this with rfl | rfl | rfl | rfl | rfl | rfl | rfl | rfl <;> decide
    · simp (disch := omega) only [go_sem, Nat.reduceEqDiff, ↓reduceIte]
      refine ⟨by simp [upd_apply, a0], by simp [upd_apply, a1], by simp [upd_apply, a2], h1, fun i => [1, 2, 3, 4, 6, 9, 5, 2].getD i 0, by simp [upd_apply], by omega, ?_, ?_, (x1.grow _).trans g2, r2⟩
      · intro i hi
        rw [(g2.blk k1 (by simp; omega)).cell]
        have : i = 0 ∨ i = 1 ∨ i = 2 ∨ i = 3 ∨ i = 4 ∨ i = 5 ∨ i = 6 ∨ i = 7 := by omega
        rcases this with rfl | rfl | rfl | rfl | rfl | rfl | rfl | rfl <;> rfl
      · intro i hi
        have : i = 0 ∨ i = 1 ∨ i = 2 ∨ i = 3 ∨ i = 4 ∨ i = 5 ∨ i = 6 ∨ i = 7 := by omega
        rcases this with rfl | rfl | rfl | rfl | rfl | rfl | rfl | rfl <;> decide

theorem Drawn.other {ob : Option Nat} {w w' : World} {B R c : Nat} {a : Option Addr} {rows : List (List Int)} {A : Nat → Option Addr} {Cp : Nat → Nat} (h : Drawn w B R a c rows A Cp) (g : Grow ob w w') (hb : ∀ b, ob = some b → b < B) : Drawn w' B R a c rows A Cp :=
  ⟨h.b.other g fun b hB _ e => by have := hb b e; omega, h.len, h.row, h.wide⟩
theorem Drawn.ext {w w' : World} {B R c : Nat} {a : Option Addr} {rows : List (List Int)} {A : Nat → Option Addr} {Cp : Nat → Nat} (h : Drawn w B R a c rows A Cp) (e : Ext w w') : Drawn w' B R a c rows A Cp := ⟨h.b.ext e, h.len, h.row, h.wide⟩
theorem Drawn.at {w : World} {B R c : Nat} {a : Option Addr} {rows : List (List Int)} {A : Nat → Option Addr} {Cp : Nat → Nat} (h : Drawn w B R a c rows A Cp) (hR : R ≤ 1000) : RowsAt w a rows A Cp :=
  h.b.at (fun l hl x hx => by have := (h.row l hl).2.2 x hx; simp [I64]; omega) (by rw [h.len]; simp [maxLen]; omega) (fun l hl => by have := (h.row l hl).2.1; simp [maxLen]; omega)

theorem l91Grid_c (rb B lim : Nat) (w : World) (hr : Rdr w rb B lim) (hB : B ≤ w.heap.size) (hl : lim ≤ 10000000) :
    Ret Try.prog 68 #[.pointer (some ⟨rb, 0, none⟩)] w fun v w' => ∃ a c rows A Cp R, v = .slice a rows.length c ∧ 1 ≤ R ∧ R ≤ 5 ∧ Drawn w' w.heap.size R a c rows A Cp ∧ Grow (some rb) w w' ∧ Rdr w' rb B (lim + 100) := by
  refine enter1 Try.func68 rfl (by kernel_rfl) (of_decide_eq_true (by kernel_rfl)) fun f a0 => ?_
  simp (disch := omega) only [go_sem, Nat.reduceEqDiff, ↓reduceIte, a0]
  refine callK_of (by kernel_rfl) (pick_c rb B lim 5 _ hr (by omega) (by omega)) ?_
  rintro _ w1 ⟨k, rfl, hk, g1, r1⟩
  have e1 : (1 : Int) + (k : Int) = ((1 + k : Nat) : Int) := by omega
  simp (disch := omega) only [go_sem, Nat.reduceEqDiff, ↓reduceIte, a0, e1]
  refine callK_of (by kernel_rfl) (pick_c rb B _ 5 _ r1 (by omega) (by omega)) ?_
  rintro _ w2 ⟨j, rfl, hj, g2, r2⟩
  have e2 : (1 : Int) + (j : Int) = ((1 + j : Nat) : Int) := by omega
  simp (disch := omega) only [go_sem, Nat.reduceEqDiff, ↓reduceIte, a0, e2]
  have s1 := g1.size
  have s2 := g2.size
  refine callK_of (by kernel_rfl) (l91Rough_c rb B _ (1 + k) (1 + j) _ r2 (by omega) (by omega) (by omega) (by omega) (by omega) (by omega)) ?_
  rintro _ w3 ⟨a, c, rows, A, Cp, rfl, d, g3, r3⟩
  simp (disch := omega) only [go_sem, Nat.reduceEqDiff, ↓reduceIte, Try.results68]
  have hRC : (1 + k) * (1 + j) ≤ 5 * 5 := Nat.mul_le_mul (by omega) (by omega)
  exact ⟨a, c, rows, A, Cp, 1 + k, rfl, by omega, by omega, ⟨d.b.up (by omega), d.len, d.row, d.wide⟩, (g1.trans g2).trans g3, r3.le (by omega)⟩

theorem l91Level_c (rb B lim : Nat) (w : World) (hr : Rdr w rb B lim) (hB : B ≤ w.heap.size) (hl : lim ≤ 1000000) :
    Ret Try.prog 117 #[.pointer (some ⟨rb, 0, none⟩)] w fun v w' => ∃ a c rows A Cp R lv, v = .tuple #[.slice a rows.length c, .int .i64 lv] ∧ 1 ≤ R ∧ R ≤ 5 ∧ -2 ≤ lv ∧ lv ≤ 102 ∧ Drawn w' w.heap.size R a c rows A Cp ∧ Grow (some rb) w w' ∧ Rdr w' rb B (lim + 110) := by
  have hrb := hr.below
  refine enter1 Try.func117 rfl (by kernel_rfl) (of_decide_eq_true (by kernel_rfl)) fun f a0 => ?_
  simp (disch := omega) only [go_sem, Nat.reduceEqDiff, ↓reduceIte, a0]
  refine callK_of (by kernel_rfl) (l91Grid_c rb B lim _ hr hB (by omega)) ?_
  rintro _ w1 ⟨a, c, rows, A, Cp, R, rfl, hR1, hR5, d, g1, r1⟩
  have s1 := g1.size
  simp (disch := omega) only [go_sem, Nat.reduceEqDiff, ↓reduceIte, a0]
  refine callK_of (by kernel_rfl) (pick_c rb B _ 12 _ r1 (by omega) (by omega)) ?_
  rintro _ w2 ⟨k, rfl, hk, g2, r2⟩
  have s2 := g2.size
  have d2 := d.other g2 fun b hb => by simp at hb; omega
  by_cases hk0 : k = 0
  · subst hk0
    simp (disch := omega) only [go_sem, Nat.reduceEqDiff, ↓reduceIte, Int.natCast_zero, beq_self_eq_true]
    refine QR_sch (some rb) (.st 0 (.st 2 (.alt (.ef 1 (.ef 3 (.st 4 (.st 5 (.st 6 (.st 7 (.done))))))) (.ef 3 (.st 6 (.ef 1 (.st 4 (.st 5 (.st 7 (.done)))))))))) (by kernel_rfl) (by kernel_rfl) fun w3 x3 => ?_
    have s3 := x3.size
    have val : ∀ {w : World} {b : Nat} (k : Nat), k < 4 → Blk w b #[.int .i64 (-1), .int .i64 100, .int .i64 99, .int .i64 0] 3 → ∃ y : Int, w.cell? ⟨b, k, none⟩ = some (.int .i64 y) ∧ -1 ≤ y ∧ y ≤ 100 := fun k hk kb => by
      have : k = 0 ∨ k = 1 ∨ k = 2 ∨ k = 3 := by omega
      rcases this with rfl | rfl | rfl | rfl <;> exact ⟨_, by rw [kb.cell]; rfl, by omega, by omega⟩
    simp (disch := omega) only [go_sem, Nat.reduceEqDiff, ↓reduceIte, a0]
    refine RLT_alt ?_ ?_
    · simp (disch := omega) only [go_sem, Nat.reduceEqDiff, ↓reduceIte]
      refine bslK_n [.int .i64 (-1), .int .i64 100, .int .i64 99, .int .i64 0] elt_i (by simp [Value.cells]) rfl (by omega) (by omega) rfl fun w4 b4 e4 x4 k4 _ => nxE_of (x4.grow _) ?_
      simp (disch := omega) only [go_sem, Nat.reduceEqDiff, ↓reduceIte, a0]
      refine callK_of (by kernel_rfl) (pick_c rb B _ 4 _ ((r2.ext x3).ext x4) (by omega) (by omega)) ?_
      rintro _ w5 ⟨k', rfl, hk', g5, r5⟩
      refine nxE_of g5 ?_
      obtain ⟨y, hy, hy1, hy2⟩ := val k' (by omega) (g5.blk k4 (by simp; omega))
      simp (disch := omega) only [go_sem, Nat.reduceEqDiff, ↓reduceIte, hy, Try.results117]
      exact ⟨a, c, rows, A, Cp, R, y, rfl, hR1, hR5, by omega, by omega, (((d2.ext x3).ext x4).other g5 fun b hb => by simp at hb; omega), (((g1.trans g2).trans (x3.grow _)).trans (x4.grow _)).trans g5, r5.le (by omega)⟩
    · simp (disch := omega) only [go_sem, Nat.reduceEqDiff, ↓reduceIte, a0]
      refine callK_of (by kernel_rfl) (pick_c rb B _ 4 _ (r2.ext x3) (by omega) (by omega)) ?_
      rintro _ w4 ⟨k', rfl, hk', g5, r5⟩
      refine nxE_of g5 ?_
      simp (disch := omega) only [go_sem, Nat.reduceEqDiff, ↓reduceIte]
      refine bslK_n [.int .i64 (-1), .int .i64 100, .int .i64 99, .int .i64 0] elt_i (by simp [Value.cells]) rfl (by omega) (by omega) rfl fun w5 b4 e4 x4 k4 _ => nxE_of (x4.grow _) ?_
      obtain ⟨y, hy, hy1, hy2⟩ := val k' (by omega) k4
      have s5 := g5.size
      simp (disch := omega) only [go_sem, Nat.reduceEqDiff, ↓reduceIte, hy, Try.results117]
      exact ⟨a, c, rows, A, Cp, R, y, rfl, hR1, hR5, by omega, by omega, (((d2.ext x3).other g5 fun b hb => by simp at hb; omega).ext x4), (((g1.trans g2).trans (x3.grow _)).trans g5).trans (x4.grow _), (r5.ext x4).le (by omega)⟩
  · have ne0 : ((k : Int) == 0) = false := by simp [hk0]
    have hn := d.len
    simp (disch := omega) only [go_sem, Nat.reduceEqDiff, ↓reduceIte, ne0, a0]
    refine callK_of (by kernel_rfl) (pick_c rb B _ rows.length _ r2 (by omega) (by omega)) ?_
    rintro _ w3 ⟨q, rfl, hq, g3, r3⟩
    simp (disch := omega) only [go_sem, Nat.reduceEqDiff, ↓reduceIte]
    refine QR_sch (some rb) (.st 0 (.st 1 (.st 2 (.st 3 (.st 4 (.st 5 (.st 6 (.st 7 (.st 8 (.st 9 (.st 13 (.ef 10 (.st 11 (.st 12 (.ef 14 (.st 15 (.st 16 (.st 17 (.done))))))))))))))))))) (by kernel_rfl) (by kernel_rfl) fun w4 x4 => ?_
    have s3 := g3.size
    have s4 := x4.size
    have d4 := (d2.other g3 fun b hb => by simp at hb; omega).ext x4
    obtain ⟨xs, ox, hxs⟩ := d4.b.top
    obtain ⟨ob, rfl⟩ := ox.some (by omega)
    have hob := d4.b.ha ob rfl
    have hq' : q < rows.length := by omega
    have hw := d4.wide q hq'
    have hl0 := d4.row _ (getD_mem (d := []) (show 0 < rows.length by omega))
    have hlq := d4.row _ (getD_mem (d := []) hq')
    have oq := d4.b.row q hq'
    obtain ⟨bq, hAq⟩ := oq.some (by omega)
    rw [hAq] at oq
    have hbq := (d4.b.far q hq' bq (by rw [hAq]; rfl)).1
    have c0 : w4.cell? ⟨ob, 0, none⟩ = some (.slice (A 0) (rows.getD 0 []).length (Cp 0)) := by rw [ox.cell (by omega), hxs 0 (by omega)]
    have cq : w4.cell? ⟨ob, q, none⟩ = some (.slice (some ⟨bq, 0, none⟩) (rows.getD q []).length (Cp q)) := by rw [ox.cell (by omega), hxs q hq', hAq]
    simp (disch := omega) only [go_sem, Nat.reduceEqDiff, ↓reduceIte, a0, c0, cq]
    refine callK_of (by kernel_rfl) (pick_c rb B _ (rows.getD 0 []).length _ (r3.ext x4) (by omega) (by omega)) ?_
    rintro _ w5 ⟨j, rfl, hj, g5, r5⟩
    refine nxE_of g5 ?_
    have s5 := g5.size
    have cj : w5.cell? ⟨bq, j, none⟩ = some (.int .i64 ((rows.getD q []).getD j 0)) := by
      rw [(oq.grow g5 fun b hb e => by simp [blk] at hb e; omega).cell (by omega), vi_get _ _ (by omega)]
    have hy := hlq.2.2 _ (getD_mem (d := 0) (show j < (rows.getD q []).length by omega))
    simp (disch := omega) only [go_sem, Nat.reduceEqDiff, ↓reduceIte, cj]
    refine callK_of (by kernel_rfl) (pick_c rb B _ 2 _ r5 (by omega) (by omega)) ?_
    rintro _ w6 ⟨u, rfl, hu, g6, r6⟩
    refine nxE_of g6 ?_
    simp (disch := omega) only [go_sem, Nat.reduceEqDiff, ↓reduceIte, Try.results117]
    exact ⟨_, c, rows, A, Cp, R, _, rfl, hR1, hR5, by omega, by omega, ((d4.other g5 fun b hb => by simp at hb; omega).other g6 fun b hb => by simp at hb; omega), ((((g1.trans g2).trans g3).trans (x4.grow _)).trans g5).trans g6, r6.le (by omega)⟩

end Go.Proofs.Ytlnodngkacbfkaa
