/- impl.GridFrom at the text of a grid. -/
import Derived.Test.YtgdopjkanibfeaaGreatDoorUi
set_option linter.all false
set_option maxRecDepth 20000
namespace Go.SW
open Go Go.RowKit
theorem BRows.low' {w : World} {eo ei B c : Nat} {a : Option Addr} {rows : List (List Int)} {A : Nat → Option Addr} {Cp : Nat → Nat} (h : BRows w eo ei B a c rows A Cp) : ∀ b, (blk a = some b ∨ ∃ r, r < rows.length ∧ blk (A r) = some b) → b < w.heap.size := fun b hb => h.lt hb
theorem take_full {α : Type} (l : List α) {n : Nat} (h : l.length = n) : l.take n = l := by rw [← h, List.take_length]
end Go.SW
namespace Go.Proofs.YtgdopjkanibfeaaGreatDoor
open Go.RowKit Go.SW

theorem implGridFrom_c (rows : List (List Int)) (hgv : gvalid rows = true) (w : World) :
    Ret Tryz.prog 97 #[.string (bs (gtext rows))] w fun u w' => ∃ b A', u = .tuple #[.slice (some ⟨b, 0, none⟩) rows.length rows.length, .bool true] ∧ Ext w w' ∧ OwnRows w' 25 3 w.heap.size b rows A' := by
  have v := (gvalid_iff rows).1 hgv
  have hR1 := v.r1
  have hR7 := v.r7
  have hC1 := v.c1
  have hC7 := v.c7
  have hgl := v.gt_len
  have hsl : (spl 47 (gtext rows)).length = rows.length := by rw [spl_gtext v.ne v.rng, List.length_map]
  have h147 : ¬ (147 : Int) < ((gtext rows).length : Int) := by omega
  refine enter1 Tryz.func97 rfl (by kernel_rfl) (of_decide_eq_true (by kernel_rfl)) fun f a0 => ?_
  simp (disch := omega) only [go_sem, Nat.reduceEqDiff, ↓reduceIte, Nat.reduceAdd, a0, h147]
  refine bslK_0 elt_ii fun w1 b0 e0 x0 o0 _ => ?_
  simp (disch := omega) only [go_sem, Nat.reduceEqDiff, ↓reduceIte, Nat.reduceAdd, a0]
  refine callK_of (by kernel_rfl) (split_c (gtext rows) 47 _ (by omega)) ?_
  rintro _ w2 ⟨sb, rfl, x2, esb, ks⟩
  rw [spl_gtext v.ne v.rng] at ks
  rw [hsl]
  have x12 := x0.trans x2
  have s1 := x0.size
  simp (disch := omega) only [go_sem, Nat.reduceEqDiff, ↓reduceIte, Nat.reduceAdd]
  refine loopN rows.length (fun k f W => f 19 = .slice (some ⟨sb, 0, none⟩) rows.length rows.length ∧ f 20 = .int .i64 rows.length ∧ f 21 = .int .i64 k ∧ Ext w W ∧ Blk W sb (vst (rows.map rtext)).toArray 9 ∧ ∃ a c rs A Cp, rs = rows.take k ∧ f 4 = .slice a rs.length c ∧ BRows W 25 3 w.heap.size a c rs A Cp ∧ ∀ b, (blk a = some b ∨ ∃ r, r < rs.length ∧ blk (A r) = some b) → b ≠ sb)
    ⟨(by first | assumption | (simp only [upd_apply, Nat.reduceEqDiff, ↓reduceIte] <;> first | rfl | assumption) | simp [upd_apply, *]), (by first | assumption | (simp only [upd_apply, Nat.reduceEqDiff, ↓reduceIte] <;> first | rfl | assumption) | simp [upd_apply, *]), (by first | assumption | (simp only [upd_apply, Nat.reduceEqDiff, ↓reduceIte] <;> first | rfl | assumption) | simp [upd_apply, *]), x12, ks, _, _, [], fun _ => none, fun _ => 0, rfl, by simp only [upd_apply, Nat.reduceEqDiff, ↓reduceIte]; rfl, (BRows.nil o0 (fun b hb => by simp [blk] at hb; omega) _ _).ext x2, fun b hb => by
      rcases hb with hb | ⟨r, hr, _⟩
      · simp [blk] at hb; omega
      · simp at hr⟩ fun k f W hk ⟨a19, a20, a21, xw, ks, oa, oc, rs, A', Cp', hrs, a4, br, hsb⟩ => ?_
  have hrl : rs.length = k := by rw [hrs, List.length_take]; omega
  by_cases hlt : (k : Int) < (rows.length : Int)
  · have hkR : k < rows.length := by omega
    have hrow := v.len k hkR
    have hmem : rows.getD k [] ∈ rows := getD_mem hkR
    have hrg := v.rng _ hmem
    have hne : rows.getD k [] ≠ [] := fun e => by rw [e] at hrow; simp at hrow; omega
    have hcell : W.cell? ⟨sb, k, none⟩ = some (.string (bs (rtext (rows.getD k [])))) := by
      rw [vst_cell ks (by simpa using hkR)]
      simp [hkR]
    have hsl2 : (spl 32 (rtext (rows.getD k []))).length = rowLen rows := by rw [spl_rtext hne hrg, List.length_map, hrow]
    have hrtl : (rtext (rows.getD k [])).length ≤ 1000 := by
      have := jn_len (c := 32) (L := (rows.getD k []).map c2) (m := 2) fun t ht => by
        obtain ⟨a, _, rfl⟩ := List.mem_map.1 ht
        exact Nat.le_refl _
      rw [List.length_map] at this
      unfold rtext; omega
    simp (disch := omega) only [go_sem, Nat.reduceEqDiff, ↓reduceIte, Nat.reduceAdd, a19, a20, a21, hlt, hcell]
    refine bslK_0 elt_i fun w5 b5 e5 x5 o5 _ => ?_
    have s5 := x5.size
    have sw := xw.size
    simp (disch := omega) only [go_sem, Nat.reduceEqDiff, ↓reduceIte, Nat.reduceAdd]
    refine callK_of (by kernel_rfl) (split_c (rtext (rows.getD k [])) 32 _ (by omega)) ?_
    rintro _ w6 ⟨sb2, rfl, x6, esb2, ks2⟩
    rw [spl_rtext hne hrg] at ks2
    rw [hsl2]
    have s6 := x6.size
    have x56 := x5.trans x6
    have hlow := br.low'
    generalize hrowk : rows.getD k [] = row at *
    simp (disch := omega) only [go_sem, Nat.reduceEqDiff, ↓reduceIte, Nat.reduceAdd]
    refine loopN (rowLen rows) (fun j f W' => f 4 = .slice oa rs.length oc ∧ f 19 = .slice (some ⟨sb, 0, none⟩) rows.length rows.length ∧ f 20 = .int .i64 rows.length ∧ f 21 = .int .i64 k ∧ f 27 = .slice (some ⟨sb2, 0, none⟩) (rowLen rows) (rowLen rows) ∧ f 28 = .int .i64 (rowLen rows) ∧ f 29 = .int .i64 j ∧ Ext W W' ∧ Blk W' sb2 (vst (row.map c2)).toArray 9 ∧ BRows W' 25 3 w.heap.size oa oc rs A' Cp' ∧ ∃ ra rc, f 7 = .slice ra j rc ∧ OwnS W' 3 1 ra j rc (vi (row.take j)) ∧ ∀ b, blk ra = some b → W.heap.size ≤ b ∧ b ≠ sb2)
      ⟨(by first | assumption | (simp only [upd_apply, Nat.reduceEqDiff, ↓reduceIte] <;> first | rfl | assumption) | simp [upd_apply, *]), (by first | assumption | (simp only [upd_apply, Nat.reduceEqDiff, ↓reduceIte] <;> first | rfl | assumption) | simp [upd_apply, *]), (by first | assumption | (simp only [upd_apply, Nat.reduceEqDiff, ↓reduceIte] <;> first | rfl | assumption) | simp [upd_apply, *]), (by first | assumption | (simp only [upd_apply, Nat.reduceEqDiff, ↓reduceIte] <;> first | rfl | assumption) | simp [upd_apply, *]), (by first | assumption | (simp only [upd_apply, Nat.reduceEqDiff, ↓reduceIte] <;> first | rfl | assumption) | simp [upd_apply, *]), (by first | assumption | (simp only [upd_apply, Nat.reduceEqDiff, ↓reduceIte] <;> first | rfl | assumption) | simp [upd_apply, *]), (by first | assumption | (simp only [upd_apply, Nat.reduceEqDiff, ↓reduceIte] <;> first | rfl | assumption) | simp [upd_apply, *]), x56, ks2, br.ext x56, _, _, by simp only [upd_apply, Nat.reduceEqDiff, ↓reduceIte]; rfl, by simpa [vi] using o5.ext x6, fun b hb => by simp [blk] at hb; omega⟩ fun j f W' hj ⟨a4, a19, a20, a21, a27, a28, a29, xi, ks2, br, ra, rc, a7, orow, hra⟩ => ?_
    have si := xi.size
    by_cases hlj : (j : Int) < (rowLen rows : Int)
    · have hjC : j < row.length := by omega
      have hrj := hrg _ (getD_mem (d := 0) hjC)
      have hcj : W'.cell? ⟨sb2, j, none⟩ = some (.string (bs (c2 (row.getD j 0)))) := by
        rw [vst_cell ks2 (by simpa using hjC)]
        simp [hjC]
      simp (disch := omega) only [go_sem, Nat.reduceEqDiff, ↓reduceIte, Nat.reduceAdd, a27, a28, a29, hlj, hcj]
      refine callK_pure (by kernel_rfl) (twoDigits_c (row.getD j 0) hrj _) fun w7 x7 => ?_
      simp (disch := omega) only [go_sem, Nat.reduceEqDiff, ↓reduceIte, Nat.reduceAdd, a7]
      refine bslK_1 elt_i rfl fun w8 b8 e8 x8 k8 _ => ?_
      have s7 := x7.size
      have s8 := x8.size
      simp (disch := omega) only [go_sem, Nat.reduceEqDiff, ↓reduceIte, Nat.reduceAdd, a7]
      refine appK_1 elt_i ((orow.ext x7).ext x8) k8 rfl (by omega) (.inl (by decide)) fun w9 a9 c9 o9 g9 h9 => ?_
      have l2 := ks2.lt
      have et : vi (row.take j) ++ [Value.int .i64 (row.getD j 0)] = vi (row.take (j + 1)) := by rw [take_snoc 0 hjC, vi_snoc]
      rw [et] at o9
      simp (disch := omega) only [go_sem, Nat.reduceEqDiff, ↓reduceIte, Nat.reduceAdd, a29]
      refine ⟨by omega, (by first | assumption | (simp only [upd_apply, Nat.reduceEqDiff, ↓reduceIte] <;> first | rfl | assumption) | simp [upd_apply, *]), (by first | assumption | (simp only [upd_apply, Nat.reduceEqDiff, ↓reduceIte] <;> first | rfl | assumption) | simp [upd_apply, *]), (by first | assumption | (simp only [upd_apply, Nat.reduceEqDiff, ↓reduceIte] <;> first | rfl | assumption) | simp [upd_apply, *]), (by first | assumption | (simp only [upd_apply, Nat.reduceEqDiff, ↓reduceIte] <;> first | rfl | assumption) | simp [upd_apply, *]), (by first | assumption | (simp only [upd_apply, Nat.reduceEqDiff, ↓reduceIte] <;> first | rfl | assumption) | simp [upd_apply, *]), (by first | assumption | (simp only [upd_apply, Nat.reduceEqDiff, ↓reduceIte] <;> first | rfl | assumption) | simp [upd_apply, *]), (by first | assumption | (simp only [upd_apply, Nat.reduceEqDiff, ↓reduceIte] <;> first | rfl | assumption) | simp [upd_apply, *]), g9.ext ((xi.trans x7).trans x8) (fun b hb => (hra b hb).1), g9.blk ((ks2.ext x7).ext x8) (fun e => (hra _ e).2 rfl), ((br.ext x7).ext x8).other g9 (fun b _ hb e => by have := hlow b hb; have := (hra b e).1; omega), a9, c9, (by first | assumption | (simp only [upd_apply, Nat.reduceEqDiff, ↓reduceIte] <;> first | rfl | assumption) | simp [upd_apply, *]), o9, fun b hb => ?_⟩
      rcases h9 b hb with h | h
      · exact hra b h
      · omega
    · obtain rfl : j = rowLen rows := by omega
      rw [take_full row hrow] at orow
      simp (disch := omega) only [go_sem, Nat.reduceEqDiff, ↓reduceIte, Nat.reduceAdd, a28, a29, hlj, a4, a7]
      refine bslK_1 elt_ii rfl fun w7 b7 e7 x7 k7 _ => ?_
      have s7 := x7.size
      have br7 := br.ext x7
      obtain ⟨xs, ox, hxs⟩ := br7.top
      simp (disch := omega) only [go_sem, Nat.reduceEqDiff, ↓reduceIte, Nat.reduceAdd, a4]
      refine appK_1 elt_ii ox k7 rfl (by omega) (.inr ⟨by omega, by decide⟩) fun w8 a8 c8 o8 g8 h8 => ?_
      simp (disch := omega) only [go_sem, Nat.reduceEqDiff, ↓reduceIte, Nat.reduceAdd, a21]
      have hN : OwnS w7 3 1 ra row.length rc (vi row) := by rw [hrow]; exact orow.ext x7
      have lsb := (ks.ext xi).lt
      have lsb0 := ks.lt
      refine ⟨hkR, (by first | assumption | (simp only [upd_apply, Nat.reduceEqDiff, ↓reduceIte] <;> first | rfl | assumption) | simp [upd_apply, *]), (by first | assumption | (simp only [upd_apply, Nat.reduceEqDiff, ↓reduceIte] <;> first | rfl | assumption) | simp [upd_apply, *]), (by first | assumption | (simp only [upd_apply, Nat.reduceEqDiff, ↓reduceIte] <;> first | rfl | assumption) | simp [upd_apply, *]), g8.ext ((xw.trans xi).trans x7) br.ha, g8.blk ((ks.ext xi).ext x7) (fun e => hsb _ (.inl e) rfl), a8, c8, rs ++ [row], _, _, ?_, ?_, br7.push hN (fun b hb => ⟨by have := (hra b hb).1; omega, fun e => ?_, fun r hr e => ?_⟩) ox hxs (by rw [hrow]; exact o8) g8 h8 (by omega), fun b hb => ?_⟩
      · rw [hrs, take_snoc [] hkR, hrowk]
      · simp [upd_apply]
      · have := (hra b hb).1; have := hlow b (.inl e); omega
      · have := (hra b hb).1; have := hlow b (.inr ⟨r, hr, e⟩); omega
      · rcases hb with hb | ⟨r, hr, hb⟩
        · rcases h8 b hb with h | h
          · exact hsb b (.inl h)
          · omega
        · by_cases er : r = rs.length
          · rw [if_pos er] at hb
            have := (hra b hb).1
            omega
          · rw [if_neg er] at hb
            exact hsb b (.inr ⟨r, by simp at hr; omega, hb⟩)
  · obtain rfl : k = rows.length := by omega
    rw [take_full rows rfl] at hrs
    subst hrs
    simp (disch := omega) only [go_sem, Nat.reduceEqDiff, ↓reduceIte, Nat.reduceAdd, a20, a21, hlt, a4]
    have hr : RowsAt W oa rs A' Cp' := br.at (fun l hl x hx => by have := v.rng l hl x hx; exact ⟨by omega, by omega⟩) (by simp [maxLen]; omega) fun l hl => by rw [v.rlen l hl]; simp [maxLen]; omega
    refine callK_of (by kernel_rfl) (fieldOf_c _ _ _ _ _ _ hr) ?_
    rintro _ w3 ⟨x3, (⟨-, cb, rfl, hcb, o⟩ | ⟨hv', rfl⟩)⟩
    rotate_left
    · rw [hgv] at hv'; cases hv'
    simp (disch := omega) only [go_sem, Nat.reduceEqDiff, ↓reduceIte, Nat.reduceAdd]
    refine allocK_of zero_f fun w4 fb _ x4 k4 _ => ?_
    simp (disch := omega) only [go_sem, Nat.reduceEqDiff, ↓reduceIte, Nat.reduceAdd]
    refine stK_agg siz_f (by simp) (by simp [Value.oneCell']) k4 (by simp) fun w5 k5 g5 => ?_
    have s0 := xw.size
    have s3 := x3.size
    have xx := g5.ext ((xw.trans x3).trans x4) (by omega)
    have hc : CellsAt w5 cb (rs.length * rowLen rs) (hgt rs) := fun i hi => by
      have := ((o.cellsAt.ext x4).grow g5.grow (by have := o.cellsAt.lt v.gd.pos; simp; omega)) i hi
      simpa only [hs_get rs i hi] using this
    simp (disch := omega) only [go_sem, Nat.reduceEqDiff, ↓reduceIte, Nat.reduceAdd, readCells_blk k5 (n := 3) (by simp)]
    refine callK_of (by kernel_rfl) (lists_c rs.length (rowLen rs) cb (hgt rs) _ hc (by omega) (by omega) (by omega)) ?_
    rintro _ w6 ⟨b, A'', rfl, x6, or⟩
    rw [mkRows_self v] at or
    simp (disch := omega) only [go_sem, Nat.reduceEqDiff, ↓reduceIte, Nat.reduceAdd, Tryz.results97]
    exact ⟨b, A'', rfl, xx.trans x6, ⟨or.top, Nat.le_trans xx.size or.hb, fun r hr => let ⟨br, h1, h2, h3, oo⟩ := or.row r hr; ⟨br, h1, Nat.le_trans xx.size h2, h3, oo⟩, or.inj⟩⟩
end Go.Proofs.YtgdopjkanibfeaaGreatDoor
