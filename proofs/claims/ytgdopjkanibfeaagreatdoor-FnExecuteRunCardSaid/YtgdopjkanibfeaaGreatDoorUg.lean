/- The text of a grid that is one: impl.GridText. -/
import Derived.Test.YtgdopjkanibfeaaGreatDoorUf
import Derived.Test.YtgdopjkanibfeaaGreatDoorWs2
set_option linter.all false
set_option maxRecDepth 20000
namespace Go.SW
open Go Go.RowKit
theorem hgt_rc {rows : List (List Int)} {r c : Nat} (hc : c < rowLen rows) : hgt rows (r * rowLen rows + c) = (rows.getD r []).getD c 0 := by
  have h1 : (r * rowLen rows + c) % rowLen rows = c := by rw [Nat.mul_comm, Nat.mul_add_mod]; exact Nat.mod_eq_of_lt hc
  have h2 : (r * rowLen rows + c) / rowLen rows = r := by rw [Nat.mul_comm, Nat.mul_add_div (by omega), Nat.div_eq_of_lt hc, Nat.add_zero]
  rw [hgt, h1, h2]
theorem Valid.rng {rows : List (List Int)} (v : Valid rows) : ∀ l ∈ rows, ∀ h ∈ l, 0 ≤ h ∧ h ≤ 99 := fun l hl h hh => by
  obtain ⟨r, hr, rfl⟩ := List.getElem_of_mem hl
  obtain ⟨c, hc, rfl⟩ := List.getElem_of_mem hh
  have e : rows.getD r [] = rows[r] := getD_at rows [] hr
  have hl := v.len r hr
  rw [e] at hl
  have := v.cell r c hr (by omega)
  rw [e, getD_at _ _ hc] at this
  exact this
theorem Valid.ne {rows : List (List Int)} (v : Valid rows) : rows ≠ [] := fun e => by have := v.r1; rw [e] at this; simp at this
theorem Valid.rlen {rows : List (List Int)} (v : Valid rows) : ∀ l ∈ rows, l.length = rowLen rows := fun l hl => by
  obtain ⟨r, hr, rfl⟩ := List.getElem_of_mem hl
  have := v.len r hr
  rwa [getD_at rows [] hr] at this
theorem Valid.gt_len {rows : List (List Int)} (v : Valid rows) : (gtext rows).length ≤ 147 := gtext_len v.r7 fun l hl => by rw [v.rlen l hl]; exact v.c7
theorem c2_app (h : Int) (l : List UInt8) : l ++ [UInt8.ofNat (48 + h.toNat / 10)] ++ [UInt8.ofNat (48 + h.toNat % 10)] = l ++ c2 h := by simp [c2]
theorem gpre_len {rows : List (List Int)} (v : Valid rows) (k : Nat) : (gpre rows k).length ≤ 147 := by
  have := gtext_len (rows := rows.take k) (by rw [List.length_take]; have := v.r7; omega) fun l hl => by rw [v.rlen l (List.mem_of_mem_take hl)]; exact v.c7
  exact this
theorem rpre_len {rows : List (List Int)} (v : Valid rows) {k : Nat} (hk : k < rows.length) (j : Nat) : (rpre (rows.getD k []) j).length ≤ 147 := by
  have h7 : (rows.getD k []).length ≤ 7 := by rw [v.len k hk]; exact v.c7
  have := jn_len (c := 32) (L := ((rows.getD k []).take j).map c2) (m := 2) fun t ht => by
    obtain ⟨a, _, rfl⟩ := List.mem_map.1 ht
    exact Nat.le_refl _
  rw [List.length_map, List.length_take] at this
  unfold rpre
  omega
end Go.SW
namespace Go.Proofs.YtgdopjkanibfeaaGreatDoor
open Go.RowKit Go.SW

theorem implGridText_c (a : Option Addr) (rows : List (List Int)) (A : Nat → Option Addr) (Cp : Nat → Nat) (gc : Nat) (w : World) (hr : RowsAt w a rows A Cp) (hgv : gvalid rows = true) :
    Ret Tryz.prog 14 #[.slice a rows.length gc] w fun v w' => v = .string (bs (gtext rows)) ∧ Ext w w' := by
  refine enter1 Tryz.func14 rfl (by kernel_rfl) (of_decide_eq_true (by kernel_rfl)) fun f a0 => ?_
  simp (disch := omega) only [go_sem, Nat.reduceEqDiff, ↓reduceIte, Nat.reduceAdd, a0]
  refine callK_of (by kernel_rfl) (fieldOf_c _ _ _ _ _ _ hr) ?_
  rintro _ w2 ⟨x2, (⟨hvt, cb, rfl, hcb, o⟩ | ⟨hv', rfl⟩)⟩
  rotate_left
  · simp (disch := omega) only [go_sem, Nat.reduceEqDiff, ↓reduceIte, Nat.reduceAdd]
    refine allocK_of zero_f fun w3 fb _ x3 k3 _ => ?_
    simp (disch := omega) only [go_sem, Nat.reduceEqDiff, ↓reduceIte, Nat.reduceAdd]
    refine stK_agg siz_f (by simp) (by simp [Value.oneCell']) k3 (by simp) fun w4 k4 g4 => ?_
    have x4 : Ext w w4 := g4.ext (x2.trans x3) (by have := x2.size; omega)
    have hv : gvalid rows = false := hv'
    rw [hgv] at hv; cases hv
  have hv : gvalid rows = true := hvt
  have v := (gvalid_iff rows).1 hv
  have g := v.gd
  have hn49 := g.le
  simp (disch := omega) only [go_sem, Nat.reduceEqDiff, ↓reduceIte, Nat.reduceAdd]
  refine allocK_of zero_f fun w3 fb _ x3 k3 _ => ?_
  simp (disch := omega) only [go_sem, Nat.reduceEqDiff, ↓reduceIte, Nat.reduceAdd]
  refine stK_agg siz_f (by simp) (by simp [Value.oneCell']) k3 (by simp) fun w4 kb g4 => ?_
  have s2 := x2.size
  have s3 := x3.size
  have x4 : Ext w w4 := g4.ext (x2.trans x3) (by omega)
  have s4 := x4.size
  have hc : CellsAt w4 cb (rows.length * rowLen rows) (hgt rows) := fun i hi => by
    have := ((o.cellsAt.ext x3).grow g4.grow (by have := o.cellsAt.lt g.pos; simp; omega)) i hi
    simpa only [hs_get rows i hi] using this
  have hC1 := v.c1
  have hC7 := v.c7
  have hR7 := v.r7
  have hgg := v.rng
  simp (disch := omega) only [go_sem, Nat.reduceEqDiff, ↓reduceIte, Nat.reduceAdd]
  refine allocK_of zero_bd fun w5 bb e5 x5 k5 _ => ?_
  have kb5 := kb.ext x5
  simp (disch := omega) only [go_sem, Nat.reduceEqDiff, ↓reduceIte, Nat.reduceAdd, kb5.cell]
  have fin : ∀ {W W' : World} {bf bf' : Option Nat}, Ext w4 W → (∀ x, bf = some x → w4.heap.size ≤ x) → GrowP (fun k => k = bb ∨ bf = some k) W W' → (∀ x, bf' = some x → bf = some x ∨ W.heap.size ≤ x) → Ext w4 W' ∧ ∀ x, bf' = some x → w4.heap.size ≤ x := fun e h g h' =>
    ⟨g.ext e fun k hk => hk.elim (fun e => by omega) (fun e => h k e), fun x hx => (h' x hx).elim (h x) (fun hle => Nat.le_trans e.size hle)⟩
  refine loopN rows.length (fun k f W => f 3 = .pointer (some ⟨fb, 0, none⟩) ∧ f 5 = .pointer (some ⟨bb, 0, none⟩) ∧ f 17 = .int .i64 rows.length ∧ f 18 = .int .i64 k ∧ Ext w4 W ∧ ∃ bf, Bld W 66 5 bb (gpre rows k) bf ∧ ∀ x, bf = some x → w4.heap.size ≤ x)
    ⟨(by first | assumption | (simp only [upd_apply, Nat.reduceEqDiff, ↓reduceIte] <;> first | rfl | assumption) | simp [upd_apply, *]), (by first | assumption | (simp only [upd_apply, Nat.reduceEqDiff, ↓reduceIte] <;> first | rfl | assumption) | simp [upd_apply, *]), (by first | assumption | (simp only [upd_apply, Nat.reduceEqDiff, ↓reduceIte] <;> first | rfl | assumption) | simp [upd_apply, *]), (by first | assumption | (simp only [upd_apply, Nat.reduceEqDiff, ↓reduceIte] <;> first | rfl | assumption) | simp [upd_apply, *]), x5, none, ⟨_, none, 0, k5, .inl rfl, OwnS.nil _ _ _, rfl, by simp⟩, fun x hx => by cases hx⟩ fun k f W hk ⟨a3, a5, a17, a18, xw, bf, hb, hbf⟩ => ?_
  have gl := gpre_len v k
  by_cases hlt : (k : Int) < (rows.length : Int)
  · have hkR : k < rows.length := by omega
    have hrl := v.len k hkR
    have hgs := gpre_succ hkR
    by_cases h0 : (0 : Int) < k
    · have KZ : (if k = 0 then ([] : List UInt8) else [47]) = [47] := if_neg (by omega)
      simp (disch := omega) only [go_sem, Nat.reduceEqDiff, ↓reduceIte, Nat.reduceAdd, a3, a5, a17, a18, hlt, h0]
      refine callK_of (by kernel_rfl) (writeByte_c bb (gpre rows k) 47 bf _ hb (by omega)) ?_
      rintro _ w6 ⟨rfl, bf6, hb6, g6, h6⟩
      obtain ⟨x6, hbf6⟩ := fin xw hbf g6 h6
      have kbk := kb.ext x6
      simp (disch := omega) only [go_sem, Nat.reduceEqDiff, ↓reduceIte, Nat.reduceAdd, a3, kbk.cell]
      refine loopN (rowLen rows) (fun j f W => f 3 = .pointer (some ⟨fb, 0, none⟩) ∧ f 5 = .pointer (some ⟨bb, 0, none⟩) ∧ f 6 = .int .i64 k ∧ f 17 = .int .i64 rows.length ∧ f 18 = .int .i64 k ∧ f 25 = .int .i64 (rowLen rows) ∧ f 26 = .int .i64 j ∧ Ext w4 W ∧ ∃ bf, Bld W 66 5 bb (gpre rows k ++ [47] ++ rpre (rows.getD k []) j) bf ∧ ∀ x, bf = some x → w4.heap.size ≤ x)
        ⟨(by first | assumption | (simp only [upd_apply, Nat.reduceEqDiff, ↓reduceIte] <;> first | rfl | assumption) | simp [upd_apply, *]), (by first | assumption | (simp only [upd_apply, Nat.reduceEqDiff, ↓reduceIte] <;> first | rfl | assumption) | simp [upd_apply, *]), (by first | assumption | (simp only [upd_apply, Nat.reduceEqDiff, ↓reduceIte] <;> first | rfl | assumption) | simp [upd_apply, *]), (by first | assumption | (simp only [upd_apply, Nat.reduceEqDiff, ↓reduceIte] <;> first | rfl | assumption) | simp [upd_apply, *]), (by first | assumption | (simp only [upd_apply, Nat.reduceEqDiff, ↓reduceIte] <;> first | rfl | assumption) | simp [upd_apply, *]), (by first | assumption | (simp only [upd_apply, Nat.reduceEqDiff, ↓reduceIte] <;> first | rfl | assumption) | simp [upd_apply, *]), (by first | assumption | (simp only [upd_apply, Nat.reduceEqDiff, ↓reduceIte] <;> first | rfl | assumption) | simp [upd_apply, *]), x6, bf6, by simpa [rpre_zero] using hb6, hbf6⟩ fun j f W hj ⟨a3, a5, a6, a17, a18, a25, a26, xj, bfj, hbj, hbfj⟩ => ?_
      have rl := rpre_len v hkR j
      by_cases hlj : (j : Int) < (rowLen rows : Int)
      · have hjC : j < rowLen rows := by omega
        by_cases hj0 : (0 : Int) < j
        · have JZ : (if j = 0 then ([] : List UInt8) else [32]) = [32] := if_neg (by omega)
          simp (disch := omega) only [go_sem, Nat.reduceEqDiff, ↓reduceIte, Nat.reduceAdd, a3, a5, a17, a18, a25, a26, hlj, hj0]
          refine callK_of (by kernel_rfl) (writeByte_c bb _ 32 bfj _ hbj (by simp only [List.length_append, List.length_cons, List.length_nil]; omega)) ?_
          rintro _ w8 ⟨rfl, bf8, hbJ, g8, h8⟩
          obtain ⟨XJ, hbfJ⟩ := fin xj hbfj g8 h8
          have a7 : True := trivial
          have ej : k * rowLen rows + j < rows.length * rowLen rows := by
            have := Nat.mul_le_mul_right (rowLen rows) hkR
            rw [Nat.succ_mul] at this
            omega
          have hcell := hgt_rc (rows := rows) (r := k) (c := j) hjC
          have hrg := v.cell k j hkR hjC
          have kb8 := kb.ext XJ
          have hc8 := hc.ext XJ
          simp (disch := omega) only [go_sem, Nat.reduceEqDiff, ↓reduceIte, Nat.reduceAdd, a3, readCells_blk kb8 (n := 3) (by simp), a6, a7]
          refine callK_pure (by kernel_rfl) (at_c _ _ _ _ _ _ _ _ _ hc8 (by omega) (by omega) (by omega) ej) fun w9 x9 => ?_
          have XJ9 := XJ.trans x9
          have hb9 := hbJ.ext x9
          rw [hcell]
          have hd1 : (48 : Int) + (rows.getD k []).getD j 0 / 10 = (((UInt8.ofNat (48 + ((rows.getD k []).getD j 0).toNat / 10)).toNat : Nat) : Int) := by rw [u8n' (by omega)]; omega
          have hd2 : (48 : Int) + (rows.getD k []).getD j 0 % 10 = (((UInt8.ofNat (48 + ((rows.getD k []).getD j 0).toNat % 10)).toNat : Nat) : Int) := by rw [u8n' (by omega)]; omega
          have hu1 := (UInt8.ofNat (48 + ((rows.getD k []).getD j 0).toNat / 10)).toNat_lt
          have hu2 := (UInt8.ofNat (48 + ((rows.getD k []).getD j 0).toNat % 10)).toNat_lt
          have hsucc := rpre_succ (l := rows.getD k []) (n := j) (by omega)
          rw [JZ, ← c2_app] at hsucc
          simp (disch := omega) only [go_sem, Nat.reduceEqDiff, ↓reduceIte, Nat.reduceAdd, a5, hd1]
          refine callK_of (by kernel_rfl) (writeByte_c bb _ _ _ _ hb9 (by simp only [List.length_append, List.length_cons, List.length_nil]; omega)) ?_
          rintro _ w10 ⟨rfl, bf10, hb10, g10, h10⟩
          obtain ⟨x10, hbf10⟩ := fin XJ9 hbfJ g10 h10
          simp (disch := omega) only [go_sem, Nat.reduceEqDiff, ↓reduceIte, Nat.reduceAdd, a5, hd2]
          refine callK_of (by kernel_rfl) (writeByte_c bb _ _ _ _ hb10 (by simp only [List.length_append, List.length_cons, List.length_nil]; omega)) ?_
          rintro _ w11 ⟨rfl, bf11, hb11, g11, h11⟩
          obtain ⟨x11, hbf11⟩ := fin x10 hbf10 g11 h11
          simp (disch := omega) only [go_sem, Nat.reduceEqDiff, ↓reduceIte, Nat.reduceAdd, a26]
          refine ⟨by omega, (by first | assumption | (simp only [upd_apply, Nat.reduceEqDiff, ↓reduceIte] <;> first | rfl | assumption) | simp [upd_apply, *]), (by first | assumption | (simp only [upd_apply, Nat.reduceEqDiff, ↓reduceIte] <;> first | rfl | assumption) | simp [upd_apply, *]), (by first | assumption | (simp only [upd_apply, Nat.reduceEqDiff, ↓reduceIte] <;> first | rfl | assumption) | simp [upd_apply, *]), (by first | assumption | (simp only [upd_apply, Nat.reduceEqDiff, ↓reduceIte] <;> first | rfl | assumption) | simp [upd_apply, *]), (by first | assumption | (simp only [upd_apply, Nat.reduceEqDiff, ↓reduceIte] <;> first | rfl | assumption) | simp [upd_apply, *]), (by first | assumption | (simp only [upd_apply, Nat.reduceEqDiff, ↓reduceIte] <;> first | rfl | assumption) | simp [upd_apply, *]), (by first | assumption | (simp only [upd_apply, Nat.reduceEqDiff, ↓reduceIte] <;> first | rfl | assumption) | simp [upd_apply, *]), x11, bf11, ?_, hbf11⟩
          rw [hsucc]
          simpa only [List.append_assoc, List.nil_append, List.append_nil] using hb11
        · have JZ : (if j = 0 then ([] : List UInt8) else [32]) = [] := if_pos (by omega)
          have XJ := xj
          have hbJ := hbj
          have hbfJ := hbfj
          have a7 : True := trivial
          simp (disch := omega) only [go_sem, Nat.reduceEqDiff, ↓reduceIte, Nat.reduceAdd, a3, a5, a17, a18, a25, a26, hlj, hj0]
          have ej : k * rowLen rows + j < rows.length * rowLen rows := by
            have := Nat.mul_le_mul_right (rowLen rows) hkR
            rw [Nat.succ_mul] at this
            omega
          have hcell := hgt_rc (rows := rows) (r := k) (c := j) hjC
          have hrg := v.cell k j hkR hjC
          have kb8 := kb.ext XJ
          have hc8 := hc.ext XJ
          simp (disch := omega) only [go_sem, Nat.reduceEqDiff, ↓reduceIte, Nat.reduceAdd, a3, readCells_blk kb8 (n := 3) (by simp), a6, a7]
          refine callK_pure (by kernel_rfl) (at_c _ _ _ _ _ _ _ _ _ hc8 (by omega) (by omega) (by omega) ej) fun w9 x9 => ?_
          have XJ9 := XJ.trans x9
          have hb9 := hbJ.ext x9
          rw [hcell]
          have hd1 : (48 : Int) + (rows.getD k []).getD j 0 / 10 = (((UInt8.ofNat (48 + ((rows.getD k []).getD j 0).toNat / 10)).toNat : Nat) : Int) := by rw [u8n' (by omega)]; omega
          have hd2 : (48 : Int) + (rows.getD k []).getD j 0 % 10 = (((UInt8.ofNat (48 + ((rows.getD k []).getD j 0).toNat % 10)).toNat : Nat) : Int) := by rw [u8n' (by omega)]; omega
          have hu1 := (UInt8.ofNat (48 + ((rows.getD k []).getD j 0).toNat / 10)).toNat_lt
          have hu2 := (UInt8.ofNat (48 + ((rows.getD k []).getD j 0).toNat % 10)).toNat_lt
          have hsucc := rpre_succ (l := rows.getD k []) (n := j) (by omega)
          rw [JZ, ← c2_app] at hsucc
          simp (disch := omega) only [go_sem, Nat.reduceEqDiff, ↓reduceIte, Nat.reduceAdd, a5, hd1]
          refine callK_of (by kernel_rfl) (writeByte_c bb _ _ _ _ hb9 (by simp only [List.length_append, List.length_cons, List.length_nil]; omega)) ?_
          rintro _ w10 ⟨rfl, bf10, hb10, g10, h10⟩
          obtain ⟨x10, hbf10⟩ := fin XJ9 hbfJ g10 h10
          simp (disch := omega) only [go_sem, Nat.reduceEqDiff, ↓reduceIte, Nat.reduceAdd, a5, hd2]
          refine callK_of (by kernel_rfl) (writeByte_c bb _ _ _ _ hb10 (by simp only [List.length_append, List.length_cons, List.length_nil]; omega)) ?_
          rintro _ w11 ⟨rfl, bf11, hb11, g11, h11⟩
          obtain ⟨x11, hbf11⟩ := fin x10 hbf10 g11 h11
          simp (disch := omega) only [go_sem, Nat.reduceEqDiff, ↓reduceIte, Nat.reduceAdd, a26]
          refine ⟨by omega, (by first | assumption | (simp only [upd_apply, Nat.reduceEqDiff, ↓reduceIte] <;> first | rfl | assumption) | simp [upd_apply, *]), (by first | assumption | (simp only [upd_apply, Nat.reduceEqDiff, ↓reduceIte] <;> first | rfl | assumption) | simp [upd_apply, *]), (by first | assumption | (simp only [upd_apply, Nat.reduceEqDiff, ↓reduceIte] <;> first | rfl | assumption) | simp [upd_apply, *]), (by first | assumption | (simp only [upd_apply, Nat.reduceEqDiff, ↓reduceIte] <;> first | rfl | assumption) | simp [upd_apply, *]), (by first | assumption | (simp only [upd_apply, Nat.reduceEqDiff, ↓reduceIte] <;> first | rfl | assumption) | simp [upd_apply, *]), (by first | assumption | (simp only [upd_apply, Nat.reduceEqDiff, ↓reduceIte] <;> first | rfl | assumption) | simp [upd_apply, *]), (by first | assumption | (simp only [upd_apply, Nat.reduceEqDiff, ↓reduceIte] <;> first | rfl | assumption) | simp [upd_apply, *]), x11, bf11, ?_, hbf11⟩
          rw [hsucc]
          simpa only [List.append_assoc, List.nil_append, List.append_nil] using hb11
      · obtain rfl : j = rowLen rows := by omega
        simp (disch := omega) only [go_sem, Nat.reduceEqDiff, ↓reduceIte, Nat.reduceAdd, a25, a26, hlj, a18]
        refine ⟨by omega, (by first | assumption | (simp only [upd_apply, Nat.reduceEqDiff, ↓reduceIte] <;> first | rfl | assumption) | simp [upd_apply, *]), (by first | assumption | (simp only [upd_apply, Nat.reduceEqDiff, ↓reduceIte] <;> first | rfl | assumption) | simp [upd_apply, *]), (by first | assumption | (simp only [upd_apply, Nat.reduceEqDiff, ↓reduceIte] <;> first | rfl | assumption) | simp [upd_apply, *]), (by first | assumption | (simp only [upd_apply, Nat.reduceEqDiff, ↓reduceIte] <;> first | rfl | assumption) | simp [upd_apply, *]), xj, bfj, ?_, hbfj⟩
        rw [hgs, KZ, ← rpre_all, hrl]
        exact hbj
    · have KZ : (if k = 0 then ([] : List UInt8) else [47]) = [] := if_pos (by omega)
      simp (disch := omega) only [go_sem, Nat.reduceEqDiff, ↓reduceIte, Nat.reduceAdd, a3, a5, a17, a18, hlt, h0]
      have kbk := kb.ext xw
      simp (disch := omega) only [go_sem, Nat.reduceEqDiff, ↓reduceIte, Nat.reduceAdd, a3, kbk.cell]
      refine loopN (rowLen rows) (fun j f W => f 3 = .pointer (some ⟨fb, 0, none⟩) ∧ f 5 = .pointer (some ⟨bb, 0, none⟩) ∧ f 6 = .int .i64 k ∧ f 17 = .int .i64 rows.length ∧ f 18 = .int .i64 k ∧ f 25 = .int .i64 (rowLen rows) ∧ f 26 = .int .i64 j ∧ Ext w4 W ∧ ∃ bf, Bld W 66 5 bb (gpre rows k ++ [] ++ rpre (rows.getD k []) j) bf ∧ ∀ x, bf = some x → w4.heap.size ≤ x)
        ⟨(by first | assumption | (simp only [upd_apply, Nat.reduceEqDiff, ↓reduceIte] <;> first | rfl | assumption) | simp [upd_apply, *]), (by first | assumption | (simp only [upd_apply, Nat.reduceEqDiff, ↓reduceIte] <;> first | rfl | assumption) | simp [upd_apply, *]), (by first | assumption | (simp only [upd_apply, Nat.reduceEqDiff, ↓reduceIte] <;> first | rfl | assumption) | simp [upd_apply, *]), (by first | assumption | (simp only [upd_apply, Nat.reduceEqDiff, ↓reduceIte] <;> first | rfl | assumption) | simp [upd_apply, *]), (by first | assumption | (simp only [upd_apply, Nat.reduceEqDiff, ↓reduceIte] <;> first | rfl | assumption) | simp [upd_apply, *]), (by first | assumption | (simp only [upd_apply, Nat.reduceEqDiff, ↓reduceIte] <;> first | rfl | assumption) | simp [upd_apply, *]), (by first | assumption | (simp only [upd_apply, Nat.reduceEqDiff, ↓reduceIte] <;> first | rfl | assumption) | simp [upd_apply, *]), xw, bf, by simpa [rpre_zero] using hb, hbf⟩ fun j f W hj ⟨a3, a5, a6, a17, a18, a25, a26, xj, bfj, hbj, hbfj⟩ => ?_
      have rl := rpre_len v hkR j
      by_cases hlj : (j : Int) < (rowLen rows : Int)
      · have hjC : j < rowLen rows := by omega
        by_cases hj0 : (0 : Int) < j
        · have JZ : (if j = 0 then ([] : List UInt8) else [32]) = [32] := if_neg (by omega)
          simp (disch := omega) only [go_sem, Nat.reduceEqDiff, ↓reduceIte, Nat.reduceAdd, a3, a5, a17, a18, a25, a26, hlj, hj0]
          refine callK_of (by kernel_rfl) (writeByte_c bb _ 32 bfj _ hbj (by simp only [List.length_append, List.length_cons, List.length_nil]; omega)) ?_
          rintro _ w8 ⟨rfl, bf8, hbJ, g8, h8⟩
          obtain ⟨XJ, hbfJ⟩ := fin xj hbfj g8 h8
          have a7 : True := trivial
          have ej : k * rowLen rows + j < rows.length * rowLen rows := by
            have := Nat.mul_le_mul_right (rowLen rows) hkR
            rw [Nat.succ_mul] at this
            omega
          have hcell := hgt_rc (rows := rows) (r := k) (c := j) hjC
          have hrg := v.cell k j hkR hjC
          have kb8 := kb.ext XJ
          have hc8 := hc.ext XJ
          simp (disch := omega) only [go_sem, Nat.reduceEqDiff, ↓reduceIte, Nat.reduceAdd, a3, readCells_blk kb8 (n := 3) (by simp), a6, a7]
          refine callK_pure (by kernel_rfl) (at_c _ _ _ _ _ _ _ _ _ hc8 (by omega) (by omega) (by omega) ej) fun w9 x9 => ?_
          have XJ9 := XJ.trans x9
          have hb9 := hbJ.ext x9
          rw [hcell]
          have hd1 : (48 : Int) + (rows.getD k []).getD j 0 / 10 = (((UInt8.ofNat (48 + ((rows.getD k []).getD j 0).toNat / 10)).toNat : Nat) : Int) := by rw [u8n' (by omega)]; omega
          have hd2 : (48 : Int) + (rows.getD k []).getD j 0 % 10 = (((UInt8.ofNat (48 + ((rows.getD k []).getD j 0).toNat % 10)).toNat : Nat) : Int) := by rw [u8n' (by omega)]; omega
          have hu1 := (UInt8.ofNat (48 + ((rows.getD k []).getD j 0).toNat / 10)).toNat_lt
          have hu2 := (UInt8.ofNat (48 + ((rows.getD k []).getD j 0).toNat % 10)).toNat_lt
          have hsucc := rpre_succ (l := rows.getD k []) (n := j) (by omega)
          rw [JZ, ← c2_app] at hsucc
          simp (disch := omega) only [go_sem, Nat.reduceEqDiff, ↓reduceIte, Nat.reduceAdd, a5, hd1]
          refine callK_of (by kernel_rfl) (writeByte_c bb _ _ _ _ hb9 (by simp only [List.length_append, List.length_cons, List.length_nil]; omega)) ?_
          rintro _ w10 ⟨rfl, bf10, hb10, g10, h10⟩
          obtain ⟨x10, hbf10⟩ := fin XJ9 hbfJ g10 h10
          simp (disch := omega) only [go_sem, Nat.reduceEqDiff, ↓reduceIte, Nat.reduceAdd, a5, hd2]
          refine callK_of (by kernel_rfl) (writeByte_c bb _ _ _ _ hb10 (by simp only [List.length_append, List.length_cons, List.length_nil]; omega)) ?_
          rintro _ w11 ⟨rfl, bf11, hb11, g11, h11⟩
          obtain ⟨x11, hbf11⟩ := fin x10 hbf10 g11 h11
          simp (disch := omega) only [go_sem, Nat.reduceEqDiff, ↓reduceIte, Nat.reduceAdd, a26]
          refine ⟨by omega, (by first | assumption | (simp only [upd_apply, Nat.reduceEqDiff, ↓reduceIte] <;> first | rfl | assumption) | simp [upd_apply, *]), (by first | assumption | (simp only [upd_apply, Nat.reduceEqDiff, ↓reduceIte] <;> first | rfl | assumption) | simp [upd_apply, *]), (by first | assumption | (simp only [upd_apply, Nat.reduceEqDiff, ↓reduceIte] <;> first | rfl | assumption) | simp [upd_apply, *]), (by first | assumption | (simp only [upd_apply, Nat.reduceEqDiff, ↓reduceIte] <;> first | rfl | assumption) | simp [upd_apply, *]), (by first | assumption | (simp only [upd_apply, Nat.reduceEqDiff, ↓reduceIte] <;> first | rfl | assumption) | simp [upd_apply, *]), (by first | assumption | (simp only [upd_apply, Nat.reduceEqDiff, ↓reduceIte] <;> first | rfl | assumption) | simp [upd_apply, *]), (by first | assumption | (simp only [upd_apply, Nat.reduceEqDiff, ↓reduceIte] <;> first | rfl | assumption) | simp [upd_apply, *]), x11, bf11, ?_, hbf11⟩
          rw [hsucc]
          simpa only [List.append_assoc, List.nil_append, List.append_nil] using hb11
        · have JZ : (if j = 0 then ([] : List UInt8) else [32]) = [] := if_pos (by omega)
          have XJ := xj
          have hbJ := hbj
          have hbfJ := hbfj
          have a7 : True := trivial
          simp (disch := omega) only [go_sem, Nat.reduceEqDiff, ↓reduceIte, Nat.reduceAdd, a3, a5, a17, a18, a25, a26, hlj, hj0]
          have ej : k * rowLen rows + j < rows.length * rowLen rows := by
            have := Nat.mul_le_mul_right (rowLen rows) hkR
            rw [Nat.succ_mul] at this
            omega
          have hcell := hgt_rc (rows := rows) (r := k) (c := j) hjC
          have hrg := v.cell k j hkR hjC
          have kb8 := kb.ext XJ
          have hc8 := hc.ext XJ
          simp (disch := omega) only [go_sem, Nat.reduceEqDiff, ↓reduceIte, Nat.reduceAdd, a3, readCells_blk kb8 (n := 3) (by simp), a6, a7]
          refine callK_pure (by kernel_rfl) (at_c _ _ _ _ _ _ _ _ _ hc8 (by omega) (by omega) (by omega) ej) fun w9 x9 => ?_
          have XJ9 := XJ.trans x9
          have hb9 := hbJ.ext x9
          rw [hcell]
          have hd1 : (48 : Int) + (rows.getD k []).getD j 0 / 10 = (((UInt8.ofNat (48 + ((rows.getD k []).getD j 0).toNat / 10)).toNat : Nat) : Int) := by rw [u8n' (by omega)]; omega
          have hd2 : (48 : Int) + (rows.getD k []).getD j 0 % 10 = (((UInt8.ofNat (48 + ((rows.getD k []).getD j 0).toNat % 10)).toNat : Nat) : Int) := by rw [u8n' (by omega)]; omega
          have hu1 := (UInt8.ofNat (48 + ((rows.getD k []).getD j 0).toNat / 10)).toNat_lt
          have hu2 := (UInt8.ofNat (48 + ((rows.getD k []).getD j 0).toNat % 10)).toNat_lt
          have hsucc := rpre_succ (l := rows.getD k []) (n := j) (by omega)
          rw [JZ, ← c2_app] at hsucc
          simp (disch := omega) only [go_sem, Nat.reduceEqDiff, ↓reduceIte, Nat.reduceAdd, a5, hd1]
          refine callK_of (by kernel_rfl) (writeByte_c bb _ _ _ _ hb9 (by simp only [List.length_append, List.length_cons, List.length_nil]; omega)) ?_
          rintro _ w10 ⟨rfl, bf10, hb10, g10, h10⟩
          obtain ⟨x10, hbf10⟩ := fin XJ9 hbfJ g10 h10
          simp (disch := omega) only [go_sem, Nat.reduceEqDiff, ↓reduceIte, Nat.reduceAdd, a5, hd2]
          refine callK_of (by kernel_rfl) (writeByte_c bb _ _ _ _ hb10 (by simp only [List.length_append, List.length_cons, List.length_nil]; omega)) ?_
          rintro _ w11 ⟨rfl, bf11, hb11, g11, h11⟩
          obtain ⟨x11, hbf11⟩ := fin x10 hbf10 g11 h11
          simp (disch := omega) only [go_sem, Nat.reduceEqDiff, ↓reduceIte, Nat.reduceAdd, a26]
          refine ⟨by omega, (by first | assumption | (simp only [upd_apply, Nat.reduceEqDiff, ↓reduceIte] <;> first | rfl | assumption) | simp [upd_apply, *]), (by first | assumption | (simp only [upd_apply, Nat.reduceEqDiff, ↓reduceIte] <;> first | rfl | assumption) | simp [upd_apply, *]), (by first | assumption | (simp only [upd_apply, Nat.reduceEqDiff, ↓reduceIte] <;> first | rfl | assumption) | simp [upd_apply, *]), (by first | assumption | (simp only [upd_apply, Nat.reduceEqDiff, ↓reduceIte] <;> first | rfl | assumption) | simp [upd_apply, *]), (by first | assumption | (simp only [upd_apply, Nat.reduceEqDiff, ↓reduceIte] <;> first | rfl | assumption) | simp [upd_apply, *]), (by first | assumption | (simp only [upd_apply, Nat.reduceEqDiff, ↓reduceIte] <;> first | rfl | assumption) | simp [upd_apply, *]), (by first | assumption | (simp only [upd_apply, Nat.reduceEqDiff, ↓reduceIte] <;> first | rfl | assumption) | simp [upd_apply, *]), x11, bf11, ?_, hbf11⟩
          rw [hsucc]
          simpa only [List.append_assoc, List.nil_append, List.append_nil] using hb11
      · obtain rfl : j = rowLen rows := by omega
        simp (disch := omega) only [go_sem, Nat.reduceEqDiff, ↓reduceIte, Nat.reduceAdd, a25, a26, hlj, a18]
        refine ⟨by omega, (by first | assumption | (simp only [upd_apply, Nat.reduceEqDiff, ↓reduceIte] <;> first | rfl | assumption) | simp [upd_apply, *]), (by first | assumption | (simp only [upd_apply, Nat.reduceEqDiff, ↓reduceIte] <;> first | rfl | assumption) | simp [upd_apply, *]), (by first | assumption | (simp only [upd_apply, Nat.reduceEqDiff, ↓reduceIte] <;> first | rfl | assumption) | simp [upd_apply, *]), (by first | assumption | (simp only [upd_apply, Nat.reduceEqDiff, ↓reduceIte] <;> first | rfl | assumption) | simp [upd_apply, *]), xj, bfj, ?_, hbfj⟩
        rw [hgs, KZ, ← rpre_all, hrl]
        exact hbj
  · obtain rfl : k = rows.length := by omega
    rw [gpre_all] at hb
    simp (disch := omega) only [go_sem, Nat.reduceEqDiff, ↓reduceIte, Nat.reduceAdd, a17, a18, hlt, a5]
    refine callK_of (by kernel_rfl) (builderString_c w4.heap.size bb _ bf _ hb (by omega) hbf xw.size) ?_
    rintro _ w6 ⟨rfl, x6⟩
    simp (disch := omega) only [go_sem, Nat.reduceEqDiff, ↓reduceIte, Nat.reduceAdd, Tryz.results14]
    exact ⟨trivial, x4.trans (Below.trans xw x6)⟩
end Go.Proofs.YtgdopjkanibfeaaGreatDoor
