/- The reference's GridInvert; PitList: both sides. -/
import Derived.Test.YtlnodngkacbfkaaPg
import Derived.Test.YtlnodngkacbfkaaJ2
import Derived.Test.YtlnodngkacbfkaaLl
set_option linter.all false
set_option maxRecDepth 20000
namespace Go.Proofs.Ytlnodngkacbfkaa
open Go.RowKit Go.SW
def mkRow (C : Nat) (h : Nat → Int) (r : Nat) : List Int := (List.range C).map fun c => h (r * C + c)
theorem mkRow_len (C : Nat) (h : Nat → Int) (r : Nat) : (mkRow C h r).length = C := by simp [mkRow]
theorem mkRow_get {C : Nat} {h : Nat → Int} {r c : Nat} (hc : c < C) : (mkRow C h r).getD c 0 = h (r * C + c) := by simp [mkRow, hc]
theorem mkRows_eq (R C : Nat) (h : Nat → Int) : mkRows R C h = (List.range R).map (mkRow C h) := rfl
theorem mkRows_row {R C : Nat} {h : Nat → Int} {r : Nat} (hr : r < R) : (mkRows R C h).getD r [] = mkRow C h r := mkRows_get hr
theorem mkRows_i64 {R C : Nat} {h : Nat → Int} (hh : ∀ i, i < R * C → I64 (h i)) : ∀ l ∈ mkRows R C h, ∀ x ∈ l, I64 x := fun l hl x hx => by
  obtain ⟨r, hr, rfl⟩ := List.mem_map.1 hl
  obtain ⟨c, hc, rfl⟩ := List.mem_map.1 hx
  have h1 := List.mem_range.1 hr
  have h2 := List.mem_range.1 hc
  refine hh _ ?_
  have := Nat.mul_le_mul_right C (show r + 1 ≤ R by omega)
  rw [Nat.add_mul, Nat.one_mul] at this; omega
theorem mkRows_lens {R C : Nat} {h : Nat → Int} (hC : C ≤ maxLen) : ∀ l ∈ mkRows R C h, l.length ≤ maxLen := fun l hl => by
  obtain ⟨r, hr, rfl⟩ := List.mem_map.1 hl
  simpa using hC
theorem mkRows_set {R C : Nat} {H G : Nat → Int} {r c : Nat} (hr : r < R) (hc : c < C) (hg : ∀ i, i < R * C → i ≠ r * C + c → G i = H i) :
    (mkRows R C H).set r ((mkRow C H r).set c (G (r * C + c))) = mkRows R C G := by
  apply List.ext_getElem?; intro s
  rw [List.getElem?_set]
  have bound : ∀ s d, s < R → d < C → s * C + d < R * C := fun s d h1 h2 => by
    have := Nat.mul_le_mul_right C (show s + 1 ≤ R by omega)
    rw [Nat.add_mul, Nat.one_mul] at this; omega
  by_cases hs : s < R
  · by_cases e : r = s
    · subst e
      simp only [if_true, mkRows_len, hs]
      simp only [mkRows_eq, List.getElem?_map, List.getElem?_range hs, Option.map_some, Option.some.injEq]
      apply List.ext_getElem?; intro d
      rw [List.getElem?_set]
      by_cases hd : d < C
      · by_cases e2 : c = d
        · subst e2; simp [mkRow, hc]
        · have h1 := hg (r * C + d) (bound r d hs hd) (by omega)
          simp [mkRow, hd, e2, h1]
      · have : c ≠ d := by omega
        simp [mkRow, hd, this]
    · rw [if_neg e]
      simp only [mkRows_eq, List.getElem?_map, List.getElem?_range hs, Option.map_some, Option.some.injEq]
      apply List.map_congr_left
      intro d hd
      have hd := List.mem_range.1 hd
      refine (hg _ (bound s d hs hd) fun e2 => e ?_).symm
      have h1 : (s * C + d) / C = s := by rw [Nat.mul_comm, Nat.mul_add_div (by omega), Nat.div_eq_of_lt hd]; rfl
      have h2 : (r * C + c) / C = r := by rw [Nat.mul_comm, Nat.mul_add_div (by omega), Nat.div_eq_of_lt hc]; rfl
      rw [← h1, ← h2, e2]
  · have : r ≠ s := by omega
    simp [mkRows, hs, this]
theorem valid_mk {rows : List (List Int)} (v : Valid rows) : mkRows rows.length (rowLen rows) (hgt rows) = rows := by
  have hC := v.c1
  apply List.ext_getElem?; intro r
  by_cases hr : r < rows.length
  · simp only [mkRows_eq, List.getElem?_map, List.getElem?_range hr, Option.map_some]
    rw [List.getElem?_eq_getElem hr]
    congr 1
    have hl : rows[r].length = rowLen rows := by
      have := v.len r hr
      rwa [getD_at rows [] hr] at this
    apply List.ext_getElem (by rw [mkRow_len, hl])
    intro c h1 h2
    have hc : c < rowLen rows := by rw [mkRow_len] at h1; exact h1
    simp only [mkRow, List.getElem_map, List.getElem_range, hgt]
    have e1 : (r * rowLen rows + c) / rowLen rows = r := by rw [Nat.mul_comm, Nat.mul_add_div (by omega), Nat.div_eq_of_lt hc]; rfl
    have e2 : (r * rowLen rows + c) % rowLen rows = c := by rw [Nat.mul_comm, Nat.mul_add_mod, Nat.mod_eq_of_lt hc]
    rw [e1, e2, getD_at rows [] hr, getD_at _ 0 h2]
  · simp [mkRows, hr]
/-- What PitList answers. -/
def pitsOf (rows : List (List Int)) : List Nat := if gvalid rows = true then peaksL rows.length (rowLen rows) (fun i => 99 - hgt rows i) else []
theorem peaksL_congr {R C : Nat} {h h' : Nat → Int} (e : ∀ i, i < R * C → h i = h' i) : peaksL R C h = peaksL R C h' := by
  have hb : ∀ i j, i < R * C → j < R * C → hiB h i j = hiB h' i j := fun i j hi hj => by simp only [hiB, e i hi, e j hj]
  refine peaksL_eq ?_ fun x => ?_
  · have h1 := rank_peaksTo R C h (R * C)
    refine List.Pairwise.imp_of_mem ?_ h1
    intro a b ha hb' hab
    rw [← hb a b (mem_peaksTo.1 ha).1 (mem_peaksTo.1 hb').1]; exact hab
  · rw [peaksL, mem_peaksTo]
    constructor
    · rintro ⟨h1, h2⟩
      refine ⟨h1, ?_⟩
      rw [peakB, List.all_eq_true] at h2 ⊢
      intro j hj
      rw [← hb j x (nearN_lt h1 j hj) h1]; exact h2 j hj
    · rintro ⟨h1, h2⟩
      refine ⟨h1, ?_⟩
      rw [peakB, List.all_eq_true] at h2 ⊢
      intro j hj
      rw [hb j x (nearN_lt h1 j hj) h1]; exact h2 j hj
theorem inv_gvalid {rows : List (List Int)} (v : Valid rows) : gvalid (mkRows rows.length (rowLen rows) fun i => 99 - hgt rows i) = true := (gvalid_iff _).2 (mkRows_valid v.r1 v.r7 v.c1 v.c7 fun i hi => by have := v.hgt i hi; omega)
theorem inv_peaks {rows : List (List Int)} (hv : gvalid rows = true) : peakListOf (mkRows rows.length (rowLen rows) fun i => 99 - hgt rows i) = pitsOf rows := by
  have v := (gvalid_iff rows).1 hv
  rw [peakListOf, if_pos (inv_gvalid v), pitsOf, if_pos hv, mkRows_len, mkRows_rowLen v.r1]
  exact peaksL_congr fun i hi => mkRows_hgt v.r1 hi

theorem l1Copy_c (a : Option Addr) (rows : List (List Int)) (A : Nat → Option Addr) (Cp : Nat → Nat) (gc : Nat) (w : World) (hr : RowsAt w a rows A Cp) (v : Valid rows) :
    Ret Try.prog 119 #[.slice a rows.length gc] w fun u w' => ∃ a' c' A' Cp', u = .slice a' rows.length c' ∧ BRows w' 24 3 w.heap.size a' c' (mkRows rows.length (rowLen rows) (hgt rows)) A' Cp' ∧ Ext w w' := by
  obtain ⟨gb, go, rb, ro, rfl, -, hg⟩ := hr.grid v
  have hR7 := v.r7
  have hC7 := v.c7
  generalize hR : rows.length = R at *
  generalize hC : rowLen rows = C at *
  generalize hH : hgt rows = h at *
  refine enter1 Try.func119 rfl (by kernel_rfl) (of_decide_eq_true (by kernel_rfl)) fun f a0 => ?_
  simp (disch := omega) only [go_sem, Nat.reduceEqDiff, ↓reduceIte, Nat.reduceAdd]
  refine bslK_0 elt_ii fun w0 b0 e0 x0 o0 _ => ?_
  simp (disch := omega) only [go_sem, Nat.reduceEqDiff, ↓reduceIte, Nat.reduceAdd]
  refine loopN R (fun i f W => f 0 = .slice (some ⟨gb, go, none⟩) R gc ∧ f 4 = .int .i64 i ∧ Ext w W ∧ ∃ a c rs A Cp, rs = (List.range i).map (mkRow C h) ∧ f 3 = .slice a rs.length c ∧ BRows W 24 3 w.heap.size a c rs A Cp) ⟨(by first | assumption | (simp only [upd_apply, Nat.reduceEqDiff, ↓reduceIte] <;> first | rfl | assumption) | simp [upd_apply, *]), (by first | assumption | (simp only [upd_apply, Nat.reduceEqDiff, ↓reduceIte] <;> first | rfl | assumption) | simp [upd_apply, *]), x0, _, _, [], fun _ => none, fun _ => 0, rfl, by simp only [upd_apply, Nat.reduceEqDiff, ↓reduceIte]; rfl, BRows.nil o0 (fun b hb => by simp [blk] at hb; omega) _ _⟩ fun i f W hi ⟨a0, a4, xw, oa, oc, rs, A', Cp', hrs, a3, br⟩ => ?_
  have hrl : rs.length = i := by rw [hrs]; simp
  by_cases hlt : (i : Int) < (R : Int)
  · have hiR : i < R := by omega
    simp (disch := omega) only [go_sem, Nat.reduceEqDiff, ↓reduceIte, Nat.reduceAdd, a0, a3, a4, hlt]
    refine bslK_0 elt_i fun w5 b5 e5 x5 o5 _ => ?_
    have hg5 := (hg.ext xw).ext x5
    have g0 := hg5.row i hiR
    simp (disch := omega) only [go_sem, Nat.reduceEqDiff, ↓reduceIte, Nat.reduceAdd, a0, a4, g0]
    refine appK_of elt_i (by decide) o5 (m := C) (vi (mkRow C h i)) (by rw [vi_len, mkRow_len]; omega) (fun j u hu => ?_) (by simp [vi, Value.oneCell']) (by simp only [maxLen]; omega) (by omega) fun w6 a6 c6 o6 g6 h6 => ?_
    · have hj : j < C := by
        have := (List.getElem?_eq_some_iff.1 hu).1
        rwa [vi_len, mkRow_len] at this
      rw [vi_get _ _ (by rw [mkRow_len]; exact hj), mkRow_get hj] at hu
      simp only [Option.some.injEq] at hu
      subst hu
      rw [add_mk]; exact hg5.cell i j hiR hj
    simp only [List.nil_append, Nat.zero_add] at o6 ⊢
    simp (disch := omega) only [go_sem, Nat.reduceEqDiff, ↓reduceIte, Nat.reduceAdd]
    refine bslK_1 elt_ii rfl fun w7 b7 e7 x7 k7 _ => ?_
    have s5 := x5.size
    have s6 := g6.size
    have s7 := x7.size
    have sw := xw.size
    have br7 := ((br.ext x5).other g6 (fun b _ hb e => by
      have h1 := br.lt hb
      have h2 : b5 = b := (by simpa [blk] using e)
      omega)).ext x7
    obtain ⟨xs, ox, hxs⟩ := br7.top
    simp (disch := omega) only [go_sem, Nat.reduceEqDiff, ↓reduceIte, Nat.reduceAdd]
    refine appK_1 elt_ii ox k7 rfl (by omega) (.inr ⟨by omega, by decide⟩) fun w8 a8 c8 o8 g8 h8 => ?_
    have f6 : ∀ b, blk a6 = some b → W.heap.size ≤ b := fun b hb => by
      rcases h6 b hb with e | e
      · have h2 : b5 = b := (by simpa [blk] using e)
        omega
      · omega
    simp (disch := omega) only [go_sem, Nat.reduceEqDiff, ↓reduceIte, Nat.reduceAdd, a4]
    have hN : OwnS w7 3 1 a6 (mkRow C h i).length c6 (vi (mkRow C h i)) := by rw [mkRow_len]; exact o6.ext x7
    refine ⟨hiR, (by first | assumption | (simp only [upd_apply, Nat.reduceEqDiff, ↓reduceIte] <;> first | rfl | assumption) | simp [upd_apply, *]), (by first | assumption | (simp only [upd_apply, Nat.reduceEqDiff, ↓reduceIte] <;> first | rfl | assumption) | simp [upd_apply, *]), g8.ext ((g6.ext (xw.trans x5) (fun b hb => by have h2 : b5 = b := (by simpa [blk] using hb); omega)).trans x7) br.ha, a8, c8, rs ++ [mkRow C h i], _, _, by simp [hrs, List.range_succ], ?_, br7.push hN (fun b hb => ⟨by have := f6 b hb; omega, fun e => ?_, fun r hr e => ?_⟩) ox hxs (by rw [mkRow_len]; exact o8) g8 h8 (by omega)⟩
    · simp [upd_apply]
    · have := f6 b hb; have := br.lt (.inl e); omega
    · have := f6 b hb; have := br.lt (.inr ⟨r, hr, e⟩); omega
  · have e : i = R := by omega
    rw [e] at hrs hrl
    simp (disch := omega) only [go_sem, Nat.reduceEqDiff, ↓reduceIte, Nat.reduceAdd, a0, a3, a4, hlt, Try.results119]
    exact ⟨oa, oc, A', Cp', by rw [hrl], by rw [mkRows_eq, ← hrs]; exact br, xw⟩

theorem l1Change_c (a : Option Addr) (rows : List (List Int)) (A : Nat → Option Addr) (Cp : Nat → Nat) (gc : Nat) (w : World) (hr : RowsAt w a rows A Cp) (v : Valid rows) :
    Ret Try.prog 105 #[.slice a rows.length gc, .int .i64 (-1), .int .i64 99] w fun u w' => ∃ a' c' A' Cp', u = .tuple #[.slice a' rows.length c', .bool true] ∧ RowsAt w' a' (mkRows rows.length (rowLen rows) fun i => 99 - hgt rows i) A' Cp' ∧ Ext w w' := by
  have hR1 := v.r1
  have hR7 := v.r7
  have hC1 := v.c1
  have hC7 := v.c7
  have hh := v.hgt
  have hiv := inv_gvalid v
  refine enter3 Try.func105 rfl (by kernel_rfl) (of_decide_eq_true (by kernel_rfl)) fun f a0 a1 a2 => ?_
  simp (disch := omega) only [go_sem, Nat.reduceEqDiff, ↓reduceIte, Nat.reduceAdd, a0]
  refine callK_of (by kernel_rfl) (l1Copy_c _ _ _ _ _ _ hr v) ?_
  rintro _ w1 ⟨ca, cc, A', Cp', rfl, br, x1⟩
  obtain ⟨xs0, ox0, -⟩ := br.top
  obtain ⟨tb, rfl⟩ := ox0.some (by rw [mkRows_len]; omega)
  clear ox0
  generalize hR : rows.length = R at *
  generalize hC : rowLen rows = C at *
  generalize hH : hgt rows = h at *
  simp (disch := omega) only [go_sem, Nat.reduceEqDiff, ↓reduceIte, Nat.reduceAdd]
  refine loopN R (fun r f W => f 1 = .int .i64 (-1) ∧ f 2 = .int .i64 99 ∧ f 8 = .slice (some ⟨tb, 0, none⟩) R cc ∧ f 9 = .int .i64 r ∧ Ext w W ∧ BRows W 24 3 w.heap.size (some ⟨tb, 0, none⟩) cc (mkRows R C fun i => if i < r * C then 99 - h i else h i) A' Cp') ⟨(by first | assumption | (simp only [upd_apply, Nat.reduceEqDiff, ↓reduceIte] <;> first | rfl | assumption) | simp [upd_apply, *]), (by first | assumption | (simp only [upd_apply, Nat.reduceEqDiff, ↓reduceIte] <;> first | rfl | assumption) | simp [upd_apply, *]), (by first | assumption | (simp only [upd_apply, Nat.reduceEqDiff, ↓reduceIte] <;> first | rfl | assumption) | simp [upd_apply, *]), (by first | assumption | (simp only [upd_apply, Nat.reduceEqDiff, ↓reduceIte] <;> first | rfl | assumption) | simp [upd_apply, *]), x1, by simpa using br⟩ fun r f W hrR ⟨a1, a2, a8, a9, xw, br⟩ => ?_
  by_cases hlt : (r : Int) < (R : Int)
  · have hrlt : r < R := by omega
    have hq : r * C + C ≤ R * C := by
      have := Nat.mul_le_mul_right C (show r + 1 ≤ R by omega)
      rw [Nat.add_mul, Nat.one_mul] at this; exact this
    simp (disch := omega) only [go_sem, Nat.reduceEqDiff, ↓reduceIte, Nat.reduceAdd, a8, a9, hlt]
    refine loopN C (fun c f V => f 1 = .int .i64 (-1) ∧ f 2 = .int .i64 99 ∧ f 8 = .slice (some ⟨tb, 0, none⟩) R cc ∧ f 9 = .int .i64 r ∧ f 10 = .int .i64 c ∧ Ext w V ∧ BRows V 24 3 w.heap.size (some ⟨tb, 0, none⟩) cc (mkRows R C fun i => if i < r * C + c then 99 - h i else h i) A' Cp') ⟨(by first | assumption | (simp only [upd_apply, Nat.reduceEqDiff, ↓reduceIte] <;> first | rfl | assumption) | simp [upd_apply, *]), (by first | assumption | (simp only [upd_apply, Nat.reduceEqDiff, ↓reduceIte] <;> first | rfl | assumption) | simp [upd_apply, *]), (by first | assumption | (simp only [upd_apply, Nat.reduceEqDiff, ↓reduceIte] <;> first | rfl | assumption) | simp [upd_apply, *]), (by first | assumption | (simp only [upd_apply, Nat.reduceEqDiff, ↓reduceIte] <;> first | rfl | assumption) | simp [upd_apply, *]), (by first | assumption | (simp only [upd_apply, Nat.reduceEqDiff, ↓reduceIte] <;> first | rfl | assumption) | simp [upd_apply, *]), xw, by simpa using br⟩ fun c f V hcC ⟨a1, a2, a8, a9, a10, xv, brV⟩ => ?_
    generalize hHd : (fun i => if i < r * C + c then 99 - h i else h i) = H at brV
    obtain ⟨xs, ox, hxs⟩ := brV.top
    have hlr : ((mkRows R C H).getD r []).length = C := by rw [mkRows_row hrlt, mkRow_len]
    have orow := brV.row r (by rw [mkRows_len]; exact hrlt)
    rw [mkRows_row hrlt, mkRow_len] at orow
    obtain ⟨rb, hrb⟩ := orow.some (by omega)
    have hrA := hxs r (by rw [mkRows_len]; exact hrlt)
    rw [hlr, hrb] at hrA
    rw [hrb] at orow
    have g0 : V.cell? ⟨tb, r, none⟩ = some (.slice (some ⟨rb, 0, none⟩) C (Cp' r)) := by rw [ox.cell (by rw [mkRows_len]; omega), hrA]
    by_cases hlc : (c : Int) < (C : Int)
    · have hclt : c < C := by omega
      have hqi : r * C + c < R * C := by omega
      have hv := hh (r * C + c) hqi
      have eH : H (r * C + c) = h (r * C + c) := by rw [← hHd]; simp
      have g1 : V.cell? ⟨rb, c, none⟩ = some (.int .i64 (h (r * C + c))) := by rw [orow.cell (by omega), vi_get _ _ (by rw [mkRow_len]; exact hclt), mkRow_get hclt, eH]
      simp (disch := omega) only [go_sem, Nat.reduceEqDiff, ↓reduceIte, Nat.reduceAdd, a8, a9, a10, g0, hlc]
      refine QR_tail 16 (by kernel_rfl) (by kernel_rfl) ?_
      simp (disch := omega) only [go_sem, Nat.reduceEqDiff, ↓reduceIte, Nat.reduceAdd, a1, a2, a8, a9, a10, g0, g1]
      intro w6 x6
      refine stK_own siz_int (by rfl) (by rfl) (orow.ext x6) (by omega) fun w7 o7 g7 => ?_
      rw [vi_set] at o7
      obtain ⟨G, hG⟩ : ∃ G : Nat → Int, G = fun i => if i < r * C + (c + 1) then 99 - h i else h i := ⟨_, rfl⟩
      have hval : -1 * h (r * C + c) + 99 = G (r * C + c) := by
        rw [hG]
        show _ = if r * C + c < r * C + (c + 1) then _ else _
        rw [if_pos (by omega)]; omega
      have brN := (brV.ext x6).setRow (r := r) (by rw [mkRows_len]; exact hrlt) (l := (mkRow C H r).set c (-1 * h (r * C + c) + 99)) (by rw [List.length_set, hlr, mkRow_len]) (by rw [hrb, List.length_set, mkRow_len]; exact o7) (by rw [hrb]; exact g7.grow)
      rw [hval, mkRows_set hrlt hclt (fun i hi hne => by
        rw [← hHd, hG]
        show (if i < r * C + (c + 1) then _ else _) = (if i < r * C + c then _ else _)
        by_cases h1 : i < r * C + c
        · rw [if_pos h1, if_pos (by omega)]
        · rw [if_neg h1, if_neg (by omega)])] at brN
      simp (disch := omega) only [go_sem, Nat.reduceEqDiff, ↓reduceIte, Nat.reduceAdd, a10]
      exact ⟨hclt, (by first | assumption | (simp only [upd_apply, Nat.reduceEqDiff, ↓reduceIte] <;> first | rfl | assumption) | simp [upd_apply, *]), (by first | assumption | (simp only [upd_apply, Nat.reduceEqDiff, ↓reduceIte] <;> first | rfl | assumption) | simp [upd_apply, *]), (by first | assumption | (simp only [upd_apply, Nat.reduceEqDiff, ↓reduceIte] <;> first | rfl | assumption) | simp [upd_apply, *]), (by first | assumption | (simp only [upd_apply, Nat.reduceEqDiff, ↓reduceIte] <;> first | rfl | assumption) | simp [upd_apply, *]), (by first | assumption | (simp only [upd_apply, Nat.reduceEqDiff, ↓reduceIte] <;> first | rfl | assumption) | simp [upd_apply, *]), g7.ext (xv.trans x6) (by have := (brV.far r (by rw [mkRows_len]; exact hrlt) rb (by rw [hrb]; rfl)).1; omega), by rw [hG] at brN; exact brN⟩
    · have e : c = C := by omega
      simp (disch := omega) only [go_sem, Nat.reduceEqDiff, ↓reduceIte, Nat.reduceAdd, a8, a9, a10, g0, hlc]
      refine ⟨hrlt, (by first | assumption | (simp only [upd_apply, Nat.reduceEqDiff, ↓reduceIte] <;> first | rfl | assumption) | simp [upd_apply, *]), (by first | assumption | (simp only [upd_apply, Nat.reduceEqDiff, ↓reduceIte] <;> first | rfl | assumption) | simp [upd_apply, *]), (by first | assumption | (simp only [upd_apply, Nat.reduceEqDiff, ↓reduceIte] <;> first | rfl | assumption) | simp [upd_apply, *]), (by first | assumption | (simp only [upd_apply, Nat.reduceEqDiff, ↓reduceIte] <;> first | rfl | assumption) | simp [upd_apply, *]), xv, ?_⟩
      have e2 : (fun i => if i < (r + 1) * C then 99 - h i else h i) = H := by
        rw [← hHd]; funext i
        rw [Nat.add_mul, Nat.one_mul, e]
      rw [e2]; exact brV
  · have e : r = R := by omega
    have e2 : mkRows R C (fun i => if i < r * C then 99 - h i else h i) = mkRows R C fun i => 99 - h i := by
      rw [e]
      apply List.map_congr_left; intro s hs
      apply List.map_congr_left; intro d hd
      have hs := List.mem_range.1 hs
      have hd := List.mem_range.1 hd
      have := Nat.mul_le_mul_right C (show s + 1 ≤ R by omega)
      rw [Nat.add_mul, Nat.one_mul] at this
      exact if_pos (by omega)
    rw [e2] at br
    have hrN := br.at (mkRows_i64 fun i hi => by have := hh i hi; simp only [I64]; omega) (by rw [mkRows_len]; simp only [maxLen]; omega) (mkRows_lens (by simp only [maxLen]; omega))
    have hlN : (mkRows R C fun i => 99 - h i).length = R := mkRows_len _ _ _
    simp (disch := omega) only [go_sem, Nat.reduceEqDiff, ↓reduceIte, Nat.reduceAdd, a8, a9, hlt]
    have gv := gridValid_c _ _ _ _ cc _ hrN
    rw [hlN] at gv
    refine callK_pure (by kernel_rfl) (gv) fun w5 x5 => ?_
    simp (disch := omega) only [go_sem, Nat.reduceEqDiff, ↓reduceIte, Nat.reduceAdd, hiv, a8, Try.results105]
    exact ⟨_, cc, A', Cp', rfl, hrN.ext x5, xw.trans x5⟩

theorem specGridInvert_c (a : Option Addr) (rows : List (List Int)) (A : Nat → Option Addr) (Cp : Nat → Nat) (gc : Nat) (w : World) (hr : RowsAt w a rows A Cp) (hv : gvalid rows = true) :
    Ret Try.prog 77 #[.slice a rows.length gc] w fun u w' => ∃ a' c' A' Cp', u = .tuple #[.slice a' rows.length c', .bool true] ∧ RowsAt w' a' (mkRows rows.length (rowLen rows) fun i => 99 - hgt rows i) A' Cp' ∧ Ext w w' := by
  have v := (gvalid_iff rows).1 hv
  refine enter1 Try.func77 rfl (by kernel_rfl) (of_decide_eq_true (by kernel_rfl)) fun f a0 => ?_
  simp (disch := omega) only [go_sem, Nat.reduceEqDiff, ↓reduceIte, Nat.reduceAdd, a0]
  refine callK_pure (by kernel_rfl) (gridValid_c _ _ _ _ _ _ hr) fun w1 x1 => ?_
  simp (disch := omega) only [go_sem, Nat.reduceEqDiff, ↓reduceIte, Nat.reduceAdd, hv, a0]
  refine callK_of (by kernel_rfl) (l1Change_c _ _ _ _ _ _ (hr.ext x1) v) ?_
  rintro _ w2 ⟨a', c', A', Cp', rfl, hr2, x2⟩
  simp (disch := omega) only [go_sem, Nat.reduceEqDiff, ↓reduceIte, Nat.reduceAdd, Try.results77]
  exact ⟨a', c', A', Cp', rfl, hr2, x1.trans x2⟩

theorem specPitList_c (a : Option Addr) (rows : List (List Int)) (A : Nat → Option Addr) (Cp : Nat → Nat) (gc : Nat) (w : World) (hr : RowsAt w a rows A Cp) :
    Ret Try.prog 37 #[.slice a rows.length gc] w fun v w' => Got1 w w' (ni (pitsOf rows)) v := by
  cases hv : gvalid rows with
  | false =>
    have hG : Ret Try.prog 77 #[.slice a rows.length gc] w fun u w' => ∃ b, u = .tuple #[.slice (some ⟨b, 0, none⟩) 0 0, .bool false] ∧ Ext w w' := by
      refine enter1 Try.func77 rfl (by kernel_rfl) (of_decide_eq_true (by kernel_rfl)) fun f a0 => ?_
      simp (disch := omega) only [go_sem, Nat.reduceEqDiff, ↓reduceIte, Nat.reduceAdd, a0]
      refine callK_pure (by kernel_rfl) (gridValid_c _ _ _ _ _ _ hr) fun w1 x1 => ?_
      simp (disch := omega) only [go_sem, Nat.reduceEqDiff, ↓reduceIte, Nat.reduceAdd, hv]
      refine bslK_0 elt_ii fun w2 b2 e2 x2 o2 _ => ?_
      simp (disch := omega) only [go_sem, Nat.reduceEqDiff, ↓reduceIte, Nat.reduceAdd, Try.results77]
      exact ⟨b2, rfl, x1.trans x2⟩
    refine enter1 Try.func37 rfl (by kernel_rfl) (of_decide_eq_true (by kernel_rfl)) fun f a0 => ?_
    simp (disch := omega) only [go_sem, Nat.reduceEqDiff, ↓reduceIte, Nat.reduceAdd, a0]
    refine callK_of (by kernel_rfl) (hG) ?_
    rintro _ w1 ⟨b, rfl, x1⟩
    simp (disch := omega) only [go_sem, Nat.reduceEqDiff, ↓reduceIte, Nat.reduceAdd]
    refine bslK_0 elt_i fun w2 b2 e2 x2 o2 _ => ?_
    have s1 := x1.size
    simp (disch := omega) only [go_sem, Nat.reduceEqDiff, ↓reduceIte, Nat.reduceAdd, Try.results37]
    exact ⟨_, _, by simp [pitsOf, hv, ni]; exact ⟨rfl, rfl⟩, by simpa [pitsOf, hv, ni, vi] using o2, fun b hb => by have : b2 = b := (by simpa [blk] using hb); omega, x1.trans x2⟩
  | true =>
    have v := (gvalid_iff rows).1 hv
    refine enter1 Try.func37 rfl (by kernel_rfl) (of_decide_eq_true (by kernel_rfl)) fun f a0 => ?_
    simp (disch := omega) only [go_sem, Nat.reduceEqDiff, ↓reduceIte, Nat.reduceAdd, a0]
    refine callK_of (by kernel_rfl) (specGridInvert_c _ _ _ _ _ _ hr hv) ?_
    rintro _ w1 ⟨a', c', A', Cp', rfl, hr2, x1⟩
    simp (disch := omega) only [go_sem, Nat.reduceEqDiff, ↓reduceIte, Nat.reduceAdd]
    have pl := specPeakList_c _ _ _ _ c' _ hr2
    rw [mkRows_len] at pl
    refine callK_of (by kernel_rfl) (pl) ?_
    rintro _ w2 ⟨pa, pc, rfl, po, pf, x2⟩
    rw [inv_peaks hv] at po ⊢
    have s1 := x1.size
    simp (disch := omega) only [go_sem, Nat.reduceEqDiff, ↓reduceIte, Nat.reduceAdd, Try.results37]
    exact ⟨pa, pc, rfl, po, fun b hb => by have := pf b hb; omega, x1.trans x2⟩

theorem pitList_c (a : Option Addr) (rows : List (List Int)) (A : Nat → Option Addr) (Cp : Nat → Nat) (gc : Nat) (w : World) (hr : RowsAt w a rows A Cp) :
    Ret Try.prog 38 #[.slice a rows.length gc] w fun v w' => Got1 w w' (ni (pitsOf rows)) v := by
  cases hv : gvalid rows with
  | false =>
    have hG : Ret Try.prog 78 #[.slice a rows.length gc] w fun u w' => u = .tuple #[.slice none 0 0, .bool false] ∧ Ext w w' := by
      refine enter1 Try.func78 rfl (by kernel_rfl) (of_decide_eq_true (by kernel_rfl)) fun f a0 => ?_
      simp (disch := omega) only [go_sem, Nat.reduceEqDiff, ↓reduceIte, Nat.reduceAdd, a0]
      refine callK_of (by kernel_rfl) (fieldOf_c _ _ _ _ _ _ hr) ?_
      rintro _ w2 ⟨x2, (⟨hv', -⟩ | ⟨hv', rfl⟩)⟩
      · rw [hv] at hv'; cases hv'
      simp (disch := omega) only [go_sem, Nat.reduceEqDiff, ↓reduceIte, Nat.reduceAdd]
      refine allocK_of zero_f fun w3 fb _ x3 k3 _ => ?_
      simp (disch := omega) only [go_sem, Nat.reduceEqDiff, ↓reduceIte, Nat.reduceAdd]
      refine stK_agg siz_f (by simp) (by simp [Value.oneCell']) k3 (by simp) fun w4 k4 g4 => ?_
      simp (disch := omega) only [go_sem, Nat.reduceEqDiff, ↓reduceIte, Nat.reduceAdd, Try.results78]
      exact ⟨trivial, g4.ext (x2.trans x3) (by have := x2.size; omega)⟩
    refine enter1 Try.func38 rfl (by kernel_rfl) (of_decide_eq_true (by kernel_rfl)) fun f a0 => ?_
    simp (disch := omega) only [go_sem, Nat.reduceEqDiff, ↓reduceIte, Nat.reduceAdd, a0]
    refine callK_pure (by kernel_rfl) (hG) fun w1 x1 => ?_
    simp (disch := omega) only [go_sem, Nat.reduceEqDiff, ↓reduceIte, Nat.reduceAdd, Try.results38]
    exact ⟨none, 0, by simp [pitsOf, hv, ni], by simpa [pitsOf, hv, ni, vi] using OwnS.nil _ _ _, fun b hb => (by cases hb), x1⟩
  | true =>
    have v := (gvalid_iff rows).1 hv
    refine enter1 Try.func38 rfl (by kernel_rfl) (of_decide_eq_true (by kernel_rfl)) fun f a0 => ?_
    simp (disch := omega) only [go_sem, Nat.reduceEqDiff, ↓reduceIte, Nat.reduceAdd, a0]
    refine callK_of (by kernel_rfl) (gridInvert_c _ _ _ _ _ _ hr hv) ?_
    rintro _ w1 ⟨b, A', rfl, x1, or⟩
    have hr2 := or.at (mkRows_i64 fun i hi => by have := v.hgt i hi; simp only [I64]; omega) (by rw [mkRows_len]; exact hr.lens) (mkRows_lens (by have := v.c7; simp only [maxLen]; omega))
    simp (disch := omega) only [go_sem, Nat.reduceEqDiff, ↓reduceIte, Nat.reduceAdd]
    have pl := peakList_c _ _ _ _ rows.length _ hr2
    rw [mkRows_len] at pl
    refine callK_of (by kernel_rfl) (pl) ?_
    rintro _ w2 ⟨pa, pc, rfl, po, pf, x2⟩
    rw [inv_peaks hv] at po ⊢
    have s1 := x1.size
    simp (disch := omega) only [go_sem, Nat.reduceEqDiff, ↓reduceIte, Nat.reduceAdd, Try.results38]
    exact ⟨pa, pc, rfl, po, fun b hb => by have := pf b hb; omega, x1.trans x2⟩
end Go.Proofs.Ytlnodngkacbfkaa
