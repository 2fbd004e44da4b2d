/- K3: the texts Uq as one. -/
import Derived.Test.YtgdopjkanibfeaaGreatDoorKe
import Derived.Test.YtgdopjkanibfeaaGreatDoorK2
import Derived.Test.YtgdopjkanibfeaaGreatDoorK1
set_option linter.all false
set_option maxRecDepth 20000
/- A line that asks for peaks; the law FnExecutePeaks. -/
namespace Go.SW
open Go Go.RowKit
section
variable {R C : Nat} {h : Nat → Int}
theorem rch_zero' {lv : Int} (hall : ∀ j, j < R * C → lv ≤ h j) : ∀ x, x < R * C → Rch R C h 0 lv x := by
  intro x
  induction x using Nat.strongRecOn with
  | _ x ih =>
    intro hx
    have hC : 0 < C := Nat.pos_of_ne_zero fun e => by subst e; simp at hx
    by_cases h0 : x = 0
    · subst h0; exact Rch.self (hall 0 hx)
    · by_cases hc : C ≤ x
      · have hy : x - C < R * C := by omega
        have hj : x - C ∈ nearN R C x := nearN_mem.2 (.inl ⟨hc, rfl⟩)
        exact (ih (x - C) (by omega) hy).edge hy ((near_sym hx hy).1 hj) (hall x hx)
      · have hy : x - 1 < R * C := by omega
        have hm : x % C = x := Nat.mod_eq_of_lt (by omega)
        have hj : x - 1 ∈ nearN R C x := nearN_mem.2 (.inr (.inr (.inr ⟨by omega, rfl⟩)))
        exact (ih (x - 1) (by omega) hy).edge hy ((near_sym hx hy).1 hj) (hall x hx)
theorem rch_all' {lv : Int} (hall : ∀ j, j < R * C → lv ≤ h j) {a x : Nat} (ha : a < R * C) (hx : x < R * C) : Rch R C h a lv x := by
  have r1 := rch_zero' hall a ha
  have r2 := rch_zero' hall x hx
  exact ⟨r1.2.1, r2.2.1, r1.2.2.symm.trans r2.2.2⟩
theorem pass_min' (g : Gd R C h) {a x : Nat} (ha : a < R * C) (hx : x < R * C) : mnN h (R * C) ≤ passN R C h a x := by
  obtain ⟨j, hj, e⟩ := mnN_at2 h (R * C) g.pos
  have h1 := g.hh j hj
  exact (pass_ok g ha hx (by omega)).2 (rch_all' (fun i hi => mnN_le2 h _ i hi) ha hx)
theorem pass_lea' (g : Gd R C h) {a x : Nat} (ha : a < R * C) (hx : x < R * C) : passN R C h a x ≤ h a ∧ passN R C h a x ≤ h x := by
  obtain ⟨j, hj, e⟩ := mnN_at2 h (R * C) g.pos
  have h1 := g.hh j hj
  have h2 := pass_min' g ha hx
  have r := (pass_ok g ha hx (by omega : 0 ≤ passN R C h a x)).1 (Int.le_refl _)
  exact ⟨r.lea, r.lex⟩
end
theorem bq_at {R C : Nat} {h : Nat → Int} (i : Nat) : ∀ k, bestTo R C h i k = -1 ∨ ∃ j, j < k ∧ hiB h j i = true ∧ bestTo R C h i k = passN R C h i j
  | 0 => .inl rfl
  | k + 1 => by
    simp only [bestTo]
    by_cases hh : hiB h k i = true
    · rw [if_pos hh]
      have hp := pass_ge R C h i k
      by_cases hm : bestTo R C h i k ≤ passN R C h i k
      · rw [Int.max_eq_right hm]; exact .inr ⟨k, by omega, hh, rfl⟩
      · rw [Int.max_eq_left (by omega)]
        rcases bq_at i k with e | ⟨j, hj, h1, h2⟩
        · exact .inl e
        · exact .inr ⟨j, by omega, h1, by omega⟩
    · rw [if_neg hh]
      rcases bq_at i k with e | ⟨j, hj, h1, h2⟩
      · exact .inl e
      · exact .inr ⟨j, by omega, h1, h2⟩
theorem kq_le {R C : Nat} {h : Nat → Int} (g : Gd R C h) {i : Nat} (hi : i < R * C) : keyN R C h i ≤ h i := by
  rw [keyN]
  split
  · rename_i hb
    rcases bq_at (R := R) (C := C) (h := h) i (R * C) with e | ⟨j, hj, h1, h2⟩
    · omega
    · rw [h2]; exact (pass_lea' g hi hj).1
  · exact mnN_le2 h _ i hi
theorem prom_rng {rows : List (List Int)} {i : Nat} (hi : i ∈ peakListOf rows) : i < 49 ∧ 0 ≤ promOf rows i ∧ promOf rows i ≤ 99 := by
  have hp := mem_peakListOf.1 hi
  obtain ⟨n, e, hv, hn, hb⟩ := pk_parts hp
  obtain rfl : i = n := by omega
  have g := ((gvalid_iff rows).1 hv).gd
  have h49 := g.le
  have h1 := kq_le g hn
  have h2 := keyN_bnd g i
  have h3 := g.hh i hn
  rw [promOf, if_pos hp, promN]
  simp only [Int.toNat_natCast]
  omega
/-- A peak and its prominence. -/
def pkw (rows : List (List Int)) (i : Nat) : List UInt8 := dec i ++ 58 :: dec (promOf rows i).toNat
def pkW (rows : List (List Int)) : List (List UInt8) := (peakListOf rows).map (pkw rows)
theorem pkw_len {rows : List (List Int)} {i : Nat} (hi : i ∈ peakListOf rows) : (pkw rows i).length ≤ 5 := by
  obtain ⟨h1, h2, h3⟩ := prom_rng hi
  have d1 := dec_len2 (n := i) (by omega)
  have d2 := dec_len2 (n := (promOf rows i).toNat) (by omega)
  simp only [pkw, List.length_append, List.length_cons]
  omega
theorem pkW_len (rows : List (List Int)) : ∀ l ∈ pkW rows, l.length ≤ 5 := fun l hl => by
  obtain ⟨i, hi, rfl⟩ := List.mem_map.1 hl
  exact pkw_len hi
theorem jn_take {c : UInt8} {L : List (List UInt8)} {k : Nat} (hk : k < L.length) : jn c (L.take (k + 1)) = jn c (L.take k) ++ (if k = 0 then [] else [c]) ++ L.getD k [] := by
  rw [take_snoc [] hk]
  by_cases h0 : k = 0
  · subst h0; simp [jn]
  · rw [if_neg h0]
    have : L.take k ≠ [] := by
      intro e
      have := congrArg List.length e
      rw [List.length_take, List.length_nil] at this; omega
    rw [jn_snoc this]
    simp
end Go.SW
namespace Go.Proofs.YtgdopjkanibfeaaGreatDoor
open Go.RowKit Go.SW

theorem sjoin2_c (b n cp : Nat) (L : List (List UInt8)) (c : UInt8) (w : World) (hcell : ∀ j, j < L.length → w.cell? ⟨b, j, none⟩ = some (.string (bs (L.getD j [])))) (hb : b < w.heap.size) (hn : n = L.length) (hcp : n ≤ cp) (h1 : L.length ≤ 1000000) (h2 : ∀ l ∈ L, l.length ≤ 1000000) :
    Ret Tryz.prog 138 #[.slice (some ⟨b, 0, none⟩) n cp, .string (bs [c])] w fun v w' => v = .string (bs (jn c L)) ∧ Ext w w' := by
  have hlen := jn_len (c := c) h2
  have hmul : L.length * (1000000 + 1) ≤ 1000000 * 1000001 := Nat.mul_le_mul_right _ h1
  have e0 : (L.map bs).map (fun x => x.data.toList) = L := by
    rw [List.map_map]
    conv => rhs; rw [← List.map_id L]
    exact List.map_congr_left fun x _ => by simp [bs]
  have hj : Lib.join ((L.map bs).map (·.data.toList)) (bs [c]).data.toList = jn c L := by
    rw [e0]
    exact join_jn c L
  have h := Any.strings_Join Tryz.lays156 bExtra b 0 cp (L.map bs) (bs [c]) w
    (fun j x hx => by
      rw [List.getElem?_map] at hx
      cases hL : L[j]? with
      | none => rw [hL] at hx; cases hx
      | some y =>
        rw [hL] at hx
        cases hx
        obtain ⟨hj, rfl⟩ := List.getElem?_eq_some_iff.1 hL
        rw [Nat.zero_add, hcell j hj, getD_at _ _ hj])
    hb (by simp; omega) (by simpa [hn] using hcp) (by rw [hj]; omega)
  rw [hj, List.length_map, ← hn] at h
  exact Calls.mono h fun e w' ⟨he, hw⟩ => ⟨_, he, rfl, hw⟩

theorem ni_cell {w : World} {e b n c : Nat} {L : List Nat} (o : OwnS w e 1 (some ⟨b, 0, none⟩) n c (vi (ni L))) (hn : n = L.length) {i : Nat} (hi : i < L.length) : w.cell? ⟨b, i, none⟩ = some (.int .i64 (L.getD i 0 : Nat)) := by
  rw [o.cell (by omega)]
  simp [vi, ni, hi, getD_at]

theorem deskPeaks_c (d nb : Nat) (rows : List (List Int)) (X : Nat → Prop) (w : World) (hd : Desk w 61 d rows X) :
    Ret Tryz.prog 118 #[.pointer (some ⟨d, 0, none⟩), .slice (some ⟨nb, 0, none⟩) 0 0] w fun v w' => v = .tuple #[.string (bs (jn 32 (pkW rows) ++ [10])), .bool true] ∧ Ext w w' := by
  obtain ⟨a, A, Cp, gc, k, rr, h1, h2⟩ := hd.ex
  have hPl : (pkW rows).length = (peakListOf rows).length := by simp [pkW]
  have hP49 : (peakListOf rows).length ≤ 49 := peakListOf_len rows
  have hWl := pkW_len rows
  have hjl := jn_len (c := 32) hWl
  refine enter2 Tryz.func118 rfl (by kernel_rfl) (of_decide_eq_true (by kernel_rfl)) fun f a0 a1 => ?_
  simp (disch := omega) only [go_sem, Nat.reduceEqDiff, ↓reduceIte, Nat.reduceAdd]
  refine bslK_0 elt_s fun w1 b1 e1 x1 o1 s1 => ?_
  have k1 := k.ext x1
  simp (disch := omega) only [go_sem, Nat.reduceEqDiff, ↓reduceIte, Nat.reduceAdd, a0, k1.cell]
  refine callK_of (by kernel_rfl) (peakList_c _ _ _ _ _ _ (rr.ext x1)) ?_
  rintro _ w2 ⟨pa, pc, rfl, po, hpa, x2⟩
  rw [ni_len] at po ⊢
  simp (disch := omega) only [go_sem, Nat.reduceEqDiff, ↓reduceIte, Nat.reduceAdd]
  have hd0 := k.lt
  refine loopN (peakListOf rows).length (fun i f W => f 0 = .pointer (some ⟨d, 0, none⟩) ∧ f 14 = .slice pa (peakListOf rows).length pc ∧ f 15 = .int .i64 (peakListOf rows).length ∧ f 16 = .int .i64 i ∧ Ext w W ∧ OwnS W 3 1 pa (peakListOf rows).length pc (vi (ni (peakListOf rows))) ∧ ∃ ob oc, f 6 = .slice (some ⟨ob, 0, none⟩) i oc ∧ OwnS W 9 1 (some ⟨ob, 0, none⟩) i oc (vst ((pkW rows).take i)) ∧ w.heap.size ≤ ob ∧ blk pa ≠ some ob)
    ⟨(by first | assumption | (simp only [upd_apply, Nat.reduceEqDiff, ↓reduceIte] <;> first | rfl | assumption) | simp [upd_apply, *]), (by first | assumption | (simp only [upd_apply, Nat.reduceEqDiff, ↓reduceIte] <;> first | rfl | assumption) | simp [upd_apply, *]), (by first | assumption | (simp only [upd_apply, Nat.reduceEqDiff, ↓reduceIte] <;> first | rfl | assumption) | simp [upd_apply, *]), (by first | assumption | (simp only [upd_apply, Nat.reduceEqDiff, ↓reduceIte] <;> first | rfl | assumption) | simp [upd_apply, *]), x1.trans x2, po, b1, 0, by simp [upd_apply], by simpa [vst] using o1.ext x2, by omega, fun e => by have := hpa b1 e; omega⟩ fun i f W hi ⟨a0, a14, a15, a16, xw, po, ob, oc, a6, oo, hob, hpo⟩ => ?_
  by_cases hlt : (i : Int) < ((peakListOf rows).length : Int)
  · have hiP : i < (peakListOf rows).length := by omega
    have hmem : (peakListOf rows).getD i 0 ∈ peakListOf rows := getD_mem hiP
    obtain ⟨hr1, hr2, hr3⟩ := prom_rng hmem
    have hpm : promOf rows ((peakListOf rows).getD i 0 : Nat) = (((promOf rows ((peakListOf rows).getD i 0 : Nat)).toNat : Nat) : Int) := by omega
    obtain ⟨pb, rfl⟩ := po.some (by omega)
    have hcl := ni_cell po rfl hiP
    have hpw : (pkW rows).getD i [] = dec ((peakListOf rows).getD i 0) ++ 58 :: dec (promOf rows ((peakListOf rows).getD i 0 : Nat)).toNat := by
      simp [pkW, hiP, pkw, getD_at]
    have hsn : vst ((pkW rows).take (i + 1)) = vst ((pkW rows).take i) ++ [.string (bs ((pkW rows).getD i []))] := by
      rw [take_snoc [] (by omega), ← vst_snoc]
    rw [hpw] at hsn
    generalize hp : (peakListOf rows).getD i 0 = p at *
    generalize hq : (promOf rows (p : Nat)).toNat = q at *
    have d1 := dec_len2 (n := p) (by omega)
    have d2 := dec_len2 (n := q) (by omega)
    have e1 : binV Tryz.prog .add 9 (.string (bs (dec p))) (.string (bs [58])) = some (.string (bs (dec p ++ [58]))) := bin_adds _ _ (by simp; omega)
    have e2 : binV Tryz.prog .add 9 (.string (bs (dec p ++ [58]))) (.string (bs (dec q))) = some (.string (bs (dec p ++ [58] ++ dec q))) := bin_adds _ _ (by simp; omega)
    have e3 : dec p ++ [58] ++ dec q = dec p ++ 58 :: dec q := by simp
    simp (disch := omega) only [go_sem, Nat.reduceEqDiff, ↓reduceIte, Nat.reduceAdd, a14, a15, a16, hlt, hcl]
    refine QR_sch (some ob) (.st 0 (.st 1 (.st 4 (.st 5 (.st 6 (.st 7 (.st 8 (.ef 2 (.st 3 (.ef 9 (.ef 10 (.st 11 (.ef 12 (.ef 13 (.st 14 (.done)))))))))))))))) (by kernel_rfl) (by kernel_rfl) fun w3 x3 => ?_
    have hod : ob ≠ d := by omega
    have k3 := k.ext (xw.trans x3)
    simp (disch := omega) only [go_sem, Nat.reduceEqDiff, ↓reduceIte, Nat.reduceAdd, a0, a6, k3.cell, hod]
    refine callK_of (by kernel_rfl) (itoa_c p (by omega) _) ?_
    rintro _ w4 ⟨rfl, x4⟩
    refine nxE_of (x4.grow _) ?_
    have k4 := k3.ext x4
    simp (disch := omega) only [go_sem, Nat.reduceEqDiff, ↓reduceIte, Nat.reduceAdd, a0, a6, k4.cell, e1]
    refine callK_of (by kernel_rfl) (implPeakProminence_c _ _ _ _ _ _ _ (rr.ext ((xw.trans x3).trans x4))) ?_
    rintro _ w5 ⟨rfl, x5⟩
    refine nxE_of (x5.grow _) ?_
    rw [hpm]
    simp (disch := omega) only [go_sem, Nat.reduceEqDiff, ↓reduceIte, Nat.reduceAdd, a0, a6, e1]
    refine callK_of (by kernel_rfl) (itoa_c q (by omega) _) ?_
    rintro _ w6 ⟨rfl, x6⟩
    refine nxE_of (x6.grow _) ?_
    simp (disch := omega) only [go_sem, Nat.reduceEqDiff, ↓reduceIte, Nat.reduceAdd, a0, a6, e2]
    refine bslK_1 elt_s rfl fun w7 b7 e7 x7 k7 _ => ?_
    refine nxE_of (x7.grow _) ?_
    have x37 := (((x3.trans x4).trans x5).trans x6).trans x7
    simp (disch := omega) only [go_sem, Nat.reduceEqDiff, ↓reduceIte, Nat.reduceAdd, a0, a6]
    refine appK_1 elt_s (oo.ext x37) k7 rfl (by omega) (.inr ⟨by omega, by decide⟩) fun w8 a8 c8 o8 g8 h8 => nxE_of g8 ?_
    rw [e3, ← hsn] at o8
    obtain ⟨b8, rfl⟩ := o8.some (by omega)
    have hne : ∀ b, blk (some (⟨pb, 0, none⟩ : Addr)) = some b → blk (some (⟨ob, 0, none⟩ : Addr)) ≠ some b := fun b hb e => hpo (hb.trans e.symm)
    have hpl := po.blk_lt (b := pb) rfl
    have hs := x37.size
    have hsw := xw.size
    simp (disch := omega) only [go_sem, Nat.reduceEqDiff, ↓reduceIte, Nat.reduceAdd, a16]
    have h8' := h8 b8 rfl
    refine ⟨hiP, (by first | assumption | (simp only [upd_apply, Nat.reduceEqDiff, ↓reduceIte] <;> first | rfl | assumption) | simp [upd_apply, *]), (by first | assumption | (simp only [upd_apply, Nat.reduceEqDiff, ↓reduceIte] <;> first | rfl | assumption) | simp [upd_apply, *]), (by first | assumption | (simp only [upd_apply, Nat.reduceEqDiff, ↓reduceIte] <;> first | rfl | assumption) | simp [upd_apply, *]), by simp [upd_apply], g8.ext (xw.trans x37) fun b hb => by simp only [blk_some, Option.some.injEq] at hb; omega, (po.ext x37).grow g8 hne, b8, c8, by simp [upd_apply], o8, ?_, ?_⟩
    · rcases h8' with h | h
      · simp only [blk_some, Option.some.injEq] at h; omega
      · omega
    · intro e
      rcases h8' with h | h
      · exact hpo (e.trans h.symm)
      · simp only [blk_some, Option.some.injEq] at e; omega
  · obtain rfl : i = (peakListOf rows).length := by omega
    rw [← hPl, List.take_length] at oo
    simp (disch := omega) only [go_sem, Nat.reduceEqDiff, ↓reduceIte, Nat.reduceAdd, a14, a15, a16, hlt, a6]
    refine callK_of (by kernel_rfl) (sjoin2_c ob _ oc (pkW rows) 32 W (fun j hj => by rw [oo.cell (by omega)]; simp [vst, hj, getD_at]) (oo.blk_lt rfl) hPl.symm (by rw [← hPl]; exact oo.le_cap) (by omega) (fun l hl => by have := hWl l hl; omega)) ?_
    rintro _ w9 ⟨rfl, x9⟩
    have e1 : binV Tryz.prog .add 9 (.string (bs (jn 32 (pkW rows)))) (.string (bs [10])) = some (.string (bs (jn 32 (pkW rows) ++ [10]))) := bin_adds _ _ (by simp; omega)
    simp (disch := omega) only [go_sem, Nat.reduceEqDiff, ↓reduceIte, Nat.reduceAdd, e1, Tryz.results118]
    exact ⟨trivial, xw.trans x9⟩

theorem ansPeaks (rows : List (List Int)) : Ans [112, 101, 97, 107, 115] (jn 32 (pkW rows) ++ [10]) rows rows := by
  have hs : spl 32 [112, 101, 97, 107, 115] = [112, 101, 97, 107, 115] :: ([] : List Nat).map dec := by decide
  refine ans_of fun d X w dk hX => ?_
  refine Ret.mono (obey_c d _ [112, 101, 97, 107, 115] [] 8 118 w (fun v W W' => v = .tuple #[.string (bs (jn 32 (pkW rows) ++ [10])), .bool true] ∧ Ext W W') (by simp) (not_grd (by decide)).1 hs (by simp) (by simp) rfl (by kernel_rfl) fun W nb e kn => ?_) fun v w' ⟨W, e, hv, e2⟩ => ⟨hv, (e.trans e2).grow _, (dk.ext e).ext e2⟩
  refine Ret.mono (deskPeaks_c d nb rows X W (dk.ext e)) fun v W' ⟨hv, e2⟩ => ⟨_, _, hv, hv, e2⟩

set_option maxHeartbeats 1000000 in
theorem fnExecutePeaks_c (a : Option Addr) (l : List Int) (c : Nat) (w : World) (hl : l.length ≤ c) (hc : c ≤ maxLen) (hs : ByteS w a l) :
    Ret Tryz.prog 3 #[.slice a l.length c] w fun v w' => v = .bool true ∧ Ext w w' := by
  have hmax := maxLen_le (Nat.le_trans hl hc)
  refine enter1 Tryz.func3 rfl (by kernel_rfl) (of_decide_eq_true (by kernel_rfl)) fun f a0 => ?_
  by_cases hbig : (1048576 : Int) < l.length
  · simp (disch := omega) only [go_sem, Nat.reduceEqDiff, ↓reduceIte, Nat.reduceAdd, a0, hbig, Tryz.results3]
    exact ⟨trivial, Ext.refl _⟩
  simp (disch := omega) only [go_sem, Nat.reduceEqDiff, ↓reduceIte, Nat.reduceAdd, a0, hbig]
  refine callK_of (by kernel_rfl) (drawPeakList_c _ _ _ _ hl hc hs) ?_
  rintro _ w1 ⟨ga, gc, rows, A, Cp, rfl, hr, x1⟩
  simp (disch := omega) only [go_sem, Nat.reduceEqDiff, ↓reduceIte, Nat.reduceAdd]
  refine callK_of (by kernel_rfl) (peakList_c _ _ _ _ _ _ hr) ?_
  rintro _ w2 ⟨oa, oc, rfl, oo, hoa, x2⟩
  simp (disch := omega) only [go_sem, Nat.reduceEqDiff, ↓reduceIte, Nat.reduceAdd]
  refine callK_of (by kernel_rfl) (specPeakList_c _ _ _ _ _ _ (hr.ext x2)) ?_
  rintro _ w3 ⟨sa, sc, rfl, so, hsa, x3⟩
  have hd : decide (ni (peakListOf rows) = ni (peakListOf rows)) = true := decide_eq_true rfl
  have x13 := (x1.trans x2).trans x3
  have r3 := (hr.ext x2).ext x3
  have o3 := oo.ext x3
  have hP49 : (peakListOf rows).length ≤ 49 := peakListOf_len rows
  have hlen := ni_len (l := peakListOf rows)
  have hmx : (ni (peakListOf rows)).length ≤ maxLen := by simp [maxLen]; omega
  have hPl : (pkW rows).length = (peakListOf rows).length := by simp [pkW]
  have hWl := pkW_len rows
  have hjl := jn_len (c := 32) hWl
  simp (disch := omega) only [go_sem, Nat.reduceEqDiff, ↓reduceIte, Nat.reduceAdd]
  refine callK_pure (by kernel_rfl) (sameInts_c oa sa _ _ oc sc _ o3.ints so.ints hmx) fun w4 x4 => ?_
  simp (disch := omega) only [go_sem, Nat.reduceEqDiff, ↓reduceIte, Nat.reduceAdd, hd]
  by_cases h0 : (((ni (peakListOf rows)).length : Nat) : Int) = 0
  · simp (disch := omega) only [go_sem, Nat.reduceEqDiff, ↓reduceIte, Nat.reduceAdd, h0, beq_self_eq_true]
    refine callK_pure (by kernel_rfl) (sameInts_c oa sa _ _ oc sc _ (o3.ext x4).ints (so.ext x4).ints hmx) fun w5 x5 => ?_
    simp (disch := omega) only [go_sem, Nat.reduceEqDiff, ↓reduceIte, Nat.reduceAdd, hd, Tryz.results3]
    exact ⟨trivial, (x13.trans x4).trans x5⟩
  have hgv : gvalid rows = true := by
    cases e : gvalid rows with
    | true => rfl
    | false => exact absurd (by simp [peakListOf, e, ni]) h0
  have v := (gvalid_iff rows).1 hgv
  have hR7 := v.r7
  have hC7 := v.c7
  have hgl := v.gt_len
  have hans := ansPeaks rows
  have hends := endT_len (R := rows.length) (C := rowLen rows) (by omega) (by omega)
  obtain ⟨pb, rfl⟩ := o3.some (by omega)
  rw [ni_len] at o3 h0 ⊢
  have hb0 : ((((peakListOf rows).length : Nat) : Int) == 0) = false := beq_eq_false_iff_ne.2 h0
  simp (disch := omega) only [go_sem, Nat.reduceEqDiff, ↓reduceIte, Nat.reduceAdd, hb0]
  have r4 := r3.ext x4
  have o4 := o3.ext x4
  refine loopN (peakListOf rows).length (fun i f W => f 3 = .slice ga rows.length gc ∧ f 4 = .slice (some ⟨pb, 0, none⟩) (peakListOf rows).length oc ∧ f 6 = .string (bs (jn 32 ((pkW rows).take i))) ∧ f 7 = .int .i64 i ∧ Ext w4 W)
    ⟨(by first | assumption | (simp only [upd_apply, Nat.reduceEqDiff, ↓reduceIte] <;> first | rfl | assumption) | simp [upd_apply, *]), (by first | assumption | (simp only [upd_apply, Nat.reduceEqDiff, ↓reduceIte] <;> first | rfl | assumption) | simp [upd_apply, *]), (by first | assumption | (simp only [upd_apply, Nat.reduceEqDiff, ↓reduceIte] <;> first | rfl | assumption) | simp [upd_apply, *]), (by first | assumption | (simp only [upd_apply, Nat.reduceEqDiff, ↓reduceIte] <;> first | rfl | assumption) | simp [upd_apply, *]), Ext.refl _⟩ fun i f W hi ⟨a3, a4, a6, a7, xw⟩ => ?_
  by_cases hlt : (i : Int) < ((peakListOf rows).length : Int)
  · have hiP : i < (peakListOf rows).length := by omega
    have hmem : (peakListOf rows).getD i 0 ∈ peakListOf rows := getD_mem hiP
    obtain ⟨hr1, hr2, hr3⟩ := prom_rng hmem
    have hpm : promOf rows ((peakListOf rows).getD i 0 : Nat) = (((promOf rows ((peakListOf rows).getD i 0 : Nat)).toNat : Nat) : Int) := by omega
    have hcl : ∀ {W'}, Ext W W' → W'.cell? ⟨pb, i, none⟩ = some (.int .i64 ((peakListOf rows).getD i 0 : Nat)) := fun x => ni_cell ((o4.ext xw).ext x) rfl hiP
    have hpw : (pkW rows).getD i [] = dec ((peakListOf rows).getD i 0) ++ 58 :: dec (promOf rows ((peakListOf rows).getD i 0 : Nat)).toNat := by
      simp [pkW, hiP, pkw, getD_at]
    have htk := jn_take (c := 32) (show i < (pkW rows).length by omega)
    have hlt1 := jn_len (c := 32) (L := (pkW rows).take i) (m := 5) fun l hl => hWl l (List.mem_of_mem_take hl)
    have hlt2 : ((pkW rows).take i).length ≤ 49 := by simp; omega
    rw [hpw] at htk
    generalize hp : (peakListOf rows).getD i 0 = p at *
    generalize hq : (promOf rows (p : Nat)).toNat = q at *
    generalize hu : jn 32 ((pkW rows).take i) = u at *
    have d1 := dec_len2 (n := p) (by omega)
    have d2 := dec_len2 (n := q) (by omega)
    by_cases hi0 : i = 0
    · have hi1 : ¬ (0 : Int) < (i : Int) := by omega
      simp (disch := omega) only [go_sem, Nat.reduceEqDiff, ↓reduceIte, Nat.reduceAdd, a4, a7, hlt, hi1]
      have ht : jn 32 ((pkW rows).take (i + 1)) = u ++ dec p ++ [58] ++ dec q := by rw [htk]; simp [hi0]
      have e1 : binV Tryz.prog .add 9 (.string (bs (u))) (.string (bs (dec p))) = some (.string (bs (u ++ dec p))) := bin_adds _ _ (by (try simp); omega)
      have e2 : binV Tryz.prog .add 9 (.string (bs (u ++ dec p))) (.string (bs [58])) = some (.string (bs (u ++ dec p ++ [58]))) := bin_adds _ _ (by simp; omega)
      have e3 : binV Tryz.prog .add 9 (.string (bs (u ++ dec p ++ [58]))) (.string (bs (dec q))) = some (.string (bs (u ++ dec p ++ [58] ++ dec q))) := bin_adds _ _ (by simp; omega)
      refine QR_sch none (.st 0 (.st 1 (.st 2 (.st 3 (.st 4 (.st 8 (.st 9 (.st 10 (.st 11 (.st 12 (.ef 5 (.st 6 (.st 7 (.ef 13 (.ef 14 (.st 15 (.st 16 (.done)))))))))))))))))) (by kernel_rfl) (by kernel_rfl) fun w5 x5 => ?_
      have c5 := hcl x5
      simp (disch := omega) only [go_sem, Nat.reduceEqDiff, ↓reduceIte, Nat.reduceAdd, a3, a4, a6, a7, c5]
      refine callK_pure (by kernel_rfl) (digits_c p (by omega) _) fun w6 x6 => ?_
      refine nxE_of (x6.grow _) ?_
      have c6 := hcl (x5.trans x6)
      simp (disch := omega) only [go_sem, Nat.reduceEqDiff, ↓reduceIte, Nat.reduceAdd, a3, a4, a6, a7, c6, e1, e2]
      refine callK_pure (by kernel_rfl) (implPeakProminence_c _ _ _ _ _ _ _ (((r4.ext xw).ext x5).ext x6)) fun w7 x7 => ?_
      refine nxE_of (x7.grow _) ?_
      rw [hpm]
      simp (disch := omega) only [go_sem, Nat.reduceEqDiff, ↓reduceIte, Nat.reduceAdd]
      refine callK_pure (by kernel_rfl) (digits_c q (by omega) _) fun w8 x8 => ?_
      refine nxE_of (x8.grow _) ?_
      simp (disch := omega) only [go_sem, Nat.reduceEqDiff, ↓reduceIte, Nat.reduceAdd, a7, e3]
      exact ⟨hiP, (by first | assumption | (simp only [upd_apply, Nat.reduceEqDiff, ↓reduceIte] <;> first | rfl | assumption) | simp [upd_apply, *]), (by first | assumption | (simp only [upd_apply, Nat.reduceEqDiff, ↓reduceIte] <;> first | rfl | assumption) | simp [upd_apply, *]), by simp [upd_apply, ht], by simp [upd_apply], (((xw.trans x5).trans x6).trans x7).trans x8⟩
    · have hi1 : (0 : Int) < (i : Int) := by omega
      have e0 : binV Tryz.prog .add 9 (.string (bs u)) (.string (bs [32])) = some (.string (bs (u ++ [32]))) := bin_adds _ _ (by simp; omega)
      simp (disch := omega) only [go_sem, Nat.reduceEqDiff, ↓reduceIte, Nat.reduceAdd, a4, a7, hlt, hi1, a6, e0]
      have ht : jn 32 ((pkW rows).take (i + 1)) = u ++ [32] ++ dec p ++ [58] ++ dec q := by rw [htk]; simp [hi0]
      have e1 : binV Tryz.prog .add 9 (.string (bs (u ++ [32]))) (.string (bs (dec p))) = some (.string (bs (u ++ [32] ++ dec p))) := bin_adds _ _ (by simp; omega)
      have e2 : binV Tryz.prog .add 9 (.string (bs (u ++ [32] ++ dec p))) (.string (bs [58])) = some (.string (bs (u ++ [32] ++ dec p ++ [58]))) := bin_adds _ _ (by simp; omega)
      have e3 : binV Tryz.prog .add 9 (.string (bs (u ++ [32] ++ dec p ++ [58]))) (.string (bs (dec q))) = some (.string (bs (u ++ [32] ++ dec p ++ [58] ++ dec q))) := bin_adds _ _ (by simp; omega)
      refine QR_sch none (.st 0 (.st 1 (.st 2 (.st 3 (.st 4 (.st 8 (.st 9 (.st 10 (.st 11 (.st 12 (.ef 5 (.st 6 (.st 7 (.ef 13 (.ef 14 (.st 15 (.st 16 (.done)))))))))))))))))) (by kernel_rfl) (by kernel_rfl) fun w5 x5 => ?_
      have c5 := hcl x5
      simp (disch := omega) only [go_sem, Nat.reduceEqDiff, ↓reduceIte, Nat.reduceAdd, a3, a4, a6, a7, c5]
      refine callK_pure (by kernel_rfl) (digits_c p (by omega) _) fun w6 x6 => ?_
      refine nxE_of (x6.grow _) ?_
      have c6 := hcl (x5.trans x6)
      simp (disch := omega) only [go_sem, Nat.reduceEqDiff, ↓reduceIte, Nat.reduceAdd, a3, a4, a6, a7, c6, e1, e2]
      refine callK_pure (by kernel_rfl) (implPeakProminence_c _ _ _ _ _ _ _ (((r4.ext xw).ext x5).ext x6)) fun w7 x7 => ?_
      refine nxE_of (x7.grow _) ?_
      rw [hpm]
      simp (disch := omega) only [go_sem, Nat.reduceEqDiff, ↓reduceIte, Nat.reduceAdd]
      refine callK_pure (by kernel_rfl) (digits_c q (by omega) _) fun w8 x8 => ?_
      refine nxE_of (x8.grow _) ?_
      simp (disch := omega) only [go_sem, Nat.reduceEqDiff, ↓reduceIte, Nat.reduceAdd, a7, e3]
      exact ⟨hiP, (by first | assumption | (simp only [upd_apply, Nat.reduceEqDiff, ↓reduceIte] <;> first | rfl | assumption) | simp [upd_apply, *]), (by first | assumption | (simp only [upd_apply, Nat.reduceEqDiff, ↓reduceIte] <;> first | rfl | assumption) | simp [upd_apply, *]), by simp [upd_apply, ht], by simp [upd_apply], (((xw.trans x5).trans x6).trans x7).trans x8⟩
  · obtain rfl : i = (peakListOf rows).length := by omega
    rw [← hPl, List.take_length] at a6
    have e1 : binV Tryz.prog .add 9 (.string (bs [103, 114, 105, 100, 32])) (.string (bs (gtext rows))) = some (.string (bs ([103, 114, 105, 100, 32] ++ gtext rows))) := bin_adds _ _ (by simp; omega)
    have e2 : binV Tryz.prog .add 9 (.string (bs ([103, 114, 105, 100, 32] ++ gtext rows))) (.string (bs [10, 112, 101, 97, 107, 115, 10])) = some (.string (bs ([103, 114, 105, 100, 32] ++ gtext rows ++ [10, 112, 101, 97, 107, 115, 10]))) := bin_adds _ _ (by simp; omega)
    have eT : [103, 114, 105, 100, 32] ++ gtext rows ++ [10, 112, 101, 97, 107, 115, 10] = lns [grd ++ gtext rows, [112, 101, 97, 107, 115]] := by simp [lns, grd]
    have hS : Scr [grd ++ gtext rows, [112, 101, 97, 107, 115]] ([111, 107, 10] ++ (jn 32 (pkW rows) ++ [10])) [[0]] rows := ⟨_, _, rows, rfl, ansGrid [[0]] rows hgv, _, [], rows, by rw [List.append_nil], hans, rfl, rfl⟩
    have HNL : ∀ l ∈ [grd ++ gtext rows, [112, 101, 97, 107, 115]], (10 : UInt8) ∉ l := fun l hl hx => by
      simp only [List.mem_cons, List.not_mem_nil, or_false] at hl
      rcases hl with rfl | rfl
      · rcases List.mem_append.1 hx with h | h
        · revert h; decide
        · exact gtext_noline v.rng h
      · revert hx; decide
    simp (disch := omega) only [go_sem, Nat.reduceEqDiff, ↓reduceIte, Nat.reduceAdd, a4, a7, hlt, a3]
    refine callK_pure (by kernel_rfl) (implGridText_c _ _ _ _ _ _ (r4.ext xw) hgv) fun w7 x7 => ?_
    simp (disch := omega) only [go_sem, Nat.reduceEqDiff, ↓reduceIte, Nat.reduceAdd, e1, e2]
    rw [eT]
    refine callK_pure (by kernel_rfl) (execute_c _ _ rows _ hS HNL (by rw [← eT]; simp; omega) (by simp; omega) v) fun w9 x9 => ?_
    have f1 : binV Tryz.prog .add 9 (.string (bs [111, 107, 10])) (.string (bs (jn 32 (pkW rows)))) = some (.string (bs ([111, 107, 10] ++ jn 32 (pkW rows)))) := bin_adds _ _ (by simp; omega)
    have f2 : binV Tryz.prog .add 9 (.string (bs ([111, 107, 10] ++ jn 32 (pkW rows)))) (.string (bs [10])) = some (.string (bs ([111, 107, 10] ++ jn 32 (pkW rows) ++ [10]))) := bin_adds _ _ (by simp; omega)
    simp (disch := omega) only [go_sem, Nat.reduceEqDiff, ↓reduceIte, Nat.reduceAdd, a3, a6, f1, f2]
    refine callK_pure (by kernel_rfl) (endLine_c _ _ _ _ _ _ (((r4.ext xw).ext x7).ext x9) v) fun w11 x11 => ?_
    have f3 : binV Tryz.prog .add 9 (.string (bs ([111, 107, 10] ++ jn 32 (pkW rows) ++ [10]))) (.string (bs (endT rows.length (rowLen rows)))) = some (.string (bs ([111, 107, 10] ++ jn 32 (pkW rows) ++ [10] ++ endT rows.length (rowLen rows)))) := bin_adds _ _ (by simp; omega)
    have f4 : ([111, 107, 10] ++ (jn 32 (pkW rows) ++ [10]) ++ endT rows.length (rowLen rows) == [111, 107, 10] ++ jn 32 (pkW rows) ++ [10] ++ endT rows.length (rowLen rows)) = true := by rw [beq_iff_eq]; simp only [List.append_assoc]
    simp (disch := omega) only [go_sem, Nat.reduceEqDiff, ↓reduceIte, Nat.reduceAdd, f3, f4, Tryz.results3]
    exact ⟨trivial, ((((x13.trans x4).trans xw).trans x7).trans x9).trans x11⟩
end Go.Proofs.YtgdopjkanibfeaaGreatDoor

