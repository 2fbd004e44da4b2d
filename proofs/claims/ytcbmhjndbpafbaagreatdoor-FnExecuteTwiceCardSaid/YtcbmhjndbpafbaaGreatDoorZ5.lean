import Derived.Test.YtcbmhjndbpafbaaGreatDoorZ4
set_option linter.all false
set_option maxRecDepth 20000
namespace Go.SW
open Go Go.RowKit
theorem spl_mem_len {c : UInt8} : ∀ {s l : List UInt8}, l ∈ spl c s → l.length ≤ s.length
 | [], l, h => by simp [spl] at h; subst h; simp
 | b :: s, l, h => by
  simp only [spl] at h
  split at h
  ·rcases List.mem_cons.1 h with rfl | h
   ·simp
   ·have := spl_mem_len h; simp; omega
  ·cases hs : spl c s with
   | nil => exact (spl_ne c s hs).elim
   | cons p ps =>
    rw [hs] at h
    rcases List.mem_cons.1 h with rfl | h
    ·have : p ∈ spl c s := by rw [hs]; simp
     have := spl_mem_len this
     simp; omega
    ·have : l ∈ spl c s := by rw [hs]; simp [h]
     have := spl_mem_len this
     simp; omega
theorem spl_len_le (c : UInt8) (s : List UInt8) : 1 ≤ (spl c s).length ∧ (spl c s).length ≤ s.length + 1 := by
 rw [spl_len]
 have := List.count_le_length (a := c) (l := s)
 omega
theorem twoB_iff {l : List UInt8} : twoB l = true ↔ l.length = 2 ∧ (48 ≤ (l.getD 0 0).toNat ∧ (l.getD 0 0).toNat ≤ 57) ∧ 48 ≤ (l.getD 1 0).toNat ∧ (l.getD 1 0).toNat ≤ 57 := by
 simp only [twoB, Bool.and_eq_true, decide_eq_true_eq]
 constructor
 ·rintro ⟨h1, h2⟩
  match l, h1 with
  | [a, b], _ =>
   simp only [List.all_cons, List.all_nil, Bool.and_true, Bool.and_eq_true, digB, decide_eq_true_eq] at h2
   exact ⟨rfl, h2.1, h2.2⟩
 ·rintro ⟨h1, h2, h3⟩
  refine ⟨h1, ?_⟩
  match l, h1 with
  | [a, b], _ =>
   simp only [List.all_cons, List.all_nil, Bool.and_true, Bool.and_eq_true, digB, decide_eq_true_eq]
   exact ⟨h2, h3⟩
theorem gparse_len (s : List UInt8) : (gparse s).length = (spl 47 s).length := by simp [gparse]
theorem gparse_row {s : List UInt8} {k : Nat} (h : k < (spl 47 s).length) : (gparse s).getD k [] = (spl 32 ((spl 47 s).getD k [])).map w2 := by
 simp [gparse, h]
theorem w2_bnd (l : List UInt8) : -528 ≤ w2 l ∧ w2 l ≤ 2300 := by
 have h1 := (l.getD 0 0).toNat_lt
 have h2 := (l.getD 1 0).toNat_lt
 simp only [w2]
 omega
theorem numV_eq {l : List UInt8} (h : 1 ≤ l.length ∧ l.length ≤ 3) (hd : ∀ i, i < l.length → 48 ≤ (l.getD i 0).toNat ∧ (l.getD i 0).toNat ≤ 57) : numV l = nf l l.length := by
 have ha : l.all digB = true := List.all_eq_true.2 fun x hx => by
  obtain ⟨i, hi, rfl⟩ := List.getElem_of_mem hx
  have := hd i hi
  rw [getD_at _ _ hi] at this
  simp [digB, this]
 rw [numV, if_pos ⟨h.1, h.2, ha⟩]
theorem numV_no {l : List UInt8} {i : Nat} (hi : i < l.length) (h : ¬ (48 ≤ (l.getD i 0).toNat ∧ (l.getD i 0).toNat ≤ 57)) : numV l = 9999 := by
 rw [numV, if_neg]
 rintro ⟨-, -, ha⟩
 have := List.all_eq_true.1 ha _ (getD_mem (d := 0) hi)
 simp only [digB, decide_eq_true_eq] at this
 exact h this
theorem numV_len {l : List UInt8} (h : ¬ (1 ≤ l.length ∧ l.length ≤ 3)) : numV l = 9999 := by
 rw [numV, if_neg]
 rintro ⟨h1, h2, -⟩
 exact h ⟨h1, h2⟩
end Go.SW
namespace Go.Proofs.YtcbmhjndbpafbaaGreatDoor
open Go.RowKit Go.SW
theorem twoDigitsAny_c (l : List UInt8) (w : World) (hl : l.length ≤ 100000) : Ret Tryz.prog 118 #[.string (bs l)] w fun v w' => v = .tuple #[.int .i64 (if twoB l then w2 l else 0), .bool (twoB l)] ∧ Ext w w' := by
 refine enter1 Tryz.func118 rfl fun f a0 => ?_
 by_cases h2 : l.length = 2
 rotate_left
 ·have hb : twoB l = false := by
   cases h : twoB l with
   | false => rfl
   | true => exact (h2 (twoB_iff.1 h).1).elim
  have hne : ((l.length : Int) != 2) = true := by rw [bne_iff_ne]; omega
  simp (disch := omega) only [go_sem, a0, hne, hb, Tryz.results118]
  exact ⟨trivial, Ext.refl _⟩
 have hne : ((l.length : Int) != 2) = false := by rw [bne_eq_false_iff_eq]; omega
 have hbad : ¬ ((48 ≤ (l.getD 0 0).toNat ∧ (l.getD 0 0).toNat ≤ 57) ∧ 48 ≤ (l.getD 1 0).toNat ∧ (l.getD 1 0).toNat ≤ 57) → twoB l = false := fun h => by
  cases hh : twoB l with
  | false => rfl
  | true => exact (h (twoB_iff.1 hh).2).elim
 have hl2 : (2 : Int) ≤ l.length := om
 by_cases t1 : (((l.getD 0 0).toNat : Nat) : Int) < 48
 ·have hb := hbad om
  simp (disch := omega) only [go_sem, a0, hne, hb, Int.reduceToNat, t1, Tryz.results118]
  exact ⟨trivial, Ext.refl _⟩
 by_cases t2 : (57 : Int) < (((l.getD 0 0).toNat : Nat) : Int)
 ·have hb := hbad om
  simp (disch := omega) only [go_sem, a0, hne, hb, Int.reduceToNat, t1, t2, Tryz.results118]
  exact ⟨trivial, Ext.refl _⟩
 by_cases t3 : (((l.getD 1 0).toNat : Nat) : Int) < 48
 ·have hb := hbad om
  simp (disch := omega) only [go_sem, a0, hne, hb, Int.reduceToNat, t1, t2, t3, Tryz.results118]
  exact ⟨trivial, Ext.refl _⟩
 by_cases t4 : (57 : Int) < (((l.getD 1 0).toNat : Nat) : Int)
 ·have hb := hbad om
  simp (disch := omega) only [go_sem, a0, hne, hb, Int.reduceToNat, t1, t2, t3, t4, Tryz.results118]
  exact ⟨trivial, Ext.refl _⟩
 have hb : twoB l = true := twoB_iff.2 ⟨h2, om, om⟩
 simp (disch := omega) only [go_sem, a0, hne, hb, Int.reduceToNat, t1, t2, t3, t4]
 refine QR_of ke ke ?_
 simp (disch := omega) only [go_sem, a0, Int.reduceToNat, Tryz.results118]
 exact fun w' x => ⟨rfl, x⟩
theorem numberOfAny_c (l : List UInt8) (w : World) (hl : l.length ≤ 100000) : Ret Tryz.prog 95 #[.string (bs l)] w fun v w' => v = .int .i64 (numV l : Nat) ∧ Ext w w' := by
 refine enter1 Tryz.func95 rfl fun f a0 => ?_
 by_cases t1 : ((l.length : Nat) : Int) < 1
 ·have hv := numV_len (l := l) om
  simp (disch := omega) only [go_sem, a0, t1, Tryz.results95]
  exact ⟨by rw [hv]; rfl, Ext.refl _⟩
 by_cases t2 : (3 : Int) < ((l.length : Nat) : Int)
 ·have hv := numV_len (l := l) om
  simp (disch := omega) only [go_sem, a0, t1, t2, Tryz.results95]
  exact ⟨by rw [hv]; rfl, Ext.refl _⟩
 simp (disch := omega) only [go_sem, a0, t1, t2]
 refine loopN l.length (fun k f W => f 0 = .string (bs l) ∧ f 3 = .int .i64 (nf l k : Nat) ∧ f 14 = .int .i64 l.length ∧ f 15 = .int .i64 k ∧ Ext w W ∧ ∀ i, i < k → 48 ≤ (l.getD i 0).toNat ∧ (l.getD i 0).toNat ≤ 57) ⟨uu, uu, uu, uu, Ext.refl _, fun i hi => om⟩ fun k f W hk ⟨a0, a3, a14, a15, xw, hd⟩ => ?_
 have hlt2 := nf_lt (l := l) (k := k) fun i hi => (hd i om).2
 by_cases hlt : (k : Int) < (l.length : Int)
 ·have hp := Nat.pow_le_pow_right (show 0 < 10 from om) (show k ≤ 2 from om)
  have hkl : k < l.length := om
  by_cases q1 : (((l.getD k 0).toNat : Nat) : Int) < 48
  ·have hv := numV_no hkl om
   simp (disch := omega) only [go_sem, a0, a3, a14, a15, hlt, Int.toNat_natCast, q1, Tryz.results95]
   exact ⟨by rw [hv]; rfl, xw⟩
  by_cases q2 : (57 : Int) < (((l.getD k 0).toNat : Nat) : Int)
  ·have hv := numV_no hkl om
   simp (disch := omega) only [go_sem, a0, a3, a14, a15, hlt, Int.toNat_natCast, q1, q2, Tryz.results95]
   exact ⟨by rw [hv]; rfl, xw⟩
  have e1 : (10 : Int) * (nf l k : Nat) + ((l.getD k 0).toNat - 48) = (nf l (k + 1) : Nat) := by rw [nf]; omega
  simp (disch := omega) only [go_sem, a0, a3, a14, a15, hlt, Int.toNat_natCast, q1, q2, e1]
  refine ⟨om, uu, uu, uu, uu, xw, fun i hi => ?_⟩
  by_cases e : i = k
  ·subst e; omega
  ·exact hd i om
 ·obtain rfl : k = l.length := om
  simp (disch := omega) only [go_sem, a0, a3, a14, a15, hlt, Tryz.results95]
  exact ⟨by rw [numV_eq om hd], xw⟩
theorem implGridFromNo_c (s : List UInt8) (hs : s.length ≤ 1000) (hno : gfrom s = none) (w : World) :
  Ret Tryz.prog 93 #[.string (bs s)] w fun u w' => u = .tuple #[.slice none 0 0, .bool false] ∧ Ext w w' := by
 have hsl := spl_len_le 47 s
 have hgp := gparse_len s
 refine enter1 Tryz.func93 rfl fun f a0 => ?_
 by_cases h147 : (147 : Int) < ((s.length : Nat) : Int)
 ·simp (disch := omega) only [go_sem, a0, h147, Tryz.results93]
  exact ⟨trivial, Ext.refl _⟩
 simp (disch := omega) only [go_sem, a0, h147]
 refine bslK_0 elt_ii fun w1 b0 e0 x0 o0 _ => ?_
 simp (disch := omega) only [go_sem, a0]
 refine callK_of ke (split_c s 47 _ om) ?_
 rintro _ w2' ⟨sb, rfl, x2, esb, ks⟩
 have x12 := x0.trans x2
 have s1 := x0.size
 simp (disch := omega) only [go_sem]
 refine loopN (spl 47 s).length (fun k f W => f 19 = .slice (some ⟨sb, 0, none⟩) (spl 47 s).length (spl 47 s).length ∧ f 20 = .int .i64 (spl 47 s).length ∧ f 21 = .int .i64 k ∧ Ext w W ∧ Blk W sb (vst (spl 47 s)).toArray 9 ∧ (∀ i, i < k → ∀ t ∈ spl 32 ((spl 47 s).getD i []), twoB t = true) ∧ ∃ a c rs A Cp, rs = (gparse s).take k ∧ f 4 = .slice a rs.length c ∧ BRows W 35 3 w.heap.size a c rs A Cp ∧ ∀ b, (blk a = some b ∨ ∃ r, r < rs.length ∧ blk (A r) = some b) → b ≠ sb)
  ⟨uu, uu, uu, x12, ks, fun i hi => om, _, _, [], fun _ => none, fun _ => 0, rfl, by simp only [upd_apply, Nat.reduceEqDiff, ↓reduceIte]; rfl, (BRows.nil o0 (fun b hb => by simp [blk] at hb; omega) _ _).ext x2, fun b hb => by
   rcases hb with hb | ⟨r, hr, _⟩
   ·simp [blk] at hb; omega
   ·simp at hr⟩ fun k f W hk ⟨a19, a20, a21, xw, ks, htwo, oa, oc, rs, A', Cp', hrs, a4, br, hsb⟩ => ?_
 have hrl : rs.length = k := by rw [hrs, List.length_take]; omega
 by_cases hlt : (k : Int) < ((spl 47 s).length : Int)
 ·have hkR : k < (spl 47 s).length := om
  have hcell : W.cell? ⟨sb, k, none⟩ = some (.string (bs ((spl 47 s).getD k []))) := vst_cell ks hkR
  have hll := spl_mem_len (getD_mem (d := []) hkR)
  have hrow := gparse_row hkR
  generalize hline : (spl 47 s).getD k [] = line at *
  have hwl := spl_len_le 32 line
  simp (disch := omega) only [go_sem, a19, a20, a21, hlt, hcell]
  refine bslK_0 elt_i fun w5 b5 e5 x5 o5 _ => ?_
  have s5 := x5.size
  have sw := xw.size
  simp (disch := omega) only [go_sem]
  refine callK_of ke (split_c line 32 _ om) ?_
  rintro _ w6 ⟨sb2, rfl, x6, esb2, ks2⟩
  have s6 := x6.size
  have x56 := x5.trans x6
  have hlow := br.low'
  simp (disch := omega) only [go_sem]
  refine loopN (spl 32 line).length (fun j f W' => f 4 = .slice oa rs.length oc ∧ f 19 = .slice (some ⟨sb, 0, none⟩) (spl 47 s).length (spl 47 s).length ∧ f 20 = .int .i64 (spl 47 s).length ∧ f 21 = .int .i64 k ∧ f 27 = .slice (some ⟨sb2, 0, none⟩) (spl 32 line).length (spl 32 line).length ∧ f 28 = .int .i64 (spl 32 line).length ∧ f 29 = .int .i64 j ∧ Ext W W' ∧ Blk W' sb2 (vst (spl 32 line)).toArray 9 ∧ BRows W' 35 3 w.heap.size oa oc rs A' Cp' ∧ (∀ i, i < j → twoB ((spl 32 line).getD i []) = true) ∧ ∃ ra rc, f 7 = .slice ra j rc ∧ OwnS W' 3 1 ra j rc (vi (((spl 32 line).map w2).take j)) ∧ ∀ b, blk ra = some b → W.heap.size ≤ b ∧ b ≠ sb2)
   ⟨uu, uu, uu, uu, uu, uu, uu, x56, ks2, br.ext x56, fun i hi => om, _, _, by simp only [upd_apply, Nat.reduceEqDiff, ↓reduceIte]; rfl, by simpa [vi] using o5.ext x6, fun b hb => by simp [blk] at hb; omega⟩ fun j f W' hj ⟨a4, a19, a20, a21, a27, a28, a29, xi, ks2, br, htw, ra, rc, a7, orow, hra⟩ => ?_
  have si := xi.size
  by_cases hlj : (j : Int) < ((spl 32 line).length : Int)
  ·have hjC : j < (spl 32 line).length := om
   have hcj : W'.cell? ⟨sb2, j, none⟩ = some (.string (bs ((spl 32 line).getD j []))) := vst_cell ks2 hjC
   have hwl2 := spl_mem_len (getD_mem (d := []) hjC)
   simp (disch := omega) only [go_sem, a27, a28, a29, hlj, hcj]
   refine callK_pure ke (twoDigitsAny_c ((spl 32 line).getD j []) _ om) fun w7 x7 => ?_
   cases htj : twoB ((spl 32 line).getD j []) with
   | false =>
    simp (disch := omega) only [go_sem, Tryz.results93]
    exact ⟨trivial, (xw.trans xi).trans x7⟩
   | true =>
   simp only [if_true]
   simp (disch := omega) only [go_sem, a7]
   refine bslK_1 elt_i rfl fun w8 b8 e8 x8 k8 _ => ?_
   have s7 := x7.size
   have s8 := x8.size
   simp (disch := omega) only [go_sem, a7]
   refine appK_1 elt_i ((orow.ext x7).ext x8) k8 rfl om (.inl dc) fun w9 a9 c9 o9 g9 h9 => ?_
   have l2 := ks2.lt
   have et : vi (((spl 32 line).map w2).take j) ++ [Value.int .i64 (w2 ((spl 32 line).getD j []))] = vi (((spl 32 line).map w2).take (j + 1)) := by rw [take_snoc 0 (by simpa using hjC), vi_snoc]; simp [hjC]
   rw [et] at o9
   simp (disch := omega) only [go_sem, a29]
   refine ⟨om, uu, uu, uu, uu, uu, uu, uu, g9.ext ((xi.trans x7).trans x8) (fun b hb => (hra b hb).1), g9.blk ((ks2.ext x7).ext x8) (fun e => (hra _ e).2 rfl), ((br.ext x7).ext x8).other g9 (fun b _ hb e => by have := hlow b hb; have := (hra b e).1; omega), fun i hi => ?_, a9, c9, uu, o9, fun b hb => ?_⟩
   ·by_cases e : i = j
    ·subst e; exact htj
    ·exact htw i om
   ·rcases h9 b hb with h | h
    ·exact hra b h
    ·omega
  ·obtain rfl : j = (spl 32 line).length := om
   rw [take_full ((spl 32 line).map w2) sm] at orow
   simp (disch := omega) only [go_sem, a28, a29, hlj, a4, a7]
   refine bslK_1 elt_ii rfl fun w7 b7 e7 x7 k7 _ => ?_
   have s7 := x7.size
   have br7 := br.ext x7
   obtain ⟨xs, ox, hxs⟩ := br7.top
   simp (disch := omega) only [go_sem, a4]
   refine appK_1 elt_ii ox k7 rfl om (.inr ⟨om, by decide⟩) fun w8 a8 c8 o8 g8 h8 => ?_
   simp (disch := omega) only [go_sem, a21]
   have hN : OwnS w7 3 1 ra ((spl 32 line).map w2).length rc (vi ((spl 32 line).map w2)) := by rw [List.length_map]; exact orow.ext x7
   have lsb := (ks.ext xi).lt
   have lsb0 := ks.lt
   refine ⟨hkR, uu, uu, uu, g8.ext ((xw.trans xi).trans x7) br.ha, g8.blk ((ks.ext xi).ext x7) (fun e => hsb _ (.inl e) rfl), fun i hi => ?_, a8, c8, rs ++ [(spl 32 line).map w2], _, _, ?_, ?_, br7.push hN (fun b hb => ⟨by have := (hra b hb).1; omega, fun e => ?_, fun r hr e => ?_⟩) ox hxs (by rw [List.length_map]; exact o8) g8 h8 om, fun b hb => ?_⟩
   ·by_cases e : i = k
    ·subst e
     rw [hline]
     intro t ht
     obtain ⟨q, hq, rfl⟩ := List.getElem_of_mem ht
     have := htw q hq
     rwa [getD_at _ _ hq] at this
    ·exact htwo i om
   ·rw [hrs, take_snoc [] om, hrow]
   ·simp [upd_apply]
   ·have := (hra b hb).1; have := hlow b (.inl e); omega
   ·have := (hra b hb).1; have := hlow b (.inr ⟨r, hr, e⟩); omega
   ·rcases hb with hb | ⟨r, hr, hb⟩
    ·rcases h8 b hb with h | h
     ·exact hsb b (.inl h)
     ·omega
    ·by_cases er : r = rs.length
     ·rw [if_pos er] at hb
      have := (hra b hb).1
      omega
     ·rw [if_neg er] at hb
      exact hsb b (.inr ⟨r, by simp at hr; omega, hb⟩)
 ·obtain rfl : k = (spl 47 s).length := om
  rw [take_full (gparse s) om] at hrs
  have htwo' : ∀ l ∈ spl 47 s, ∀ t ∈ spl 32 l, twoB t = true := fun l hl => by
   obtain ⟨i, hi, rfl⟩ := List.getElem_of_mem hl
   have := htwo i hi
   rwa [getD_at _ _ hi] at this
  have hgv : gvalid rs = false := by
   cases h : gvalid rs with
   | false => rfl
   | true =>
    rw [hrs] at h
    have := (gfrom_iff s).2 ⟨htwo', h⟩
    rw [hno] at this; cases this
  have hrows : ∀ l ∈ rs, (∀ x ∈ l, I64 x) ∧ l.length ≤ maxLen := fun l hl => by
   rw [hrs] at hl
   simp only [gparse, List.mem_map] at hl
   obtain ⟨t, ht, rfl⟩ := hl
   have := spl_mem_len ht
   have := (spl_len_le 32 t).2
   refine ⟨fun x hx => ?_, by simp [maxLen]; omega⟩
   obtain ⟨u, -, rfl⟩ := List.mem_map.1 hx
   have := w2_bnd u
   exact ⟨om, om⟩
  simp (disch := omega) only [go_sem, a20, a21, hlt, a4]
  have hr : RowsAt W oa rs A' Cp' := br.at (fun l hl x hx => (hrows l hl).1 x hx) (by simp [maxLen]; omega) fun l hl => (hrows l hl).2
  refine callK_of ke (fieldOf_c _ _ _ _ _ _ hr) ?_
  rintro _ w3 ⟨x3, (⟨hv', cb, rfl, hcb, o⟩ | ⟨-, rfl⟩)⟩
  ·rw [hgv] at hv'; cases hv'
  simp (disch := omega) only [go_sem]
  refine allocK_of zero_f fun w4 fb _ x4 k4 _ => ?_
  simp (disch := omega) only [go_sem]
  refine stK_agg siz_f sm oi k4 sm fun w5 k5 g5 => ?_
  have s0 := xw.size
  have s3 := x3.size
  simp (disch := omega) only [go_sem, Tryz.results93]
  exact ⟨trivial, g5.ext ((xw.trans x3).trans x4) om⟩
end Go.Proofs.YtcbmhjndbpafbaaGreatDoor
namespace Go.SW
open Go Go.RowKit
theorem drop_cut {s : List UInt8} {m i : Nat} (hm : m ≤ i) (hi : i < s.length) : s.drop m = (s.drop m).take (i - m) ++ s.getD i 0 :: s.drop (i + 1) := by
 have h1 := (List.take_append_drop (i - m) (s.drop m)).symm
 rw [List.drop_drop, show m + (i - m) = i from om] at h1
 conv => lhs; rw [h1]
 rw [List.drop_eq_getElem_cons hi, getD_at _ _ hi]
def CutTo (c : UInt8) (s : List UInt8) (i m : Nat) (D : List (List UInt8)) : Prop := m ≤ i ∧ D ++ spl c (s.drop m) = spl c s ∧ c ∉ (s.drop m).take (i - m) ∧ D.length ≤ i
theorem cutTo_0 (c : UInt8) (s : List UInt8) : CutTo c s 0 0 [] := ⟨Nat.le_refl _, by simp, by simp, by simp⟩
theorem cutTo_hit {c : UInt8} {s : List UInt8} {i m : Nat} {D : List (List UInt8)} (h : CutTo c s i m D) (hi : i < s.length) (hc : s.getD i 0 = c) : CutTo c s (i + 1) (i + 1) (D ++ [(s.drop m).take (i - m)]) := by
 obtain ⟨h1, h2, h3, h4⟩ := h
 refine ⟨Nat.le_refl _, ?_, by simp, by simp; omega⟩
 rw [drop_cut h1 hi, hc, spl_app h3] at h2
 rw [List.append_assoc]
 exact h2
theorem cutTo_miss {c : UInt8} {s : List UInt8} {i m : Nat} {D : List (List UInt8)} (h : CutTo c s i m D) (hi : i < s.length) (hc : s.getD i 0 ≠ c) : CutTo c s (i + 1) m D := by
 obtain ⟨h1, h2, h3, h4⟩ := h
 refine ⟨om, h2, ?_, om⟩
 rw [show i + 1 - m = (i - m) + 1 from om, take_snoc 0 (by rw [List.length_drop]; omega)]
 rw [show (s.drop m).getD (i - m) 0 = s.getD i 0 by simp [List.getD_eq_getElem?_getD, List.getElem?_drop, show m + (i - m) = i from om]]
 intro hx
 rcases List.mem_append.1 hx with h | h
 ·exact h3 h
 ·simp only [List.mem_singleton] at h
  exact hc h.symm
theorem cutTo_end {c : UInt8} {s : List UInt8} {m : Nat} {D : List (List UInt8)} (h : CutTo c s s.length m D) : D ++ [s.drop m] = spl c s := by
 obtain ⟨h1, h2, h3, h4⟩ := h
 rw [List.take_of_length_le (by rw [List.length_drop]; omega)] at h3
 rw [← h2, spl_none h3]
end Go.SW
namespace Go.Proofs.YtcbmhjndbpafbaaGreatDoor
open Go.RowKit Go.SW
theorem l1Cut_c (s : List UInt8) (c : UInt8) (w : World) (hs : s.length ≤ 1000000) : Ret Tryz.prog 35 #[.string (bs s), .int .u8 (c.toNat : Nat)] w fun v w' => ∃ b cp, v = .slice (some ⟨b, 0, none⟩) (spl c s).length cp ∧ Ext w w' ∧ w.heap.size ≤ b ∧ OwnS w' 9 1 (some ⟨b, 0, none⟩) (spl c s).length cp (vst (spl c s)) := by
 refine enter2 Tryz.func35 rfl fun f a0 a1 => ?_
 simp (disch := omega) only [go_sem]
 refine bslK_0 elt_s fun w1 b1 e1 x1 o1 s1 => ?_
 simp (disch := omega) only [go_sem]
 refine loopN s.length (fun i f W => f 0 = .string (bs s) ∧ f 1 = .int .u8 (c.toNat : Nat) ∧ f 7 = .int .i64 i ∧ Ext w W ∧ ∃ (m : Nat) (D : List (List UInt8)) (ob oc : Nat), f 6 = .int .i64 m ∧ f 5 = .slice (some ⟨ob, 0, none⟩) D.length oc ∧ OwnS W 9 1 (some ⟨ob, 0, none⟩) D.length oc (vst D) ∧ w.heap.size ≤ ob ∧ CutTo c s i m D)
  ⟨uu, uu, uu, x1, 0, [], b1, 0, uu, uu, by simpa [vst] using o1, om, cutTo_0 c s⟩ fun i f W hi ⟨a0, a1, a7, xw, m, D, ob, oc, a6, a5, oD, hob, hcut⟩ => ?_
 have hm := hcut.1
 have hDl := hcut.2.2.2
 have sw := xw.size
 by_cases hlt : (i : Int) < (s.length : Int)
 ·have his : i < s.length := om
  by_cases hc : s.getD i 0 = c
  ·have he : ((((s.getD i 0).toNat : Nat) : Int) == ((c.toNat : Nat) : Int)) = true := by rw [hc, beq_iff_eq]
   have hi' : (i : Int) ≤ (s.length : Int) := om
   have hmi : (m : Int) ≤ (i : Int) := om
   simp (disch := omega) only [go_sem, a0, a1, a5, a6, a7, hlt, Int.toNat_natCast, he]
   refine bslK_1 elt_s rfl fun w2 b2 e2 x2 k2 s2 => ?_
   simp (disch := omega) only [go_sem, a5]
   refine appK_1 elt_s (oD.ext x2) k2 rfl om (.inr ⟨om, by decide⟩) fun w3 a3 c3 o3 g3 h3 => ?_
   rw [vst_snoc] at o3
   obtain ⟨b3, rfl⟩ := o3.some om
   simp (disch := omega) only [go_sem, a7]
   have hh := h3 b3 rfl
   have s2' := x2.size
   refine ⟨his, uu, uu, uu, g3.ext (xw.trans x2) fun b hb => by simp only [blk_some, Option.some.injEq] at hb; omega, i + 1, D ++ [(s.drop m).take (i - m)], b3, c3, uu, by simp [upd_apply], by simpa using o3, ?_, cutTo_hit hcut his hc⟩
   rcases hh with h | h
   ·simp only [blk_some, Option.some.injEq] at h; omega
   ·omega
  ·have he : ((((s.getD i 0).toNat : Nat) : Int) == ((c.toNat : Nat) : Int)) = false := by
    rw [beq_eq_false_iff_ne]
    intro e
    exact hc (UInt8.toNat_inj.1 om)
   simp (disch := omega) only [go_sem, a0, a1, a7, hlt, Int.toNat_natCast, he]
   exact ⟨his, uu, uu, uu, xw, m, D, ob, oc, uu, uu, oD, hob, cutTo_miss hcut his hc⟩
 ·obtain rfl : i = s.length := om
  have hmi : (m : Int) ≤ (s.length : Int) := om
  simp (disch := omega) only [go_sem, a0, a5, a6, a7, hlt, Int.toNat_natCast]
  refine bslK_1 elt_s rfl fun w2 b2 e2 x2 k2 s2 => ?_
  simp (disch := omega) only [go_sem, a5]
  refine appK_1 elt_s (oD.ext x2) k2 rfl om (.inr ⟨om, by decide⟩) fun w3 a3 c3 o3 g3 h3 => ?_
  rw [vst_snoc, cutTo_end hcut] at o3
  have hl : D.length + 1 = (spl c s).length := by rw [← cutTo_end hcut]; simp
  rw [hl] at o3 ⊢
  obtain ⟨b3, rfl⟩ := o3.some om
  have hh := h3 b3 rfl
  have s2' := x2.size
  simp (disch := omega) only [go_sem, Tryz.results35]
  refine ⟨b3, c3, rfl, g3.ext (xw.trans x2) fun b hb => by simp only [blk_some, Option.some.injEq] at hb; omega, ?_, o3⟩
  rcases hh with h | h
  ·simp only [blk_some, Option.some.injEq] at h; omega
  ·omega
theorem l10Number_c (l : List UInt8) (w : World) (hl : l.length ≤ 100000) : Ret Tryz.prog 97 #[.string (bs l)] w fun v w' => v = .int .i64 (numV l : Nat) ∧ Ext w w' := by
 refine enter1 Tryz.func97 rfl fun f a0 => ?_
 simp (disch := omega) only [go_sem, a0]
 refine callK_pure ke (l6In_c _ _ _ _) fun w1 x1 => ?_
 by_cases t1 : 1 ≤ l.length ∧ l.length ≤ 3
 rotate_left
 ·have hv := numV_len t1
  have hd : decide ((1 : Int) ≤ (l.length : Int) ∧ (l.length : Int) ≤ 3) = false := decide_eq_false om
  simp (disch := omega) only [go_sem, hd, Tryz.results97]
  exact ⟨by rw [hv]; rfl, x1⟩
 have hd : decide ((1 : Int) ≤ (l.length : Int) ∧ (l.length : Int) ≤ 3) = true := decide_eq_true om
 simp (disch := omega) only [go_sem, hd, a0]
 refine loopN l.length (fun k f W => f 0 = .string (bs l) ∧ f 3 = .int .i64 (nf l k : Nat) ∧ f 4 = .int .i64 k ∧ Ext w W ∧ ∀ i, i < k → 48 ≤ (l.getD i 0).toNat ∧ (l.getD i 0).toNat ≤ 57) ⟨uu, uu, uu, x1, fun i hi => om⟩ fun k f W hk ⟨a0, a3, a4, xw, hd⟩ => ?_
 have hlt2 := nf_lt (l := l) (k := k) fun i hi => (hd i om).2
 by_cases hlt : (k : Int) < (l.length : Int)
 ·have hp := Nat.pow_le_pow_right (show 0 < 10 from om) (show k ≤ 2 from om)
  have hkl : k < l.length := om
  by_cases q1 : (((l.getD k 0).toNat : Nat) : Int) < 48
  ·have hv := numV_no hkl om
   simp (disch := omega) only [go_sem, a0, a3, a4, hlt, Int.toNat_natCast, q1, Tryz.results97]
   exact ⟨by rw [hv]; rfl, xw⟩
  by_cases q2 : (57 : Int) < (((l.getD k 0).toNat : Nat) : Int)
  ·have hv := numV_no hkl om
   simp (disch := omega) only [go_sem, a0, a3, a4, hlt, Int.toNat_natCast, q1, q2, Tryz.results97]
   exact ⟨by rw [hv]; rfl, xw⟩
  have e1 : (10 : Int) * (nf l k : Nat) + ((l.getD k 0).toNat - 48) = (nf l (k + 1) : Nat) := by rw [nf]; omega
  simp (disch := omega) only [go_sem, a0, a3, a4, hlt, Int.toNat_natCast, q1, q2, e1]
  refine ⟨om, uu, uu, uu, xw, fun i hi => ?_⟩
  by_cases e : i = k
  ·subst e; omega
  ·exact hd i om
 ·obtain rfl : k = l.length := om
  simp (disch := omega) only [go_sem, a0, a3, a4, hlt, Tryz.results97]
  exact ⟨by rw [numV_eq om hd], xw⟩
theorem l10Numbers_c (b n cp : Nat) (word : List UInt8) (ws : List (List UInt8)) (w : World) (ho : OwnS w 9 1 (some ⟨b, 0, none⟩) n cp (vst (word :: ws))) (hn : n = ws.length + 1) (hl : ws.length ≤ 100000) (hw : ∀ t ∈ ws, t.length ≤ 100000) :
  Ret Tryz.prog 67 #[.slice (some ⟨b, 0, none⟩) n cp] w fun v w' => ∃ nb nc, v = .slice (some ⟨nb, 0, none⟩) ws.length nc ∧ Ext w w' ∧ w.heap.size ≤ nb ∧ OwnS w' 3 1 (some ⟨nb, 0, none⟩) ws.length nc (vi ((ws.map numV).map Int.ofNat)) := by
 subst hn
 refine enter1 Tryz.func67 rfl fun f a0 => ?_
 simp (disch := omega) only [go_sem]
 refine bslK_0 elt_i fun w1 b1 e1 x1 o1 s1 => ?_
 have lb := ho.blk_lt rfl
 simp (disch := omega) only [go_sem]
 refine loopN ws.length (fun k f W => f 0 = .slice (some ⟨b, 0, none⟩) (ws.length + 1) cp ∧ f 4 = .int .i64 ((k : Int) + 1) ∧ Ext w W ∧ ∃ ob oc, f 3 = .slice (some ⟨ob, 0, none⟩) k oc ∧ OwnS W 3 1 (some ⟨ob, 0, none⟩) k oc (vi (((ws.map numV).map Int.ofNat).take k)) ∧ w.heap.size ≤ ob)
  ⟨uu, by simp [upd_apply], x1, b1, 0, uu, by simpa [vi] using o1, om⟩ fun k f W hk ⟨a0, a4, xw, ob, oc, a3, oo, hob⟩ => ?_
 have sw := xw.size
 by_cases hlt : ((k : Int) + 1) < ((ws.length + 1 : Nat) : Int)
 ·have hkw : k < ws.length := om
  have hcell : W.cell? ⟨b, k + 1, none⟩ = some (.string (bs (ws.getD k []))) := by
   rw [(ho.ext xw).cell om, vst_get _ _ sq]
   simp
  have e1 : ((k : Int) + 1).toNat = k + 1 := om
  have hnk : vi (((ws.map numV).map Int.ofNat).take k) ++ [Value.int .i64 (numV (ws.getD k []) : Nat)] = vi (((ws.map numV).map Int.ofNat).take (k + 1)) := by
   rw [take_snoc 0 (by simpa using hkw), ← vi_snoc]
   simp [hkw]
  simp (disch := omega) only [go_sem, a0, a3, a4, hlt, e1, hcell]
  refine callK_pure ke (l10Number_c (ws.getD k []) _ (hw _ (getD_mem hkw))) fun w2 x2 => ?_
  have hnv := numV_le (ws.getD k [])
  simp (disch := omega) only [go_sem]
  refine bslK_1 elt_i rfl fun w3 b3 e3 x3 k3 s3 => ?_
  simp (disch := omega) only [go_sem, a3]
  refine appK_1 elt_i ((oo.ext x2).ext x3) k3 rfl om (.inl dc) fun w4 a4' c4 o4 g4 h4 => ?_
  rw [hnk] at o4
  obtain ⟨b4, rfl⟩ := o4.some om
  have hh := h4 b4 rfl
  have z2 := x2.size
  have z3 := x3.size
  simp (disch := omega) only [go_sem, a4]
  refine ⟨hkw, uu, by simp [upd_apply], g4.ext ((xw.trans x2).trans x3) fun b hb => by simp only [blk_some, Option.some.injEq] at hb; omega, b4, c4, uu, o4, ?_⟩
  rcases hh with h | h
  ·simp only [blk_some, Option.some.injEq] at h; omega
  ·omega
 ·obtain rfl : k = ws.length := om
  rw [take_full _ sm] at oo
  simp (disch := omega) only [go_sem, a0, a3, a4, hlt, Tryz.results67]
  exact ⟨ob, oc, rfl, xw, hob, oo⟩
end Go.Proofs.YtcbmhjndbpafbaaGreatDoor
