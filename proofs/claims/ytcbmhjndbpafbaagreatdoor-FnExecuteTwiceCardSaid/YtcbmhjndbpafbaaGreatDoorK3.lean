import Derived.Test.YtcbmhjndbpafbaaGreatDoorKe
import Derived.Test.YtcbmhjndbpafbaaGreatDoorK2
set_option linter.all false
set_option maxRecDepth 20000
namespace Go.SW
open Go Go.RowKit
section
variable {R C : Nat} {h : Nat → Int}
theorem rch_zero' {lv : Int} (hall : ∀ j, j < R * C → lv ≤ h j) : ∀ x, x < R * C → Rch R C h 0 lv x := by
 intro x
 induction x using Nat.strongRecOn with
 | _ x ih =>
  intro hx
  have hC : 0 < C := Nat.pos_of_ne_zero fun e => by subst e; simp at hx
  by_cases h0 : x = 0
  ·subst h0; exact Rch.self (hall 0 hx)
  ·by_cases hc : C ≤ x
   ·have hy : x - C < R * C := om
    have hj : x - C ∈ nearN R C x := nearN_mem.2 (.inl ⟨hc, rfl⟩)
    exact (ih (x - C) om hy).edge hy ((near_sym hx hy).1 hj) (hall x hx)
   ·have hy : x - 1 < R * C := om
    have hm : x % C = x := Nat.mod_eq_of_lt om
    have hj : x - 1 ∈ nearN R C x := nearN_mem.2 (.inr (.inr (.inr ⟨om, rfl⟩)))
    exact (ih (x - 1) om hy).edge hy ((near_sym hx hy).1 hj) (hall x hx)
theorem rch_all' {lv : Int} (hall : ∀ j, j < R * C → lv ≤ h j) {a x : Nat} (ha : a < R * C) (hx : x < R * C) : Rch R C h a lv x := by
 have r1 := rch_zero' hall a ha
 have r2 := rch_zero' hall x hx
 exact ⟨r1.2.1, r2.2.1, r1.2.2.symm.trans r2.2.2⟩
theorem pass_min' (g : Gd R C h) {a x : Nat} (ha : a < R * C) (hx : x < R * C) : mnN h (R * C) ≤ passN R C h a x := by
 obtain ⟨j, hj, e⟩ := mnN_at2 h (R * C) g.pos
 have h1 := g.hh j hj
 exact (pass_ok g ha hx om).2 (rch_all' (fun i hi => mnN_le2 h _ i hi) ha hx)
theorem pass_lea' (g : Gd R C h) {a x : Nat} (ha : a < R * C) (hx : x < R * C) : passN R C h a x ≤ h a ∧ passN R C h a x ≤ h x := by
 obtain ⟨j, hj, e⟩ := mnN_at2 h (R * C) g.pos
 have h1 := g.hh j hj
 have h2 := pass_min' g ha hx
 have r := (pass_ok g ha hx (by omega : 0 ≤ passN R C h a x)).1 (Int.le_refl _)
 exact ⟨r.lea, r.lex⟩
end
theorem bq_at {R C : Nat} {h : Nat → Int} (i : Nat) : ∀ k, bestTo R C h i k = -1 ∨ ∃ j, j < k ∧ hiB h j i = true ∧ bestTo R C h i k = passN R C h i j
 | 0 => .inl rfl
 | k + 1 => by
  simp only [bestTo]
  by_cases hh : hiB h k i = true
  ·rw [if_pos hh]
   have hp := pass_ge R C h i k
   by_cases hm : bestTo R C h i k ≤ passN R C h i k
   ·rw [Int.max_eq_right hm]; exact .inr ⟨k, om, hh, rfl⟩
   ·rw [Int.max_eq_left om]
    rcases bq_at i k with e | ⟨j, hj, h1, h2⟩
    ·exact .inl e
    ·exact .inr ⟨j, om, h1, om⟩
  ·rw [if_neg hh]
   rcases bq_at i k with e | ⟨j, hj, h1, h2⟩
   ·exact .inl e
   ·exact .inr ⟨j, om, h1, h2⟩
theorem kq_le {R C : Nat} {h : Nat → Int} (g : Gd R C h) {i : Nat} (hi : i < R * C) : keyN R C h i ≤ h i := by
 rw [keyN]
 split
 ·rename_i hb
  rcases bq_at (R := R) (C := C) (h := h) i (R * C) with e | ⟨j, hj, h1, h2⟩
  ·omega
  ·rw [h2]; exact (pass_lea' g hi hj).1
 ·exact mnN_le2 h _ i hi
theorem prom_rng {rows : List (List Int)} {i : Nat} (hi : i ∈ peakListOf rows) : i < 49 ∧ 0 ≤ promOf rows i ∧ promOf rows i ≤ 99 := by
 have hp := mem_peakListOf.1 hi
 obtain ⟨n, e, hv, hn, hb⟩ := pk_parts hp
 obtain rfl : i = n := om
 have g := ((gvalid_iff rows).1 hv).gd
 have h49 := g.le
 have h1 := kq_le g hn
 have h2 := keyN_bnd g i
 have h3 := g.hh i hn
 rw [promOf, if_pos hp, promN]
 simp only [Int.toNat_natCast]
 omega
def pkw (rows : List (List Int)) (i : Nat) : List UInt8 := dec i ++ 58 :: dec (promOf rows i).toNat
def pkW (rows : List (List Int)) : List (List UInt8) := (peakListOf rows).map (pkw rows)
theorem pkw_len {rows : List (List Int)} {i : Nat} (hi : i ∈ peakListOf rows) : (pkw rows i).length ≤ 5 := by
 obtain ⟨h1, h2, h3⟩ := prom_rng hi
 have d1 := dec_len2 (n := i) om
 have d2 := dec_len2 (n := (promOf rows i).toNat) om
 simp only [pkw, List.length_append, List.length_cons]
 omega
theorem pkW_len (rows : List (List Int)) : ∀ l ∈ pkW rows, l.length ≤ 5 := fun l hl => by
 obtain ⟨i, hi, rfl⟩ := List.mem_map.1 hl
 exact pkw_len hi
end Go.SW
namespace Go.Proofs.YtcbmhjndbpafbaaGreatDoor
open Go.RowKit Go.SW
theorem sjoin2_c (b n cp : Nat) (L : List (List UInt8)) (c : UInt8) (w : World) (hcell : ∀ j, j < L.length → w.cell? ⟨b, j, none⟩ = some (.string (bs (L.getD j [])))) (hb : b < w.heap.size) (hn : n = L.length) (hcp : n ≤ cp) (h1 : L.length ≤ 1000000) (h2 : ∀ l ∈ L, l.length ≤ 1000000) :
  Ret Tryz.prog 164 #[.slice (some ⟨b, 0, none⟩) n cp, .string (bs [c])] w fun v w' => v = .string (bs (jn c L)) ∧ Ext w w' := by
 have hlen := jn_len (c := c) h2
 have hmul : L.length * (1000000 + 1) ≤ 1000000 * 1000001 := Nat.mul_le_mul_right _ h1
 have e0 : (L.map bs).map (fun x => x.data.toList) = L := by
  rw [List.map_map]
  conv => rhs; rw [← List.map_id L]
  exact List.map_congr_left fun x _ => by simp [bs]
 have hj : Lib.join ((L.map bs).map (·.data.toList)) (bs [c]).data.toList = jn c L := by
  rw [e0]
  exact join_jn c L
 have h := Any.strings_Join Tryz.lays156 bExtra b 0 cp (L.map bs) (bs [c]) w
  (fun j x hx => by
   rw [List.getElem?_map] at hx
   cases hL : L[j]? with
   | none => rw [hL] at hx; cases hx
   | some y =>
    rw [hL] at hx
    cases hx
    obtain ⟨hj, rfl⟩ := List.getElem?_eq_some_iff.1 hL
    rw [Nat.zero_add, hcell j hj, getD_at _ _ hj])
  hb sq (by simpa [hn] using hcp) (by rw [hj]; omega)
 rw [hj, List.length_map, ← hn] at h
 exact Calls.mono h fun e w' ⟨he, hw⟩ => ⟨_, he, rfl, hw⟩
theorem ni_cell {w : World} {e b n c : Nat} {L : List Nat} (o : OwnS w e 1 (some ⟨b, 0, none⟩) n c (vi (ni L))) (hn : n = L.length) {i : Nat} (hi : i < L.length) : w.cell? ⟨b, i, none⟩ = some (.int .i64 (L.getD i 0 : Nat)) := by
 rw [o.cell om]
 simp [vi, ni, hi, getD_at]
end Go.Proofs.YtcbmhjndbpafbaaGreatDoor
