import Derived.Test.YtcbmhjndbpafbaaGreatDoorZ1
import Derived.Test.YtcbmhjndbpafbaaGreatDoorK8
set_option linter.all false
set_option maxRecDepth 20000
namespace Go.SW
open Go Go.RowKit
def digB (b : UInt8) : Bool := decide (48 ≤ b.toNat ∧ b.toNat ≤ 57)
def numV (l : List UInt8) : Nat := if 1 ≤ l.length ∧ l.length ≤ 3 ∧ l.all digB = true then nf l l.length else 9999
theorem numV_le (l : List UInt8) : numV l ≤ 9999 := by
 unfold numV
 split
 ·rename_i h
  have h1 := nf_lt (l := l) (k := l.length) fun i hi => by
   have := List.all_eq_true.1 h.2.2 _ (getD_mem (d := 0) hi)
   simp only [digB, decide_eq_true_eq] at this
   exact this.2
  have h2 : 10 ^ l.length ≤ 10 ^ 3 := Nat.pow_le_pow_right om h.2.1
  omega
 ·omega
def w2 (l : List UInt8) : Int := 10 * (((l.getD 0 0).toNat : Int) - 48) + (((l.getD 1 0).toNat : Int) - 48)
def gparse (s : List UInt8) : List (List Int) := (spl 47 s).map fun l => (spl 32 l).map w2
def gfrom (s : List UInt8) : Option (List (List Int)) := if gvalid (gparse s) = true ∧ gtext (gparse s) = s then some (gparse s) else none
theorem gfrom_some {s : List UInt8} {rows : List (List Int)} (h : gfrom s = some rows) : Valid rows ∧ gtext rows = s ∧ gparse s = rows := by
 unfold gfrom at h
 split at h
 ·rename_i hh
  simp only [Option.some.injEq] at h
  subst h
  exact ⟨(gvalid_iff _).1 hh.1, hh.2, rfl⟩
 ·cases h
theorem jn_spl (c : UInt8) : ∀ l : List UInt8, jn c (spl c l) = l
 | [] => rfl
 | b :: l => by
  have ih := jn_spl c l
  simp only [spl]
  by_cases h : b = c
  ·rw [if_pos h, jn_cons (spl_ne c l), ih, h]; rfl
  ·rw [if_neg h]
   cases hs : spl c l with
   | nil => exact (spl_ne c l hs).elim
   | cons p ps =>
    rw [hs] at ih
    cases ps with
    | nil => simp only [jn] at ih ⊢; rw [ih]
    | cons q qs => simp only [jn, List.cons_append] at ih ⊢; rw [ih]
def twoB (l : List UInt8) : Bool := decide (l.length = 2) && l.all digB
theorem c2_w2 {l : List UInt8} (h : twoB l = true) : c2 (w2 l) = l ∧ 0 ≤ w2 l ∧ w2 l ≤ 99 := by
 simp only [twoB, Bool.and_eq_true, decide_eq_true_eq] at h
 obtain ⟨h1, h2⟩ := h
 match l, h1 with
 | [a, b], _ =>
  simp only [List.all_cons, List.all_nil, Bool.and_true, Bool.and_eq_true, digB, decide_eq_true_eq] at h2
  obtain ⟨⟨a1, a2⟩, b1, b2⟩ := h2
  have e : w2 [a, b] = 10 * ((a.toNat : Int) - 48) + ((b.toNat : Int) - 48) := rfl
  refine ⟨?_, om, om⟩
  have t1 : 48 + (w2 [a, b]).toNat / 10 = a.toNat := om
  have t2 : 48 + (w2 [a, b]).toNat % 10 = b.toNat := om
  simp only [c2, t1, t2, UInt8.ofNat_toNat]
theorem gtext_gparse {s : List UInt8} (h : ∀ l ∈ spl 47 s, ∀ w ∈ spl 32 l, twoB w = true) : gtext (gparse s) = s := by
 have : (gparse s).map rtext = spl 47 s := by
  rw [gparse, List.map_map]
  conv => rhs; rw [← List.map_id (spl 47 s)]
  refine List.map_congr_left fun l hl => ?_
  simp only [Function.comp, id, rtext, List.map_map]
  have : (spl 32 l).map (c2 ∘ w2) = spl 32 l := by
   conv => rhs; rw [← List.map_id (spl 32 l)]
   exact List.map_congr_left fun w hw => (c2_w2 (h l hl w hw)).1
  rw [this, jn_spl]
 rw [gtext, this, jn_spl]
theorem two_c2 {h : Int} (h0 : 0 ≤ h ∧ h ≤ 99) : twoB (c2 h) = true := by
 simp only [twoB, Bool.and_eq_true, decide_eq_true_eq]
 refine ⟨rfl, List.all_eq_true.2 fun x hx => ?_⟩
 have := mem_c2 h0 hx
 simp [digB, this]
theorem Valid.rng' {rows : List (List Int)} (v : Valid rows) : ∀ l ∈ rows, l ≠ [] ∧ ∀ h ∈ l, 0 ≤ h ∧ h ≤ 99 := fun l hl => by
 obtain ⟨r, hr, rfl⟩ := List.getElem_of_mem hl
 have e : rows.getD r [] = rows[r] := getD_at rows [] hr
 have hl := v.len r hr
 rw [e] at hl
 have hc1 := v.c1
 refine ⟨fun e => by rw [e] at hl; simp at hl; omega, fun h hh => ?_⟩
 obtain ⟨c, hc, rfl⟩ := List.getElem_of_mem hh
 have := v.cell r c hr om
 rw [e, getD_at _ _ hc] at this
 exact this
theorem gfrom_iff (s : List UInt8) : gfrom s = some (gparse s) ↔ (∀ l ∈ spl 47 s, ∀ w ∈ spl 32 l, twoB w = true) ∧ gvalid (gparse s) = true := by
 constructor
 ·intro h
  obtain ⟨v, ht, -⟩ := gfrom_some h
  refine ⟨fun l hl w hw => ?_, (gvalid_iff _).2 v⟩
  have hne : gparse s ≠ [] := fun e => by have := v.r1; rw [e] at this; simp at this
  rw [← ht, spl_gtext hne fun l hl h hh => (v.rng' l hl).2 h hh] at hl
  obtain ⟨r, hr, rfl⟩ := List.mem_map.1 hl
  rw [spl_rtext (v.rng' r hr).1 (v.rng' r hr).2] at hw
  obtain ⟨x, hx, rfl⟩ := List.mem_map.1 hw
  exact two_c2 ((v.rng' r hr).2 x hx)
 ·rintro ⟨h1, h2⟩
  rw [gfrom, if_pos ⟨h2, gtext_gparse h1⟩]
def ordW : List (List UInt8 × Nat) := [([115, 101, 116], 3), ([116, 117, 114, 110], 0), ([109, 105, 114, 114, 111, 114], 0), ([105, 110, 118, 101, 114, 116], 0), ([102, 105, 108, 108], 0), ([115, 104, 111, 119], 0), ([114, 117, 110], 2), ([108, 97, 110, 100], 1), ([112, 101, 97, 107, 115], 0), ([115, 101, 101, 115], 3), ([110, 97, 109, 101], 4), ([109, 97, 112], 0), ([112, 108, 97, 99, 101], 2)]
def okT : List UInt8 := [111, 107, 10]
def noT : List UInt8 := [110, 111, 10]
def whT : List UInt8 := [119, 104, 97, 116, 10]
structure Dk where
 rows : List (List Int)
 labs : List Lb
def Dk.Good (d : Dk) : Prop := Valid d.rows ∧ LVal d.labs
end Go.SW
