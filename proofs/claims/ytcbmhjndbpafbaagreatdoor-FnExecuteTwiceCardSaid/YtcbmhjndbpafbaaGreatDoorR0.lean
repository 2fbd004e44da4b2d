import Derived.Test.YtcbmhjndbpafbaaGreatDoorJ2
import Derived.WalkKit
import Derived.ProofKit
import Derived.OpenShut
import Derived.ShutString
import Derived.ChangeOld
import Derived.Below
import Derived.Deep.Matrix
set_option linter.all false
set_option maxRecDepth 20000
namespace Go.Proofs.YtcbmhjndbpafbaaGreatDoor
open Go.ChangeShapes Go.WideShapes Go.ChangeAt Go.RowKit Go.SW
theorem add_none (b o r : Nat) : (⟨b, o, none⟩ : Addr).add r = ⟨b, o + r, none⟩ := by
 unfold Addr.add; split
 ·next h => simp_all
 ·rfl
theorem wf_i64 {n : Int} (h : (Lit.int .i64 n).wf = true) : I64 n := by
 simp [Lit.wf, IntKind.min, IntKind.max, IntKind.signed, IntKind.bits] at h
 exact h
theorem wf_u8 {n : Int} (h : (Lit.int .u8 n).wf = true) : 0 ≤ n ∧ n ≤ 255 := by
 simp [Lit.wf, IntKind.min, IntKind.max, IntKind.signed, IntKind.bits] at h
 exact h
theorem own_r : ownKnob Tryz.prog.godebug = none := by kernel_rfl
theorem laid_r : laidOutB Tryz.prog = true := by kernel_rfl
theorem rows_of {H : Type} {enc : TypeId × Value → H} {W : World} {a : Option Addr} {len cap : Nat} {d : DataW H} {p : List MemPlace}
  (h : DataW.Trod enc Tryz.prog W 0 (fun _ => true) true 26 (.slice a len cap) d p) : ∃ rows A Cp, len = rows.length ∧ RowsAt W a rows A Cp := by
 obtain ⟨fuel, hf⟩ := h
 rcases Go.Deep.open_int_rows Tryz.underlying26 Tryz.underlying35 Tryz.underlying3 (by kernel_rfl) (by kernel_rfl) hf with ⟨hcs, _⟩ | ⟨x, l, c, A, L, C, Z, hcs, _, hl, hm, _, hr⟩
 ·simp [Value.cells] at hcs
  obtain ⟨rfl, rfl, rfl⟩ := hcs
  exact ⟨[], fun _ => none, fun _ => 0, rfl, fun h => absurd rfl h, fun _ _ _ r hr => by simp at hr, fun r hr => by simp at hr, fun l hl => by simp at hl, fun l hl => by simp at hl, by simp⟩
 ·simp [Value.cells] at hcs
  obtain ⟨rfl, rfl, rfl⟩ := hcs
  have hg : ∀ r, r < len → ((List.range len).map fun r => (Z r).take (L r)).getD r [] = (Z r).take (L r) := fun r hr => by simp [hr]
  have hL : ∀ r, r < len → ((Z r).take (L r)).length = L r := fun r hr' => by
   have := hr r (by omega)
   rw [List.length_take, this.2.2.2.1]; omega
  have hx : 0 < len → x.spot = none := fun h0 => by
   have := World.cell?_spot (hr 0 (by omega)).1
   simpa [Addr.add] using this
  refine ⟨(List.range len).map fun r => (Z r).take (L r), A, C, by simp, fun h => ?_, fun b o hab r hr' => ?_, fun r hr' => ?_, fun l hl' y hy => ?_, fun l hl' => ?_, by simp; omega⟩
  ·by_cases h0 : len = 0
   ·subst h0; simp at h
   ·obtain ⟨b, o, s⟩ := x
    obtain rfl : s = none := hx (by omega)
    exact ⟨b, o, rfl⟩
  ·simp only [List.length_map, List.length_range] at hr'
   obtain rfl : x = ⟨b, o, none⟩ := by simpa using hab
   rw [hg r hr', hL r hr', ← (hr r (by omega)).1, add_none]
  ·simp only [List.length_map, List.length_range] at hr'
   rw [hg r hr']
   obtain ⟨h1, h2, h3, h4, h5, h6, h7⟩ := hr r (by omega)
   refine ⟨fun hne => ?_, fun b o hA i hi => ?_⟩
   ·cases hA : A r with
    | none =>
     have := h6 hA
     have : Z r = [] := List.length_eq_zero_iff.1 (by omega)
     rw [this] at hne; simp at hne
    | some a' =>
     obtain ⟨b, o, s⟩ := a'
     have hne' : 0 < C r := by
      have := List.length_pos_iff.2 hne
      rw [hL r hr'] at this; omega
     have h8 := World.cell?_spot ((h7 _ hA).2 0 hne')
     simp only [Addr.add, if_true] at h8
     exact ⟨b, o, by rw [h8]⟩
   ·rw [hL r hr'] at hi
    have := (h7 _ hA).2 i (by omega)
    rw [← add_none, this]
    simp [List.getD_eq_getElem?_getD, List.getElem?_take, hi]
  ·obtain ⟨r, hr', rfl⟩ := List.mem_map.1 hl'
   have hr' := List.mem_range.1 hr'
   exact wf_i64 ((hr r (by omega)).2.2.2.2.1 y (List.mem_of_mem_take hy))
  ·obtain ⟨r, hr', rfl⟩ := List.mem_map.1 hl'
   have hr' := List.mem_range.1 hr'
   rw [hL r hr']
   have := hr r (by omega)
   omega
theorem bytes_of {H : Type} {enc : TypeId × Value → H} {W : World} {a : Option Addr} {len cap : Nat} {d : DataW H} {p : List MemPlace}
  (h : DataW.Trod enc Tryz.prog W 0 (fun _ => true) true 22 (.slice a len cap) d p) : ∃ l, len = l.length ∧ len ≤ cap ∧ cap ≤ maxLen ∧ ByteS W a l := by
 obtain ⟨fuel, hf⟩ := h
 rcases open_ints Tryz.underlying22 Tryz.underlying5 (by kernel_rfl) hf with ⟨hcs, _⟩ | ⟨x, l, c, zs, hcs, _, hl, hm, hz, _, hcell, hwz⟩
 ·simp [Value.cells] at hcs
  obtain ⟨rfl, rfl, rfl⟩ := hcs
  exact ⟨[], rfl, by omega, by omega, fun h => absurd rfl h, fun _ _ _ i hi => by simp at hi, fun x hx => by simp at hx⟩
 ·simp [Value.cells] at hcs
  obtain ⟨rfl, rfl, rfl⟩ := hcs
  simp only [if_true] at hz
  have hL : (zs.take len).length = len := by rw [List.length_take]; omega
  refine ⟨zs.take len, hL.symm, hl, hm, fun h => ?_, fun b o ha i hi => ?_, fun y hy => ?_⟩
  ·have h0 : 0 < len := by have := List.length_pos_iff.2 h; omega
   obtain ⟨b, o, s⟩ := x
   have := World.cell?_spot (hcell 0 (by omega))
   simp only [Addr.add, if_true] at this
   exact ⟨b, o, by rw [← this]⟩
  ·rw [hL] at hi
   obtain rfl : x = ⟨b, o, none⟩ := by simpa using ha
   rw [← add_none, hcell i (by omega)]
   simp [List.getD_eq_getElem?_getD, List.getElem?_take, hi]
  ·exact wf_u8 (hwz y (List.mem_of_mem_take hy))
end Go.Proofs.YtcbmhjndbpafbaaGreatDoor
