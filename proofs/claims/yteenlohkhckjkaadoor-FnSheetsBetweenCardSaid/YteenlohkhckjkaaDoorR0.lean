/- How arguments are read: slices of slices of integers, slices of bytes. -/
import Derived.Test.YteenlohkhckjkaaDoorJ2
import Derived.WalkKit
import Derived.ProofKit
import Derived.OpenShut
import Derived.ShutString
import Derived.ChangeOld
import Derived.Below
import Derived.Deep.Matrix
set_option linter.all false
set_option maxRecDepth 20000
namespace Go.Proofs.YteenlohkhckjkaaDoor
open Go.ChangeShapes Go.WideShapes Go.ChangeAt Go.RowKit Go.SW

theorem add_none (b o r : Nat) : (⟨b, o, none⟩ : Addr).add r = ⟨b, o + r, none⟩ := by
  unfold Addr.add; split
  · next h => simp_all
  · rfl
theorem wf_i64 {n : Int} (h : (Lit.int .i64 n).wf = true) : I64 n := by
  simp [Lit.wf, IntKind.min, IntKind.max, IntKind.signed, IntKind.bits] at h
  exact h
theorem wf_u8 {n : Int} (h : (Lit.int .u8 n).wf = true) : 0 ≤ n ∧ n ≤ 255 := by
  simp [Lit.wf, IntKind.min, IntKind.max, IntKind.signed, IntKind.bits] at h
  exact h
theorem own_r : ownKnob Tryd.prog.godebug = none := by kernel_rfl
theorem laid_r : laidOutB Tryd.prog = true := by kernel_rfl

theorem bytes_of {H : Type} {enc : TypeId × Value → H} {W : World} {a : Option Addr} {len cap : Nat} {d : DataW H} {p : List MemPlace}
    (h : DataW.Trod enc Tryd.prog W 0 (fun _ => true) true 33 (.slice a len cap) d p) : ∃ l, len = l.length ∧ len ≤ cap ∧ cap ≤ maxLen ∧ ByteS W a l := by
  obtain ⟨fuel, hf⟩ := h
  rcases open_ints Tryd.underlying33 Tryd.underlying5 (by kernel_rfl) hf with ⟨hcs, _⟩ | ⟨x, l, c, zs, hcs, _, hl, hm, hz, _, hcell, hwz⟩
  · simp [Value.cells] at hcs
    obtain ⟨rfl, rfl, rfl⟩ := hcs
    exact ⟨[], rfl, by omega, by omega, fun h => absurd rfl h, fun _ _ _ i hi => by simp at hi, fun x hx => by simp at hx⟩
  · simp [Value.cells] at hcs
    obtain ⟨rfl, rfl, rfl⟩ := hcs
    simp only [if_true] at hz
    have hL : (zs.take len).length = len := by rw [List.length_take]; omega
    refine ⟨zs.take len, hL.symm, hl, hm, fun h => ?_, fun b o ha i hi => ?_, fun y hy => ?_⟩
    · have h0 : 0 < len := by have := List.length_pos_iff.2 h; omega
      obtain ⟨b, o, s⟩ := x
      have := World.cell?_spot (hcell 0 (by omega))
      simp only [Addr.add, if_true] at this
      exact ⟨b, o, by rw [← this]⟩
    · rw [hL] at hi
      obtain rfl : x = ⟨b, o, none⟩ := by simpa using ha
      rw [← add_none, hcell i (by omega)]
      simp [List.getD_eq_getElem?_getD, List.getElem?_take, hi]
    · exact wf_u8 (hwz y (List.mem_of_mem_take hy))
end Go.Proofs.YteenlohkhckjkaaDoor
