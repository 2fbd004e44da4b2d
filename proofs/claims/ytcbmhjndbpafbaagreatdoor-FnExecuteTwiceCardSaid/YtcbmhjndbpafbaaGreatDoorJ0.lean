import Derived.WalkKit
import Derived.KernelRfl
namespace Go.SW
theorem ke {p : Prop} (h : p := by kernel_rfl) : p := h
theorem df {p : Prop} [Decidable p] (h : decide p = true := by kernel_rfl) : p := of_decide_eq_true h
theorem om {p : Prop} (h : p := by omega) : p := h
theorem sm {p : Prop} (h : p := by simp) : p := h
theorem sq {p : Prop} (h : p := by simp; omega) : p := h
theorem rf {p : Prop} (h : p := by rfl) : p := h
theorem dc {p : Prop} (h : p := by decide) : p := h
theorem oi {p : Prop} (h : p := by simp [Value.oneCell']) : p := h
end Go.SW
