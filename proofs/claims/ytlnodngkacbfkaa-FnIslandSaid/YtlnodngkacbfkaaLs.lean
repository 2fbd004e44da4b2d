/- The level laws FnSides and FnShore: each returns true, and nothing that was there is written. -/
import Derived.Test.YtlnodngkacbfkaaM5
import Derived.Test.YtlnodngkacbfkaaLb
set_option linter.all false
set_option maxRecDepth 20000
namespace Go.Proofs.Ytlnodngkacbfkaa
open Go.RowKit Go.SW
theorem mkAt {w : World} {eo ei B b R C : Nat} {h : Nat → Int} {A : Nat → Option Addr} (o : OwnRows w eo ei B b (mkRows R C h) A) (hR1 : 1 ≤ R) (hR : R ≤ 7) (hC1 : 1 ≤ C) (hC : C ≤ 7) (hh : ∀ i, i < R * C → 0 ≤ h i ∧ h i ≤ 99) :
    Valid (mkRows R C h) ∧ RowsAt w (some ⟨b, 0, none⟩) (mkRows R C h) A (fun r => ((mkRows R C h).getD r []).length) := by
  have vi := mkRows_valid (h := h) hR1 hR hC1 hC hh
  have hrow : ∀ l ∈ mkRows R C h, l.length ≤ 7 ∧ ∀ x ∈ l, 0 ≤ x ∧ x ≤ 99 := fun l hl => by
    obtain ⟨r, hr, rfl⟩ := List.getElem_of_mem hl
    have e := getD_at _ [] hr
    have hlen := vi.len r hr
    rw [e] at hlen
    refine ⟨by rw [hlen]; exact vi.c7, fun x hx => ?_⟩
    obtain ⟨c, hc, rfl⟩ := List.getElem_of_mem hx
    have := vi.cell r c hr (by rw [← hlen]; exact hc)
    rw [e, getD_at _ _ hc] at this
    exact this
  exact ⟨vi, o.at (fun l hl x hx => by have := (hrow l hl).2 x hx; simp [I64]; omega) (by rw [mkRows_len]; simp [maxLen]; omega) (fun l hl => by have := (hrow l hl).1; simp [maxLen]; omega)⟩
def DrawnL (w w' : World) (v : Value) : Prop := ∃ a c rows A Cp lv, v = .tuple #[.slice a rows.length c, .int .i64 lv] ∧ -2 ≤ lv ∧ lv ≤ 102 ∧ RowsAt w' a rows A Cp ∧ Ext w w'

/-! ## turned and mirrored grids -/
def turned (rows : List (List Int)) : List (List Int) := mkRows (rowLen rows) rows.length (turnH rows.length (rowLen rows) (hgt rows))
def mirrored (rows : List (List Int)) : List (List Int) := mkRows rows.length (rowLen rows) (mirrorH (rowLen rows) (hgt rows))
theorem turned_len (rows : List (List Int)) : (turned rows).length = rowLen rows := mkRows_len _ _ _
theorem mirrored_len (rows : List (List Int)) : (mirrored rows).length = rows.length := mkRows_len _ _ _
theorem turned_ok {rows : List (List Int)} (v : Valid rows) {lv : Int} (hv : lvok rows lv = true) : Valid (turned rows) ∧ lvok (turned rows) lv = true ∧ rowLen (turned rows) = rows.length ∧ ∀ i, i < rowLen rows * rows.length → hgt (turned rows) i = hgt rows (turnS rows.length (rowLen rows) i) := by
  have g := v.gd
  have vi := mkRows_valid (h := turnH rows.length (rowLen rows) (hgt rows)) g.c1 g.c7 g.r1 g.r7 (fun i hi => g.hh _ (turn_idx hi))
  obtain ⟨_, h1⟩ := lv_parts hv
  exact ⟨vi, by simp [lvok, turned, (gvalid_iff _).2 vi]; exact h1, mkRows_rowLen g.c1, fun i hi => mkRows_hgt g.c1 hi⟩
theorem mirrored_ok {rows : List (List Int)} (v : Valid rows) {lv : Int} (hv : lvok rows lv = true) : Valid (mirrored rows) ∧ lvok (mirrored rows) lv = true ∧ rowLen (mirrored rows) = rowLen rows ∧ ∀ i, i < rows.length * rowLen rows → hgt (mirrored rows) i = hgt rows (mirS (rowLen rows) i) := by
  have g := v.gd
  have vi := mkRows_valid (h := mirrorH (rowLen rows) (hgt rows)) g.r1 g.r7 g.c1 g.c7 (fun i hi => g.hh _ (mirror_idx hi))
  obtain ⟨_, h1⟩ := lv_parts hv
  exact ⟨vi, by simp [lvok, mirrored, (gvalid_iff _).2 vi]; exact h1, mkRows_rowLen g.r1, fun i hi => mkRows_hgt g.r1 hi⟩
end Go.Proofs.Ytlnodngkacbfkaa
