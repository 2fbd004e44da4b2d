/- append of a string's bytes to a slice that a call owns. No function of the program occurs here. -/
import Derived.Test.YtgdopjkanibfeaaGreatDoorTa
import Derived.Lib.AppendStr
set_option linter.all false
set_option maxRecDepth 20000
namespace Go.SW
open Go Go.RowKit
/-- The bytes of a text as cells. -/
def vb (l : List UInt8) : List Value := l.map fun x => Value.int .u8 (x.toNat : Nat)
theorem vb_len (l : List UInt8) : (vb l).length = l.length := by simp [vb]
theorem vb_app (l m : List UInt8) : vb l ++ vb m = vb (l ++ m) := by simp [vb]
theorem strCells_bs (l : List UInt8) : Lib.strCells (bs l) = vb l := by
  simp [Lib.strCells, bs, vb]
theorem isStr_some {P : Program} {T : TypeId} (h : isStr P T = true) : P.underlying T = some .string := by
  unfold isStr at h
  split at h
  · assumption
  · cases h
theorem appKs_of {P : Program} {T U ty e : Nat} {k : Value → World → Prop} {w : World} (ht : elt P T = some (e, 1, .int .u8 0, 1)) (hu : isStr P U = true)
    {a : Option Addr} {n c : Nat} {xs : List Value} (hown : OwnS w e 1 a n c xs) (l : List UInt8) (hbytes : n + l.length ≤ 140737488355328)
    (h : ∀ w' a' c', OwnS w' e 1 a' (n + l.length) c' (xs ++ vb l) → Grow (blk a) w w' → (∀ b, blk a' = some b → blk a = some b ∨ w.heap.size ≤ b) → k (.slice a' (n + l.length) c') w') :
    biK P .append #[T, U] ty #[.slice a n c, .string (bs l)] k w := by
  obtain ⟨hT, i, hi, hs, hz, hb, hzs⟩ := elt_some ht
  have hU := isStr_some hu
  have hsz : (bs l).size = l.length := bs_size l
  have h63 : n + (bs l).size ≤ maxLen := by rw [hsz]; simp only [maxLen]; omega
  obtain ⟨v', w', hr, hrow, hg, hnil⟩ := Lib.run_append_own_string (P := P) w 0 T U ty e i hT hU hi hz hs hb (.slice a n c) n xs hown.row (bs l) h63 (by omega) (Nat.zero_le _)
  obtain ⟨a', c', rfl, hown'⟩ := own_of_row hrow
  have hgrow : Grow (blk a) w w' := ⟨hg.os, hg.tape, hg.output, hg.size, fun b hb hne => hg.block b hb (fun e => hne (by
    cases a with
    | none => simp [Value.ownBlock] at e
    | some x => simpa [Value.ownBlock, blk] using e.symm))⟩
  have hblk : ∀ b, blk a' = some b → blk a = some b ∨ w.heap.size ≤ b := by
    intro b hb'
    rcases hown.2 with ⟨rfl, rfl, rfl⟩ | ⟨g, cur, rfl, hgg, hnc, hcm, hcs, htk⟩
    · by_cases hm : (bs l).size = 0
      · have := hnil.2 ⟨rfl, hm⟩
        simp only [Value.slice.injEq] at this
        rw [this.1] at hb'; cases hb'
      · right
        have hr2 := run_append_nil_string (P := P) w T U ty e i (.int .u8 0) hT hU hi hz (bs l) (by omega) (by omega) (by rw [hb]; omega)
        have := hr.symm.trans hr2
        simp only [Result.ok.injEq, Value.slice.injEq] at this
        rw [this.1.1] at hb'
        simp only [blk_some, Option.some.injEq] at hb'
        omega
    · by_cases hroom : n + (bs l).size ≤ c
      · left
        have hr2 := Lib.run_append_room_string (P := P) w T U ty e i hT hU hi hs g n c cur hgg (bs l) hroom (by omega)
        have := hr.symm.trans hr2
        simp only [Result.ok.injEq, Value.slice.injEq] at this
        rw [this.1.1] at hb'
        exact hb'
      · right
        have holds : ∀ j u, xs[j]? = some u → w.cell? ((⟨g, 0, none⟩ : Addr).add j) = some u := by
          intro j u hu
          have hj : j < n * 1 := by
            have h2 := (List.getElem?_eq_some_iff.1 hu).1
            rwa [hown.1] at h2
          rw [add_mk, Nat.zero_add, hown.cell hj, hu]
        have hr2 := Lib.run_append_grow_string (P := P) w T U ty e i (.int .u8 0) hT hU hi hz ⟨g, 0, none⟩ n c xs (by rw [hs]; exact hown.1) holds (bs l) (by omega) (by omega) (by rw [hb]; exact growslice_fits (by omega) (by omega))
        have := hr.symm.trans hr2
        simp only [Result.ok.injEq, Value.slice.injEq] at this
        rw [this.1.1] at hb'
        simp only [blk_some, Option.some.injEq] at hb'
        omega
  have hrun : (builtin .append #[T, U] ty #[] #[.slice a n c, .string (bs l)]).run P w = .ok (.value (.slice a' (n + (bs l).size) c')) w' := run_bindV hr
  unfold biK
  rw [hrun, hsz]
  rw [hsz, strCells_bs] at hown'
  exact h w' a' c' hown' hgrow hblk
end Go.SW
