import Derived.Test.YtcbmhjndbpafbaaGreatDoorJ3
import Derived.ArgAppend
set_option linter.all false
set_option maxRecDepth 20000
namespace Go.SW
open Go Go.RowKit
theorem slc_lh (s : Nat) (b o n c : Nat) (k k' : IntKind) (lo hi : Int) (h0 : 0 ≤ lo) (h1 : lo ≤ hi) (h2 : hi ≤ c) (h3 : lo < c) :
  slcE (some s) (some ⟨b, o, none⟩) n c (some (.int k lo)) (some (.int k' hi)) = some (.slice (some ⟨b, o + lo.toNat * s, none⟩) (hi.toNat - lo.toNat) (c - lo.toNat)) := by
 have e1 : ¬ c = lo.toNat := om
 have e2 : (0 : Int) ≤ hi := om
 have e3 : lo ≤ ((hi.toNat : Nat) : Int) := om
 simp only [slcE, boundV, h0, h2, e2, e3, and_self, if_true, if_neg e1, Option.map_some, add_mk]
attribute [go_sem] slc_lh
theorem OwnS.toBlk {w : World} {e n b : Nat} {xs : List Value} (h : OwnS w e 1 (Option.some ⟨b, 0, none⟩) n n xs) : ∃ cs : Array Value, Blk w b cs e ∧ cs.size = n ∧ cs.toList = xs := by
 rcases h.2 with ⟨h0, _⟩ | ⟨g, cur, hg, hh, _, _, hs, ht⟩
 ·cases h0
 ·simp only [Option.some.injEq, Addr.mk.injEq] at hg
  obtain ⟨rfl, _⟩ := hg
  exact ⟨cur, hh, om, by rw [← ht, Nat.mul_one, List.take_of_length_le sq]⟩
theorem cpyK_all {P : Program} {T T2 ty e bs : Nat} {z : Value} {k : Value → World → Prop} {w : World} (ht : elt P T = some (e, 1, z, bs)) {b n c m c2 eb : Nat} {ad : Addr} {cs : Array Value} (o : Blk w b cs eb) (hc : cs.size = n) (hm : m = n)
  (news : List Value) (hl : news.length = n) (hnews : ∀ j u, news[j]? = some u → w.cell? (ad.add j) = some u) (h1 : ∀ u ∈ news, u.oneCell' = true)
  (h : ∀ w', Blk w' b news.toArray eb → Wrote b w w' → k (.int .i64 n) w') :
  biK P .copy #[T, T2] ty #[.slice (some ⟨b, 0, none⟩) n c, .slice (some ad) m c2] k w := by
 obtain ⟨hT, i, hi, hs, hz, hb, hzs⟩ := elt_some ht
 subst hm
 have hf : (Builtin.firstCells 1 m (.slice (some ad) m c2)).run P w = .ok news.toArray w := by
  exact run_firstCells_some (P := P) w 1 m ad m c2 news om hnews
 have hst := run_storeCells_all (P := P) b eb news cs w o om h1
 have hr : (builtin .copy #[T, T2] ty #[] #[.slice (some ⟨b, 0, none⟩) m c, .slice (some ad) m c2]).run P w = .ok (.value (.int .i64 m)) (w.setRow b news.toArray) := by
  show (do pure (Next.value (← Builtin.copy_ #[T, T2] ty #[.slice (some ⟨b, 0, none⟩) m c, .slice (some ad) m c2])) : Sem Next).run P w = _
  refine run_bindV (a := Value.int .i64 m) (w' := w.setRow b news.toArray) ?_
  simp [Builtin.copy_, run_underlying_some hT, sizeOf, typeInfo, hi, hs, Builtin.lenOf, hf, hst]
  rfl
 unfold biK
 rw [hr]
 exact h _ (setRow_heap w b cs news.toArray eb (0, 0) o) (wrote_setRow w b news.toArray)
end Go.SW
