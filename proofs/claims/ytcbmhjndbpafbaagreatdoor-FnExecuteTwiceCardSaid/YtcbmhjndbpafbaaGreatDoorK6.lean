import Derived.Lib.SplitLaws
import Derived.Shelf.Strings.Split
import Derived.Test.YtcbmhjndbpafbaaGreatDoorK5
import Derived.Lib.AppendStr
import Derived.Lib.Strings
import Derived.Lib.Join
set_option linter.all false
set_option maxRecDepth 20000
namespace Go.SW
open Go
def spl (c : UInt8) : List UInt8 → List (List UInt8)
 | [] => [[]]
 | b :: l => if b = c then [] :: spl c l else match spl c l with
  | [] => [[b]]
  | p :: ps => (b :: p) :: ps
theorem spl_ne (c : UInt8) (l : List UInt8) : spl c l ≠ [] := by
 cases l with
 | nil => simp [spl]
 | cons b l => simp only [spl]; split <;> (try split) <;> simp
theorem spl_len (c : UInt8) (l : List UInt8) : (spl c l).length = l.count c + 1 := by
 induction l with
 | nil => rfl
 | cons b l ih =>
  simp only [spl]
  by_cases h : b = c
  ·subst h; simp [ih]
  ·rw [if_neg h, List.count_cons_of_ne (by simpa using h), ← ih]
   have := spl_ne c l
   cases h2 : spl c l with
   | nil => exact (this h2).elim
   | cons p ps => rfl
theorem spl_none {c : UInt8} {l : List UInt8} (h : c ∉ l) : spl c l = [l] := by
 induction l with
 | nil => rfl
 | cons b l ih =>
  have h1 : b ≠ c := fun e => h (by simp [e])
  have h2 : c ∉ l := fun e => h (by simp [e])
  simp [spl, h1, ih h2]
theorem spl_app {c : UInt8} {l m : List UInt8} (h : c ∉ l) : spl c (l ++ c :: m) = l :: spl c m := by
 induction l with
 | nil => simp [spl]
 | cons b l ih =>
  have h1 : b ≠ c := fun e => h (by simp [e])
  have h2 : c ∉ l := fun e => h (by simp [e])
  simp [spl, h1, ih h2]
theorem splitK_spl (c : UInt8) (l : List UInt8) : Lib.splitK [c] 0 (Lib.count l [c]) l = spl c l := by
 induction l with
 | nil => rw [Lib.count_one]; rfl
 | cons b l ih =>
  by_cases h : b = c
  ·subst h
   rw [Lib.count_cons_eq, Nat.add_comm, Lib.splitK]
   have e : Lib.index (b :: l) [b] = 0 := by rw [Lib.index]; simp [List.isPrefixOf]
   rw [e]
   simp [spl, ih]
  ·rw [Lib.count_cons_ne b c l h]
   have hp : ([c] : List UInt8).isPrefixOf (b :: l) = false := by simp [List.isPrefixOf, Ne.symm h]
   have hix : Lib.index (b :: l) [c] = if Lib.index l [c] == -1 then -1 else Lib.index l [c] + 1 := by rw [Lib.index, hp]; simp
   simp only [spl, if_neg h, ← ih]
   cases hk : Lib.count l [c] with
   | zero => rfl
   | succ k =>
    have hm : ¬ Lib.index l [c] = -1 := fun e => by have := Lib.count_miss (s := l) (sub := [c]) e; omega
    have hge := Lib.index_ge l [c]
    obtain ⟨j, hj⟩ : ∃ j : Nat, Lib.index l [c] = j := ⟨(Lib.index l [c]).toNat, om⟩
    have hix' : Lib.index (b :: l) [c] = ((j + 1 : Nat) : Int) := by rw [hix, if_neg (fun e => hm (beq_iff_eq.1 e)), hj]; omega
    have n1 : (((j + 1 : Nat) : Int) == -1) = false := by rw [beq_eq_false_iff_ne]; omega
    have n2 : ((j : Int) == -1) = false := by rw [beq_eq_false_iff_ne]; omega
    simp only [Lib.splitK, hix', hj, n1, n2, Bool.false_eq_true, if_false, Int.toNat_natCast, Nat.add_zero, List.take_succ_cons, List.length_cons, List.length_nil]
    simp
def jn (c : UInt8) : List (List UInt8) → List UInt8
 | [] => []
 | [a] => a
 | a :: b :: r => a ++ c :: jn c (b :: r)
theorem jn_cons {c : UInt8} {a : List UInt8} {r : List (List UInt8)} (h : r ≠ []) : jn c (a :: r) = a ++ c :: jn c r := by
 cases r with
 | nil => exact (h rfl).elim
 | cons b r => rfl
theorem jn_snoc {c : UInt8} {L : List (List UInt8)} {x : List UInt8} (h : L ≠ []) : jn c (L ++ [x]) = jn c L ++ c :: x := by
 induction L with
 | nil => exact (h rfl).elim
 | cons a r ih =>
  cases r with
  | nil => rfl
  | cons b r =>
   rw [List.cons_append, jn_cons (r := b :: r ++ [x]) sm, ih sm, jn_cons (r := b :: r) sm, List.append_assoc, List.cons_append]
theorem spl_jn {c : UInt8} {L : List (List UInt8)} (h : L ≠ []) (hc : ∀ l ∈ L, c ∉ l) : spl c (jn c L) = L := by
 induction L with
 | nil => exact (h rfl).elim
 | cons a r ih =>
  cases r with
  | nil => exact spl_none (hc a sm)
  | cons b r =>
   rw [jn_cons sm, spl_app (hc a sm), ih sm fun l hl => hc l (by simp [hl])]
theorem jn_mem {c : UInt8} {L : List (List UInt8)} {x : UInt8} (h : x ∈ jn c L) : x = c ∨ ∃ l, l ∈ L ∧ x ∈ l := by
 induction L with
 | nil => simp [jn] at h
 | cons a r ih =>
  cases r with
  | nil => exact .inr ⟨a, by simp, h⟩
  | cons b r =>
   rw [jn_cons sm, List.mem_append, List.mem_cons] at h
   rcases h with h | h | h
   ·exact .inr ⟨a, by simp, h⟩
   ·exact .inl h
   ·rcases ih h with h | ⟨l, h1, h2⟩
    ·exact .inl h
    ·exact .inr ⟨l, by simp [h1], h2⟩
theorem jn_len {c : UInt8} {L : List (List UInt8)} {m : Nat} (hm : ∀ l ∈ L, l.length ≤ m) : (jn c L).length + (if L = [] then 0 else 1) ≤ L.length * (m + 1) := by
 induction L with
 | nil => simp [jn]
 | cons a r ih =>
  have ha := hm a sm
  cases r with
  | nil => simp [jn]; omega
  | cons b r =>
   have := ih fun l hl => hm l (by simp [hl])
   rw [jn_cons sm, List.length_append, List.length_cons, List.length_cons, Nat.succ_mul]
   simp only [reduceCtorEq, if_false] at this ⊢
   omega
def c2 (h : Int) : List UInt8 := [UInt8.ofNat (48 + h.toNat / 10), UInt8.ofNat (48 + h.toNat % 10)]
def rtext (l : List Int) : List UInt8 := jn 32 (l.map c2)
def gtext (rows : List (List Int)) : List UInt8 := jn 47 (rows.map rtext)
theorem u8n' {n : Nat} (h : n < 256) : (UInt8.ofNat n).toNat = n := by
 simp [UInt8.toNat_ofNat']; omega
theorem mem_c2 {h : Int} (h0 : 0 ≤ h ∧ h ≤ 99) {x : UInt8} (hx : x ∈ c2 h) : 48 ≤ x.toNat ∧ x.toNat ≤ 57 := by
 simp only [c2, List.mem_cons, List.not_mem_nil, or_false] at hx
 rcases hx with rfl | rfl
 ·rw [u8n' om]; omega
 ·rw [u8n' om]; omega
theorem mem_rtext {l : List Int} (hl : ∀ h ∈ l, 0 ≤ h ∧ h ≤ 99) {x : UInt8} (hx : x ∈ rtext l) : x = 32 ∨ 48 ≤ x.toNat ∧ x.toNat ≤ 57 := by
 rcases jn_mem hx with h | ⟨t, h1, h2⟩
 ·exact .inl h
 ·obtain ⟨a, ha, rfl⟩ := List.mem_map.1 h1
  exact .inr (mem_c2 (hl a ha) h2)
theorem rtext_noslash {l : List Int} (hl : ∀ h ∈ l, 0 ≤ h ∧ h ≤ 99) : (47 : UInt8) ∉ rtext l := fun hx => by
 rcases mem_rtext hl hx with h | h
 ·cases h
 ·have : (47 : UInt8).toNat = 47 := rfl
  omega
theorem c2_nospace {h : Int} (h0 : 0 ≤ h ∧ h ≤ 99) : (32 : UInt8) ∉ c2 h := fun hx => by
 have := mem_c2 h0 hx
 have : (32 : UInt8).toNat = 32 := rfl
 omega
theorem spl_gtext {rows : List (List Int)} (h : rows ≠ []) (hl : ∀ l ∈ rows, ∀ h ∈ l, 0 ≤ h ∧ h ≤ 99) : spl 47 (gtext rows) = rows.map rtext :=
 spl_jn (by simpa using h) fun t ht => by
  obtain ⟨a, ha, rfl⟩ := List.mem_map.1 ht
  exact rtext_noslash (hl a ha)
theorem spl_rtext {l : List Int} (h : l ≠ []) (hl : ∀ h ∈ l, 0 ≤ h ∧ h ≤ 99) : spl 32 (rtext l) = l.map c2 :=
 spl_jn (by simpa using h) fun t ht => by
  obtain ⟨a, ha, rfl⟩ := List.mem_map.1 ht
  exact c2_nospace (hl a ha)
theorem gtext_len {rows : List (List Int)} (h : rows.length ≤ 7) (hl : ∀ l ∈ rows, l.length ≤ 7) : (gtext rows).length ≤ 147 := by
 have h1 : ∀ l ∈ rows, (rtext l).length ≤ 20 := fun l hl' => by
  have := jn_len (c := 32) (L := l.map c2) (m := 2) fun t ht => by
   obtain ⟨a, _, rfl⟩ := List.mem_map.1 ht
   exact Nat.le_refl _
  have h7 := hl l hl'
  unfold rtext
  rw [List.length_map] at this
  by_cases he : l = []
  ·subst he; simp [jn]
  ·rw [if_neg (by simpa using he)] at this; omega
 have := jn_len (c := 47) (L := rows.map rtext) (m := 20) fun t ht => by
  obtain ⟨a, ha, rfl⟩ := List.mem_map.1 ht
  exact h1 a ha
 unfold gtext
 rw [List.length_map] at this
 omega
def rpre (l : List Int) (n : Nat) : List UInt8 := jn 32 ((l.take n).map c2)
def gpre (rows : List (List Int)) (n : Nat) : List UInt8 := jn 47 ((rows.take n).map rtext)
theorem rpre_zero (l : List Int) : rpre l 0 = [] := rfl
theorem take_snoc {α : Type} {l : List α} {n : Nat} (d : α) (h : n < l.length) : l.take (n + 1) = l.take n ++ [l.getD n d] := by
 rw [List.take_succ_eq_append_getElem h, List.getD_eq_getElem?_getD, List.getElem?_eq_getElem h, Option.getD_some]
theorem rpre_succ {l : List Int} {n : Nat} (h : n < l.length) : rpre l (n + 1) = rpre l n ++ (if n = 0 then [] else [32]) ++ c2 (l.getD n 0) := by
 rw [rpre, take_snoc 0 h, List.map_append]
 by_cases h0 : n = 0
 ·subst h0; simp [rpre, jn]
 ·rw [if_neg h0]
  have : (l.take n).map c2 ≠ [] := by
   intro e
   have := congrArg List.length e
   rw [List.length_map, List.length_take, List.length_nil] at this; omega
  simp only [List.map_cons, List.map_nil]
  rw [jn_snoc this]
  simp [rpre]
theorem gpre_succ {rows : List (List Int)} {n : Nat} (h : n < rows.length) : gpre rows (n + 1) = gpre rows n ++ (if n = 0 then [] else [47]) ++ rtext (rows.getD n []) := by
 rw [gpre, take_snoc [] h, List.map_append]
 by_cases h0 : n = 0
 ·subst h0; simp [gpre, jn]
 ·rw [if_neg h0]
  have : (rows.take n).map rtext ≠ [] := by
   intro e
   have := congrArg List.length e
   rw [List.length_map, List.length_take, List.length_nil] at this; omega
  simp only [List.map_cons, List.map_nil]
  rw [jn_snoc this]
  simp [gpre]
theorem rpre_all (l : List Int) : rpre l l.length = rtext l := by rw [rpre, List.take_length]; rfl
theorem gpre_all (rows : List (List Int)) : gpre rows rows.length = gtext rows := by rw [gpre, List.take_length]; rfl
end Go.SW
namespace Go.Proofs
open Go.Shelf Go.RowKit Go.Lib
variable {P : Program} {ρ : Ren}
set_option maxHeartbeats 1000000 in
theorem split_one (L : Lays.n146 P ρ) (hi9 : (P.info? (ρ.t 9)).map (fun i => (i.zero, i.size, i.bytes)) = some (some (.string ByteArray.empty), 1, 16)) (s : ByteArray) (c : UInt8) (w : World) (hs : s.size < 4294967281) :
  Calls P (ρ.f 146) #[.string s, .string ⟨#[c]⟩] w fun e w' =>
   e = .returned (.slice (some ⟨w.heap.size, 0, none⟩) (Lib.countB s ⟨#[c]⟩ + 1) (Lib.countB s ⟨#[c]⟩ + 1)) ∧ w' = w.alloc (.cells ((Lib.splitB ⟨#[c]⟩ 0 (Lib.countB s ⟨#[c]⟩) s).map Value.string).toArray (ρ.t 9)) := by
 have h1 : 1 ≤ (⟨#[c]⟩ : ByteArray).size := Nat.le_refl _
 have hle := Lib.countB_le ⟨#[c]⟩ h1 s.size s (Nat.le_refl _)
 have hlen := Lib.splitB_all ⟨#[c]⟩ h1 0 _ s rfl
 have k := Any.strings_genSplit_core (P := P) (ρ := ρ) { L with } hi9 s ⟨#[c]⟩ 0 (-1) (Lib.countB s ⟨#[c]⟩ + 1) w hs h1 (Nat.zero_le _)
  (fun x cs hx => (Any.strings_Index_one { L with } x c _).mono fun e w' ⟨he, hw⟩ => ⟨by rw [he]; show _ = Ending.returned (Value.int .i64 (Lib.index x.data.toList [c])); rw [Lib.index_one], hw⟩)
  ((Any.strings_Count_one { L with } s c w).mono fun e w' ⟨he, hw⟩ => ⟨by rw [he]; show _ = Ending.returned (Value.int .i64 ((Lib.count s.data.toList [c] : Nat) : Int)); rw [Lib.count_one]; rfl, hw⟩)
  (by decide) (by decide) (by rw [if_pos (by decide)]; omega)
 rw [Nat.add_sub_cancel, hlen] at k
 have e2 : Lib.cellsOf (Lib.splitB ⟨#[c]⟩ 0 (Lib.countB s ⟨#[c]⟩) s) (Lib.countB s ⟨#[c]⟩ + 1) = ((Lib.splitB ⟨#[c]⟩ 0 (Lib.countB s ⟨#[c]⟩) s).map Value.string).toArray := by rw [← hlen]; exact Lib.cellsOf_full _
 rw [e2] at k
 have t3 := L.t3; have t9 := L.t9; have t31 := L.t31
 have a3 := L.a3; have a9 := L.a9; have a31 := L.a31
 have z3 := L.z3; have v3 := L.v3; have z9 := L.z9; have v9 := L.v9; have z31 := L.z31; have v31 := L.v31
 have e221 : ∀ args w, (callFunc (ρ.f 221) args).run P w = .ok (.enter (ρ.f 221) args) w := enters_of L.f221 (by kernel_rfl) rfl
 go_enter L.f146, Body.n146_ntmps ρ
 go_wp2_with (go_at_fn (ρ.f 221); refine k.mono ?_; rintro e w' ⟨rfl, hw⟩; rw [hw])
 go_ret
 exact ⟨rfl, rfl⟩
end Go.Proofs
namespace Go.SW
open Go Go.RowKit
def vby (l : List UInt8) : List Value := l.map fun x => Value.int .u8 (x.toNat : Nat)
theorem vb_len (l : List UInt8) : (vby l).length = l.length := by simp [vby]
theorem vb_app (l m : List UInt8) : vby l ++ vby m = vby (l ++ m) := by simp [vby]
theorem strCells_bs (l : List UInt8) : Lib.strCells (bs l) = vby l := by
 simp [Lib.strCells, bs, vby]
theorem isStr_some {P : Program} {T : TypeId} (h : isStr P T = true) : P.underlying T = some .string := by
 unfold isStr at h
 split at h
 ·assumption
 ·cases h
theorem appKs_of {P : Program} {T U ty e : Nat} {k : Value → World → Prop} {w : World} (ht : elt P T = some (e, 1, .int .u8 0, 1)) (hu : isStr P U = true)
  {a : Option Addr} {n c : Nat} {xs : List Value} (hown : OwnS w e 1 a n c xs) (l : List UInt8) (hbytes : n + l.length ≤ 140737488355328)
  (h : ∀ w' a' c', OwnS w' e 1 a' (n + l.length) c' (xs ++ vby l) → Grow (blk a) w w' → (∀ b, blk a' = some b → blk a = some b ∨ w.heap.size ≤ b) → k (.slice a' (n + l.length) c') w') :
  biK P .append #[T, U] ty #[.slice a n c, .string (bs l)] k w := by
 obtain ⟨hT, i, hi, hs, hz, hb, hzs⟩ := elt_some ht
 have hU := isStr_some hu
 have hsz : (bs l).size = l.length := bs_size l
 have h63 : n + (bs l).size ≤ maxLen := by rw [hsz]; simp only [maxLen]; omega
 obtain ⟨v', w', hr, hrow, hg, hnil⟩ := Lib.run_append_own_string (P := P) w 0 T U ty e i hT hU hi hz hs hb (.slice a n c) n xs hown.row (bs l) h63 om (Nat.zero_le _)
 obtain ⟨a', c', rfl, hown'⟩ := own_of_row hrow
 have hgrow : Grow (blk a) w w' := ⟨hg.os, hg.tape, hg.output, hg.size, fun b hb hne => hg.block b hb (fun e => hne (by
  cases a with
  | none => simp [Value.ownBlock] at e
  | some x => simpa [Value.ownBlock, blk] using e.symm))⟩
 have hblk : ∀ b, blk a' = some b → blk a = some b ∨ w.heap.size ≤ b := by
  intro b hb'
  rcases hown.2 with ⟨rfl, rfl, rfl⟩ | ⟨g, cur, rfl, hgg, hnc, hcm, hcs, htk⟩
  ·by_cases hm : (bs l).size = 0
   ·have := hnil.2 ⟨rfl, hm⟩
    simp only [Value.slice.injEq] at this
    rw [this.1] at hb'; cases hb'
   ·right
    have hr2 := run_append_nil_string (P := P) w T U ty e i (.int .u8 0) hT hU hi hz (bs l) om om (by rw [hb]; omega)
    have := hr.symm.trans hr2
    simp only [Result.ok.injEq, Value.slice.injEq] at this
    rw [this.1.1] at hb'
    simp only [blk_some, Option.some.injEq] at hb'
    omega
  ·by_cases hroom : n + (bs l).size ≤ c
   ·left
    have hr2 := Lib.run_append_room_string (P := P) w T U ty e i hT hU hi hs g n c cur hgg (bs l) hroom om
    have := hr.symm.trans hr2
    simp only [Result.ok.injEq, Value.slice.injEq] at this
    rw [this.1.1] at hb'
    exact hb'
   ·right
    have holds : ∀ j u, xs[j]? = some u → w.cell? ((⟨g, 0, none⟩ : Addr).add j) = some u := by
     intro j u hu
     have hj : j < n * 1 := by
      have h2 := (List.getElem?_eq_some_iff.1 hu).1
      rwa [hown.1] at h2
     rw [add_mk, Nat.zero_add, hown.cell hj, hu]
    have hr2 := Lib.run_append_grow_string (P := P) w T U ty e i (.int .u8 0) hT hU hi hz ⟨g, 0, none⟩ n c xs (by rw [hs]; exact hown.1) holds (bs l) om om (by rw [hb]; exact growslice_fits om om)
    have := hr.symm.trans hr2
    simp only [Result.ok.injEq, Value.slice.injEq] at this
    rw [this.1.1] at hb'
    simp only [blk_some, Option.some.injEq] at hb'
    omega
 have hrun : (builtin .append #[T, U] ty #[] #[.slice a n c, .string (bs l)]).run P w = .ok (.value (.slice a' (n + (bs l).size) c')) w' := run_bindV hr
 unfold biK
 rw [hrun, hsz]
 rw [hsz, strCells_bs] at hown'
 exact h w' a' c' hown' hgrow hblk
theorem dec_2' {n : Nat} (h : n < 100) : dec n = if n < 10 then [UInt8.ofNat (48 + n)] else [UInt8.ofNat (48 + n / 10), UInt8.ofNat (48 + n % 10)] := by
 by_cases h10 : n < 10
 ·rw [dec_lt h10, if_pos h10]
 ·rw [dec_ge h10, if_neg h10, dec_lt om]; rfl
theorem mem_dec {n : Nat} (h : n < 100) {x : UInt8} (hx : x ∈ dec n) : 48 ≤ x.toNat ∧ x.toNat ≤ 57 := by
 rw [dec_2' h] at hx
 by_cases h10 : n < 10
 ·rw [if_pos h10] at hx
  simp only [List.mem_cons, List.not_mem_nil, or_false] at hx
  subst hx
  rw [u8n' om]; omega
 ·rw [if_neg h10] at hx
  simp only [List.mem_cons, List.not_mem_nil, or_false] at hx
  rcases hx with rfl | rfl
  ·rw [u8n' om]; omega
  ·rw [u8n' om]; omega
theorem dec_noline {n : Nat} (h : n < 100) : (10 : UInt8) ∉ dec n := fun hx => by
 have := mem_dec h hx
 have : (10 : UInt8).toNat = 10 := rfl
 omega
def nf (l : List UInt8) : Nat → Nat
 | 0 => 0
 | k + 1 => 10 * nf l k + ((l.getD k 0).toNat - 48)
theorem dec_len2 {n : Nat} (h : n < 100) : 1 ≤ (dec n).length ∧ (dec n).length ≤ 2 := by
 rw [dec_2' h]; split <;> simp
theorem nf_lt {l : List UInt8} : ∀ {k : Nat}, (∀ i, i < k → (l.getD i 0).toNat ≤ 57) → nf l k < 10 ^ k
 | 0, _ => by simp [nf]
 | k + 1, h => by
  have a := nf_lt (l := l) (k := k) fun i h1 => h i om
  have b := h k om
  simp only [nf, Nat.pow_succ]
  omega
def grd : List UInt8 := [103, 114, 105, 100, 32]
theorem join_jn (c : UInt8) (L : List (List UInt8)) : Lib.join L [c] = jn c L := by
 induction L with
 | nil => rfl
 | cons a r ih =>
  cases r with
  | nil => simp [Lib.join, List.intercalate, jn]
  | cons b r =>
   rw [jn_cons sm, ← ih]
   simp [Lib.join, List.intercalate]
theorem grd_pre (g : List UInt8) : Lib.hasPrefix (grd ++ g) grd = true ∧ Lib.trimPrefix (grd ++ g) grd = g := by
 have h : Lib.hasPrefix (grd ++ g) grd = true := by simp [Lib.hasPrefix]
 refine ⟨h, ?_⟩
 rw [Lib.trimPrefix, if_pos h, List.drop_left]
theorem RowsAt.kept {w w' : World} {a : Option Addr} {rows : List (List Int)} {A : Nat → Option Addr} {Cp : Nat → Nat} (h : RowsAt w a rows A Cp) (hb : ∀ b, blk a = some b → b < w.heap.size → w'.heap[b]? = w.heap[b]?) (hr : ∀ r, r < rows.length → ∀ b, blk (A r) = some b → b < w.heap.size → w'.heap[b]? = w.heap[b]?) : RowsAt w' a rows A Cp :=
 ⟨h.head, fun b o ha r h1 => by
  have hc := h.row b o ha r h1
  rw [World.cell?_of_block (w := w) (hb b (by rw [ha]; rfl) (World.block_lt_of_cell? w _ hc)), hc], fun r hr' => (h.ints r hr').kept (hr r hr'), h.i64, h.len, h.lens⟩
structure GrowP (X : Nat → Prop) (w w' : World) : Prop where
 os : w'.os = w.os
 tape : w'.tape = w.tape
 output : w'.output = w.output
 size : w.heap.size ≤ w'.heap.size
 other : ∀ k, k < w.heap.size → ¬ X k → w'.heap[k]? = w.heap[k]?
theorem Grow.growP {ob : Option Nat} {w w' : World} {X : Nat → Prop} (g : Grow ob w w') (h : ∀ b, ob = some b → X b) : GrowP X w w' :=
 ⟨g.os, g.tape, g.output, g.size, fun k hk hx => g.other k hk fun e => hx (h k e)⟩
theorem GrowP.trans {X : Nat → Prop} {w w1 w2 : World} (g : GrowP X w w1) (h : GrowP X w1 w2) : GrowP X w w2 :=
 ⟨h.os.trans g.os, h.tape.trans g.tape, h.output.trans g.output, Nat.le_trans g.size h.size, fun k hk hx => by rw [h.other k (Nat.lt_of_lt_of_le hk g.size) hx, g.other k hk hx]⟩
theorem GrowP.weaken {X Y : Nat → Prop} {w w' : World} (g : GrowP X w w') (h : ∀ b, X b → Y b ∨ w.heap.size ≤ b) : GrowP Y w w' :=
 ⟨g.os, g.tape, g.output, g.size, fun k hk hx => g.other k hk fun e => (h k e).elim hx om⟩
theorem GrowP.ext {X : Nat → Prop} {w0 w w' : World} (g : GrowP X w w') (e : Ext w0 w) (h : ∀ b, X b → w0.heap.size ≤ b) : Ext w0 w' :=
 (g.weaken (Y := fun b => w0.heap.size ≤ b) fun b hb => .inl (h b hb)) |> fun g =>
 ⟨g.os.trans e.os, g.tape.trans e.tape, g.output.trans e.output, Nat.le_trans e.size g.size, fun k hk => by rw [g.other k (Nat.lt_of_lt_of_le hk e.size) om, e.block k hk]⟩
theorem GrowP.blk {X : Nat → Prop} {w w' : World} {c : Nat} {cs : Array Value} {T : TypeId} (h : GrowP X w w') (hc : Blk w c cs T) (hne : ¬ X c) : Blk w' c cs T := by
 unfold Blk; rw [h.other c hc.lt hne]; exact hc
theorem Ext.growP {w w' : World} (X : Nat → Prop) (e : Ext w w') : GrowP X w w' := (e.grow none).growP fun _ h => by cases h
structure Desk (w : World) (D d : Nat) (rows : List (List Int)) (X : Nat → Prop) : Prop where
 ex : ∃ a A Cp gc, Blk w d #[.slice a rows.length gc, .slice none 0 0] D ∧ RowsAt w a rows A Cp ∧ (∀ b, Go.SW.blk a = some b → ¬ X b ∧ b ≠ d ∧ b < w.heap.size) ∧ ∀ r, r < rows.length → ∀ b, Go.SW.blk (A r) = some b → ¬ X b ∧ b ≠ d ∧ b < w.heap.size
theorem Desk.grow {w w' : World} {D d : Nat} {rows : List (List Int)} {X Y : Nat → Prop} (h : Desk w D d rows X) (g : GrowP Y w w') (hx : ∀ y, Y y → X y) (hd : ¬ Y d) : Desk w' D d rows X := by
 obtain ⟨a, A, Cp, gc, k, r, h1, h2⟩ := h.ex
 have s := g.size
 exact ⟨a, A, Cp, gc, g.blk k hd, r.kept (fun b hb hl => g.other b hl fun e => (h1 b hb).1 (hx b e)) (fun i hi b hb hl => g.other b hl fun e => (h2 i hi b hb).1 (hx b e)),
  fun b hb => let ⟨p, q, z⟩ := h1 b hb; ⟨p, q, om⟩, fun i hi b hb => let ⟨p, q, z⟩ := h2 i hi b hb; ⟨p, q, om⟩⟩
theorem Desk.ext {w w' : World} {D d : Nat} {rows : List (List Int)} {X : Nat → Prop} (h : Desk w D d rows X) (e : Ext w w') : Desk w' D d rows X := by
 obtain ⟨a, A, Cp, gc, k, r, h1, h2⟩ := h.ex
 have s := e.size
 exact ⟨a, A, Cp, gc, k.ext e, r.ext e, fun b hb => let ⟨p, q, z⟩ := h1 b hb; ⟨p, q, om⟩, fun i hi b hb => let ⟨p, q, z⟩ := h2 i hi b hb; ⟨p, q, om⟩⟩
theorem Desk.avoid {w : World} {D d : Nat} {rows : List (List Int)} {X Y : Nat → Prop} (h : Desk w D d rows X) (hY : ∀ y, Y y → X y ∨ w.heap.size ≤ y) : Desk w D d rows Y := by
 obtain ⟨a, A, Cp, gc, k, r, h1, h2⟩ := h.ex
 refine ⟨a, A, Cp, gc, k, r, fun b hb => ?_, fun i hi b hb => ?_⟩
 ·obtain ⟨p, q, z⟩ := h1 b hb
  exact ⟨fun hy => (hY b hy).elim p om, q, z⟩
 ·obtain ⟨p, q, z⟩ := h2 i hi b hb
  exact ⟨fun hy => (hY b hy).elim p om, q, z⟩
def Bld (w : World) (T e b : Nat) (l : List UInt8) (bf : Option Nat) : Prop :=
 ∃ p a c, Blk w b #[p, .slice a l.length c] T ∧ (p = .pointer none ∨ p = .pointer (some ⟨b, 0, none⟩)) ∧ OwnS w e 1 a l.length c (vby l) ∧ blk a = bf ∧ bf ≠ some b
theorem Bld.grow {w w' : World} {T e b : Nat} {l : List UInt8} {bf : Option Nat} {ob : Option Nat} (h : Bld w T e b l bf) (g : Grow ob w w') (h1 : ob ≠ some b) (h2 : ∀ x, bf = some x → ob ≠ some x) : Bld w' T e b l bf := by
 obtain ⟨p, a, c, k, hp, o, rfl, hn⟩ := h
 exact ⟨p, a, c, g.blk k h1, hp, o.grow g h2, rfl, hn⟩
theorem Bld.ext {w w' : World} {T e b : Nat} {l : List UInt8} {bf : Option Nat} (h : Bld w T e b l bf) (x : Ext w w') : Bld w' T e b l bf := by
 obtain ⟨p, a, c, k, hp, o, rfl, hn⟩ := h
 exact ⟨p, a, c, k.ext x, hp, o.ext x, rfl, hn⟩
theorem Bld.lt {w : World} {T e b : Nat} {l : List UInt8} {bf : Option Nat} (h : Bld w T e b l bf) : b < w.heap.size ∧ ∀ x, bf = some x → x < w.heap.size := by
 obtain ⟨p, a, c, k, hp, o, rfl, hn⟩ := h
 exact ⟨k.lt, fun x hx => o.blk_lt hx⟩
end Go.SW
