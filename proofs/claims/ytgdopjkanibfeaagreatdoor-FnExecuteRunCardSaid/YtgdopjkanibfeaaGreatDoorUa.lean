/- Texts cut at a byte and joined, the text of a grid, as plain lists. -/
import Derived.Lib.SplitLaws
set_option linter.all false
set_option maxRecDepth 20000
namespace Go.SW
open Go
/-- A text cut at each c. -/
def spl (c : UInt8) : List UInt8 → List (List UInt8)
  | [] => [[]]
  | b :: l => if b = c then [] :: spl c l else match spl c l with
    | [] => [[b]]
    | p :: ps => (b :: p) :: ps
theorem spl_ne (c : UInt8) (l : List UInt8) : spl c l ≠ [] := by
  cases l with
  | nil => simp [spl]
  | cons b l => simp only [spl]; split <;> (try split) <;> simp
theorem spl_len (c : UInt8) (l : List UInt8) : (spl c l).length = l.count c + 1 := by
  induction l with
  | nil => rfl
  | cons b l ih =>
    simp only [spl]
    by_cases h : b = c
    · subst h; simp [ih]
    · rw [if_neg h, List.count_cons_of_ne (by simpa using h), ← ih]
      have := spl_ne c l
      cases h2 : spl c l with
      | nil => exact (this h2).elim
      | cons p ps => rfl
theorem spl_none {c : UInt8} {l : List UInt8} (h : c ∉ l) : spl c l = [l] := by
  induction l with
  | nil => rfl
  | cons b l ih =>
    have h1 : b ≠ c := fun e => h (by simp [e])
    have h2 : c ∉ l := fun e => h (by simp [e])
    simp [spl, h1, ih h2]
theorem spl_app {c : UInt8} {l m : List UInt8} (h : c ∉ l) : spl c (l ++ c :: m) = l :: spl c m := by
  induction l with
  | nil => simp [spl]
  | cons b l ih =>
    have h1 : b ≠ c := fun e => h (by simp [e])
    have h2 : c ∉ l := fun e => h (by simp [e])
    simp [spl, h1, ih h2]
theorem splitK_spl (c : UInt8) (l : List UInt8) : Lib.splitK [c] 0 (Lib.count l [c]) l = spl c l := by
  induction l with
  | nil => rw [Lib.count_one]; rfl
  | cons b l ih =>
    by_cases h : b = c
    · subst h
      rw [Lib.count_cons_eq, Nat.add_comm, Lib.splitK]
      have e : Lib.index (b :: l) [b] = 0 := by rw [Lib.index]; simp [List.isPrefixOf]
      rw [e]
      simp [spl, ih]
    · rw [Lib.count_cons_ne b c l h]
      have hp : ([c] : List UInt8).isPrefixOf (b :: l) = false := by simp [List.isPrefixOf, Ne.symm h]
      have hix : Lib.index (b :: l) [c] = if Lib.index l [c] == -1 then -1 else Lib.index l [c] + 1 := by rw [Lib.index, hp]; simp
      simp only [spl, if_neg h, ← ih]
      cases hk : Lib.count l [c] with
      | zero => rfl
      | succ k =>
        have hm : ¬ Lib.index l [c] = -1 := fun e => by have := Lib.count_miss (s := l) (sub := [c]) e; omega
        have hge := Lib.index_ge l [c]
        obtain ⟨j, hj⟩ : ∃ j : Nat, Lib.index l [c] = j := ⟨(Lib.index l [c]).toNat, by omega⟩
        have hix' : Lib.index (b :: l) [c] = ((j + 1 : Nat) : Int) := by rw [hix, if_neg (fun e => hm (beq_iff_eq.1 e)), hj]; omega
        have n1 : (((j + 1 : Nat) : Int) == -1) = false := by rw [beq_eq_false_iff_ne]; omega
        have n2 : ((j : Int) == -1) = false := by rw [beq_eq_false_iff_ne]; omega
        simp only [Lib.splitK, hix', hj, n1, n2, Bool.false_eq_true, if_false, Int.toNat_natCast, Nat.add_zero, List.take_succ_cons, List.length_cons, List.length_nil]
        simp
/-- Texts with c between. -/
def jn (c : UInt8) : List (List UInt8) → List UInt8
  | [] => []
  | [a] => a
  | a :: b :: r => a ++ c :: jn c (b :: r)
theorem jn_cons {c : UInt8} {a : List UInt8} {r : List (List UInt8)} (h : r ≠ []) : jn c (a :: r) = a ++ c :: jn c r := by
  cases r with
  | nil => exact (h rfl).elim
  | cons b r => rfl
theorem jn_snoc {c : UInt8} {L : List (List UInt8)} {x : List UInt8} (h : L ≠ []) : jn c (L ++ [x]) = jn c L ++ c :: x := by
  induction L with
  | nil => exact (h rfl).elim
  | cons a r ih =>
    cases r with
    | nil => rfl
    | cons b r =>
      rw [List.cons_append, jn_cons (r := b :: r ++ [x]) (by simp), ih (by simp), jn_cons (r := b :: r) (by simp), List.append_assoc, List.cons_append]
theorem spl_jn {c : UInt8} {L : List (List UInt8)} (h : L ≠ []) (hc : ∀ l ∈ L, c ∉ l) : spl c (jn c L) = L := by
  induction L with
  | nil => exact (h rfl).elim
  | cons a r ih =>
    cases r with
    | nil => exact spl_none (hc a (by simp))
    | cons b r =>
      rw [jn_cons (by simp), spl_app (hc a (by simp)), ih (by simp) fun l hl => hc l (by simp [hl])]
theorem jn_mem {c : UInt8} {L : List (List UInt8)} {x : UInt8} (h : x ∈ jn c L) : x = c ∨ ∃ l, l ∈ L ∧ x ∈ l := by
  induction L with
  | nil => simp [jn] at h
  | cons a r ih =>
    cases r with
    | nil => exact .inr ⟨a, by simp, h⟩
    | cons b r =>
      rw [jn_cons (by simp), List.mem_append, List.mem_cons] at h
      rcases h with h | h | h
      · exact .inr ⟨a, by simp, h⟩
      · exact .inl h
      · rcases ih h with h | ⟨l, h1, h2⟩
        · exact .inl h
        · exact .inr ⟨l, by simp [h1], h2⟩
theorem jn_len {c : UInt8} {L : List (List UInt8)} {m : Nat} (hm : ∀ l ∈ L, l.length ≤ m) : (jn c L).length + (if L = [] then 0 else 1) ≤ L.length * (m + 1) := by
  induction L with
  | nil => simp [jn]
  | cons a r ih =>
    have ha := hm a (by simp)
    cases r with
    | nil => simp [jn]; omega
    | cons b r =>
      have := ih fun l hl => hm l (by simp [hl])
      rw [jn_cons (by simp), List.length_append, List.length_cons, List.length_cons, Nat.succ_mul]
      simp only [reduceCtorEq, if_false] at this ⊢
      omega
/-- A height in two digits. -/
def c2 (h : Int) : List UInt8 := [UInt8.ofNat (48 + h.toNat / 10), UInt8.ofNat (48 + h.toNat % 10)]
def rtext (l : List Int) : List UInt8 := jn 32 (l.map c2)
/-- The text of a grid. -/
def gtext (rows : List (List Int)) : List UInt8 := jn 47 (rows.map rtext)
theorem u8n' {n : Nat} (h : n < 256) : (UInt8.ofNat n).toNat = n := by
  simp [UInt8.toNat_ofNat']; omega
theorem mem_c2 {h : Int} (h0 : 0 ≤ h ∧ h ≤ 99) {x : UInt8} (hx : x ∈ c2 h) : 48 ≤ x.toNat ∧ x.toNat ≤ 57 := by
  simp only [c2, List.mem_cons, List.not_mem_nil, or_false] at hx
  rcases hx with rfl | rfl
  · rw [u8n' (by omega)]; omega
  · rw [u8n' (by omega)]; omega
theorem mem_rtext {l : List Int} (hl : ∀ h ∈ l, 0 ≤ h ∧ h ≤ 99) {x : UInt8} (hx : x ∈ rtext l) : x = 32 ∨ 48 ≤ x.toNat ∧ x.toNat ≤ 57 := by
  rcases jn_mem hx with h | ⟨t, h1, h2⟩
  · exact .inl h
  · obtain ⟨a, ha, rfl⟩ := List.mem_map.1 h1
    exact .inr (mem_c2 (hl a ha) h2)
theorem mem_gtext {rows : List (List Int)} (hl : ∀ l ∈ rows, ∀ h ∈ l, 0 ≤ h ∧ h ≤ 99) {x : UInt8} (hx : x ∈ gtext rows) : x = 47 ∨ x = 32 ∨ 48 ≤ x.toNat ∧ x.toNat ≤ 57 := by
  rcases jn_mem hx with h | ⟨t, h1, h2⟩
  · exact .inl h
  · obtain ⟨a, ha, rfl⟩ := List.mem_map.1 h1
    exact .inr (mem_rtext (hl a ha) h2)
theorem gtext_noline {rows : List (List Int)} (hl : ∀ l ∈ rows, ∀ h ∈ l, 0 ≤ h ∧ h ≤ 99) : (10 : UInt8) ∉ gtext rows := fun hx => by
  rcases mem_gtext hl hx with h | h | h
  · cases h
  · cases h
  · have : (10 : UInt8).toNat = 10 := rfl
    omega
theorem rtext_noslash {l : List Int} (hl : ∀ h ∈ l, 0 ≤ h ∧ h ≤ 99) : (47 : UInt8) ∉ rtext l := fun hx => by
  rcases mem_rtext hl hx with h | h
  · cases h
  · have : (47 : UInt8).toNat = 47 := rfl
    omega
theorem c2_nospace {h : Int} (h0 : 0 ≤ h ∧ h ≤ 99) : (32 : UInt8) ∉ c2 h := fun hx => by
  have := mem_c2 h0 hx
  have : (32 : UInt8).toNat = 32 := rfl
  omega
theorem spl_gtext {rows : List (List Int)} (h : rows ≠ []) (hl : ∀ l ∈ rows, ∀ h ∈ l, 0 ≤ h ∧ h ≤ 99) : spl 47 (gtext rows) = rows.map rtext :=
  spl_jn (by simpa using h) fun t ht => by
    obtain ⟨a, ha, rfl⟩ := List.mem_map.1 ht
    exact rtext_noslash (hl a ha)
theorem spl_rtext {l : List Int} (h : l ≠ []) (hl : ∀ h ∈ l, 0 ≤ h ∧ h ≤ 99) : spl 32 (rtext l) = l.map c2 :=
  spl_jn (by simpa using h) fun t ht => by
    obtain ⟨a, ha, rfl⟩ := List.mem_map.1 ht
    exact c2_nospace (hl a ha)
theorem gtext_len {rows : List (List Int)} (h : rows.length ≤ 7) (hl : ∀ l ∈ rows, l.length ≤ 7) : (gtext rows).length ≤ 147 := by
  have h1 : ∀ l ∈ rows, (rtext l).length ≤ 20 := fun l hl' => by
    have := jn_len (c := 32) (L := l.map c2) (m := 2) fun t ht => by
      obtain ⟨a, _, rfl⟩ := List.mem_map.1 ht
      exact Nat.le_refl _
    have h7 := hl l hl'
    unfold rtext
    rw [List.length_map] at this
    by_cases he : l = []
    · subst he; simp [jn]
    · rw [if_neg (by simpa using he)] at this; omega
  have := jn_len (c := 47) (L := rows.map rtext) (m := 20) fun t ht => by
    obtain ⟨a, ha, rfl⟩ := List.mem_map.1 ht
    exact h1 a ha
  unfold gtext
  rw [List.length_map] at this
  omega
/-- What has been written of a row after n of its cells. -/
def rpre (l : List Int) (n : Nat) : List UInt8 := jn 32 ((l.take n).map c2)
def gpre (rows : List (List Int)) (n : Nat) : List UInt8 := jn 47 ((rows.take n).map rtext)
theorem rpre_zero (l : List Int) : rpre l 0 = [] := rfl
theorem gpre_zero (rows : List (List Int)) : gpre rows 0 = [] := rfl
theorem take_snoc {α : Type} {l : List α} {n : Nat} (d : α) (h : n < l.length) : l.take (n + 1) = l.take n ++ [l.getD n d] := by
  rw [List.take_succ_eq_append_getElem h, List.getD_eq_getElem?_getD, List.getElem?_eq_getElem h, Option.getD_some]
theorem rpre_succ {l : List Int} {n : Nat} (h : n < l.length) : rpre l (n + 1) = rpre l n ++ (if n = 0 then [] else [32]) ++ c2 (l.getD n 0) := by
  rw [rpre, take_snoc 0 h, List.map_append]
  by_cases h0 : n = 0
  · subst h0; simp [rpre, jn]
  · rw [if_neg h0]
    have : (l.take n).map c2 ≠ [] := by
      intro e
      have := congrArg List.length e
      rw [List.length_map, List.length_take, List.length_nil] at this; omega
    simp only [List.map_cons, List.map_nil]
    rw [jn_snoc this]
    simp [rpre]
theorem gpre_succ {rows : List (List Int)} {n : Nat} (h : n < rows.length) : gpre rows (n + 1) = gpre rows n ++ (if n = 0 then [] else [47]) ++ rtext (rows.getD n []) := by
  rw [gpre, take_snoc [] h, List.map_append]
  by_cases h0 : n = 0
  · subst h0; simp [gpre, jn]
  · rw [if_neg h0]
    have : (rows.take n).map rtext ≠ [] := by
      intro e
      have := congrArg List.length e
      rw [List.length_map, List.length_take, List.length_nil] at this; omega
    simp only [List.map_cons, List.map_nil]
    rw [jn_snoc this]
    simp [gpre]
theorem rpre_all (l : List Int) : rpre l l.length = rtext l := by rw [rpre, List.take_length]; rfl
theorem gpre_all (rows : List (List Int)) : gpre rows rows.length = gtext rows := by rw [gpre, List.take_length]; rfl
end Go.SW
