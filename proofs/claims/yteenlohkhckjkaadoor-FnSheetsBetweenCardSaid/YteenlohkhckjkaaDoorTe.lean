/- Which sheet or place a name names, as plain lists. -/
import Derived.Test.YteenlohkhckjkaaDoorTc
set_option linter.all false
set_option maxRecDepth 20000
namespace Go.SW
theorem u8n {n : Nat} (h : n < 256) : (UInt8.ofNat n).toNat = n := by
  simp [UInt8.toNat_ofNat']; omega
theorem u8_lt (x : UInt8) : x.toNat < 256 := x.toNat_lt
theorem u8_eq {x y : UInt8} (h : x.toNat = y.toNat) : x = y := UInt8.toNat_inj.1 h
theorem u8_ofNat {x : UInt8} {n : Nat} (hn : n < 256) (h : x.toNat = n) : x = UInt8.ofNat n := u8_eq (by rw [h, u8n hn])
theorem dec_2 {n : Nat} (h : n < 100) : dec n = if n < 10 then [UInt8.ofNat (48 + n)] else [UInt8.ofNat (48 + n / 10), UInt8.ofNat (48 + n % 10)] := by
  by_cases h10 : n < 10
  · rw [dec_lt h10, if_pos h10]
  · rw [dec_ge h10, if_neg h10, dec_lt (by omega)]; rfl
theorem u8i {a b : Nat} (ha : a < 256) (hb : b < 256) (h : UInt8.ofNat a = UInt8.ofNat b) : a = b := by
  have := congrArg UInt8.toNat h
  rwa [u8n ha, u8n hb] at this
theorem dec_inj {m n : Nat} (hm : m < 100) (hn : n < 100) (h : dec m = dec n) : m = n := by
  rw [dec_2 hm, dec_2 hn] at h
  by_cases h1 : m < 10 <;> by_cases h2 : n < 10 <;> simp only [h1, h2, if_true, if_false, List.cons.injEq, and_true, reduceCtorEq, and_false] at h
  · have := u8i (by omega) (by omega) h; omega
  · have a := u8i (by omega) (by omega) h.1
    have b := u8i (by omega) (by omega) h.2
    omega
theorem sname_inj {c r c' r' : Nat} (hc : c < 99) (hr : r < 100) (hc' : c' < 99) (hr' : r' < 100) (h : sname c r = sname c' r') : c = c' ∧ r = r' := by
  simp only [sname, List.cons.injEq] at h
  have a := u8i (by omega) (by omega) h.1
  have b := dec_inj (by omega) (by omega) h.2
  omega
/-- The number that a name's digits tell. -/
def numTo (l : List UInt8) : Nat → Nat
  | 0 => 0
  | k + 1 => 10 * numTo l k + ((l.getD (k + 1) 0).toNat - 48)
theorem numTo_lt {l : List UInt8} : ∀ {k : Nat}, (∀ i, 1 ≤ i → i ≤ k → (l.getD i 0).toNat ≤ 57) → numTo l k < 10 ^ k
  | 0, _ => by simp [numTo]
  | k + 1, h => by
    have a := numTo_lt (l := l) (k := k) fun i h1 h2 => h i h1 (by omega)
    have b := h (k + 1) (by omega) (by omega)
    simp only [numTo, Nat.pow_succ]
    omega
/-- l names the sheet in column c and row r. -/
def Named (l : List UInt8) (c r : Nat) : Prop := c < 26 ∧ r < 26 ∧ l = sname c r
theorem Named.inj {l : List UInt8} {c r c' r' : Nat} (h : Named l c r) (h' : Named l c' r') : c = c' ∧ r = r' :=
  sname_inj (by have := h.1; omega) (by have := h.2.1; omega) (by have := h'.1; omega) (by have := h'.2.1; omega) (h.2.2.symm.trans h'.2.2)
def allSheets : List (Nat × Nat) := (List.range 26).flatMap fun r => (List.range 26).map fun c => (c, r)
theorem mem_allSheets {c r : Nat} : (c, r) ∈ allSheets ↔ c < 26 ∧ r < 26 := by
  simp only [allSheets, List.mem_flatMap, List.mem_range, List.mem_map, Prod.mk.injEq]
  constructor
  · rintro ⟨r', h1, c', h2, rfl, rfl⟩; exact ⟨h2, h1⟩
  · rintro ⟨h1, h2⟩; exact ⟨r, h2, c, h1, rfl, rfl⟩
/-- The sheet with a name. -/
def fnd (l : List UInt8) : Option (Nat × Nat) := allSheets.find? fun p => l == sname p.1 p.2
theorem fnd_named {l : List UInt8} {p : Nat × Nat} (h : fnd l = some p) : Named l p.1 p.2 := by
  have a := List.find?_some h
  have b := List.mem_of_find?_eq_some h
  obtain ⟨c, r⟩ := p
  have := mem_allSheets.1 b
  exact ⟨this.1, this.2, by simpa using a⟩
theorem fnd_of {l : List UInt8} {c r : Nat} (h : Named l c r) : fnd l = some (c, r) := by
  cases hf : fnd l with
  | none =>
    have := List.find?_eq_none.1 hf (c, r) (mem_allSheets.2 ⟨h.1, h.2.1⟩)
    simp [← h.2.2] at this
  | some p =>
    have := (fnd_named hf).inj h
    obtain ⟨c', r'⟩ := p
    simp_all
theorem fnd_none {l : List UInt8} (h : ∀ c r, ¬ Named l c r) : fnd l = none := by
  cases hf : fnd l with
  | none => rfl
  | some p => exact (h _ _ (fnd_named hf)).elim
def fCol (l : List UInt8) : Nat := match fnd l with | some p => p.1 | none => 0
def fRow (l : List UInt8) : Nat := match fnd l with | some p => p.2 | none => 0
def fOk (l : List UInt8) : Bool := (fnd l).isSome
theorem fOk_of {l : List UInt8} {c r : Nat} (h : Named l c r) : fOk l = true ∧ fCol l = c ∧ fRow l = r := by simp [fOk, fCol, fRow, fnd_of h]
theorem fOk_not {l : List UInt8} (h : ∀ c r, ¬ Named l c r) : fOk l = false ∧ fCol l = 0 ∧ fRow l = 0 := by simp [fOk, fCol, fRow, fnd_none h]
theorem fOk_named {l : List UInt8} (h : fOk l = true) : Named l (fCol l) (fRow l) := by
  cases hf : fnd l with
  | none => simp [fOk, hf] at h
  | some p => simpa [fCol, fRow, hf] using fnd_named hf
theorem fOk_none {l : List UInt8} (h : fOk l = false) (c r : Nat) : ¬ Named l c r := fun hn => by rw [(fOk_of hn).1] at h; cases h
theorem fnd_lt (l : List UInt8) : fCol l < 26 ∧ fRow l < 26 := by
  cases h : fOk l with
  | true => exact ⟨(fOk_named h).1, (fOk_named h).2.1⟩
  | false => have := fOk_not (fOk_none h); omega
theorem sname_2 {c r : Nat} (hc : c < 99) : sname c r = if c < 9 then [UInt8.ofNat (65 + r), UInt8.ofNat (48 + (c + 1))] else [UInt8.ofNat (65 + r), UInt8.ofNat (48 + (c + 1) / 10), UInt8.ofNat (48 + (c + 1) % 10)] := by
  rw [sname, dec_2 (by omega)]
  by_cases h : c < 9
  · rw [if_pos (show c + 1 < 10 by omega), if_pos h]
  · rw [if_neg (show ¬ c + 1 < 10 by omega), if_neg h]
theorem named_shape {l : List UInt8} {c r : Nat} (h : Named l c r) : 2 ≤ l.length ∧ l.length ≤ 3 ∧ (l.getD 1 0).toNat ≠ 48 ∧ (l.getD 0 0).toNat = 65 + r ∧ (∀ i, 1 ≤ i → i < l.length → 48 ≤ (l.getD i 0).toNat ∧ (l.getD i 0).toNat ≤ 57) ∧ numTo l (l.length - 1) = c + 1 := by
  obtain ⟨hc, hr, rfl⟩ := h
  rw [sname_2 (by omega)]
  by_cases h : c < 9
  · rw [if_pos h]
    have a := u8n (show 48 + (c + 1) < 256 by omega)
    have b := u8n (show 65 + r < 256 by omega)
    refine ⟨by simp, by simp, ?_, ?_, ?_, ?_⟩
    · simp only [List.getD_cons_succ, List.getD_cons_zero, a]; omega
    · simp only [List.getD_cons_zero, b]
    · intro i h1 h2
      simp only [List.length_cons, List.length_nil] at h2
      obtain rfl : i = 1 := by omega
      simp only [List.getD_cons_succ, List.getD_cons_zero, a]; omega
    · simp only [List.length_cons, List.length_nil, numTo, Nat.zero_add, Nat.add_sub_cancel, List.getD_cons_succ, List.getD_cons_zero, a]; omega
  · rw [if_neg h]
    have a := u8n (show 48 + (c + 1) / 10 < 256 by omega)
    have a2 := u8n (show 48 + (c + 1) % 10 < 256 by omega)
    have b := u8n (show 65 + r < 256 by omega)
    refine ⟨by simp, by simp, ?_, ?_, ?_, ?_⟩
    · simp only [List.getD_cons_succ, List.getD_cons_zero, a]; omega
    · simp only [List.getD_cons_zero, b]
    · intro i h1 h2
      simp only [List.length_cons, List.length_nil] at h2
      have : i = 1 ∨ i = 2 := by omega
      rcases this with rfl | rfl
      · simp only [List.getD_cons_succ, List.getD_cons_zero, a]; omega
      · simp only [List.getD_cons_succ, List.getD_cons_zero, a2]; omega
    · have : ([UInt8.ofNat (65 + r), UInt8.ofNat (48 + (c + 1) / 10), UInt8.ofNat (48 + (c + 1) % 10)] : List UInt8).length - 1 = 2 := rfl
      rw [this]
      simp only [numTo, Nat.zero_add, List.getD_cons_succ, List.getD_cons_zero, a, a2]; omega
theorem shape_named {l : List UInt8} {c r : Nat} (h1 : 2 ≤ l.length) (h2 : l.length ≤ 3) (h3 : (l.getD 1 0).toNat ≠ 48) (h4 : (l.getD 0 0).toNat = 65 + r) (h5 : ∀ i, 1 ≤ i → i < l.length → 48 ≤ (l.getD i 0).toNat ∧ (l.getD i 0).toNat ≤ 57) (h6 : numTo l (l.length - 1) = c + 1) (hc : c < 26) (hr : r < 26) : Named l c r := by
  refine ⟨hc, hr, ?_⟩
  rw [sname_2 (by omega)]
  match l, h1, h2 with
  | [x, y], _, _ =>
    have d := h5 1 (by omega) (by simp)
    simp only [List.length_cons, List.length_nil, numTo, Nat.zero_add, Nat.add_sub_cancel, List.getD_cons_succ, List.getD_cons_zero] at h3 h4 h6 d
    rw [if_pos (by omega), u8_ofNat (by omega) h4, u8_ofNat (n := 48 + (c + 1)) (by omega) (show y.toNat = 48 + (c + 1) by omega)]
  | [x, y, z], _, _ =>
    have d := h5 1 (by omega) (by simp)
    have d2 := h5 2 (by omega) (by simp)
    have e : ([x, y, z] : List UInt8).length - 1 = 2 := rfl
    rw [e] at h6
    simp only [numTo, Nat.zero_add, List.getD_cons_succ, List.getD_cons_zero] at h3 h4 h6 d d2
    rw [if_neg (by omega), u8_ofNat (by omega) h4, u8_ofNat (n := 48 + (c + 1) / 10) (by omega) (show y.toNat = 48 + (c + 1) / 10 by omega), u8_ofNat (n := 48 + (c + 1) % 10) (by omega) (show z.toNat = 48 + (c + 1) % 10 by omega)]
/-- l is the full name of the place x, y. -/
def PNamed (l : List UInt8) (x y : Nat) : Prop := x < 104 ∧ y < 104 ∧ l = fname x y
theorem fname_parts (x y : Nat) : (fname x y).length = (sname (x / 4) (y / 4)).length + 2 ∧ (fname x y).take ((fname x y).length - 2) = sname (x / 4) (y / 4) ∧ (fname x y).getD ((fname x y).length - 2) 0 = ltr (x / 2 % 2) (y / 2 % 2) ∧ (fname x y).getD ((fname x y).length - 1) 0 = ltr (x % 2) (y % 2) := by
  have h1 : (fname x y).length = (sname (x / 4) (y / 4)).length + 2 := by simp [fname]
  refine ⟨h1, ?_, ?_, ?_⟩
  · rw [h1, Nat.add_sub_cancel, fname, List.append_assoc, List.take_left']; rfl
  · rw [h1, Nat.add_sub_cancel, fname, List.append_assoc, List.getD_eq_getElem?_getD, List.getElem?_append_right (Nat.le_refl _)]
    simp
  · rw [h1, show (sname (x / 4) (y / 4)).length + 2 - 1 = (sname (x / 4) (y / 4)).length + 1 from rfl, fname, List.append_assoc, List.getD_eq_getElem?_getD, List.getElem?_append_right (by omega)]
    simp
theorem ltr_nat {e s : Nat} (he : e < 2) (hs : s < 2) : (ltr e s).toNat = 97 + e + 2 * s := u8n (by omega)
theorem last2 {l : List UInt8} (h : 2 ≤ l.length) : l = l.take (l.length - 2) ++ [l.getD (l.length - 2) 0] ++ [l.getD (l.length - 1) 0] := by
  have e1 : l.getD (l.length - 2) 0 = l[l.length - 2]'(by omega) := by rw [List.getD_eq_getElem?_getD, List.getElem?_eq_getElem (by omega), Option.getD_some]
  have e2 : l.getD (l.length - 1) 0 = l[l.length - 1]'(by omega) := by rw [List.getD_eq_getElem?_getD, List.getElem?_eq_getElem (by omega), Option.getD_some]
  rw [e1, e2, ← List.take_succ_eq_append_getElem (by omega)]
  have : l.length - 2 + 1 = l.length - 1 := by omega
  rw [this, ← List.take_succ_eq_append_getElem (by omega), List.take_of_length_le (by omega)]
/-- The place with a full name. -/
def pf (l : List UInt8) : Option (Nat × Nat) :=
  let a := (l.getD (l.length - 2) 0).toNat - 97
  let b := (l.getD (l.length - 1) 0).toNat - 97
  if 2 ≤ l.length ∧ fOk (l.take (l.length - 2)) = true ∧ (97 ≤ (l.getD (l.length - 2) 0).toNat ∧ (l.getD (l.length - 2) 0).toNat ≤ 100) ∧ (97 ≤ (l.getD (l.length - 1) 0).toNat ∧ (l.getD (l.length - 1) 0).toNat ≤ 100) then
    some (4 * fCol (l.take (l.length - 2)) + 2 * (a % 2) + b % 2, 4 * fRow (l.take (l.length - 2)) + 2 * (a / 2) + b / 2)
  else none
theorem PNamed.take {l : List UInt8} {x y : Nat} (h : PNamed l x y) : Named (l.take (l.length - 2)) (x / 4) (y / 4) := by
  obtain ⟨h1, h2, rfl⟩ := h
  exact ⟨by omega, by omega, (fname_parts x y).2.1⟩
theorem PNamed.len {l : List UInt8} {x y : Nat} (h : PNamed l x y) : 4 ≤ l.length := by
  have := (named_shape h.take).1
  simp only [List.length_take] at this
  omega
theorem pf_of {l : List UInt8} {x y : Nat} (h : PNamed l x y) : pf l = some (x, y) := by
  have hl := h.len
  obtain ⟨k1, k2, k3⟩ := fOk_of h.take
  obtain ⟨h1, h2, e⟩ := h
  obtain ⟨-, p2, p3, p4⟩ := fname_parts x y
  rw [← e] at p2 p3 p4
  have a := ltr_nat (show x / 2 % 2 < 2 by omega) (show y / 2 % 2 < 2 by omega)
  have b := ltr_nat (show x % 2 < 2 by omega) (show y % 2 < 2 by omega)
  rw [← p3] at a
  rw [← p4] at b
  unfold pf
  simp only
  rw [if_pos ⟨by omega, k1, by omega, by omega⟩, a, b, k2, k3]
  simp only [Option.some.injEq, Prod.mk.injEq]
  omega
theorem pf_named {l : List UInt8} {p : Nat × Nat} (h : pf l = some p) : PNamed l p.1 p.2 := by
  unfold pf at h
  simp only at h
  split at h
  · rename_i hh
    obtain ⟨h1, h2, h3, h4⟩ := hh
    obtain rfl := Option.some.inj h
    obtain ⟨n1, n2, n3⟩ := fOk_named h2
    have e := last2 h1
    generalize hA : l.getD (l.length - 2) 0 = A at *
    generalize hB : l.getD (l.length - 1) 0 = B at *
    generalize l.take (l.length - 2) = t at *
    generalize fCol t = c at *
    generalize fRow t = r at *
    refine ⟨by simp only; omega, by simp only; omega, ?_⟩
    rw [e, n3, fname]
    simp only
    have q1 : (4 * c + 2 * ((A.toNat - 97) % 2) + (B.toNat - 97) % 2) / 4 = c := by omega
    have q2 : (4 * r + 2 * ((A.toNat - 97) / 2) + (B.toNat - 97) / 2) / 4 = r := by omega
    rw [q1, q2]
    have hA' : A = ltr ((4 * c + 2 * ((A.toNat - 97) % 2) + (B.toNat - 97) % 2) / 2 % 2) ((4 * r + 2 * ((A.toNat - 97) / 2) + (B.toNat - 97) / 2) / 2 % 2) := u8_eq (by rw [ltr_nat (by omega) (by omega)]; omega)
    have hB' : B = ltr ((4 * c + 2 * ((A.toNat - 97) % 2) + (B.toNat - 97) % 2) % 2) ((4 * r + 2 * ((A.toNat - 97) / 2) + (B.toNat - 97) / 2) % 2) := u8_eq (by rw [ltr_nat (by omega) (by omega)]; omega)
    rw [← hA', ← hB']
  · cases h
theorem PNamed.inj {l : List UInt8} {x y x' y' : Nat} (h : PNamed l x y) (h' : PNamed l x' y') : x = x' ∧ y = y' := by
  have := (pf_of h).symm.trans (pf_of h')
  simpa using this
theorem pf_none {l : List UInt8} (h : pf l = none) (x y : Nat) : ¬ PNamed l x y := fun hn => by rw [pf_of hn] at h; cases h
theorem pf_not {l : List UInt8} (h : ∀ x y, ¬ PNamed l x y) : pf l = none := by
  cases hf : pf l with
  | none => rfl
  | some p => exact (h _ _ (pf_named hf)).elim
def pX (l : List UInt8) : Nat := match pf l with | some p => p.1 | none => 0
def pY (l : List UInt8) : Nat := match pf l with | some p => p.2 | none => 0
def pOk (l : List UInt8) : Bool := (pf l).isSome
theorem pOk_of {l : List UInt8} {x y : Nat} (h : PNamed l x y) : pOk l = true ∧ pX l = x ∧ pY l = y := by simp [pOk, pX, pY, pf_of h]
theorem pOk_not {l : List UInt8} (h : ∀ x y, ¬ PNamed l x y) : pOk l = false ∧ pX l = 0 ∧ pY l = 0 := by simp [pOk, pX, pY, pf_not h]
theorem pOk_named {l : List UInt8} (h : pOk l = true) : PNamed l (pX l) (pY l) := by
  cases hf : pf l with
  | none => simp [pOk, hf] at h
  | some p => simpa [pX, pY, hf] using pf_named hf
theorem pOk_none {l : List UInt8} (h : pOk l = false) (x y : Nat) : ¬ PNamed l x y := fun hn => by rw [(pOk_of hn).1] at h; cases h
/-- The sheet beside. -/
def bsOk (l : List UInt8) (dx dy : Int) : Bool := fOk l && decide (0 ≤ (fCol l : Int) + dx ∧ (fCol l : Int) + dx < 26 ∧ 0 ≤ (fRow l : Int) + dy ∧ (fRow l : Int) + dy < 26)
def bsName (l : List UInt8) (dx dy : Int) : List UInt8 := if bsOk l dx dy then sname ((fCol l : Int) + dx).toNat ((fRow l : Int) + dy).toNat else []
theorem bsOk_iff {l : List UInt8} {dx dy : Int} : bsOk l dx dy = true ↔ (fOk l = true ∧ 0 ≤ (fCol l : Int) + dx ∧ (fCol l : Int) + dx < 26 ∧ 0 ≤ (fRow l : Int) + dy ∧ (fRow l : Int) + dy < 26) := by simp [bsOk]
theorem bs_named {l : List UInt8} {dx dy : Int} (h : bsOk l dx dy = true) : Named (bsName l dx dy) ((fCol l : Int) + dx).toNat ((fRow l : Int) + dy).toNat := by
  have := bsOk_iff.1 h
  exact ⟨by omega, by omega, by rw [bsName, if_pos h]⟩
/-- Steps between two places. -/
def far (ax ay bx by' : Int) : Int := if plc ax ay && plc bx by' then ((ax - bx).natAbs : Int) + ((ay - by').natAbs : Int) else -1
/-! ## sheets of a rectangle -/
def lo4 (a b : Int) : Nat := (min a b).toNat / 4
def hi4 (a b : Int) : Nat := (max a b).toNat / 4
def wid (a b : Int) : Nat := hi4 a b + 1 - lo4 a b
theorem lo4_le (a b : Int) : lo4 a b ≤ hi4 a b := by
  unfold lo4 hi4; omega
theorem wid_pos (a b : Int) : 1 ≤ wid a b := by have := lo4_le a b; unfold wid; omega
theorem wid_lo (a b : Int) : lo4 a b + wid a b = hi4 a b + 1 := by have := lo4_le a b; unfold wid; omega
theorem hi4_lt {a b : Int} (ha : a < 104) (hb : b < 104) : hi4 a b < 26 := by unfold hi4; omega
theorem lo4_symm (a b : Int) : lo4 a b = lo4 b a := by unfold lo4; rw [Int.min_comm]
theorem hi4_symm (a b : Int) : hi4 a b = hi4 b a := by unfold hi4; rw [Int.max_comm]
theorem wid_symm (a b : Int) : wid a b = wid b a := by unfold wid; rw [lo4_symm, hi4_symm]
/-- Name number i of a rectangle with first column c0, first row r0 and W columns. -/
def nam (c0 r0 W i : Nat) : List UInt8 := sname (c0 + i % W) (r0 + i / W)
def nams (c0 r0 W n : Nat) : List (List UInt8) := (List.range n).map (nam c0 r0 W)
theorem nams_len (c0 r0 W n : Nat) : (nams c0 r0 W n).length = n := by simp [nams]
theorem nams_get {c0 r0 W n i : Nat} (h : i < n) : (nams c0 r0 W n).getD i [] = nam c0 r0 W i := by simp [nams, h]
theorem nams_succ (c0 r0 W n : Nat) : nams c0 r0 W (n + 1) = nams c0 r0 W n ++ [nam c0 r0 W n] := by simp [nams, List.range_succ]
theorem nam_rc {c0 r0 W r c : Nat} (hc : c < W) : nam c0 r0 W (r * W + c) = sname (c0 + c) (r0 + r) := by
  have h1 : (r * W + c) % W = c := by rw [Nat.mul_comm, Nat.mul_add_mod]; exact Nat.mod_eq_of_lt hc
  have h2 : (r * W + c) / W = r := by rw [Nat.mul_comm, Nat.mul_add_div (by omega), Nat.div_eq_of_lt hc, Nat.add_zero]
  rw [nam, h1, h2]
def btOk (ax ay bx by' : Int) : Bool := plc ax ay && plc bx by' && decide (wid ay by' * wid ax bx ≤ 20)
def btList (ax ay bx by' : Int) : List (List UInt8) := if btOk ax ay bx by' then nams (lo4 ax bx) (lo4 ay by') (wid ax bx) (wid ay by' * wid ax bx) else []
theorem bt_symm (ax ay bx by' : Int) : btOk bx by' ax ay = btOk ax ay bx by' := by
  unfold btOk; rw [wid_symm by' ay, wid_symm bx ax, Bool.and_comm (plc bx by')]
theorem btList_symm (ax ay bx by' : Int) : btList bx by' ax ay = btList ax ay bx by' := by
  unfold btList; rw [bt_symm, wid_symm by' ay, wid_symm bx ax, lo4_symm bx ax, lo4_symm by' ay]
structure Bt (ax ay bx by' : Int) (c0 r0 W H : Nat) : Prop where
  ok : btOk ax ay bx by' = true
  pa : plc ax ay = true
  pb : plc bx by' = true
  w : 1 ≤ W
  h : 1 ≤ H
  c : c0 + W ≤ 26
  r : r0 + H ≤ 26
  n : H * W ≤ 20
  list : btList ax ay bx by' = nams c0 r0 W (H * W)
  sax : ∃ i, i < W ∧ ax.toNat / 4 = c0 + i
  say : ∃ i, i < H ∧ ay.toNat / 4 = r0 + i
  sbx : ∃ i, i < W ∧ bx.toNat / 4 = c0 + i
  sby : ∃ i, i < H ∧ by'.toNat / 4 = r0 + i
theorem bt_of {ax ay bx by' : Int} (h : btOk ax ay bx by' = true) : Bt ax ay bx by' (lo4 ax bx) (lo4 ay by') (wid ax bx) (wid ay by') := by
  have h' := h
  simp only [btOk, Bool.and_eq_true, decide_eq_true_eq] at h'
  obtain ⟨⟨h1, h2⟩, h3⟩ := h'
  have p1 := plc_iff.1 h1
  have p2 := plc_iff.1 h2
  have a1 := wid_lo ax bx
  have a2 := wid_lo ay by'
  have b1 := hi4_lt (show ax < 104 by omega) (show bx < 104 by omega)
  have b2 := hi4_lt (show ay < 104 by omega) (show by' < 104 by omega)
  have key : ∀ a b : Int, 0 ≤ a → 0 ≤ b → (∃ i, i < wid a b ∧ a.toNat / 4 = lo4 a b + i) ∧ (∃ i, i < wid a b ∧ b.toNat / 4 = lo4 a b + i) := fun a b h0 h1 => by
    have := wid_lo a b
    unfold lo4 hi4 at *
    exact ⟨⟨a.toNat / 4 - (min a b).toNat / 4, by omega, by omega⟩, ⟨b.toNat / 4 - (min a b).toNat / 4, by omega, by omega⟩⟩
  exact ⟨h, h1, h2, wid_pos _ _, wid_pos _ _, by omega, by omega, h3, by rw [btList, if_pos h], (key ax bx (by omega) (by omega)).1, (key ay by' (by omega) (by omega)).1, (key ax bx (by omega) (by omega)).2, (key ay by' (by omega) (by omega)).2⟩
theorem nam_inj {c0 r0 W H i j : Nat} (hW : 1 ≤ W) (hc : c0 + W ≤ 26) (hr : r0 + H ≤ 26) (hi : i < H * W) (hj : j < H * W) (h : nam c0 r0 W i = nam c0 r0 W j) : i = j := by
  have m1 := Nat.mod_lt i (show 0 < W by omega)
  have m2 := Nat.mod_lt j (show 0 < W by omega)
  have d1 : i / W < H := Nat.div_lt_of_lt_mul (by rwa [Nat.mul_comm])
  have d2 : j / W < H := Nat.div_lt_of_lt_mul (by rwa [Nat.mul_comm])
  obtain ⟨e1, e2⟩ := sname_inj (by omega) (by omega) (by omega) (by omega) h
  rw [← Nat.div_add_mod i W, ← Nat.div_add_mod j W, show i / W = j / W by omega, show i % W = j % W by omega]
theorem nam_named {c0 r0 W H i : Nat} (hW : 1 ≤ W) (hc : c0 + W ≤ 26) (hr : r0 + H ≤ 26) (hi : i < H * W) : Named (nam c0 r0 W i) (c0 + i % W) (r0 + i / W) := by
  have m1 := Nat.mod_lt i (show 0 < W by omega)
  have d1 : i / W < H := Nat.div_lt_of_lt_mul (by rwa [Nat.mul_comm])
  exact ⟨by omega, by omega, rfl⟩
/-- The next name in the same row. -/
theorem nam_next {c0 r0 W H i : Nat} (hW : 1 ≤ W) (hc : c0 + W ≤ 26) (hr : r0 + H ≤ 26) (hi : i + 1 < H * W) (h : (nam c0 r0 W (i + 1)).take 1 = (nam c0 r0 W i).take 1) :
    bsOk (nam c0 r0 W i) 1 0 = true ∧ bsName (nam c0 r0 W i) 1 0 = nam c0 r0 W (i + 1) := by
  have m1 := Nat.mod_lt i (show 0 < W by omega)
  have m2 := Nat.mod_lt (i + 1) (show 0 < W by omega)
  have d1 : i / W < H := Nat.div_lt_of_lt_mul (by rw [Nat.mul_comm]; omega)
  have d2 : (i + 1) / W < H := Nat.div_lt_of_lt_mul (by rwa [Nat.mul_comm])
  simp only [nam, sname, List.take_succ_cons, List.take_zero, List.cons.injEq, and_true] at h
  have e := u8i (by omega) (by omega) h
  have e' : (i + 1) / W = i / W := by omega
  have q1 := Nat.div_add_mod i W
  have q2 := Nat.div_add_mod (i + 1) W
  rw [e'] at q2
  have e2 : (i + 1) % W = i % W + 1 := by omega
  obtain ⟨k1, k2, k3⟩ := fOk_of (nam_named hW hc hr (show i < H * W by omega))
  have ok : bsOk (nam c0 r0 W i) 1 0 = true := bsOk_iff.2 ⟨k1, by omega, by omega, by omega, by omega⟩
  refine ⟨ok, ?_⟩
  rw [bsName, if_pos ok, k2, k3, nam, e', e2]
  congr 1 <;> omega
theorem nam_has {c0 r0 W H c r : Nat} (hc : ∃ i, i < W ∧ c = c0 + i) (hr : ∃ i, i < H ∧ r = r0 + i) : ∃ i, i < H * W ∧ nam c0 r0 W i = sname c r := by
  obtain ⟨j, hj, rfl⟩ := hc
  obtain ⟨i, hi, rfl⟩ := hr
  refine ⟨i * W + j, ?_, nam_rc hj⟩
  have : (i + 1) * W ≤ H * W := Nat.mul_le_mul_right _ hi
  rw [Nat.succ_mul] at this
  omega
end Go.SW
