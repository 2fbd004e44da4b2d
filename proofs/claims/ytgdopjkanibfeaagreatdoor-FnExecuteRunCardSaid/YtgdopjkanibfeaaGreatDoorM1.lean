/- Water on a grid: neighbors, the next cell, runs and their ends. Plain law: no program occurs here. -/
import Derived.Test.YtgdopjkanibfeaaGreatDoorJ2
set_option linter.all false
set_option maxRecDepth 20000
namespace Go.SW

def ni (l : List Nat) : List Int := l.map fun n : Nat => (n : Int)
theorem ni_len (l : List Nat) : (ni l).length = l.length := by simp [ni]
theorem ni_get (l : List Nat) {i : Nat} (h : i < l.length) : (ni l).getD i 0 = ((l.getD i 0 : Nat) : Int) := by simp [ni, h]
theorem vi_ni_snoc (l : List Nat) (x : Nat) (y : Int) (h : y = (x : Int)) : vi (ni l) ++ [.int .i64 y] = vi (ni (l ++ [x])) := by subst h; simp [vi, ni]

/-- The neighbors of a cell: north, east, south, west. -/
def nearN (R C i : Nat) : List Nat :=
  ((([] ++ if C ≤ i then [i - C] else []) ++ if i % C + 1 < C then [i + 1] else []) ++ if i + C < R * C then [i + C] else []) ++ if 0 < i % C then [i - 1] else []

theorem nearN_mem {R C i j : Nat} : j ∈ nearN R C i ↔ (C ≤ i ∧ j = i - C) ∨ (i % C + 1 < C ∧ j = i + 1) ∨ (i + C < R * C ∧ j = i + C) ∨ (0 < i % C ∧ j = i - 1) := by
  unfold nearN
  by_cases h1 : C ≤ i <;> by_cases h2 : i % C + 1 < C <;> by_cases h3 : i + C < R * C <;> by_cases h4 : 0 < i % C <;> simp [h1, h2, h3, h4, or_assoc]

theorem nearN_len (R C i : Nat) : (nearN R C i).length ≤ 4 := by
  unfold nearN
  by_cases h1 : C ≤ i <;> by_cases h2 : i % C + 1 < C <;> by_cases h3 : i + C < R * C <;> by_cases h4 : 0 < i % C <;> simp [h1, h2, h3, h4]

theorem east_lt {R C i : Nat} (hi : i < R * C) (h : i % C + 1 < C) : i + 1 < R * C := by
  have hC : 0 < C := by omega
  have hq : i / C < R := Nat.div_lt_of_lt_mul (by rw [Nat.mul_comm]; exact hi)
  have h1 := Nat.div_add_mod i C
  have h2 := Nat.mul_le_mul_left C (show i / C + 1 ≤ R by omega)
  rw [Nat.mul_add, Nat.mul_one] at h2
  rw [Nat.mul_comm R C]; omega

theorem nearN_lt {R C i : Nat} (hi : i < R * C) : ∀ j ∈ nearN R C i, j < R * C := by
  intro j hj
  rcases nearN_mem.1 hj with ⟨_, rfl⟩ | ⟨h, rfl⟩ | ⟨h, rfl⟩ | ⟨h, rfl⟩
  · omega
  · exact east_lt hi h
  · exact h
  · omega

/-- A grid's size and heights. -/
structure Gd (R C : Nat) (h : Nat → Int) : Prop where
  r1 : 1 ≤ R
  r7 : R ≤ 7
  c1 : 1 ≤ C
  c7 : C ≤ 7
  hh : ∀ i, i < R * C → 0 ≤ h i ∧ h i ≤ 99
theorem Gd.le {R C : Nat} {h : Nat → Int} (g : Gd R C h) : R * C ≤ 49 := Nat.mul_le_mul g.r7 g.c7
theorem Gd.pos {R C : Nat} {h : Nat → Int} (g : Gd R C h) : 0 < R * C := Nat.mul_pos g.r1 g.c1
theorem Valid.gd {rows : List (List Int)} (v : Valid rows) : Gd rows.length (rowLen rows) (Go.SW.hgt rows) :=
  ⟨v.r1, v.r7, v.c1, v.c7, fun i hi => by
    have hC : 0 < rowLen rows := v.c1
    have hq : i / rowLen rows < rows.length := Nat.div_lt_of_lt_mul (by rw [Nat.mul_comm]; exact hi)
    exact v.cell _ _ hq (Nat.mod_lt _ hC)⟩

/-- The lowest of a list and of b, the first such one. -/
def lowL (h : Nat → Int) (l : List Nat) (b : Nat) : Nat := l.foldl (fun b j => if h j < h b then j else b) b
theorem lowL_take (h : Nat → Int) (l : List Nat) (b : Nat) {k : Nat} (hk : k < l.length) :
    lowL h (l.take (k + 1)) b = if h (l.getD k 0) < h (lowL h (l.take k) b) then l.getD k 0 else lowL h (l.take k) b := by
  rw [List.take_succ_eq_append_getElem hk]
  simp only [lowL, List.foldl_append, List.foldl_cons, List.foldl_nil]
  rw [getD_at l 0 hk]
  rfl
theorem lowL_mem (h : Nat → Int) : ∀ (l : List Nat) (b : Nat), lowL h l b = b ∨ lowL h l b ∈ l
  | [], b => .inl rfl
  | j :: l, b => by
    simp only [lowL, List.foldl_cons]
    by_cases e : h j < h b
    · rw [if_pos e]
      rcases lowL_mem h l j with h1 | h1
      · right; simp only [lowL] at h1; rw [h1]; exact List.mem_cons_self ..
      · right; exact List.mem_cons_of_mem _ h1
    · rw [if_neg e]
      rcases lowL_mem h l b with h1 | h1
      · left; exact h1
      · right; exact List.mem_cons_of_mem _ h1
theorem lowL_le (h : Nat → Int) : ∀ (l : List Nat) (b : Nat), h (lowL h l b) ≤ h b ∧ ∀ j ∈ l, h (lowL h l b) ≤ h j
  | [], b => ⟨Int.le_refl _, fun _ hj => by simp at hj⟩
  | j :: l, b => by
    simp only [lowL, List.foldl_cons]
    by_cases e : h j < h b
    · rw [if_pos e]
      have := lowL_le h l j
      simp only [lowL] at this
      refine ⟨by omega, fun x hx => ?_⟩
      rcases List.mem_cons.1 hx with rfl | hx
      · exact this.1
      · exact this.2 x hx
    · rw [if_neg e]
      have := lowL_le h l b
      simp only [lowL] at this
      refine ⟨this.1, fun x hx => ?_⟩
      rcases List.mem_cons.1 hx with rfl | hx
      · omega
      · exact this.2 x hx
theorem lowL_ne (h : Nat → Int) : ∀ (l : List Nat) (b : Nat), lowL h l b = b ∨ h (lowL h l b) < h b
  | [], b => .inl rfl
  | j :: l, b => by
    simp only [lowL, List.foldl_cons]
    by_cases e : h j < h b
    · rw [if_pos e]
      have := (lowL_le h l j).1
      simp only [lowL] at this
      right; omega
    · rw [if_neg e]; exact lowL_ne h l b

theorem lowL_lt {h : Nat → Int} {l : List Nat} {b n : Nat} (hl : ∀ j ∈ l, j < n) (hb : b < n) : lowL h l b < n := by
  rcases lowL_mem h l b with e | e
  · rw [e]; exact hb
  · exact hl _ e
/-- The cell to which water flows. -/
def nextN (R C : Nat) (h : Nat → Int) (i : Nat) : Nat := lowL h (nearN R C i) i

section
variable {R C : Nat} {h : Nat → Int}
theorem nextN_mem (i : Nat) : nextN R C h i = i ∨ nextN R C h i ∈ nearN R C i := lowL_mem h _ _
theorem nextN_lt {i : Nat} (hi : i < R * C) : nextN R C h i < R * C := by
  rcases nextN_mem (R := R) (C := C) (h := h) i with e | e
  · rw [e]; exact hi
  · exact nearN_lt hi _ e
theorem nextN_ne (i : Nat) : nextN R C h i = i ∨ h (nextN R C h i) < h i := lowL_ne h _ _
theorem nextN_le {i j : Nat} (hj : j ∈ nearN R C i) : h (nextN R C h i) ≤ h j := (lowL_le h _ _).2 j hj

/-- The run of a cell, with at most k steps. -/
def runF (R C : Nat) (h : Nat → Int) : Nat → Nat → List Nat
  | 0, i => [i]
  | k + 1, i => if nextN R C h i = i then [i] else i :: runF R C h k (nextN R C h i)
def waterN (R C : Nat) (h : Nat → Int) (i : Nat) : List Nat := runF R C h (h i).toNat i

theorem runF_any (g : Gd R C h) : ∀ (k m i : Nat), i < R * C → (h i).toNat ≤ k → (h i).toNat ≤ m → runF R C h k i = runF R C h m i
  | 0, m, i, hi, h1, h2 => by
    have hn := g.hh _ (nextN_lt (h := h) hi)
    have hs : nextN R C h i = i := by
      rcases nextN_ne (R := R) (C := C) (h := h) i with e | e
      · exact e
      · omega
    cases m with
    | zero => rfl
    | succ m => simp only [runF]; rw [if_pos hs]
  | k + 1, m, i, hi, h1, h2 => by
    have hn := g.hh _ (nextN_lt (h := h) hi)
    by_cases hs : nextN R C h i = i
    · cases m with
      | zero => simp only [runF]; rw [if_pos hs]
      | succ m => simp only [runF]; rw [if_pos hs, if_pos hs]
    · have hlt : h (nextN R C h i) < h i := (nextN_ne i).resolve_left hs
      cases m with
      | zero => omega
      | succ m =>
        simp only [runF]
        rw [if_neg hs, if_neg hs, runF_any g k m _ (nextN_lt hi) (by omega) (by omega)]

theorem waterN_eq (g : Gd R C h) {i : Nat} (hi : i < R * C) : waterN R C h i = if nextN R C h i = i then [i] else i :: waterN R C h (nextN R C h i) := by
  have := runF_any g (h i).toNat ((h i).toNat + 1) i hi (Nat.le_refl _) (Nat.le_succ _)
  unfold waterN
  rw [this]
  simp only [runF]
  by_cases hs : nextN R C h i = i
  · rw [if_pos hs, if_pos hs]
  · have hlt : h (nextN R C h i) < h i := (nextN_ne i).resolve_left hs
    have hn := g.hh _ (nextN_lt (h := h) hi)
    rw [if_neg hs, if_neg hs, runF_any g _ _ _ (nextN_lt hi) (by omega) (Nat.le_refl _)]
theorem waterN_sink (g : Gd R C h) {i : Nat} (hi : i < R * C) (hs : nextN R C h i = i) : waterN R C h i = [i] := by rw [waterN_eq g hi, if_pos hs]
theorem waterN_step (g : Gd R C h) {i : Nat} (hi : i < R * C) (hs : nextN R C h i ≠ i) : waterN R C h i = i :: waterN R C h (nextN R C h i) := by rw [waterN_eq g hi, if_neg hs]

/-- Induction along the water. -/
theorem flow_ind {p : Nat → Prop} (g : Gd R C h) (h1 : ∀ i, i < R * C → nextN R C h i = i → p i) (h2 : ∀ i, i < R * C → nextN R C h i ≠ i → p (nextN R C h i) → p i) : ∀ i, i < R * C → p i := by
  have key : ∀ (k i : Nat), i < R * C → (h i).toNat ≤ k → p i := by
    intro k
    induction k with
    | zero =>
      intro i hi hk
      refine h1 i hi ?_
      have hn := g.hh _ (nextN_lt (h := h) hi)
      rcases nextN_ne (R := R) (C := C) (h := h) i with e | e
      · exact e
      · omega
    | succ k ih =>
      intro i hi hk
      by_cases hs : nextN R C h i = i
      · exact h1 i hi hs
      · have hlt : h (nextN R C h i) < h i := (nextN_ne i).resolve_left hs
        have hn := g.hh _ (nextN_lt (h := h) hi)
        exact h2 i hi hs (ih _ (nextN_lt hi) (by omega))
  exact fun i hi => key _ i hi (Nat.le_refl _)

theorem waterN_lt (g : Gd R C h) : ∀ i, i < R * C → ∀ j ∈ waterN R C h i, j < R * C := by
  refine flow_ind g (fun i hi hs j hj => ?_) fun i hi hs ih j hj => ?_
  · rw [waterN_sink g hi hs] at hj; simp at hj; omega
  · rw [waterN_step g hi hs] at hj
    rcases List.mem_cons.1 hj with rfl | hj
    · exact hi
    · exact ih j hj
theorem waterN_len (g : Gd R C h) : ∀ i, i < R * C → ((waterN R C h i).length : Int) ≤ h i + 1 := by
  refine flow_ind g (fun i hi hs => ?_) fun i hi hs ih => ?_
  · rw [waterN_sink g hi hs]; have := g.hh i hi; simp; omega
  · rw [waterN_step g hi hs]
    have hlt : h (nextN R C h i) < h i := (nextN_ne i).resolve_left hs
    simp only [List.length_cons]; omega
theorem waterN_ne (g : Gd R C h) {i : Nat} (hi : i < R * C) : waterN R C h i ≠ [] := by
  rw [waterN_eq g hi]; split <;> simp

/-- The sink at which the run of a cell ends. -/
def endN (R C : Nat) (h : Nat → Int) (i : Nat) : Nat := (waterN R C h i).getLastD i
theorem endN_sink (g : Gd R C h) {i : Nat} (hi : i < R * C) (hs : nextN R C h i = i) : endN R C h i = i := by simp [endN, waterN_sink g hi hs]
theorem endN_step (g : Gd R C h) {i : Nat} (hi : i < R * C) : endN R C h i = endN R C h (nextN R C h i) := by
  by_cases hs : nextN R C h i = i
  · rw [hs]
  · simp only [endN]
    rw [waterN_step g hi hs, List.getLastD_cons]
    have := waterN_ne g (nextN_lt (h := h) hi)
    cases e : waterN R C h (nextN R C h i) with
    | nil => exact absurd e this
    | cons a l => simp [List.getLast?_cons]
theorem endN_lt (g : Gd R C h) : ∀ i, i < R * C → endN R C h i < R * C ∧ nextN R C h (endN R C h i) = endN R C h i := by
  refine flow_ind g (fun i hi hs => ?_) fun i hi hs ih => ?_
  · rw [endN_sink g hi hs]; exact ⟨hi, hs⟩
  · rw [endN_step g hi]; exact ih
end
end Go.SW
