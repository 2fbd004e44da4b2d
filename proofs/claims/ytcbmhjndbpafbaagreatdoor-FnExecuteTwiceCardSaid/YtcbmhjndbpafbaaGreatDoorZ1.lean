import Derived.Test.YtcbmhjndbpafbaaGreatDoorK6
set_option linter.all false
set_option maxRecDepth 20000
namespace Go.SW
open Go
structure Lb where
 x : Int
 y : Int
 w : Int
 v : Int
deriving DecidableEq
def Lb.pt (s : Lb) : Int := 10 * s.y + s.x
def Lb.Ok (s : Lb) : Prop := 0 ≤ s.x ∧ s.x ≤ 9 ∧ 0 ≤ s.y ∧ s.y ≤ 9 ∧ 1 ≤ s.w ∧ s.w ≤ 5 ∧ 1 ≤ s.v ∧ s.v ≤ 9
instance (s : Lb) : Decidable s.Ok := inferInstanceAs (Decidable (_ ∧ _))
def lb0 : Lb := ⟨0, 0, 0, 0⟩
def LokTo (L : List Lb) (i : Nat) : Prop := ∀ k, k < i → (L.getD k lb0).Ok ∧ ∀ j, j < k → (L.getD j lb0).pt ≠ (L.getD k lb0).pt
instance (L : List Lb) (i : Nat) : Decidable (LokTo L i) := inferInstanceAs (Decidable (∀ k, k < i → _))
def LVal (L : List Lb) : Prop := L.length ≤ 6 ∧ LokTo L L.length
instance (L : List Lb) : Decidable (LVal L) := inferInstanceAs (Decidable (_ ∧ _))
def lvalid (L : List Lb) : Bool := decide (LVal L)
theorem lvalid_iff {L : List Lb} : lvalid L = true ↔ LVal L := by simp [lvalid]
theorem LokTo.mono {L : List Lb} {i k : Nat} (h : LokTo L i) (hk : k ≤ i) : LokTo L k := fun j hj => h j om
theorem LokTo.snoc {L : List Lb} {i : Nat} (h : LokTo L i) (h1 : (L.getD i lb0).Ok) (h2 : ∀ j, j < i → (L.getD j lb0).pt ≠ (L.getD i lb0).pt) : LokTo L (i + 1) := fun k hk => by
 by_cases e : k = i
 ·subst e; exact ⟨h1, h2⟩
 ·exact h k om
theorem LVal.ok {L : List Lb} (h : LVal L) {k : Nat} (hk : k < L.length) : (L.getD k lb0).Ok := (h.2 k hk).1
theorem pt_inj {s t : Lb} (hs : 0 ≤ s.x ∧ s.x ≤ 9) (ht : 0 ≤ t.x ∧ t.x ≤ 9) : s.pt = t.pt ↔ s.x = t.x ∧ s.y = t.y := by
 simp only [Lb.pt]; omega
theorem Lb.Ok.pt {s : Lb} (h : s.Ok) : 0 ≤ s.pt ∧ s.pt < 100 := by
 obtain ⟨h1, h2, h3, h4, _⟩ := h
 simp only [Lb.pt]; omega
def Lb.px (s : Lb) (d : Nat) : Int := if d = 0 then s.x + 1 else if d = 1 then s.x - s.w else s.x
def Lb.py (s : Lb) (d : Nat) : Int := if d = 2 then s.y - 1 else if d = 3 then s.y + 1 else s.y
def Lb.on (s : Lb) (d : Nat) : Bool := decide (0 ≤ s.px d ∧ s.px d + s.w ≤ 10 ∧ 0 ≤ s.py d ∧ s.py d ≤ 9)
def Lb.fst (s : Lb) (d : Nat) : Nat := (10 * s.py d + s.px d).toNat
def Lb.n (s : Lb) : Nat := s.w.toNat
theorem Lb.on_iff {s : Lb} {d : Nat} : s.on d = true ↔ 0 ≤ s.px d ∧ s.px d + s.w ≤ 10 ∧ 0 ≤ s.py d ∧ s.py d ≤ 9 := by simp [Lb.on]
theorem Lb.fst_eq {s : Lb} {d : Nat} (h : s.on d = true) (hw : 1 ≤ s.w) : (s.fst d : Int) = 10 * s.py d + s.px d := by
 have := Lb.on_iff.1 h
 simp only [Lb.fst]; omega
theorem Lb.fst_lt {s : Lb} {d : Nat} (h : s.on d = true) (hw : 1 ≤ s.w) : s.fst d + s.n ≤ 100 := by
 have h1 := Lb.on_iff.1 h
 have h2 := Lb.fst_eq h hw
 simp only [Lb.n]; omega
def FreeTo (B : Nat → Nat) (p m : Nat) : Prop := ∀ k, k < m → B (p + k) = 0
instance (B : Nat → Nat) (p m : Nat) : Decidable (FreeTo B p m) := inferInstanceAs (Decidable (∀ k, k < m → _))
def putTo (B : Nat → Nat) (p m c : Nat) : Nat → Nat := fun i => if p ≤ i ∧ i < p + m then c else B i
def fits (B : Nat → Nat) (s : Lb) (d : Nat) : Bool := s.on d && decide (FreeTo B (s.fst d) s.n)
def putL (B : Nat → Nat) (s : Lb) (d k : Nat) : Nat → Nat := putTo B (s.fst d) s.n (k + 2)
theorem putTo_0 (B : Nat → Nat) (p c : Nat) : putTo B p 0 c = B := by
 funext i; simp only [putTo]; rw [if_neg om]
theorem putTo_in {B : Nat → Nat} {p m c i : Nat} (h : p + m ≤ i) : putTo B p m c i = B i := by
 simp only [putTo]; rw [if_neg om]
theorem putTo_succ (B : Nat → Nat) (p m c : Nat) : putTo B p (m + 1) c = fun i => if i = p + m then c else putTo B p m c i := by
 funext i
 simp only [putTo]
 by_cases e : i = p + m
 ·rw [if_pos om, if_pos e]
 ·rw [if_neg e]
  by_cases e2 : p ≤ i ∧ i < p + m
  ·rw [if_pos om, if_pos e2]
  ·rw [if_neg om, if_neg e2]
def Bd (n : Nat) (B : Nat → Nat) : Prop := ∀ i, B i < n + 2
theorem Bd.put {n k p m : Nat} {B : Nat → Nat} (h : Bd n B) (hk : k < n) : Bd n (putTo B p m (k + 2)) := fun i => by
 simp only [putTo]; split
 ·omega
 ·exact h i
def ptsL (L : List Lb) : Nat → Nat := fun i => if ∃ s ∈ L, s.pt = (i : Int) then 1 else 0
theorem ptsL_bd (L : List Lb) (n : Nat) : Bd n (ptsL L) := fun i => by simp only [ptsL]; split <;> omega
def sets (B : Nat → Nat) (k : Nat) : List Lb → List (List Int)
 | [] => [[]]
 | s :: L => (List.range 4).flatMap (fun d => if fits B s d then (sets (putL B s d k) (k + 1) L).map ((d : Int) :: ·) else []) ++ (sets B (k + 1) L).map (-1 :: ·)
def wtL : List Lb → List Int → Int
 | s :: L, d :: t => (if d = -1 then 0 else s.v) + wtL L t
 | _, _ => 0
def val (B : Nat → Nat) (k : Nat) : List Lb → Int
 | [] => 0
 | s :: L => (List.range 4).foldl (fun m d => if fits B s d then max m (s.v + val (putL B s d k) (k + 1) L) else m) (val B (k + 1) L)
def pick (B : Nat → Nat) (k : Nat) : List Lb → List Int
 | [] => []
 | s :: L => match (List.range 4).find? (fun d => fits B s d && decide (s.v + val (putL B s d k) (k + 1) L = val B k (s :: L))) with
  | some d => (d : Int) :: pick (putL B s d k) (k + 1) L
  | none => -1 :: pick B (k + 1) L
def keep (L : List Lb) (c : Int) (pre : List Int) (r : Int × List Int) (t : List Int) : Int × List Int :=
 if r.1 < c + wtL L t then (c + wtL L t, pre ++ t) else r
def btr (r : Int × List Int) (q : Int × List Int) : Int × List Int := if r.1 < q.1 then q else r
theorem keep_map (s : Lb) (L : List Lb) (c : Int) (pre : List Int) (d : Int) : ∀ (T : List (List Int)) (r : Int × List Int),
  (T.map (d :: ·)).foldl (keep (s :: L) c pre) r = T.foldl (keep L (c + if d = -1 then 0 else s.v) (pre ++ [d])) r
 | [], _ => rfl
 | t :: T, r => by
  rw [List.map_cons, List.foldl_cons, List.foldl_cons, keep_map s L c pre d T]
  congr 1
  simp only [keep, wtL, Int.add_assoc, List.append_assoc, List.singleton_append]
  rfl
theorem val_zero : ∀ (B : Nat → Nat) (k : Nat) (L : List Lb), 0 ≤ val B k L
 | _, _, [] => Int.le_refl _
 | B, k, s :: L => by
  have h0 := val_zero B (k + 1) L
  have : ∀ (R : List Nat) (m : Int), 0 ≤ m → 0 ≤ R.foldl (fun m d => if fits B s d then max m (s.v + val (putL B s d k) (k + 1) L) else m) m := by
   intro R
   induction R with
   | nil => exact fun m h => h
   | cons d R ih =>
    intro m h
    rw [List.foldl_cons]
    refine ih _ ?_
    split <;> omega
  exact this _ _ h0
theorem best_sides {F : Nat → Bool} {V : Nat → Int} {T : Nat → List Int} : ∀ (R : List Nat) (r : Int × List Int),
  R.foldl (fun r d => if F d then btr r (V d, T d) else r) r =
   if r.1 < R.foldl (fun m d => if F d then max m (V d) else m) r.1 then (R.foldl (fun m d => if F d then max m (V d) else m) r.1, match R.find? (fun d => F d && decide (V d = R.foldl (fun m d => if F d then max m (V d) else m) r.1)) with | some d => T d | none => []) else r
 | [], r => by simp
 | d :: R, r => by
  have mono : ∀ (R : List Nat) (m : Int), m ≤ R.foldl (fun m d => if F d then max m (V d) else m) m := by
   intro R
   induction R with
   | nil => exact fun m => Int.le_refl _
   | cons d R ih =>
    intro m
    rw [List.foldl_cons]
    refine Int.le_trans ?_ (ih _)
    split <;> omega
  rw [List.foldl_cons, best_sides R]
  cases hF : F d with
  | false => simp [hF]
  | true =>
   simp only [if_true, btr]
   by_cases hlt : r.1 < V d
   ·have hm : max r.1 (V d) = V d := om
    rw [if_pos hlt]
    simp only [List.foldl_cons, hF, if_true, hm]
    have hmo := mono R (V d)
    by_cases h2 : V d < R.foldl (fun m d => if F d then max m (V d) else m) (V d)
    ·rw [if_pos h2, if_pos om]
     rw [List.find?_cons_of_neg (by simp only [hF, Bool.true_and, decide_eq_true_eq]; omega)]
    ·rw [if_neg h2, if_pos om]
     rw [List.find?_cons_of_pos (by simp only [hF, Bool.true_and, decide_eq_true_eq]; omega)]
     have : R.foldl (fun m d => if F d then max m (V d) else m) (V d) = V d := om
     rw [this]
   ·have hm : max r.1 (V d) = r.1 := om
    rw [if_neg hlt]
    simp only [List.foldl_cons, hF, if_true, hm]
    split
    ·rename_i h2
     rw [List.find?_cons_of_neg (by simp only [hF, Bool.true_and, decide_eq_true_eq]; omega)]
    ·rfl
theorem keep_sets : ∀ (L : List Lb) (B : Nat → Nat) (k : Nat) (c : Int) (pre : List Int) (r : Int × List Int),
  (sets B k L).foldl (keep L c pre) r = btr r (c + val B k L, pre ++ pick B k L)
 | [], B, k, c, pre, r => by simp [sets, keep, wtL, val, pick, btr]
 | s :: L, B, k, c, pre, r => by
  have side : ∀ (R : List Nat) (r : Int × List Int), (R.flatMap (fun d => if fits B s d then (sets (putL B s d k) (k + 1) L).map ((d : Int) :: ·) else [])).foldl (keep (s :: L) c pre) r
    = R.foldl (fun r d => if fits B s d then btr r (c + (s.v + val (putL B s d k) (k + 1) L), pre ++ ((d : Int) :: pick (putL B s d k) (k + 1) L)) else r) r := by
   intro R
   induction R with
   | nil => intro r; rfl
   | cons d R ih =>
    intro r
    rw [List.flatMap_cons, List.foldl_append, ih, List.foldl_cons]
    congr 1
    split
    ·rw [keep_map, keep_sets L, if_neg om]
     simp [Int.add_assoc]
    ·rfl
  rw [sets, List.foldl_append, side, keep_map, keep_sets L, if_pos rfl, best_sides]
  simp only [Int.add_zero, List.append_assoc, List.singleton_append]
  have shift : ∀ (R : List Nat) (m : Int), R.foldl (fun m d => if fits B s d then max m (c + (s.v + val (putL B s d k) (k + 1) L)) else m) (c + m) = c + R.foldl (fun m d => if fits B s d then max m (s.v + val (putL B s d k) (k + 1) L) else m) m := by
   intro R
   induction R with
   | nil => intro m; rfl
   | cons d R ih =>
    intro m
    rw [List.foldl_cons, List.foldl_cons, ← ih]
    congr 1
    split <;> omega
  have hmx : ∀ (R : List Nat) (m m' : Int), R.foldl (fun m d => if fits B s d then max m (c + (s.v + val (putL B s d k) (k + 1) L)) else m) (max m m') = max m (R.foldl (fun m d => if fits B s d then max m (c + (s.v + val (putL B s d k) (k + 1) L)) else m) m') := by
   intro R
   induction R with
   | nil => intro m m'; rfl
   | cons d R ih =>
    intro m m'
    rw [List.foldl_cons, List.foldl_cons, ← ih]
    congr 1
    split <;> omega
  have hv : val B k (s :: L) = (List.range 4).foldl (fun m d => if fits B s d then max m (s.v + val (putL B s d k) (k + 1) L) else m) (val B (k + 1) L) := rfl
  have e1 := hmx (List.range 4) r.1 (c + val B (k + 1) L)
  have e2 := hmx (List.range 4) (c + val B (k + 1) L) r.1
  have e3 := shift (List.range 4) (val B (k + 1) L)
  rw [← hv] at e3
  rw [e3] at e1
  rw [show max (c + val B (k + 1) L) r.1 = max r.1 (c + val B (k + 1) L) from om, e1] at e2
  have hpk : pick B k (s :: L) = match (List.range 4).find? (fun d => fits B s d && decide (s.v + val (putL B s d k) (k + 1) L = val B k (s :: L))) with
   | some d => (d : Int) :: pick (putL B s d k) (k + 1) L
   | none => -1 :: pick B (k + 1) L := rfl
  have mono : ∀ (R : List Nat) (m : Int), m ≤ R.foldl (fun m d => if fits B s d then max m (c + (s.v + val (putL B s d k) (k + 1) L)) else m) m := by
   intro R
   induction R with
   | nil => exact fun m => Int.le_refl _
   | cons d R ih =>
    intro m
    rw [List.foldl_cons]
    refine Int.le_trans ?_ (ih _)
    split <;> omega
  have hin : ∀ (R : List Nat) (m : Int), R.foldl (fun m d => if fits B s d then max m (c + (s.v + val (putL B s d k) (k + 1) L)) else m) m = m ∨ ∃ d ∈ R, fits B s d = true ∧ R.foldl (fun m d => if fits B s d then max m (c + (s.v + val (putL B s d k) (k + 1) L)) else m) m = c + (s.v + val (putL B s d k) (k + 1) L) := by
   intro R
   induction R with
   | nil => exact fun m => .inl rfl
   | cons d R ih =>
    intro m
    rw [List.foldl_cons]
    rcases ih (if fits B s d then max m (c + (s.v + val (putL B s d k) (k + 1) L)) else m) with h | ⟨d', h1, h2, h3⟩
    ·rw [h]
     split
     ·rename_i hf
      by_cases hh : m ≤ c + (s.v + val (putL B s d k) (k + 1) L)
      ·exact .inr ⟨d, by simp, hf, om⟩
      ·exact .inl om
     ·exact .inl rfl
    ·exact .inr ⟨d', by simp [h1], h2, h3⟩
  have m1 := mono (List.range 4) r.1
  have m2 := mono (List.range 4) (c + val B (k + 1) L)
  have i2 := hin (List.range 4) r.1
  rw [shift, ← hv] at m2
  generalize hM : (List.range 4).foldl (fun m d => if fits B s d then max m (c + (s.v + val (putL B s d k) (k + 1) L)) else m) r.1 = M at *
  generalize val B k (s :: L) = V at *
  -- M is the most of the sides and what was kept; c + V that of the sides and of none
  by_cases hM1 : r.1 < M
  ·rw [if_pos hM1]
   by_cases hs : M < c + val B (k + 1) L
   ·have : c + V = c + val B (k + 1) L := om
    have hn : (List.range 4).find? (fun d => fits B s d && decide (s.v + val (putL B s d k) (k + 1) L = V)) = none := by
     rw [List.find?_eq_none]
     intro d hd
     simp only [Bool.and_eq_true, decide_eq_true_eq, not_and]
     intro hf e
     have : ∀ (R : List Nat) (m : Int), d ∈ R → c + (s.v + val (putL B s d k) (k + 1) L) ≤ R.foldl (fun m d => if fits B s d then max m (c + (s.v + val (putL B s d k) (k + 1) L)) else m) m := by
      intro R
      induction R with
      | nil => intro m h; cases h
      | cons d' R ih =>
       intro m h
       rw [List.foldl_cons]
       rcases List.mem_cons.1 h with rfl | h
       ·refine Int.le_trans ?_ (mono R _)
        rw [if_pos hf]; omega
       ·exact ih _ h
     have := this (List.range 4) r.1 hd
     rw [hM] at this
     omega
    rw [hpk, hn]
    simp only [btr]
    rw [if_pos hs, if_pos om, this]
   ·have hV : c + V = M := om
    simp only [btr]
    rw [if_neg hs, if_pos om, hV, hpk]
    have hp : (fun d => fits B s d && decide (c + (s.v + val (putL B s d k) (k + 1) L) = M)) = (fun d => fits B s d && decide (s.v + val (putL B s d k) (k + 1) L = V)) := by
     funext d
     congr 1
     exact decide_eq_decide.2 om
    rw [hp]
    cases hf : (List.range 4).find? (fun d => fits B s d && decide (s.v + val (putL B s d k) (k + 1) L = V)) with
    | some d => rfl
    | none =>
     exfalso
     rcases i2 with h | ⟨d, h1, h2, h3⟩
     ·omega
     ·have := List.find?_eq_none.1 hf d h1
      simp only [h2, Bool.true_and, decide_eq_true_eq] at this
      omega
  ·rw [if_neg hM1]
   have hMr : M = r.1 := om
   simp only [btr]
   by_cases hs : r.1 < c + val B (k + 1) L
   ·have hV : c + V = c + val B (k + 1) L := om
    have hn : (List.range 4).find? (fun d => fits B s d && decide (s.v + val (putL B s d k) (k + 1) L = V)) = none := by
     rw [List.find?_eq_none]
     intro d hd
     simp only [Bool.and_eq_true, decide_eq_true_eq, not_and]
     intro hf e
     have : ∀ (R : List Nat) (m : Int), d ∈ R → c + (s.v + val (putL B s d k) (k + 1) L) ≤ R.foldl (fun m d => if fits B s d then max m (c + (s.v + val (putL B s d k) (k + 1) L)) else m) m := by
      intro R
      induction R with
      | nil => intro m h; cases h
      | cons d' R ih =>
       intro m h
       rw [List.foldl_cons]
       rcases List.mem_cons.1 h with rfl | h
       ·refine Int.le_trans ?_ (mono R _)
        rw [if_pos hf]; omega
       ·exact ih _ h
     have := this (List.range 4) r.1 hd
     rw [hM] at this
     omega
    rw [if_pos hs, if_pos om, hV, hpk, hn]
   ·rw [if_neg hs, if_neg om]
def FitA (B : Nat → Nat) (k : Nat) : List Lb → List Int → Prop
 | [], t => t = []
 | _ :: _, [] => False
 | s :: L, d :: t => (d = -1 ∧ FitA B (k + 1) L t) ∨ ∃ e : Nat, e < 4 ∧ d = e ∧ fits B s e = true ∧ FitA (putL B s e k) (k + 1) L t
def finB (B : Nat → Nat) (k : Nat) : List Lb → List Int → (Nat → Nat)
 | s :: L, d :: t => if d = -1 then finB B (k + 1) L t else finB (putL B s d.toNat k) (k + 1) L t
 | _, _ => B
theorem pick_fit : ∀ (L : List Lb) (B : Nat → Nat) (k : Nat), FitA B k L (pick B k L)
 | [], _, _ => rfl
 | s :: L, B, k => by
  unfold pick
  cases hf : (List.range 4).find? (fun d => fits B s d && decide (s.v + val (putL B s d k) (k + 1) L = val B k (s :: L))) with
  | some d =>
   have h1 := List.find?_some hf
   have h2 := List.mem_of_find?_eq_some hf
   simp only [Bool.and_eq_true, decide_eq_true_eq] at h1
   exact .inr ⟨d, List.mem_range.1 h2, rfl, h1.1, pick_fit L _ _⟩
  | none => exact .inl ⟨rfl, pick_fit L _ _⟩
theorem FitA.len : ∀ {L : List Lb} {t : List Int} {B : Nat → Nat} {k : Nat}, FitA B k L t → t.length = L.length
 | [], t, B, k, h => by simp only [FitA] at h; rw [h]; rfl
 | _ :: _, [], _, _, h => by simp only [FitA] at h
 | s :: L, d :: t, B, k, h => by
  simp only [FitA] at h
  rcases h with ⟨_, h⟩ | ⟨e, _, _, _, h⟩ <;> simp [h.len]
theorem FitA.rng : ∀ {L : List Lb} {t : List Int} {B : Nat → Nat} {k : Nat}, FitA B k L t → ∀ d ∈ t, -1 ≤ d ∧ d ≤ 3
 | [], t, B, k, h => by simp only [FitA] at h; subst h; intro d hd; cases hd
 | _ :: _, [], _, _, h => by simp only [FitA] at h
 | s :: L, d :: t, B, k, h => by
  simp only [FitA] at h
  intro x hx
  rcases h with ⟨h0, h⟩ | ⟨e, he, h0, _, h⟩ <;> rcases List.mem_cons.1 hx with rfl | hx
  ·omega
  ·exact h.rng x hx
  ·omega
  ·exact h.rng x hx
def bestOf (L : List Lb) : List Int := pick (ptsL L) 0 L
def sgn (c : Nat) : UInt8 := if c = 0 then 46 else if c = 1 then 42 else UInt8.ofNat (46 + c)
def mtext (L : List Lb) (t : List Int) : List UInt8 :=
 (List.range 10).flatMap fun y => ((List.range 10).map fun x => sgn (finB (ptsL L) 0 L t (10 * y + x))) ++ [10]
end Go.SW
