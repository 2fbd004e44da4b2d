/- The walk's own ground, seventh part: a region that draws its order, and ends in operations whose order is forced (a store, an append, a call). -/
import Derived.Test.YtlnodngkacbfkaaSwf
import Derived.StillTail
set_option linter.all false
set_option maxRecDepth 20000
namespace Go.SW
open Go Go.RowKit

/-- Operation j waits for operation i. -/
def wt (ops : Array Oper) (j i : Nat) : Bool :=
  match ops[j]? with
  | some o => o.after.any fun e => Region.binds .any e && e.on == i
  | none => false
def looks (ops : Array Oper) (i : Nat) : List Tmp :=
  match ops[i]? with
  | some o => o.looksAt ops
  | none => []
def dstOf (ops : Array Oper) (i : Nat) : Option Tmp := (ops[i]?).bind (·.dst)

/-- The head of n operations may come in any order that its edges allow; the tail comes behind, one by one. -/
def tailB (ops : Array Oper) (n : Nat) : Bool :=
  Region.noSelect ops && decide (n < ops.size) && Region.sinkB .any ops n && Region.chainB .any ops n &&
  ((List.range n).all fun i => match ops[i]? with
    | some o => o.after.all fun e => !Region.binds .any e || decide (e.on < i)
    | none => false) &&
  ((List.range n).all fun i => (List.range n).all fun j => decide (i = j) || (match dstOf ops j with
    | none => true
    | some d => (!(looks ops i).contains d || (if j < i then wt ops i j else wt ops j i)) && !(dstOf ops i == some d))) &&
  ((List.range n).all fun i => match dstOf ops i with
    | some d => !(looks ops i).contains d
    | none => true) &&
  Region.seqB .any ops (ops.size - n) n ((Array.range ops.size).map fun j => decide (j < n))

def gF (f0 : F) (ops : Array Oper) (v : Nat → Value) : Nat → F
  | 0 => f0
  | k + 1 => updO (gF f0 ops v k) (dstOf ops k) (v k)
def sF (f0 : F) (ops : Array Oper) (v : Nat → Value) (S : Nat → Bool) : Nat → F
  | 0 => f0
  | k + 1 => if S k then updO (sF f0 ops v S k) (dstOf ops k) (v k) else sF f0 ops v S k

theorem sF_all (f0 : F) (ops : Array Oper) (v : Nat → Value) (S : Nat → Bool) : ∀ k, (∀ j, j < k → S j = true) → sF f0 ops v S k = gF f0 ops v k
  | 0, _ => (rfl)
  | k + 1, h => by simp only [sF, gF, h k (Nat.lt_succ_self k), if_true, sF_all f0 ops v S k (fun j hj => h j (by omega))]

theorem sF_agree {f0 : F} {ops : Array Oper} {v : Nat → Value} {S : Nat → Bool} {i : Nat} {t : Tmp} (h1 : ∀ j, j < i → dstOf ops j = some t → S j = true) (h2 : ∀ j, i ≤ j → dstOf ops j = some t → S j = false) :
    ∀ k, sF f0 ops v S k t = gF f0 ops v (min k i) t
  | 0 => by simp [sF, gF]
  | k + 1 => by
    have ih := sF_agree h1 h2 k (f0 := f0) (v := v)
    have other : ∀ (f : F), dstOf ops k ≠ some t → updO f (dstOf ops k) (v k) t = f t := fun f hne => by
      cases hd : dstOf ops k with
      | none => exact (rfl)
      | some d =>
        rw [updO_some, upd_apply, if_neg]
        intro e; exact hne (by rw [hd, e])
    by_cases hd : dstOf ops k = some t
    · by_cases hk : k < i
      · have hS := h1 k hk hd
        have e : min (k + 1) i = k + 1 := by omega
        have hg : gF f0 ops v (k + 1) = updO (gF f0 ops v k) (dstOf ops k) (v k) := (rfl)
        rw [e, hg]
        simp only [sF, hS, if_true, hd, updO_some, upd_apply]
      · have hS := h2 k (by omega) hd
        have e : min (k + 1) i = min k i := by omega
        rw [e]
        simp only [sF, hS, Bool.false_eq_true, if_false]
        exact ih
    · have hs : sF f0 ops v S (k + 1) t = sF f0 ops v S k t := by
        simp only [sF]
        split
        · exact other _ hd
        · exact (rfl)
      rw [hs, ih]
      by_cases hk : k < i
      · have e : min (k + 1) i = min k i + 1 := by omega
        have e2 : min k i = k := by omega
        rw [e, e2]
        exact (other _ hd).symm
      · have e : min (k + 1) i = min k i := by omega
        rw [e]

theorem sF_congr {f0 : F} {ops : Array Oper} {v : Nat → Value} {S S' : Nat → Bool} : ∀ k, (∀ j, j < k → S j = S' j) → sF f0 ops v S k = sF f0 ops v S' k
  | 0, _ => (rfl)
  | k + 1, h => by simp only [sF, h k (Nat.lt_succ_self k), sF_congr k (fun j hj => h j (by omega))]

/-- One operation more has come up. -/
theorem sF_more {f0 : F} {ops : Array Oper} {v : Nat → Value} {S : Nat → Bool} {i n : Nat} (hi : i < n) (hS : S i = false) (hd : ∀ j, j < n → j ≠ i → ∀ d, dstOf ops j = some d → dstOf ops i ≠ some d) :
    sF f0 ops v (fun j => S j || decide (j = i)) n = updO (sF f0 ops v S n) (dstOf ops i) (v i) := by
  have comm : ∀ (f : F) (a b : Option Tmp) (x y : Value), (∀ d, a = some d → b ≠ some d) → updO (updO f a x) b y = updO (updO f b y) a x := by
    intro f a b x y hne
    cases a with
    | none => exact (rfl)
    | some a =>
      cases b with
      | none => exact (rfl)
      | some b =>
        funext t
        have : a ≠ b := fun e => hne a rfl (by rw [e])
        simp only [updO_some, upd_apply]
        by_cases e1 : t = b
        · subst e1; simp [Ne.symm this]
        · simp [e1]
  have key : ∀ k, k ≤ n → sF f0 ops v (fun j => S j || decide (j = i)) k = if i < k then updO (sF f0 ops v S k) (dstOf ops i) (v i) else sF f0 ops v S k := by
    intro k
    induction k with
    | zero => intro _; simp [sF]
    | succ k ih =>
      intro hk
      have ih' := ih (by omega)
      by_cases e : k = i
      · subst e
        simp only [sF, decide_true, Bool.or_true, if_true, hS, Bool.false_eq_true, if_false, Nat.lt_succ_self] at ih' ⊢
        rw [ih', if_neg (Nat.lt_irrefl k)]
      · have hne : decide (k = i) = false := decide_eq_false e
        have hs : sF f0 ops v (fun j => S j || decide (j = i)) (k + 1) = if S k then updO (sF f0 ops v (fun j => S j || decide (j = i)) k) (dstOf ops k) (v k) else sF f0 ops v (fun j => S j || decide (j = i)) k := by
          simp only [sF, hne, Bool.or_false]
        have hs2 : sF f0 ops v S (k + 1) = if S k then updO (sF f0 ops v S k) (dstOf ops k) (v k) else sF f0 ops v S k := (rfl)
        rw [hs, hs2, ih']
        cases hSk : S k with
        | false =>
          simp only [Bool.false_eq_true, if_false]
          by_cases hik : i < k
          · rw [if_pos hik, if_pos (Nat.lt_succ_of_lt hik)]
          · rw [if_neg hik, if_neg (fun h => by omega)]
        | true =>
          simp only [if_true]
          by_cases hik : i < k
          · rw [if_pos hik, if_pos (Nat.lt_succ_of_lt hik)]
            exact comm _ _ _ _ _ (fun d h1 h2 => hd k (by omega) e d h2 h1)
          · rw [if_neg hik, if_neg (fun h => by omega)]
  rw [key n (Nat.le_refl n), if_pos hi]

/-- In world w' the operation yields u, and all that was there stays as it was. -/
def QY (P : Program) (o : Oper) (f : F) (w' : World) (u : Value) : Prop :=
  (execOp (ev f) o).run P w' = .ok (.value u) w' ∨
  ∃ g args, (execOp (ev f) o).run P w' = .ok (.enter g args) w' ∧ Calls P g args w' fun e w'' => e = .returned u ∧ Ext w' w''

theorem stepR_yields {P : Program} {o : Oper} {f : F} {k : Value → World → Prop} {w : World} (h : stepR true P o f k w (pv P f o.op)) : ∃ v, (∀ w', Ext w w' → QY P o f w' v) ∧ k v w := by
  cases hp : pv P f o.op with
  | some v => rw [hp] at h; exact ⟨v, fun w' _ => .inl (pv_run hp), h⟩
  | none =>
    rw [hp] at h
    simp only [stepR] at h
    unfold OW at h
    split at h
    · rename_i T x hop
      obtain ⟨v, hv, hkv⟩ := ldK_all h
      refine ⟨v, fun w' e => .inl ?_, hkv⟩
      unfold execOp; rw [hop]; exact run_bindV (hv w' e)
    · rename_i c hop
      split at h
      · rename_i x hc
        unfold fnK at h
        split at h
        · rename_i g first captured hx
          obtain ⟨hg, h⟩ := h
          simp only [if_true] at h
          obtain ⟨v, hv, hkv⟩ := h
          exact ⟨v, fun w' e => .inr ⟨g, _, callOp_run hop hc hx hg, hv w' e⟩, hkv⟩
        · exact h.elim
      · exact h.elim
    · exact h.elim

/-- What operation i does in the frame f. -/
def OpAt (P : Program) (ops : Array Oper) (w : World) (f : F) (i : Nat) (u : Value) : Prop :=
  ∃ o, ops[i]? = some o ∧ guK o.guard ops f (∀ w', Ext w w' → QY P o f w' u) (u = undef)

theorem RL_vals {P : Program} {ops : Array Oper} {K : F → World → Prop} {w : World} (f0 : F) : ∀ (m i : Nat) (v0 : Nat → Value), i + m ≤ ops.size → RL true P ops K ((ops.toList.drop i).take m) (gF f0 ops v0 i) w →
    ∃ v, (∀ j, j < i → v j = v0 j) ∧ (∀ j, i ≤ j → j < i + m → OpAt P ops w (gF f0 ops v j) j (v j)) ∧ ∀ w', Ext w w' → K (gF f0 ops v (i + m)) w'
  | 0, i, v0, _, h => ⟨v0, fun _ _ => (rfl), fun j h1 h2 => by omega, by simpa [RL, finK] using h⟩
  | m + 1, i, v0, hle, h => by
    have hi : i < ops.size := by omega
    have hd : ops.toList.drop i = ops[i] :: ops.toList.drop (i + 1) := by
      rw [List.drop_eq_getElem_cons (by simpa using hi)]; simp
    rw [hd, List.take_succ_cons] at h
    simp only [RL] at h
    have gcong : ∀ (v v' : Nat → Value) (k : Nat), (∀ j, j < k → v j = v' j) → gF f0 ops v k = gF f0 ops v' k := by
      intro v v' k
      induction k with
      | zero => intro _; exact (rfl)
      | succ k ih => intro hv; simp only [gF, hv k (Nat.lt_succ_self k), ih (fun j hj => hv j (by omega))]
    have hdst : dstOf ops i = ops[i].dst := by simp [dstOf, hi]
    have next : ∀ u, RL true P ops K ((ops.toList.drop (i + 1)).take m) (updO (gF f0 ops v0 i) ops[i].dst u) w → guK ops[i].guard ops (gF f0 ops v0 i) (∀ w', Ext w w' → QY P ops[i] (gF f0 ops v0 i) w' u) (u = undef) →
        ∃ v, (∀ j, j < i → v j = v0 j) ∧ (∀ j, i ≤ j → j < i + (m + 1) → OpAt P ops w (gF f0 ops v j) j (v j)) ∧ ∀ w', Ext w w' → K (gF f0 ops v (i + (m + 1))) w' := by
      intro u hk hq
      let v1 : Nat → Value := fun j => if j = i then u else v0 j
      have e1 : gF f0 ops v1 i = gF f0 ops v0 i := gcong _ _ _ (fun j hj => by simp only [v1]; rw [if_neg (by omega)])
      have e2 : gF f0 ops v1 (i + 1) = updO (gF f0 ops v0 i) ops[i].dst u := by
        simp only [gF, e1, hdst, v1, if_true]
      obtain ⟨v, hv, hop, hK⟩ := RL_vals (ops := ops) f0 m (i + 1) v1 (by omega) (by rw [e2]; exact hk)
      have hvi : v i = u := by rw [hv i (Nat.lt_succ_self i)]; simp [v1]
      have ev0 : gF f0 ops v i = gF f0 ops v0 i := gcong _ _ _ (fun j hj => by rw [hv j (by omega)]; simp only [v1]; rw [if_neg (by omega)])
      refine ⟨v, fun j hj => ?_, fun j h1 h2 => ?_, by rw [show i + (m + 1) = i + 1 + m from by omega]; exact hK⟩
      · rw [hv j (by omega)]; simp only [v1]; rw [if_neg (by omega)]
      · by_cases e : j = i
        · subst e
          exact ⟨ops[j], by simp [hi], by rw [ev0, hvi]; exact hq⟩
        · exact hop j (by omega) (by omega)
    unfold guK at h next
    cases hg : ops[i].guard with
    | none =>
      rw [hg] at h
      simp only at h
      obtain ⟨u, hu, hk⟩ := stepR_yields h
      exact next u hk (by simp only [hg]; exact hu)
    | some jw =>
      obtain ⟨j, want⟩ := jw
      rw [hg] at h
      simp only at h
      split at h
      · rename_i hb
        obtain ⟨u, hu, hk⟩ := stepR_yields h
        exact next u hk (by simp only [hg]; rw [if_pos hb]; exact hu)
      · rename_i hb
        exact next undef h (by simp only [hg]; rw [if_neg hb]; trivial)

def cnt (L : Array Bool) (n : Nat) : Nat := (List.range n).countP fun j => !L.getD j false

theorem cnt_set {L : Array Bool} {i : Nat} (hL : L.getD i false = false) (hs : i < L.size) : ∀ n, cnt (L.setIfInBounds i true) n + (if i < n then 1 else 0) = cnt L n := by
  intro n
  induction n with
  | zero => simp [cnt]
  | succ n ih =>
    simp only [cnt, List.range_succ, List.countP_append, List.countP_singleton] at ih ⊢
    by_cases e : n = i
    · subst e
      have h1 : (L.setIfInBounds n true).getD n false = true := by simp [hs]
      simp only [h1, hL, Bool.not_true, Bool.not_false, Bool.false_eq_true, if_false, if_true, Nat.lt_irrefl, Nat.lt_succ_self] at ih ⊢
      omega
    · have h1 : (L.setIfInBounds i true).getD n false = L.getD n false := getD_set_ne false (Ne.symm e)
      rw [h1]
      by_cases hi : i < n
      · rw [if_pos hi] at ih; rw [if_pos (Nat.lt_succ_of_lt hi)]; omega
      · rw [if_neg hi] at ih; rw [if_neg (show ¬ i < n + 1 by omega)]; omega

theorem cnt_zero {L : Array Bool} {n : Nat} (h : cnt L n = 0) : ∀ j, j < n → L.getD j false = true := by
  intro j hj
  have := List.countP_eq_zero.1 h j (List.mem_range.2 hj)
  simpa using this

theorem cnt_pos {L : Array Bool} {n : Nat} (h : 0 < cnt L n) : ∃ i, i < n ∧ L.getD i false = false ∧ ∀ j, j < i → L.getD j false = true := by
  obtain ⟨i, hi, hp⟩ := List.countP_pos_iff.1 h
  have hi' := List.mem_range.1 hi
  have hp' : L.getD i false = false := by simpa using hp
  clear hi hp h
  induction i using Nat.strongRecOn with
  | _ i ih =>
    by_cases hex : ∃ j, j < i ∧ L.getD j false = false
    · obtain ⟨j, hj, hjf⟩ := hex
      exact ih j hj (by omega) hjf
    · refine ⟨i, hi', hp', fun j hj => ?_⟩
      cases hb : L.getD j false with
      | true => exact (rfl)
      | false => exact absurd ⟨j, hj, hb⟩ hex

theorem guK_congr {g : Option (Nat × Bool)} {ops : Array Oper} {f f' : F} {p q : Prop} (h : ∀ j want, g = some (j, want) → ∀ d, (ops[j]?).bind (·.dst) = some d → f d = f' d) : guK g ops f p q ↔ guK g ops f' p q := by
  unfold guK
  cases g with
  | none => exact Iff.rfl
  | some jw =>
    obtain ⟨j, want⟩ := jw
    have e : gb f want ((ops[j]?).bind (·.dst)) = gb f' want ((ops[j]?).bind (·.dst)) := by
      cases hd : (ops[j]?).bind (·.dst) with
      | none => exact (rfl)
      | some d => simp only [gb, h j want rfl d hd]
    simp only [e]

theorem exec_agree {o : Oper} {f f' : F} (hs : noSel o.op = true) (h : ∀ t, Operand.tmp t ∈ o.op.operands → f t = f' t) : execOp (ev f) o = execOp (ev f') o := by
  refine execOp_congr o (fun cs b e => by rw [e] at hs; simp [noSel] at hs) fun x hx => ?_
  cases x with
  | tmp t => exact h t hx
  | _ => exact (rfl)

section
variable {P : Program} {N : Nat} {ops : Array Oper} {w : World} {f0 : F} {v : Nat → Value} {n : Nat} {Q : Exit → Act → World → Prop} {Kt : F → World → Prop}

theorem any_tail (hall : ∀ o ∈ ops, operOk N o = true) (hB : tailB ops n = true) (hop : ∀ j, j < n → OpAt P ops w (gF f0 ops v j) j (v j))
    (hK : ∀ w', Ext w w' → RL false P ops Kt (ops.toList.drop n) (gF f0 ops v n) w') (hQ : ∀ f w, Kt f w → Q .normal (fr N f) w) :
    ∀ (m : Nat) (L : Array Bool) (w' : World), Ext w w' → HeadInv .any ops n L → cnt L n = m → wpAny P .any ops Q (m + (ops.size - n)) L (fr N (sF f0 ops v (fun j => L.getD j false) n)) w' := by
  simp only [tailB, Bool.and_eq_true, decide_eq_true_eq] at hB
  obtain ⟨⟨⟨⟨⟨⟨⟨_, hn⟩, hsink⟩, hchain⟩, hord⟩, hap⟩, hself⟩, hseq⟩ := hB
  have hok : ∀ i o, ops[i]? = some o → operOk N o = true := fun i o ho => hall o (Array.mem_of_getElem? ho)
  intro m
  induction m with
  | zero =>
    intro L w' hx inv hc
    have hL := cnt_zero hc
    have e : L = (Array.range ops.size).map fun j => decide (j < n) := by
      apply Array.ext
      · simp [inv.size]
      · intro j h1 h2
        by_cases hj : j < n
        · have := hL j hj
          simp [h1] at this ⊢
          rw [this]; simp [hj]
        · have := inv.tail j (by omega) (by rw [← inv.size]; exact h1)
          simp [h1] at this ⊢
          rw [this]; simp [hj]
    rw [sF_all f0 ops v _ n hL, Nat.zero_add]
    have hlen : (ops.toList.drop n).length = ops.size - n := by simp
    have hw := RL_wpList hall hQ (ops.toList.drop n) _ _ (fun o ho => hall o (Array.mem_toList_iff.1 (List.mem_of_mem_drop ho))) (hK w' hx)
    have := wpAny_of_seq (md := .any) (P := P) (Q' := Q) (ops.toList.drop n) n L (fr N (gF f0 ops v n)) w' (fun j => by simp [List.getElem?_drop]) (by rw [hlen, e]; exact hseq) hw
    rwa [hlen] at this
  | succ m ih =>
    intro L w' hx inv hc
    rw [show m + 1 + (ops.size - n) = (m + (ops.size - n)) + 1 from by omega]
    obtain ⟨i0, hi0, hf0, hlow⟩ := cnt_pos (L := L) (n := n) (by omega)
    have tail : ∀ i ∈ Region.ready .any ops L, i < n := fun i hi => by
      rcases Nat.lt_or_ge i n with h | h
      · exact h
      · exact absurd hi (tail_waits hsink hchain hn inv _ i0 rfl hi0 (getD_in (by rw [inv.size]; omega) hf0) i h)
    refine ⟨fun h0 => ?_, fun i hi => ?_⟩
    · exfalso
      have : i0 ∈ Region.ready .any ops L := by
        refine mem_ready.2 ⟨getD_in (by rw [inv.size]; omega) hf0, ops[i0]'(by omega), by simp [show i0 < ops.size by omega], fun e he hb => ?_⟩
        have h1 := List.all_eq_true.1 hord i0 (List.mem_range.2 hi0)
        rw [show ops[i0]? = some (ops[i0]'(by omega)) from by simp [show i0 < ops.size by omega]] at h1
        have h2 := Array.all_eq_true_iff_forall_mem.1 h1 e he
        simp only [hb, Bool.not_true, Bool.false_or, decide_eq_true_eq] at h2
        exact hlow e.on h2
      rw [h0] at this; cases this
    · have hin := tail i hi
      obtain ⟨hun, o, ho, hdeps⟩ := mem_ready.1 hi
      have hunf : L.getD i false = false := getD_both hun
      obtain ⟨o', ho', hgu⟩ := hop i hin
      have : o' = o := Option.some.inj (ho'.symm.trans ho)
      subst this
      have hlooks : looks ops i = o'.looksAt ops := by simp [looks, ho]
      have agree : ∀ t, t ∈ o'.looksAt ops → sF f0 ops v (fun j => L.getD j false) n t = gF f0 ops v i t := by
        intro t ht
        have hmin : min n i = i := by omega
        have h1 : ∀ j, j < i → dstOf ops j = some t → L.getD j false = true := by
          intro j hj hd
          have h := List.all_eq_true.1 (List.all_eq_true.1 hap i (List.mem_range.2 hin)) j (List.mem_range.2 (by omega))
          simp only [hd, hlooks, show ¬ i = j from by omega, decide_false, Bool.false_or, Bool.and_eq_true, Bool.or_eq_true, Bool.not_eq_true', hj, if_true] at h
          rcases h.1 with h | h
          · rw [show (o'.looksAt ops).contains t = true from by simpa using ht] at h; cases h
          · unfold wt at h
            rw [ho] at h
            obtain ⟨e, he, hb⟩ := Array.any_eq_true'.1 h
            simp only [Bool.and_eq_true, beq_iff_eq] at hb
            have := hdeps e he hb.1
            rwa [hb.2] at this
        have h2 : ∀ j, i ≤ j → dstOf ops j = some t → L.getD j false = false := by
          intro j hj hd
          by_cases e : j = i
          · subst e; exact hunf
          · by_cases hjn : j < n
            · have h := List.all_eq_true.1 (List.all_eq_true.1 hap i (List.mem_range.2 hin)) j (List.mem_range.2 hjn)
              simp only [hd, hlooks, show ¬ i = j from by omega, decide_false, Bool.false_or, Bool.and_eq_true, Bool.or_eq_true, Bool.not_eq_true', show ¬ j < i from by omega, if_false] at h
              rcases h.1 with h | h
              · rw [show (o'.looksAt ops).contains t = true from by simpa using ht] at h; cases h
              · cases hb : L.getD j false with
                | false => exact (rfl)
                | true =>
                  exfalso
                  unfold wt at h
                  cases hj' : ops[j]? with
                  | none => rw [hj'] at h; simp at h
                  | some oj =>
                    rw [hj'] at h
                    obtain ⟨e, he, hbb⟩ := Array.any_eq_true'.1 h
                    simp only [Bool.and_eq_true, beq_iff_eq] at hbb
                    have := inv.closed j oj hj' hb e he hbb.1
                    rw [hbb.2, hunf] at this; cases this
            · rcases Nat.lt_or_ge j ops.size with h | h
              · exact getD_both (inv.tail j (by omega) h)
              · simp [dstOf, Array.getElem?_eq_none h] at hd
        have := sF_agree (f0 := f0) (v := v) (S := fun j => L.getD j false) h1 h2 n
        rw [this, hmin]
      have hgu' := (guK_congr (f' := sF f0 ops v (fun j => L.getD j false) n) (fun j want hg d hd => (agree d (by
        unfold Oper.looksAt
        rw [hg]
        exact List.mem_append_right _ (by simp [hd]))).symm)).1 hgu
      have hexec : execOp (fr N (sF f0 ops v (fun j => L.getD j false) n)).eval o' = execOp (ev (gF f0 ops v i)) o' := by
        rw [exec_fr (hok i o' ho)]
        have hns := hok i o' ho
        simp only [operOk, Bool.and_eq_true] at hns
        exact exec_agree hns.2 fun t ht => agree t (List.mem_append_left _ (List.mem_filterMap.2 ⟨.tmp t, by simpa using ht, rfl⟩))
      have hwd := guK_wanted (N := N) hall hgu'
      have hS : sF f0 ops v (fun j => (L.setIfInBounds i true).getD j false) n = updO (sF f0 ops v (fun j => L.getD j false) n) (dstOf ops i) (v i) := by
        rw [← sF_more (v := v) (f0 := f0) (ops := ops) (S := fun j => L.getD j false) hin hunf (fun j hj hne d hd => by
          have h := List.all_eq_true.1 (List.all_eq_true.1 hap i (List.mem_range.2 hin)) j (List.mem_range.2 hj)
          simp only [hd, show ¬ i = j from fun e => hne e.symm, decide_false, Bool.false_or, Bool.and_eq_true, Bool.not_eq_true'] at h
          intro e; rw [e] at h; simp at h)]
        refine sF_congr n fun j hj => ?_
        by_cases e : j = i
        · subst e
          have : (L.setIfInBounds j true).getD j false = true := by simp [show j < L.size by rw [inv.size]; omega]
          simp [this]
        · rw [getD_set_ne false (Ne.symm e)]; simp [e]
      have hdst : dstOf ops i = o'.dst := by simp [dstOf, ho]
      have go : ∀ w2, Ext w w2 → wpAny P .any ops Q (m + (ops.size - n)) (L.setIfInBounds i true) ((fr N (sF f0 ops v (fun j => L.getD j false) n)).put o'.dst (v i)) w2 := by
        intro w2 hx2
        rw [put_fr' (hok i o' ho), ← hdst, ← hS]
        refine ih _ w2 hx2 (inv.set hi hin) ?_
        have := cnt_set hunf (by rw [inv.size]; omega) n
        rw [if_pos hin] at this
        omega
      unfold wpOp
      rw [ho]
      simp only
      by_cases hw : Region.wanted o' (yielded ops (fr N (sF f0 ops v (fun j => L.getD j false) n)).tmps) = true
      · rw [if_pos hw] at hwd ⊢
        left
        unfold Oper.wp
        rw [hexec]
        rcases hwd w' hx with hr | ⟨g, args, hr, hcall⟩
        · rw [hr]; exact go w' hx
        · rw [hr]
          exact Calls.mono hcall fun e w2 ⟨he, hx2⟩ => by subst he; exact go w2 (hx.trans hx2)
      · rw [if_neg hw] at hwd ⊢
        rw [← hwd]; exact go w' hx
end

theorem QR_tail {P : Program} {N : Nat} {Kn : F → World → Prop} {Ke : Nat → F → World → Prop} {Kr : F → World → Prop} {f : F} {w : World} {id : Nat} {l : List Oper} (n : Nat) (hm : P.follows .mixedOrders = true) (hB : tailB l.toArray n = true)
    (h : RL true P l.toArray (RL false P l.toArray Kn (l.drop n)) (l.take n) f w) : QR P N id l.toArray Kn Ke Kr f w := by
  intro hok
  have hall : ∀ o ∈ l.toArray, operOk N o = true := Array.all_eq_true_iff_forall_mem.1 hok
  have hn : n < l.toArray.size := by
    simp only [tailB, Bool.and_eq_true, decide_eq_true_eq] at hB
    exact hB.1.1.1.1.1.1.2
  obtain ⟨v, _, hop, hK⟩ := RL_vals (P := P) (ops := l.toArray) (w := w) f n 0 (fun _ => undef) (by omega) (by simpa [gF] using h)
  refine wp_region_any hm ?_
  have inv0 : HeadInv .any l.toArray n (Array.replicate l.toArray.size false) :=
    ⟨by simp, fun j oj _ hl => (by rw [getD_replicate_false] at hl; cases hl), fun t _ ht => getD_in (by simpa using ht) (getD_replicate_false _ _)⟩
  have hc : cnt (Array.replicate l.toArray.size false) n = n := by
    unfold cnt
    have : (fun j => !(Array.replicate l.toArray.size false).getD j false) = fun _ => true := by funext j; rw [getD_replicate_false]; rfl
    rw [this]; simp
  have hS : (fun j => (Array.replicate l.toArray.size false).getD j false) = fun _ => false := by funext j; exact getD_replicate_false _ _
  have hs : ∀ k, sF f l.toArray v (fun j => (Array.replicate l.toArray.size false).getD j false) k = f := by
    rw [hS]
    intro k
    induction k with
    | zero => exact (rfl)
    | succ k ih => simp only [sF, Bool.false_eq_true, if_false]; exact ih
  have := any_tail (Q := cont N Kn Ke Kr) (Kt := Kn) hall hB (fun j hj => hop j (Nat.zero_le _) (by omega)) (fun w' e => by simpa using hK w' e) (fun f w hk => ⟨f, rfl, hk⟩) n _ _ (Ext.drew w) inv0 hc
  rw [hs n, show n + (l.toArray.size - n) = l.toArray.size from by omega] at this
  exact this

attribute [go_sem] List.take_succ_cons List.take_zero List.drop_succ_cons List.drop_zero

end Go.SW
