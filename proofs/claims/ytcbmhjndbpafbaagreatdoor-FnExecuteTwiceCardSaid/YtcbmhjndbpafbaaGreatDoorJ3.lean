import Derived.Test.YtcbmhjndbpafbaaGreatDoorJ1
import Derived.StillTail
set_option linter.all false
set_option maxRecDepth 20000
namespace Go.SW
open Go Go.RowKit
def wt (ops : Array Oper) (j i : Nat) : Bool :=
 match ops[j]? with
 | some o => o.after.any fun e => Region.binds .any e && e.on == i
 | none => false
def looks (ops : Array Oper) (i : Nat) : List Tmp :=
 match ops[i]? with
 | some o => o.looksAt ops
 | none => []
def dstOf (ops : Array Oper) (i : Nat) : Option Tmp := (ops[i]?).bind (·.dst)
def tailB (ops : Array Oper) (n : Nat) : Bool :=
 Region.noSelect ops && decide (n < ops.size) && Region.sinkB .any ops n && Region.chainB .any ops n &&
 ((List.range n).all fun i => match ops[i]? with
  | some o => o.after.all fun e => !Region.binds .any e || decide (e.on < i)
  | none => false) &&
 ((List.range n).all fun i => (List.range n).all fun j => decide (i = j) || (match dstOf ops j with
  | none => true
  | some d => (!(looks ops i).contains d || (if j < i then wt ops i j else wt ops j i)) && !(dstOf ops i == some d))) &&
 ((List.range n).all fun i => match dstOf ops i with
  | some d => !(looks ops i).contains d
  | none => true) &&
 Region.seqB .any ops (ops.size - n) n ((Array.range ops.size).map fun j => decide (j < n))
def gF (f0 : F) (ops : Array Oper) (v : Nat → Value) : Nat → F
 | 0 => f0
 | k + 1 => updO (gF f0 ops v k) (dstOf ops k) (v k)
def sF (f0 : F) (ops : Array Oper) (v : Nat → Value) (S : Nat → Bool) : Nat → F
 | 0 => f0
 | k + 1 => if S k then updO (sF f0 ops v S k) (dstOf ops k) (v k) else sF f0 ops v S k
theorem sF_all (f0 : F) (ops : Array Oper) (v : Nat → Value) (S : Nat → Bool) : ∀ k, (∀ j, j < k → S j = true) → sF f0 ops v S k = gF f0 ops v k
 | 0, _ => (rfl)
 | k + 1, h => by simp only [sF, gF, h k (Nat.lt_succ_self k), if_true, sF_all f0 ops v S k (fun j hj => h j om)]
theorem sF_agree {f0 : F} {ops : Array Oper} {v : Nat → Value} {S : Nat → Bool} {i : Nat} {t : Tmp} (h1 : ∀ j, j < i → dstOf ops j = some t → S j = true) (h2 : ∀ j, i ≤ j → dstOf ops j = some t → S j = false) :
  ∀ k, sF f0 ops v S k t = gF f0 ops v (min k i) t
 | 0 => by simp [sF, gF]
 | k + 1 => by
  have ih := sF_agree h1 h2 k (f0 := f0) (v := v)
  have other : ∀ (f : F), dstOf ops k ≠ some t → updO f (dstOf ops k) (v k) t = f t := fun f hne => by
   cases hd : dstOf ops k with
   | none => exact (rfl)
   | some d =>
    rw [updO_some, upd_apply, if_neg]
    intro e; exact hne (by rw [hd, e])
  by_cases hd : dstOf ops k = some t
  ·by_cases hk : k < i
   ·have hS := h1 k hk hd
    have e : min (k + 1) i = k + 1 := om
    have hg : gF f0 ops v (k + 1) = updO (gF f0 ops v k) (dstOf ops k) (v k) := (rfl)
    rw [e, hg]
    simp only [sF, hS, if_true, hd, updO_some, upd_apply]
   ·have hS := h2 k om hd
    have e : min (k + 1) i = min k i := om
    rw [e]
    simp only [sF, hS, Bool.false_eq_true, if_false]
    exact ih
  ·have hs : sF f0 ops v S (k + 1) t = sF f0 ops v S k t := by
    simp only [sF]
    split
    ·exact other _ hd
    ·exact (rfl)
   rw [hs, ih]
   by_cases hk : k < i
   ·have e : min (k + 1) i = min k i + 1 := om
    have e2 : min k i = k := om
    rw [e, e2]
    exact (other _ hd).symm
   ·have e : min (k + 1) i = min k i := om
    rw [e]
theorem sF_congr {f0 : F} {ops : Array Oper} {v : Nat → Value} {S S' : Nat → Bool} : ∀ k, (∀ j, j < k → S j = S' j) → sF f0 ops v S k = sF f0 ops v S' k
 | 0, _ => (rfl)
 | k + 1, h => by simp only [sF, h k (Nat.lt_succ_self k), sF_congr k (fun j hj => h j om)]
theorem sF_more {f0 : F} {ops : Array Oper} {v : Nat → Value} {S : Nat → Bool} {i n : Nat} (hi : i < n) (hS : S i = false) (hd : ∀ j, j < n → j ≠ i → ∀ d, dstOf ops j = some d → dstOf ops i ≠ some d) :
  sF f0 ops v (fun j => S j || decide (j = i)) n = updO (sF f0 ops v S n) (dstOf ops i) (v i) := by
 have comm : ∀ (f : F) (a b : Option Tmp) (x y : Value), (∀ d, a = some d → b ≠ some d) → updO (updO f a x) b y = updO (updO f b y) a x := by
  intro f a b x y hne
  cases a with
  | none => exact (rfl)
  | some a =>
   cases b with
   | none => exact (rfl)
   | some b =>
    funext t
    have : a ≠ b := fun e => hne a rfl (by rw [e])
    simp only [updO_some, upd_apply]
    by_cases e1 : t = b
    ·subst e1; simp [Ne.symm this]
    ·simp [e1]
 have key : ∀ k, k ≤ n → sF f0 ops v (fun j => S j || decide (j = i)) k = if i < k then updO (sF f0 ops v S k) (dstOf ops i) (v i) else sF f0 ops v S k := by
  intro k
  induction k with
  | zero => intro _; simp [sF]
  | succ k ih =>
   intro hk
   have ih' := ih om
   by_cases e : k = i
   ·subst e
    simp only [sF, decide_true, Bool.or_true, if_true, hS, Bool.false_eq_true, if_false, Nat.lt_succ_self] at ih' ⊢
    rw [ih', if_neg (Nat.lt_irrefl k)]
   ·have hne : decide (k = i) = false := decide_eq_false e
    have hs : sF f0 ops v (fun j => S j || decide (j = i)) (k + 1) = if S k then updO (sF f0 ops v (fun j => S j || decide (j = i)) k) (dstOf ops k) (v k) else sF f0 ops v (fun j => S j || decide (j = i)) k := by
     simp only [sF, hne, Bool.or_false]
    have hs2 : sF f0 ops v S (k + 1) = if S k then updO (sF f0 ops v S k) (dstOf ops k) (v k) else sF f0 ops v S k := (rfl)
    rw [hs, hs2, ih']
    cases hSk : S k with
    | false =>
     simp only [Bool.false_eq_true, if_false]
     by_cases hik : i < k
     ·rw [if_pos hik, if_pos (Nat.lt_succ_of_lt hik)]
     ·rw [if_neg hik, if_neg (fun h => om)]
    | true =>
     simp only [if_true]
     by_cases hik : i < k
     ·rw [if_pos hik, if_pos (Nat.lt_succ_of_lt hik)]
      exact comm _ _ _ _ _ (fun d h1 h2 => hd k om e d h2 h1)
     ·rw [if_neg hik, if_neg (fun h => om)]
 rw [key n (Nat.le_refl n), if_pos hi]
def QY (P : Program) (o : Oper) (f : F) (w' : World) (u : Value) : Prop :=
 (execOp (ev f) o).run P w' = .ok (.value u) w' ∨
 ∃ g args, (execOp (ev f) o).run P w' = .ok (.enter g args) w' ∧ Calls P g args w' fun e w'' => e = .returned u ∧ Ext w' w''
theorem stepR_yields {P : Program} {o : Oper} {f : F} {k : Value → World → Prop} {w : World} (h : stepR true P o f k w (pv P f o.op)) : ∃ v, (∀ w', Ext w w' → QY P o f w' v) ∧ k v w := by
 cases hp : pv P f o.op with
 | some v => rw [hp] at h; exact ⟨v, fun w' _ => .inl (pv_run hp), h⟩
 | none =>
  rw [hp] at h
  simp only [stepR] at h
  unfold OW at h
  split at h
  ·rename_i T x hop
   obtain ⟨v, hv, hkv⟩ := ldK_all h
   refine ⟨v, fun w' e => .inl ?_, hkv⟩
   unfold execOp; rw [hop]; exact run_bindV (hv w' e)
  ·rename_i c hop
   split at h
   ·rename_i x hc
    unfold fnK at h
    split at h
    ·rename_i g first captured hx
     obtain ⟨hg, h⟩ := h
     simp only [if_true] at h
     obtain ⟨v, hv, hkv⟩ := h
     exact ⟨v, fun w' e => .inr ⟨g, _, callOp_run hop hc hx hg, hv w' e⟩, hkv⟩
    ·exact h.elim
   ·exact h.elim
  ·exact h.elim
def OpAt (P : Program) (ops : Array Oper) (w : World) (f : F) (i : Nat) (u : Value) : Prop :=
 ∃ o, ops[i]? = some o ∧ guK o.guard ops f (∀ w', Ext w w' → QY P o f w' u) (u = undef)
theorem RL_vals {P : Program} {ops : Array Oper} {K : F → World → Prop} {w : World} (f0 : F) : ∀ (m i : Nat) (v0 : Nat → Value), i + m ≤ ops.size → RL true P ops K ((ops.toList.drop i).take m) (gF f0 ops v0 i) w →
  ∃ v, (∀ j, j < i → v j = v0 j) ∧ (∀ j, i ≤ j → j < i + m → OpAt P ops w (gF f0 ops v j) j (v j)) ∧ ∀ w', Ext w w' → K (gF f0 ops v (i + m)) w'
 | 0, i, v0, _, h => ⟨v0, fun _ _ => (rfl), fun j h1 h2 => om, by simpa [RL, finK] using h⟩
 | m + 1, i, v0, hle, h => by
  have hi : i < ops.size := om
  have hd : ops.toList.drop i = ops[i] :: ops.toList.drop (i + 1) := by
   rw [List.drop_eq_getElem_cons (by simpa using hi)]; simp
  rw [hd, List.take_succ_cons] at h
  simp only [RL] at h
  have gcong : ∀ (v v' : Nat → Value) (k : Nat), (∀ j, j < k → v j = v' j) → gF f0 ops v k = gF f0 ops v' k := by
   intro v v' k
   induction k with
   | zero => intro _; exact (rfl)
   | succ k ih => intro hv; simp only [gF, hv k (Nat.lt_succ_self k), ih (fun j hj => hv j om)]
  have hdst : dstOf ops i = ops[i].dst := by simp [dstOf, hi]
  have next : ∀ u, RL true P ops K ((ops.toList.drop (i + 1)).take m) (updO (gF f0 ops v0 i) ops[i].dst u) w → guK ops[i].guard ops (gF f0 ops v0 i) (∀ w', Ext w w' → QY P ops[i] (gF f0 ops v0 i) w' u) (u = undef) →
    ∃ v, (∀ j, j < i → v j = v0 j) ∧ (∀ j, i ≤ j → j < i + (m + 1) → OpAt P ops w (gF f0 ops v j) j (v j)) ∧ ∀ w', Ext w w' → K (gF f0 ops v (i + (m + 1))) w' := by
   intro u hk hq
   let v1 : Nat → Value := fun j => if j = i then u else v0 j
   have e1 : gF f0 ops v1 i = gF f0 ops v0 i := gcong _ _ _ (fun j hj => by simp only [v1]; rw [if_neg om])
   have e2 : gF f0 ops v1 (i + 1) = updO (gF f0 ops v0 i) ops[i].dst u := by
    simp only [gF, e1, hdst, v1, if_true]
   obtain ⟨v, hv, hop, hK⟩ := RL_vals (ops := ops) f0 m (i + 1) v1 om (by rw [e2]; exact hk)
   have hvi : v i = u := by rw [hv i (Nat.lt_succ_self i)]; simp [v1]
   have ev0 : gF f0 ops v i = gF f0 ops v0 i := gcong _ _ _ (fun j hj => by rw [hv j om]; simp only [v1]; rw [if_neg om])
   refine ⟨v, fun j hj => ?_, fun j h1 h2 => ?_, by rw [show i + (m + 1) = i + 1 + m from om]; exact hK⟩
   ·rw [hv j om]; simp only [v1]; rw [if_neg om]
   ·by_cases e : j = i
    ·subst e
     exact ⟨ops[j], by simp [hi], by rw [ev0, hvi]; exact hq⟩
    ·exact hop j om om
  unfold guK at h next
  cases hg : ops[i].guard with
  | none =>
   rw [hg] at h
   simp only at h
   obtain ⟨u, hu, hk⟩ := stepR_yields h
   exact next u hk (by simp only [hg]; exact hu)
  | some jw =>
   obtain ⟨j, want⟩ := jw
   rw [hg] at h
   simp only at h
   split at h
   ·rename_i hb
    obtain ⟨u, hu, hk⟩ := stepR_yields h
    exact next u hk (by simp only [hg]; rw [if_pos hb]; exact hu)
   ·rename_i hb
    exact next undef h (by simp only [hg]; rw [if_neg hb]; trivial)
def cnt (L : Array Bool) (n : Nat) : Nat := (List.range n).countP fun j => !L.getD j false
theorem cnt_set {L : Array Bool} {i : Nat} (hL : L.getD i false = false) (hs : i < L.size) : ∀ n, cnt (L.setIfInBounds i true) n + (if i < n then 1 else 0) = cnt L n := by
 intro n
 induction n with
 | zero => simp [cnt]
 | succ n ih =>
  simp only [cnt, List.range_succ, List.countP_append, List.countP_singleton] at ih ⊢
  by_cases e : n = i
  ·subst e
   have h1 : (L.setIfInBounds n true).getD n false = true := by simp [hs]
   simp only [h1, hL, Bool.not_true, Bool.not_false, Bool.false_eq_true, if_false, if_true, Nat.lt_irrefl, Nat.lt_succ_self] at ih ⊢
   omega
  ·have h1 : (L.setIfInBounds i true).getD n false = L.getD n false := getD_set_ne false (Ne.symm e)
   rw [h1]
   by_cases hi : i < n
   ·rw [if_pos hi] at ih; rw [if_pos (Nat.lt_succ_of_lt hi)]; omega
   ·rw [if_neg hi] at ih; rw [if_neg (show ¬ i < n + 1 from om)]; omega
theorem cnt_zero {L : Array Bool} {n : Nat} (h : cnt L n = 0) : ∀ j, j < n → L.getD j false = true := by
 intro j hj
 have := List.countP_eq_zero.1 h j (List.mem_range.2 hj)
 simpa using this
theorem cnt_pos {L : Array Bool} {n : Nat} (h : 0 < cnt L n) : ∃ i, i < n ∧ L.getD i false = false ∧ ∀ j, j < i → L.getD j false = true := by
 obtain ⟨i, hi, hp⟩ := List.countP_pos_iff.1 h
 have hi' := List.mem_range.1 hi
 have hp' : L.getD i false = false := by simpa using hp
 clear hi hp h
 induction i using Nat.strongRecOn with
 | _ i ih =>
  by_cases hex : ∃ j, j < i ∧ L.getD j false = false
  ·obtain ⟨j, hj, hjf⟩ := hex
   exact ih j hj om hjf
  ·refine ⟨i, hi', hp', fun j hj => ?_⟩
   cases hb : L.getD j false with
   | true => exact (rfl)
   | false => exact absurd ⟨j, hj, hb⟩ hex
theorem guK_congr {g : Option (Nat × Bool)} {ops : Array Oper} {f f' : F} {p q : Prop} (h : ∀ j want, g = some (j, want) → ∀ d, (ops[j]?).bind (·.dst) = some d → f d = f' d) : guK g ops f p q ↔ guK g ops f' p q := by
 unfold guK
 cases g with
 | none => exact Iff.rfl
 | some jw =>
  obtain ⟨j, want⟩ := jw
  have e : gb f want ((ops[j]?).bind (·.dst)) = gb f' want ((ops[j]?).bind (·.dst)) := by
   cases hd : (ops[j]?).bind (·.dst) with
   | none => exact (rfl)
   | some d => simp only [gb, h j want rfl d hd]
  simp only [e]
theorem exec_agree {o : Oper} {f f' : F} (hs : noSel o.op = true) (h : ∀ t, Operand.tmp t ∈ o.op.operands → f t = f' t) : execOp (ev f) o = execOp (ev f') o := by
 refine execOp_congr o (fun cs b e => by rw [e] at hs; simp [noSel] at hs) fun x hx => ?_
 cases x with
 | tmp t => exact h t hx
 | _ => exact (rfl)
section
variable {P : Program} {N : Nat} {ops : Array Oper} {w : World} {f0 : F} {v : Nat → Value} {n : Nat} {Q : Exit → Act → World → Prop} {Kt : F → World → Prop}
theorem any_tail (hall : ∀ o ∈ ops, operOk N o = true) (hB : tailB ops n = true) (hop : ∀ j, j < n → OpAt P ops w (gF f0 ops v j) j (v j))
  (hK : ∀ w', Ext w w' → RL false P ops Kt (ops.toList.drop n) (gF f0 ops v n) w') (hQ : ∀ f w, Kt f w → Q .normal (fr N f) w) :
  ∀ (m : Nat) (L : Array Bool) (w' : World), Ext w w' → HeadInv .any ops n L → cnt L n = m → wpAny P .any ops Q (m + (ops.size - n)) L (fr N (sF f0 ops v (fun j => L.getD j false) n)) w' := by
 simp only [tailB, Bool.and_eq_true, decide_eq_true_eq] at hB
 obtain ⟨⟨⟨⟨⟨⟨⟨_, hn⟩, hsink⟩, hchain⟩, hord⟩, hap⟩, hself⟩, hseq⟩ := hB
 have hok : ∀ i o, ops[i]? = some o → operOk N o = true := fun i o ho => hall o (Array.mem_of_getElem? ho)
 intro m
 induction m with
 | zero =>
  intro L w' hx inv hc
  have hL := cnt_zero hc
  have e : L = (Array.range ops.size).map fun j => decide (j < n) := by
   apply Array.ext
   ·simp [inv.size]
   ·intro j h1 h2
    by_cases hj : j < n
    ·have := hL j hj
     simp [h1] at this ⊢
     rw [this]; simp [hj]
    ·have := inv.tail j om (by rw [← inv.size]; exact h1)
     simp [h1] at this ⊢
     rw [this]; simp [hj]
  rw [sF_all f0 ops v _ n hL, Nat.zero_add]
  have hlen : (ops.toList.drop n).length = ops.size - n := by simp
  have hw := RL_wpList hall hQ (ops.toList.drop n) _ _ (fun o ho => hall o (Array.mem_toList_iff.1 (List.mem_of_mem_drop ho))) (hK w' hx)
  have := wpAny_of_seq (md := .any) (P := P) (Q' := Q) (ops.toList.drop n) n L (fr N (gF f0 ops v n)) w' (fun j => by simp [List.getElem?_drop]) (by rw [hlen, e]; exact hseq) hw
  rwa [hlen] at this
 | succ m ih =>
  intro L w' hx inv hc
  rw [show m + 1 + (ops.size - n) = (m + (ops.size - n)) + 1 from om]
  obtain ⟨i0, hi0, hf0, hlow⟩ := cnt_pos (L := L) (n := n) om
  have tail : ∀ i ∈ Region.ready .any ops L, i < n := fun i hi => by
   rcases Nat.lt_or_ge i n with h | h
   ·exact h
   ·exact absurd hi (tail_waits hsink hchain hn inv _ i0 rfl hi0 (getD_in (by rw [inv.size]; omega) hf0) i h)
  refine ⟨fun h0 => ?_, fun i hi => ?_⟩
  ·exfalso
   have : i0 ∈ Region.ready .any ops L := by
    refine mem_ready.2 ⟨getD_in (by rw [inv.size]; omega) hf0, ops[i0]'om, by simp [show i0 < ops.size from om], fun e he hb => ?_⟩
    have h1 := List.all_eq_true.1 hord i0 (List.mem_range.2 hi0)
    rw [show ops[i0]? = some (ops[i0]'om) from by simp [show i0 < ops.size from om]] at h1
    have h2 := Array.all_eq_true_iff_forall_mem.1 h1 e he
    simp only [hb, Bool.not_true, Bool.false_or, decide_eq_true_eq] at h2
    exact hlow e.on h2
   rw [h0] at this; cases this
  ·have hin := tail i hi
   obtain ⟨hun, o, ho, hdeps⟩ := mem_ready.1 hi
   have hunf : L.getD i false = false := getD_both hun
   obtain ⟨o', ho', hgu⟩ := hop i hin
   have : o' = o := Option.some.inj (ho'.symm.trans ho)
   subst this
   have hlooks : looks ops i = o'.looksAt ops := by simp [looks, ho]
   have agree : ∀ t, t ∈ o'.looksAt ops → sF f0 ops v (fun j => L.getD j false) n t = gF f0 ops v i t := by
    intro t ht
    have hmin : min n i = i := om
    have h1 : ∀ j, j < i → dstOf ops j = some t → L.getD j false = true := by
     intro j hj hd
     have h := List.all_eq_true.1 (List.all_eq_true.1 hap i (List.mem_range.2 hin)) j (List.mem_range.2 om)
     simp only [hd, hlooks, show ¬ i = j from om, decide_false, Bool.false_or, Bool.and_eq_true, Bool.or_eq_true, Bool.not_eq_true', hj, if_true] at h
     rcases h.1 with h | h
     ·rw [show (o'.looksAt ops).contains t = true from by simpa using ht] at h; cases h
     ·unfold wt at h
      rw [ho] at h
      obtain ⟨e, he, hb⟩ := Array.any_eq_true'.1 h
      simp only [Bool.and_eq_true, beq_iff_eq] at hb
      have := hdeps e he hb.1
      rwa [hb.2] at this
    have h2 : ∀ j, i ≤ j → dstOf ops j = some t → L.getD j false = false := by
     intro j hj hd
     by_cases e : j = i
     ·subst e; exact hunf
     ·by_cases hjn : j < n
      ·have h := List.all_eq_true.1 (List.all_eq_true.1 hap i (List.mem_range.2 hin)) j (List.mem_range.2 hjn)
       simp only [hd, hlooks, show ¬ i = j from om, decide_false, Bool.false_or, Bool.and_eq_true, Bool.or_eq_true, Bool.not_eq_true', show ¬ j < i from om, if_false] at h
       rcases h.1 with h | h
       ·rw [show (o'.looksAt ops).contains t = true from by simpa using ht] at h; cases h
       ·cases hb : L.getD j false with
        | false => exact (rfl)
        | true =>
         exfalso
         unfold wt at h
         cases hj' : ops[j]? with
         | none => rw [hj'] at h; simp at h
         | some oj =>
          rw [hj'] at h
          obtain ⟨e, he, hbb⟩ := Array.any_eq_true'.1 h
          simp only [Bool.and_eq_true, beq_iff_eq] at hbb
          have := inv.closed j oj hj' hb e he hbb.1
          rw [hbb.2, hunf] at this; cases this
      ·rcases Nat.lt_or_ge j ops.size with h | h
       ·exact getD_both (inv.tail j om h)
       ·simp [dstOf, Array.getElem?_eq_none h] at hd
    have := sF_agree (f0 := f0) (v := v) (S := fun j => L.getD j false) h1 h2 n
    rw [this, hmin]
   have hgu' := (guK_congr (f' := sF f0 ops v (fun j => L.getD j false) n) (fun j want hg d hd => (agree d (by
    unfold Oper.looksAt
    rw [hg]
    exact List.mem_append_right _ (by simp [hd]))).symm)).1 hgu
   have hexec : execOp (fr N (sF f0 ops v (fun j => L.getD j false) n)).eval o' = execOp (ev (gF f0 ops v i)) o' := by
    rw [exec_fr (hok i o' ho)]
    have hns := hok i o' ho
    simp only [operOk, Bool.and_eq_true] at hns
    exact exec_agree hns.2 fun t ht => agree t (List.mem_append_left _ (List.mem_filterMap.2 ⟨.tmp t, by simpa using ht, rfl⟩))
   have hwd := guK_wanted (N := N) hall hgu'
   have hS : sF f0 ops v (fun j => (L.setIfInBounds i true).getD j false) n = updO (sF f0 ops v (fun j => L.getD j false) n) (dstOf ops i) (v i) := by
    rw [← sF_more (v := v) (f0 := f0) (ops := ops) (S := fun j => L.getD j false) hin hunf (fun j hj hne d hd => by
     have h := List.all_eq_true.1 (List.all_eq_true.1 hap i (List.mem_range.2 hin)) j (List.mem_range.2 hj)
     simp only [hd, show ¬ i = j from fun e => hne e.symm, decide_false, Bool.false_or, Bool.and_eq_true, Bool.not_eq_true'] at h
     intro e; rw [e] at h; simp at h)]
    refine sF_congr n fun j hj => ?_
    by_cases e : j = i
    ·subst e
     have : (L.setIfInBounds j true).getD j false = true := by simp [show j < L.size by rw [inv.size]; omega]
     simp [this]
    ·rw [getD_set_ne false (Ne.symm e)]; simp [e]
   have hdst : dstOf ops i = o'.dst := by simp [dstOf, ho]
   have go : ∀ w2, Ext w w2 → wpAny P .any ops Q (m + (ops.size - n)) (L.setIfInBounds i true) ((fr N (sF f0 ops v (fun j => L.getD j false) n)).put o'.dst (v i)) w2 := by
    intro w2 hx2
    rw [put_fr' (hok i o' ho), ← hdst, ← hS]
    refine ih _ w2 hx2 (inv.set hi hin) ?_
    have := cnt_set hunf (by rw [inv.size]; omega) n
    rw [if_pos hin] at this
    omega
   unfold wpOp
   rw [ho]
   simp only
   by_cases hw : Region.wanted o' (yielded ops (fr N (sF f0 ops v (fun j => L.getD j false) n)).tmps) = true
   ·rw [if_pos hw] at hwd ⊢
    left
    unfold Oper.wp
    rw [hexec]
    rcases hwd w' hx with hr | ⟨g, args, hr, hcall⟩
    ·rw [hr]; exact go w' hx
    ·rw [hr]
     exact Calls.mono hcall fun e w2 ⟨he, hx2⟩ => by subst he; exact go w2 (hx.trans hx2)
   ·rw [if_neg hw] at hwd ⊢
    rw [← hwd]; exact go w' hx
end
theorem QR_tail {P : Program} {N : Nat} {Kn : F → World → Prop} {Ke : Nat → F → World → Prop} {Kr : F → World → Prop} {f : F} {w : World} {id : Nat} {l : List Oper} (n : Nat) (hm : P.follows .mixedOrders = true) (hB : tailB l.toArray n = true)
  (h : RL true P l.toArray (RL false P l.toArray Kn (l.drop n)) (l.take n) f w) : QR P N id l.toArray Kn Ke Kr f w := by
 intro hok
 have hall : ∀ o ∈ l.toArray, operOk N o = true := Array.all_eq_true_iff_forall_mem.1 hok
 have hn : n < l.toArray.size := by
  simp only [tailB, Bool.and_eq_true, decide_eq_true_eq] at hB
  exact hB.1.1.1.1.1.1.2
 obtain ⟨v, _, hop, hK⟩ := RL_vals (P := P) (ops := l.toArray) (w := w) f n 0 (fun _ => undef) om (by simpa [gF] using h)
 refine wp_region_any hm ?_
 have inv0 : HeadInv .any l.toArray n (Array.replicate l.toArray.size false) :=
  ⟨by simp, fun j oj _ hl => (by rw [getD_replicate_false] at hl; cases hl), fun t _ ht => getD_in (by simpa using ht) (getD_replicate_false _ _)⟩
 have hc : cnt (Array.replicate l.toArray.size false) n = n := by
  unfold cnt
  have : (fun j => !(Array.replicate l.toArray.size false).getD j false) = fun _ => true := by funext j; rw [getD_replicate_false]; rfl
  rw [this]; simp
 have hS : (fun j => (Array.replicate l.toArray.size false).getD j false) = fun _ => false := by funext j; exact getD_replicate_false _ _
 have hs : ∀ k, sF f l.toArray v (fun j => (Array.replicate l.toArray.size false).getD j false) k = f := by
  rw [hS]
  intro k
  induction k with
  | zero => exact (rfl)
  | succ k ih => simp only [sF, Bool.false_eq_true, if_false]; exact ih
 have := any_tail (Q := cont N Kn Ke Kr) (Kt := Kn) hall hB (fun j hj => hop j (Nat.zero_le _) om) (fun w' e => by simpa using hK w' e) (fun f w hk => ⟨f, rfl, hk⟩) n _ _ (Ext.drew w) inv0 hc
 rw [hs n, show n + (l.toArray.size - n) = l.toArray.size from om] at this
 exact this
attribute [go_sem] List.take_succ_cons List.take_zero List.drop_succ_cons List.drop_zero
inductive Sch where
 | done : Sch
 | st : Nat → Sch → Sch
 | ef : Nat → Sch → Sch
 | fin : Nat → Sch → Sch
 | alt : Sch → Sch → Sch
def Sch.heads : Sch → List Nat
 | .done => []
 | .st i _ => [i]
 | .ef i _ => [i]
 | .fin i _ => [i]
 | .alt a b => a.heads ++ b.heads
def lastB (ops : Array Oper) (i : Nat) : Bool := (List.range ops.size).all fun j => j == i || wt ops i j || (List.range ops.size).any fun k => wt ops i k && wt ops k j
def schB (ops : Array Oper) : Bool → Sch → Array Bool → Bool
 | c, .done, L => c && (List.range ops.size).all fun j => L.getD j false
 | c, .st i s, L => c && (Region.ready .any ops L).contains i && schB ops true s (L.setIfInBounds i true)
 | c, .ef i s, L => (Region.ready .any ops L).contains i && (!c || (Region.ready .any ops L).all (· == i)) && schB ops true s (L.setIfInBounds i true)
 | c, .fin i s, L => (Region.ready .any ops L).contains i && (!c || (Region.ready .any ops L).all (· == i)) && lastB ops i && schB ops true s (L.setIfInBounds i true)
 | c, .alt a b, L => (!c || (Region.ready .any ops L).all ((Sch.alt a b).heads.contains ·)) && schB ops false a L && schB ops false b L
def anyB (ops : Array Oper) : Bool :=
 ((List.range ops.size).all fun i => match ops[i]? with
  | some o => o.after.all fun e => !Region.binds .any e || decide (e.on < i)
  | none => false) &&
 ((List.range ops.size).all fun i => (List.range ops.size).all fun j => decide (i = j) || (match dstOf ops j with
  | none => true
  | some d => (!(looks ops i).contains d || (if j < i then wt ops i j else wt ops j i)) && !(dstOf ops i == some d))) &&
 ((List.range ops.size).all fun i => match dstOf ops i with
  | some d => !(looks ops i).contains d
  | none => true)
def ldS (P : Program) (ob : Option Nat) (T : TypeId) (x : Value) (k : Value → World → Prop) (w : World) : Prop :=
 (match x with | .pointer (some a) => ob ≠ some a.block | _ => False) ∧ ldK P T x k w
def ldO (P : Program) (ob : Option Nat) (f : F) (k : Value → World → Prop) (w : World) : Op → Prop
 | .load T x => ldS P ob T (ev f x) k w
 | _ => False
def stepS (P : Program) (ob : Option Nat) (o : Oper) (f : F) (k : Value → World → Prop) (w : World) : Option Value → Prop
 | some v => k v w
 | none => ldO P ob f k w o.op
def atL : List Oper → Nat → Option Oper
 | [], _ => none
 | o :: _, 0 => some o
 | _ :: l, n + 1 => atL l n
theorem atL_get : ∀ (l : List Oper) (i : Nat), atL l i = l[i]?
 | [], _ => by simp [atL]
 | o :: l, 0 => by simp [atL]
 | o :: l, n + 1 => by simp [atL, atL_get l n]
def RLT (P : Program) (ob : Option Nat) (l : List Oper) (K : F → World → Prop) : Sch → F → World → Prop
 | .done, f, w => K f w
 | .st i s, f, w => match atL l i with
  | some o => guK o.guard l.toArray f (stepS P ob o f (fun v w' => RLT P ob l K s (updO f o.dst v) w') w (pv P f o.op)) (RLT P ob l K s (updO f o.dst undef) w)
  | none => False
 | .ef i s, f, w => match atL l i with
  | some o => guK o.guard l.toArray f (stepR false P o f (fun v w' => Grow ob w w' ∧ RLT P ob l K s (updO f o.dst v) w') w (pv P f o.op)) (RLT P ob l K s (updO f o.dst undef) w)
  | none => False
 | .fin i s, f, w => match atL l i with
  | some o => guK o.guard l.toArray f (stepR false P o f (fun v w' => RLT P ob l K s (updO f o.dst v) w') w (pv P f o.op)) (RLT P ob l K s (updO f o.dst undef) w)
  | none => False
 | .alt a b, f, w => RLT P ob l K a f w ∧ RLT P ob l K b f w
theorem guK_mono {g : Option (Nat × Bool)} {ops : Array Oper} {f : F} {p q p' q' : Prop} (h : guK g ops f p q) (h1 : p → p') (h2 : q → q') : guK g ops f p' q' := by
 unfold guK at *
 split
 ·exact h1 h
 ·split
  ·rename_i hb; simp only at h; rw [if_pos hb] at h; exact h1 h
  ·rename_i hb; simp only at h; rw [if_neg hb] at h; exact h2 h
theorem readCells_grow {ob : Option Nat} {w w' : World} (e : Grow ob w w') {a : Addr} (hb : ob ≠ some a.block) : ∀ {n : Nat} {vs : List Value}, readCells w a n = some vs → readCells w' a n = some vs := by
 intro n
 unfold readCells
 generalize List.range n = l
 induction l with
 | nil => intro vs h; exact h
 | cons i l ih =>
  intro vs h
  rw [List.mapM_cons] at h ⊢
  cases hc : w.cell? (a.add i) with
  | none => simp [hc] at h
  | some v =>
   have hb' : ob ≠ some (a.add i).block := by unfold Addr.add; split <;> exact hb
   cases hr : l.mapM (fun i => w.cell? (a.add i)) with
   | none => simp [hc, hr] at h
   | some rest =>
    simp only [hc, hr] at h
    simp only [e.cell hc hb', ih hr]
    exact h
theorem ldS_yields {P : Program} {ob : Option Nat} {T : TypeId} {x : Value} {k : Value → World → Prop} {w : World} (h : ldS P ob T x k w) : ∃ v, (∀ w', Grow ob w w' → (Instr.loadAt T x).run P w' = .ok v w') ∧ k v w := by
 obtain ⟨hb, h⟩ := h
 cases x with
 | pointer p =>
  cases p with
  | none => exact h.elim
  | some a =>
   simp only at hb
   simp only [ldK] at h
   split at h
   ·rename_i hs
    cases hc : w.cell? a with
    | none => rw [hc] at h; exact h.elim
    | some v =>
     rw [hc] at h
     refine ⟨v, fun w' e => ?_, h⟩
     obtain ⟨u, hu, rfl⟩ := ldK_run (P := P) (T := T) (x := .pointer (some a)) (k := fun u _ => u = v) (w := w') (by simp only [ldK, hs, if_true, e.cell hc hb, rdK])
     exact hu
   ·rename_i hs
    cases hn : aggN P T with
    | none => rw [hn] at h; exact h.elim
    | some n =>
     rw [hn] at h
     simp only at h
     cases hc : readCells w a n with
     | none => rw [hc] at h; exact h.elim
     | some vs =>
      rw [hc] at h
      refine ⟨.agg vs.toArray, fun w' e => ?_, h⟩
      have hc' : readCells w' a n = some vs := readCells_grow e hb hc
      obtain ⟨u, hu, rfl⟩ := ldK_run (P := P) (T := T) (x := .pointer (some a)) (k := fun u _ => u = .agg vs.toArray) (w := w') (by simp only [ldK, hs, Bool.false_eq_true, if_false, hn, hc', rdcK])
      exact hu
 | _ => exact h.elim
theorem stepS_yields {P : Program} {ob : Option Nat} {o : Oper} {f : F} {k : Value → World → Prop} {w : World} (h : stepS P ob o f k w (pv P f o.op)) :
  ∃ v, (∀ w', Grow ob w w' → (execOp (ev f) o).run P w' = .ok (.value v) w') ∧ k v w := by
 cases hp : pv P f o.op with
 | some v => rw [hp] at h; exact ⟨v, fun w' _ => pv_run hp, h⟩
 | none =>
  rw [hp] at h
  simp only [stepS] at h
  unfold ldO at h
  split at h
  ·rename_i T x hop
   obtain ⟨v, hv, hkv⟩ := ldS_yields h
   refine ⟨v, fun w' e => ?_, hkv⟩
   unfold execOp; rw [hop]; exact run_bindV (hv w' e)
  ·exact h.elim
theorem gu_yields {P : Program} {ob : Option Nat} {ops : Array Oper} {o : Oper} {f : F} {k : Value → World → Prop} {w : World} (h : guK o.guard ops f (stepS P ob o f k w (pv P f o.op)) (k undef w)) :
  ∃ v, guK o.guard ops f (∀ w', Grow ob w w' → (execOp (ev f) o).run P w' = .ok (.value v) w') (v = undef) ∧ k v w := by
 unfold guK at *
 split at h
 ·obtain ⟨v, h1, h2⟩ := stepS_yields h; exact ⟨v, h1, h2⟩
 ·split at h
  ·rename_i hb
   obtain ⟨v, h1, h2⟩ := stepS_yields h
   exact ⟨v, by rw [if_pos hb]; exact h1, h2⟩
  ·rename_i hb
   exact ⟨undef, by rw [if_neg hb], h⟩
theorem sF_at {f0 : F} {ops : Array Oper} {v v' : Nat → Value} {S S' : Nat → Bool} {t : Tmp} : ∀ k, (∀ j, j < k → dstOf ops j = some t → S j = S' j ∧ (S j = true → v j = v' j)) → sF f0 ops v S k t = sF f0 ops v' S' k t
 | 0, _ => (rfl)
 | k + 1, h => by
  have ih := sF_at (f0 := f0) (v := v) (v' := v') (S := S) (S' := S') (t := t) k (fun j hj => h j om)
  have other : ∀ (f : F) (x : Value), dstOf ops k ≠ some t → updO f (dstOf ops k) x t = f t := fun f x hne => by
   cases hd : dstOf ops k with
   | none => exact (rfl)
   | some d =>
    rw [updO_some, upd_apply, if_neg]
    intro e; exact hne (by rw [hd, e])
  by_cases hd : dstOf ops k = some t
  ·obtain ⟨h1, h2⟩ := h k (Nat.lt_succ_self k) hd
   simp only [sF, ← h1]
   split
   ·next hS => simp only [hd, updO_some, upd_apply, h2 hS, if_true]
   ·exact ih
  ·have e1 : sF f0 ops v S (k + 1) t = sF f0 ops v S k t := by
    simp only [sF]; split
    ·exact other _ _ hd
    ·exact (rfl)
   have e2 : sF f0 ops v' S' (k + 1) t = sF f0 ops v' S' k t := by
    simp only [sF]; split
    ·exact other _ _ hd
    ·exact (rfl)
   rw [e1, e2, ih]
theorem sF_val {f0 : F} {ops : Array Oper} {v v' : Nat → Value} {S : Nat → Bool} (k : Nat) (h : ∀ j, j < k → S j = true → v j = v' j) : sF f0 ops v S k = sF f0 ops v' S k := by
 funext t
 exact sF_at k fun j hj _ => ⟨rfl, h j hj⟩
section
variable {P : Program} {N : Nat} {ops : Array Oper} {ob : Option Nat} {f0 : F} {Q : Exit → Act → World → Prop} {K : F → World → Prop}
abbrev bF (f0 : F) (ops : Array Oper) (v : Nat → Value) (L : Array Bool) : F := sF f0 ops v (fun j => L.getD j false) ops.size
structure Sim (P : Program) (ops : Array Oper) (ob : Option Nat) (f0 : F) (L Lv : Array Bool) (v : Nat → Value) (w : World) : Prop where
 iL : HeadInv .any ops ops.size L
 iV : HeadInv .any ops ops.size Lv
 sub : ∀ j, L.getD j false = true → Lv.getD j false = true
 rec' : ∀ i, Lv.getD i false = true → L.getD i false = false → ∃ o S, ops[i]? = some o ∧ HeadInv .any ops ops.size S ∧ S.getD i false = false ∧ (∀ e ∈ o.after, Region.binds .any e = true → S.getD e.on false = true) ∧
  (∀ j, S.getD j false = true → Lv.getD j false = true) ∧ ∀ w', Grow ob w w' → guK o.guard ops (bF f0 ops v S) ((execOp (ev (bF f0 ops v S)) o).run P w' = .ok (.value (v i)) w') (v i = undef)
theorem anyB_apart (hB : anyB ops = true) {i j : Nat} (hi : i < ops.size) (hj : j < ops.size) (hne : i ≠ j) {d : Tmp} (hd : dstOf ops j = some d) :
  (d ∈ looks ops i → if j < i then wt ops i j = true else wt ops j i = true) ∧ dstOf ops i ≠ some d := by
 simp only [anyB, Bool.and_eq_true] at hB
 have h := List.all_eq_true.1 (List.all_eq_true.1 hB.1.2 i (List.mem_range.2 hi)) j (List.mem_range.2 hj)
 simp only [hd, hne, decide_false, Bool.false_or, Bool.and_eq_true, Bool.or_eq_true, Bool.not_eq_true'] at h
 refine ⟨fun hm => ?_, fun e => by rw [e] at h; simp at h⟩
 rcases h.1 with h | h
 ·rw [show (looks ops i).contains d = true from by simpa using hm] at h; cases h
 ·split <;> rename_i hji
  ·rw [if_pos hji] at h; exact h
  ·rw [if_neg hji] at h; exact h
theorem anyB_self (hB : anyB ops = true) {i : Nat} (hi : i < ops.size) {d : Tmp} (hd : dstOf ops i = some d) : d ∉ looks ops i := by
 simp only [anyB, Bool.and_eq_true] at hB
 have h := List.all_eq_true.1 hB.2 i (List.mem_range.2 hi)
 simp only [hd, Bool.not_eq_true'] at h
 intro hm
 rw [show (looks ops i).contains d = true from by simpa using hm] at h; cases h
theorem anyB_oper (hB : anyB ops = true) {i : Nat} {o : Oper} (ho : ops[i]? = some o) : ∀ e ∈ o.after, Region.binds .any e = true → e.on < i := by
 simp only [anyB, Bool.and_eq_true] at hB
 have h := List.all_eq_true.1 hB.1.1 i (List.mem_range.2 (Array.getElem?_eq_some_iff.1 ho).1)
 rw [ho] at h
 intro e he hb
 have := Array.all_eq_true_iff_forall_mem.1 h e he
 simpa [hb] using this
theorem wt_done {o : Oper} {i j : Nat} {S : Array Bool} (ho : ops[i]? = some o) (hdeps : ∀ e ∈ o.after, Region.binds .any e = true → S.getD e.on false = true) (h : wt ops i j = true) : S.getD j false = true := by
 unfold wt at h
 rw [ho] at h
 obtain ⟨e, he, hb⟩ := Array.any_eq_true'.1 h
 simp only [Bool.and_eq_true, beq_iff_eq] at hb
 have := hdeps e he hb.1
 rwa [hb.2] at this
theorem look_same (hB : anyB ops = true) {i : Nat} {o : Oper} (ho : ops[i]? = some o) {S T : Array Bool} {v v' : Nat → Value} (iS : HeadInv .any ops ops.size S) (iT : HeadInv .any ops ops.size T)
  (hS : S.getD i false = false) (hT : T.getD i false = false) (dS : ∀ e ∈ o.after, Region.binds .any e = true → S.getD e.on false = true) (dT : ∀ e ∈ o.after, Region.binds .any e = true → T.getD e.on false = true)
  (hv : ∀ j, S.getD j false = true → T.getD j false = true → v j = v' j) {t : Tmp} (hl : t ∈ looks ops i) : bF f0 ops v S t = bF f0 ops v' T t := by
 have hi := (Array.getElem?_eq_some_iff.1 ho).1
 refine sF_at ops.size fun j hj hd => ?_
 have hij : i ≠ j := fun e => by subst e; exact anyB_self hB hi hd hl
 have h := (anyB_apart hB hi hj hij hd).1 hl
 split at h
 ·have h1 := wt_done ho dS h
  have h2 := wt_done ho dT h
  exact ⟨by rw [h1, h2], fun _ => hv j h1 h2⟩
 ·have key : ∀ {U : Array Bool}, HeadInv .any ops ops.size U → U.getD i false = false → U.getD j false = false := by
   intro U iU hU
   cases hb : U.getD j false with
   | false => exact (rfl)
   | true =>
    exfalso
    have := wt_done (ops := ops) (S := U) (i := j) (j := i) (o := ops[j]) (by simp [hj]) (fun e he hbb => iU.closed j ops[j] (by simp [hj]) hb e he hbb) h
    rw [hU] at this; cases this
  exact ⟨by rw [key iS hS, key iT hT], fun h' => by rw [key iS hS] at h'; cases h'⟩
theorem exec_same (hall : ∀ o ∈ ops, operOk N o = true) (hB : anyB ops = true) {i : Nat} {o : Oper} (ho : ops[i]? = some o) {S T : Array Bool} {v v' : Nat → Value} (iS : HeadInv .any ops ops.size S) (iT : HeadInv .any ops ops.size T)
  (hS : S.getD i false = false) (hT : T.getD i false = false) (dS : ∀ e ∈ o.after, Region.binds .any e = true → S.getD e.on false = true) (dT : ∀ e ∈ o.after, Region.binds .any e = true → T.getD e.on false = true)
  (hv : ∀ j, S.getD j false = true → T.getD j false = true → v j = v' j) : execOp (ev (bF f0 ops v S)) o = execOp (ev (bF f0 ops v' T)) o := by
 have hns := hall o (Array.mem_of_getElem? ho)
 simp only [operOk, Bool.and_eq_true] at hns
 refine exec_agree hns.2 fun t ht => look_same hB ho iS iT hS hT dS dT hv ?_
 simp only [looks, ho]
 exact List.mem_append_left _ (List.mem_filterMap.2 ⟨.tmp t, by simpa using ht, rfl⟩)
theorem gu_same (hB : anyB ops = true) {i : Nat} {o : Oper} (ho : ops[i]? = some o) {S T : Array Bool} {v v' : Nat → Value} (iS : HeadInv .any ops ops.size S) (iT : HeadInv .any ops ops.size T)
  (hS : S.getD i false = false) (hT : T.getD i false = false) (dS : ∀ e ∈ o.after, Region.binds .any e = true → S.getD e.on false = true) (dT : ∀ e ∈ o.after, Region.binds .any e = true → T.getD e.on false = true)
  (hv : ∀ j, S.getD j false = true → T.getD j false = true → v j = v' j) {p q : Prop} : guK o.guard ops (bF f0 ops v S) p q ↔ guK o.guard ops (bF f0 ops v' T) p q := by
 refine guK_congr fun j want hg d hd => look_same hB ho iS iT hS hT dS dT hv ?_
 simp only [looks, ho]
 unfold Oper.looksAt
 rw [hg]
 exact List.mem_append_right _ (by simp [hd])
theorem bF_put (hB : anyB ops = true) {i : Nat} (hi : i < ops.size) {L : Array Bool} (hs : L.size = ops.size) (hL : L.getD i false = false) (v : Nat → Value) (u : Value) :
  bF f0 ops (fun k => if k = i then u else v k) (L.setIfInBounds i true) = updO (bF f0 ops v L) (dstOf ops i) u := by
 have h1 := sF_more (f0 := f0) (v := fun k => if k = i then u else v k) (ops := ops) (S := fun j => L.getD j false) hi hL (fun j hj hne d hd => (anyB_apart hB hi hj (Ne.symm hne) hd).2)
 simp only [if_true] at h1
 have h2 : sF f0 ops (fun k => if k = i then u else v k) (fun j => L.getD j false) ops.size = sF f0 ops v (fun j => L.getD j false) ops.size :=
  sF_val _ fun j _ hSj => by
   have : j ≠ i := fun e => by subst e; rw [hL] at hSj; cases hSj
   simp [this]
 rw [h2] at h1
 rw [← h1]
 refine sF_congr _ fun j hj => ?_
 by_cases e : j = i
 ·subst e
  have : (L.setIfInBounds j true).getD j false = true := by simp [show j < L.size from om]
  simp [this]
 ·rw [getD_set_ne false (Ne.symm e)]; simp [e]
theorem bF_keep {L Lv : Array Bool} (hsub : ∀ j, L.getD j false = true → Lv.getD j false = true) {i : Nat} (hL : Lv.getD i false = false) (v : Nat → Value) (u : Value) :
  bF f0 ops (fun k => if k = i then u else v k) L = bF f0 ops v L :=
 sF_val _ fun j _ hSj => by
  have : j ≠ i := fun e => by subst e; rw [hsub j hSj] at hL; cases hL
  simp [this]
theorem HeadInv.dep {L : Array Bool} (iL : HeadInv .any ops ops.size L) {i : Nat} {o : Oper} (hi : i ∈ Region.ready .any ops L) (ho : ops[i]? = some o) : ∀ e ∈ o.after, Region.binds .any e = true → L.getD e.on false = true := by
 obtain ⟨_, o', ho', h⟩ := mem_ready.1 hi
 obtain rfl : o' = o := Option.some.inj (ho'.symm.trans ho)
 exact h
theorem ready_sub {L Lv : Array Bool} (iV : HeadInv .any ops ops.size Lv) (hsub : ∀ j, L.getD j false = true → Lv.getD j false = true) {i : Nat} (hi : i ∈ Region.ready .any ops L) (hL : Lv.getD i false = false) : i ∈ Region.ready .any ops Lv := by
 obtain ⟨_, o, ho, h⟩ := mem_ready.1 hi
 have hlt := (Array.getElem?_eq_some_iff.1 ho).1
 exact mem_ready.2 ⟨getD_in (by rw [iV.size]; exact hlt) hL, o, ho, fun e he hb => hsub _ (h e he hb)⟩
theorem full_done : ∀ (t : Sch) (c : Bool) {L : Array Bool}, schB ops c t L = true → (∀ j, j < ops.size → L.getD j false = true) → t = .done ∧ c = true
 | .done, c, L, h, _ => by simp only [schB, Bool.and_eq_true] at h; exact ⟨rfl, h.1⟩
 | .st i s, c, L, h, hL => by
  simp only [schB, Bool.and_eq_true] at h
  obtain ⟨h1, o, ho, _⟩ := mem_ready.1 (show i ∈ Region.ready .any ops L from by simpa using h.1.2)
  have := hL i (Array.getElem?_eq_some_iff.1 ho).1
  rw [getD_both h1] at this; cases this
 | .ef i s, c, L, h, hL => by
  simp only [schB, Bool.and_eq_true] at h
  obtain ⟨h1, o, ho, _⟩ := mem_ready.1 (show i ∈ Region.ready .any ops L from by simpa using h.1.1)
  have := hL i (Array.getElem?_eq_some_iff.1 ho).1
  rw [getD_both h1] at this; cases this
 | .fin i s, c, L, h, hL => by
  simp only [schB, Bool.and_eq_true] at h
  obtain ⟨h1, o, ho, _⟩ := mem_ready.1 (show i ∈ Region.ready .any ops L from by simpa using h.1.1.1)
  have := hL i (Array.getElem?_eq_some_iff.1 ho).1
  rw [getD_both h1] at this; cases this
 | .alt a b, c, L, h, hL => by
  simp only [schB, Bool.and_eq_true] at h
  have := (full_done a false h.1.2 hL).2
  cases this
def Eff (P : Program) (ob : Option Nat) (ops : Array Oper) (K : F → World → Prop) (L : Array Bool) (f : F) (w : World) (i : Nat) : Prop :=
 ∃ s o, atL ops.toList i = some o ∧ schB ops true s (L.setIfInBounds i true) = true ∧
  ∃ k : Value → World → Prop, guK o.guard ops f (stepR false P o f k w (pv P f o.op)) (k undef w) ∧ ∀ u w', k u w' → (Grow ob w w' ∨ lastB ops i = true) ∧ RLT P ob ops.toList K s (updO f o.dst u) w'
theorem eff_of : ∀ (t : Sch) (c : Bool) {L : Array Bool} {f : F} {w : World} {i : Nat}, (∀ j s, t ≠ .st j s) → schB ops c t L = true → RLT P ob ops.toList K t f w → i ∈ t.heads → Eff P ob ops K L f w i
 | .done, c, L, f, w, i, _, _, _, hi => by simp [Sch.heads] at hi
 | .st j s, c, L, f, w, i, hn, _, _, _ => absurd rfl (hn j s)
 | .ef j s, c, L, f, w, i, _, h, hr, hi => by
  simp only [Sch.heads, List.mem_singleton] at hi
  subst hi
  simp only [schB, Bool.and_eq_true] at h
  simp only [RLT] at hr
  split at hr
  ·next o ho => exact ⟨s, o, ho, h.2, fun v w' => Grow ob w w' ∧ RLT P ob ops.toList K s (updO f o.dst v) w', guK_mono (by simpa using hr) (fun h => h) (fun h => ⟨Grow.refl _ _, h⟩), fun u w' ⟨h1, h2⟩ => ⟨.inl h1, h2⟩⟩
  ·exact hr.elim
 | .fin j s, c, L, f, w, i, _, h, hr, hi => by
  simp only [Sch.heads, List.mem_singleton] at hi
  subst hi
  simp only [schB, Bool.and_eq_true] at h
  simp only [RLT] at hr
  split at hr
  ·next o ho => exact ⟨s, o, ho, h.2, fun v w' => RLT P ob ops.toList K s (updO f o.dst v) w', by simpa using hr, fun u w' h2 => ⟨.inr h.1.2, h2⟩⟩
  ·exact hr.elim
 | .alt a b, c, L, f, w, i, _, h, hr, hi => by
  simp only [schB, Bool.and_eq_true] at h
  simp only [RLT] at hr
  have nost : ∀ (t : Sch), schB ops false t L = true → ∀ j s, t ≠ .st j s := fun t ht j s e => by subst e; simp [schB] at ht
  rcases List.mem_append.1 (show i ∈ a.heads ++ b.heads from hi) with hi | hi
  ·exact eff_of a false (nost a h.1.2) h.1.2 hr.1 hi
  ·exact eff_of b false (nost b h.2) h.2 hr.2 hi
theorem heads_all : ∀ (t : Sch) {L : Array Bool} {i : Nat}, (∀ j s, t ≠ .st j s) → t ≠ .done → schB ops true t L = true → i ∈ Region.ready .any ops L → i ∈ t.heads
 | .done, L, i, _, hd, _, _ => absurd rfl hd
 | .st j s, L, i, hn, _, _, _ => absurd rfl (hn j s)
 | .ef j s, L, i, _, _, h, hi => by
  simp only [schB, Bool.and_eq_true, Bool.not_true, Bool.false_or] at h
  have := List.all_eq_true.1 h.1.2 i hi
  simpa [Sch.heads] using this
 | .fin j s, L, i, _, _, h, hi => by
  simp only [schB, Bool.and_eq_true, Bool.not_true, Bool.false_or] at h
  have := List.all_eq_true.1 h.1.1.2 i hi
  simpa [Sch.heads] using this
 | .alt a b, L, i, _, _, h, hi => by
  simp only [schB, Bool.and_eq_true, Bool.not_true, Bool.false_or] at h
  have := List.all_eq_true.1 h.1.1 i hi
  simpa using this
theorem sch_any (hall : ∀ o ∈ ops, operOk N o = true) (hB : anyB ops = true) (hQ : ∀ f w, K f w → Q .normal (fr N f) w) : ∀ (m : Nat) (L : Array Bool), cnt L ops.size = m →
  ∀ (t : Sch) (Lv : Array Bool) (v : Nat → Value) (w : World), Sim P ops ob f0 L Lv v w → schB ops true t Lv = true → RLT P ob ops.toList K t (bF f0 ops v Lv) w → wpAny P .any ops Q m L (fr N (bF f0 ops v L)) w := by
 have hok : ∀ i o, ops[i]? = some o → operOk N o = true := fun i o ho => hall o (Array.mem_of_getElem? ho)
 intro m
 induction m with
 | zero =>
  intro L hc t Lv v w sim hs hr
  have hL := cnt_zero hc
  have hLv : ∀ j, j < ops.size → Lv.getD j false = true := fun j hj => sim.sub j (hL j hj)
  obtain ⟨rfl, _⟩ := full_done t true hs hLv
  refine ⟨?_, ?_⟩
  ·apply List.eq_nil_iff_forall_not_mem.2
   intro i hi
   obtain ⟨h1, o, ho, _⟩ := mem_ready.1 hi
   have := hL i (Array.getElem?_eq_some_iff.1 ho).1
   rw [getD_both h1] at this; cases this
  ·have e : bF f0 ops v L = bF f0 ops v Lv := sF_congr _ fun j hj => by rw [hL j hj, hLv j hj]
   rw [e]
   exact hQ _ _ hr
 | succ m ih =>
  intro L hc t Lv v w sim hs hr
  refine ⟨fun h0 => ?_, fun i hi => ?_⟩
  ·exfalso
   obtain ⟨i0, hi0, hf0, hlow⟩ := cnt_pos (L := L) (n := ops.size) om
   have ho : ops[i0]? = some ops[i0] := by simp [hi0]
   have : i0 ∈ Region.ready .any ops L := mem_ready.2 ⟨getD_in (by rw [sim.iL.size]; exact hi0) hf0, ops[i0], ho, fun e he hb => hlow e.on (anyB_oper hB ho e he hb)⟩
   rw [h0] at this; cases this
  obtain ⟨hun, o, ho, hdeps⟩ := mem_ready.1 hi
  have hunf : L.getD i false = false := getD_both hun
  have hilt := (Array.getElem?_eq_some_iff.1 ho).1
  have hdst : dstOf ops i = o.dst := by simp [dstOf, ho]
  have hat : atL ops.toList i = some o := by rw [atL_get]; simpa using ho
  have hc' : cnt (L.setIfInBounds i true) ops.size = m := by
   have := cnt_set hunf (by rw [sim.iL.size]; exact hilt) ops.size
   rw [if_pos hilt] at this
   omega
  -- a step of operation i, wanted or not
  have enter : ∀ {f : F} (w : World) {p q : Prop}, guK o.guard ops f p q → (p → o.wp P (fr N f) w (wpAny P .any ops Q m (L.setIfInBounds i true)) Q) → (q → wpAny P .any ops Q m (L.setIfInBounds i true) ((fr N f).put o.dst undef) w) → wpOp P ops Q i (wpAny P .any ops Q m (L.setIfInBounds i true)) (fr N f) w := by
   intro f w p q hg h1 h2
   have hwd' := guK_wanted hall hg
   unfold wpOp
   rw [ho]
   simp only
   by_cases hwd : Region.wanted o (yielded ops (fr N f).tmps) = true
   ·rw [if_pos hwd] at hwd' ⊢; exact .inl (h1 hwd')
   ·rw [if_neg hwd] at hwd' ⊢; exact h2 hwd'
  clear hc
  have recd : ∀ (t : Sch) (Lv : Array Bool) (v : Nat → Value), Sim P ops ob f0 L Lv v w → schB ops true t Lv = true → RLT P ob ops.toList K t (bF f0 ops v Lv) w → Lv.getD i false = true →
    wpOp P ops Q i (wpAny P .any ops Q m (L.setIfInBounds i true)) (fr N (bF f0 ops v L)) w := by
   intro t Lv v sim hs hr hv
   obtain ⟨o', S, ho', iS, hSi, dS, hSV, hex⟩ := sim.rec' i hv hunf
   obtain rfl : o' = o := Option.some.inj (ho'.symm.trans ho)
   have e : bF f0 ops v (L.setIfInBounds i true) = updO (bF f0 ops v L) o'.dst (v i) := by
    rw [← hdst, ← bF_put hB hilt sim.iL.size hunf v (v i)]
    exact sF_val _ fun j _ _ => by by_cases e : j = i <;> simp [e]
   have go : wpAny P .any ops Q m (L.setIfInBounds i true) ((fr N (bF f0 ops v L)).put o'.dst (v i)) w := by
    rw [put_fr' (hok i o' ho), ← e]
    refine ih _ hc' t Lv v w ⟨sim.iL.set hi hilt, sim.iV, fun j hj => ?_, fun j h1 h2 => ?_⟩ hs hr
    ·by_cases e : j = i
     ·subst e; exact hv
     ·rw [getD_set_ne false (Ne.symm e)] at hj; exact sim.sub j hj
    ·by_cases e : j = i
     ·subst e
      have : (L.setIfInBounds j true).getD j false = true := by simp [show j < L.size by rw [sim.iL.size]; exact hilt]
      rw [this] at h2; cases h2
     ·rw [getD_set_ne false (Ne.symm e)] at h2; exact sim.rec' j h1 h2
   refine enter w ((gu_same hB ho sim.iL iS hunf hSi hdeps dS (fun _ _ _ => rfl)).2 (hex w (Grow.refl ob w))) (fun hx => ?_) (fun hx => ?_)
   ·unfold Oper.wp
    rw [exec_fr (hok i o' ho), exec_same hall hB ho sim.iL iS hunf hSi hdeps dS (fun _ _ _ => rfl), hx]
    exact go
   ·rw [hx] at go; exact go
  have effd : ∀ (t : Sch) (Lv : Array Bool) (v : Nat → Value), (∀ j s, t ≠ .st j s) → Sim P ops ob f0 L Lv v w → schB ops true t Lv = true → RLT P ob ops.toList K t (bF f0 ops v Lv) w → Lv.getD i false = false →
    wpOp P ops Q i (wpAny P .any ops Q m (L.setIfInBounds i true)) (fr N (bF f0 ops v L)) w := by
   intro t Lv v hn sim hs hr hv
   have hiv := ready_sub sim.iV sim.sub hi hv
   have hd : t ≠ .done := fun e => by
    subst e
    simp only [schB, Bool.true_and] at hs
    have := List.all_eq_true.1 hs i (List.mem_range.2 hilt)
    rw [hv] at this; cases this
   obtain ⟨s, o', ho', hs', k, hk, hnext⟩ := eff_of t true hn hs hr (heads_all t hn hd hs hiv)
   obtain rfl : o' = o := Option.some.inj (ho'.symm.trans hat)
   have hexec : execOp (fr N (bF f0 ops v L)).eval o' = execOp (ev (bF f0 ops v Lv)) o' := by
    rw [exec_fr (hok i o' ho)]
    exact exec_same hall hB ho sim.iL sim.iV hunf hv hdeps (fun e he hb => sim.sub _ (hdeps e he hb)) (fun _ _ _ => rfl)
   have go : ∀ u w', k u w' → wpAny P .any ops Q m (L.setIfInBounds i true) ((fr N (bF f0 ops v L)).put o'.dst u) w' := by
    intro u w' hku
    obtain ⟨hg, hrt⟩ := hnext u w' hku
    rw [put_fr' (hok i o' ho), ← hdst, ← bF_put hB hilt sim.iL.size hunf v u]
    rw [← hdst, ← bF_put hB hilt sim.iV.size hv v u] at hrt
    refine ih _ hc' s (Lv.setIfInBounds i true) _ w' ⟨sim.iL.set hi hilt, sim.iV.set hiv hilt, fun j hj => ?_, fun j h1 h2 => ?_⟩ hs' hrt
    ·by_cases e : j = i
     ·subst e; simp [show j < Lv.size by rw [sim.iV.size]; exact hilt]
     ·rw [getD_set_ne false (Ne.symm e)] at hj ⊢; exact sim.sub j hj
    ·have hne : j ≠ i := fun e => by
      subst e
      have : (L.setIfInBounds j true).getD j false = true := by simp [show j < L.size by rw [sim.iL.size]; exact hilt]
      rw [this] at h2; cases h2
     rw [getD_set_ne false (Ne.symm hne)] at h1 h2
     obtain ⟨oj, S, hoj, iS, hSj, dS, hSV, hex⟩ := sim.rec' j h1 h2
     rcases hg with hg | hg
     ·refine ⟨oj, S, hoj, iS, hSj, dS, fun j' h' => ?_, fun w2 e2 => ?_⟩
      ·by_cases e : j' = i
       ·subst e; simp [show j' < Lv.size by rw [sim.iV.size]; exact hilt]
       ·rw [getD_set_ne false (Ne.symm e)]; exact hSV j' h'
      ·rw [bF_keep hSV hv v u]
       simp only [hne, if_false]
       exact hex w2 (hg.trans e2)
     ·exfalso
      have hj := (Array.getElem?_eq_some_iff.1 hoj).1
      have := List.all_eq_true.1 hg j (List.mem_range.2 hj)
      simp only [Bool.or_eq_true, beq_iff_eq] at this
      rcases this with (e | e) | e
      ·exact hne e
      ·rw [wt_done ho hdeps e] at h2; cases h2
      ·obtain ⟨k, hk, hkk⟩ := List.any_eq_true.1 e
       simp only [Bool.and_eq_true] at hkk
       have hkl := List.mem_range.1 hk
       have hkd := wt_done ho hdeps hkk.1
       have hjd := wt_done (ops := ops) (o := ops[k]) (by simp [hkl]) (fun e he hbb => sim.iL.closed k ops[k] (by simp [hkl]) hkd e he hbb) hkk.2
       rw [hjd] at h2; cases h2
   refine enter w ((gu_same hB ho sim.iL sim.iV hunf hv hdeps (fun e he hb => sim.sub _ (hdeps e he hb)) (fun _ _ _ => rfl)).2 hk) (fun hk => ?_) (fun hk => go undef w hk)
   unfold Oper.wp
   rw [hexec]
   cases hp : pv P (bF f0 ops v Lv) o'.op with
   | some u =>
    rw [hp] at hk
    rw [pv_run hp]
    exact go u w hk
   | none =>
    rw [hp] at hk
    exact OW_upon go hk
  induction t generalizing Lv v with
  | st j s ihs =>
   by_cases hv : Lv.getD i false = true
   ·exact recd _ Lv v sim hs hr hv
   ·simp only [schB, Bool.and_eq_true, Bool.true_and] at hs
    have hjr : j ∈ Region.ready .any ops Lv := by simpa using hs.1
    obtain ⟨hjun, oj, hoj, hjd⟩ := mem_ready.1 hjr
    have hjlt := (Array.getElem?_eq_some_iff.1 hoj).1
    have hju : Lv.getD j false = false := getD_both hjun
    have hatj : atL ops.toList j = some oj := by rw [atL_get]; simpa using hoj
    have hdstj : dstOf ops j = oj.dst := by simp [dstOf, hoj]
    simp only [RLT, hatj] at hr
    obtain ⟨u, hu, hru⟩ := gu_yields (k := fun v w' => RLT P ob ops.toList K s (updO (bF f0 ops _ Lv) oj.dst v) w') (by simpa using hr)
    rw [← hdstj, ← bF_put hB hjlt sim.iV.size hju v u] at hru
    have hself : ∀ j', Lv.getD j' false = true → (Lv.setIfInBounds j true).getD j' false = true := fun j' h' => by
     by_cases e : j' = j
     ·subst e; rw [hju] at h'; cases h'
     ·rw [getD_set_ne false (Ne.symm e)]; exact h'
    rw [← bF_keep sim.sub hju v u]
    refine ihs _ _ ⟨sim.iL, sim.iV.set hjr hjlt, fun j' h' => hself j' (sim.sub j' h'), fun j' h1 h2 => ?_⟩ hs.2 hru
    by_cases e : j' = j
    ·subst e
     refine ⟨oj, Lv, hoj, sim.iV, hju, hjd, hself, fun w2 e2 => ?_⟩
     rw [bF_keep (fun _ h => h) hju v u]
     simp only [if_true]
     exact guK_mono hu (fun h => h w2 e2) (fun h => h)
    ·rw [getD_set_ne false (Ne.symm e)] at h1
     obtain ⟨o', S, ho', iS, hSj, dS, hSV, hex⟩ := sim.rec' j' h1 h2
     refine ⟨o', S, ho', iS, hSj, dS, fun j2 h3 => hself j2 (hSV j2 h3), fun w2 e2 => ?_⟩
     rw [bF_keep hSV hju v u]
     simp only [e, if_false]
     exact hex w2 e2
  | done => exact (Bool.eq_false_or_eq_true (Lv.getD i false)).elim (recd _ Lv v sim hs hr) (effd _ Lv v (fun _ _ e => by cases e) sim hs hr)
  | ef j s _ => exact (Bool.eq_false_or_eq_true (Lv.getD i false)).elim (recd _ Lv v sim hs hr) (effd _ Lv v (fun _ _ e => by cases e) sim hs hr)
  | fin j s _ => exact (Bool.eq_false_or_eq_true (Lv.getD i false)).elim (recd _ Lv v sim hs hr) (effd _ Lv v (fun _ _ e => by cases e) sim hs hr)
  | alt a b _ _ => exact (Bool.eq_false_or_eq_true (Lv.getD i false)).elim (recd _ Lv v sim hs hr) (effd _ Lv v (fun _ _ e => by cases e) sim hs hr)
end
theorem QR_sch {P : Program} {N : Nat} {Kn : F → World → Prop} {Ke : Nat → F → World → Prop} {Kr : F → World → Prop} {f : F} {w : World} {id : Nat} {l : List Oper} (ob : Option Nat) (t : Sch) (hm : P.follows .mixedOrders = true)
  (hB : (anyB l.toArray && schB l.toArray true t (Array.replicate l.toArray.size false)) = true) (h : ∀ w', Ext w w' → RLT P ob l Kn t f w') : QR P N id l.toArray Kn Ke Kr f w := by
 intro hok
 have hall : ∀ o ∈ l.toArray, operOk N o = true := Array.all_eq_true_iff_forall_mem.1 hok
 simp only [Bool.and_eq_true] at hB
 refine wp_region_any hm ?_
 have inv0 : HeadInv .any l.toArray l.toArray.size (Array.replicate l.toArray.size false) :=
  ⟨by simp, fun j oj _ hl => (by rw [getD_replicate_false] at hl; cases hl), fun t _ ht => getD_in (by simpa using ht) (getD_replicate_false _ _)⟩
 have hc : cnt (Array.replicate l.toArray.size false) l.toArray.size = l.toArray.size := by
  unfold cnt
  have : (fun j => !(Array.replicate l.toArray.size false).getD j false) = fun _ => true := by funext j; rw [getD_replicate_false]; rfl
  rw [this]; simp
 have hF : bF f l.toArray (fun _ => undef) (Array.replicate l.toArray.size false) = f := by
  have : ∀ k, sF f l.toArray (fun _ => undef) (fun j => (Array.replicate l.toArray.size false).getD j false) k = f := by
   intro k
   induction k with
   | zero => exact (rfl)
   | succ k ih => simp only [getD_replicate_false] at ih ⊢; simp only [sF, Bool.false_eq_true, if_false]; exact ih
  exact this _
 have hw := h _ (Ext.drew w)
 have key := sch_any (Q := cont N Kn Ke Kr) (K := Kn) (ob := ob) (f0 := f) hall hB.1 (fun f w hk => ⟨f, rfl, hk⟩) _ _ hc t (Array.replicate l.toArray.size false) (fun _ => undef) (w.drew)
  ⟨inv0, inv0, fun _ h => h, fun i h1 h2 => by rw [h1] at h2; cases h2⟩ hB.2 (by rw [hF]; simpa using hw)
 rw [hF] at key
 exact key
section
variable {P : Program} {ob : Option Nat} {l : List Oper} {K : F → World → Prop} {f : F} {w w' : World} {k : Value → World → Prop} {s : Sch}
 {d : Option Tmp} {ty : TypeId} {pos : String} {aft : Array Edge} {g : Option (Nat × Bool)}
def nxT (P : Program) (ob : Option Nat) (l : List Oper) (K : F → World → Prop) (s : Sch) (f : F) (d : Option Tmp) : Value → World → Prop := fun v w' => RLT P ob l K s (updO f d v) w'
def nxE (P : Program) (ob : Option Nat) (l : List Oper) (K : F → World → Prop) (s : Sch) (f : F) (d : Option Tmp) (w : World) : Value → World → Prop := fun v w' => Grow ob w w' ∧ RLT P ob l K s (updO f d v) w'
theorem nxE_of {v : Value} (hg : Grow ob w w') (h : nxT P ob l K s f d v w') : nxE P ob l K s f d w v w' := ⟨hg, h⟩
theorem nxT_some (n : Nat) (v : Value) : nxT P ob l K s f (some n) v w = RLT P ob l K s (upd f n v) w := (rfl)
theorem nxT_none (v : Value) : nxT P ob l K s f none v w = RLT P ob l K s f w := (rfl)
def atS (P : Program) (ob : Option Nat) (l : List Oper) (K : F → World → Prop) (s : Sch) (f : F) (w : World) : Option Oper → Prop
 | some o => guK o.guard l.toArray f (stepS P ob o f (nxT P ob l K s f o.dst) w (pv P f o.op)) (RLT P ob l K s (updO f o.dst undef) w)
 | none => False
def atE (P : Program) (ob : Option Nat) (l : List Oper) (K : F → World → Prop) (s : Sch) (f : F) (w : World) : Option Oper → Prop
 | some o => guK o.guard l.toArray f (stepR false P o f (nxE P ob l K s f o.dst w) w (pv P f o.op)) (RLT P ob l K s (updO f o.dst undef) w)
 | none => False
def atF (P : Program) (ob : Option Nat) (l : List Oper) (K : F → World → Prop) (s : Sch) (f : F) (w : World) : Option Oper → Prop
 | some o => guK o.guard l.toArray f (stepR false P o f (nxT P ob l K s f o.dst) w (pv P f o.op)) (RLT P ob l K s (updO f o.dst undef) w)
 | none => False
theorem atS_some {op : Op} : atS P ob l K s f w (some ⟨d, op, ty, pos, aft, none⟩) = stepS P ob ⟨d, op, ty, pos, aft, none⟩ f (nxT P ob l K s f d) w (pv P f op) := (rfl)
theorem atE_some {op : Op} : atE P ob l K s f w (some ⟨d, op, ty, pos, aft, none⟩) = stepR false P ⟨d, op, ty, pos, aft, none⟩ f (nxE P ob l K s f d w) w (pv P f op) := (rfl)
theorem atF_some {op : Op} : atF P ob l K s f w (some ⟨d, op, ty, pos, aft, none⟩) = stepR false P ⟨d, op, ty, pos, aft, none⟩ f (nxT P ob l K s f d) w (pv P f op) := (rfl)
def gsS (P : Program) (ob : Option Nat) (l : List Oper) (K : F → World → Prop) (s : Sch) (f : F) (d : Option Tmp) (op : Op) (ty : TypeId) (pos : String) (aft : Array Edge) (g : Option (Nat × Bool)) (w : World) : Prop := stepS P ob ⟨d, op, ty, pos, aft, g⟩ f (nxT P ob l K s f d) w (pv P f op)
def gsE (P : Program) (ob : Option Nat) (l : List Oper) (K : F → World → Prop) (s : Sch) (f : F) (d : Option Tmp) (op : Op) (ty : TypeId) (pos : String) (aft : Array Edge) (g : Option (Nat × Bool)) (w : World) : Prop := stepR false P ⟨d, op, ty, pos, aft, g⟩ f (nxE P ob l K s f d w) w (pv P f op)
def gsF (P : Program) (ob : Option Nat) (l : List Oper) (K : F → World → Prop) (s : Sch) (f : F) (d : Option Tmp) (op : Op) (ty : TypeId) (pos : String) (aft : Array Edge) (g : Option (Nat × Bool)) (w : World) : Prop := stepR false P ⟨d, op, ty, pos, aft, g⟩ f (nxT P ob l K s f d) w (pv P f op)
def gsU (P : Program) (ob : Option Nat) (l : List Oper) (K : F → World → Prop) (s : Sch) (f : F) (d : Option Tmp) (w : World) : Prop := RLT P ob l K s (updO f d undef) w
theorem gsS_go {op : Op} : gsS P ob l K s f d op ty pos aft g w = stepS P ob ⟨d, op, ty, pos, aft, g⟩ f (nxT P ob l K s f d) w (pv P f op) := (rfl)
theorem gsE_go {op : Op} : gsE P ob l K s f d op ty pos aft g w = stepR false P ⟨d, op, ty, pos, aft, g⟩ f (nxE P ob l K s f d w) w (pv P f op) := (rfl)
theorem gsF_go {op : Op} : gsF P ob l K s f d op ty pos aft g w = stepR false P ⟨d, op, ty, pos, aft, g⟩ f (nxT P ob l K s f d) w (pv P f op) := (rfl)
theorem gsU_some (n : Nat) : gsU P ob l K s f (some n) w = RLT P ob l K s (upd f n undef) w := (rfl)
theorem gsU_none : gsU P ob l K s f none w = RLT P ob l K s f w := (rfl)
theorem atS_gu {op : Op} {j : Nat} {want : Bool} : atS P ob l K s f w (some ⟨d, op, ty, pos, aft, some (j, want)⟩) = gK (gb f want (dstAt l.toArray j)) (gsS P ob l K s f d op ty pos aft (some (j, want))) (gsU P ob l K s f d) w := (rfl)
theorem atE_gu {op : Op} {j : Nat} {want : Bool} : atE P ob l K s f w (some ⟨d, op, ty, pos, aft, some (j, want)⟩) = gK (gb f want (dstAt l.toArray j)) (gsE P ob l K s f d op ty pos aft (some (j, want))) (gsU P ob l K s f d) w := (rfl)
theorem atF_gu {op : Op} {j : Nat} {want : Bool} : atF P ob l K s f w (some ⟨d, op, ty, pos, aft, some (j, want)⟩) = gK (gb f want (dstAt l.toArray j)) (gsF P ob l K s f d op ty pos aft (some (j, want))) (gsU P ob l K s f d) w := (rfl)
theorem RLT_done : RLT P ob l K .done f w = K f w := (rfl)
theorem RLT_st (i : Nat) : RLT P ob l K (.st i s) f w = atS P ob l K s f w (atL l i) := by
 simp only [RLT, atS]; cases atL l i <;> rfl
theorem RLT_ef (i : Nat) : RLT P ob l K (.ef i s) f w = atE P ob l K s f w (atL l i) := by
 simp only [RLT, atE]; cases atL l i <;> rfl
theorem RLT_fin (i : Nat) : RLT P ob l K (.fin i s) f w = atF P ob l K s f w (atL l i) := by
 simp only [RLT, atF]; cases atL l i <;> rfl
theorem RLT_alt {a b : Sch} (h1 : RLT P ob l K a f w) (h2 : RLT P ob l K b f w) : RLT P ob l K (.alt a b) f w := ⟨h1, h2⟩
theorem atL_zero (o : Oper) : atL (o :: l) 0 = some o := (rfl)
theorem atL_succ (o : Oper) (n : Nat) : atL (o :: l) (n + 1) = atL l n := (rfl)
theorem stepS_some {o : Oper} (v : Value) : stepS P ob o f k w (some v) = k v w := (rfl)
theorem stepS_load (T : TypeId) (x : Operand) : stepS P ob ⟨d, .load T x, ty, pos, aft, g⟩ f k w none = ldS P ob T (ev f x) k w := (rfl)
theorem ldS_none (T : TypeId) (a : Addr) : ldS P none T (.pointer (some a)) k w = ldK P T (.pointer (some a)) k w := by simp [ldS]
theorem ldS_some (T : TypeId) (rb b o : Nat) (sp : Option Nat) (h : rb ≠ b) : ldS P (some rb) T (.pointer (some ⟨b, o, sp⟩)) k w = ldK P T (.pointer (some ⟨b, o, sp⟩)) k w := by simp [ldS, h]
theorem stepS_congr {o : Oper} {x y : Option Value} (h : x = y) : stepS P ob o f k w x = stepS P ob o f k w y := by rw [h]
theorem ldS_congr {T : TypeId} {x y : Value} (h : x = y) : ldS P ob T x k w = ldS P ob T y k w := by rw [h]
theorem atS_congr {x y : Option Oper} (h : x = y) : atS P ob l K s f w x = atS P ob l K s f w y := by rw [h]
theorem atE_congr {x y : Option Oper} (h : x = y) : atE P ob l K s f w x = atE P ob l K s f w y := by rw [h]
theorem atF_congr {x y : Option Oper} (h : x = y) : atF P ob l K s f w x = atF P ob l K s f w y := by rw [h]
theorem RLT_congr : RLT P ob l K s f w = RLT P ob l K s f w := (rfl)
end
theorem pv_nilCheck {P : Program} {f : F} (x : Operand) : pv P f (.nilCheck x) = nilV (ev f x) := (rfl)
theorem nil_some (a : Addr) : nilV (.pointer (some a)) = some (.pointer (some a)) := (rfl)
theorem bin_xor {P : Program} (T : TypeId) (a b : Nat) (ha : a < 4611686018427387904) (hb : b < 4611686018427387904) : binV P .xor T (.int .i64 (a : Int)) (.int .i64 (b : Int)) = some (.int .i64 ((a ^^^ b : Nat) : Int)) := by
 have h : a ^^^ b < 2 ^ 62 := Nat.xor_lt_two_pow om om
 have e : (BitVec.ofInt 64 (a : Int) ^^^ BitVec.ofInt 64 (b : Int)).toNat = a ^^^ b := by
  rw [BitVec.ofInt_natCast, BitVec.ofInt_natCast, BitVec.toNat_xor, BitVec.toNat_ofNat, BitVec.toNat_ofNat, Nat.mod_eq_of_lt (show a < 2 ^ 64 from om), Nat.mod_eq_of_lt (show b < 2 ^ 64 from om)]
 have e' : (BitVec.ofInt IntKind.i64.bits (a : Int) ^^^ BitVec.ofInt IntKind.i64.bits (b : Int)).toNat = a ^^^ b := e
 simp only [binV, intV, if_true, e']
 rw [wrap_i64 _ om om]
def slcE (s : Option Nat) (a : Option Addr) (n c : Nat) (lo hi : Option Value) : Option Value :=
 match s with
 | some s => match boundV c n hi with
  | some h => match boundV h 0 lo with
   | some l => some (.slice (if c = l then a else a.map (·.add (l * s))) (h - l) (c - l))
   | none => none
  | none => none
 | none => none
theorem slc_go {P : Program} (T : TypeId) (a : Option Addr) (n c : Nat) (lo hi : Option Value) : slcV P T (.slice a n c) lo hi = slcE (esz P T) a n c lo hi := by
 simp only [slcV, slcE]; cases esz P T <;> rfl
theorem slc_hi (s : Nat) (a : Option Addr) (n c : Nat) (k : IntKind) (hi : Int) (h0 : 0 ≤ hi) (h1 : hi ≤ c) : slcE (some s) a n c none (some (.int k hi)) = some (.slice a hi.toNat c) := by
 have e : a.map (·.add 0) = a := by cases a <;> simp [Addr.add]
 simp only [slcE, boundV]
 simp [h0, h1, e]
attribute [go_sem ↓] pv_nilCheck
attribute [go_sem] nil_some bin_xor slc_go slc_hi
attribute [congr] stepS_congr ldS_congr atS_congr atE_congr atF_congr RLT_congr
attribute [go_sem ↓] RLT_done RLT_st RLT_ef RLT_fin nxT_some nxT_none atS_some atE_some atF_some gsS_go gsE_go gsF_go gsU_some gsU_none atS_gu atE_gu atF_gu atL_zero atL_succ stepS_some stepS_load
attribute [go_sem] ldS_none ldS_some
theorem fill_all (vs : List Value) (hv : ∀ v ∈ vs, v.cells = #[v]) : ∀ (k : Nat) (cs : List Value), k + vs.length ≤ cs.length →
  Instr.fill (fun i => some (i * 1, 1)) cs.toArray ((vs.zipIdx k).map fun p => (p.2, p.1)) = some (cs.take k ++ vs ++ cs.drop (k + vs.length)).toArray := by
 induction vs with
 | nil => intro k cs _; simp [Instr.fill]
 | cons v vs ih =>
  intro k cs hk
  simp only [List.length_cons] at hk
  have hvc := hv v (List.mem_cons_self ..)
  simp only [List.zipIdx_cons, List.map_cons, Instr.fill, hvc]
  have h1 : ¬ (decide ((#[v] : Array Value).size ≠ 1) || decide (k * 1 + (#[v] : Array Value).size > cs.toArray.size)) = true := by simp; omega
  simp only [List.size_toArray, List.length_singleton, ne_eq, not_true_eq_false, decide_false, Bool.false_or, gt_iff_lt, decide_eq_true_eq] at h1 ⊢
  rw [if_neg h1]
  have h2 : (#[v] : Array Value).zipIdx.foldl (fun cs (p : Value × Nat) => cs.setIfInBounds (k * 1 + p.2) p.1) cs.toArray = (cs.set k v).toArray := by simp
  have h3 := ih (fun u hu => hv u (List.mem_cons_of_mem _ hu)) (k + 1) (cs.set k v) (by rw [List.length_set]; omega)
  have h4 : (cs.set k v).take (k + 1) = cs.take k ++ [v] := by
   have h6 : (cs.take k).length = k := by rw [List.length_take]; omega
   rw [List.take_set, List.take_succ_eq_append_getElem (show k < cs.length from om), List.set_append_right k v om, h6, Nat.sub_self]
   rfl
  have h5 : (cs.set k v).drop (k + 1 + vs.length) = cs.drop (k + (vs.length + 1)) := by
   rw [List.drop_set_of_lt om]; congr 1; omega
  rw [h4, h5] at h3
  rw [h2, h3]
  simp
theorem bslK_n {P : Program} {T e bs n : Nat} {z : Value} {parts : List (Nat × Value)} {k : Value → World → Prop} {w : World} (vs : List Value) (ht : elt P T = some (e, 1, z, bs)) (hv : ∀ v ∈ vs, v.cells = #[v]) (hn : n = vs.length) (h0 : 0 < n) (hs24 : n ≤ 16777216)
  (hp : parts = vs.zipIdx.map fun p => (p.2, p.1))
  (h : ∀ w' b, b = w.heap.size → Ext w w' → Blk w' b vs.toArray e → w'.heap.size = b + 1 → k (.slice (some ⟨b, 0, none⟩) n n) w') : bslK P T n parts k w := by
 subst hn hp
 obtain ⟨hT, i, hi, hs, hz, hb, hzs⟩ := elt_some ht
 have hzr : (zeroValue e).run P w = .ok z w := by
  refine (run_bindV (run_typeInfo_some hi)).trans ?_
  rw [hz]; rfl
 have hf := fill_all vs hv 0 (((Array.range (vs.length * 1)).map (fun x => z.cells[x % z.cells.size]!)).toList) sm
 have hd : (((Array.range (vs.length * 1)).map (fun x => z.cells[x % z.cells.size]!)).toList).drop (0 + vs.length) = [] := List.drop_eq_nil_of_le sm
 rw [hd] at hf
 simp only [List.take_zero, List.nil_append, List.append_nil, Array.toArray_toList] at hf
 have hr : (Instr.buildSlice T vs.length (vs.zipIdx.map fun p => (p.2, p.1)).toArray).run P w = .ok (.slice (some ⟨w.heap.size, 0, none⟩) vs.length vs.length) (w.alloc (.cells vs.toArray e)) := by
  refine (run_bindV (run_underlying_some hT)).trans ?_
  refine (run_bindV (run_sizeOf_some hi)).trans ?_
  have e1 : ¬ vs.length * i.size > 2 ^ 24 := by rw [hs]; omega
  have e2 : ¬ vs.length * i.size = 0 := by rw [hs]; omega
  rw [if_neg e1, if_neg e2]
  simp only [hs, Nat.mul_one] at hf ⊢
  simp [hzr, newRow, hf]
 unfold bslK
 rw [hr]
 exact h _ _ rfl (ext_alloc w _) (heap_alloc_new w _) sm
end Go.SW
