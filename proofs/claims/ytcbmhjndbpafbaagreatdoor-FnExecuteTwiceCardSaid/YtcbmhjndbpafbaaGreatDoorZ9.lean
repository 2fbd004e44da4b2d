import Derived.Test.YtcbmhjndbpafbaaGreatDoorZ8
set_option linter.all false
set_option maxRecDepth 20000
namespace Go.Proofs.YtcbmhjndbpafbaaGreatDoor
open Go.RowKit Go.SW
theorem l5Sees_c (a : Option Addr) (p : List Int) (c i k : Nat) (w : World) (hp : IntS w a p) (v : Prof p) (hi : i < p.length) (hk : k < p.length) : Ret Tryz.prog 179 #[.slice a p.length c, .int .i64 i, .int .i64 k, .int .i64 0] w fun u w' => u = .bool (decide (SeesP p i k)) ∧ Ext w w' := by
 obtain ⟨h1, h7, hr⟩ := v
 obtain ⟨b, o, rfl⟩ := hp.head (by intro e; rw [e] at h1; simp at h1)
 refine enter4 Tryz.func179 rfl fun f a0 a1 a2 a3 => ?_
 have h3 : i = k ∨ i < k ∨ k < i := om
 rcases h3 with rfl | h3 | h3
 ·have hyes : SeesP p i i := (seesP_iff p i i).2 fun j h1 h2 => om
  have ht1 : ¬ (i : Int) < (i : Int) := om
  have e1 : ((i : Int) + 1 != (i : Int)) = true := by rw [bne_iff_ne]; omega
  have e2 : ((i : Int) != (i : Int)) = false := by rw [bne_eq_false_iff_eq]
  simp (disch := omega) only [go_sem, a1, a2, ht1]
  refine loopN 0 (fun t f W => f 1 = .int .i64 i ∧ f 2 = .int .i64 i ∧ f 10 = .int .i64 ((i : Int) + 1) ∧ Ext w W) ⟨uu, uu, by simp [upd_apply], Ext.refl _⟩ fun t f W ht ⟨a1, a2, a10, xw⟩ => ?_
  simp (disch := omega) only [go_sem, a1, a2, a10, e1, e2, Tryz.results179]
  exact ⟨by simp [hyes], xw⟩
 ·-- forth
  have hik : i < k := om
  have hsee : SeesP p i k ↔ ∀ j, i < j → j < k → FreeP p i k j := by
   rw [seesP_iff]
   have e1 : min i k = i := om
   have e2 : max i k = k := om
   rw [e1, e2]
   first | done | exact ⟨fun h j h1 h2 => h j om om, fun h j h1 h2 => h j om om⟩
  have ht1 : ¬ (k : Int) < (i : Int) := om
  have hne : ((i : Int) != (k : Int)) = true := by rw [bne_iff_ne]; omega
  simp (disch := omega) only [go_sem, a1, a2, ht1]
  refine loopN (k - i - 1) (fun t f W => f 0 = .slice (some ⟨b, o, none⟩) p.length c ∧ f 1 = .int .i64 i ∧ f 2 = .int .i64 k ∧ f 3 = .int .i64 0 ∧ f 9 = .int .i64 1 ∧ f 10 = .int .i64 ((i + (t + 1)) : Nat) ∧ Ext w W ∧ ∀ j, i < j → j ≤ i + t → j < k → FreeP p i k j)
   ⟨uu, uu, uu, uu, uu, by simp only [upd_apply, Nat.reduceEqDiff, ↓reduceIte] <;> (congr 1 <;> omega), Ext.refl _, fun j h1 h2 h3 => om⟩ fun t f W ht ⟨a0, a1, a2, a3, a9, a10, xw, hfr⟩ => ?_
  by_cases hlt : t < k - i - 1
  ·have hj : (i + (t + 1)) < p.length := om
   have hjk : ((((i + (t + 1)) : Nat) : Int) != (k : Int)) = true := by rw [bne_iff_ne]; omega
   have ci : ∀ {V}, Ext W V → V.cell? ⟨b, o + i, none⟩ = some (.int .i64 (p.getD i 0)) := fun x => ((hp.ext xw).ext x).cell b o rfl i hi
   have ck : ∀ {V}, Ext W V → V.cell? ⟨b, o + k, none⟩ = some (.int .i64 (p.getD k 0)) := fun x => ((hp.ext xw).ext x).cell b o rfl k hk
   have cj : ∀ {V}, Ext W V → V.cell? ⟨b, o + (i + (t + 1)), none⟩ = some (.int .i64 (p.getD (i + (t + 1)) 0)) := fun x => ((hp.ext xw).ext x).cell b o rfl _ hj
   have hpi := hr _ (getD_mem (d := 0) hi)
   have hpk := hr _ (getD_mem (d := 0) hk)
   have hpj := hr _ (getD_mem (d := 0) hj)
   have hfree : FreeP p i k (i + (t + 1)) ↔ p.getD (i + (t + 1)) 0 * ((k : Int) - i) ≤ p.getD i 0 * ((k : Int) - ((i + (t + 1)) : Nat)) + p.getD k 0 * ((((i + (t + 1)) : Nat) : Int) - i) := Iff.rfl
   have i1 : (i : Int) < (p.length : Int) := om
   have k1 : (k : Int) < (p.length : Int) := om
   have j1 : (((i + (t + 1)) : Nat) : Int) < (p.length : Int) := om
   have enx : (((i + (t + 1)) : Nat) : Int) + 1 = (((i + (t + 1 + 1)) : Nat) : Int) := om
   have hnext : ∀ j, i < j → j ≤ i + (t + 1) → j < k → FreeP p i k (i + (t + 1)) → FreeP p i k j := fun j h1 h2 h3 hf => by
    by_cases e : j = (i + (t + 1))
    ·subst e; exact hf
    ·exact hfr j h1 om h3
   generalize hJ : (i + (t + 1)) = J at *
   obtain ⟨F, hF⟩ : ∃ F : Int, 1 * ((k : Int) - (i : Int)) = F := ⟨_, rfl⟩
   obtain ⟨Aa, hA⟩ : ∃ A : Int, (p.getD i 0 + 0) * 1 = A := ⟨_, rfl⟩
   obtain ⟨Bb, hB⟩ : ∃ B : Int, p.getD k 0 * 1 = B := ⟨_, rfl⟩
   obtain ⟨Q, hQ⟩ : ∃ Q : Int, (k : Int) - (J : Int) = Q := ⟨_, rfl⟩
   obtain ⟨S, hS⟩ : ∃ S : Int, (J : Int) - (i : Int) = S := ⟨_, rfl⟩
   have e0 : 1 * ((k : Int) - (i : Int)) = ((k : Int) - i) := om
   have m0 := mul_rng (x := p.getD J 0) (y := F) om om
   have mi := mul_rng (x := p.getD i 0) (y := (k : Int) - J) om om
   have mk := mul_rng (x := p.getD k 0) (y := (J : Int) - i) om om
   have eM1 : Aa * Q = p.getD i 0 * ((k : Int) - J) := by rw [← hA, ← hQ]; grind
   have eM2 : Bb * S = p.getD k 0 * ((J : Int) - i) := by rw [← hB, ← hS]; grind
   have eF : F = ((k : Int) - i) := by rw [← hF, e0]
   have ex : Ext W W := Ext.refl _
   simp (disch := omega) only [go_sem, a1, a2, a9, a10, hjk, hne, hF]
   have fin : (FreeP p i k J) ↔ ¬ (Aa * Q + Bb * S < p.getD J 0 * F) := by
    rw [hfree, eM1, eM2, eF]
    constructor <;> intro h <;> omega
   have aA : -99 ≤ Aa ∧ Aa ≤ 99 := om
   have aB : -99 ≤ Bb ∧ Bb ≤ 99 := om
   generalize hX1 : Aa * Q = X1 at *
   generalize hX2 : Bb * S = X2 at *
   generalize hX0 : p.getD J 0 * F = X0 at *
   by_cases hf : X1 + X2 < X0
   ·have hno : ¬ SeesP p i k := fun h => fin.1 (hsee.1 h J om om) hf
    refine QR_of ke ke ?_
    simp (disch := omega) only [go_sem, a0, a1, a2, a3, a9, a10, i1, k1, j1, Int.toNat_natCast, ci ex, ck ex, cj ex, hA, hB, hQ, hS, hX0, hX1, hX2, hf]
    intro w2 x2
    simp (disch := omega) only [go_sem, Tryz.results179]
    exact ⟨by simp [hno], xw.trans x2⟩
   ·refine QR_of ke ke ?_
    simp (disch := omega) only [go_sem, a0, a1, a2, a3, a9, a10, i1, k1, j1, Int.toNat_natCast, ci ex, ck ex, cj ex, hA, hB, hQ, hS, hX0, hX1, hX2, hf]
    intro w2 x2
    simp (disch := omega) only [go_sem, a9, a10, enx]
    exact ⟨om, uu, uu, uu, uu, uu, by simp [upd_apply], xw.trans x2, fun j h1 h2 h3 => hnext j h1 om h3 (fin.2 hf)⟩
  ·have hyes : SeesP p i k := hsee.2 fun j h1 h2 => hfr j h1 om h2
   have hjk : ((((i + (t + 1)) : Nat) : Int) != (k : Int)) = false := by rw [bne_eq_false_iff_eq]; omega
   simp (disch := omega) only [go_sem, a2, a10, hjk, Tryz.results179]
   exact ⟨by simp [hyes], xw⟩
 ·-- back
  have hik : k < i := om
  have hsee : SeesP p i k ↔ ∀ j, j < i → k < j → FreeP p k i j := by
   rw [seesP_iff]
   have e1 : min i k = k := om
   have e2 : max i k = i := om
   rw [e1, e2]
   first | done | exact ⟨fun h j h1 h2 => h j om om, fun h j h1 h2 => h j om om⟩
  have ht1 : (k : Int) < (i : Int) := om
  have hne : ((i : Int) != (k : Int)) = true := by rw [bne_iff_ne]; omega
  simp (disch := omega) only [go_sem, a1, a2, ht1]
  refine loopN (i - k - 1) (fun t f W => f 0 = .slice (some ⟨b, o, none⟩) p.length c ∧ f 1 = .int .i64 i ∧ f 2 = .int .i64 k ∧ f 3 = .int .i64 0 ∧ f 9 = .int .i64 (-1) ∧ f 10 = .int .i64 ((i - (t + 1)) : Nat) ∧ Ext w W ∧ ∀ j, j < i → i ≤ j + t → k < j → FreeP p k i j)
   ⟨uu, uu, uu, uu, uu, by simp only [upd_apply, Nat.reduceEqDiff, ↓reduceIte] <;> (congr 1 <;> omega), Ext.refl _, fun j h1 h2 h3 => om⟩ fun t f W ht ⟨a0, a1, a2, a3, a9, a10, xw, hfr⟩ => ?_
  by_cases hlt : t < i - k - 1
  ·have hj : (i - (t + 1)) < p.length := om
   have hjk : ((((i - (t + 1)) : Nat) : Int) != (k : Int)) = true := by rw [bne_iff_ne]; omega
   have ci : ∀ {V}, Ext W V → V.cell? ⟨b, o + i, none⟩ = some (.int .i64 (p.getD i 0)) := fun x => ((hp.ext xw).ext x).cell b o rfl i hi
   have ck : ∀ {V}, Ext W V → V.cell? ⟨b, o + k, none⟩ = some (.int .i64 (p.getD k 0)) := fun x => ((hp.ext xw).ext x).cell b o rfl k hk
   have cj : ∀ {V}, Ext W V → V.cell? ⟨b, o + (i - (t + 1)), none⟩ = some (.int .i64 (p.getD (i - (t + 1)) 0)) := fun x => ((hp.ext xw).ext x).cell b o rfl _ hj
   have hpi := hr _ (getD_mem (d := 0) hi)
   have hpk := hr _ (getD_mem (d := 0) hk)
   have hpj := hr _ (getD_mem (d := 0) hj)
   have hfree : FreeP p k i (i - (t + 1)) ↔ p.getD (i - (t + 1)) 0 * ((i : Int) - k) ≤ p.getD k 0 * ((i : Int) - ((i - (t + 1)) : Nat)) + p.getD i 0 * ((((i - (t + 1)) : Nat) : Int) - k) := Iff.rfl
   have i1 : (i : Int) < (p.length : Int) := om
   have k1 : (k : Int) < (p.length : Int) := om
   have j1 : (((i - (t + 1)) : Nat) : Int) < (p.length : Int) := om
   have enx : (((i - (t + 1)) : Nat) : Int) + -1 = (((i - (t + 1 + 1)) : Nat) : Int) := om
   have hnext : ∀ j, j < i → i ≤ j + (t + 1) → k < j → FreeP p k i (i - (t + 1)) → FreeP p k i j := fun j h1 h2 h3 hf => by
    by_cases e : j = (i - (t + 1))
    ·subst e; exact hf
    ·exact hfr j h1 om h3
   generalize hJ : (i - (t + 1)) = J at *
   obtain ⟨F, hF⟩ : ∃ F : Int, (-1) * ((k : Int) - (i : Int)) = F := ⟨_, rfl⟩
   obtain ⟨Aa, hA⟩ : ∃ A : Int, (p.getD i 0 + 0) * (-1) = A := ⟨_, rfl⟩
   obtain ⟨Bb, hB⟩ : ∃ B : Int, p.getD k 0 * (-1) = B := ⟨_, rfl⟩
   obtain ⟨Q, hQ⟩ : ∃ Q : Int, (k : Int) - (J : Int) = Q := ⟨_, rfl⟩
   obtain ⟨S, hS⟩ : ∃ S : Int, (J : Int) - (i : Int) = S := ⟨_, rfl⟩
   have e0 : (-1) * ((k : Int) - (i : Int)) = ((i : Int) - k) := om
   have m0 := mul_rng (x := p.getD J 0) (y := F) om om
   have mi := mul_rng (x := p.getD i 0) (y := (J : Int) - k) om om
   have mk := mul_rng (x := p.getD k 0) (y := (i : Int) - J) om om
   have eM1 : Aa * Q = p.getD i 0 * ((J : Int) - k) := by rw [← hA, ← hQ]; grind
   have eM2 : Bb * S = p.getD k 0 * ((i : Int) - J) := by rw [← hB, ← hS]; grind
   have eF : F = ((i : Int) - k) := by rw [← hF, e0]
   have ex : Ext W W := Ext.refl _
   simp (disch := omega) only [go_sem, a1, a2, a9, a10, hjk, hne, hF]
   have fin : (FreeP p k i J) ↔ ¬ (Aa * Q + Bb * S < p.getD J 0 * F) := by
    rw [hfree, eM1, eM2, eF]
    constructor <;> intro h <;> omega
   have aA : -99 ≤ Aa ∧ Aa ≤ 99 := om
   have aB : -99 ≤ Bb ∧ Bb ≤ 99 := om
   generalize hX1 : Aa * Q = X1 at *
   generalize hX2 : Bb * S = X2 at *
   generalize hX0 : p.getD J 0 * F = X0 at *
   by_cases hf : X1 + X2 < X0
   ·have hno : ¬ SeesP p i k := fun h => fin.1 (hsee.1 h J om om) hf
    refine QR_of ke ke ?_
    simp (disch := omega) only [go_sem, a0, a1, a2, a3, a9, a10, i1, k1, j1, Int.toNat_natCast, ci ex, ck ex, cj ex, hA, hB, hQ, hS, hX0, hX1, hX2, hf]
    intro w2 x2
    simp (disch := omega) only [go_sem, Tryz.results179]
    exact ⟨by simp [hno], xw.trans x2⟩
   ·refine QR_of ke ke ?_
    simp (disch := omega) only [go_sem, a0, a1, a2, a3, a9, a10, i1, k1, j1, Int.toNat_natCast, ci ex, ck ex, cj ex, hA, hB, hQ, hS, hX0, hX1, hX2, hf]
    intro w2 x2
    simp (disch := omega) only [go_sem, a9, a10, enx]
    exact ⟨om, uu, uu, uu, uu, uu, by simp [upd_apply], xw.trans x2, fun j h1 h2 h3 => hnext j h1 om h3 (fin.2 hf)⟩
  ·have hyes : SeesP p i k := hsee.2 fun j h1 h2 => hfr j h1 om h2
   have hjk : ((((i - (t + 1)) : Nat) : Int) != (k : Int)) = false := by rw [bne_eq_false_iff_eq]; omega
   simp (disch := omega) only [go_sem, a2, a10, hjk, Tryz.results179]
   exact ⟨by simp [hyes], xw⟩
theorem specProfileValid_c (a : Option Addr) (p : List Int) (c : Nat) (w : World) (hp : IntS w a p) (v : Prof p) : Ret Tryz.prog 207 #[.slice a p.length c] w fun u w' => u = .bool true ∧ Ext w w' := by
 obtain ⟨h1, h7, hr⟩ := v
 obtain ⟨b, o, rfl⟩ := hp.head (by intro e; rw [e] at h1; simp at h1)
 refine enter1 Tryz.func207 rfl fun f a0 => ?_
 simp (disch := omega) only [go_sem]
 refine loopN p.length (fun k f W => f 0 = .slice (some ⟨b, o, none⟩) p.length c ∧ f 3 = .int .i64 k ∧ Ext w W) ⟨uu, uu, Ext.refl _⟩ fun k f W hk ⟨a0, a3, xw⟩ => ?_
 by_cases hlt : (k : Int) < (p.length : Int)
 ·have hkp : k < p.length := om
  have hc := (hp.ext xw).cell b o rfl k hkp
  have hh := hr _ (getD_mem (d := 0) hkp)
  have hd : decide (0 ≤ p.getD k 0 ∧ p.getD k 0 ≤ 99) = true := decide_eq_true hh
  simp (disch := omega) only [go_sem, a0, a3, hlt, hc]
  refine callK_pure ke (l6In_c _ _ _ _) fun w2 x2 => ?_
  simp (disch := omega) only [go_sem, hd, a3]
  exact ⟨hkp, uu, uu, xw.trans x2⟩
 ·have hd : decide ((1 : Int) ≤ (p.length : Int) ∧ (p.length : Int) ≤ 20) = true := decide_eq_true om
  simp (disch := omega) only [go_sem, a0, a3, hlt]
  refine callK_pure ke (l6In_c _ _ _ _) fun w2 x2 => ?_
  simp (disch := omega) only [go_sem, hd, Tryz.results207]
  exact ⟨by first | rfl | trivial, xw.trans x2⟩
theorem l5Has_c (a : Option Addr) (p : List Int) (c i : Nat) (w : World) (hp : IntS w a p) (v : Prof p) (hi : i < p.length) : Ret Tryz.prog 178 #[.slice a p.length c, .int .i64 i] w fun u w' => u = .bool true ∧ Ext w w' := by
 have h7 := v.2.1
 refine enter2 Tryz.func178 rfl fun f a0 a1 => ?_
 simp (disch := omega) only [go_sem, a0]
 refine callK_pure ke (specProfileValid_c a p c _ hp v) fun w1 x1 => ?_
 simp (disch := omega) only [go_sem, a0, a1]
 refine callK_pure ke (l6In_c _ _ _ _) fun w2 x2 => ?_
 have hd : decide ((0 : Int) ≤ (i : Int) ∧ (i : Int) ≤ (p.length : Int) - 1) = true := decide_eq_true om
 simp (disch := omega) only [go_sem, hd, Tryz.results178]
 exact ⟨by first | rfl | trivial, x1.trans x2⟩
theorem specProfileSees_c (a : Option Addr) (p : List Int) (c i k : Nat) (w : World) (hp : IntS w a p) (v : Prof p) (hi : i < p.length) (hk : k < p.length) : Ret Tryz.prog 144 #[.slice a p.length c, .int .i64 i, .int .i64 k] w fun u w' => u = .bool (decide (SeesP p i k)) ∧ Ext w w' := by
 refine enter3 Tryz.func144 rfl fun f a0 a1 a2 => ?_
 simp (disch := omega) only [go_sem, a0, a1]
 refine callK_pure ke (l5Has_c a p c i _ hp v hi) fun w1 x1 => ?_
 simp (disch := omega) only [go_sem, a0, a2]
 refine callK_pure ke (l5Has_c a p c k _ (hp.ext x1) v hk) fun w2 x2 => ?_
 simp (disch := omega) only [go_sem, a0, a1, a2]
 refine callK_pure ke (l5Sees_c a p c i k _ ((hp.ext x1).ext x2) v hi hk) fun w3 x3 => ?_
 simp (disch := omega) only [go_sem, Tryz.results144]
 exact ⟨by first | rfl | trivial, (x1.trans x2).trans x3⟩
end Go.Proofs.YtcbmhjndbpafbaaGreatDoor
namespace Go.SW
open Go Go.RowKit
theorem jnX_take {c : UInt8} {Ls : List (List UInt8)} {n : Nat} (hn : n < Ls.length) : jn c (Ls.take (n + 1)) = jn c (Ls.take n) ++ (if n = 0 then [] else [c]) ++ Ls.getD n [] := by
 rw [take_snoc [] hn]
 by_cases h : n = 0
 ·subst h; simp [jn]
 ·rw [if_neg h, jn_snoc]
  ·simp
  ·intro e
   have := congrArg List.length e
   rw [List.length_take, List.length_nil] at this
   omega
theorem jnX_take_len {c : UInt8} {Ls : List (List UInt8)} {m : Nat} (hm : ∀ l ∈ Ls, l.length ≤ m) (n : Nat) : (jn c (Ls.take n)).length ≤ Ls.length * (m + 1) := by
 have h1 := jn_len (c := c) (L := Ls.take n) (m := m) fun l hl => hm l (List.mem_of_mem_take hl)
 have h2 : (Ls.take n).length * (m + 1) ≤ Ls.length * (m + 1) := Nat.mul_le_mul_right _ (by rw [List.length_take]; omega)
 omega
def dsI (x : Int) : List UInt8 := if x < 0 then [45, 49] else dec x.toNat
def spI (L : List Int) : List UInt8 := jn 32 (L.map dsI)
theorem dsI_len {x : Int} (h : -1 ≤ x ∧ x ≤ 99) : (dsI x).length ≤ 2 := by
 unfold dsI
 split
 ·simp
 ·exact (dec_len2 om).2
theorem spI_eq {L : List Int} (h : ∀ x ∈ L, 0 ≤ x) : spI L = jn 32 (L.map fun x => dec x.toNat) := by
 unfold spI
 congr 1
 refine List.map_congr_left fun x hx => ?_
 rw [dsI, if_neg (by have := h x hx; omega)]
end Go.SW
namespace Go.Proofs.YtcbmhjndbpafbaaGreatDoor
open Go.RowKit Go.SW
theorem l6DecI_c (x : Int) (h : -1 ≤ x ∧ x ≤ 99) (w : World) : Ret Tryz.prog 37 #[.int .i64 x] w fun v w' => v = .string (bs (dsI x)) ∧ Ext w w' := by
 by_cases h0 : x < 0
 ·obtain rfl : x = -1 := om
  refine enter1 Tryz.func37 rfl fun f a0 => ?_
  have t1 : ¬ (-1 : Int) < -9223372036854775807 := om
  have t2 : (-1 : Int) < 0 := om
  have t3 : (0 : Int) - -1 = ((1 : Nat) : Int) := om
  have d1 : dec 1 = [49] := dec_lt om
  have e1 : binV Tryz.prog .add 9 (.string (bs [45])) (.string (bs (dec 1))) = some (.string (bs ([45] ++ dec 1))) := bin_adds _ _ (by rw [d1]; simp)
  simp (disch := omega) only [go_sem, a0, t1, t2, t3]
  refine callK_pure ke (l6Dec_c 1 om _) fun w1 x1 => ?_
  simp (disch := omega) only [go_sem, e1, Tryz.results37]
  exact ⟨by rw [d1]; rfl, x1⟩
 ·have e : x = ((x.toNat : Nat) : Int) := om
  rw [dsI, if_neg h0]
  have := l6Dec_c x.toNat om w
  rwa [← e] at this
theorem l10Said_c (t : List UInt8) (ok : Bool) (w : World) (ht : t.length ≤ 100000) : Ret Tryz.prog 110 #[.string (bs t), .bool ok] w fun v w' => v = .string (bs (if ok then t ++ [10] else noT)) ∧ Ext w w' := by
 have e1 : binV Tryz.prog .add 9 (.string (bs t)) (.string (bs [10])) = some (.string (bs (t ++ [10]))) := bin_adds _ _ sq
 refine enter2 Tryz.func110 rfl fun f a0 a1 => ?_
 cases ok with
 | false =>
  simp (disch := omega) only [go_sem, a1, Tryz.results110]
  exact ⟨by first | rfl | trivial, Ext.refl _⟩
 | true =>
  simp (disch := omega) only [go_sem, a0, a1, e1, Tryz.results110]
  exact ⟨by first | rfl | trivial, Ext.refl _⟩
theorem l10List_c (a : Option Addr) (L : List Int) (c : Nat) (ok : Bool) (w : World) (hL : IntS w a L) (hn : L.length ≤ 1000) (h : ∀ x ∈ L, -1 ≤ x ∧ x ≤ 99) : Ret Tryz.prog 104 #[.slice a L.length c, .bool ok] w fun v w' => v = .string (bs (if ok then spI L ++ [10] else noT)) ∧ Ext w w' := by
 have hlen := fun n => jnX_take_len (c := 32) (Ls := L.map dsI) (m := 2) (fun l hl => by
  obtain ⟨x, hx, rfl⟩ := List.mem_map.1 hl
  exact dsI_len (h x hx)) n
 rw [List.length_map] at hlen
 refine enter2 Tryz.func104 rfl fun f a0 a1 => ?_
 simp (disch := omega) only [go_sem]
 refine loopN L.length (fun k f W => f 0 = .slice a L.length c ∧ f 1 = .bool ok ∧ f 5 = .string (bs (jn 32 ((L.map dsI).take k))) ∧ f 6 = .int .i64 k ∧ Ext w W) ⟨uu, uu, by simp [upd_apply, jn], uu, Ext.refl _⟩ fun k f W hk ⟨a0, a1, a5, a6, xw⟩ => ?_
 have hlk := hlen k
 by_cases hlt : (k : Int) < (L.length : Int)
 ·have hkL : k < L.length := om
  obtain ⟨b, o, rfl⟩ := hL.head (by intro e; rw [e] at hkL; simp at hkL)
  have hct := (hL.ext xw).cell b o rfl k hkL
  have hx := h _ (getD_mem (d := 0) hkL)
  have hsn := jnX_take (c := 32) (Ls := L.map dsI) (n := k) (by simpa using hkL)
  rw [show (L.map dsI).getD k [] = dsI (L.getD k 0) by simp [hkL]] at hsn
  have hdl := dsI_len hx
  generalize jn 32 ((L.map dsI).take k) = T at *
  by_cases h0 : (0 : Int) < (k : Int)
  ·rw [if_neg (show ¬ k = 0 from om)] at hsn
   have e1 : binV Tryz.prog .add 9 (.string (bs T)) (.string (bs [32])) = some (.string (bs (T ++ [32]))) := bin_adds _ _ sq
   have e2 : binV Tryz.prog .add 9 (.string (bs (T ++ [32]))) (.string (bs (dsI (L.getD k 0)))) = some (.string (bs (T ++ [32] ++ dsI (L.getD k 0)))) := bin_adds _ _ (by simp only [List.length_append, List.length_singleton]; omega)
   rw [← hsn] at e2
   simp (disch := omega) only [go_sem, a0, a5, a6, hlt, h0, e1, Int.toNat_natCast, hct]
   refine callK_pure ke (l6DecI_c (L.getD k 0) hx _) fun w2 x2 => ?_
   simp (disch := omega) only [go_sem, e2, a6]
   exact ⟨hkL, uu, uu, uu, uu, xw.trans x2⟩
  ·rw [if_pos (show k = 0 from om), List.append_nil] at hsn
   have e2 : binV Tryz.prog .add 9 (.string (bs T)) (.string (bs (dsI (L.getD k 0)))) = some (.string (bs (T ++ dsI (L.getD k 0)))) := bin_adds _ _ om
   rw [← hsn] at e2
   simp (disch := omega) only [go_sem, a0, a5, a6, hlt, h0, Int.toNat_natCast, hct]
   refine callK_pure ke (l6DecI_c (L.getD k 0) hx _) fun w2 x2 => ?_
   simp (disch := omega) only [go_sem, e2, a6]
   exact ⟨hkL, uu, uu, uu, uu, xw.trans x2⟩
 ·obtain rfl : k = L.length := om
  rw [take_full _ sm] at a5 hlk
  simp (disch := omega) only [go_sem, a0, a1, a5, a6, hlt]
  refine callK_pure ke (l10Said_c (jn 32 (L.map dsI)) ok _ om) fun w2 x2 => ?_
  simp (disch := omega) only [go_sem, Tryz.results104]
  exact ⟨rfl, xw.trans x2⟩
theorem l10Peaks_c (a : Option Addr) (rows : List (List Int)) (A : Nat → Option Addr) (Cp : Nat → Nat) (gc : Nat) (w : World) (hr : RowsAt w a rows A Cp) : Ret Tryz.prog 137 #[.slice a rows.length gc] w fun v w' => v = .string (bs (jn 32 (pkW rows) ++ [10])) ∧ Ext w w' := by
 have hPl : (pkW rows).length = (peakListOf rows).length := by simp [pkW]
 have hP49 : (peakListOf rows).length ≤ 49 := peakListOf_len rows
 have hWl := pkW_len rows
 have hlen := fun n => jnX_take_len (c := 32) hWl n
 refine enter1 Tryz.func137 rfl fun f a0 => ?_
 simp (disch := omega) only [go_sem, a0]
 refine callK_of ke (specPeakList_c _ _ _ _ _ _ hr) ?_
 rintro _ w1 ⟨pa, pc, rfl, po, hpa, x1⟩
 rw [ni_len] at po ⊢
 simp (disch := omega) only [go_sem]
 refine loopN (peakListOf rows).length (fun i f W => f 0 = .slice a rows.length gc ∧ f 3 = .string (bs (jn 32 ((pkW rows).take i))) ∧ f 4 = .slice pa (peakListOf rows).length pc ∧ f 5 = .int .i64 i ∧ Ext w W ∧ OwnS W 3 1 pa (peakListOf rows).length pc (vi (ni (peakListOf rows)))) ⟨uu, by simp [upd_apply, jn], uu, uu, x1, po⟩ fun i f W hi ⟨a0, a3, a4, a5, xw, po⟩ => ?_
 have hli := hlen i
 by_cases hlt : (i : Int) < ((peakListOf rows).length : Int)
 ·have hiP : i < (peakListOf rows).length := om
  have hmem : (peakListOf rows).getD i 0 ∈ peakListOf rows := getD_mem hiP
  obtain ⟨hr1, hr2, hr3⟩ := prom_rng hmem
  have hpm : promOf rows ((peakListOf rows).getD i 0 : Nat) = (((promOf rows ((peakListOf rows).getD i 0 : Nat)).toNat : Nat) : Int) := om
  obtain ⟨pb, rfl⟩ := po.some om
  have hcl := ni_cell po rfl hiP
  have hpw : (pkW rows).getD i [] = dec ((peakListOf rows).getD i 0) ++ 58 :: dec (promOf rows ((peakListOf rows).getD i 0 : Nat)).toNat := by
   simp [pkW, hiP, pkw, getD_at]
  have hsn := jnX_take (c := 32) (Ls := pkW rows) (n := i) om
  rw [hpw] at hsn
  generalize hp : (peakListOf rows).getD i 0 = p at *
  generalize hq : (promOf rows (p : Nat)).toNat = q at *
  have d1 := dec_len2 (n := p) om
  have d2 := dec_len2 (n := q) om
  generalize hTT : jn 32 ((pkW rows).take i) = T at *
  have i1 : (i : Int) < ((peakListOf rows).length : Int) := hlt
  simp (disch := omega) only [go_sem, a4, a5, hlt]
  refine cd_cut (fun f V => f 0 = .slice a rows.length gc ∧ f 3 = .string (bs (T ++ if i = 0 then [] else [32])) ∧ f 4 = .slice (some ⟨pb, 0, none⟩) (peakListOf rows).length pc ∧ f 5 = .int .i64 i ∧ V = W) (fun f V ⟨a0, a3, a4, a5, eV⟩ => ?_) ?_
  rotate_left
  ·by_cases h0 : (0 : Int) < (i : Int)
   ·have e1 : binV Tryz.prog .add 9 (.string (bs T)) (.string (bs [32])) = some (.string (bs (T ++ [32]))) := bin_adds _ _ sq
    rw [if_neg (show ¬ i = 0 from om)]
    simp (disch := omega) only [go_sem, a3, h0, e1]
    exact ⟨uu, uu, uu, uu, by first | rfl | trivial⟩
   ·rw [if_pos (show i = 0 from om), List.append_nil]
    simp (disch := omega) only [go_sem, a3, h0]
    exact ⟨uu, uu, uu, uu, by first | rfl | trivial⟩
  subst eV
  generalize hT2 : (T ++ if i = 0 then [] else [32]) = T2 at *
  have hT2l : T2.length ≤ 400 := by rw [← hT2, List.length_append]; split <;> simp <;> omega
  have e1 : binV Tryz.prog .add 9 (.string (bs T2)) (.string (bs (dec p))) = some (.string (bs (T2 ++ dec p))) := bin_adds _ _ om
  have e2 : binV Tryz.prog .add 9 (.string (bs (T2 ++ dec p))) (.string (bs [58])) = some (.string (bs (T2 ++ dec p ++ [58]))) := bin_adds _ _ sq
  have e3 : binV Tryz.prog .add 9 (.string (bs (T2 ++ dec p ++ [58]))) (.string (bs (dec q))) = some (.string (bs (T2 ++ dec p ++ [58] ++ dec q))) := bin_adds _ _ sq
  have e4 : T2 ++ dec p ++ [58] ++ dec q = jn 32 ((pkW rows).take (i + 1)) := by rw [hsn]; simp
  rw [e4] at e3
  have ex : Ext V V := Ext.refl _
  have cc : ∀ {V2}, Ext V V2 → V2.cell? ⟨pb, i, none⟩ = some (.int .i64 (p : Nat)) := fun x => x.cell hcl
  simp (disch := omega) only [go_sem]
  refine QR_sch none (.st 0 (.st 1 (.st 2 (.st 3 (.st 4 (.st 8 (.st 9 (.st 10 (.st 11 (.st 12 (.ef 5 (.st 6 (.st 7 (.ef 13 (.ef 14 (.st 15 (.st 16 (.done)))))))))))))))))) ke ke fun w0 x0 => ?_
  have X := ex.trans x0
  simp (disch := omega) only [go_sem, a0, a3, a4, a5, i1, cc x0, Int.toNat_natCast, ldS_none, e1, e2, hpm]
  refine callK_of ke (l6Dec_c p om _) ?_
  rintro _ w2 ⟨rfl, y1⟩
  refine nxE_of (y1.grow _) ?_
  have X := X.trans y1
  simp (disch := omega) only [go_sem, a0, a3, a4, a5, i1, cc x0, Int.toNat_natCast, ldS_none, e1, e2, hpm]
  refine callK_of ke (specPeakProminence_c _ _ _ _ _ _ _ (hr.ext (xw.trans X))) ?_
  rintro _ w2 ⟨rfl, y1⟩
  refine nxE_of (y1.grow _) ?_
  have X := X.trans y1
  simp (disch := omega) only [go_sem, a0, a3, a4, a5, i1, cc x0, Int.toNat_natCast, ldS_none, e1, e2, hpm]
  refine callK_of ke (l6Dec_c q om _) ?_
  rintro _ w2 ⟨rfl, y1⟩
  refine nxE_of (y1.grow _) ?_
  have X := X.trans y1
  simp (disch := omega) only [go_sem, e3, a5]
  exact ⟨hiP, uu, uu, uu, uu, xw.trans X, po.ext X⟩
 ·obtain rfl : i = (peakListOf rows).length := om
  rw [take_full _ hPl] at a3 hli
  have e1 : binV Tryz.prog .add 9 (.string (bs (jn 32 (pkW rows)))) (.string (bs [10])) = some (.string (bs (jn 32 (pkW rows) ++ [10]))) := bin_adds _ _ sq
  simp (disch := omega) only [go_sem, a3, a4, a5, hlt, e1, Tryz.results137]
  exact ⟨trivial, xw⟩
end Go.Proofs.YtcbmhjndbpafbaaGreatDoor
