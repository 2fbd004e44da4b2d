import Derived.Test.YtcbmhjndbpafbaaGreatDoorK5
import Derived.Test.YtcbmhjndbpafbaaGreatDoorK0
import Derived.Test.YtcbmhjndbpafbaaGreatDoorKb
set_option linter.all false
set_option maxRecDepth 20000
namespace Go.SW
def hiB (h : Nat → Int) (a b : Nat) : Bool := decide (h b < h a ∨ (h a = h b ∧ a < b))
def peakB (R C : Nat) (h : Nat → Int) (i : Nat) : Bool := (nearN R C i).all fun j => !hiB h j i
end Go.SW
namespace Go.Proofs.YtcbmhjndbpafbaaGreatDoor
open Go.RowKit Go.SW
theorem higher_c (R C cb : Nat) (h : Nat → Int) (a b : Nat) (w : World) (hc : CellsAt w cb (R * C) h) (ha : a < R * C) (hb : b < R * C) :
  Ret Tryz.prog 215 #[.agg #[.int .i64 R, .int .i64 C, .slice (some ⟨cb, 0, none⟩) (R * C) (R * C)], .int .i64 a, .int .i64 b] w fun v w' => v = .bool (hiB h a b) ∧ Ext w w' := by
 refine enter3 Tryz.func215 rfl fun f a0 a1 a2 => ?_
 simp only [go_sem, a0]
 refine boxK_of fun w0 fb eb x0 k0 _ => ?_
 have hc0 := hc.ext x0
 simp (disch := omega) only [go_sem, a1, a2]
 refine QR_of ke ke ?_
 have ca := hc0 a ha
 have cb' := hc0 b hb
 simp (disch := omega) only [go_sem, a1, a2, k0.cell, Value.cells, ca, cb']
 intro w1 x1
 have k1 := k0.ext x1
 have ca1 := x1.cell ca
 have cb1 := x1.cell cb'
 by_cases he : h a = h b
 ·have hne : (h a != h b) = false := by simp [he]
  by_cases hl : (a : Int) < (b : Int)
  ·simp (disch := omega) only [go_sem, a1, a2, hne, hl, Tryz.results215]
   exact ⟨by simp [hiB, he]; omega, x0.trans x1⟩
  ·simp (disch := omega) only [go_sem, a1, a2, hne, hl, Tryz.results215]
   exact ⟨by simp [hiB, he]; omega, x0.trans x1⟩
 ·have hne : (h a != h b) = true := by simp [he]
  simp (disch := omega) only [go_sem, a1, a2, hne]
  refine QR_of ke ke ?_
  by_cases hl : h b < h a
  ·simp (disch := omega) only [go_sem, a1, a2, k1.cell, Value.cells, ca1, cb1, hl]
   intro w2 x2
   simp (disch := omega) only [go_sem, Tryz.results215]
   exact ⟨by simp [hiB, hl], (x0.trans x1).trans x2⟩
  ·simp (disch := omega) only [go_sem, a1, a2, k1.cell, Value.cells, ca1, cb1, hl]
   intro w2 x2
   simp (disch := omega) only [go_sem, Tryz.results215]
   exact ⟨by simp [hiB, hl, he], (x0.trans x1).trans x2⟩
theorem cell_c (R C cb : Nat) (i : Int) (w : World) (hn : R * C ≤ 49) :
  Ret Tryz.prog 218 #[.agg #[.int .i64 R, .int .i64 C, .slice (some ⟨cb, 0, none⟩) (R * C) (R * C)], .int .i64 i] w fun v w' => v = .bool (decide (0 ≤ i ∧ i < (R * C : Nat))) ∧ Ext w w' := by
 refine enter2 Tryz.func218 rfl fun f a0 a1 => ?_
 simp only [go_sem, a0]
 refine boxK_of fun w0 fb eb x0 k0 _ => ?_
 by_cases h1 : 0 ≤ i <;> by_cases h2 : i < (R * C : Nat) <;>
  (simp (disch := omega) only [go_sem, a1, k0.cell, Value.cells, h1, h2, Tryz.results218]; exact ⟨by first | trivial | simp [h1, h2], x0⟩)
theorem all_take {l : List Nat} {p : Nat → Bool} {m : Nat} (hm : m < l.length) : (l.take (m + 1)).all p = ((l.take m).all p && p (l.getD m 0)) := by
 rw [List.take_succ_eq_append_getElem hm, List.all_append, getD_at l 0 hm]; simp
theorem peak_c (R C cb : Nat) (h : Nat → Int) (i : Int) (w : World) (g : Gd R C h) (hc : CellsAt w cb (R * C) h) :
  Ret Tryz.prog 195 #[.agg #[.int .i64 R, .int .i64 C, .slice (some ⟨cb, 0, none⟩) (R * C) (R * C)], .int .i64 i] w fun v w' => v = .bool (decide (0 ≤ i ∧ i < (R * C : Nat)) && peakB R C h i.toNat) ∧ Ext w w' := by
 have hn49 := g.le
 refine enter2 Tryz.func195 rfl fun f a0 a1 => ?_
 simp only [go_sem, a0]
 refine boxK_of fun w0 fb eb x0 k0 _ => ?_
 have k0 : Blk w0 fb #[.int .i64 R, .int .i64 C, .slice (some ⟨cb, 0, none⟩) (R * C) (R * C)] 70 := by simpa [Value.cells] using k0
 have hc0 := hc.ext x0
 simp (disch := omega) only [go_sem, a1, readCells_blk k0 (n := 3) sm]
 refine callK_pure ke (cell_c _ _ _ _ _ hn49) fun w1 x1 => ?_
 by_cases hin : 0 ≤ i ∧ i < (R * C : Nat)
 ·obtain ⟨n, rfl⟩ : ∃ n : Nat, i = n := ⟨i.toNat, om⟩
  have hnn : n < R * C := om
  have hd : decide (0 ≤ (n : Int) ∧ (n : Int) < (R * C : Nat)) = true := decide_eq_true hin
  rw [hd, Int.toNat_natCast, Bool.true_and]
  simp (disch := omega) only [go_sem, a1, hd, readCells_blk (k0.ext x1) (n := 3) sm]
  refine callK_of ke (neighbors_c _ _ n _ _ g.r7 g.c7 hnn) ?_
  rintro _ w2 ⟨na, nc, rfl, no, -, x2⟩
  have hn4 := nearN_len R C n
  have x12 := x1.trans x2
  simp (disch := omega) only [go_sem]
  refine loopN (nearN R C n).length (fun m f V => f 1 = .int .i64 n ∧ f 2 = .pointer (some ⟨fb, 0, none⟩) ∧ f 13 = .slice na (nearN R C n).length nc ∧ f 14 = .int .i64 (nearN R C n).length ∧ f 15 = .int .i64 m ∧ ((nearN R C n).take m).all (fun j => !hiB h j n) = true ∧ Ext w2 V) ⟨uu, uu, uu, uu, uu, by simp, Ext.refl _⟩ fun m f V hm ⟨a1, a2, a13, a14, a15, hall, xm⟩ => ?_
  by_cases hlm : (m : Int) < (nearN R C n).length
  ·have hml : m < (nearN R C n).length := om
   obtain ⟨nb, rfl⟩ := no.some om
   have hjk : (nearN R C n).getD m 0 < R * C := nearN_lt hnn _ (getD_mem hml)
   have hjm : (nearN R C n).getD m 0 ∈ nearN R C n := getD_mem hml
   have g0 : V.cell? ⟨nb, m, none⟩ = some (.int .i64 ((nearN R C n).getD m 0 : Nat)) := by rw [(no.ext xm).cell om, vi_get _ _ (by rw [ni_len]; omega), ni_get _ hml]
   have hstep := all_take (l := nearN R C n) (p := fun j => !hiB h j n) hml
   rw [hall, Bool.true_and] at hstep
   generalize (nearN R C n).getD m 0 = j at *
   simp (disch := omega) only [go_sem, a1, a2, a13, a14, a15, hlm, g0, readCells_blk ((k0.ext x12).ext xm) (n := 3) sm]
   refine callK_pure ke (higher_c R C cb h j n _ ((hc0.ext x12).ext xm) hjk hnn) fun w3 x3 => ?_
   cases hh : hiB h j n with
   | true =>
    have hp : peakB R C h n = false := by
     cases e : peakB R C h n with
     | false => rfl
     | true => have := List.all_eq_true.1 e j hjm; rw [hh] at this; cases this
    simp (disch := omega) only [go_sem, Tryz.results195]
    exact ⟨by rw [hp], ((x0.trans x12).trans xm).trans x3⟩
   | false =>
    rw [hh] at hstep
    simp (disch := omega) only [go_sem, a15]
    exact ⟨hml, uu, uu, uu, uu, uu, hstep, xm.trans x3⟩
  ·obtain rfl : m = (nearN R C n).length := om
   rw [List.take_length] at hall
   simp (disch := omega) only [go_sem, a14, a15, hlm, Tryz.results195]
   exact ⟨by rw [peakB, hall], (x0.trans x12).trans xm⟩
 ·have hd : decide (0 ≤ i ∧ i < (R * C : Nat)) = false := decide_eq_false hin
  simp (disch := omega) only [go_sem, hd, Tryz.results195]
  exact ⟨by rw [Bool.false_and], x0.trans x1⟩
theorem l4Higher_c (gb go gc : Nat) (rb ro rc : Nat → Nat) (R C : Nat) (h : Nat → Int) (a b : Nat) (w : World) (hg : GridAt w gb go rb ro rc R C h) (hR7 : R ≤ 7) (hC7 : C ≤ 7) (ha : a < R * C) (hb : b < R * C) :
  Ret Tryz.prog 205 #[.slice (some ⟨gb, go, none⟩) R gc, .int .i64 a, .int .i64 b] w fun v w' => v = .bool (hiB h a b) ∧ Ext w w' := by
 refine enter3 Tryz.func205 rfl fun f a0 a1 a2 => ?_
 have ea : ((a : Nat) : Int).toNat = a := om
 have eb : ((b : Nat) : Int).toNat = b := om
 have hh := fun W (e : Ext w W) (i : Nat) (hi : i < R * C) => l2Height_c gb go gc rb ro rc R C h W (hg.ext e) hR7 hC7 (i : Int) om om
 simp (disch := omega) only [go_sem, a0, a1]
 refine callK_pure ke (hh _ (Ext.refl _) a ha) fun w1 x1 => ?_
 simp (disch := omega) only [go_sem, a0, a2]
 refine callK_pure ke (hh _ x1 b hb) fun w2 x2 => ?_
 have x12 := x1.trans x2
 by_cases hl : h b < h a
 ·simp (disch := omega) only [go_sem, ea, eb, hl, Tryz.results205]
  have hv : hiB h a b = true := by simp [hiB, hl]
  rw [hv]
  exact ⟨by first | trivial | rfl | simp only [tup, updO_some, updO_none, upd_apply, Nat.reduceEqDiff, ↓reduceIte], x12⟩
 simp (disch := omega) only [go_sem, a0, a1, ea, eb, hl]
 refine callK_pure ke (hh _ x12 a ha) fun w3 x3 => ?_
 simp (disch := omega) only [go_sem, a0, a2]
 refine callK_pure ke (hh _ (x12.trans x3) b hb) fun w4 x4 => ?_
 have x14 := (x12.trans x3).trans x4
 by_cases he : h a = h b
 ·have hbe : (h a == h b) = true := by simp [he]
  by_cases hab : (a : Int) < (b : Int)
  ·simp (disch := omega) only [go_sem, ea, eb, a1, a2, hbe, hab, Tryz.results205]
   exact ⟨by simp [hiB, he]; omega, x14⟩
  ·simp (disch := omega) only [go_sem, ea, eb, a1, a2, hbe, hab, Tryz.results205]
   exact ⟨by simp [hiB, he]; omega, x14⟩
 ·have hbe : (h a == h b) = false := by simp [he]
  simp (disch := omega) only [go_sem, ea, eb, hbe, Tryz.results205]
  exact ⟨by simp [hiB, he, hl], x14⟩
theorem l4Peak_c (gb go gc : Nat) (rb ro rc : Nat → Nat) (R C : Nat) (h : Nat → Int) (n : Nat) (w : World) (hg : GridAt w gb go rb ro rc R C h) (hR7 : R ≤ 7) (hC7 : C ≤ 7) (hnn : n < R * C) :
  Ret Tryz.prog 204 #[.slice (some ⟨gb, go, none⟩) R gc, .int .i64 n] w fun v w' => v = .bool (peakB R C h n) ∧ Ext w w' := by
 refine enter2 Tryz.func204 rfl fun f a0 a1 => ?_
 simp (disch := omega) only [go_sem, a0, a1]
 refine callK_of ke (l2Near_c gb go gc rb ro rc R C h _ hg hR7 hC7 n hnn) ?_
 rintro _ w2 ⟨na, nc, rfl, no, -, x2⟩
 have hn4 := nearN_len R C n
 simp (disch := omega) only [go_sem]
 refine loopN (nearN R C n).length (fun m f V => f 0 = .slice (some ⟨gb, go, none⟩) R gc ∧ f 1 = .int .i64 n ∧ f 5 = .slice na (nearN R C n).length nc ∧ f 6 = .int .i64 m ∧ ((nearN R C n).take m).all (fun j => !hiB h j n) = true ∧ Ext w2 V) ⟨uu, uu, uu, uu, by simp, Ext.refl _⟩ fun m f V hm ⟨a0, a1, a5, a6, hall, xm⟩ => ?_
 by_cases hlm : (m : Int) < (nearN R C n).length
 ·have hml : m < (nearN R C n).length := om
  obtain ⟨nb, rfl⟩ := no.some om
  have hjk : (nearN R C n).getD m 0 < R * C := nearN_lt hnn _ (getD_mem hml)
  have hjm : (nearN R C n).getD m 0 ∈ nearN R C n := getD_mem hml
  have g0 : V.cell? ⟨nb, m, none⟩ = some (.int .i64 ((nearN R C n).getD m 0 : Nat)) := by rw [(no.ext xm).cell om, vi_get _ _ (by rw [ni_len]; omega), ni_get _ hml]
  have hstep := all_take (l := nearN R C n) (p := fun j => !hiB h j n) hml
  rw [hall, Bool.true_and] at hstep
  generalize (nearN R C n).getD m 0 = j at *
  simp (disch := omega) only [go_sem, a0, a1, a5, a6, hlm, g0]
  refine callK_pure ke (l4Higher_c gb go gc rb ro rc R C h j n _ ((hg.ext x2).ext xm) hR7 hC7 hjk hnn) fun w3 x3 => ?_
  cases hh : hiB h j n with
  | true =>
   have hp : peakB R C h n = false := by
    cases e : peakB R C h n with
    | false => rfl
    | true => have := List.all_eq_true.1 e j hjm; rw [hh] at this; cases this
   simp (disch := omega) only [go_sem, Tryz.results204]
   exact ⟨by rw [hp], (x2.trans xm).trans x3⟩
  | false =>
   rw [hh] at hstep
   simp (disch := omega) only [go_sem, a6]
   exact ⟨hml, uu, uu, uu, uu, hstep, xm.trans x3⟩
 ·obtain rfl : m = (nearN R C n).length := om
  rw [List.take_length] at hall
  simp (disch := omega) only [go_sem, a5, a6, hlm, Tryz.results204]
  exact ⟨by rw [peakB, hall], x2.trans xm⟩
end Go.Proofs.YtcbmhjndbpafbaaGreatDoor
namespace Go.SW
section
variable {α : Type} (ah : α → α → Bool)
structure Ahead : Prop where
 asy : ∀ a b, ah a b = true → ah b a = false
 tr : ∀ a b c, ah a b = false → ah b c = false → ah a c = false
def Heap (n : Nat) (L : Nat → α) : Prop := ∀ j, 0 < j → j < n → ah (L j) (L ((j - 1) / 2)) = false
def swp (L : Nat → α) (i b : Nat) : Nat → α := fun k => if k = i then L b else if k = b then L i else L k
structure UpInv (n : Nat) (L : Nat → α) (i : Nat) : Prop where
 ok : ∀ j, 0 < j → j < n → j ≠ i → ah (L j) (L ((j - 1) / 2)) = false
 ch : ∀ j, 0 < j → j < n → (j - 1) / 2 = i → 0 < i → ah (L j) (L ((i - 1) / 2)) = false
structure DnInv (n : Nat) (L : Nat → α) (i : Nat) : Prop where
 ok : ∀ j, 0 < j → j < n → (j - 1) / 2 ≠ i → ah (L j) (L ((j - 1) / 2)) = false
 ch : ∀ j, 0 < j → j < n → (j - 1) / 2 = i → 0 < i → ah (L j) (L ((i - 1) / 2)) = false
variable {ah}
theorem swp_at (L : Nat → α) (i b : Nat) : swp L i b i = L b ∧ swp L i b b = L i := by
 simp only [swp]
 refine ⟨by simp, ?_⟩
 by_cases e : b = i
 ·subst e; simp
 ·simp [e]
theorem swp_ne (L : Nat → α) {i b k : Nat} (h1 : k ≠ i) (h2 : k ≠ b) : swp L i b k = L k := by simp [swp, h1, h2]
theorem UpInv.step (o : Ahead ah) {n : Nat} {L : Nat → α} {i : Nat} (u : UpInv ah n L i) (h0 : 0 < i) (hi : i < n) (ha : ah (L i) (L ((i - 1) / 2)) = true) : UpInv ah n (swp L i ((i - 1) / 2)) ((i - 1) / 2) := by
 generalize hp : (i - 1) / 2 = p at *
 have hpi : p < i := om
 have e1 := (swp_at L i p).1
 have e2 := (swp_at L i p).2
 have hr := o.asy _ _ ha
 refine ⟨fun j j0 jn jp => ?_, fun j j0 jn jp p0 => ?_⟩
 ·by_cases ji : j = i
  ·subst ji; rw [hp, e1, e2]; exact hr
  ·rw [swp_ne L ji jp]
   by_cases c1 : (j - 1) / 2 = i
   ·rw [c1, e1, ← hp]; exact u.ch j j0 jn c1 h0
   ·by_cases c2 : (j - 1) / 2 = p
    ·rw [c2, e2]
     have := u.ok j j0 jn ji
     rw [c2] at this
     exact o.tr _ _ _ this hr
    ·rw [swp_ne L c1 c2]; exact u.ok j j0 jn ji
 ·have c3 : (p - 1) / 2 ≠ i := om
  have c4 : (p - 1) / 2 ≠ p := om
  rw [swp_ne L c3 c4]
  have hpp := u.ok p p0 om om
  by_cases ji : j = i
  ·subst ji; rw [e1]; exact hpp
  ·rw [swp_ne L ji om]
   have := u.ok j j0 jn ji
   rw [jp] at this
   exact o.tr _ _ _ this hpp
theorem UpInv.done {n : Nat} {L : Nat → α} {i : Nat} (u : UpInv ah n L i) (h : i = 0 ∨ ah (L i) (L ((i - 1) / 2)) = false) : Heap ah n L := fun j j0 jn => by
 by_cases e : j = i
 ·subst e; rcases h with h | h
  ·omega
  ·exact h
 ·exact u.ok j j0 jn e
theorem UpInv.start {n : Nat} {L : Nat → α} (h : Heap ah n L) (x : α) : UpInv ah (n + 1) (fun k => if k = n then x else L k) n := by
 refine ⟨fun j j0 jn je => ?_, fun j j0 jn jp _ => om⟩
 have c : (j - 1) / 2 ≠ n := om
 simp only [if_neg je, if_neg c]
 exact h j j0 om
theorem DnInv.step (o : Ahead ah) {n : Nat} {L : Nat → α} {i b : Nat} (d : DnInv ah n L i) (hb0 : 0 < b) (hbn : b < n) (hbi : (b - 1) / 2 = i) (ha : ah (L b) (L i) = true) (hs : ∀ s, 0 < s → s < n → (s - 1) / 2 = i → ah (L s) (L b) = false) : DnInv ah n (swp L i b) b := by
 have e1 := (swp_at L i b).1
 have e2 := (swp_at L i b).2
 have hib : i < b := om
 have hr := o.asy _ _ ha
 refine ⟨fun j j0 jn jp => ?_, fun j j0 jn jp b0 => ?_⟩
 ·by_cases jb : j = b
  ·subst jb; rw [hbi, e1, e2]; exact hr
  ·by_cases ji : j = i
   ·subst ji
    rw [e1, swp_ne L om om]
    exact d.ch b hb0 hbn hbi j0
   ·rw [swp_ne L ji jb]
    by_cases c1 : (j - 1) / 2 = i
    ·rw [c1, e1]; exact hs j j0 jn c1
    ·rw [swp_ne L c1 jp]; exact d.ok j j0 jn c1
 ·rw [hbi, e1, swp_ne L om om]
  have := d.ok j j0 jn om
  rw [jp] at this; exact this
theorem DnInv.done {n : Nat} {L : Nat → α} {i : Nat} (d : DnInv ah n L i) (h : ∀ s, 0 < s → s < n → (s - 1) / 2 = i → ah (L s) (L i) = false) : Heap ah n L := fun j j0 jn => by
 by_cases e : (j - 1) / 2 = i
 ·rw [e]; exact h j j0 jn e
 ·exact d.ok j j0 jn e
theorem DnInv.start {n : Nat} {L : Nat → α} (h : Heap ah (n + 1) L) : DnInv ah n (fun k => if k = 0 then L n else L k) 0 := by
 refine ⟨fun j j0 jn jp => ?_, fun j j0 jn jp h0 => om⟩
 have c : j ≠ 0 := om
 simp only [if_neg c, if_neg jp]
 exact h j j0 om
theorem Heap.top (o : Ahead ah) {n : Nat} {L : Nat → α} (h : Heap ah n L) : ∀ j, j < n → ah (L j) (L 0) = false := by
 have irr : ∀ a, ah a a = false := fun a => by
  cases e : ah a a with
  | false => rfl
  | true => have := o.asy _ _ e; rw [e] at this; exact this
 intro j
 induction j using Nat.strongRecOn with
 | _ j ih =>
  intro hj
  by_cases j0 : j = 0
  ·subst j0; exact irr _
  ·exact o.tr _ _ _ (h j om hj) (ih ((j - 1) / 2) om om)
end
def bag {α : Type} [DecidableEq α] (n : Nat) (L : Nat → α) (x : α) : Nat := cntp (fun k => L k = x) n
section
variable {α : Type} [DecidableEq α]
theorem bag_swp {n i b : Nat} (L : Nat → α) (hi : i < n) (hb : b < n) (x : α) : bag n (swp L i b) x = bag n L x := by
 let σ : Nat → Nat := fun k => if k = i then b else if k = b then i else k
 have hσ : ∀ k, k < n → σ k < n ∧ σ (σ k) = k := fun k hk => by
  simp only [σ]
  by_cases h1 : k = i
  ·subst h1
   by_cases h2 : b = k
   ·subst h2; simp [hk]
   ·simp [h2, hb]
  ·by_cases h2 : k = b
   ·subst h2; simp [h1, hi]
   ·simp [h1, h2, hk]
 exact cntp_perm σ σ hσ hσ _ _ fun k hk => by
  simp only [swp, σ]
  by_cases h1 : k = i
  ·simp [h1]
  ·by_cases h2 : k = b
   ·by_cases h3 : b = i <;> simp [h2, h3]
   ·simp [h1, h2]
theorem bag_put (n : Nat) (L : Nat → α) (y x : α) : bag (n + 1) (fun k => if k = n then y else L k) x = bag n L x + if y = x then 1 else 0 := by
 simp only [bag, cntp, if_pos]
 congr 1
 exact cntp_congr fun k hk => by rw [if_neg om]
theorem bag_take (n : Nat) (L : Nat → α) (x : α) : bag n (fun k => if k = 0 then L n else L k) x + (if L 0 = x then 1 else 0) = bag (n + 1) L x := by
 have h := bag_swp (n := n + 1) L (i := 0) (b := n) om om x
 rw [← h]
 simp only [bag, cntp, (swp_at L 0 n).2]
 congr 1
 exact cntp_congr fun k hk => by
  by_cases h0 : k = 0
  ·subst h0; simp [(swp_at L 0 n).1]
  ·rw [if_neg h0, swp_ne L h0 om]
theorem bag_mem {n : Nat} {L : Nat → α} {x : α} : 0 < bag n L x ↔ ∃ k, k < n ∧ L k = x := cntp_posI _
end
open Go Go.RowKit
structure GrowS (S : Nat → Prop) (w w' : World) : Prop where
 os : w'.os = w.os
 tape : w'.tape = w.tape
 output : w'.output = w.output
 size : w.heap.size ≤ w'.heap.size
 other : ∀ b, b < w.heap.size → ¬ S b → w'.heap[b]? = w.heap[b]?
theorem GrowS.refl (S : Nat → Prop) (w : World) : GrowS S w w := ⟨rfl, rfl, rfl, Nat.le_refl _, fun _ _ _ => rfl⟩
theorem GrowS.trans {S T : Nat → Prop} {a b c : World} (h : GrowS S a b) (k : GrowS T b c) (hT : ∀ i, i < a.heap.size → T i → S i) : GrowS S a c :=
 ⟨k.os.trans h.os, k.tape.trans h.tape, k.output.trans h.output, Nat.le_trans h.size k.size, fun i hi hs => (k.other i (Nat.lt_of_lt_of_le hi h.size) fun ht => hs (hT i hi ht)).trans (h.other i hi hs)⟩
theorem Grow.toS {ob : Option Nat} {w w' : World} (g : Grow ob w w') : GrowS (fun b => ob = some b) w w' := ⟨g.os, g.tape, g.output, g.size, fun b hb hs => g.other b hb hs⟩
theorem Ext.toS {w w' : World} (e : Ext w w') (S : Nat → Prop) : GrowS S w w' := ⟨e.os, e.tape, e.output, Below.size e, fun b hb _ => Below.block e b hb⟩
theorem GrowS.own {S : Nat → Prop} {w w' : World} (g : GrowS S w w') {e s n c : Nat} {a : Option Addr} {xs : List Value} (o : OwnS w e s a n c xs) (h : ∀ b, blk a = some b → ¬ S b) : OwnS w' e s a n c xs :=
 o.kept fun b hb => g.other b (o.blk_lt hb) (h b hb)
theorem GrowS.blk {S : Nat → Prop} {w w' : World} (g : GrowS S w w') {b : Nat} {cs : Array Value} {T : TypeId} (k : Blk w b cs T) (h : ¬ S b) : Blk w' b cs T := by
 unfold Blk; rw [g.other b k.lt h]; exact k
theorem GrowS.cells {S : Nat → Prop} {w w' : World} (g : GrowS S w w') {cb n : Nat} {h : Nat → Int} (c : CellsAt w cb n h) (hs : ¬ S cb) : CellsAt w' cb n h := fun i hi => by
 have hc := c i hi
 rw [World.cell?_of_block (g.other cb (World.block_lt_of_cell? w _ hc) hs)]; exact hc
theorem GrowS.ext {S : Nat → Prop} {w0 w w' : World} (g : GrowS S w w') (e : Ext w0 w) (h : ∀ b, S b → w0.heap.size ≤ b) : Ext w0 w' :=
 Below.trans e ⟨g.os, g.tape, g.output, g.size, fun k hk => g.other k (Nat.lt_of_lt_of_le hk e.size) (fun hs => by have := h k hs; omega)⟩
theorem hiB_ahead (h : Nat → Int) : Ahead (hiB h) := by
 refine ⟨fun a b e => ?_, fun a b c e1 e2 => ?_⟩
 ·simp only [hiB, decide_eq_true_eq, decide_eq_false_iff_not] at *; omega
 ·simp only [hiB, decide_eq_false_iff_not] at *; omega
end Go.SW
namespace Go.Proofs.YtcbmhjndbpafbaaGreatDoor
open Go.RowKit Go.SW
theorem aggN_p : aggN Tryz.prog 205 = some 2 := ke
theorem scal_p : scal Tryz.prog 205 = false := ke
theorem foff_p0 : foff Tryz.prog 205 0 = some 0 := ke
theorem foff_p1 : foff Tryz.prog 205 1 = some 1 := ke
theorem scal_fn : scal Tryz.prog 176 = true := ke
attribute [go_sem] scal_fn aggN_p scal_p foff_p0 foff_p1
def fvH (R C cb : Nat) : Value := .func (.func 215) #[.agg #[.int .i64 R, .int .i64 C, .slice (some ⟨cb, 0, none⟩) (R * C) (R * C)]] #[]
def PileAt (w : World) (pb : Nat) (fv : Value) (a : Option Addr) (c n : Nat) (L : Nat → Nat) : Prop := Blk w pb #[fv, .slice a n c] 205 ∧ OwnS w 3 1 a n c (vi (ni ((List.range n).map L))) ∧ blk a ≠ some pb
theorem put_c (R C cb : Nat) (h : Nat → Int) (pb : Nat) (a : Option Addr) (c n : Nat) (L : Nat → Nat) (x : Nat) (w : World) (p : PileAt w pb (fvH R C cb) a c n L) (hc : CellsAt w cb (R * C) h) (hcp : cb ≠ pb) (hca : blk a ≠ some cb) (hL : ∀ k, k < n → L k < R * C) (hx : x < R * C) (hp : Heap (hiB h) n L) (hn : n ≤ 1000) :
  Ret Tryz.prog 216 #[.pointer (some ⟨pb, 0, none⟩), .int .i64 x] w fun _ w' => ∃ a' c' L', PileAt w' pb (fvH R C cb) a' c' (n + 1) L' ∧ Heap (hiB h) (n + 1) L' ∧ (∀ y, bag (n + 1) L' y = bag n L y + if x = y then 1 else 0) ∧
   (∀ b, blk a' = some b → blk a = some b ∨ w.heap.size ≤ b) ∧ GrowS (fun b => b = pb ∨ blk a = some b) w w' := by
 obtain ⟨pk, po, pne⟩ := p
 refine enter2 Tryz.func216 rfl fun f a0 a1 => ?_
 simp (disch := omega) only [go_sem, a0, a1, pk.cell]
 refine bslK_1 elt_i rfl fun w1 b1 e1 x1 k1 _ => ?_
 simp (disch := omega) only [go_sem]
 refine appK_1 elt_i (po.ext x1) k1 rfl om (.inl dc) fun w2 a2 c2 o2 g2 h2 => ?_
 have s1 := x1.size
 have pl := pk.lt
 have pk2 := g2.blk (pk.ext x1) (by intro e; exact pne e)
 simp (disch := omega) only [go_sem]
 refine stK_blk siz_i rf rf pk2 sm fun w3 pk3 g3 => ?_
 have pk3 : Blk w3 pb #[fvH R C cb, .slice a2 (n + 1) c2] 205 := by simpa using pk3
 have hne2 : blk a2 ≠ some pb := fun e => by
  rcases h2 pb e with h | h
  ·exact pne h
  ·omega
 have eL : vi (ni ((List.range n).map L)) ++ [.int .i64 (x : Int)] = vi (ni ((List.range (n + 1)).map fun k => if k = n then x else L k)) := by
  rw [vi_ni_snoc _ x _ rfl, List.range_succ, List.map_append]
  congr 2
  have : (List.range n).map L = (List.range n).map fun k => if k = n then x else L k := List.map_congr_left fun k hk => by
   have := List.mem_range.1 hk; rw [if_neg om]
  rw [this]; simp
 rw [eL] at o2
 have o3 := o2.grow g3.grow (fun b hb e => by cases e; exact hne2 hb)
 have gs3 : GrowS (fun b => b = pb ∨ blk a = some b) w w3 := ((x1.toS _).trans g2.toS (fun i _ h => .inr h)).trans g3.grow.toS (fun i _ h => .inl (by simpa using h.symm))
 have hcb2 : blk a2 ≠ some cb := fun e => by
  rcases h2 cb e with h | h
  ·exact hca h
  ·have := hc.lt om; omega
 have hc3 := gs3.cells hc (fun h => by rcases h with h | h; exact hcp h; exact hca h)
 simp (disch := omega) only [go_sem, a0, pk3.cell]
 refine loopX (fun m f W => f 0 = .pointer (some ⟨pb, 0, none⟩) ∧ ∃ (i : Nat) (M : Nat → Nat), m = i ∧ i ≤ n ∧ f 4 = .int .i64 i ∧ PileAt W pb (fvH R C cb) a2 c2 (n + 1) M ∧ UpInv (hiB h) (n + 1) M i ∧ (∀ y, bag (n + 1) M y = bag n L y + if x = y then 1 else 0) ∧ (∀ k, k < n + 1 → M k < R * C) ∧ CellsAt W cb (R * C) h ∧ GrowS (fun b => b = pb ∨ blk a2 = some b) w3 W) n ⟨by simp [upd_apply, a0], n, _, rfl, Nat.le_refl _, by simp [upd_apply], ⟨pk3, o3, hne2⟩, UpInv.start hp x, fun y => bag_put n L x y, fun k hk => ?_, hc3, GrowS.refl _ _⟩ fun m f W ⟨a0, i, M, hm, hin, a4, ⟨pkW, oW, neW⟩, uW, bW, lW, cW, gW⟩ => ?_
 ·split
  ·exact hx
  ·exact hL k om
 subst hm
 have h2' : ∀ b, blk a2 = some b → blk a = some b ∨ w.heap.size ≤ b := fun b hb => (h2 b hb).imp id fun h => om
 obtain ⟨ub, rfl⟩ := oW.some om
 by_cases h0 : (0 : Int) < (m : Int)
 ·have hq : ((m : Int) - 1) / 2 = (((m - 1) / 2 : Nat) : Int) := om
  have ci : W.cell? ⟨ub, m, none⟩ = some (.int .i64 (M m : Nat)) := by rw [oW.cell om]; exact vi_range_get M om
  have cp : W.cell? ⟨ub, (m - 1) / 2, none⟩ = some (.int .i64 (M ((m - 1) / 2) : Nat)) := by rw [oW.cell om]; exact vi_range_get M om
  simp (disch := omega) only [go_sem, a0, a4, h0, hq]
  refine QR_of ke ke ?_
  simp (disch := omega) only [go_sem, a0, a4, pkW.cell, ci, cp, fvH]
  refine callK_q ke (fun w' e => higher_c R C cb h (M m) (M ((m - 1) / 2)) _ (cW.ext e) (lW _ om) (lW _ om)) ?_
  simp (disch := omega) only [go_sem]
  intro W1 y1
  replace pkW := pkW.ext y1
  replace oW := oW.ext y1
  replace cW := cW.ext y1
  replace ci := y1.cell ci
  replace cp := y1.cell cp
  replace gW : GrowS (fun b => b = pb ∨ blk (some ⟨ub, 0, none⟩) = some b) w3 W1 := gW.trans (y1.toS _) fun _ _ h => h
  cases hh : hiB h (M m) (M ((m - 1) / 2)) with
  | false =>
   simp (disch := omega) only [go_sem, Tryz.results216]
   exact ⟨_, c2, M, ⟨pkW, oW, neW⟩, uW.done (.inr hh), bW, h2', gs3.trans gW fun i hi hs => by
    rcases hs with hs | hs
    ·exact .inl hs
    ·rcases h2 i hs with h' | h'
     ·exact .inr h'
     ·omega⟩
  | true =>
   simp (disch := omega) only [go_sem]
   refine QR_sch (some ub) (.st 0 (.st 1 (.st 2 (.st 3 (.st 4 (.st 5 (.st 6 (.st 7 (.st 8 (.st 9 (.st 10 (.st 11 (.st 12 (.st 13 (.st 14 (.st 15 (.st 17 (.st 18 (.st 19 (.st 20 (.st 21 (.st 22 (.alt (.ef 16 (.ef 23 (.st 24 (.ef 25 (.st 26 (.fin 27 (.done))))))) (.ef 23 (.ef 16 (.st 24 (.ef 25 (.st 26 (.fin 27 (.done)))))))))))))))))))))))))))))) ke ke fun w5 x5 => ?_
   have neW' : ub ≠ pb := by simpa [blk] using neW
   have pk5 := pkW.ext x5
   have o5 := oW.ext x5
   have ci5 := x5.cell ci
   have cp5 := x5.cell cp
   simp (disch := omega) only [go_sem, a0, a4, pk5.cell]
   refine RLT_alt ?_ ?_
   ·simp (disch := omega) only [go_sem, ci5, cp5]
    refine nxE_of (Grow.refl _ _) ?_
    simp (disch := omega) only [go_sem, ci5, cp5]
    refine nxE_of (Grow.refl _ _) ?_
    simp (disch := omega) only [go_sem]
    refine stK_own siz_int rf rf o5 om fun w6 o6 g6 => nxE_of g6.grow ?_
    rw [vi_range_set (n := n + 1) (x := m) (f := M) (g := fun k => if k = m then M ((m - 1) / 2) else M k) om sm (fun j hj hne => by simp [hne])] at o6
    simp (disch := omega) only [go_sem]
    refine stK_own siz_int rf rf o6 om fun w7 o7 g7 => ?_
    rw [vi_range_set (n := n + 1) (x := (m - 1) / 2) (f := fun k => if k = m then M ((m - 1) / 2) else M k) (g := swp M m ((m - 1) / 2)) om (by rw [(swp_at M m ((m - 1) / 2)).2]) (fun j hj hne => by simp [swp, hne])] at o7
    have gg : Grow (some ub) W1 w7 := ((x5.grow _).trans g6.grow).trans g7.grow
    simp (disch := omega) only [go_sem]
    refine ⟨(m - 1) / 2, om, by simp [upd_apply, a0], (m - 1) / 2, swp M m ((m - 1) / 2), rfl, om, by simp [upd_apply], ⟨gg.blk pkW (by simpa [blk] using neW), o7, neW⟩, uW.step (hiB_ahead h) om om hh, fun y => by rw [bag_swp M om om]; exact bW y, fun k hk => ?_, cW.grow gg (by simpa [blk] using hcb2), gW.trans gg.toS fun i _ h => .inr (by simpa [blk] using h)⟩
    simp only [swp]
    split
    ·exact lW _ om
    ·split
     ·exact lW _ om
     ·exact lW _ hk
   ·simp (disch := omega) only [go_sem, ci5, cp5]
    refine nxE_of (Grow.refl _ _) ?_
    simp (disch := omega) only [go_sem, ci5, cp5]
    refine nxE_of (Grow.refl _ _) ?_
    simp (disch := omega) only [go_sem]
    refine stK_own siz_int rf rf o5 om fun w6 o6 g6 => nxE_of g6.grow ?_
    rw [vi_range_set (n := n + 1) (x := m) (f := M) (g := fun k => if k = m then M ((m - 1) / 2) else M k) om sm (fun j hj hne => by simp [hne])] at o6
    simp (disch := omega) only [go_sem]
    refine stK_own siz_int rf rf o6 om fun w7 o7 g7 => ?_
    rw [vi_range_set (n := n + 1) (x := (m - 1) / 2) (f := fun k => if k = m then M ((m - 1) / 2) else M k) (g := swp M m ((m - 1) / 2)) om (by rw [(swp_at M m ((m - 1) / 2)).2]) (fun j hj hne => by simp [swp, hne])] at o7
    have gg : Grow (some ub) W1 w7 := ((x5.grow _).trans g6.grow).trans g7.grow
    simp (disch := omega) only [go_sem]
    refine ⟨(m - 1) / 2, om, by simp [upd_apply, a0], (m - 1) / 2, swp M m ((m - 1) / 2), rfl, om, by simp [upd_apply], ⟨gg.blk pkW (by simpa [blk] using neW), o7, neW⟩, uW.step (hiB_ahead h) om om hh, fun y => by rw [bag_swp M om om]; exact bW y, fun k hk => ?_, cW.grow gg (by simpa [blk] using hcb2), gW.trans gg.toS fun i _ h => .inr (by simpa [blk] using h)⟩
    simp only [swp]
    split
    ·exact lW _ om
    ·split
     ·exact lW _ om
     ·exact lW _ hk
 ·obtain rfl : m = 0 := om
  simp (disch := omega) only [go_sem, a4, h0, Tryz.results216]
  exact ⟨_, c2, M, ⟨pkW, oW, neW⟩, uW.done (.inl rfl), bW, h2', gs3.trans gW fun i hi hs => by
   rcases hs with hs | hs
   ·exact .inl hs
   ·rcases h2 i hs with h' | h'
    ·exact .inr h'
    ·omega⟩
end Go.Proofs.YtcbmhjndbpafbaaGreatDoor
namespace Go.SW
open Go Go.RowKit
theorem OwnS.shrink {w : World} {e s n m c : Nat} {b : Nat} {xs : List Value} (o : OwnS w e s (Option.some ⟨b, 0, none⟩) n c xs) (hm : m ≤ n) : OwnS w e s (Option.some ⟨b, 0, none⟩) m c (xs.take (m * s)) := by
 obtain ⟨h1, h2⟩ := o
 have hle : m * s ≤ n * s := Nat.mul_le_mul_right s hm
 refine ⟨by rw [List.length_take]; omega, ?_⟩
 rcases h2 with ⟨h, _⟩ | ⟨b', cur, h3, h4, h5, h6, h7, h8⟩
 ·cases h
 ·exact .inr ⟨b', cur, h3, h4, om, h6, h7, by rw [← h8, List.take_take, Nat.min_eq_left hle]⟩
theorem vi_range_take {n m : Nat} (L : Nat → Nat) (h : m ≤ n) : (vi (ni ((List.range n).map L))).take m = vi (ni ((List.range m).map L)) := by
 simp only [vi, ni, ← List.map_take]
 rw [List.take_range, Nat.min_eq_left h]
end Go.SW
namespace Go.Proofs.YtcbmhjndbpafbaaGreatDoor
open Go.RowKit Go.SW
theorem take_c (R C cb : Nat) (h : Nat → Int) (pb : Nat) (a : Option Addr) (c n : Nat) (L : Nat → Nat) (w : World) (p : PileAt w pb (fvH R C cb) a c (n + 1) L) (hc : CellsAt w cb (R * C) h) (hcp : cb ≠ pb) (hca : blk a ≠ some cb) (hL : ∀ k, k < n + 1 → L k < R * C) (hp : Heap (hiB h) (n + 1) L) (hn : n ≤ 1000) :
  Ret Tryz.prog 217 #[.pointer (some ⟨pb, 0, none⟩)] w fun v w' => v = .int .i64 (L 0 : Nat) ∧ ∃ L', PileAt w' pb (fvH R C cb) a c n L' ∧ Heap (hiB h) n L' ∧ (∀ y, bag n L' y + (if L 0 = y then 1 else 0) = bag (n + 1) L y) ∧ (∀ k, k < n → L' k < R * C) ∧
   GrowS (fun b => b = pb ∨ blk a = some b) w w' := by
 obtain ⟨pk, po, pne⟩ := p
 obtain ⟨ub, rfl⟩ := po.some om
 have neW' : ub ≠ pb := by simpa [blk] using pne
 have hcu : ub ≠ cb := by simpa [blk] using hca
 have c0 : w.cell? ⟨ub, 0, none⟩ = some (.int .i64 (L 0 : Nat)) := by rw [po.cell om]; exact vi_range_get L om
 have cn : w.cell? ⟨ub, n, none⟩ = some (.int .i64 (L n : Nat)) := by rw [po.cell om]; exact vi_range_get L om
 have hnn : ((n + 1 : Nat) : Int) - 1 = (n : Int) := om
 have hcap := po.le_cap
 refine enter1 Tryz.func217 rfl fun f a0 => ?_
 simp (disch := omega) only [go_sem, a0, pk.cell, c0, hnn]
 refine QR_sch (some ub) (.st 0 (.st 1 (.st 2 (.st 3 (.st 4 (.st 5 (.st 6 (.st 7 (.st 8 (.st 9 (.ef 10 (.st 11 (.fin 12 (.done)))))))))))))) ke ke fun w1 x1 => ?_
 have pk1 := pk.ext x1
 have po1 := po.ext x1
 have cn1 := x1.cell cn
 simp (disch := omega) only [go_sem, a0, pk1.cell, cn1]
 refine nxE_of (Grow.refl _ _) ?_
 simp (disch := omega) only [go_sem]
 refine stK_own siz_int rf rf po1 om fun w2 o2 g2 => ?_
 rw [vi_range_set (n := n + 1) (x := 0) (f := L) (g := fun k => if k = 0 then L n else L k) om sm (fun j hj hne => by simp [hne])] at o2
 have pk2 := g2.grow.blk pk1 sq
 simp (disch := omega) only [go_sem, a0, pk2.cell]
 refine stK_blk siz_i rf rf pk2 sm fun w3 pk3 g3 => ?_
 have o3 := (o2.grow g3.grow (fun b hb e => by simp [blk] at hb; simp at e; omega)).shrink (m := n) om
 rw [Nat.mul_one, vi_range_take _ om] at o3
 have pk3 : Blk w3 pb #[fvH R C cb, .slice (some ⟨ub, 0, none⟩) n c] 205 := by simpa using pk3
 have gs3 : GrowS (fun b => b = pb ∨ blk (some ⟨ub, 0, none⟩) = some b) w w3 := ((x1.toS _).trans g2.grow.toS (fun i _ h => .inr (by simpa [blk] using h))).trans g3.grow.toS (fun i _ h => .inl (by simpa using h.symm))
 have hc3 := gs3.cells hc (fun h => by rcases h with h | h; exact hcp h; exact hca h)
 simp (disch := omega) only [go_sem]
 refine loopX (fun m f W => f 0 = .pointer (some ⟨pb, 0, none⟩) ∧ f 3 = .int .i64 (L 0 : Nat) ∧ f 4 = .int .i64 n ∧ ∃ (i : Nat) (M : Nat → Nat), m = n + 1 - i ∧ (i = 0 ∨ i < n) ∧ f 5 = .int .i64 i ∧ PileAt W pb (fvH R C cb) (some ⟨ub, 0, none⟩) c n M ∧ DnInv (hiB h) n M i ∧ (∀ y, bag n M y = bag n (fun k => if k = 0 then L n else L k) y) ∧ (∀ k, k < n → M k < R * C) ∧ CellsAt W cb (R * C) h ∧ Grow (some ub) w3 W) (n + 1) ⟨by simp [upd_apply, a0], by simp [upd_apply], by simp [upd_apply], 0, _, rfl, .inl rfl, by simp [upd_apply], ⟨pk3, o3, pne⟩, DnInv.start hp, fun _ => rfl, fun k hk => ?_, hc3, Grow.refl _ _⟩ fun m f W ⟨a0, a3, a4, i, M, hm, hin, a5, ⟨pkW, oW, _⟩, dW, bW, lW, cW, gW⟩ => ?_
 ·split
  ·exact hL n om
  ·exact hL k om
 subst hm
 simp (disch := omega) only [go_sem, a5]
 refine loopX (fun m f V => f 0 = .pointer (some ⟨pb, 0, none⟩) ∧ f 3 = .int .i64 (L 0 : Nat) ∧ f 4 = .int .i64 n ∧ f 5 = .int .i64 i ∧ ∃ b d : Nat, m = 2 * i + 3 - d ∧ f 6 = .int .i64 b ∧ f 7 = .int .i64 d ∧ 2 * i + 1 ≤ d ∧ d ≤ 2 * i + 3 ∧ (b = i ∨ (2 * i + 1 ≤ b ∧ b < d ∧ b < n ∧ hiB h (M b) (M i) = true)) ∧ (∀ s, 2 * i + 1 ≤ s → s < d → s < n → hiB h (M s) (M b) = false) ∧ Ext W V) 2 ⟨uu, uu, uu, uu, i, 2 * i + 1, om, by simp [upd_apply], by simp [upd_apply], om, om, .inl rfl, fun s h1 h2 => om, Ext.refl _⟩ fun m f V ⟨a0, a3, a4, a5, b, d, hm, a6, a7, hd1, hd2, hb, hs, xV⟩ => ?_
 subst hm
 have pkV := pkW.ext xV
 have oV := oW.ext xV
 have cV := cW.ext xV
 by_cases hd : d ≤ 2 * i + 2 ∧ d < n
 ·have q1 : (d : Int) ≤ 2 * (i : Int) + 2 := om
  have q2 : (d : Int) < (n : Int) := om
  have cd : V.cell? ⟨ub, d, none⟩ = some (.int .i64 (M d : Nat)) := by rw [oV.cell om]; exact vi_range_get M om
  have cb' : V.cell? ⟨ub, b, none⟩ = some (.int .i64 (M b : Nat)) := by rw [oV.cell om]; exact vi_range_get M om
  simp (disch := omega) only [go_sem, a0, a4, a5, a6, a7, q1, q2]
  refine QR_of ke ke ?_
  simp (disch := omega) only [go_sem, a0, a6, a7, pkV.cell, cd, cb', fvH]
  refine callK_q ke (fun w' e => higher_c R C cb h (M d) (M b) _ (cV.ext e) (lW _ om) (lW _ om)) ?_
  simp (disch := omega) only [go_sem]
  intro V1 y1
  cases hh : hiB h (M d) (M b) with
  | false =>
   simp (disch := omega) only [go_sem, a7]
   refine ⟨2 * i + 3 - (d + 1), om, uu, uu, uu, uu, b, d + 1, rfl, uu, by simp [upd_apply], om, om, ?_, fun s h1 h2 h3 => ?_, xV.trans y1⟩
   ·rcases hb with hb | ⟨hb1, hb2, hb3, hb4⟩
    ·exact .inl hb
    ·exact .inr ⟨hb1, om, hb3, hb4⟩
   ·by_cases e : s = d
    ·subst e; exact hh
    ·exact hs s h1 om h3
  | true =>
   simp (disch := omega) only [go_sem, a7]
   have o := hiB_ahead h
   have hr := o.asy _ _ hh
   refine ⟨2 * i + 3 - (d + 1), om, uu, uu, uu, uu, d, d + 1, rfl, by simp [upd_apply, a7], by simp [upd_apply], om, om, .inr ⟨hd1, om, hd.2, ?_⟩, fun s h1 h2 h3 => ?_, xV.trans y1⟩
   ·rcases hb with hb | ⟨hb1, hb2, hb3, hb4⟩
    ·rw [← hb]; exact hh
    ·cases e : hiB h (M d) (M i) with
     | true => rfl
     | false =>
      have := o.tr _ _ _ e (o.asy _ _ hb4)
      rw [hh] at this; cases this
   ·by_cases e : s = d
    ·subst e
     cases e2 : hiB h (M s) (M s) with
     | false => rfl
     | true => have := o.asy _ _ e2; rw [e2] at this; exact this
    ·exact o.tr _ _ _ (hs s h1 om h3) hr
 ·have hall : ∀ s, 0 < s → s < n → (s - 1) / 2 = i → hiB h (M s) (M b) = false := fun s s0 sn sp => hs s om om sn
  have fin : ¬ ((d : Int) ≤ 2 * (i : Int) + 2 ∧ (d : Int) < (n : Int)) := om
  by_cases hbi : b = i
  ·have hbe : ((b : Int) == (i : Int)) = true := by simp [hbi]
   have hres : Heap (hiB h) n M := dW.done fun s s0 sn sp => by rw [← hbi]; exact hall s s0 sn sp
   have hgs : GrowS (fun b => b = pb ∨ blk (some ⟨ub, 0, none⟩) = some b) w V := gs3.trans ((gW.trans (xV.grow _)).toS) fun i _ h => .inr (by simpa [blk] using h)
   rcases Classical.em ((d : Int) ≤ 2 * (i : Int) + 2) with q1 | q1
   ·have q2 : ¬ (d : Int) < (n : Int) := om
    simp (disch := omega) only [go_sem, a0, a3, a4, a5, a6, a7, q1, q2, hbe, Tryz.results217]
    exact ⟨trivial, M, ⟨pkV, oV, pne⟩, hres, fun y => by rw [bW y]; exact bag_take n L y, lW, hgs⟩
   ·simp (disch := omega) only [go_sem, a0, a3, a4, a5, a6, a7, q1, hbe, Tryz.results217]
    exact ⟨trivial, M, ⟨pkV, oV, pne⟩, hres, fun y => by rw [bW y]; exact bag_take n L y, lW, hgs⟩
  ·have hbe : ((b : Int) == (i : Int)) = false := by simp; omega
   obtain ⟨hb1, hb2, hbn, hb3⟩ : 2 * i + 1 ≤ b ∧ b < d ∧ b < n ∧ hiB h (M b) (M i) = true := by
    rcases hb with hb | hb
    ·exact absurd hb hbi
    ·exact hb
   have hcs : ((d : Int) ≤ 2 * (i : Int) + 2 ∧ ¬ (d : Int) < (n : Int)) ∨ ¬ (d : Int) ≤ 2 * (i : Int) + 2 := om
   have ci : V.cell? ⟨ub, i, none⟩ = some (.int .i64 (M i : Nat)) := by rw [oV.cell om]; exact vi_range_get M om
   have cp : V.cell? ⟨ub, b, none⟩ = some (.int .i64 (M b : Nat)) := by rw [oV.cell om]; exact vi_range_get M om
   rcases hcs with ⟨q1, q2⟩ | q1
   ·simp (disch := omega) only [go_sem, a4, a5, a6, a7, q1, q2, hbe]
    refine QR_sch (some ub) (.st 0 (.st 1 (.st 2 (.st 3 (.st 4 (.st 5 (.st 6 (.st 7 (.st 8 (.st 9 (.st 10 (.st 11 (.st 12 (.st 13 (.st 14 (.st 15 (.st 17 (.st 18 (.st 19 (.st 20 (.st 21 (.st 22 (.alt (.ef 16 (.ef 23 (.st 24 (.ef 25 (.st 26 (.fin 27 (.done))))))) (.ef 23 (.ef 16 (.st 24 (.ef 25 (.st 26 (.fin 27 (.done)))))))))))))))))))))))))))))) ke ke fun w5 x5 => ?_
    have pk5 := pkV.ext x5
    have o5 := oV.ext x5
    have ci5 := x5.cell ci
    have cp5 := x5.cell cp
    simp (disch := omega) only [go_sem, a0, a5, a6, pk5.cell]
    refine RLT_alt ?_ ?_
    ·simp (disch := omega) only [go_sem, ci5, cp5]
     refine nxE_of (Grow.refl _ _) ?_
     simp (disch := omega) only [go_sem, ci5, cp5]
     refine nxE_of (Grow.refl _ _) ?_
     simp (disch := omega) only [go_sem]
     refine stK_own siz_int rf rf o5 om fun w6 o6 g6 => nxE_of g6.grow ?_
     rw [vi_range_set (n := n) (x := i) (f := M) (g := fun k => if k = i then M b else M k) om sm (fun j hj hne => by simp [hne])] at o6
     simp (disch := omega) only [go_sem]
     refine stK_own siz_int rf rf o6 om fun w7 o7 g7 => ?_
     rw [vi_range_set (n := n) (x := b) (f := fun k => if k = i then M b else M k) (g := swp M i b) om (by rw [(swp_at M i b).2]) (fun j hj hne => by simp [swp, hne])] at o7
     have gg : Grow (some ub) V w7 := ((x5.grow _).trans g6.grow).trans g7.grow
     simp (disch := omega) only [go_sem]
     refine ⟨n + 1 - b, om, by simp [upd_apply, a0], by simp [upd_apply, a3], by simp [upd_apply, a4], b, swp M i b, rfl, om, (by first | trivial | rfl | simp [upd_apply, a6] | (trace_state; skip)), ⟨gg.blk pkV (by simpa using neW'), o7, pne⟩, dW.step (hiB_ahead h) om om om hb3 hall, fun y => by rw [bag_swp M om om]; exact bW y, fun k hk => ?_, cV.grow gg (by simpa using hcu), gW.trans ((xV.grow _).trans gg)⟩
     simp only [swp]
     split
     ·exact lW _ om
     ·split
      ·exact lW _ om
      ·exact lW _ hk
    ·simp (disch := omega) only [go_sem, ci5, cp5]
     refine nxE_of (Grow.refl _ _) ?_
     simp (disch := omega) only [go_sem, ci5, cp5]
     refine nxE_of (Grow.refl _ _) ?_
     simp (disch := omega) only [go_sem]
     refine stK_own siz_int rf rf o5 om fun w6 o6 g6 => nxE_of g6.grow ?_
     rw [vi_range_set (n := n) (x := i) (f := M) (g := fun k => if k = i then M b else M k) om sm (fun j hj hne => by simp [hne])] at o6
     simp (disch := omega) only [go_sem]
     refine stK_own siz_int rf rf o6 om fun w7 o7 g7 => ?_
     rw [vi_range_set (n := n) (x := b) (f := fun k => if k = i then M b else M k) (g := swp M i b) om (by rw [(swp_at M i b).2]) (fun j hj hne => by simp [swp, hne])] at o7
     have gg : Grow (some ub) V w7 := ((x5.grow _).trans g6.grow).trans g7.grow
     simp (disch := omega) only [go_sem]
     refine ⟨n + 1 - b, om, by simp [upd_apply, a0], by simp [upd_apply, a3], by simp [upd_apply, a4], b, swp M i b, rfl, om, (by first | trivial | rfl | simp [upd_apply, a6] | (trace_state; skip)), ⟨gg.blk pkV (by simpa using neW'), o7, pne⟩, dW.step (hiB_ahead h) om om om hb3 hall, fun y => by rw [bag_swp M om om]; exact bW y, fun k hk => ?_, cV.grow gg (by simpa using hcu), gW.trans ((xV.grow _).trans gg)⟩
     simp only [swp]
     split
     ·exact lW _ om
     ·split
      ·exact lW _ om
      ·exact lW _ hk
   ·simp (disch := omega) only [go_sem, a4, a5, a6, a7, q1, hbe]
    refine QR_sch (some ub) (.st 0 (.st 1 (.st 2 (.st 3 (.st 4 (.st 5 (.st 6 (.st 7 (.st 8 (.st 9 (.st 10 (.st 11 (.st 12 (.st 13 (.st 14 (.st 15 (.st 17 (.st 18 (.st 19 (.st 20 (.st 21 (.st 22 (.alt (.ef 16 (.ef 23 (.st 24 (.ef 25 (.st 26 (.fin 27 (.done))))))) (.ef 23 (.ef 16 (.st 24 (.ef 25 (.st 26 (.fin 27 (.done)))))))))))))))))))))))))))))) ke ke fun w5 x5 => ?_
    have pk5 := pkV.ext x5
    have o5 := oV.ext x5
    have ci5 := x5.cell ci
    have cp5 := x5.cell cp
    simp (disch := omega) only [go_sem, a0, a5, a6, pk5.cell]
    refine RLT_alt ?_ ?_
    ·simp (disch := omega) only [go_sem, ci5, cp5]
     refine nxE_of (Grow.refl _ _) ?_
     simp (disch := omega) only [go_sem, ci5, cp5]
     refine nxE_of (Grow.refl _ _) ?_
     simp (disch := omega) only [go_sem]
     refine stK_own siz_int rf rf o5 om fun w6 o6 g6 => nxE_of g6.grow ?_
     rw [vi_range_set (n := n) (x := i) (f := M) (g := fun k => if k = i then M b else M k) om sm (fun j hj hne => by simp [hne])] at o6
     simp (disch := omega) only [go_sem]
     refine stK_own siz_int rf rf o6 om fun w7 o7 g7 => ?_
     rw [vi_range_set (n := n) (x := b) (f := fun k => if k = i then M b else M k) (g := swp M i b) om (by rw [(swp_at M i b).2]) (fun j hj hne => by simp [swp, hne])] at o7
     have gg : Grow (some ub) V w7 := ((x5.grow _).trans g6.grow).trans g7.grow
     simp (disch := omega) only [go_sem]
     refine ⟨n + 1 - b, om, by simp [upd_apply, a0], by simp [upd_apply, a3], by simp [upd_apply, a4], b, swp M i b, rfl, om, (by first | trivial | rfl | simp [upd_apply, a6] | (trace_state; skip)), ⟨gg.blk pkV (by simpa using neW'), o7, pne⟩, dW.step (hiB_ahead h) om om om hb3 hall, fun y => by rw [bag_swp M om om]; exact bW y, fun k hk => ?_, cV.grow gg (by simpa using hcu), gW.trans ((xV.grow _).trans gg)⟩
     simp only [swp]
     split
     ·exact lW _ om
     ·split
      ·exact lW _ om
      ·exact lW _ hk
    ·simp (disch := omega) only [go_sem, ci5, cp5]
     refine nxE_of (Grow.refl _ _) ?_
     simp (disch := omega) only [go_sem, ci5, cp5]
     refine nxE_of (Grow.refl _ _) ?_
     simp (disch := omega) only [go_sem]
     refine stK_own siz_int rf rf o5 om fun w6 o6 g6 => nxE_of g6.grow ?_
     rw [vi_range_set (n := n) (x := i) (f := M) (g := fun k => if k = i then M b else M k) om sm (fun j hj hne => by simp [hne])] at o6
     simp (disch := omega) only [go_sem]
     refine stK_own siz_int rf rf o6 om fun w7 o7 g7 => ?_
     rw [vi_range_set (n := n) (x := b) (f := fun k => if k = i then M b else M k) (g := swp M i b) om (by rw [(swp_at M i b).2]) (fun j hj hne => by simp [swp, hne])] at o7
     have gg : Grow (some ub) V w7 := ((x5.grow _).trans g6.grow).trans g7.grow
     simp (disch := omega) only [go_sem]
     refine ⟨n + 1 - b, om, by simp [upd_apply, a0], by simp [upd_apply, a3], by simp [upd_apply, a4], b, swp M i b, rfl, om, (by first | trivial | rfl | simp [upd_apply, a6] | (trace_state; skip)), ⟨gg.blk pkV (by simpa using neW'), o7, pne⟩, dW.step (hiB_ahead h) om om om hb3 hall, fun y => by rw [bag_swp M om om]; exact bW y, fun k hk => ?_, cV.grow gg (by simpa using hcu), gW.trans ((xV.grow _).trans gg)⟩
     simp only [swp]
     split
     ·exact lW _ om
     ·split
      ·exact lW _ om
      ·exact lW _ hk
end Go.Proofs.YtcbmhjndbpafbaaGreatDoor
namespace Go.SW
open Go Go.RowKit
def Rank (h : Nat → Int) (l : List Nat) : Prop := l.Pairwise fun a b => hiB h a b = true
theorem hiB_tot {h : Nat → Int} {a b : Nat} (hne : a ≠ b) (e : hiB h a b = false) : hiB h b a = true := by
 simp only [hiB, decide_eq_true_eq, decide_eq_false_iff_not] at *; omega
theorem hiB_irr (h : Nat → Int) (a : Nat) : hiB h a a = false := by simp [hiB]
theorem hiB_trans {h : Nat → Int} {a b c : Nat} (e1 : hiB h a b = true) (e2 : hiB h b c = true) : hiB h a c = true := by
 simp only [hiB, decide_eq_true_eq] at *; omega
theorem rank_uniq (h : Nat → Int) : ∀ l m : List Nat, Rank h l → Rank h m → (∀ x, x ∈ l ↔ x ∈ m) → l = m
 | [], m, _, _, e => by
  cases m with
  | nil => rfl
  | cons b m => exact absurd ((e b).2 List.mem_cons_self) sm
 | a :: l, [], _, _, e => absurd ((e a).1 List.mem_cons_self) sm
 | a :: l, b :: m, h1, h2, e => by
  have p1 := List.pairwise_cons.1 h1
  have p2 := List.pairwise_cons.1 h2
  have hab : a = b := by
   rcases Classical.em (a = b) with h' | hne
   ·exact h'
   ·have ha : a ∈ m := by
     rcases List.mem_cons.1 ((e a).1 List.mem_cons_self) with h' | h'
     ·exact absurd h' hne
     ·exact h'
    have hb : b ∈ l := by
     rcases List.mem_cons.1 ((e b).2 List.mem_cons_self) with h' | h'
     ·exact absurd h'.symm hne
     ·exact h'
    have q1 := p1.1 b hb
    have q2 := p2.1 a ha
    have := hiB_trans q1 q2
    rw [hiB_irr] at this; cases this
  subst hab
  rw [rank_uniq h l m p1.2 p2.2 fun x => ?_]
  have irr : ∀ l : List Nat, (∀ y ∈ l, hiB h a y = true) → a ∉ l := fun l hl hm => by
   have := hl a hm; rw [hiB_irr] at this; cases this
  have n1 := irr l p1.1
  have n2 := irr m p2.1
  constructor
  ·intro hx
   rcases List.mem_cons.1 ((e x).1 (List.mem_cons_of_mem _ hx)) with h' | h'
   ·subst h'; exact absurd hx n1
   ·exact h'
  ·intro hx
   rcases List.mem_cons.1 ((e x).2 (List.mem_cons_of_mem _ hx)) with h' | h'
   ·subst h'; exact absurd hx n2
   ·exact h'
def insL (h : Nat → Int) (i : Nat) : List Nat → List Nat
 | [] => [i]
 | a :: l => if hiB h a i then a :: insL h i l else i :: a :: l
theorem mem_insL {h : Nat → Int} {i x : Nat} : ∀ {l : List Nat}, x ∈ insL h i l ↔ x = i ∨ x ∈ l
 | [] => by simp [insL]
 | a :: l => by
  simp only [insL]
  split
  ·simp only [List.mem_cons, mem_insL (l := l)]
   constructor
   ·rintro (h | h | h)
    ·exact .inr (.inl h)
    ·exact .inl h
    ·exact .inr (.inr h)
   ·rintro (h | h | h)
    ·exact .inr (.inl h)
    ·exact .inl h
    ·exact .inr (.inr h)
  ·simp only [List.mem_cons]
theorem rank_insL {h : Nat → Int} {i : Nat} : ∀ {l : List Nat}, Rank h l → i ∉ l → Rank h (insL h i l)
 | [], _, _ => by simp [insL, Rank]
 | a :: l, hl, hi => by
  have p := List.pairwise_cons.1 hl
  simp only [insL]
  split
  ·rename_i ha
   refine List.pairwise_cons.2 ⟨fun x hx => ?_, rank_insL (l := l) p.2 fun h => hi (List.mem_cons_of_mem _ h)⟩
   rcases mem_insL.1 hx with h' | h'
   ·subst h'; exact ha
   ·exact p.1 x h'
  ·rename_i ha
   have hne : a ≠ i := fun e => hi (by subst e; exact List.mem_cons_self)
   have hia := hiB_tot hne (by simpa using ha)
   refine List.pairwise_cons.2 ⟨fun x hx => ?_, hl⟩
   rcases List.mem_cons.1 hx with h' | h'
   ·subst h'; exact hia
   ·exact hiB_trans hia (p.1 x h')
theorem insL_len {h : Nat → Int} {i : Nat} : ∀ {l : List Nat}, (insL h i l).length = l.length + 1
 | [] => by simp [insL]
 | a :: l => by
  simp only [insL]
  split
  ·simp [insL_len (l := l)]
  ·simp
theorem insL_eq {h : Nat → Int} {i : Nat} : ∀ {l : List Nat} {at_ : Nat}, at_ ≤ l.length → (∀ j, j < at_ → hiB h (l.getD j 0) i = true) → (at_ < l.length → hiB h (l.getD at_ 0) i = false) → insL h i l = l.take at_ ++ i :: l.drop at_
 | [], at_, h0, _, _ => by
  have : at_ = 0 := by simpa using h0
  subst this; simp [insL]
 | a :: l, 0, _, _, h2 => by
  have := h2 sm
  simp only [List.getD_cons_zero] at this
  simp [insL, this]
 | a :: l, k + 1, h0, h1, h2 => by
  have ha := h1 0 om
  simp only [List.getD_cons_zero] at ha
  have := insL_eq (h := h) (i := i) (l := l) (at_ := k) (by simpa using h0) (fun j hj => by simpa using h1 (j + 1) om) (fun hk => by simpa using h2 (by simpa using hk))
  simp [insL, ha, this]
def peaksTo (R C : Nat) (h : Nat → Int) : Nat → List Nat
 | 0 => []
 | k + 1 => if peakB R C h k then insL h k (peaksTo R C h k) else peaksTo R C h k
def peaksL (R C : Nat) (h : Nat → Int) : List Nat := peaksTo R C h (R * C)
theorem mem_peaksTo {R C : Nat} {h : Nat → Int} {x : Nat} : ∀ {k : Nat}, x ∈ peaksTo R C h k ↔ x < k ∧ peakB R C h x = true
 | 0 => by simp [peaksTo]
 | k + 1 => by
  simp only [peaksTo]
  split
  ·rename_i hp
   rw [mem_insL, mem_peaksTo (k := k)]
   constructor
   ·rintro (h' | ⟨h1, h2⟩)
    ·subst h'; exact ⟨om, hp⟩
    ·exact ⟨om, h2⟩
   ·rintro ⟨h1, h2⟩
    rcases Nat.lt_or_ge x k with h' | h'
    ·exact .inr ⟨h', h2⟩
    ·exact .inl om
  ·rename_i hp
   rw [mem_peaksTo (k := k)]
   constructor
   ·rintro ⟨h1, h2⟩; exact ⟨om, h2⟩
   ·rintro ⟨h1, h2⟩
    refine ⟨?_, h2⟩
    rcases Nat.lt_or_ge x k with h' | h'
    ·exact h'
    ·have : x = k := om
     subst this; exact absurd h2 hp
theorem rank_peaksTo (R C : Nat) (h : Nat → Int) : ∀ k, Rank h (peaksTo R C h k)
 | 0 => by simp [peaksTo, Rank]
 | k + 1 => by
  simp only [peaksTo]
  split
  ·exact rank_insL (rank_peaksTo R C h k) fun hm => by have := (mem_peaksTo.1 hm).1; omega
  ·exact rank_peaksTo R C h k
theorem peaksTo_len (R C : Nat) (h : Nat → Int) : ∀ k, (peaksTo R C h k).length ≤ k
 | 0 => by simp [peaksTo]
 | k + 1 => by
  have := peaksTo_len R C h k
  simp only [peaksTo]
  split
  ·rw [insL_len]; omega
  ·omega
theorem peaksL_eq {R C : Nat} {h : Nat → Int} {l : List Nat} (h1 : Rank h l) (h2 : ∀ x, x ∈ l ↔ x < R * C ∧ peakB R C h x = true) : l = peaksL R C h :=
 rank_uniq h l _ h1 (rank_peaksTo R C h _) fun x => by rw [h2]; exact mem_peaksTo.symm
theorem bag_zero {L : Nat → Nat} (x : Nat) : bag 0 L x = 0 := rfl
structure TakeInv (R C : Nat) (h : Nat → Int) (n : Nat) (L : Nat → Nat) (l : List Nat) : Prop where
 rank : Rank h l
 one : ∀ x, bag n L x ≤ 1
 mem : ∀ x, (x ∈ l ∨ 0 < bag n L x) ↔ x < R * C ∧ peakB R C h x = true
 dis : ∀ x ∈ l, ∀ k, k < n → hiB h x (L k) = true
theorem TakeInv.step {R C : Nat} {h : Nat → Int} {n : Nat} {L L' : Nat → Nat} {l : List Nat} (t : TakeInv R C h (n + 1) L l) (hp : Heap (hiB h) (n + 1) L)
  (hb : ∀ y, bag n L' y + (if L 0 = y then 1 else 0) = bag (n + 1) L y) : TakeInv R C h n L' (l ++ [L 0]) := by
 have h0 : bag (n + 1) L (L 0) ≥ 1 := bag_mem.2 ⟨0, om, rfl⟩
 have hz : bag n L' (L 0) = 0 := by
  have h1 := hb (L 0)
  rw [if_pos rfl] at h1
  have := t.one (L 0)
  omega
 have hin : ∀ k, k < n → ∃ j, j < n + 1 ∧ L j = L' k := fun k hk => by
  have h1 : 0 < bag n L' (L' k) := bag_mem.2 ⟨k, hk, rfl⟩
  have h2 := hb (L' k)
  exact bag_mem.1 om
 have hne : ∀ k, k < n → L' k ≠ L 0 := fun k hk e => by
  have h1 : 0 < bag n L' (L' k) := bag_mem.2 ⟨k, hk, rfl⟩
  rw [e, hz] at h1; omega
 refine ⟨?_, fun x => ?_, fun x => ?_, fun x hx k hk => ?_⟩
 ·refine List.pairwise_append.2 ⟨t.rank, by simp, fun a ha b hb' => ?_⟩
  have : b = L 0 := by simpa using hb'
  subst this
  exact t.dis a ha 0 om
 ·have := hb x; have := t.one x; omega
 ·rw [← t.mem x, List.mem_append]
  have h1 := hb x
  constructor
  ·rintro ((h' | h') | h')
   ·exact .inl h'
   ·have : x = L 0 := by simpa using h'
    subst this; exact .inr om
   ·exact .inr om
  ·rintro (h' | h')
   ·exact .inl (.inl h')
   ·by_cases e : L 0 = x
    ·exact .inl (.inr (by simp [e]))
    ·rw [if_neg e] at h1; exact .inr om
 ·obtain ⟨j, hj, ej⟩ := hin k hk
  rcases List.mem_append.1 hx with h' | h'
  ·rw [← ej]; exact t.dis x h' j hj
  ·have : x = L 0 := by simpa using h'
   subst this
   have ht := hp.top (hiB_ahead h) j hj
   rw [ej] at ht
   exact hiB_tot (hne k hk) ht
theorem TakeInv.done {R C : Nat} {h : Nat → Int} {L : Nat → Nat} {l : List Nat} (t : TakeInv R C h 0 L l) : l = peaksL R C h :=
 peaksL_eq t.rank fun x => by rw [← t.mem x, bag_zero]; simp
theorem bag_sum_le (n : Nat) (L : Nat → Nat) (N : Nat) (h1 : ∀ x, bag n L x ≤ 1) (h2 : ∀ k, k < n → L k < N) : n ≤ N := by
 have h3 : cntp (fun _ => True) n ≤ cntp (fun _ => True) N := cntp_inj (f := L) (fun i hi _ => ⟨h2 i hi, trivial⟩) fun i j hi hj _ _ e =>
  cntp_uniq (fun k => L k = L i) (n := n) (by
   have := h1 (L i)
   have h0 : 0 < bag n L (L i) := bag_mem.2 ⟨i, hi, rfl⟩
   simp only [bag] at this h0; omega) i j hi hj rfl e.symm
 have hc : ∀ m, cntp (fun _ => True) m = m := fun m => by
  induction m with
  | zero => rfl
  | succ m ih => simp only [cntp, ih, if_true]
 rw [hc, hc] at h3; exact h3
end Go.SW
namespace Go.Proofs.YtcbmhjndbpafbaaGreatDoor
open Go.RowKit Go.SW
theorem zero_p : zeroC Tryz.prog 205 = some #[.nilFunc, .slice none 0 0] := ke
theorem bld_p (fn : Fn) (x y : Array Value) : buildV Tryz.prog 205 [(0, .func fn x y)] = some (.agg #[.func fn x y, .slice none 0 0]) := ke
attribute [go_sem] bld_p
theorem siz_p : (Tryz.prog.info? 205).map (·.size) = some 2 := ke
theorem PileAt.ext {w w' : World} {pb c n : Nat} {fv : Value} {a : Option Addr} {L : Nat → Nat} (p : PileAt w pb fv a c n L) (e : Ext w w') : PileAt w' pb fv a c n L := ⟨p.1.ext e, p.2.1.ext e, p.2.2⟩
theorem peaks_c (R C cb : Nat) (h : Nat → Int) (w : World) (g : Gd R C h) (hc : CellsAt w cb (R * C) h) :
  Ret Tryz.prog 194 #[.agg #[.int .i64 R, .int .i64 C, .slice (some ⟨cb, 0, none⟩) (R * C) (R * C)]] w fun v w' => Got1 w w' (ni (peaksL R C h)) v := by
 have hn49 := g.le
 have hcl := hc.lt g.pos
 refine enter1 Tryz.func194 rfl fun f a0 => ?_
 simp only [go_sem, a0]
 refine boxK_of fun w0 fb efb x0 kb _ => ?_
 have s0 := x0.size
 have kb : Blk w0 fb #[.int .i64 R, .int .i64 C, .slice (some ⟨cb, 0, none⟩) (R * C) (R * C)] 70 := by simpa [Value.cells] using kb
 have kl := kb.lt
 simp (disch := omega) only [go_sem, readCells_blk kb (n := 3) sm]
 refine allocK_of zero_p fun w1 pb epb x1 kp _ => ?_
 have s1 := x1.size
 have kb1 := kb.ext x1
 simp (disch := omega) only [go_sem]
 refine stK_agg siz_p sm oi kp sm fun w2 kp2 g2 => ?_
 have kb2 := g2.grow.blk kb1 sq
 have hc2 : CellsAt w2 cb (R * C) h := ((hc.ext x0).ext x1).grow g2.grow sq
 have xw2 : Ext w w2 := g2.ext (x0.trans x1) om
 have kp2 : Blk w2 pb #[fvH R C cb, .slice none 0 0] 205 := by simpa [fvH] using kp2
 simp (disch := omega) only [go_sem, kb2.cell]
 refine loopN (R * C) (fun m f W => f 1 = .pointer (some ⟨fb, 0, none⟩) ∧ f 3 = .pointer (some ⟨pb, 0, none⟩) ∧ f 11 = .int .i64 (R * C : Nat) ∧ f 12 = .int .i64 m ∧ Blk W fb #[.int .i64 R, .int .i64 C, .slice (some ⟨cb, 0, none⟩) (R * C) (R * C)] 70 ∧ CellsAt W cb (R * C) h ∧ Ext w W ∧ ∃ (a : Option Addr) (c n : Nat) (L : Nat → Nat), PileAt W pb (fvH R C cb) a c n L ∧ Heap (hiB h) n L ∧ (∀ x, bag n L x = if x < m ∧ peakB R C h x = true then 1 else 0) ∧ (∀ k, k < n → L k < R * C) ∧ (∀ b, blk a = some b → pb < b)) ⟨uu, uu, uu, uu, kb2, hc2, xw2, none, 0, 0, fun _ => 0, ⟨kp2, OwnS.nil _ _ _, by simp [blk]⟩, fun j h1 h2 => om, fun x => by simp [bag_zero], fun k hk => om, fun b hb => by cases hb⟩ fun m f W hm ⟨a1, a3, a11, a12, kW, cW, xW, a, c, n, L, pW, hpW, bW, lW, fW⟩ => ?_
 have hn : n ≤ R * C := bag_sum_le n L (R * C) (fun x => by rw [bW]; split <;> omega) lW
 by_cases hlt : (m : Int) < (R * C : Nat)
 ·have hmn : m < R * C := om
  have ep : decide (0 ≤ (m : Int) ∧ (m : Int) < (R * C : Nat)) = true := decide_eq_true ⟨om, hlt⟩
  simp (disch := omega) only [go_sem, a1, a11, a12, hlt, readCells_blk kW (n := 3) sm]
  refine callK_pure ke (peak_c R C cb h m _ g cW) fun w5 x5 => ?_
  have s5 := x5.size
  have cW5 := cW.ext x5
  have kW5 := kW.ext x5
  have pW5 := pW.ext x5
  have sW := xW.size
  have hca : blk a ≠ some cb := fun e => by have := fW cb e; omega
  cases hpk : peakB R C h m with
  | true =>
   simp (disch := omega) only [go_sem, ep, hpk, Bool.and_true, Bool.and_false, a3, a12]
   refine callK_of ke (put_c R C cb h pb a c n L m _ pW5 cW5 om hca lW hmn hpW om) ?_
   rintro _ w6 ⟨a', c', L', p', h', b', f', g'⟩
   simp (disch := omega) only [go_sem, a12]
   have gl := pW.1.lt
   refine ⟨hmn, uu, uu, uu, uu, g'.blk kW5 ?_, g'.cells cW5 ?_, ?_, a', c', n + 1, L', p', h', fun x => ?_, fun k hk => ?_, fun b hb => ?_⟩
   ·rintro (e | e)
    ·omega
    ·have := fW fb e; omega
   ·rintro (e | e)
    ·omega
    ·exact hca e
   ·refine g'.ext (xW.trans x5) ?_
    rintro b (e | e)
    ·omega
    ·have := fW b e; omega
   ·rw [b', bW]
    by_cases e : m = x
    ·subst e; simp [hpk]
    ·have : x < m + 1 ↔ x < m := om
     simp [e, this]
   ·have h0 : 0 < bag (n + 1) L' (L' k) := bag_mem.2 ⟨k, hk, rfl⟩
    rw [b', bW] at h0
    by_cases e : m = L' k
    ·omega
    ·rw [if_neg e] at h0
     by_cases e2 : L' k < m ∧ peakB R C h (L' k) = true
     ·omega
     ·rw [if_neg e2] at h0; omega
   ·rcases f' b hb with e | e
    ·exact fW b e
    ·omega
  | false =>
   simp (disch := omega) only [go_sem, ep, hpk, Bool.and_true, Bool.and_false, a12]
   refine ⟨hmn, uu, uu, uu, uu, kW5, cW5, xW.trans x5, a, c, n, L, pW5, hpW, fun x => ?_, lW, fW⟩
   rw [bW]
   by_cases e : x = m
   ·subst e; simp [hpk]
   ·have : x < m + 1 ↔ x < m := om
    simp [this]
 ·obtain rfl : m = R * C := om
  simp (disch := omega) only [go_sem, a11, a12, hlt]
  refine bslK_0 elt_i fun w5 b5 e5 x5 o5 _ => ?_
  have s5 := x5.size
  have sW := xW.size
  have pl := pW.1.lt
  have hca : blk a ≠ some cb := fun e => by have := fW cb e; omega
  simp (disch := omega) only [go_sem]
  refine loopX (fun s f V => f 3 = .pointer (some ⟨pb, 0, none⟩) ∧ ∃ (n : Nat) (L : Nat → Nat) (l : List Nat) (la : Option Addr) (lc : Nat), s = n ∧ f 5 = .slice la l.length lc ∧ PileAt V pb (fvH R C cb) a c n L ∧ Heap (hiB h) n L ∧ TakeInv R C h n L l ∧ (∀ k, k < n → L k < R * C) ∧ l.length + n ≤ 49 ∧ OwnS V 3 1 la l.length lc (vi (ni l)) ∧ (∀ b, blk la = some b → pb < b ∧ blk a ≠ some b) ∧ CellsAt V cb (R * C) h ∧ Ext w V) n ⟨uu, n, L, [], _, _, rfl, by simp [upd_apply]; exact ⟨rfl, rfl⟩, pW.ext x5, hpW, ⟨by simp [Rank], fun x => by rw [bW]; split <;> omega, fun x => ?_, fun x hx => by simp at hx⟩, lW, by simp; omega, by simpa [vi, ni] using o5, fun b hb => ?_, cW.ext x5, xW.trans x5⟩ fun s f V ⟨a3, n, L, l, la, lc, hs, a5, pV, hpV, tV, lV, hl, oV, fV, cV, xV⟩ => ?_
  ·rw [bW]; by_cases e : x < R * C ∧ peakB R C h x = true <;> simp [e]
  ·have hb : b5 = b := by simpa [blk] using hb
   subst hb
   refine ⟨om, fun e => ?_⟩
   have := pW.2.1.blk_lt e; omega
  ·subst hs
   cases s with
   | zero =>
    have hz : ¬ (0 : Int) < ((0 : Nat) : Int) := om
    simp (disch := omega) only [go_sem, a3, a5, pV.1.cell, hz, Tryz.results194]
    rw [tV.done] at oV
    exact ⟨la, lc, by rw [ni_len, tV.done], by rw [ni_len]; exact oV, fun b hb => by have := (fV b hb).1; omega, xV⟩
   | succ n =>
    have hgt0 : (0 : Int) < ((n + 1 : Nat) : Int) := om
    simp (disch := omega) only [go_sem, a3, pV.1.cell, hgt0]
    simp (disch := omega) only [go_sem, a3, a5]
    refine callK_of ke (take_c R C cb h pb a c n L _ pV cV om hca lV hpV om) ?_
    rintro _ w6 ⟨rfl, L', p6, h6, b6, l6, g6⟩
    have ol : OwnS w6 3 1 la l.length lc (vi (ni l)) := g6.own oV fun b hb e => by
     have := fV b hb
     rcases e with e | e
     ·omega
     ·exact this.2 e
    have c6 : CellsAt w6 cb (R * C) h := g6.cells cV fun e => by
     rcases e with e | e
     ·omega
     ·exact hca e
    have x6 : Ext w w6 := g6.ext xV fun b e => by
     rcases e with e | e
     ·omega
     ·have := fW b e; omega
    simp (disch := omega) only [go_sem]
    refine bslK_1 elt_i rfl fun w7 b7 e7 x7 k7 _ => ?_
    simp (disch := omega) only [go_sem]
    have s7 := x7.size
    have s6 := g6.size
    refine appK_1 elt_i (ol.ext x7) k7 rfl om (.inl dc) fun w8 a8 c8 o8 g8 h8 => ?_
    simp (disch := omega) only [go_sem]
    have p7 := p6.ext x7
    have p7l := p6.1.lt
    refine ⟨n, om, uu, n, L', l ++ [L 0], a8, c8, rfl, by simp [upd_apply], ⟨g8.blk p7.1 ?_, p7.2.1.grow g8 ?_, p7.2.2⟩, h6, tV.step hpV b6, l6, by simp; omega, by rw [← vi_ni_snoc l (L 0) _ rfl]; simpa using o8, fun b hb => ?_, (c6.ext x7).grow g8 ?_, g8.ext (x6.trans x7) fun b hb => by have := (fV b hb).1; omega⟩
    ·intro e; have := (fV pb e).1; omega
    ·intro b hb e; exact (fV b e).2 hb
    ·rcases h8 b hb with e | e
     ·exact fV b e
     ·refine ⟨om, fun e2 => ?_⟩
      have := p6.2.1.blk_lt e2; omega
    ·intro e; have := (fV cb e).1; omega
end Go.Proofs.YtcbmhjndbpafbaaGreatDoor
namespace Go.SW
open Go Go.RowKit
theorem slc_lo2 (s : Nat) (b o n c : Nat) (k : IntKind) (lo : Int) (h0 : 0 ≤ lo) (h1 : lo ≤ n) :
  slcE (some s) (some ⟨b, o, none⟩) n c (some (.int k lo)) none = some (.slice (some (if c = lo.toNat then ⟨b, o, none⟩ else ⟨b, o + lo.toNat * s, none⟩)) (n - lo.toNat) (c - lo.toNat)) := by
 have e2 : lo ≤ ((n : Nat) : Int) := h1
 by_cases e : c = lo.toNat
 ·simp [slcE, boundV, h0, e2, e]
 ·simp [slcE, boundV, h0, e2, e, add_mk]
attribute [go_sem] slc_lo2
def peakListOf (rows : List (List Int)) : List Nat := if gvalid rows = true then peaksL rows.length (rowLen rows) (hgt rows) else []
end Go.SW
namespace Go.Proofs.YtcbmhjndbpafbaaGreatDoor
open Go.RowKit Go.SW
theorem peakList_c (a : Option Addr) (rows : List (List Int)) (A : Nat → Option Addr) (Cp : Nat → Nat) (gc : Nat) (w : World) (hr : RowsAt w a rows A Cp) :
  Ret Tryz.prog 162 #[.slice a rows.length gc] w fun v w' => Got1 w w' (ni (peakListOf rows)) v := by
 refine enter1 Tryz.func162 rfl fun f a0 => ?_
 simp (disch := omega) only [go_sem, a0]
 refine callK_of ke (fieldOf_c _ _ _ _ _ _ hr) ?_
 rintro _ w2 ⟨x2, (⟨hvt, cb, rfl, hcb, o⟩ | ⟨hv', rfl⟩)⟩
 rotate_left
 ·simp (disch := omega) only [go_sem]
  refine allocK_of zero_f fun w3 fb _ x3 k3 _ => ?_
  simp (disch := omega) only [go_sem]
  refine stK_agg siz_f sm oi k3 sm fun w4 k4 g4 => ?_
  have x4 : Ext w w4 := g4.ext (x2.trans x3) (by have := x2.size; omega)
  have hv : gvalid rows = false := hv'
  simp (disch := omega) only [go_sem, Tryz.results162]
  exact ⟨none, 0, by simp [peakListOf, hv, ni], by simpa [peakListOf, hv, ni, vi] using OwnS.nil _ _ _, fun b hb => (by cases hb), x4⟩
 have hv : gvalid rows = true := hvt
 have v := (gvalid_iff rows).1 hv
 have g := v.gd
 have hn49 := g.le
 simp (disch := omega) only [go_sem]
 refine allocK_of zero_f fun w3 fb _ x3 k3 _ => ?_
 simp (disch := omega) only [go_sem]
 refine stK_agg siz_f sm oi k3 sm fun w4 kb g4 => ?_
 have s2 := x2.size
 have s3 := x3.size
 have x4 : Ext w w4 := g4.ext (x2.trans x3) om
 have s4 := x4.size
 have hc : CellsAt w4 cb (rows.length * rowLen rows) (hgt rows) := fun i hi => by
  have := ((o.cellsAt.ext x3).grow g4.grow (by have := o.cellsAt.lt g.pos; simp; omega)) i hi
  simpa only [hs_get rows i hi] using this
 simp (disch := omega) only [go_sem, readCells_blk kb (n := 3) sm]
 refine callK_of ke (peaks_c _ _ cb (hgt rows) _ g hc) ?_
 rintro _ w5 ⟨la, lc, rfl, lo, lf, x5⟩
 simp (disch := omega) only [go_sem, Tryz.results162]
 have e : peakListOf rows = peaksL rows.length (rowLen rows) (hgt rows) := by rw [peakListOf, if_pos hv]
 rw [e]
 exact ⟨la, lc, rfl, lo, fun b hb => Nat.le_trans s4 (lf b hb), x4.trans x5⟩
theorem specPeakList_c (a : Option Addr) (rows : List (List Int)) (A : Nat → Option Addr) (Cp : Nat → Nat) (gc : Nat) (w : World) (hr : RowsAt w a rows A Cp) :
  Ret Tryz.prog 173 #[.slice a rows.length gc] w fun v w' => Got1 w w' (ni (peakListOf rows)) v := by
 refine enter1 Tryz.func173 rfl fun f a0 => ?_
 simp (disch := omega) only [go_sem]
 refine bslK_0 elt_i fun w0 b0 e0 x0 o0 _ => ?_
 simp (disch := omega) only [go_sem, a0]
 refine callK_pure ke (gridValid_c _ _ _ _ _ _ (hr.ext x0)) fun w1 x1 => ?_
 have x01 := x0.trans x1
 cases hv : gvalid rows with
 | false =>
  simp (disch := omega) only [go_sem, Tryz.results173]
  exact ⟨_, _, by simp [peakListOf, hv, ni]; exact ⟨rfl, rfl⟩, by simpa [peakListOf, hv, ni, vi] using o0.ext x1, fun b hb => by simp [blk] at hb; omega, x01⟩
 | true =>
  have v := (gvalid_iff rows).1 hv
  have g := v.gd
  have hn49 := g.le
  obtain ⟨gb, go, rb, ro, rfl, -, hg⟩ := hr.grid v
  generalize hSd : peaksTo rows.length (rowLen rows) (hgt rows) = S
  simp (disch := omega) only [go_sem]
  refine loopN (rows.length * rowLen rows) (fun k f W => f 0 = .slice (some ⟨gb, go, none⟩) rows.length gc ∧ (∃ b c, f 3 = .slice (some ⟨b, 0, none⟩) (S k).length c ∧ OwnS W 3 1 (some ⟨b, 0, none⟩) (S k).length c (vi (ni (S k))) ∧ w.heap.size ≤ b) ∧ f 4 = .int .i64 k ∧ Ext w W) ⟨uu, ⟨_, _, by rw [← hSd]; simp [upd_apply, peaksTo]; exact ⟨rfl, rfl⟩, by rw [← hSd]; simpa [peaksTo, vi, ni] using o0.ext x1, om⟩, uu, x01⟩ fun k f W hk ⟨a0, ⟨b, c, a3, o, hb⟩, a4, xw⟩ => ?_
  simp (disch := omega) only [go_sem, a0, a4]
  refine callK_pure ke (l2Cells_c _ _ _ _ _ _ _ _ _ _ (hg.ext xw) v.r1 v.r7 v.c7) fun w2 x2 => ?_
  by_cases hlt : (k : Int) < (rows.length * rowLen rows : Nat)
  ·have hkn : k < rows.length * rowLen rows := om
   have hlen : (S k).length ≤ k := by rw [← hSd]; exact peaksTo_len rows.length (rowLen rows) (hgt rows) k
   have hS1 : S (k + 1) = if peakB rows.length (rowLen rows) (hgt rows) k then insL (hgt rows) k (S k) else S k := by rw [← hSd, peaksTo]
   have hSm : ∀ x ∈ S k, x < rows.length * rowLen rows := fun x hx => by rw [← hSd] at hx; have := (mem_peaksTo.1 hx).1; omega
   simp (disch := omega) only [go_sem, a0, a4, hlt]
   refine callK_pure ke (l4Peak_c gb go gc rb ro _ _ _ _ k _ ((hg.ext xw).ext x2) g.r7 g.c7 hkn) fun w3 x3 => ?_
   have x23 := x2.trans x3
   cases hpk : peakB rows.length (rowLen rows) (hgt rows) k with
   | false =>
    have e : S (k + 1) = S k := by rw [hS1, if_neg (by rw [hpk]; decide)]
    simp (disch := omega) only [go_sem, a4]
    exact ⟨hkn, uu, ⟨b, c, by rw [e]; simp [upd_apply, a3], by rw [e]; exact o.ext x23, hb⟩, uu, xw.trans x23⟩
   | true =>
    have x3' : Ext W w3 := x23
    simp (disch := omega) only [go_sem, a4]
    refine loopN (S k).length (fun j f V => f 0 = .slice (some ⟨gb, go, none⟩) rows.length gc ∧ f 3 = .slice (some ⟨b, 0, none⟩) (S k).length c ∧ f 4 = .int .i64 k ∧ f 5 = .int .i64 j ∧ (∀ s, s < j → hiB (hgt rows) ((S k).getD s 0) k = true) ∧ Ext w3 V) ⟨uu, uu, uu, uu, fun s hs => om, Ext.refl _⟩ fun j f V hj ⟨a0, a3, a4, a5, hpre, xV⟩ => ?_
    have xwV := (xw.trans x3').trans xV
    by_cases hjl : (j : Int) < (S k).length
    ·have hjl' : j < (S k).length := om
     have g0 : V.cell? ⟨b, j, none⟩ = some (.int .i64 ((S k).getD j 0 : Nat)) := by rw [((o.ext x3').ext xV).cell om, vi_get _ _ (by rw [ni_len]; omega), ni_get _ hjl']
     have hq : (S k).getD j 0 < rows.length * rowLen rows := hSm _ (getD_mem hjl')
     simp (disch := omega) only [go_sem, a0, a3, a4, a5, hjl, g0]
     refine callK_pure ke (l4Higher_c gb go gc rb ro _ _ _ _ ((S k).getD j 0) k _ (hg.ext xwV) g.r7 g.c7 hq hkn) fun w4 x4 => ?_
     cases hh : hiB (hgt rows) ((S k).getD j 0) k with
     | true =>
      simp (disch := omega) only [go_sem, a5]
      exact ⟨om, uu, uu, uu, uu, fun s hs => by
       by_cases e : s = j
       ·subst e; exact hh
       ·exact hpre s om, xV.trans x4⟩
     | false =>
      have hcc := o.le_cap
      simp (disch := omega) only [go_sem]
      refine bslK_0 elt_i fun w5 b5 e5 x5 o5 _ => ?_
      have x5w := (xwV.trans x4).trans x5
      have s5 := x5w.size
      have ogb : b < w5.heap.size ∧ b < b5 := by
       have h1 := ((o.ext x3').ext (xV.trans x4)).blk_lt (b := b) rfl
       have h2 := x5.size
       omega
      have og := (o.ext x3').ext (((xV.trans x4)).trans x5)
      simp (disch := omega) only [go_sem, a3, a5]
      refine appK_of elt_i dc o5 (m := j) (vi (ni ((S k).take j))) (by rw [vi_len, ni_len, List.length_take]; omega) (fun i u hu => ?_) (by simp [vi, Value.oneCell']) (by simp only [maxLen]; omega) om fun w6 a6 c6 o6 g6 h6 => ?_
      ·have hi : i < ((S k).take j).length := by
        have := (List.getElem?_eq_some_iff.1 hu).1
        rwa [vi_len, ni_len] at this
       have hi2 : i < j ∧ i < (S k).length := by rw [List.length_take] at hi; omega
       rw [add_mk, Nat.zero_add, og.cell om, ← hu, vi_get _ _ (by rw [ni_len]; omega), vi_get _ _ (by rw [ni_len]; omega), ni_get _ hi2.2, ni_get _ hi, getD_at _ _ hi2.2, getD_at _ _ hi, List.getElem_take]
      simp only [List.nil_append, Nat.zero_add] at o6 ⊢
      have og6 := og.grow g6 (fun b' hb' e => by have h1 : b = b' := (by simpa [blk] using hb'); have h2 : b5 = b' := (by simpa [blk] using e); omega)
      simp (disch := omega) only [go_sem, a4]
      refine bslK_1 elt_i rfl fun w7 b7 e7 x7 k7 _ => ?_
      simp (disch := omega) only [go_sem]
      refine appK_1 elt_i (o6.ext x7) k7 rfl om (.inl dc) fun w8 a8 c8 o8 g8 h8 => ?_
      have s7 := x7.size
      have s6 := g6.size
      have s8 := g8.size
      have f6 : ∀ b', blk a6 = some b' → w5.heap.size ≤ b' ∨ b' = b5 := fun b' hb' => by
       rcases h6 b' hb' with e | e
       ·simp [blk] at e; exact .inr e.symm
       ·exact .inl e
      have f8 : ∀ b', blk a8 = some b' → w.heap.size ≤ b' ∧ b' ≠ b := fun b' hb' => by
       rcases h8 b' hb' with e | e
       ·have := f6 b' e; omega
       ·omega
      have og8 := (og6.ext x7).grow g8 (fun b' hb' e => by
       have := f6 b' e
       have h1 : b = b' := (by simpa [blk] using hb')
       omega)
      simp (disch := omega) only [go_sem, a3, a4, a5]
      refine appK_of elt_i dc o8 (m := (S k).length - j) (vi (ni ((S k).drop j))) (by rw [vi_len, ni_len, List.length_drop]; omega) (fun i u hu => ?_) (by simp [vi, Value.oneCell']) (by simp only [maxLen]; omega) om fun w9 a9 c9 o9 g9 h9 => ?_
      ·have hi : i < ((S k).drop j).length := by
        have := (List.getElem?_eq_some_iff.1 hu).1
        rwa [vi_len, ni_len] at this
       have hi2 : j + i < (S k).length := by rw [List.length_drop] at hi; omega
       rw [if_neg om, add_mk, og8.cell om, ← hu, vi_get _ _ (by rw [ni_len]; omega), vi_get _ _ (by rw [ni_len]; omega), ni_get _ hi2, ni_get _ hi, getD_at _ _ hi2, getD_at _ _ hi, List.getElem_drop]
      have f9 : ∀ b', blk a9 = some b' → w.heap.size ≤ b' := fun b' hb' => by
       rcases h9 b' hb' with e | e
       ·exact (f8 b' e).1
       ·omega
      have el : S (k + 1) = (S k).take j ++ k :: (S k).drop j := by
       rw [hS1, if_pos hpk]
       exact insL_eq om hpre (fun hjk => hh)
      have eln : (S (k + 1)).length = j + 1 + ((S k).length - j) := by rw [el, List.length_append, List.length_cons, List.length_take, List.length_drop]; omega
      have elv : vi (ni (S (k + 1))) = vi (ni ((S k).take j)) ++ [.int .i64 (k : Int)] ++ vi (ni ((S k).drop j)) := by
       rw [el, vi_ni_snoc _ k _ rfl]; simp [vi, ni]
      have xx : Ext w w9 := g9.ext (g8.ext ((g6.ext x5w (fun b' hb' => by have h1 : b5 = b' := (by simpa [blk] using hb'); omega)).trans x7) (fun b' hb' => by have := f6 b' hb'; omega)) (fun b' hb' => (f8 b' hb').1)
      obtain ⟨b9, rfl⟩ := o9.some om
      simp (disch := omega) only [go_sem, a4]
      refine ⟨hkn, uu, ⟨b9, c9, by rw [eln] <;> simp [upd_apply], by rw [eln, elv]; exact o9, f9 b9 rfl⟩, uu, xx⟩
    ·have hje : j = (S k).length := om
     have hcc := o.le_cap
     simp (disch := omega) only [go_sem, a3, a5, hjl]
     refine bslK_0 elt_i fun w5 b5 e5 x5 o5 _ => ?_
     have x5w := xwV.trans x5
     have s5 := x5w.size
     have ogb : b < w5.heap.size ∧ b < b5 := by
      have h1 := ((o.ext x3').ext xV).blk_lt (b := b) rfl
      have h2 := x5.size
      omega
     have og := (o.ext x3').ext ((xV).trans x5)
     simp (disch := omega) only [go_sem, a3, a5]
     refine appK_of elt_i dc o5 (m := j) (vi (ni ((S k).take j))) (by rw [vi_len, ni_len, List.length_take]; omega) (fun i u hu => ?_) (by simp [vi, Value.oneCell']) (by simp only [maxLen]; omega) om fun w6 a6 c6 o6 g6 h6 => ?_
     ·have hi : i < ((S k).take j).length := by
       have := (List.getElem?_eq_some_iff.1 hu).1
       rwa [vi_len, ni_len] at this
      have hi2 : i < j ∧ i < (S k).length := by rw [List.length_take] at hi; omega
      rw [add_mk, Nat.zero_add, og.cell om, ← hu, vi_get _ _ (by rw [ni_len]; omega), vi_get _ _ (by rw [ni_len]; omega), ni_get _ hi2.2, ni_get _ hi, getD_at _ _ hi2.2, getD_at _ _ hi, List.getElem_take]
     simp only [List.nil_append, Nat.zero_add] at o6 ⊢
     have og6 := og.grow g6 (fun b' hb' e => by have h1 : b = b' := (by simpa [blk] using hb'); have h2 : b5 = b' := (by simpa [blk] using e); omega)
     simp (disch := omega) only [go_sem, a4]
     refine bslK_1 elt_i rfl fun w7 b7 e7 x7 k7 _ => ?_
     simp (disch := omega) only [go_sem]
     refine appK_1 elt_i (o6.ext x7) k7 rfl om (.inl dc) fun w8 a8 c8 o8 g8 h8 => ?_
     have s7 := x7.size
     have s6 := g6.size
     have s8 := g8.size
     have f6 : ∀ b', blk a6 = some b' → w5.heap.size ≤ b' ∨ b' = b5 := fun b' hb' => by
      rcases h6 b' hb' with e | e
      ·simp [blk] at e; exact .inr e.symm
      ·exact .inl e
     have f8 : ∀ b', blk a8 = some b' → w.heap.size ≤ b' ∧ b' ≠ b := fun b' hb' => by
      rcases h8 b' hb' with e | e
      ·have := f6 b' e; omega
      ·omega
     have og8 := (og6.ext x7).grow g8 (fun b' hb' e => by
      have := f6 b' e
      have h1 : b = b' := (by simpa [blk] using hb')
      omega)
     simp (disch := omega) only [go_sem, a3, a4, a5]
     refine appK_of elt_i dc o8 (m := (S k).length - j) (vi (ni ((S k).drop j))) (by rw [vi_len, ni_len, List.length_drop]; omega) (fun i u hu => ?_) (by simp [vi, Value.oneCell']) (by simp only [maxLen]; omega) om fun w9 a9 c9 o9 g9 h9 => ?_
     ·have hi : i < ((S k).drop j).length := by
       have := (List.getElem?_eq_some_iff.1 hu).1
       rwa [vi_len, ni_len] at this
      have hi2 : j + i < (S k).length := by rw [List.length_drop] at hi; omega
      rw [if_neg om, add_mk, og8.cell om, ← hu, vi_get _ _ (by rw [ni_len]; omega), vi_get _ _ (by rw [ni_len]; omega), ni_get _ hi2, ni_get _ hi, getD_at _ _ hi2, getD_at _ _ hi, List.getElem_drop]
     have f9 : ∀ b', blk a9 = some b' → w.heap.size ≤ b' := fun b' hb' => by
      rcases h9 b' hb' with e | e
      ·exact (f8 b' e).1
      ·omega
     have el : S (k + 1) = (S k).take j ++ k :: (S k).drop j := by
      rw [hS1, if_pos hpk]
      exact insL_eq om hpre (fun hjk => om)
     have eln : (S (k + 1)).length = j + 1 + ((S k).length - j) := by rw [el, List.length_append, List.length_cons, List.length_take, List.length_drop]; omega
     have elv : vi (ni (S (k + 1))) = vi (ni ((S k).take j)) ++ [.int .i64 (k : Int)] ++ vi (ni ((S k).drop j)) := by
      rw [el, vi_ni_snoc _ k _ rfl]; simp [vi, ni]
     have xx : Ext w w9 := g9.ext (g8.ext ((g6.ext x5w (fun b' hb' => by have h1 : b5 = b' := (by simpa [blk] using hb'); omega)).trans x7) (fun b' hb' => by have := f6 b' hb'; omega)) (fun b' hb' => (f8 b' hb').1)
     obtain ⟨b9, rfl⟩ := o9.some om
     simp (disch := omega) only [go_sem, a4]
     refine ⟨hkn, uu, ⟨b9, c9, by rw [eln] <;> simp [upd_apply], by rw [eln, elv]; exact o9, f9 b9 rfl⟩, uu, xx⟩
  ·obtain rfl : k = rows.length * rowLen rows := om
   simp (disch := omega) only [go_sem, a3, hlt, Tryz.results173]
   have e : peakListOf rows = S (rows.length * rowLen rows) := by rw [peakListOf, if_pos hv, peaksL, hSd]
   exact ⟨_, c, by rw [e, ni_len], by rw [e, ni_len]; exact o.ext x2, fun b' hb' => by simp [blk] at hb'; omega, xw.trans x2⟩
end Go.Proofs.YtcbmhjndbpafbaaGreatDoor
namespace Go.SW
theorem peakListOf_len (rows : List (List Int)) : (peakListOf rows).length ≤ 49 := by
 rw [peakListOf]
 split
 ·rename_i hv
  have g := ((gvalid_iff rows).1 hv).gd
  have h1 := peaksTo_len rows.length (rowLen rows) (hgt rows) (rows.length * rowLen rows)
  have h2 := g.le
  rw [peaksL]; omega
 ·simp
end Go.SW
namespace Go.Proofs.YtcbmhjndbpafbaaGreatDoor
open Go.RowKit Go.SW
end Go.Proofs.YtcbmhjndbpafbaaGreatDoor
namespace Go.SW
open Go Go.RowKit
def pkOf (rows : List (List Int)) (i : Int) : Bool := gvalid rows && (decide (0 ≤ i ∧ i < (rows.length * rowLen rows : Nat)) && peakB rows.length (rowLen rows) (hgt rows) i.toNat)
theorem mem_peakListOf {rows : List (List Int)} {i : Nat} : i ∈ peakListOf rows ↔ pkOf rows i = true := by
 simp only [peakListOf, pkOf, Bool.and_eq_true, decide_eq_true_eq, Int.toNat_natCast]
 split
 ·rename_i hv
  rw [peaksL, mem_peaksTo]
  constructor
  ·rintro ⟨h1, h2⟩; exact ⟨hv, ⟨om, om⟩, h2⟩
  ·rintro ⟨-, ⟨h1, h2⟩, h3⟩; exact ⟨om, h3⟩
 ·rename_i hv
  simp [hv]
end Go.SW
namespace Go.Proofs.YtcbmhjndbpafbaaGreatDoor
open Go.RowKit Go.SW
theorem binb_neq2 (a b : Bool) : binV Tryz.prog .neq 4 (.bool a) (.bool b) = some (.bool (!(a == b))) := ke
theorem binb_eql2 (a b : Bool) : binV Tryz.prog .eql 4 (.bool a) (.bool b) = some (.bool (a == b)) := ke
attribute [go_sem] binb_neq2 binb_eql2
def mkRow (C : Nat) (h : Nat → Int) (r : Nat) : List Int := (List.range C).map fun c => h (r * C + c)
theorem mkRow_len (C : Nat) (h : Nat → Int) (r : Nat) : (mkRow C h r).length = C := by simp [mkRow]
theorem mkRow_get {C : Nat} {h : Nat → Int} {r c : Nat} (hc : c < C) : (mkRow C h r).getD c 0 = h (r * C + c) := by simp [mkRow, hc]
theorem mkRows_eq (R C : Nat) (h : Nat → Int) : mkRows R C h = (List.range R).map (mkRow C h) := rfl
theorem mkRows_row {R C : Nat} {h : Nat → Int} {r : Nat} (hr : r < R) : (mkRows R C h).getD r [] = mkRow C h r := mkRows_get hr
theorem mkRows_i64 {R C : Nat} {h : Nat → Int} (hh : ∀ i, i < R * C → I64 (h i)) : ∀ l ∈ mkRows R C h, ∀ x ∈ l, I64 x := fun l hl x hx => by
 obtain ⟨r, hr, rfl⟩ := List.mem_map.1 hl
 obtain ⟨c, hc, rfl⟩ := List.mem_map.1 hx
 have h1 := List.mem_range.1 hr
 have h2 := List.mem_range.1 hc
 refine hh _ ?_
 have := Nat.mul_le_mul_right C (show r + 1 ≤ R from om)
 rw [Nat.add_mul, Nat.one_mul] at this; omega
theorem mkRows_lens {R C : Nat} {h : Nat → Int} (hC : C ≤ maxLen) : ∀ l ∈ mkRows R C h, l.length ≤ maxLen := fun l hl => by
 obtain ⟨r, hr, rfl⟩ := List.mem_map.1 hl
 simpa using hC
theorem mkRows_set {R C : Nat} {H G : Nat → Int} {r c : Nat} (hr : r < R) (hc : c < C) (hg : ∀ i, i < R * C → i ≠ r * C + c → G i = H i) :
  (mkRows R C H).set r ((mkRow C H r).set c (G (r * C + c))) = mkRows R C G := by
 apply List.ext_getElem?; intro s
 rw [List.getElem?_set]
 have bound : ∀ s d, s < R → d < C → s * C + d < R * C := fun s d h1 h2 => by
  have := Nat.mul_le_mul_right C (show s + 1 ≤ R from om)
  rw [Nat.add_mul, Nat.one_mul] at this; omega
 by_cases hs : s < R
 ·by_cases e : r = s
  ·subst e
   simp only [if_true, mkRows_len, hs]
   simp only [mkRows_eq, List.getElem?_map, List.getElem?_range hs, Option.map_some, Option.some.injEq]
   apply List.ext_getElem?; intro d
   rw [List.getElem?_set]
   by_cases hd : d < C
   ·by_cases e2 : c = d
    ·subst e2; simp [mkRow, hc]
    ·have h1 := hg (r * C + d) (bound r d hs hd) om
     simp [mkRow, hd, e2, h1]
   ·have : c ≠ d := om
    simp [mkRow, hd, this]
  ·rw [if_neg e]
   simp only [mkRows_eq, List.getElem?_map, List.getElem?_range hs, Option.map_some, Option.some.injEq]
   apply List.map_congr_left
   intro d hd
   have hd := List.mem_range.1 hd
   refine (hg _ (bound s d hs hd) fun e2 => e ?_).symm
   have h1 : (s * C + d) / C = s := by rw [Nat.mul_comm, Nat.mul_add_div om, Nat.div_eq_of_lt hd]; rfl
   have h2 : (r * C + c) / C = r := by rw [Nat.mul_comm, Nat.mul_add_div om, Nat.div_eq_of_lt hc]; rfl
   rw [← h1, ← h2, e2]
 ·have : r ≠ s := om
  simp [mkRows, hs, this]
theorem inv_gvalid {rows : List (List Int)} (v : Valid rows) : gvalid (mkRows rows.length (rowLen rows) fun i => 99 - hgt rows i) = true := (gvalid_iff _).2 (mkRows_valid v.r1 v.r7 v.c1 v.c7 fun i hi => by have := v.hgt i hi; omega)
theorem l1Copy_c (a : Option Addr) (rows : List (List Int)) (A : Nat → Option Addr) (Cp : Nat → Nat) (gc : Nat) (w : World) (hr : RowsAt w a rows A Cp) (v : Valid rows) :
  Ret Tryz.prog 99 #[.slice a rows.length gc] w fun u w' => ∃ a' c' A' Cp', u = .slice a' rows.length c' ∧ BRows w' 35 3 w.heap.size a' c' (mkRows rows.length (rowLen rows) (hgt rows)) A' Cp' ∧ Ext w w' := by
 obtain ⟨gb, go, rb, ro, rfl, -, hg⟩ := hr.grid v
 have hR7 := v.r7
 have hC7 := v.c7
 generalize hR : rows.length = R at *
 generalize hC : rowLen rows = C at *
 generalize hH : hgt rows = h at *
 refine enter1 Tryz.func99 rfl fun f a0 => ?_
 simp (disch := omega) only [go_sem]
 refine bslK_0 elt_ii fun w0 b0 e0 x0 o0 _ => ?_
 simp (disch := omega) only [go_sem]
 refine loopN R (fun i f W => f 0 = .slice (some ⟨gb, go, none⟩) R gc ∧ f 4 = .int .i64 i ∧ Ext w W ∧ ∃ a c rs A Cp, rs = (List.range i).map (mkRow C h) ∧ f 3 = .slice a rs.length c ∧ BRows W 35 3 w.heap.size a c rs A Cp) ⟨uu, uu, x0, _, _, [], fun _ => none, fun _ => 0, rfl, by simp only [upd_apply, Nat.reduceEqDiff, ↓reduceIte]; rfl, BRows.nil o0 (fun b hb => by simp [blk] at hb; omega) _ _⟩ fun i f W hi ⟨a0, a4, xw, oa, oc, rs, A', Cp', hrs, a3, br⟩ => ?_
 have hrl : rs.length = i := by rw [hrs]; simp
 by_cases hlt : (i : Int) < (R : Int)
 ·have hiR : i < R := om
  simp (disch := omega) only [go_sem, a0, a3, a4, hlt]
  refine bslK_0 elt_i fun w5 b5 e5 x5 o5 _ => ?_
  have hg5 := (hg.ext xw).ext x5
  have g0 := hg5.row i hiR
  simp (disch := omega) only [go_sem, a0, a4, g0]
  refine appK_of elt_i dc o5 (m := C) (vi (mkRow C h i)) (by rw [vi_len, mkRow_len]; omega) (fun j u hu => ?_) (by simp [vi, Value.oneCell']) (by simp only [maxLen]; omega) om fun w6 a6 c6 o6 g6 h6 => ?_
  ·have hj : j < C := by
    have := (List.getElem?_eq_some_iff.1 hu).1
    rwa [vi_len, mkRow_len] at this
   rw [vi_get _ _ (by rw [mkRow_len]; exact hj), mkRow_get hj] at hu
   simp only [Option.some.injEq] at hu
   subst hu
   rw [add_mk]; exact hg5.cell i j hiR hj
  simp only [List.nil_append, Nat.zero_add] at o6 ⊢
  simp (disch := omega) only [go_sem]
  refine bslK_1 elt_ii rfl fun w7 b7 e7 x7 k7 _ => ?_
  have s5 := x5.size
  have s6 := g6.size
  have s7 := x7.size
  have sw := xw.size
  have br7 := ((br.ext x5).other g6 (fun b _ hb e => by
   have h1 := br.lt hb
   have h2 : b5 = b := (by simpa [blk] using e)
   omega)).ext x7
  obtain ⟨xs, ox, hxs⟩ := br7.top
  simp (disch := omega) only [go_sem]
  refine appK_1 elt_ii ox k7 rfl om (.inr ⟨om, by decide⟩) fun w8 a8 c8 o8 g8 h8 => ?_
  have f6 : ∀ b, blk a6 = some b → W.heap.size ≤ b := fun b hb => by
   rcases h6 b hb with e | e
   ·have h2 : b5 = b := (by simpa [blk] using e)
    omega
   ·omega
  simp (disch := omega) only [go_sem, a4]
  have hN : OwnS w7 3 1 a6 (mkRow C h i).length c6 (vi (mkRow C h i)) := by rw [mkRow_len]; exact o6.ext x7
  refine ⟨hiR, uu, uu, g8.ext ((g6.ext (xw.trans x5) (fun b hb => by have h2 : b5 = b := (by simpa [blk] using hb); omega)).trans x7) br.ha, a8, c8, rs ++ [mkRow C h i], _, _, by simp [hrs, List.range_succ], ?_, br7.push hN (fun b hb => ⟨by have := f6 b hb; omega, fun e => ?_, fun r hr e => ?_⟩) ox hxs (by rw [mkRow_len]; exact o8) g8 h8 om⟩
  ·simp [upd_apply]
  ·have := f6 b hb; have := br.lt (.inl e); omega
  ·have := f6 b hb; have := br.lt (.inr ⟨r, hr, e⟩); omega
 ·have e : i = R := om
  rw [e] at hrs hrl
  simp (disch := omega) only [go_sem, a0, a3, a4, hlt, Tryz.results99]
  exact ⟨oa, oc, A', Cp', by rw [hrl], by rw [mkRows_eq, ← hrs]; exact br, xw⟩
end Go.Proofs.YtcbmhjndbpafbaaGreatDoor
namespace Go.SW
end Go.SW
namespace Go.Proofs.YtcbmhjndbpafbaaGreatDoor
open Go.RowKit Go.SW
theorem l4Has_c (a : Option Addr) (rows : List (List Int)) (A : Nat → Option Addr) (Cp : Nat → Nat) (gc : Nat) (i : Int) (w : World) (hr : RowsAt w a rows A Cp) :
  Ret Tryz.prog 234 #[.slice a rows.length gc, .int .i64 i] w fun v w' => v = .bool (gvalid rows && decide (0 ≤ i ∧ i < (rows.length * rowLen rows : Nat))) ∧ Ext w w' := by
 refine enter2 Tryz.func234 rfl fun f a0 a1 => ?_
 simp (disch := omega) only [go_sem, a0]
 refine callK_pure ke (gridValid_c _ _ _ _ _ _ hr) fun w1 x1 => ?_
 cases hv : gvalid rows with
 | false =>
  simp (disch := omega) only [go_sem, Tryz.results234]
  exact ⟨by simp, x1⟩
 | true =>
  have v := (gvalid_iff rows).1 hv
  have hn49 := v.gd.le
  obtain ⟨gb, go, rb, ro, rfl, -, hg⟩ := hr.grid v
  simp (disch := omega) only [go_sem, a0, a1]
  refine callK_pure ke (l2Cells_c _ _ _ _ _ _ _ _ _ _ (hg.ext x1) v.r1 v.r7 v.c7) fun w2 x2 => ?_
  simp (disch := omega) only [go_sem]
  refine callK_pure ke (l6In_c _ _ _ _) fun w3 x3 => ?_
  simp (disch := omega) only [go_sem, Tryz.results234]
  refine ⟨?_, (x1.trans x2).trans x3⟩
  congr 1
  rw [Bool.true_and]
  congr 1
  exact propext ⟨fun h => om, fun h => om⟩
theorem specPeakIs_c (a : Option Addr) (rows : List (List Int)) (A : Nat → Option Addr) (Cp : Nat → Nat) (gc : Nat) (i : Int) (w : World) (hr : RowsAt w a rows A Cp) :
  Ret Tryz.prog 228 #[.slice a rows.length gc, .int .i64 i] w fun v w' => v = .bool (pkOf rows i) ∧ Ext w w' := by
 refine enter2 Tryz.func228 rfl fun f a0 a1 => ?_
 simp (disch := omega) only [go_sem, a0, a1]
 refine callK_pure ke (l4Has_c _ _ _ _ _ i _ hr) fun w1 x1 => ?_
 cases hh : (gvalid rows && decide (0 ≤ i ∧ i < (rows.length * rowLen rows : Nat))) with
 | false =>
  simp (disch := omega) only [go_sem, Tryz.results228]
  exact ⟨by rw [pkOf, ← Bool.and_assoc, hh, Bool.false_and], x1⟩
 | true =>
  simp only [Bool.and_eq_true, decide_eq_true_eq] at hh
  obtain ⟨hv, hi0, hi1⟩ := hh
  have v := (gvalid_iff rows).1 hv
  obtain ⟨gb, go, rb, ro, rfl, -, hg⟩ := hr.grid v
  obtain ⟨n, rfl⟩ := Int.eq_ofNat_of_zero_le hi0
  simp (disch := omega) only [go_sem, a0, a1]
  refine callK_pure ke (l4Peak_c gb go gc rb ro Cp _ _ _ n _ (hg.ext x1) v.r7 v.c7 om) fun w2 x2 => ?_
  simp (disch := omega) only [go_sem, Tryz.results228]
  refine ⟨?_, x1.trans x2⟩
  simp only [pkOf, hv, hi0, hi1, Int.toNat_natCast, Bool.true_and, and_self, decide_true]
set_option maxHeartbeats 1000000 in
theorem gridSet_c (a : Option Addr) (rows : List (List Int)) (A : Nat → Option Addr) (Cp : Nat → Nat) (gc : Nat) (i : Nat) (y : Int) (w : World) (hr : RowsAt w a rows A Cp) (hv : gvalid rows = true) (hi : i < rows.length * rowLen rows) :
  Ret Tryz.prog 153 #[.slice a rows.length gc, .int .i64 ((i : Int) / (rowLen rows : Int)), .int .i64 ((i : Int) % (rowLen rows : Int)), .int .i64 y] w fun u w' =>
   (¬ (0 ≤ y ∧ y ≤ 99) ∧ u = .tuple #[.slice none 0 0, .bool false] ∧ Ext w w') ∨ ((0 ≤ y ∧ y ≤ 99) ∧ ∃ b A', u = .tuple #[.slice (some ⟨b, 0, none⟩) rows.length rows.length, .bool true] ∧ OwnRows w' 35 3 w.heap.size b (mkRows rows.length (rowLen rows) fun j => if j = i then y else hgt rows j) A' ∧ Ext w w') := by
 have v := (gvalid_iff rows).1 hv
 have g := v.gd
 have hn49 := g.le
 have hR7 := g.r7
 have hC7 := g.c7
 have hC1 := g.c1
 obtain ⟨q1, q0, m1, m0, hC, hR, hdm⟩ := idx_div (i := (i : Int)) (R := rows.length) (C := rowLen rows) om om
 obtain ⟨r, er⟩ := Int.eq_ofNat_of_zero_le q0
 obtain ⟨c, ec⟩ := Int.eq_ofNat_of_zero_le m0
 rw [er, ec] at hdm ⊢
 rw [er] at q1
 rw [ec] at m1
 simp only [Int.toNat_natCast] at hdm
 refine enter4 Tryz.func153 rfl fun f a0 a1 a2 a3 => ?_
 simp (disch := omega) only [go_sem, a0]
 refine callK_of ke (fieldOf_c _ _ _ _ _ _ hr) ?_
 rintro _ w2 ⟨x2, (⟨hvt, cb, rfl, hcb, o⟩ | ⟨hv', -⟩)⟩
 rotate_left
 ·rw [hv] at hv'; cases hv'
 simp (disch := omega) only [go_sem]
 refine allocK_of zero_f fun w3 fb _ x3 k3 _ => ?_
 simp (disch := omega) only [go_sem]
 refine stK_agg siz_f sm oi k3 sm fun w4 kb g4 => ?_
 have s2 := x2.size
 have s3 := x3.size
 have x4 : Ext w w4 := g4.ext (x2.trans x3) om
 have s4 := x4.size
 have hob := o.blk_lt rfl
 have o4 := (o.ext x3).grow g4.grow (fun b hb e => by
  have h1 : cb = b := (by simpa [blk] using hb)
  have h2 : fb = b := (by simpa using e)
  have : cb < w2.heap.size := by rw [h1]; exact o.blk_lt (by rw [← h1]; rfl)
  omega)
 have hin : decide (0 ≤ (r : Int) ∧ (r : Int) < rows.length ∧ 0 ≤ (c : Int) ∧ (c : Int) < rowLen rows) = true := decide_eq_true om
 simp (disch := omega) only [go_sem, a1, a2, readCells_blk kb (n := 3) sm]
 refine callK_pure ke (has_c _ _ _ _ _ _) fun w5 x5 => ?_
 simp (disch := omega) only [go_sem, hin, Bool.not_true, Bool.not_false, a3]
 refine callK_of ke (isHeight_c _ _) ?_
 rintro _ w6 ⟨rfl, x6⟩
 have x56 := x5.trans x6
 by_cases hy : 0 ≤ y ∧ y ≤ 99
 ·have hyd : decide (0 ≤ y ∧ y ≤ 99) = true := decide_eq_true hy
  simp (disch := omega) only [go_sem, hyd, Bool.not_true, Bool.not_false]
  have kb6 := kb.ext x56
  refine QR_tail 8 ke ke ?_
  simp (disch := omega) only [go_sem, a1, a2, a3, kb6.cell, readCells_blk kb6 (n := 3) sm]
  refine callK_q ke (fun w' e => index_c _ _ _ _ _ r c _ om om om) ?_
  simp (disch := omega) only [go_sem, hdm, a3]
  intro w7 x7
  refine stK_own siz_int rf rf ((o4.ext x56).ext x7) om fun w8 o8 g8 => ?_
  have kb8 := g8.grow.blk (kb6.ext x7) (by
   intro e
   have h2 : cb = fb := by simpa using e
   have := o.blk_lt (b := cb) rfl
   omega)
  have hc8 : CellsAt w8 cb (rows.length * rowLen rows) fun j => if j = i then y else hgt rows j := fun j hj => by
   rw [o8.cell om]
   by_cases e : j = i
   ·subst e
    rw [List.getElem?_set_self (by rw [vi_len, hs_len]; exact hj)]
    simp
   ·rw [List.getElem?_set_ne om, vi_get _ _ (by rw [hs_len]; exact hj), hs_get rows j hj]
    simp [e]
  simp (disch := omega) only [go_sem, readCells_blk kb8 (n := 3) sm]
  refine callK_of ke (lists_c _ _ _ _ _ hc8 om om om) ?_
  rintro _ w9 ⟨b, A', rfl, x9, or⟩
  have x8 : Ext w w8 := g8.ext ((x4.trans x56).trans x7) om
  simp (disch := omega) only [go_sem, Tryz.results153]
  refine .inr ⟨hy, b, A', rfl, ?_, x8.trans x9⟩
  have s8 := x8.size
  exact ⟨or.top, Nat.le_trans s8 or.hb, fun r hr => let ⟨br, h1, h2, h3, oo⟩ := or.row r hr; ⟨br, h1, Nat.le_trans s8 h2, h3, oo⟩, or.inj⟩
 ·have hyd : decide (0 ≤ y ∧ y ≤ 99) = false := decide_eq_false hy
  simp (disch := omega) only [go_sem, hyd, Bool.not_true, Bool.not_false, Tryz.results153]
  exact .inl ⟨hy, trivial, x4.trans x56⟩
theorem near_ne {R C i j : Nat} (hi : i < R * C) (hj : j ∈ nearN R C i) : j ≠ i := by
 have hC : 0 < C := Nat.pos_of_ne_zero fun e => by subst e; simp at hi
 rcases nearN_mem.1 hj with ⟨h1, h2⟩ | ⟨h1, h2⟩ | ⟨h1, h2⟩ | ⟨h1, h2⟩
 ·omega
 ·omega
 ·omega
 ·have : i ≠ 0 := fun e => by subst e; simp at h1
  omega
end Go.Proofs.YtcbmhjndbpafbaaGreatDoor
