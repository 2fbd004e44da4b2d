import Derived.Test.YtcbmhjndbpafbaaGreatDoorY3
set_option linter.all false
set_option maxRecDepth 20000
namespace Go.SW
open Go Go.RowKit
theorem grid_yes {l : List UInt8} {ws : List (List UInt8)} (h : spl 32 l = [103, 114, 105, 100] :: ws) (hw : ws ≠ []) : Lib.hasPrefix l grd = true ∧ Lib.trimPrefix l grd = l.drop 5 ∧ 5 ≤ l.length := by
 have e := jn_spl 32 l
 rw [h, jn_cons hw] at e
 have e2 : l = grd ++ jn 32 ws := by rw [← e]; simp [grd]
 rw [e2]
 refine ⟨(grd_pre _).1, (grd_pre _).2, ?_⟩
 rw [List.length_append]; simp [grd]
theorem grid_no {l word : List UInt8} {ws : List (List UInt8)} (h : spl 32 l = word :: ws) (hn : ¬ (word = [103, 114, 105, 100] ∧ ws ≠ [])) : Lib.hasPrefix l grd = false := by
 cases hp : Lib.hasPrefix l grd with
 | false => rfl
 | true =>
  obtain ⟨t, rfl⟩ := List.isPrefixOf_iff_prefix.1 hp
  have : spl 32 (grd ++ t) = [103, 114, 105, 100] :: spl 32 t := by
   have e : grd ++ t = [103, 114, 105, 100] ++ 32 :: t := by simp [grd]
   rw [e, spl_app dc]
  rw [this] at h
  simp only [List.cons.injEq] at h
  exact (hn ⟨h.1.symm, by rw [← h.2]; exact spl_ne 32 t⟩).elim
theorem isB_undef (b : Bool) : isB undef b = false := rfl
attribute [go_sem] isB_undef
theorem ldS_or {P : Program} {n b8 b i : Nat} {T : TypeId} {k : Value → World → Prop} {w : World} (h1 : b < n) (h2 : b ≠ b8) : Go.SWP.ldS P (fun j => j = b8 ∨ n ≤ j) T (.pointer (some ⟨b, i, none⟩)) k w = ldK P T (.pointer (some ⟨b, i, none⟩)) k w := by
 simp only [Go.SWP.ldS]
 exact propext ⟨fun h => h.2, fun h => ⟨by rintro (e | e) <;> omega, h⟩⟩
end Go.SW
namespace Go.Proofs.YtcbmhjndbpafbaaGreatDoor
open Go.RowKit Go.SW
def Bs (a : Option Addr) (A : Nat → Option Addr) (n : Nat) (la : Option Addr) (b : Nat) : Prop := blk a = some b ∨ (∃ r, r < n ∧ blk (A r) = some b) ∨ blk la = some b
def StX (w : World) (v : Value) (k : Dk) (X : Nat → Prop) : Prop := ∃ a A Cp gc la lc, v = .agg #[.slice a k.rows.length gc, .slice la k.labs.length lc] ∧ RowsAt w a k.rows A Cp ∧ LabS w la k.labs ∧ k.labs.length ≤ lc ∧ ∀ b, Bs a A k.rows.length la b → ¬ X b
theorem StX.ext {w w' : World} {v : Value} {k : Dk} {X : Nat → Prop} (h : StX w v k X) (e : Ext w w') : StX w' v k X := by
 obtain ⟨a, A, Cp, gc, la, lc, hv, r, l, hc, hx⟩ := h
 exact ⟨a, A, Cp, gc, la, lc, hv, r.ext e, l.ext e, hc, hx⟩
theorem StX.wrote {w w' : World} {v : Value} {k : Dk} {X : Nat → Prop} {d : Nat} (h : StX w v k X) (g : Wrote d w w') (hd : X d) : StX w' v k X := by
 obtain ⟨a, A, Cp, gc, la, lc, hv, r, l, hc, hx⟩ := h
 have ne : ∀ b, Bs a A k.rows.length la b → b ≠ d := fun b hb e => hx b hb (e ▸ hd)
 exact ⟨a, A, Cp, gc, la, lc, hv, r.kept (fun b hb _ => g.other b (ne b (.inl hb))) (fun i hi b hb _ => g.other b (ne b (.inr (.inl ⟨i, hi, hb⟩)))), l.kept (fun b hb _ => g.other b (ne b (.inr (.inr hb)))), hc, hx⟩
theorem bs_rows {X : Nat → Prop} {B n : Nat} {a la : Option Addr} {A : Nat → Option Addr} (hX : ∀ x, X x → x < B) (fr : FreshR B a n A) (hl : ∀ b, blk la = some b → ¬ X b) : ∀ b, Bs a A n la b → ¬ X b := fun b hb hx => by
 have := hX b hx
 rcases hb with h | h | h
 ·have := fr b (.inl h); omega
 ·have := fr b (.inr h); omega
 ·exact hl b h hx
theorem bs_labs {X : Nat → Prop} {B n : Nat} {a la l7 : Option Addr} {A : Nat → Option Addr} (hX : ∀ x, X x → x < B) (hs : ∀ b, Bs a A n la b → ¬ X b) (hb7 : ∀ b, blk l7 = some b → B ≤ b) : ∀ b, Bs a A n l7 b → ¬ X b := fun b hb hx => by
 have := hX b hx
 rcases hb with h | h | h
 ·exact hs b (.inl h) hx
 ·exact hs b (.inr (.inl h)) hx
 ·have := hb7 b h; omega
theorem dk_eta {d : Dk} {L : List Lb} (h : d.labs = L) : d = ⟨d.rows, L⟩ := by subst h; rfl
theorem doF_keeps {k : Dk} {i : Nat} (h : 5 ≤ i ∧ i ≠ 10) (n : List Nat) : (doF i n k).1 = k := by
 have : i = 5 ∨ i = 6 ∨ i = 7 ∨ i = 8 ∨ i = 9 ∨ i = 11 ∨ 12 ≤ i := om
 rcases this with rfl | rfl | rfl | rfl | rfl | rfl | h
 ·rfl
 ·rfl
 ·rfl
 ·rfl
 ·rfl
 ·rfl
 ·obtain ⟨m, rfl⟩ : ∃ m, i = m + 12 := ⟨i - 12, om⟩
  cases m <;> rfl
theorem lineF_words {k : Dk} {l word : List UInt8} {ws : List (List UInt8)} (hg : Lib.hasPrefix l grd = false) (hs : spl 32 l = word :: ws) : lineF k l = match ordX word with
  | some i => if ws.length = cntX i then doF i (ws.map numV) k else (k, whT)
  | none => (k, whT) := by
 rw [lineF, if_neg (by rw [hg]; simp), hs]
 simp only [List.getD_cons_zero, List.length_cons, List.tail_cons, Nat.add_right_cancel_iff]
 cases ordX word <;> rfl
theorem lineF_ask {k : Dk} {l word : List UInt8} {ws : List (List UInt8)} (hg : Lib.hasPrefix l grd = false) (hs : spl 32 l = word :: ws) (hno : ∀ i, ordX word = some i → cntX i = ws.length → 5 ≤ i ∧ i ≠ 10) : lineF k l = (k, askF k word ws) := by
 rw [lineF_words hg hs]
 unfold askF
 cases hx : ordX word with
 | none => rfl
 | some i =>
  by_cases hc : ws.length = cntX i
  ·have := doF_keeps (hno i hx hc.symm) (k := k) (ws.map numV)
   simp only [hc, if_true]
   rw [← hc] at *
   exact Prod.ext this rfl
  ·simp [hc]
theorem lineF_ord {k : Dk} {l word : List UInt8} {ws : List (List UInt8)} {i : Nat} (hg : Lib.hasPrefix l grd = false) (hs : spl 32 l = word :: ws) (hx : ordX word = some i) (hc : ws.length = cntX i) : lineF k l = doF i (ws.map numV) k := by
 rw [lineF_words hg hs, hx]; simp [hc]
theorem gridSetU_c (a : Option Addr) (rows : List (List Int)) (A : Nat → Option Addr) (Cp : Nat → Nat) (gc : Nat) (r c h : Nat) (w : World) (hr : RowsAt w a rows A Cp) (v : Valid rows) :
  Ret Tryz.prog 69 #[.slice a rows.length gc, .int .i64 r, .int .i64 c, .int .i64 h] w fun u w' => Ext w w' ∧ ∃ a' n' c' ok, u = .tuple #[.slice a' n' c', .bool ok] ∧ ok = decide (cellok rows r c = true ∧ h ≤ 99) ∧ (ok = true → n' = (setR rows r c h).length ∧ ∃ A' Cp', RowsAt w' a' (setR rows r c h) A' Cp' ∧ FreshR w.heap.size a' (setR rows r c h).length A') :=
 Ret.mono (specGridSet_c a rows A Cp gc r c h w hr v) fun u w' ⟨e, hu⟩ => ⟨e, by
  rcases hu with ⟨hn, a', n', c', rfl⟩ | ⟨hy, a', c', A', Cp', rfl, r', f'⟩
  ·exact ⟨a', n', c', false, rfl, (decide_eq_false hn).symm, fun h => by cases h⟩
  ·exact ⟨a', _, c', true, rfl, (decide_eq_true hy).symm, fun _ => ⟨rfl, A', Cp', r', f'⟩⟩⟩
set_option maxHeartbeats 4000000 in
theorem l10Line_c (k : Dk) (hk : k.Good) (line : List UInt8) (hl : line.length ≤ 1000) (sv : Value) (w : World) (Av : Nat → Prop) (hAv : ∀ x, Av x → x < w.heap.size) (hs : StX w sv k Av) :
  Ret Tryz.prog 36 #[sv, .string (bs line)] w fun u w' => ∃ sv', u = .tuple #[sv', .string (bs (lineF k line).2)] ∧ StX w' sv' (lineF k line).1 Av ∧ Ext w w' := by
 obtain ⟨a, A, Cp, gc, la, lc, rfl, r, l, hlc, hXs⟩ := hs
 have v := hk.1
 have hs6 := hk.2.1
 obtain ⟨word, ws, hsp⟩ : ∃ word ws, spl 32 line = word :: ws := List.exists_cons_of_ne_nil (spl_ne 32 line)
 have hsl := spl_len_le 32 line
 have hwl : ∀ t ∈ ws, t.length ≤ 100000 := fun t ht => by
  have := spl_mem_len (c := 32) (s := line) (l := t) (by rw [hsp]; simp [ht])
  omega
 have hwsl : ws.length ≤ 1000 := by rw [hsp] at hsl; simp at hsl; omega
 refine enter2 Tryz.func36 rfl fun f a0 a1 => ?_
 simp only [go_sem, a0]
 refine boxK_of fun w1 bx e1 x1 kx _ => ?_
 have kx : Blk w1 bx #[.slice a k.rows.length gc, .slice la k.labs.length lc] 64 := by simpa [Value.cells] using kx
 simp (disch := omega) only [go_sem]
 refine allocK_of zero_lst fun w2 b4 e2 x2 k4 _ => ?_
 simp (disch := omega) only [go_sem, a1]
 refine callK_of ke (l1Cut_c line 32 _ om) ?_
 rintro _ w3 ⟨b, cp, rfl, x3, hb3, os⟩
 rw [hsp] at os ⊢
 simp only [List.length_cons] at os ⊢
 simp (disch := omega) only [go_sem]
 refine callK_of ke (l10Numbers_c b (ws.length + 1) cp word ws _ os rfl om hwl) ?_
 rintro _ w4 ⟨nb, nc, rfl, x4, hnb, on⟩
 have s1 := x1.size
 have s2 := x2.size
 have s3 := x3.size
 have s4 := x4.size
 have x24 := (x2.trans x3).trans x4
 have kx4 := kx.ext x24
 have k44 := k4.ext (x3.trans x4)
 simp (disch := omega) only [go_sem, readCells_blk kx4 (n := 2) sm]
 refine allocK_of zero_lst fun w5 b8 e5 x5 k8 _ => ?_
 simp (disch := omega) only [go_sem]
 refine stK_agg siz_lst sm oi k8 sm fun w6 k8 g6 => ?_
 have s5 := x5.size
 have s6 := g6.size
 have x46 : Ext w4 w6 := g6.ext x5 om
 have xw6 : Ext w w6 := (x1.trans x24).trans x46
 have kx6 := kx4.ext x46
 have k46 := k44.ext x46
 have os6 := (os.ext x4).ext x46
 have on6 := on.ext x46
 have lbx := kx.lt
 have lb4 := k4.lt
 have r6 := r.ext xw6
 have l6 := l.ext xw6
 have lob : b < w4.heap.size := (os.ext x4).blk_lt rfl
 have lonb : nb < w4.heap.size := on.blk_lt rfl
 have hX6 : ∀ x, Av x → x < w6.heap.size := fun x hx => by have := hAv x hx; omega
 have hXl : ∀ b, blk la = some b → ¬ Av b := fun b h => hXs b (.inr (.inr h))
 have hwc : ∀ {W : World}, Ext w6 W → W.cell? ⟨b, 0, none⟩ = some (.string (bs word)) := fun x => by
  rw [(os6.ext x).cell om, vst_get _ _ sm]; rfl
 have ex6 : Ext w6 w6 := Ext.refl _
 have hw0 := hwc ex6
 have e0 : (0 : Int) < ((ws.length + 1 : Nat) : Int) := om
 have hnb8 : nb ≠ b8 := om
 have hbx8 : bx ≠ b8 := om
 have hb8 : b ≠ b8 := om
 have h48 : b4 ≠ b8 := om
 simp (disch := omega) only [go_sem]
 by_cases hgr : word = [103, 114, 105, 100] ∧ ws ≠ []
 ·-- grid
  obtain ⟨rfl, hws⟩ := hgr
  obtain ⟨hp, ht, h5⟩ := grid_yes hsp hws
  have hw1 : (0 : Int) < (ws.length : Int) := by have := List.length_pos_iff.2 hws; omega
  have h5' : (5 : Int) ≤ (line.length : Int) := om
  have hline : lineF k line = becomeF k (gfrom (line.drop 5)) := by rw [lineF, if_pos hp, ht]
  rw [hline]
  simp (disch := omega) only [go_sem, a1, e0, Int.reduceToNat, hw0, beq_self_eq_true, hw1]
  refine callK_of ke (specGridFrom_c (line.drop 5) (by rw [List.length_drop]; omega) _) ?_
  rintro _ w7 ⟨ga, gn, gcc, rfl, x7, hgo⟩
  have k87 := k8.ext x7
  simp (disch := omega) only [go_sem]
  refine stK_blk siz_ii rf rf k87 sm fun w8 k88 g8 => ?_
  have k88 : Blk w8 b8 #[.slice ga gn gcc, .slice la k.labs.length lc] 64 := by simpa using k88
  have s7 := x7.size
  have x68 : Grow (some b8) w6 w8 := (x7.grow _).trans g8.grow
  have kx8 := g8.blk (kx6.ext x7) hbx8
  have k48 := g8.blk (k46.ext x7) h48
  cases hgf : gfrom (line.drop 5) with
  | none =>
   simp (disch := omega) only [go_sem, Option.isSome_none, Bool.not_false, readCells_blk kx8 (n := 2) sm]
   refine stK_agg siz_lst sm oi k48 sm fun w9 k9 g9 => ?_
   simp (disch := omega) only [go_sem, readCells_blk k9 (n := 2) sm, Tryz.results36]
   have xw9 : Ext w w9 := g9.ext (g8.ext (xw6.trans x7) om) om
   exact ⟨_, rfl, ⟨a, A, Cp, gc, la, lc, rfl, r.ext xw9, l.ext xw9, hlc, hXs⟩, xw9⟩
  | some rows =>
   obtain ⟨rfl, A', Cp', r', fr'⟩ := hgo rows hgf
   simp (disch := omega) only [go_sem, Option.isSome_some, Bool.not_true, readCells_blk k88 (n := 2) sm]
   refine stK_agg siz_lst sm oi k48 sm fun w9 k9 g9 => ?_
   simp (disch := omega) only [go_sem, readCells_blk k9 (n := 2) sm, Tryz.results36]
   have xw9 : Ext w w9 := g9.ext (g8.ext (xw6.trans x7) om) om
   exact ⟨_, rfl, ⟨ga, A', Cp', gcc, la, lc, rfl, rows_wrote (rows_wrote r' fr' g8 om) fr' g9 om, l.ext xw9, hlc, bs_rows hX6 fr' hXl⟩, xw9⟩
 have hgn := grid_no hsp hgr
 have hst : ∀ {V}, Ext w6 V → StAt V (.agg #[.slice a k.rows.length gc, .slice la k.labs.length lc]) k := fun x => ⟨a, A, Cp, gc, la, lc, rfl, r6.ext x, l6.ext x, hlc⟩
 have gx4 : Grow (some b4) w6 w6 := Grow.refl _ _
 have gx8 : Grow (some b8) w6 w6 := Grow.refl _ _
 have h4x : b4 ≠ bx := om
 have h8x : b8 ≠ bx := om
 have h8b : b8 ≠ b := om
 have h8n : b8 ≠ nb := om
 by_cases hg0 : word = [103, 114, 105, 100]
 ·have hws : ws = [] := Classical.byContradiction fun h => hgr ⟨hg0, h⟩
  have hl0 : ws.length = 0 := by rw [hws]; rfl
  have t1 : (word == [103, 114, 105, 100]) = true := by rw [hg0]; rfl
  have t2 : ¬ (0 : Int) < (ws.length : Int) := om
  have t3 : ((ws.length : Int) == 0) = true := by rw [hl0]; rfl
  have t4 : (word == [115, 101, 116]) = false := by rw [hg0]; rfl
  have t5 : (word == [116, 117, 114, 110]) = false := by rw [hg0]; rfl
  have t6 : (word == [109, 105, 114, 114, 111, 114]) = false := by rw [hg0]; rfl
  have t7 : (word == [105, 110, 118, 101, 114, 116]) = false := by rw [hg0]; rfl
  have t8 : (word == [102, 105, 108, 108]) = false := by rw [hg0]; rfl
  have t9 : (word == [110, 97, 109, 101]) = false := by rw [hg0]; rfl
  have hno : ∀ i, ordX word = some i → cntX i = ws.length → 5 ≤ i ∧ i ≠ 10 := fun i hi => by rw [hg0] at hi; cases hi
  rw [lineF_ask hgn hsp hno]
  simp (disch := omega) only [go_sem, a1, e0, Int.reduceToNat, hw0, t1, t2, t3, t4, t5, t6, t7, t8, t9]
  refine QR_sch (some b4) (.st 0 (.st 1 (.st 2 (.ef 3 (.ef 4 (.st 5 (.done))))))) ke ke fun w0 x0 => ?_
  have X := gx4.trans (x0.grow _)
  simp (disch := omega) only [go_sem, readCells_blk (kx6.ext x0) (n := 2) sm, h4x]
  refine callK_of ke (l10Ask_c k hk word ws _ b cp _ (hst x0) (os6.ext x0) om hwl hno) ?_
  rintro _ w7 ⟨rfl, y7⟩
  have k47 := (k46.ext x0).ext y7
  refine nxE_of (y7.grow _) ?_
  have X := X.trans (y7.grow _)
  simp (disch := omega) only [go_sem, readCells_blk (kx6.ext x0) (n := 2) sm, h4x]
  refine stK_agg siz_lst sm oi k47 sm fun w9 k9 g9 => ?_
  refine nxE_of (g9.grow) ?_
  have X := X.trans g9.grow
  simp (disch := omega) only [go_sem, readCells_blk k9 (n := 2) sm, Tryz.results36]
  have xw9 : Ext w w9 := X.ext xw6 (fun b hb => by simp only [Option.some.injEq] at hb; omega)
  exact ⟨_, rfl, ⟨a, A, Cp, gc, la, lc, rfl, r.ext xw9, l.ext xw9, hlc, hXs⟩, xw9⟩
 have ng : (word == [103, 114, 105, 100]) = false := by rw [beq_eq_false_iff_ne]; exact hg0
 by_cases hse : word = [115, 101, 116]
 ·have t1 : (word == [115, 101, 116]) = true := by rw [hse]; rfl
  have hx : ordX word = some 0 := by rw [hse]; rfl
  by_cases hc : ws.length = 3
  ·have t2 : ((ws.length : Int) == 3) = true := by rw [hc]; rfl
   rw [lineF_ord hgn hsp hx hc]
   match ws, hc with
   | [u0, u1, u2], _ =>
    have n0 : ∀ {W : World}, Ext w6 W → W.cell? ⟨nb, 0, none⟩ = some (.int .i64 (numV u0 : Nat)) := fun x => by simpa using (on6.ints.ext x).cell nb 0 rfl 0 sm
    have n1 : ∀ {W : World}, Ext w6 W → W.cell? ⟨nb, 1, none⟩ = some (.int .i64 (numV u1 : Nat)) := fun x => by simpa using (on6.ints.ext x).cell nb 0 rfl 1 sm
    have n2 : ∀ {W : World}, Ext w6 W → W.cell? ⟨nb, 2, none⟩ = some (.int .i64 (numV u2 : Nat)) := fun x => by simpa using (on6.ints.ext x).cell nb 0 rfl 2 sm
    have q0 : (0 : Int) < (([u0, u1, u2] : List (List UInt8)).length : Nat) := by simp
    have q1 : (1 : Int) < (([u0, u1, u2] : List (List UInt8)).length : Nat) := by simp
    have q2 : (2 : Int) < (([u0, u1, u2] : List (List UInt8)).length : Nat) := by simp
    have hdo : doF 0 (([u0, u1, u2] : List (List UInt8)).map numV) k = becomeF k (if cellok k.rows (numV u0 : Nat) (numV u1 : Nat) = true ∧ numV u2 ≤ 99 then some (setR k.rows (numV u0) (numV u1) (numV u2 : Nat)) else none) := rfl
    rw [hdo]
    simp (disch := omega) only [go_sem, a1, e0, Int.reduceToNat, hw0, ng, t1, t2]
    refine QR_sch (some b8) (.st 0 (.st 1 (.st 2 (.st 3 (.st 4 (.st 5 (.st 6 (.st 7 (.st 8 (.st 9 (.st 10 (.ef 11 (.st 12 (.st 13 (.st 14 (.st 15 (.ef 16 (.st 17 (.done))))))))))))))))))) ke ke fun w0 x0 => ?_
    have X := gx8.trans (x0.grow _)
    simp (disch := omega) only [go_sem, (kx6.ext x0).cell, n0 x0, n1 x0, n2 x0, h8x, h8n, q0, q1, q2, Int.reduceToNat]
    refine callK_of ke (gridSetU_c _ _ _ _ _ (numV u0) (numV u1) (numV u2) _ (r6.ext x0) v) ?_
    rintro _ w7 ⟨y7, ga, gn, gcc, ok, rfl, hok, hyes⟩
    have k87 := (k8.ext x0).ext y7
    have x67 := x0.trans y7
    have s0 := x0.size
    refine nxE_of (y7.grow _) ?_
    have X := X.trans (y7.grow _)
    simp (disch := omega) only [go_sem, (kx6.ext x0).cell, n0 x0, n1 x0, n2 x0, h8x, h8n, q0, q1, q2, Int.reduceToNat]
    refine stK_blk siz_ii rf rf k87 sm fun w8 k88 g8 => ?_
    refine nxE_of (g8.grow) ?_
    have X := X.trans g8.grow
    skip
    have k88 : Blk w8 b8 #[.slice ga gn gcc, .slice la k.labs.length lc] 64 := by simpa using k88
    have kx8 := g8.blk (kx6.ext x67) hbx8
    have k48 := g8.blk (k46.ext x67) h48
    have s7 := x67.size
    cases ok with
    | false =>
     rw [if_neg (of_decide_eq_false hok.symm)]
     simp (disch := omega) only [go_sem, Bool.not_false, readCells_blk kx8 (n := 2) sm]
     refine stK_agg siz_lst sm oi k48 sm fun w9 k9 g9 => ?_
     simp (disch := omega) only [go_sem, readCells_blk k9 (n := 2) sm, Tryz.results36]
     have xw9 : Ext w w9 := g9.ext (g8.ext (xw6.trans x67) om) om
     exact ⟨_, rfl, ⟨a, A, Cp, gc, la, lc, rfl, r.ext xw9, l.ext xw9, hlc, hXs⟩, xw9⟩
    | true =>
     rw [if_pos (of_decide_eq_true hok.symm)]
     obtain ⟨rfl, A', Cp', r', fr'⟩ := hyes rfl
     have fr' := fr'.low s0
     simp (disch := omega) only [go_sem, Bool.not_true, readCells_blk k88 (n := 2) sm]
     refine stK_agg siz_lst sm oi k48 sm fun w9 k9 g9 => ?_
     simp (disch := omega) only [go_sem, readCells_blk k9 (n := 2) sm, Tryz.results36]
     have xw9 : Ext w w9 := g9.ext (g8.ext (xw6.trans x67) om) om
     exact ⟨_, rfl, ⟨ga, A', Cp', gcc, la, lc, rfl, rows_wrote (rows_wrote r' fr' g8 om) fr' g9 om, l.ext xw9, hlc, bs_rows hX6 fr' hXl⟩, xw9⟩
  ·have t2 : ((ws.length : Int) == 3) = false := by rw [beq_eq_false_iff_ne]; omega
   have t5 : (word == [116, 117, 114, 110]) = false := by rw [hse]; rfl
   have t6 : (word == [109, 105, 114, 114, 111, 114]) = false := by rw [hse]; rfl
   have t7 : (word == [105, 110, 118, 101, 114, 116]) = false := by rw [hse]; rfl
   have t8 : (word == [102, 105, 108, 108]) = false := by rw [hse]; rfl
   have t9 : (word == [110, 97, 109, 101]) = false := by rw [hse]; rfl
   by_cases hz : ws.length = 0
   ·have t3 : ((ws.length : Int) == 0) = true := by rw [hz]; rfl
    have hno : ∀ i, ordX word = some i → cntX i = ws.length → 5 ≤ i ∧ i ≠ 10 := fun i hi hci => by rw [hx] at hi; cases hi; exact (hc hci.symm).elim
    rw [lineF_ask hgn hsp hno]
    simp (disch := omega) only [go_sem, a1, e0, Int.reduceToNat, hw0, ng, t1, t2, t3, t5, t6, t7, t8, t9]
    refine QR_sch (some b4) (.st 0 (.st 1 (.st 2 (.ef 3 (.ef 4 (.st 5 (.done))))))) ke ke fun w0 x0 => ?_
    have X := gx4.trans (x0.grow _)
    simp (disch := omega) only [go_sem, readCells_blk (kx6.ext x0) (n := 2) sm, h4x]
    refine callK_of ke (l10Ask_c k hk word ws _ b cp _ (hst x0) (os6.ext x0) om hwl hno) ?_
    rintro _ w7 ⟨rfl, y7⟩
    have k47 := (k46.ext x0).ext y7
    refine nxE_of (y7.grow _) ?_
    have X := X.trans (y7.grow _)
    simp (disch := omega) only [go_sem, readCells_blk (kx6.ext x0) (n := 2) sm, h4x]
    refine stK_agg siz_lst sm oi k47 sm fun w9 k9 g9 => ?_
    refine nxE_of (g9.grow) ?_
    have X := X.trans g9.grow
    simp (disch := omega) only [go_sem, readCells_blk k9 (n := 2) sm, Tryz.results36]
    have xw9 : Ext w w9 := X.ext xw6 (fun b hb => by simp only [Option.some.injEq] at hb; omega)
    exact ⟨_, rfl, ⟨a, A, Cp, gc, la, lc, rfl, r.ext xw9, l.ext xw9, hlc, hXs⟩, xw9⟩
   ·have t3 : ((ws.length : Int) == 0) = false := by rw [beq_eq_false_iff_ne]; omega
    have hno : ∀ i, ordX word = some i → cntX i = ws.length → 5 ≤ i ∧ i ≠ 10 := fun i hi hci => by rw [hx] at hi; cases hi; exact (hc hci.symm).elim
    rw [lineF_ask hgn hsp hno]
    simp (disch := omega) only [go_sem, a1, e0, Int.reduceToNat, hw0, ng, t1, t2, t3, t9]
    refine QR_sch (some b4) (.st 0 (.st 1 (.st 2 (.ef 3 (.ef 4 (.st 5 (.done))))))) ke ke fun w0 x0 => ?_
    have X := gx4.trans (x0.grow _)
    simp (disch := omega) only [go_sem, readCells_blk (kx6.ext x0) (n := 2) sm, h4x]
    refine callK_of ke (l10Ask_c k hk word ws _ b cp _ (hst x0) (os6.ext x0) om hwl hno) ?_
    rintro _ w7 ⟨rfl, y7⟩
    have k47 := (k46.ext x0).ext y7
    refine nxE_of (y7.grow _) ?_
    have X := X.trans (y7.grow _)
    simp (disch := omega) only [go_sem, readCells_blk (kx6.ext x0) (n := 2) sm, h4x]
    refine stK_agg siz_lst sm oi k47 sm fun w9 k9 g9 => ?_
    refine nxE_of (g9.grow) ?_
    have X := X.trans g9.grow
    simp (disch := omega) only [go_sem, readCells_blk k9 (n := 2) sm, Tryz.results36]
    have xw9 : Ext w w9 := X.ext xw6 (fun b hb => by simp only [Option.some.injEq] at hb; omega)
    exact ⟨_, rfl, ⟨a, A, Cp, gc, la, lc, rfl, r.ext xw9, l.ext xw9, hlc, hXs⟩, xw9⟩
 have ns : (word == [115, 101, 116]) = false := by rw [beq_eq_false_iff_ne]; exact hse
 by_cases hch : ws.length = 0 ∧ ∃ i, 1 ≤ i ∧ i ≤ 4 ∧ ordX word = some i
 ·obtain ⟨hz, i, hi1, hi4, hx⟩ := hch
  have t3 : ((ws.length : Int) == 0) = true := by rw [hz]; rfl
  have hcx : cntX i = 0 := by
   have h4 : i = 1 ∨ i = 2 ∨ i = 3 ∨ i = 4 := om
   rcases h4 with rfl | rfl | rfl | rfl <;> rfl
  have hws : ws = [] := List.eq_nil_of_length_eq_zero hz
  rw [lineF_ord hgn hsp hx (by rw [hz, hcx]), show doF i (ws.map numV) k = doF i [] ⟨k.rows, k.labs⟩ from by rw [hws]; rfl]
  have hwd := ordX_word hx
  have hgood := doF_good hk i []
  have h4 : i = 1 ∨ i = 2 ∨ i = 3 ∨ i = 4 := om
  rcases h4 with rfl | rfl | rfl | rfl
  ·have t_turn : (word == [116, 117, 114, 110]) = true := by rw [hwd]; rfl
   simp (disch := omega) only [go_sem, a1, e0, Int.reduceToNat, hw0, ng, ns, t3, t_turn]
   refine QR_sch (some b8) (.st 0 (.st 1 (.st 2 (.st 3 (.st 4 (.ef 5 (.st 6 (.st 7 (.st 8 (.st 9 (.ef 10 (.st 11 (.done))))))))))))) ke ke fun w0 x0 => ?_
   have X := gx8.trans (x0.grow _)
   simp (disch := omega) only [go_sem, (kx6.ext x0).cell, hwc x0, e0, h8x, h8b, Int.reduceToNat]
   refine callK_of ke (l10Change_c _ ⟨hi1, hi4⟩ word hx a k.rows A Cp gc _ (r6.ext x0) v k.labs) ?_
   rintro _ w7 ⟨ga, gcc, A', Cp', rfl, r', y7, hlab, hout, fr'⟩
   have k87 := (k8.ext x0).ext y7
   have x67 := x0.trans y7
   have s0 := x0.size
   refine nxE_of (y7.grow _) ?_
   have X := X.trans (y7.grow _)
   simp (disch := omega) only [go_sem, (kx6.ext x0).cell, hwc x0, e0, h8x, h8b, Int.reduceToNat]
   refine stK_blk siz_ii rf rf k87 sm fun w8 k88 g8 => ?_
   refine nxE_of (g8.grow) ?_
   have X := X.trans g8.grow
   skip
   rw [hout]
   have hk2 := hlab
   have fr' := fr'.low s0
   have hdk : (doF 1 [] ⟨k.rows, k.labs⟩).1 = ⟨(doF 1 [] ⟨k.rows, k.labs⟩).1.rows, k.labs⟩ := dk_eta hlab
   rw [hdk]
   generalize (doF 1 [] ⟨k.rows, k.labs⟩).1.rows = rows' at *
   have k88 : Blk w8 b8 #[.slice ga rows'.length gcc, .slice la k.labs.length lc] 64 := by simpa using k88
   have k48 := g8.blk (k46.ext x67) h48
   have s7 := x67.size
   simp (disch := omega) only [go_sem, Bool.not_true, readCells_blk k88 (n := 2) sm]
   refine stK_agg siz_lst sm oi k48 sm fun w9 k9 g9 => ?_
   simp (disch := omega) only [go_sem, readCells_blk k9 (n := 2) sm, Tryz.results36]
   have xw9 : Ext w w9 := g9.ext (g8.ext (xw6.trans x67) om) om
   exact ⟨_, rfl, ⟨ga, A', Cp', gcc, la, lc, rfl, rows_wrote (rows_wrote r' fr' g8 om) fr' g9 om, l.ext xw9, hlc, bs_rows hX6 fr' hXl⟩, xw9⟩
  ·have t_turn : (word == [116, 117, 114, 110]) = false := by rw [hwd]; rfl
   have t_mirror : (word == [109, 105, 114, 114, 111, 114]) = true := by rw [hwd]; rfl
   simp (disch := omega) only [go_sem, a1, e0, Int.reduceToNat, hw0, ng, ns, t3, t_turn, t_mirror]
   refine QR_sch (some b8) (.st 0 (.st 1 (.st 2 (.st 3 (.st 4 (.ef 5 (.st 6 (.st 7 (.st 8 (.st 9 (.ef 10 (.st 11 (.done))))))))))))) ke ke fun w0 x0 => ?_
   have X := gx8.trans (x0.grow _)
   simp (disch := omega) only [go_sem, (kx6.ext x0).cell, hwc x0, e0, h8x, h8b, Int.reduceToNat]
   refine callK_of ke (l10Change_c _ ⟨hi1, hi4⟩ word hx a k.rows A Cp gc _ (r6.ext x0) v k.labs) ?_
   rintro _ w7 ⟨ga, gcc, A', Cp', rfl, r', y7, hlab, hout, fr'⟩
   have k87 := (k8.ext x0).ext y7
   have x67 := x0.trans y7
   have s0 := x0.size
   refine nxE_of (y7.grow _) ?_
   have X := X.trans (y7.grow _)
   simp (disch := omega) only [go_sem, (kx6.ext x0).cell, hwc x0, e0, h8x, h8b, Int.reduceToNat]
   refine stK_blk siz_ii rf rf k87 sm fun w8 k88 g8 => ?_
   refine nxE_of (g8.grow) ?_
   have X := X.trans g8.grow
   skip
   rw [hout]
   have hk2 := hlab
   have fr' := fr'.low s0
   have hdk : (doF 2 [] ⟨k.rows, k.labs⟩).1 = ⟨(doF 2 [] ⟨k.rows, k.labs⟩).1.rows, k.labs⟩ := dk_eta hlab
   rw [hdk]
   generalize (doF 2 [] ⟨k.rows, k.labs⟩).1.rows = rows' at *
   have k88 : Blk w8 b8 #[.slice ga rows'.length gcc, .slice la k.labs.length lc] 64 := by simpa using k88
   have k48 := g8.blk (k46.ext x67) h48
   have s7 := x67.size
   simp (disch := omega) only [go_sem, Bool.not_true, readCells_blk k88 (n := 2) sm]
   refine stK_agg siz_lst sm oi k48 sm fun w9 k9 g9 => ?_
   simp (disch := omega) only [go_sem, readCells_blk k9 (n := 2) sm, Tryz.results36]
   have xw9 : Ext w w9 := g9.ext (g8.ext (xw6.trans x67) om) om
   exact ⟨_, rfl, ⟨ga, A', Cp', gcc, la, lc, rfl, rows_wrote (rows_wrote r' fr' g8 om) fr' g9 om, l.ext xw9, hlc, bs_rows hX6 fr' hXl⟩, xw9⟩
  ·have t_turn : (word == [116, 117, 114, 110]) = false := by rw [hwd]; rfl
   have t_mirror : (word == [109, 105, 114, 114, 111, 114]) = false := by rw [hwd]; rfl
   have t_invert : (word == [105, 110, 118, 101, 114, 116]) = true := by rw [hwd]; rfl
   simp (disch := omega) only [go_sem, a1, e0, Int.reduceToNat, hw0, ng, ns, t3, t_turn, t_mirror, t_invert]
   refine QR_sch (some b8) (.st 0 (.st 1 (.st 2 (.st 3 (.st 4 (.ef 5 (.st 6 (.st 7 (.st 8 (.st 9 (.ef 10 (.st 11 (.done))))))))))))) ke ke fun w0 x0 => ?_
   have X := gx8.trans (x0.grow _)
   simp (disch := omega) only [go_sem, (kx6.ext x0).cell, hwc x0, e0, h8x, h8b, Int.reduceToNat]
   refine callK_of ke (l10Change_c _ ⟨hi1, hi4⟩ word hx a k.rows A Cp gc _ (r6.ext x0) v k.labs) ?_
   rintro _ w7 ⟨ga, gcc, A', Cp', rfl, r', y7, hlab, hout, fr'⟩
   have k87 := (k8.ext x0).ext y7
   have x67 := x0.trans y7
   have s0 := x0.size
   refine nxE_of (y7.grow _) ?_
   have X := X.trans (y7.grow _)
   simp (disch := omega) only [go_sem, (kx6.ext x0).cell, hwc x0, e0, h8x, h8b, Int.reduceToNat]
   refine stK_blk siz_ii rf rf k87 sm fun w8 k88 g8 => ?_
   refine nxE_of (g8.grow) ?_
   have X := X.trans g8.grow
   skip
   rw [hout]
   have hk2 := hlab
   have fr' := fr'.low s0
   have hdk : (doF 3 [] ⟨k.rows, k.labs⟩).1 = ⟨(doF 3 [] ⟨k.rows, k.labs⟩).1.rows, k.labs⟩ := dk_eta hlab
   rw [hdk]
   generalize (doF 3 [] ⟨k.rows, k.labs⟩).1.rows = rows' at *
   have k88 : Blk w8 b8 #[.slice ga rows'.length gcc, .slice la k.labs.length lc] 64 := by simpa using k88
   have k48 := g8.blk (k46.ext x67) h48
   have s7 := x67.size
   simp (disch := omega) only [go_sem, Bool.not_true, readCells_blk k88 (n := 2) sm]
   refine stK_agg siz_lst sm oi k48 sm fun w9 k9 g9 => ?_
   simp (disch := omega) only [go_sem, readCells_blk k9 (n := 2) sm, Tryz.results36]
   have xw9 : Ext w w9 := g9.ext (g8.ext (xw6.trans x67) om) om
   exact ⟨_, rfl, ⟨ga, A', Cp', gcc, la, lc, rfl, rows_wrote (rows_wrote r' fr' g8 om) fr' g9 om, l.ext xw9, hlc, bs_rows hX6 fr' hXl⟩, xw9⟩
  ·have t_turn : (word == [116, 117, 114, 110]) = false := by rw [hwd]; rfl
   have t_mirror : (word == [109, 105, 114, 114, 111, 114]) = false := by rw [hwd]; rfl
   have t_invert : (word == [105, 110, 118, 101, 114, 116]) = false := by rw [hwd]; rfl
   have t_fill : (word == [102, 105, 108, 108]) = true := by rw [hwd]; rfl
   simp (disch := omega) only [go_sem, a1, e0, Int.reduceToNat, hw0, ng, ns, t3, t_turn, t_mirror, t_invert, t_fill]
   refine QR_sch (some b8) (.st 0 (.st 1 (.st 2 (.st 3 (.st 4 (.ef 5 (.st 6 (.st 7 (.st 8 (.st 9 (.ef 10 (.st 11 (.done))))))))))))) ke ke fun w0 x0 => ?_
   have X := gx8.trans (x0.grow _)
   simp (disch := omega) only [go_sem, (kx6.ext x0).cell, hwc x0, e0, h8x, h8b, Int.reduceToNat]
   refine callK_of ke (l10Change_c _ ⟨hi1, hi4⟩ word hx a k.rows A Cp gc _ (r6.ext x0) v k.labs) ?_
   rintro _ w7 ⟨ga, gcc, A', Cp', rfl, r', y7, hlab, hout, fr'⟩
   have k87 := (k8.ext x0).ext y7
   have x67 := x0.trans y7
   have s0 := x0.size
   refine nxE_of (y7.grow _) ?_
   have X := X.trans (y7.grow _)
   simp (disch := omega) only [go_sem, (kx6.ext x0).cell, hwc x0, e0, h8x, h8b, Int.reduceToNat]
   refine stK_blk siz_ii rf rf k87 sm fun w8 k88 g8 => ?_
   refine nxE_of (g8.grow) ?_
   have X := X.trans g8.grow
   skip
   rw [hout]
   have hk2 := hlab
   have fr' := fr'.low s0
   have hdk : (doF 4 [] ⟨k.rows, k.labs⟩).1 = ⟨(doF 4 [] ⟨k.rows, k.labs⟩).1.rows, k.labs⟩ := dk_eta hlab
   rw [hdk]
   generalize (doF 4 [] ⟨k.rows, k.labs⟩).1.rows = rows' at *
   have k88 : Blk w8 b8 #[.slice ga rows'.length gcc, .slice la k.labs.length lc] 64 := by simpa using k88
   have k48 := g8.blk (k46.ext x67) h48
   have s7 := x67.size
   simp (disch := omega) only [go_sem, Bool.not_true, readCells_blk k88 (n := 2) sm]
   refine stK_agg siz_lst sm oi k48 sm fun w9 k9 g9 => ?_
   simp (disch := omega) only [go_sem, readCells_blk k9 (n := 2) sm, Tryz.results36]
   have xw9 : Ext w w9 := g9.ext (g8.ext (xw6.trans x67) om) om
   exact ⟨_, rfl, ⟨ga, A', Cp', gcc, la, lc, rfl, rows_wrote (rows_wrote r' fr' g8 om) fr' g9 om, l.ext xw9, hlc, bs_rows hX6 fr' hXl⟩, xw9⟩
 have hnch : ∀ i, ordX word = some i → cntX i = ws.length → ¬ (1 ≤ i ∧ i ≤ 4) := fun i hi hci h => hch ⟨by
  have h4 : i = 1 ∨ i = 2 ∨ i = 3 ∨ i = 4 := om
  rcases h4 with rfl | rfl | rfl | rfl <;> exact hci.symm, i, h.1, h.2, hi⟩
 have hn4 : ws.length = 0 → word ≠ [116, 117, 114, 110] ∧ word ≠ [109, 105, 114, 114, 111, 114] ∧ word ≠ [105, 110, 118, 101, 114, 116] ∧ word ≠ [102, 105, 108, 108] := fun hz =>
  ⟨fun e => hnch 1 (by rw [e]; rfl) (by rw [hz]; rfl) ⟨om, om⟩, fun e => hnch 2 (by rw [e]; rfl) (by rw [hz]; rfl) ⟨om, om⟩, fun e => hnch 3 (by rw [e]; rfl) (by rw [hz]; rfl) ⟨om, om⟩, fun e => hnch 4 (by rw [e]; rfl) (by rw [hz]; rfl) ⟨om, om⟩⟩
 by_cases hna : word = [110, 97, 109, 101] ∧ ws.length = 4
 ·obtain ⟨hnw, hc⟩ := hna
  have hx : ordX word = some 10 := by rw [hnw]; rfl
  have t1 : (word == [110, 97, 109, 101]) = true := by rw [hnw]; rfl
  have t2 : ((ws.length : Int) == 4) = true := by rw [hc]; rfl
  have t3 : ((ws.length : Int) == 0) = false := by rw [hc]; rfl
  rw [lineF_ord hgn hsp hx hc]
  match ws, hc with
  | [u0, u1, u2, u3], _ =>
   have n0 : ∀ {W : World}, Ext w6 W → W.cell? ⟨nb, 0, none⟩ = some (.int .i64 (numV u0 : Nat)) := fun x => by simpa using (on6.ints.ext x).cell nb 0 rfl 0 sm
   have n1 : ∀ {W : World}, Ext w6 W → W.cell? ⟨nb, 1, none⟩ = some (.int .i64 (numV u1 : Nat)) := fun x => by simpa using (on6.ints.ext x).cell nb 0 rfl 1 sm
   have n2 : ∀ {W : World}, Ext w6 W → W.cell? ⟨nb, 2, none⟩ = some (.int .i64 (numV u2 : Nat)) := fun x => by simpa using (on6.ints.ext x).cell nb 0 rfl 2 sm
   have n3 : ∀ {W : World}, Ext w6 W → W.cell? ⟨nb, 3, none⟩ = some (.int .i64 (numV u3 : Nat)) := fun x => by simpa using (on6.ints.ext x).cell nb 0 rfl 3 sm
   have q0 : (0 : Int) < (([u0, u1, u2, u3] : List (List UInt8)).length : Nat) := by simp
   have q1 : (1 : Int) < (([u0, u1, u2, u3] : List (List UInt8)).length : Nat) := by simp
   have q2 : (2 : Int) < (([u0, u1, u2, u3] : List (List UInt8)).length : Nat) := by simp
   have q3 : (3 : Int) < (([u0, u1, u2, u3] : List (List UInt8)).length : Nat) := by simp
   have v0 := numV_le u0
   have v1 := numV_le u1
   have v2 := numV_le u2
   have v3 := numV_le u3
   have hdo : doF 10 (([u0, u1, u2, u3] : List (List UInt8)).map numV) k = if LVal (k.labs ++ [⟨(numV u0 : Nat), (numV u1 : Nat), (numV u2 : Nat), (numV u3 : Nat)⟩]) then (⟨k.rows, k.labs ++ [⟨(numV u0 : Nat), (numV u1 : Nat), (numV u2 : Nat), (numV u3 : Nat)⟩]⟩, okT) else (k, noT) := rfl
   rw [hdo]
   simp (disch := omega) only [go_sem, a1, e0, Int.reduceToNat, hw0, ng, ns, t1, t2, t3]
   obtain ⟨s, hS⟩ : ∃ s : Lb, s = ⟨(numV u0 : Nat), (numV u1 : Nat), (numV u2 : Nat), (numV u3 : Nat)⟩ := ⟨_, rfl⟩
   have sx : (((numV u0 : Nat)) : Int) = s.x := by rw [hS]
   have sy : (((numV u1 : Nat)) : Int) = s.y := by rw [hS]
   have sw : (((numV u2 : Nat)) : Int) = s.w := by rw [hS]
   have sv : (((numV u3 : Nat)) : Int) = s.v := by rw [hS]
   rw [sx] at n0
   rw [sy] at n1
   rw [sw] at n2
   rw [sv] at n3
   rw [← hS]
   clear sx sy sw sv
   have l6s := l6.short
   refine QR_cut (fun f V => f 2 = .pointer (some ⟨bx, 0, none⟩) ∧ f 4 = .pointer (some ⟨b4, 0, none⟩) ∧ f 8 = .pointer (some ⟨b8, 0, none⟩) ∧ ∃ a7 c7, Blk V b8 #[.slice a k.rows.length gc, .slice a7 (k.labs ++ [s]).length c7] 64 ∧ LabS V a7 (k.labs ++ [s]) ∧ (k.labs ++ [s]).length ≤ c7 ∧ Grow (some b8) w6 V ∧ ∀ b, blk a7 = some b → w6.heap.size ≤ b) (fun f V ⟨a2, a4, a8, a7, c7, k8V, lV, hc7, gV, hb7⟩ => ?_) ?_
   rotate_left
   ·skip
    refine Go.SWP.QR_sch (fun j => j = b8 ∨ w6.heap.size ≤ j) (.st 1 (.st 2 (.st 4 (.st 5 (.st 6 (.st 7 (.st 8 (.st 9 (.st 10 (.st 11 (.st 12 (.st 13 (.st 14 (.st 15 (.st 16 (.alt (.ef 0 (.alt (.ef 3 (.ef 17 (.ef 18 (.st 19 (.fin 20 (.done)))))) (.ef 17 (.ef 3 (.ef 18 (.st 19 (.fin 20 (.done)))))))) (.ef 17 (.ef 0 (.ef 3 (.ef 18 (.st 19 (.fin 20 (.done))))))))))))))))))))))) ke ke fun w0 x0 => ?_
    have sz := x0.size
    have X := ex6.trans x0
    have sz := x0.size
    try simp (disch := first | assumption | omega) only [go_sem, ldS_or, (kx6.ext x0).cell, n0 x0, n1 x0, n2 x0, n3 x0, hbx8, hnb8, q0, q1, q2, q3, Int.reduceToNat]
    refine Go.SWP.RLT_alt ?_ ?_
    ·try simp (disch := first | assumption | omega) only [go_sem, ldS_or, (kx6.ext x0).cell, n0 x0, n1 x0, n2 x0, n3 x0, hbx8, hnb8, q0, q1, q2, q3, Int.reduceToNat]
     refine bslK_0 elt_L fun v4 b0 eb0 y1 o4 s40 => ?_
     have hb0 : w6.heap.size ≤ b0 := by have := X.size; omega
     refine Go.SWP.nxE_of (y1.growP _) ?_
     have sz := y1.size
     have X := X.trans y1
     try simp (disch := first | assumption | omega) only [go_sem, ldS_or, (kx6.ext x0).cell, n0 x0, n1 x0, n2 x0, n3 x0, hbx8, hnb8, q0, q1, q2, q3, Int.reduceToNat]
     refine Go.SWP.RLT_alt ?_ ?_
     ·try simp (disch := first | assumption | omega) only [go_sem, ldS_or, (kx6.ext x0).cell, n0 x0, n1 x0, n2 x0, n3 x0, hbx8, hnb8, q0, q1, q2, q3, Int.reduceToNat]
      refine appK_L (L := []) elt_L om (show OwnS _ 41 4 (some ⟨b0, 0, none⟩) ([] : List Lb).length 0 (lcl []) by simpa [lcl] using o4) lc (l6.ext X) sm fun v5 a5 c5 o5 g5 h5 => ?_
      rw [List.nil_append] at o5
      have hb5 : ∀ b, blk a5 = some b → w6.heap.size ≤ b := fun b hb => (h5 b hb).elim (fun h => by simp only [blk_some, Option.some.injEq] at h; omega) (fun h => by have := X.size; omega)
      have X := g5.ext X (fun b hb => by simp only [blk_some, Option.some.injEq] at hb; omega)
      try have o17 := o17.grow g5 (fun b hb e => by simp only [blk_some, Option.some.injEq] at hb e; omega)
      refine Go.SWP.nxE_of ((g5.growP fun b hb => by simp only [blk_some, Option.some.injEq] at hb; exact Or.inr om)) ?_
      try simp (disch := first | assumption | omega) only [go_sem, ldS_or, (kx6.ext x0).cell, n0 x0, n1 x0, n2 x0, n3 x0, hbx8, hnb8, q0, q1, q2, q3, Int.reduceToNat]
      refine bslK_L (s := s) elt_L fun v6 b17 e17 y1 o17 s17 => ?_
      refine Go.SWP.nxE_of (y1.growP _) ?_
      have sz := y1.size
      have X := X.trans y1
      have o5 := o5.ext y1
      try simp (disch := first | assumption | omega) only [go_sem, ldS_or, (kx6.ext x0).cell, n0 x0, n1 x0, n2 x0, n3 x0, hbx8, hnb8, q0, q1, q2, q3, Int.reduceToNat]
      refine appK_L (M := [s]) elt_L om o5 1 (OwnS.labs (L := [s]) o17 sm) om fun v7 a7 c7 o7 g7 h7 => ?_
      have hb7 : ∀ b, blk a7 = some b → w6.heap.size ≤ b := fun b hb => (h7 b hb).elim (hb5 b) (fun h => by have := X.size; omega)
      have X := g7.ext X hb5
      refine Go.SWP.nxE_of ((g7.growP fun b hb => Or.inr (hb5 b hb))) ?_
      try simp (disch := first | assumption | omega) only [go_sem, ldS_or, (kx6.ext x0).cell, n0 x0, n1 x0, n2 x0, n3 x0, hbx8, hnb8, q0, q1, q2, q3, Int.reduceToNat]
      refine stK_blk siz_L rf rf (k8.ext X) sm fun v8 k88 g8 => ?_
      simp (disch := omega) only [go_sem]
      exact ⟨uu, uu, uu, a7, c7, by simpa using k88, (o7.labs sq).grow g8.grow (fun b hb e => by have := hb7 b hb; cases e; omega), o7.le_cap, (X.grow _).trans g8.grow, hb7⟩
     ·try simp (disch := first | assumption | omega) only [go_sem, ldS_or, (kx6.ext x0).cell, n0 x0, n1 x0, n2 x0, n3 x0, hbx8, hnb8, q0, q1, q2, q3, Int.reduceToNat]
      refine bslK_L (s := s) elt_L fun v6 b17 e17 y1 o17 s17 => ?_
      refine Go.SWP.nxE_of (y1.growP _) ?_
      have sz := y1.size
      have X := X.trans y1
      have o4 := o4.ext y1
      try simp (disch := first | assumption | omega) only [go_sem, ldS_or, (kx6.ext x0).cell, n0 x0, n1 x0, n2 x0, n3 x0, hbx8, hnb8, q0, q1, q2, q3, Int.reduceToNat]
      refine appK_L (L := []) elt_L om (show OwnS _ 41 4 (some ⟨b0, 0, none⟩) ([] : List Lb).length 0 (lcl []) by simpa [lcl] using o4) lc (l6.ext X) sm fun v5 a5 c5 o5 g5 h5 => ?_
      rw [List.nil_append] at o5
      have hb5 : ∀ b, blk a5 = some b → w6.heap.size ≤ b := fun b hb => (h5 b hb).elim (fun h => by simp only [blk_some, Option.some.injEq] at h; omega) (fun h => by have := X.size; omega)
      have X := g5.ext X (fun b hb => by simp only [blk_some, Option.some.injEq] at hb; omega)
      try have o17 := o17.grow g5 (fun b hb e => by simp only [blk_some, Option.some.injEq] at hb e; omega)
      refine Go.SWP.nxE_of ((g5.growP fun b hb => by simp only [blk_some, Option.some.injEq] at hb; exact Or.inr om)) ?_
      try simp (disch := first | assumption | omega) only [go_sem, ldS_or, (kx6.ext x0).cell, n0 x0, n1 x0, n2 x0, n3 x0, hbx8, hnb8, q0, q1, q2, q3, Int.reduceToNat]
      refine appK_L (M := [s]) elt_L om o5 1 (OwnS.labs (L := [s]) o17 sm) om fun v7 a7 c7 o7 g7 h7 => ?_
      have hb7 : ∀ b, blk a7 = some b → w6.heap.size ≤ b := fun b hb => (h7 b hb).elim (hb5 b) (fun h => by have := X.size; omega)
      have X := g7.ext X hb5
      refine Go.SWP.nxE_of ((g7.growP fun b hb => Or.inr (hb5 b hb))) ?_
      try simp (disch := first | assumption | omega) only [go_sem, ldS_or, (kx6.ext x0).cell, n0 x0, n1 x0, n2 x0, n3 x0, hbx8, hnb8, q0, q1, q2, q3, Int.reduceToNat]
      refine stK_blk siz_L rf rf (k8.ext X) sm fun v8 k88 g8 => ?_
      simp (disch := omega) only [go_sem]
      exact ⟨uu, uu, uu, a7, c7, by simpa using k88, (o7.labs sq).grow g8.grow (fun b hb e => by have := hb7 b hb; cases e; omega), o7.le_cap, (X.grow _).trans g8.grow, hb7⟩
    ·try simp (disch := first | assumption | omega) only [go_sem, ldS_or, (kx6.ext x0).cell, n0 x0, n1 x0, n2 x0, n3 x0, hbx8, hnb8, q0, q1, q2, q3, Int.reduceToNat]
     refine bslK_L (s := s) elt_L fun v6 b17 e17 y1 o17 s17 => ?_
     refine Go.SWP.nxE_of (y1.growP _) ?_
     have sz := y1.size
     have X := X.trans y1
     try simp (disch := first | assumption | omega) only [go_sem, ldS_or, (kx6.ext x0).cell, n0 x0, n1 x0, n2 x0, n3 x0, hbx8, hnb8, q0, q1, q2, q3, Int.reduceToNat]
     refine bslK_0 elt_L fun v4 b0 eb0 y1 o4 s40 => ?_
     have hb0 : w6.heap.size ≤ b0 := by have := X.size; omega
     refine Go.SWP.nxE_of (y1.growP _) ?_
     have sz := y1.size
     have X := X.trans y1
     have o17 := o17.ext y1
     try simp (disch := first | assumption | omega) only [go_sem, ldS_or, (kx6.ext x0).cell, n0 x0, n1 x0, n2 x0, n3 x0, hbx8, hnb8, q0, q1, q2, q3, Int.reduceToNat]
     refine appK_L (L := []) elt_L om (show OwnS _ 41 4 (some ⟨b0, 0, none⟩) ([] : List Lb).length 0 (lcl []) by simpa [lcl] using o4) lc (l6.ext X) sm fun v5 a5 c5 o5 g5 h5 => ?_
     rw [List.nil_append] at o5
     have hb5 : ∀ b, blk a5 = some b → w6.heap.size ≤ b := fun b hb => (h5 b hb).elim (fun h => by simp only [blk_some, Option.some.injEq] at h; omega) (fun h => by have := X.size; omega)
     have X := g5.ext X (fun b hb => by simp only [blk_some, Option.some.injEq] at hb; omega)
     try have o17 := o17.grow g5 (fun b hb e => by simp only [blk_some, Option.some.injEq] at hb e; omega)
     refine Go.SWP.nxE_of ((g5.growP fun b hb => by simp only [blk_some, Option.some.injEq] at hb; exact Or.inr om)) ?_
     try simp (disch := first | assumption | omega) only [go_sem, ldS_or, (kx6.ext x0).cell, n0 x0, n1 x0, n2 x0, n3 x0, hbx8, hnb8, q0, q1, q2, q3, Int.reduceToNat]
     refine appK_L (M := [s]) elt_L om o5 1 (OwnS.labs (L := [s]) o17 sm) om fun v7 a7 c7 o7 g7 h7 => ?_
     have hb7 : ∀ b, blk a7 = some b → w6.heap.size ≤ b := fun b hb => (h7 b hb).elim (hb5 b) (fun h => by have := X.size; omega)
     have X := g7.ext X hb5
     refine Go.SWP.nxE_of ((g7.growP fun b hb => Or.inr (hb5 b hb))) ?_
     try simp (disch := first | assumption | omega) only [go_sem, ldS_or, (kx6.ext x0).cell, n0 x0, n1 x0, n2 x0, n3 x0, hbx8, hnb8, q0, q1, q2, q3, Int.reduceToNat]
     refine stK_blk siz_L rf rf (k8.ext X) sm fun v8 k88 g8 => ?_
     simp (disch := omega) only [go_sem]
     exact ⟨uu, uu, uu, a7, c7, by simpa using k88, (o7.labs sq).grow g8.grow (fun b hb e => by have := hb7 b hb; cases e; omega), o7.le_cap, (X.grow _).trans g8.grow, hb7⟩
   have hlen : (k.labs ++ [s]).length = k.labs.length + 1 := by simp
   generalize hLL : k.labs ++ [s] = LL at *
   simp (disch := omega) only [go_sem, a8, k8V.cell]
   have hcall := specLabelsValid_c a7 LL c7 V lV hc7
   refine callK_pure ke (hcall) fun w7 x7 => ?_
   have k87 := k8V.ext x7
   have kx7 := (gV.blk kx6 sq).ext x7
   have k47 := (gV.blk k46 sq).ext x7
   have g67 : Grow (some b8) w6 w7 := gV.trans (x7.grow _)
   have sV := gV.size
   have s7 := x7.size
   cases hlv : lvalid LL with
   | false =>
    have hno : ¬ LVal LL := fun h => by rw [lvalid_iff.2 h] at hlv; cases hlv
    rw [if_neg hno]
    simp (disch := omega) only [go_sem, a2, a4, a8, Bool.not_false, readCells_blk kx7 (n := 2) sm]
    refine stK_agg siz_lst sm oi k47 sm fun w9 k9 g9 => ?_
    simp (disch := omega) only [go_sem, a4, readCells_blk k9 (n := 2) sm, Tryz.results36]
    have xw9 : Ext w w9 := g9.ext (g67.ext xw6 (fun b hb => by simp only [Option.some.injEq] at hb; omega)) om
    exact ⟨_, rfl, ⟨a, A, Cp, gc, la, lc, rfl, r.ext xw9, l.ext xw9, hlc, hXs⟩, xw9⟩
   | true =>
    rw [if_pos (lvalid_iff.1 hlv)]
    simp (disch := omega) only [go_sem, a2, a4, a8, Bool.not_true, readCells_blk k87 (n := 2) sm]
    refine stK_agg siz_lst sm oi k47 sm fun w9 k9 g9 => ?_
    simp (disch := omega) only [go_sem, a4, readCells_blk k9 (n := 2) sm, Tryz.results36]
    have xw9 : Ext w w9 := g9.ext (g67.ext xw6 (fun b hb => by simp only [Option.some.injEq] at hb; omega)) om
    exact ⟨_, rfl, ⟨a, A, Cp, gc, a7, c7, rfl, r.ext xw9, (lV.ext x7).grow g9.grow (fun b hb e => by have := hb7 b hb; cases e; omega), hc7, bs_labs hX6 hXs hb7⟩, xw9⟩
 have hno0 : ∀ i, ordX word = some i → cntX i = ws.length → 5 ≤ i ∧ i ≠ 10 := fun i hi hci => by
  have h1 := hnch i hi hci
  have h2 : i ≠ 0 := fun e => by subst e; exact hse (ordX_word hi)
  refine ⟨om, fun e => ?_⟩
  subst e
  exact hna ⟨ordX_word hi, hci.symm⟩
 by_cases hnw : word = [110, 97, 109, 101]
 ·have hc : ws.length ≠ 4 := fun e => hna ⟨hnw, e⟩
  have t1 : (word == [110, 97, 109, 101]) = true := by rw [hnw]; rfl
  have t2 : ((ws.length : Int) == 4) = false := by rw [beq_eq_false_iff_ne]; omega
  by_cases hz : ws.length = 0
  ·have t3 : ((ws.length : Int) == 0) = true := by rw [hz]; rfl
   have t5 : (word == [116, 117, 114, 110]) = false := by rw [hnw]; rfl
   have t6 : (word == [109, 105, 114, 114, 111, 114]) = false := by rw [hnw]; rfl
   have t7 : (word == [105, 110, 118, 101, 114, 116]) = false := by rw [hnw]; rfl
   have t8 : (word == [102, 105, 108, 108]) = false := by rw [hnw]; rfl
   have hno : ∀ i, ordX word = some i → cntX i = ws.length → 5 ≤ i ∧ i ≠ 10 := hno0
   rw [lineF_ask hgn hsp hno]
   simp (disch := omega) only [go_sem, a1, e0, Int.reduceToNat, hw0, ng, ns, t1, t2, t3, t5, t6, t7, t8]
   refine QR_sch (some b4) (.st 0 (.st 1 (.st 2 (.ef 3 (.ef 4 (.st 5 (.done))))))) ke ke fun w0 x0 => ?_
   have X := gx4.trans (x0.grow _)
   simp (disch := omega) only [go_sem, readCells_blk (kx6.ext x0) (n := 2) sm, h4x]
   refine callK_of ke (l10Ask_c k hk word ws _ b cp _ (hst x0) (os6.ext x0) om hwl hno) ?_
   rintro _ w7 ⟨rfl, y7⟩
   have k47 := (k46.ext x0).ext y7
   refine nxE_of (y7.grow _) ?_
   have X := X.trans (y7.grow _)
   simp (disch := omega) only [go_sem, readCells_blk (kx6.ext x0) (n := 2) sm, h4x]
   refine stK_agg siz_lst sm oi k47 sm fun w9 k9 g9 => ?_
   refine nxE_of (g9.grow) ?_
   have X := X.trans g9.grow
   simp (disch := omega) only [go_sem, readCells_blk k9 (n := 2) sm, Tryz.results36]
   have xw9 : Ext w w9 := X.ext xw6 (fun b hb => by simp only [Option.some.injEq] at hb; omega)
   exact ⟨_, rfl, ⟨a, A, Cp, gc, la, lc, rfl, r.ext xw9, l.ext xw9, hlc, hXs⟩, xw9⟩
  ·have t3 : ((ws.length : Int) == 0) = false := by rw [beq_eq_false_iff_ne]; omega
   have hno : ∀ i, ordX word = some i → cntX i = ws.length → 5 ≤ i ∧ i ≠ 10 := hno0
   rw [lineF_ask hgn hsp hno]
   simp (disch := omega) only [go_sem, a1, e0, Int.reduceToNat, hw0, ng, ns, t1, t2, t3]
   refine QR_sch (some b4) (.st 0 (.st 1 (.st 2 (.ef 3 (.ef 4 (.st 5 (.done))))))) ke ke fun w0 x0 => ?_
   have X := gx4.trans (x0.grow _)
   simp (disch := omega) only [go_sem, readCells_blk (kx6.ext x0) (n := 2) sm, h4x]
   refine callK_of ke (l10Ask_c k hk word ws _ b cp _ (hst x0) (os6.ext x0) om hwl hno) ?_
   rintro _ w7 ⟨rfl, y7⟩
   have k47 := (k46.ext x0).ext y7
   refine nxE_of (y7.grow _) ?_
   have X := X.trans (y7.grow _)
   simp (disch := omega) only [go_sem, readCells_blk (kx6.ext x0) (n := 2) sm, h4x]
   refine stK_agg siz_lst sm oi k47 sm fun w9 k9 g9 => ?_
   refine nxE_of (g9.grow) ?_
   have X := X.trans g9.grow
   simp (disch := omega) only [go_sem, readCells_blk k9 (n := 2) sm, Tryz.results36]
   have xw9 : Ext w w9 := X.ext xw6 (fun b hb => by simp only [Option.some.injEq] at hb; omega)
   exact ⟨_, rfl, ⟨a, A, Cp, gc, la, lc, rfl, r.ext xw9, l.ext xw9, hlc, hXs⟩, xw9⟩
 have t1 : (word == [110, 97, 109, 101]) = false := by rw [beq_eq_false_iff_ne]; exact hnw
 by_cases hz : ws.length = 0
 ·obtain ⟨z1, z2, z3, z4⟩ := hn4 hz
  have t3 : ((ws.length : Int) == 0) = true := by rw [hz]; rfl
  have t5 : (word == [116, 117, 114, 110]) = false := by rw [beq_eq_false_iff_ne]; exact z1
  have t6 : (word == [109, 105, 114, 114, 111, 114]) = false := by rw [beq_eq_false_iff_ne]; exact z2
  have t7 : (word == [105, 110, 118, 101, 114, 116]) = false := by rw [beq_eq_false_iff_ne]; exact z3
  have t8 : (word == [102, 105, 108, 108]) = false := by rw [beq_eq_false_iff_ne]; exact z4
  have hno : ∀ i, ordX word = some i → cntX i = ws.length → 5 ≤ i ∧ i ≠ 10 := hno0
  rw [lineF_ask hgn hsp hno]
  simp (disch := omega) only [go_sem, a1, e0, Int.reduceToNat, hw0, ng, ns, t1, t3, t5, t6, t7, t8]
  refine QR_sch (some b4) (.st 0 (.st 1 (.st 2 (.ef 3 (.ef 4 (.st 5 (.done))))))) ke ke fun w0 x0 => ?_
  have X := gx4.trans (x0.grow _)
  simp (disch := omega) only [go_sem, readCells_blk (kx6.ext x0) (n := 2) sm, h4x]
  refine callK_of ke (l10Ask_c k hk word ws _ b cp _ (hst x0) (os6.ext x0) om hwl hno) ?_
  rintro _ w7 ⟨rfl, y7⟩
  have k47 := (k46.ext x0).ext y7
  refine nxE_of (y7.grow _) ?_
  have X := X.trans (y7.grow _)
  simp (disch := omega) only [go_sem, readCells_blk (kx6.ext x0) (n := 2) sm, h4x]
  refine stK_agg siz_lst sm oi k47 sm fun w9 k9 g9 => ?_
  refine nxE_of (g9.grow) ?_
  have X := X.trans g9.grow
  simp (disch := omega) only [go_sem, readCells_blk k9 (n := 2) sm, Tryz.results36]
  have xw9 : Ext w w9 := X.ext xw6 (fun b hb => by simp only [Option.some.injEq] at hb; omega)
  exact ⟨_, rfl, ⟨a, A, Cp, gc, la, lc, rfl, r.ext xw9, l.ext xw9, hlc, hXs⟩, xw9⟩
 ·have t3 : ((ws.length : Int) == 0) = false := by rw [beq_eq_false_iff_ne]; omega
  have hno : ∀ i, ordX word = some i → cntX i = ws.length → 5 ≤ i ∧ i ≠ 10 := hno0
  rw [lineF_ask hgn hsp hno]
  simp (disch := omega) only [go_sem, a1, e0, Int.reduceToNat, hw0, ng, ns, t1, t3]
  refine QR_sch (some b4) (.st 0 (.st 1 (.st 2 (.ef 3 (.ef 4 (.st 5 (.done))))))) ke ke fun w0 x0 => ?_
  have X := gx4.trans (x0.grow _)
  simp (disch := omega) only [go_sem, readCells_blk (kx6.ext x0) (n := 2) sm, h4x]
  refine callK_of ke (l10Ask_c k hk word ws _ b cp _ (hst x0) (os6.ext x0) om hwl hno) ?_
  rintro _ w7 ⟨rfl, y7⟩
  have k47 := (k46.ext x0).ext y7
  refine nxE_of (y7.grow _) ?_
  have X := X.trans (y7.grow _)
  simp (disch := omega) only [go_sem, readCells_blk (kx6.ext x0) (n := 2) sm, h4x]
  refine stK_agg siz_lst sm oi k47 sm fun w9 k9 g9 => ?_
  refine nxE_of (g9.grow) ?_
  have X := X.trans g9.grow
  simp (disch := omega) only [go_sem, readCells_blk k9 (n := 2) sm, Tryz.results36]
  have xw9 : Ext w w9 := X.ext xw6 (fun b hb => by simp only [Option.some.injEq] at hb; omega)
  exact ⟨_, rfl, ⟨a, A, Cp, gc, la, lc, rfl, r.ext xw9, l.ext xw9, hlc, hXs⟩, xw9⟩
theorem no_cell {V : World} {nb i : Nat} {T : TypeId} {x : Value} (kn : Blk V nb #[.slice none 0 0, .slice none 0 0] T) (h : V.cell? ⟨nb, i, none⟩ = some x) : x = .slice none 0 0 := by
 rw [kn.cell] at h
 match i with
 | 0 => exact (Option.some.inj h).symm
 | 1 => exact (Option.some.inj h).symm
 | i + 2 => simp at h
theorem StX.zeroed {V V' : World} {v : Value} {k : Dk} {X : Nat → Prop} {nb : Nat} {T : TypeId} (h : StX V v k X) (hk : k.Good) (kn : Blk V nb #[.slice none 0 0, .slice none 0 0] T) (g : Wrote nb V V') : StX V' v k X := by
 obtain ⟨a, A, Cp, gc, la, lc, hv, r, l, hc, hx⟩ := h
 have vv := hk.1
 have c1 := vv.c1
 have hr : ∀ i, i < k.rows.length → ∀ b, blk (A i) = some b → b ≠ nb := fun i hi b hb e => by
  have hl := vv.len i hi
  obtain ⟨b', o, ha⟩ := (r.ints i hi).head (by intro e; rw [e] at hl; simp at hl; omega)
  rw [ha, blk_some] at hb
  have hbn : b' = nb := (Option.some.inj hb).trans e
  have := (r.ints i hi).cell b' o ha 0 om
  rw [hbn] at this
  have := no_cell kn this
  cases this
 refine ⟨a, A, Cp, gc, la, lc, hv, r.kept (fun b hb _ => g.other b fun e => ?_) (fun i hi b hb _ => g.other b (hr i hi b hb)), ?_, hc, hx⟩
 ·obtain ⟨b', o, ha⟩ := r.head vv.ne
  rw [ha, blk_some] at hb
  have hbn : b' = nb := (Option.some.inj hb).trans e
  have := r.row b' o ha 0 vv.r1
  rw [hbn] at this
  have := no_cell kn this
  have hl := vv.len 0 vv.r1
  simp only [Value.slice.injEq] at this
  omega
 ·by_cases hn : k.labs = []
  ·rw [hn]; exact LabS.nil _ _
  ·refine l.kept fun b hb _ => g.other b fun e => ?_
   obtain ⟨b', o, ha⟩ := l.head hn
   rw [ha, blk_some] at hb
   have hbn : b' = nb := (Option.some.inj hb).trans e
   have := l.cell b' o ha 0 (List.length_pos_iff.2 hn) 0 om
   rw [hbn, lcs] at this
   have := no_cell kn this
   cases this
set_option maxHeartbeats 1000000 in
theorem specExecute_c (t : List UInt8) (w : World) : Ret Tryz.prog 11 #[.string (bs t)] w fun u w' => u = .string (bs (exF t)) ∧ Ext w w' := by
 refine enter1 Tryz.func11 rfl fun f a0 => ?_
 by_cases h600 : (600 : Int) < (t.length : Int)
 ·have he : exF t = longT := by rw [exF, if_pos om]
  simp (disch := omega) only [go_sem, a0, h600, Tryz.results11]
  exact ⟨by rw [he]; rfl, Ext.refl _⟩
 obtain ⟨hl1, hl2⟩ := spl_len_le 10 t
 have he : exF t = (runF d0 ((spl 10 t).take ((spl 10 t).length - 1))).2 ++ endL (runF d0 ((spl 10 t).take ((spl 10 t).length - 1))).1 := by
  rw [exF, if_neg om, List.dropLast_eq_take]
 rw [he]
 have hmem : ∀ l ∈ spl 10 t, l.length ≤ 1000 := fun l hl => by have := spl_mem_len hl; omega
 simp (disch := omega) only [go_sem, a0, h600]
 refine bslK_1 elt_i rfl fun w1 b1 e1 x1 k1 s1 => ?_
 simp (disch := omega) only [go_sem]
 refine bslK_1 elt_ii rfl fun w2 b2 e2 x2 k2 s2 => ?_
 simp (disch := omega) only [go_sem]
 refine bslK_0 elt_L fun w3 b3 e3 x3 o3 s3 => ?_
 have bld : ∀ (a b : Option Addr) (n c m e : Nat), buildV Tryz.prog 64 [(0, .slice a n c), (1, .slice b m e)] = some (.agg #[.slice a n c, .slice b m e]) := fun a b n c m e => ke
 simp (disch := omega) only [go_sem, bld]
 refine allocK_of zero_lst fun w4 d e4 x4 kd s4 => ?_
 simp (disch := omega) only [go_sem]
 refine stK_agg siz_lst sm oi kd sm fun w5 kd g5 => ?_
 have z1 := x1.size
 have z2 := x2.size
 have z3 := x3.size
 have x13 := (x1.trans x2).trans x3
 have x15 : Ext w w5 := g5.ext (x13.trans x4) om
 have x35 : Ext w3 w5 := g5.ext x4 om
 simp (disch := omega) only [go_sem, a0]
 refine callK_of ke (l1Cut_c t 10 _ om) ?_
 rintro _ w6 ⟨sb, sc, rfl, x6, hsb, os⟩
 have lsb : sb < w6.heap.size := os.blk_lt rfl
 generalize spl 10 t = L at *
 simp (disch := omega) only [go_sem]
 have k2' := ((k2.ext x3).ext x35).ext x6
 have k1' := (((k1.ext x2).ext x3).ext x35).ext x6
 have hst : StX w6 (.agg #[.slice (some ⟨b2, 0, none⟩) 1 1, .slice (some ⟨b3, 0, none⟩) 0 0]) d0 (fun x => x = d) := by
  refine ⟨some ⟨b2, 0, none⟩, fun _ => some ⟨b1, 0, none⟩, fun _ => 1, 1, some ⟨b3, 0, none⟩, 0, rfl, ?_, LabS.nil _ _, by simp [d0], fun b hb => ?_⟩
  rotate_left
  ·rcases hb with h | ⟨_, _, h⟩ | h <;> (simp only [blk_some, Option.some.injEq] at h; omega)
  refine ⟨fun _ => ⟨b2, 0, rfl⟩, fun b o hbo r hr => ?_, fun r hr => ⟨fun _ => ⟨b1, 0, rfl⟩, fun b o hbo i hi => ?_⟩, fun l hl x hx => ?_, fun l hl => ?_, by simp [maxLen, d0]⟩
  ·simp only [Option.some.injEq, Addr.mk.injEq] at hbo
   obtain ⟨rfl, rfl, _⟩ := hbo
   obtain rfl : r = 0 := by simpa [d0] using hr
   rw [Nat.zero_add, k2'.cell]; rfl
  ·simp only [Option.some.injEq, Addr.mk.injEq] at hbo
   obtain ⟨rfl, rfl, _⟩ := hbo
   obtain rfl : r = 0 := by simpa [d0] using hr
   obtain rfl : i = 0 := by simpa [d0] using hi
   rw [Nat.zero_add, k1'.cell]; rfl
  ·simp only [d0, List.mem_singleton] at hl
   subst hl
   simp only [List.mem_singleton] at hx
   subst hx
   exact ⟨om, om⟩
  ·simp only [d0, List.mem_singleton] at hl
   subst hl
   simp [maxLen]
 have kd6 := kd.ext x6
 have xw6 := x15.trans x6
 refine loopN (L.length - 1) (fun k f W => f 3 = .pointer (some ⟨d, 0, none⟩) ∧ f 4 = .string (bs (runF d0 (L.take k)).2) ∧ f 5 = .slice (some ⟨sb, 0, none⟩) L.length sc ∧ f 6 = .int .i64 k ∧ Ext w W ∧ OwnS W 9 1 (some ⟨sb, 0, none⟩) L.length sc (vst L) ∧ ∃ v1 v2, Blk W d #[v1, v2] 64 ∧ StX W (.agg #[v1, v2]) (runF d0 (L.take k)).1 (fun x => x = d))
  ⟨uu, uu, uu, uu, xw6, os, _, _, kd6, hst⟩ fun k f W hk ⟨a3, a4, a5, a6, xw, os, v1, v2, kdW, hst⟩ => ?_
 have hgood := runF_good (L.take k) d0_good
 have hol := runF_len (L.take k) d0_good
 rw [List.length_take] at hol
 have ld := kd.lt
 have sw := xw.size
 have ldW := kdW.lt
 have lsW : sb < W.heap.size := os.blk_lt rfl
 by_cases hlt : (k : Int) + 1 < (L.length : Int)
 ·have hkL : k < L.length := om
  have hll := hmem _ (getD_mem (d := []) hkL)
  have hml := lineF_len hgood (L.getD k [])
  have hsn := runF_snoc (L.take k) (L.getD k []) d0
  rw [← take_snoc [] hkL] at hsn
  generalize hk1 : (runF d0 (L.take k)).1 = kk at *
  generalize (runF d0 (L.take k)).2 = o1 at *
  have hcV : ∀ {V}, Ext W V → V.cell? ⟨sb, k, none⟩ = some (.string (bs (L.getD k []))) := fun x => by rw [(os.ext x).cell om, vst_get _ _ hkL]
  have hk2 : (k : Int) < (L.length : Int) := om
  have e2 : binV Tryz.prog .add 9 (.string (bs o1)) (.string (bs (lineF kk (L.getD k [])).2)) = some (.string (bs (o1 ++ (lineF kk (L.getD k [])).2))) := bin_adds _ _ om
  have ex : Ext W W := Ext.refl _
  simp (disch := omega) only [go_sem, a5, a6, hlt]
  have hfin : ∀ {V : World} {ga : Option Addr} {gA : Nat → Option Addr} {gla : Option Addr} {n m gc lc : Nat}, True := trivial
  refine QR_cut (fun f V => f 3 = .pointer (some ⟨d, 0, none⟩) ∧ f 4 = .string (bs o1) ∧ f 5 = .slice (some ⟨sb, 0, none⟩) L.length sc ∧ f 6 = .int .i64 k ∧ f 8 = .string (bs (lineF kk (L.getD k [])).2) ∧ Ext W V ∧ ∃ nb u1 u2, f 7 = .pointer (some ⟨nb, 0, none⟩) ∧ Blk V nb #[u1, u2] 64 ∧ StX V (.agg #[u1, u2]) (lineF kk (L.getD k [])).1 (fun x => x = d) ∧ u1.oneCell' = true ∧ u2.oneCell' = true ∧ W.heap.size ≤ nb) (fun f V ⟨a3, a4, a5, a6, a8, xV, nb, u1, u2, a7, kn, hsV, hu1, hu2, hnb⟩ => ?_) ?_
  rotate_left
  ·refine Go.SWP.QR_sch (fun j => W.heap.size ≤ j) (.st 0 (.st 1 (.st 2 (.st 3 (.st 4 (.alt (.ef 5 (.st 6 (.st 7 (.st 8 (.ef 9 (.ef 10 (.st 11 (.done)))))))) (.ef 9 (.ef 5 (.st 6 (.st 7 (.st 8 (.ef 10 (.st 11 (.done)))))))))))))) ke ke fun w0 x0 => ?_
   have z0 := x0.size
   simp (disch := omega) only [go_sem, a3, a5, a6, hk2, readCells_blk (kdW.ext x0) (n := 2) sm, hcV x0, Int.toNat_natCast]
   refine Go.SWP.RLT_alt ?_ ?_
   ·try simp (disch := omega) only [go_sem]
    refine callK_of ke (l10Line_c kk hgood (L.getD k []) hll _ _ (fun x => x = d) (fun x hx => om) (hst.ext x0)) ?_
    rintro _ w7 ⟨sv7, rfl, ⟨ga, gA, gCp, ggc, gla, glc, rfl, gr, gl, glc', gX⟩, y7⟩
    have z7 := y7.size
    refine Go.SWP.nxE_of (y7.growP _) ?_
    simp (disch := omega) only [go_sem]
    refine allocK_of zero_lst fun w8 nb en y8 kn s8 => ?_
    refine Go.SWP.nxE_of (y8.growP _) ?_
    simp (disch := omega) only [go_sem]
    refine stK_agg siz_lst sm oi kn sm fun w9 kn g9 => ?_
    refine Go.SWP.nxE_of (g9.grow.growP fun x e => by cases e; omega) ?_
    have y9 : Ext w7 w9 := g9.ext y8 om
    simp (disch := omega) only [go_sem]
    exact ⟨uu, uu, uu, uu, uu, (x0.trans y7).trans y9, nb, _, _, uu, kn, ⟨ga, gA, gCp, ggc, gla, glc, rfl, gr.ext y9, gl.ext y9, glc', gX⟩, rfl, rfl, om⟩
   ·try simp (disch := omega) only [go_sem]
    refine allocK_of zero_lst fun w8 nb en y8 kn s8 => ?_
    refine Go.SWP.nxE_of (y8.growP _) ?_
    have z8 := y8.size
    simp (disch := omega) only [go_sem]
    refine callK_of ke (l10Line_c kk hgood (L.getD k []) hll _ _ (fun x => x = d) (fun x hx => om) ((hst.ext x0).ext y8)) ?_
    rintro _ w7 ⟨sv7, rfl, hs7, y7⟩
    refine Go.SWP.nxE_of (y7.growP _) ?_
    have kn7 := kn.ext y7
    have hsz := fun (V' : World) (g : Wrote nb w7 V') => hs7.zeroed (lineF_good hgood (L.getD k [])) kn7 g
    obtain ⟨ga, gA, gCp, ggc, gla, glc, rfl, -⟩ := hs7
    simp (disch := omega) only [go_sem]
    refine stK_agg siz_lst sm oi kn7 sm fun w9 kn g9 => ?_
    refine Go.SWP.nxE_of (g9.grow.growP fun x e => by cases e; omega) ?_
    simp (disch := omega) only [go_sem]
    exact ⟨uu, uu, uu, uu, uu, g9.ext ((x0.trans y8).trans y7) om, nb, _, _, uu, kn, hsz _ g9, rfl, rfl, om⟩
  simp (disch := omega) only [go_sem, a7, a3, readCells_blk kn (n := 2) sm]
  refine stK_agg siz_lst sm (by simp [hu1, hu2]) (kdW.ext xV) sm fun w9 k9 g9 => ?_
  have hs9 := hsV.wrote g9 (rfl : d = d)
  simp (disch := omega) only [go_sem, a4, a8, e2, a6]
  exact ⟨om, uu, by rw [hsn], uu, uu, g9.ext (xw.trans xV) om, (os.ext xV).grow g9.grow (fun b hb e => by simp only [blk_some, Option.some.injEq] at hb; cases e; omega), u1, u2, k9, by rw [hsn]; exact hs9⟩
 ·obtain rfl : k = L.length - 1 := om
  generalize hkk : (runF d0 (L.take (L.length - 1))).1 = kk at *
  generalize (runF d0 (L.take (L.length - 1))).2 = out at *
  obtain ⟨a, A, Cp, gc, la, lc, hv12, r, l, hlc, hX⟩ := hst
  have hv1 : v1 = .slice a kk.rows.length gc := by
   have := congrArg (fun v => match v with | Value.agg cs => cs[0]? | _ => none) hv12
   simpa using this
  have hv2 : v2 = .slice la kk.labs.length lc := by
   have := congrArg (fun v => match v with | Value.agg cs => cs[1]? | _ => none) hv12
   simpa using this
  subst hv1 hv2
  have v := hgood.1
  have hR1 := v.r1
  have hR7 := v.r7
  have hC7 := v.c7
  have hL6 := hgood.2.1
  have d1 := dec_len2 (n := kk.rows.length) om
  have d2 := dec_len2 (n := rowLen kk.rows) om
  have d3 := dec_len2 (n := kk.labs.length) om
  obtain ⟨gb, go, rfl⟩ := r.head v.ne
  have hrow : ∀ {V}, Ext W V → V.cell? ⟨gb, go, none⟩ = some (.slice (A 0) (rowLen kk.rows) (Cp 0)) := fun x => by
   have := (r.ext x).row gb go rfl 0 v.r1
   rwa [Nat.add_zero] at this
  have q0 : (0 : Int) < (kk.rows.length : Int) := om
  have c1 : binV Tryz.prog .add 9 (.string (bs out)) (.string (bs [114, 111, 119, 115, 32])) = some (.string (bs (out ++ [114, 111, 119, 115, 32]))) := bin_adds _ _ sq
  have c2 : binV Tryz.prog .add 9 (.string (bs (out ++ [114, 111, 119, 115, 32]))) (.string (bs (dec kk.rows.length))) = some (.string (bs (out ++ [114, 111, 119, 115, 32] ++ dec kk.rows.length))) := bin_adds _ _ sq
  have c3 : binV Tryz.prog .add 9 (.string (bs (out ++ [114, 111, 119, 115, 32] ++ dec kk.rows.length))) (.string (bs [32, 99, 111, 108, 117, 109, 110, 115, 32])) = some (.string (bs (out ++ [114, 111, 119, 115, 32] ++ dec kk.rows.length ++ [32, 99, 111, 108, 117, 109, 110, 115, 32]))) := bin_adds _ _ sq
  have c4 : binV Tryz.prog .add 9 (.string (bs (out ++ [114, 111, 119, 115, 32] ++ dec kk.rows.length ++ [32, 99, 111, 108, 117, 109, 110, 115, 32]))) (.string (bs (dec (rowLen kk.rows)))) = some (.string (bs (out ++ [114, 111, 119, 115, 32] ++ dec kk.rows.length ++ [32, 99, 111, 108, 117, 109, 110, 115, 32] ++ dec (rowLen kk.rows)))) := bin_adds _ _ sq
  have c5 : binV Tryz.prog .add 9 (.string (bs (out ++ [114, 111, 119, 115, 32] ++ dec kk.rows.length ++ [32, 99, 111, 108, 117, 109, 110, 115, 32] ++ dec (rowLen kk.rows)))) (.string (bs [32, 108, 97, 98, 101, 108, 115, 32])) = some (.string (bs (out ++ [114, 111, 119, 115, 32] ++ dec kk.rows.length ++ [32, 99, 111, 108, 117, 109, 110, 115, 32] ++ dec (rowLen kk.rows) ++ [32, 108, 97, 98, 101, 108, 115, 32]))) := bin_adds _ _ sq
  have c6 : binV Tryz.prog .add 9 (.string (bs (out ++ [114, 111, 119, 115, 32] ++ dec kk.rows.length ++ [32, 99, 111, 108, 117, 109, 110, 115, 32] ++ dec (rowLen kk.rows) ++ [32, 108, 97, 98, 101, 108, 115, 32]))) (.string (bs (dec kk.labs.length))) = some (.string (bs (out ++ [114, 111, 119, 115, 32] ++ dec kk.rows.length ++ [32, 99, 111, 108, 117, 109, 110, 115, 32] ++ dec (rowLen kk.rows) ++ [32, 108, 97, 98, 101, 108, 115, 32] ++ dec kk.labs.length))) := bin_adds _ _ sq
  have c7 : binV Tryz.prog .add 9 (.string (bs (out ++ [114, 111, 119, 115, 32] ++ dec kk.rows.length ++ [32, 99, 111, 108, 117, 109, 110, 115, 32] ++ dec (rowLen kk.rows) ++ [32, 108, 97, 98, 101, 108, 115, 32] ++ dec kk.labs.length))) (.string (bs [10])) = some (.string (bs (out ++ [114, 111, 119, 115, 32] ++ dec kk.rows.length ++ [32, 99, 111, 108, 117, 109, 110, 115, 32] ++ dec (rowLen kk.rows) ++ [32, 108, 97, 98, 101, 108, 115, 32] ++ dec kk.labs.length ++ [10]))) := bin_adds _ _ sq
  have ex : Ext W W := Ext.refl _
  simp (disch := omega) only [go_sem, a5, a6, hlt]
  refine QR_sch none (.st 0 (.st 1 (.st 2 (.st 3 (.st 4 (.st 8 (.st 9 (.st 10 (.st 11 (.st 12 (.st 16 (.st 17 (.st 18 (.ef 5 (.st 6 (.st 7 (.ef 13 (.st 14 (.st 15 (.ef 19 (.st 20 (.st 21 (.st 22 (.done)))))))))))))))))))))))) ke ke fun w0 x0 => ?_
  have X := ex.trans x0
  simp (disch := omega) only [go_sem, a3, a4, (kdW.ext x0).cell, hrow x0, q0, Int.reduceToNat, ldS_none, c1, c2, c3, c4, c5]
  refine callK_of ke (l6Dec_c kk.rows.length om _) ?_
  rintro _ w7 ⟨rfl, y7⟩
  refine nxE_of (y7.grow _) ?_
  have X := X.trans y7
  simp (disch := omega) only [go_sem, a3, a4, (kdW.ext x0).cell, hrow x0, q0, Int.reduceToNat, ldS_none, c1, c2, c3, c4, c5]
  refine callK_of ke (l6Dec_c (rowLen kk.rows) om _) ?_
  rintro _ w7 ⟨rfl, y7⟩
  refine nxE_of (y7.grow _) ?_
  have X := X.trans y7
  simp (disch := omega) only [go_sem, a3, a4, (kdW.ext x0).cell, hrow x0, q0, Int.reduceToNat, ldS_none, c1, c2, c3, c4, c5]
  refine callK_of ke (l6Dec_c kk.labs.length om _) ?_
  rintro _ w7 ⟨rfl, y7⟩
  refine nxE_of (y7.grow _) ?_
  have X := X.trans y7
  simp (disch := omega) only [go_sem, c6, c7, Tryz.results11]
  exact ⟨by simp only [endL, List.append_assoc], xw.trans X⟩
end Go.Proofs.YtcbmhjndbpafbaaGreatDoor
