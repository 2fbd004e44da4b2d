/- A script is run: impl.Execute. -/
import Derived.Test.YtgdopjkanibfeaaGreatDoorUl
set_option linter.all false
set_option maxRecDepth 20000
namespace Go.Proofs.YtgdopjkanibfeaaGreatDoor
open Go.RowKit Go.SW

theorem scal_labs : scal Tryz.prog 59 = true := by kernel_rfl
attribute [go_sem] scal_labs

/-- Lines and what they answer, one behind the other. -/
def Scr : List (List UInt8) → List UInt8 → List (List Int) → List (List Int) → Prop
  | [], out, r, r' => out = [] ∧ r = r'
  | l :: L, out, r, r' => ∃ o1 o2 r1, out = o1 ++ o2 ∧ Ans l o1 r r1 ∧ Scr L o2 r1 r'

/-- The state of a run: the desk d, the builder bb, the lines sb. -/
def St (w W : World) (d bb sb : Nat) (cs : Array Value) (rows : List (List Int)) (l : List UInt8) : Prop :=
  ∃ bf, Bld W 66 5 bb l bf ∧ Desk W 61 d rows (fun x => x = bb ∨ bf = some x) ∧ (∀ x, bf = some x → x ≠ d ∧ x ≠ sb ∧ w.heap.size ≤ x) ∧ Ext w W ∧ Blk W sb cs 9 ∧ d ≠ bb ∧ sb ≠ bb ∧ sb ≠ d ∧ w.heap.size ≤ d ∧ w.heap.size ≤ bb

theorem St.ext {w W W' : World} {d bb sb : Nat} {cs : Array Value} {rows : List (List Int)} {l : List UInt8} (h : St w W d bb sb cs rows l) (e : Ext W W') : St w W' d bb sb cs rows l := by
  obtain ⟨bf, hb, dk, hf, x, ks, r⟩ := h
  exact ⟨bf, hb.ext e, dk.ext e, hf, x.trans e, ks.ext e, r⟩

theorem st_write {w W : World} {d bb sb : Nat} {cs : Array Value} {rows : List (List Int)} {l : List UInt8} (h : St w W d bb sb cs rows l) (m : List UInt8) (hlen : l.length + m.length ≤ 1000000) :
    Ret Tryz.prog 40 #[.pointer (some ⟨bb, 0, none⟩), .string (bs m)] W fun v W' => v = .tuple #[.int .i64 m.length, .nilIface] ∧ St w W' d bb sb cs rows (l ++ m) := by
  obtain ⟨bf, hb, dk, hf, x, ks, n1, n2, n3, h1, h2⟩ := h
  have lsb := ks.lt
  have ld : d < W.heap.size := by obtain ⟨a, A, Cp, gc, k, _⟩ := dk.ex; exact k.lt
  refine Ret.mono (writeString_c bb l m bf W hb hlen) fun v W' ⟨hv, bf', hb', g, hn⟩ => ⟨hv, bf', hb', ?_, fun y hy => ?_, g.ext x fun b hb => ?_, g.blk ks fun e => ?_, n1, n2, n3, h1, h2⟩
  · have dk1 : Desk W 61 d rows (fun x => (x = bb ∨ bf = some x) ∨ bf' = some x) := dk.avoid fun y hy => hy.elim .inl fun e => (hn y e).elim (fun e => .inl (.inr e)) .inr
    exact (dk1.grow g (fun y hy => .inl hy) (fun e => e.elim n1 fun e => (hf d e).1 rfl)).avoid fun y hy => .inl (hy.elim (fun e => .inl (.inl e)) .inr)
  · rcases hn y hy with e | e
    · exact hf y e
    · have := x.size; exact ⟨by omega, by omega, by omega⟩
  · exact hb.elim (fun e => by omega) fun e => (hf b e).2.2
  · exact e.elim n2 fun e => (hf sb e).2.1 rfl

theorem st_answer {w W : World} {d bb sb : Nat} {cs : Array Value} {rows rows' : List (List Int)} {l line out : List UInt8} (h : St w W d bb sb cs rows l) (ha : Ans line out rows rows') :
    Ret Tryz.prog 41 #[.pointer (some ⟨d, 0, none⟩), .string (bs line)] W fun v W' => v = .string (bs out) ∧ St w W' d bb sb cs rows' l := by
  obtain ⟨bf, hb, dk, hf, x, ks, n1, n2, n3, h1, h2⟩ := h
  have lb := hb.lt
  refine Ret.mono (ha d _ W dk fun y hy => hy.elim (fun e => ⟨by omega, by omega⟩) fun e => ⟨lb.2 y e, (hf y e).1⟩) fun v W' ⟨hv, g, dk'⟩ => ⟨hv, bf, hb.grow g (by simpa using n1) (fun y hy e => by cases e; exact (hf _ hy).1 rfl), dk', hf, g.ext x (fun b hb => by cases hb; exact h1), g.blk ks (fun e => by cases e; exact n3 rfl), n1, n2, n3, h1, h2⟩

theorem lns_mem_len {L : List (List UInt8)} {l : List UInt8} (h : l ∈ L) : l.length ≤ (lns L).length := by
  induction L with
  | nil => cases h
  | cons a r ih =>
    simp only [lns, List.length_append, List.length_cons]
    rcases List.mem_cons.1 h with rfl | h
    · omega
    · have := ih h; omega
theorem lns_len {L : List (List UInt8)} : L.length ≤ (lns L).length := by
  induction L with
  | nil => exact Nat.le_refl _
  | cons a r ih => simp only [lns, List.length_append, List.length_cons]; omega

theorem execute_c (L : List (List UInt8)) (out : List UInt8) (rows' : List (List Int)) (w : World) (hS : Scr L out [[0]] rows') (hnl : ∀ l ∈ L, (10 : UInt8) ∉ l) (hlen : (lns L).length ≤ 600) (hout : out.length ≤ 100000) (v : Valid rows') :
    Ret Tryz.prog 13 #[.string (bs (lns L))] w fun u w' => u = .string (bs (out ++ endT rows'.length (rowLen rows'))) ∧ Ext w w' := by
  have h600 : ¬ (600 : Int) < ((lns L).length : Int) := by omega
  have hLl := lns_len (L := L)
  have hR1 := v.r1
  have hR7 := v.r7
  have hC7 := v.c7
  have d1 := dec_len2 (n := rows'.length) (by omega)
  have d2 := dec_len2 (n := rowLen rows') (by omega)
  have d3 := dec_len2 (n := 0) (by omega)
  refine enter1 Tryz.func13 rfl (by kernel_rfl) (of_decide_eq_true (by kernel_rfl)) fun f a0 => ?_
  simp (disch := omega) only [go_sem, Nat.reduceEqDiff, ↓reduceIte, Nat.reduceAdd, a0, h600]
  refine bslK_1 elt_i rfl fun w1 b1 e1 x1 k1 s1 => ?_
  simp (disch := omega) only [go_sem, Nat.reduceEqDiff, ↓reduceIte, Nat.reduceAdd]
  refine bslK_1 elt_ii rfl fun w2 b2 e2 x2 k2 s2 => ?_
  simp (disch := omega) only [go_sem, Nat.reduceEqDiff, ↓reduceIte, Nat.reduceAdd]
  refine boxK_of fun w3 d e3 x3 k3 s3 => ?_
  simp (disch := omega) only [go_sem, Nat.reduceEqDiff, ↓reduceIte, Nat.reduceAdd, a0]
  refine callK_of (by kernel_rfl) (split_c (lns L) 10 _ (by omega)) ?_
  rintro _ w4 ⟨sb, rfl, x4, esb, ks⟩
  rw [spl_lns hnl] at ks ⊢
  have hl1 : (L ++ [[]]).length = L.length + 1 := by simp
  rw [hl1]
  simp (disch := omega) only [go_sem, Nat.reduceEqDiff, ↓reduceIte, Nat.reduceAdd]
  refine allocK_of zero_bd fun w5 bb e5 x5 k5 s5 => ?_
  have z1 := x1.size
  have z4 := x4.size
  have lsb := ks.lt
  have x13 := (x1.trans x2).trans x3
  have x35 := x4.trans x5
  have hst : St w w5 d bb sb (vst (L ++ [[]])).toArray [[0]] [] := by
    refine ⟨none, ⟨_, none, 0, k5, .inl rfl, OwnS.nil _ _ _, rfl, by simp⟩, ⟨some ⟨b2, 0, none⟩, fun _ => some ⟨b1, 0, none⟩, fun _ => 1, 1, k3.ext x35, ?_, fun b hb => ?_, fun r hr b hb => ?_⟩, (fun x hx => by cases hx), x13.trans x35, ks.ext x5, by omega, by omega, by omega, by omega, by omega⟩
    · have k2' := (k2.ext x3).ext x35
      have k1' := ((k1.ext x2).ext x3).ext x35
      refine ⟨fun _ => ⟨b2, 0, rfl⟩, fun b o hbo r hr => ?_, fun r hr => ⟨fun _ => ⟨b1, 0, rfl⟩, fun b o hbo i hi => ?_⟩, fun l hl x hx => ?_, fun l hl => ?_, by simp [maxLen]⟩
      · simp only [Option.some.injEq, Addr.mk.injEq] at hbo
        obtain ⟨rfl, rfl, _⟩ := hbo
        obtain rfl : r = 0 := by simpa using hr
        rw [Nat.zero_add, k2'.cell]; rfl
      · simp only [Option.some.injEq, Addr.mk.injEq] at hbo
        obtain ⟨rfl, rfl, _⟩ := hbo
        obtain rfl : r = 0 := by simpa using hr
        obtain rfl : i = 0 := by simpa using hi
        rw [Nat.zero_add, k1'.cell]; rfl
      · simp only [List.mem_singleton] at hl
        subst hl
        simp only [List.mem_singleton] at hx
        subst hx
        exact ⟨by omega, by omega⟩
      · simp only [List.mem_singleton] at hl
        subst hl
        simp [maxLen]
    · simp only [blk_some, Option.some.injEq] at hb
      subst hb
      exact ⟨fun e => e.elim (by omega) (fun e => by cases e), by omega, by omega⟩
    · simp only [blk_some, Option.some.injEq] at hb
      subst hb
      exact ⟨fun e => e.elim (by omega) (fun e => by cases e), by omega, by omega⟩
  have el : ((L.length + 1 : Nat) : Int) - 1 = ((L.length : Nat) : Int) := by omega
  simp (disch := omega) only [go_sem, Nat.reduceEqDiff, ↓reduceIte, Nat.reduceAdd, el, Int.toNat_natCast]
  refine loopN L.length (fun k f W => f 3 = .pointer (some ⟨d, 0, none⟩) ∧ f 5 = .pointer (some ⟨bb, 0, none⟩) ∧ f 21 = .slice (some ⟨sb, 0, none⟩) L.length (L.length + 1) ∧ f 22 = .int .i64 L.length ∧ f 23 = .int .i64 k ∧ ∃ o1 o2 rk, out = o1 ++ o2 ∧ Scr (L.drop k) o2 rk rows' ∧ St w W d bb sb (vst (L ++ [[]])).toArray rk o1)
    ⟨(by first | assumption | (simp only [upd_apply, Nat.reduceEqDiff, ↓reduceIte] <;> first | rfl | assumption) | simp [upd_apply, *]), (by first | assumption | (simp only [upd_apply, Nat.reduceEqDiff, ↓reduceIte] <;> first | rfl | assumption) | simp [upd_apply, *]), (by first | assumption | (simp only [upd_apply, Nat.reduceEqDiff, ↓reduceIte] <;> first | rfl | assumption) | simp [upd_apply, *]), (by first | assumption | (simp only [upd_apply, Nat.reduceEqDiff, ↓reduceIte] <;> first | rfl | assumption) | simp [upd_apply, *]), (by first | assumption | (simp only [upd_apply, Nat.reduceEqDiff, ↓reduceIte] <;> first | rfl | assumption) | simp [upd_apply, *]), [], out, [[0]], rfl, hS, hst⟩ fun k f W hk ⟨a3, a5, a21, a22, a23, o1, o2, rk, ho, hsc, hst⟩ => ?_
  have hol : o1.length + o2.length = out.length := by rw [ho, List.length_append]
  by_cases hlt : (k : Int) < (L.length : Int)
  · have hkL : k < L.length := by omega
    rw [List.drop_eq_getElem_cons hkL] at hsc
    obtain ⟨p1, p2, r1, rfl, hans, hsc2⟩ := hsc
    rw [List.length_append] at hol
    have hcell : W.cell? ⟨sb, k, none⟩ = some (.string (bs L[k])) := by
      obtain ⟨bf, _, _, _, _, ks, _⟩ := hst
      rw [vst_cell ks (by simp; omega)]
      simp [List.getElem?_append_left hkL, hkL]
    simp (disch := omega) only [go_sem, Nat.reduceEqDiff, ↓reduceIte, Nat.reduceAdd, a3, a5, a21, a22, a23, hlt, hcell]
    refine callK_of (by kernel_rfl) (st_answer hst hans) ?_
    rintro _ w6 ⟨rfl, hst6⟩
    simp (disch := omega) only [go_sem, Nat.reduceEqDiff, ↓reduceIte, Nat.reduceAdd, a5]
    refine callK_of (by kernel_rfl) (st_write hst6 p1 (by omega)) ?_
    rintro _ w7 ⟨rfl, hst7⟩
    simp (disch := omega) only [go_sem, Nat.reduceEqDiff, ↓reduceIte, Nat.reduceAdd, a23]
    exact ⟨by omega, (by first | assumption | (simp only [upd_apply, Nat.reduceEqDiff, ↓reduceIte] <;> first | rfl | assumption) | simp [upd_apply, *]), (by first | assumption | (simp only [upd_apply, Nat.reduceEqDiff, ↓reduceIte] <;> first | rfl | assumption) | simp [upd_apply, *]), (by first | assumption | (simp only [upd_apply, Nat.reduceEqDiff, ↓reduceIte] <;> first | rfl | assumption) | simp [upd_apply, *]), (by first | assumption | (simp only [upd_apply, Nat.reduceEqDiff, ↓reduceIte] <;> first | rfl | assumption) | simp [upd_apply, *]), (by first | assumption | (simp only [upd_apply, Nat.reduceEqDiff, ↓reduceIte] <;> first | rfl | assumption) | simp [upd_apply, *]), o1 ++ p1, p2, r1, by rw [ho, List.append_assoc], hsc2, hst7⟩
  · obtain rfl : k = L.length := by omega
    rw [List.drop_length] at hsc
    obtain ⟨rfl, rfl⟩ := hsc
    rw [List.append_nil] at ho
    subst ho
    have row0 : ∀ {W : World} {l : List UInt8}, St w W d bb sb (vst (L ++ [[]])).toArray rk l → ∃ a A gc gr, Blk W d #[.slice a rk.length gc, .slice none 0 0] 61 ∧ ∃ b o, a = some ⟨b, o, none⟩ ∧ W.cell? ⟨b, o, none⟩ = some (.slice A (rowLen rk) gr) := fun ⟨bf, hb, dk, _⟩ => by
      obtain ⟨a, A, Cp, gc, k, r, h1, h2⟩ := dk.ex
      obtain ⟨b, o, rfl⟩ := r.head v.ne
      have := r.row b o rfl 0 v.r1
      rw [Nat.add_zero] at this
      exact ⟨_, A 0, gc, Cp 0, k, b, o, rfl, this⟩
    obtain ⟨a, A, gc, gr, kd, -⟩ := row0 hst
    have c1 : binV Tryz.prog .add 9 (.string (bs [114, 111, 119, 115, 32])) (.string (bs (dec rk.length))) = some (.string (bs ([114, 111, 119, 115, 32] ++ dec rk.length))) := bin_adds _ _ (by simp; omega)
    have c2' : binV Tryz.prog .add 9 (.string (bs [32, 99, 111, 108, 117, 109, 110, 115, 32])) (.string (bs (dec (rowLen rk)))) = some (.string (bs ([32, 99, 111, 108, 117, 109, 110, 115, 32] ++ dec (rowLen rk)))) := bin_adds _ _ (by simp; omega)
    have c3 : binV Tryz.prog .add 9 (.string (bs [32, 108, 97, 98, 101, 108, 115, 32])) (.string (bs (dec 0))) = some (.string (bs ([32, 108, 97, 98, 101, 108, 115, 32] ++ dec 0))) := bin_adds _ _ (by simp; omega)
    have c4 : binV Tryz.prog .add 9 (.string (bs ([32, 108, 97, 98, 101, 108, 115, 32] ++ dec 0))) (.string (bs [10])) = some (.string (bs ([32, 108, 97, 98, 101, 108, 115, 32] ++ dec 0 ++ [10]))) := bin_adds _ _ (by simp; omega)
    simp (disch := omega) only [go_sem, Nat.reduceEqDiff, ↓reduceIte, Nat.reduceAdd, a3, a5, a22, a23, hlt, kd.cell]
    refine callK_pure (by kernel_rfl) (itoa_c rk.length (by omega) _) fun w6 x6 => ?_
    simp (disch := omega) only [go_sem, Nat.reduceEqDiff, ↓reduceIte, Nat.reduceAdd, a5, c1]
    refine callK_of (by kernel_rfl) (st_write (hst.ext x6) _ (by simp; omega)) ?_
    rintro _ w7 ⟨rfl, st7⟩
    obtain ⟨a, A, gc, gr, kd, b, o, rfl, hrow⟩ := row0 st7
    simp (disch := omega) only [go_sem, Nat.reduceEqDiff, ↓reduceIte, Nat.reduceAdd, a3, kd.cell, hrow]
    refine callK_pure (by kernel_rfl) (itoa_c (rowLen rk) (by omega) _) fun w8 x8 => ?_
    simp (disch := omega) only [go_sem, Nat.reduceEqDiff, ↓reduceIte, Nat.reduceAdd, a5, c2']
    refine callK_of (by kernel_rfl) (st_write (st7.ext x8) _ (by simp; omega)) ?_
    rintro _ w9 ⟨rfl, st9⟩
    obtain ⟨a, A, gc, gr, kd, -⟩ := row0 st9
    simp (disch := omega) only [go_sem, Nat.reduceEqDiff, ↓reduceIte, Nat.reduceAdd, a3, kd.cell]
    refine callK_pure (by kernel_rfl) (itoa_c 0 (by omega) _) fun w10 x10 => ?_
    simp (disch := omega) only [go_sem, Nat.reduceEqDiff, ↓reduceIte, Nat.reduceAdd, a5, c3, c4]
    have m3 : (out ++ ([114, 111, 119, 115, 32] ++ dec rk.length) ++ ([32, 99, 111, 108, 117, 109, 110, 115, 32] ++ dec (rowLen rk))).length + ([32, 108, 97, 98, 101, 108, 115, 32] ++ dec 0 ++ [10] : List UInt8).length ≤ 1000000 := by
      generalize dec 0 = z at d3 ⊢
      simp; omega
    refine callK_of (by kernel_rfl) (st_write (st9.ext x10) ([32, 108, 97, 98, 101, 108, 115, 32] ++ dec 0 ++ [10]) m3) ?_
    rintro _ w11 ⟨rfl, st11⟩
    obtain ⟨bf, hb, dk, hf, x, ks, n1, n2, n3, h1, h2⟩ := st11
    simp (disch := omega) only [go_sem, Nat.reduceEqDiff, ↓reduceIte, Nat.reduceAdd, a5]
    have hfin := builderString_c w.heap.size bb _ bf _ hb h2 (fun x hx => (hf x hx).2.2) x.size
    refine callK_of (by kernel_rfl) (hfin) ?_
    rintro _ w12 ⟨rfl, x12⟩
    simp (disch := omega) only [go_sem, Nat.reduceEqDiff, ↓reduceIte, Nat.reduceAdd, Tryz.results13]
    exact ⟨by simp only [endT, List.append_assoc, List.cons_append, List.nil_append], Below.trans x x12⟩
end Go.Proofs.YtgdopjkanibfeaaGreatDoor
