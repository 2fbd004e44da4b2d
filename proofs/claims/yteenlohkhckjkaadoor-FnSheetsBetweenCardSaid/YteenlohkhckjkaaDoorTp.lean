/- The law FnSheetsBetween. -/
import Derived.Test.YteenlohkhckjkaaDoorTo
set_option linter.all false
set_option maxRecDepth 20000
namespace Go.SW
open Go Go.RowKit
/-- One of the first k names is s. -/
def hv (nm : Nat → List UInt8) (s : List UInt8) (k : Nat) : Bool := (List.range k).any fun j => nm j == s
theorem hv_succ (nm : Nat → List UInt8) (s : List UInt8) (k : Nat) : hv nm s (k + 1) = (hv nm s k || nm k == s) := by
  simp [hv, List.range_succ]
theorem hv_true {nm : Nat → List UInt8} {s : List UInt8} {n : Nat} (h : ∃ i, i < n ∧ nm i = s) : hv nm s n = true := by
  obtain ⟨i, hi, e⟩ := h
  simp only [hv, List.any_eq_true, List.mem_range]
  exact ⟨i, hi, by simpa using e⟩
end Go.SW
namespace Go.Proofs.YteenlohkhckjkaaDoor
open Go.RowKit Go.SW

theorem sameTexts_c (a b : Option Addr) (L M : List (List UInt8)) (c d : Nat) (w : World) (hl : StrS w a L) (hm : StrS w b M) (hn : L.length ≤ 1000000) (hn2 : M.length ≤ 1000000) :
    Ret Tryd.prog 37 #[.slice a L.length c, .slice b M.length d] w fun v w' => v = .bool (decide (L = M)) ∧ Ext w w' := by
  refine enter2 Tryd.func37 rfl (by kernel_rfl) (of_decide_eq_true (by kernel_rfl)) fun f a0 a1 => ?_
  by_cases hlen : L.length = M.length
  · have hne : ((L.length : Int) != (M.length : Int)) = false := by simp [hlen]
    simp (disch := omega) only [go_sem, Nat.reduceEqDiff, ↓reduceIte, Nat.reduceAdd, a0, a1, hne]
    refine loopN L.length (fun k f w' => f 0 = .slice a L.length c ∧ f 1 = .slice b M.length d ∧ f 5 = .int .i64 k ∧ Ext w w' ∧ ∀ j, j < k → L.getD j [] = M.getD j []) ⟨(by first | assumption | (simp only [upd_apply, Nat.reduceEqDiff, ↓reduceIte] <;> first | rfl | assumption) | simp [upd_apply, *]), (by first | assumption | (simp only [upd_apply, Nat.reduceEqDiff, ↓reduceIte] <;> first | rfl | assumption) | simp [upd_apply, *]), (by first | assumption | (simp only [upd_apply, Nat.reduceEqDiff, ↓reduceIte] <;> first | rfl | assumption) | simp [upd_apply, *]), Ext.refl _, fun j hj => by omega⟩ fun k f w' hk ⟨a0, a1, a5, xw, he⟩ => ?_
    by_cases hlt : (k : Int) < L.length
    · obtain ⟨b1, o1, rfl⟩ := hl.head (by intro e; rw [e] at hlt; simp at hlt; omega)
      obtain ⟨b2, o2, rfl⟩ := hm.head (by intro e; rw [e] at hlen; rw [hlen] at hlt; simp at hlt; omega)
      have g1 := (hl.ext xw).cell b1 o1 rfl k (by omega)
      have g2 := (hm.ext xw).cell b2 o2 rfl k (by omega)
      simp (disch := omega) only [go_sem, Nat.reduceEqDiff, ↓reduceIte, Nat.reduceAdd, a0, a1, a5, hlt]
      refine QR_of (by kernel_rfl) (by kernel_rfl) ?_
      by_cases hx : L.getD k [] = M.getD k []
      · have hne : (!(L.getD k [] == M.getD k [])) = false := by simpa using hx
        simp (disch := omega) only [go_sem, Nat.reduceEqDiff, ↓reduceIte, Nat.reduceAdd, a0, a1, a5, g1, g2, hne]
        refine fun w2 x2 => ⟨by omega, (by first | assumption | (simp only [upd_apply, Nat.reduceEqDiff, ↓reduceIte] <;> first | rfl | assumption) | simp [upd_apply, *]), (by first | assumption | (simp only [upd_apply, Nat.reduceEqDiff, ↓reduceIte] <;> first | rfl | assumption) | simp [upd_apply, *]), (by first | assumption | (simp only [upd_apply, Nat.reduceEqDiff, ↓reduceIte] <;> first | rfl | assumption) | simp [upd_apply, *]), xw.trans x2, fun j hj => ?_⟩
        by_cases e : j = k
        · subst e; exact hx
        · exact he j (by omega)
      · have hne : (!(L.getD k [] == M.getD k [])) = true := by simpa using hx
        simp (disch := omega) only [go_sem, Nat.reduceEqDiff, ↓reduceIte, Nat.reduceAdd, a0, a1, a5, g1, g2, hne, Tryd.results37]
        refine fun w2 x2 => ⟨?_, xw.trans x2⟩
        rw [decide_eq_false (fun e => hx (by rw [e]))]
    · simp (disch := omega) only [go_sem, Nat.reduceEqDiff, ↓reduceIte, Nat.reduceAdd, a0, a1, a5, hlt, Tryd.results37]
      refine ⟨?_, xw⟩
      rw [decide_eq_true]
      refine List.ext_getElem hlen fun j h1 h2 => ?_
      have := he j (by omega)
      rwa [getD_at _ _ h1, getD_at _ _ h2] at this
  · have hne : ((L.length : Int) != (M.length : Int)) = true := by simp; omega
    simp (disch := omega) only [go_sem, Nat.reduceEqDiff, ↓reduceIte, Nat.reduceAdd, a0, a1, hne, Tryd.results37]
    exact ⟨by rw [decide_eq_false (fun e => hlen (by rw [e]))], Ext.refl _⟩


theorem fnSheetsBetween_c (a : Option Addr) (l : List Int) (c : Nat) (w : World) (hl : l.length ≤ c) (hc : c ≤ maxLen) (hs : ByteS w a l) :
    Ret Tryd.prog 12 #[.slice a l.length c] w fun v w' => v = .bool true ∧ Ext w w' := by
  have hmax := maxLen_le (Nat.le_trans hl hc)
  refine enter1 Tryd.func12 rfl (by kernel_rfl) (of_decide_eq_true (by kernel_rfl)) fun f a0 => ?_
  by_cases hbig : (1048576 : Int) < l.length
  · simp (disch := omega) only [go_sem, Nat.reduceEqDiff, ↓reduceIte, Nat.reduceAdd, a0, hbig, Tryd.results12]
    exact ⟨trivial, Ext.refl _⟩
  simp (disch := omega) only [go_sem, Nat.reduceEqDiff, ↓reduceIte, Nat.reduceAdd, a0, hbig]
  refine callK_of (by kernel_rfl) (drawSheetsBetween_c _ _ _ _ hl hc hs) ?_
  rintro _ w1 ⟨ax, ay, bx, dy, rfl, h1, h2, h3, h4, x1⟩
  simp (disch := omega) only [go_sem, Nat.reduceEqDiff, ↓reduceIte, Nat.reduceAdd]
  refine callK_of (by kernel_rfl) (implSheetsBetween_c ax ay bx dy _) ?_
  rintro _ w2 ⟨ga, gc, rfl, x2, og, hga⟩
  simp (disch := omega) only [go_sem, Nat.reduceEqDiff, ↓reduceIte, Nat.reduceAdd]
  refine callK_of (by kernel_rfl) (specSheetsBetween_c ax ay bx dy _) ?_
  rintro _ w3 ⟨wa, wc, rfl, x3, ow, hwa⟩
  have x13 := (x1.trans x2).trans x3
  have hn := btList_len ax ay bx dy
  have hd : decide (btList ax ay bx dy = btList ax ay bx dy) = true := decide_eq_true rfl
  have hk : (!(btOk ax ay bx dy == btOk ax ay bx dy)) = false := by simp
  cases hb : btOk ax ay bx dy with
  | false =>
    rw [hb] at hk
    simp (disch := omega) only [go_sem, Nat.reduceEqDiff, ↓reduceIte, Nat.reduceAdd, hk]
    refine callK_pure (by kernel_rfl) (sameTexts_c _ _ _ _ gc wc _ (og.ext x3).strs ow.strs (by omega) (by omega)) fun w4 x4 => ?_
    simp (disch := omega) only [go_sem, Nat.reduceEqDiff, ↓reduceIte, Nat.reduceAdd, hd, beq_self_eq_true]
    refine callK_pure (by kernel_rfl) (sameTexts_c _ _ _ _ gc wc _ ((og.ext x3).ext x4).strs (ow.ext x4).strs (by omega) (by omega)) fun w5 x5 => ?_
    simp (disch := omega) only [go_sem, Nat.reduceEqDiff, ↓reduceIte, Nat.reduceAdd, hd, Tryd.results12]
    exact ⟨trivial, (x13.trans x4).trans x5⟩
  | true =>
    rw [hb] at hk
    have B := bt_of hb
    have hlist := B.list
    have inj : ∀ i j, i < wid ay dy * wid ax bx → j < wid ay dy * wid ax bx → nam (lo4 ax bx) (lo4 ay dy) (wid ax bx) i = nam (lo4 ax bx) (lo4 ay dy) (wid ax bx) j → i = j := fun i j hi hj h => nam_inj B.w B.c B.r hi hj h
    have next : ∀ i, i + 1 < wid ay dy * wid ax bx → (nam (lo4 ax bx) (lo4 ay dy) (wid ax bx) (i + 1)).take 1 = (nam (lo4 ax bx) (lo4 ay dy) (wid ax bx) i).take 1 → bsOk (nam (lo4 ax bx) (lo4 ay dy) (wid ax bx) i) 1 0 = true ∧ bsName (nam (lo4 ax bx) (lo4 ay dy) (wid ax bx) i) 1 0 = nam (lo4 ax bx) (lo4 ay dy) (wid ax bx) (i + 1) := fun i hi h => nam_next B.w B.c B.r hi h
    have hasA : ∃ i, i < wid ay dy * wid ax bx ∧ nam (lo4 ax bx) (lo4 ay dy) (wid ax bx) i = sname (ax.toNat / 4) (ay.toNat / 4) := nam_has B.sax B.say
    have hasB : ∃ i, i < wid ay dy * wid ax bx ∧ nam (lo4 ax bx) (lo4 ay dy) (wid ax bx) i = sname (bx.toNat / 4) (dy.toNat / 4) := nam_has B.sbx B.sby
    have nlen : ∀ i, i < wid ay dy * wid ax bx → 2 ≤ (nam (lo4 ax bx) (lo4 ay dy) (wid ax bx) i).length := fun i _ => (sname_len _ _).1
    have e1 : sheetOf ax ay = sname (ax.toNat / 4) (ay.toNat / 4) := by rw [sheetOf, if_pos B.pa]
    have e2 : sheetOf bx dy = sname (bx.toNat / 4) (dy.toNat / 4) := by rw [sheetOf, if_pos B.pb]
    have hlen : (btList ax ay bx dy).length = wid ay dy * wid ax bx := by rw [hlist, nams_len]
    have hpos : 1 ≤ wid ay dy * wid ax bx := Nat.mul_le_mul B.h B.w
    have hget : ∀ i, i < wid ay dy * wid ax bx → (btList ax ay bx dy).getD i [] = nam (lo4 ax bx) (lo4 ay dy) (wid ax bx) i := fun i hi => by rw [hlist, nams_get hi]
    have hpa := B.pa
    have hpb := B.pb
    rw [← e1] at hasA
    rw [← e2] at hasB
    simp (disch := omega) only [go_sem, Nat.reduceEqDiff, ↓reduceIte, Nat.reduceAdd, hk]
    refine callK_pure (by kernel_rfl) (sameTexts_c _ _ _ _ gc wc _ (og.ext x3).strs ow.strs (by omega) (by omega)) fun w4 x4 => ?_
    simp (disch := omega) only [go_sem, Nat.reduceEqDiff, ↓reduceIte, Nat.reduceAdd, hd]
    refine callK_of (by kernel_rfl) (implSheetsBetween_c bx dy ax ay _) ?_
    rintro _ w5 ⟨ba, bc, rfl, x5, ob, hba⟩
    rw [btList_symm ax ay bx dy, bt_symm ax ay bx dy, hb]
    rw [btList_symm ax ay bx dy] at ob
    simp (disch := omega) only [go_sem, Nat.reduceEqDiff, ↓reduceIte, Nat.reduceAdd]
    refine callK_pure (by kernel_rfl) (implSheetOf_c _ _ _) fun w6 x6 => ?_
    simp (disch := omega) only [go_sem, Nat.reduceEqDiff, ↓reduceIte, Nat.reduceAdd]
    refine callK_pure (by kernel_rfl) (implSheetOf_c _ _ _) fun w7 x7 => ?_
    have x17 := (((x13.trans x4).trans x5).trans x6).trans x7
    have og7 := ((((og.ext x3).ext x4).ext x5).ext x6).ext x7
    have ob7 := (ob.ext x6).ext x7
    have sO := og7.strs
    have sB' := ob7.strs
    obtain ⟨gb, rfl⟩ := og7.some (by omega)
    have cl : ∀ {W : World}, Ext w7 W → ∀ k, k < wid ay dy * wid ax bx → W.cell? ⟨gb, k, none⟩ = some (.string (bs (nam (lo4 ax bx) (lo4 ay dy) (wid ax bx) k))) := fun x k hk => by
      have := (sO.ext x).cell gb 0 rfl k (by omega)
      rw [Nat.zero_add, hget k hk] at this
      exact this
    have fin : ∀ {W : World}, Ext w7 W → Ret Tryd.prog 37 #[.slice ba (wid ay dy * wid ax bx) bc, .slice (some ⟨gb, 0, none⟩) (wid ay dy * wid ax bx) gc] W fun v w' => v = .bool true ∧ Ext W w' := fun x => by
      have := sameTexts_c ba (some ⟨gb, 0, none⟩) _ _ bc gc _ (sB'.ext x) (sO.ext x) (by omega) (by omega)
      rw [hlen, hd] at this
      exact this
    rw [hlen, hpa, hpb]
    generalize hnm : nam (lo4 ax bx) (lo4 ay dy) (wid ax bx) = nm at *
    generalize hnn : wid ay dy * wid ax bx = n at *
    generalize sheetOf ax ay = sA at *
    generalize sheetOf bx dy = sB at *
    simp (disch := omega) only [go_sem, Nat.reduceEqDiff, ↓reduceIte, Nat.reduceAdd]
    refine loopN n (fun k f W => f 7 = .slice (some ⟨gb, 0, none⟩) n gc ∧ f 11 = .slice ba n bc ∧ f 12 = .bool true ∧ f 13 = .string (bs sA) ∧ f 14 = .bool true ∧ f 15 = .string (bs sB) ∧ f 16 = .bool true ∧ f 17 = .bool (hv nm sA k) ∧ f 18 = .bool (hv nm sB k) ∧ f 19 = .int .i64 k ∧ Ext w7 W)
      ⟨(by first | assumption | (simp only [upd_apply, Nat.reduceEqDiff, ↓reduceIte] <;> first | rfl | assumption) | simp [upd_apply, *]), (by first | assumption | (simp only [upd_apply, Nat.reduceEqDiff, ↓reduceIte] <;> first | rfl | assumption) | simp [upd_apply, *]), (by first | assumption | (simp only [upd_apply, Nat.reduceEqDiff, ↓reduceIte] <;> first | rfl | assumption) | simp [upd_apply, *]), (by first | assumption | (simp only [upd_apply, Nat.reduceEqDiff, ↓reduceIte] <;> first | rfl | assumption) | simp [upd_apply, *]), (by first | assumption | (simp only [upd_apply, Nat.reduceEqDiff, ↓reduceIte] <;> first | rfl | assumption) | simp [upd_apply, *]), (by first | assumption | (simp only [upd_apply, Nat.reduceEqDiff, ↓reduceIte] <;> first | rfl | assumption) | simp [upd_apply, *]), (by first | assumption | (simp only [upd_apply, Nat.reduceEqDiff, ↓reduceIte] <;> first | rfl | assumption) | simp [upd_apply, *]), (by first | assumption | (simp only [upd_apply, Nat.reduceEqDiff, ↓reduceIte] <;> first | rfl | assumption) | simp [upd_apply, *]), (by first | assumption | (simp only [upd_apply, Nat.reduceEqDiff, ↓reduceIte] <;> first | rfl | assumption) | simp [upd_apply, *]), (by first | assumption | (simp only [upd_apply, Nat.reduceEqDiff, ↓reduceIte] <;> first | rfl | assumption) | simp [upd_apply, *]), Ext.refl _⟩ fun k f W hk ⟨a7, a11, a12, a13, a14, a15, a16, a17, a18, a19, xw⟩ => ?_
    by_cases hlt : (k : Int) < n
    · have hkn : k < n := by omega
      cases hA : hv nm sA k <;> cases hB : hv nm sB k
      · simp (disch := omega) only [go_sem, Nat.reduceEqDiff, ↓reduceIte, Nat.reduceAdd, a17, a18, hA, hB, a7, a13, a15, a19, hlt, cl xw k hkn]
        refine loopN k (fun j f W' => f 7 = .slice (some ⟨gb, 0, none⟩) n gc ∧ f 11 = .slice ba n bc ∧ f 12 = .bool true ∧ f 13 = .string (bs sA) ∧ f 14 = .bool true ∧ f 15 = .string (bs sB) ∧ f 16 = .bool true ∧ f 17 = .bool (hv nm sA (k + 1)) ∧ f 18 = .bool (hv nm sB (k + 1)) ∧ f 19 = .int .i64 k ∧ f 20 = .int .i64 j ∧ Ext W W')
          ⟨(by first | assumption | (simp only [upd_apply, Nat.reduceEqDiff, ↓reduceIte] <;> first | rfl | assumption) | simp [upd_apply, *]), (by first | assumption | (simp only [upd_apply, Nat.reduceEqDiff, ↓reduceIte] <;> first | rfl | assumption) | simp [upd_apply, *]), (by first | assumption | (simp only [upd_apply, Nat.reduceEqDiff, ↓reduceIte] <;> first | rfl | assumption) | simp [upd_apply, *]), (by first | assumption | (simp only [upd_apply, Nat.reduceEqDiff, ↓reduceIte] <;> first | rfl | assumption) | simp [upd_apply, *]), (by first | assumption | (simp only [upd_apply, Nat.reduceEqDiff, ↓reduceIte] <;> first | rfl | assumption) | simp [upd_apply, *]), (by first | assumption | (simp only [upd_apply, Nat.reduceEqDiff, ↓reduceIte] <;> first | rfl | assumption) | simp [upd_apply, *]), (by first | assumption | (simp only [upd_apply, Nat.reduceEqDiff, ↓reduceIte] <;> first | rfl | assumption) | simp [upd_apply, *]), by simp [upd_apply, hv_succ, hA], by simp [upd_apply, hv_succ, hB], (by first | assumption | (simp only [upd_apply, Nat.reduceEqDiff, ↓reduceIte] <;> first | rfl | assumption) | simp [upd_apply, *]), (by first | assumption | (simp only [upd_apply, Nat.reduceEqDiff, ↓reduceIte] <;> first | rfl | assumption) | simp [upd_apply, *]), Ext.refl _⟩ fun j f W' hj ⟨a7, a11, a12, a13, a14, a15, a16, a17, a18, a19, a20, xi⟩ => ?_
        have xw' := xw.trans xi
        by_cases hjk : (j : Int) < k
        · have hne : (nm j == nm k) = false := by rw [beq_eq_false_iff_ne]; exact fun e => by have := inj j k (by omega) hkn e; omega
          simp (disch := omega) only [go_sem, Nat.reduceEqDiff, ↓reduceIte, Nat.reduceAdd, a19, a20, hjk]
          refine QR_of (by kernel_rfl) (by kernel_rfl) ?_
          simp (disch := omega) only [go_sem, Nat.reduceEqDiff, ↓reduceIte, Nat.reduceAdd, a7, a19, a20, cl xw' j (by omega), cl xw' k hkn, hne]
          exact fun w2 x2 => ⟨by omega, (by first | assumption | (simp only [upd_apply, Nat.reduceEqDiff, ↓reduceIte] <;> first | rfl | assumption) | simp [upd_apply, *]), (by first | assumption | (simp only [upd_apply, Nat.reduceEqDiff, ↓reduceIte] <;> first | rfl | assumption) | simp [upd_apply, *]), (by first | assumption | (simp only [upd_apply, Nat.reduceEqDiff, ↓reduceIte] <;> first | rfl | assumption) | simp [upd_apply, *]), (by first | assumption | (simp only [upd_apply, Nat.reduceEqDiff, ↓reduceIte] <;> first | rfl | assumption) | simp [upd_apply, *]), (by first | assumption | (simp only [upd_apply, Nat.reduceEqDiff, ↓reduceIte] <;> first | rfl | assumption) | simp [upd_apply, *]), (by first | assumption | (simp only [upd_apply, Nat.reduceEqDiff, ↓reduceIte] <;> first | rfl | assumption) | simp [upd_apply, *]), (by first | assumption | (simp only [upd_apply, Nat.reduceEqDiff, ↓reduceIte] <;> first | rfl | assumption) | simp [upd_apply, *]), (by first | assumption | (simp only [upd_apply, Nat.reduceEqDiff, ↓reduceIte] <;> first | rfl | assumption) | simp [upd_apply, *]), (by first | assumption | (simp only [upd_apply, Nat.reduceEqDiff, ↓reduceIte] <;> first | rfl | assumption) | simp [upd_apply, *]), (by first | assumption | (simp only [upd_apply, Nat.reduceEqDiff, ↓reduceIte] <;> first | rfl | assumption) | simp [upd_apply, *]), (by first | assumption | (simp only [upd_apply, Nat.reduceEqDiff, ↓reduceIte] <;> first | rfl | assumption) | simp [upd_apply, *]), xi.trans x2⟩
        · simp (disch := omega) only [go_sem, Nat.reduceEqDiff, ↓reduceIte, Nat.reduceAdd, a19, a20, hjk]
          refine QR_of (by kernel_rfl) (by kernel_rfl) ?_
          by_cases h0 : (0 : Int) < k
          · have ek : (k : Int) - 1 = ((k - 1 : Nat) : Int) := by omega
            have l1 := nlen k hkn
            have l2 := nlen (k - 1) (by omega)
            by_cases he : (nm k).take 1 = (nm (k - 1)).take 1
            · have heb : ((nm k).take 1 == (nm (k - 1)).take 1) = true := by simpa using he
              obtain ⟨q1, q2⟩ := next (k - 1) (by omega) (by rw [show k - 1 + 1 = k by omega]; exact he)
              rw [show k - 1 + 1 = k by omega] at q2
              simp (disch := omega) only [go_sem, Nat.reduceEqDiff, ↓reduceIte, Nat.reduceAdd, a7, a19, h0, ek, cl xw' k hkn, cl xw' (k - 1) (by omega), Int.reduceToNat, heb]
              intro w9 x9
              have xw9 := xw'.trans x9
              simp (disch := omega) only [go_sem, Nat.reduceEqDiff, ↓reduceIte, Nat.reduceAdd, a7, a19, ek, cl xw9 (k - 1) (by omega)]
              refine callK_pure (by kernel_rfl) (implSheetBeside_c _ _ _ _) fun w10 x10 => ?_
              have xw10 := xw9.trans x10
              have hnn : (!(nm k == nm k)) = false := by simp
              simp (disch := omega) only [go_sem, Nat.reduceEqDiff, ↓reduceIte, Nat.reduceAdd, a7, a19, q1, q2, cl xw10 k hkn, hnn]
              exact ⟨by omega, (by first | assumption | (simp only [upd_apply, Nat.reduceEqDiff, ↓reduceIte] <;> first | rfl | assumption) | simp [upd_apply, *]), (by first | assumption | (simp only [upd_apply, Nat.reduceEqDiff, ↓reduceIte] <;> first | rfl | assumption) | simp [upd_apply, *]), (by first | assumption | (simp only [upd_apply, Nat.reduceEqDiff, ↓reduceIte] <;> first | rfl | assumption) | simp [upd_apply, *]), (by first | assumption | (simp only [upd_apply, Nat.reduceEqDiff, ↓reduceIte] <;> first | rfl | assumption) | simp [upd_apply, *]), (by first | assumption | (simp only [upd_apply, Nat.reduceEqDiff, ↓reduceIte] <;> first | rfl | assumption) | simp [upd_apply, *]), (by first | assumption | (simp only [upd_apply, Nat.reduceEqDiff, ↓reduceIte] <;> first | rfl | assumption) | simp [upd_apply, *]), (by first | assumption | (simp only [upd_apply, Nat.reduceEqDiff, ↓reduceIte] <;> first | rfl | assumption) | simp [upd_apply, *]), (by first | assumption | (simp only [upd_apply, Nat.reduceEqDiff, ↓reduceIte] <;> first | rfl | assumption) | simp [upd_apply, *]), (by first | assumption | (simp only [upd_apply, Nat.reduceEqDiff, ↓reduceIte] <;> first | rfl | assumption) | simp [upd_apply, *]), by simp [upd_apply], xw10⟩
            · have heb : ((nm k).take 1 == (nm (k - 1)).take 1) = false := by simpa using he
              simp (disch := omega) only [go_sem, Nat.reduceEqDiff, ↓reduceIte, Nat.reduceAdd, a7, a19, h0, ek, cl xw' k hkn, cl xw' (k - 1) (by omega), Int.reduceToNat, heb]
              exact fun w9 x9 => ⟨by omega, (by first | assumption | (simp only [upd_apply, Nat.reduceEqDiff, ↓reduceIte] <;> first | rfl | assumption) | simp [upd_apply, *]), (by first | assumption | (simp only [upd_apply, Nat.reduceEqDiff, ↓reduceIte] <;> first | rfl | assumption) | simp [upd_apply, *]), (by first | assumption | (simp only [upd_apply, Nat.reduceEqDiff, ↓reduceIte] <;> first | rfl | assumption) | simp [upd_apply, *]), (by first | assumption | (simp only [upd_apply, Nat.reduceEqDiff, ↓reduceIte] <;> first | rfl | assumption) | simp [upd_apply, *]), (by first | assumption | (simp only [upd_apply, Nat.reduceEqDiff, ↓reduceIte] <;> first | rfl | assumption) | simp [upd_apply, *]), (by first | assumption | (simp only [upd_apply, Nat.reduceEqDiff, ↓reduceIte] <;> first | rfl | assumption) | simp [upd_apply, *]), (by first | assumption | (simp only [upd_apply, Nat.reduceEqDiff, ↓reduceIte] <;> first | rfl | assumption) | simp [upd_apply, *]), (by first | assumption | (simp only [upd_apply, Nat.reduceEqDiff, ↓reduceIte] <;> first | rfl | assumption) | simp [upd_apply, *]), (by first | assumption | (simp only [upd_apply, Nat.reduceEqDiff, ↓reduceIte] <;> first | rfl | assumption) | simp [upd_apply, *]), by simp [upd_apply], xw'.trans x9⟩
          · simp (disch := omega) only [go_sem, Nat.reduceEqDiff, ↓reduceIte, Nat.reduceAdd, a19, h0]
            exact fun w9 x9 => ⟨by omega, (by first | assumption | (simp only [upd_apply, Nat.reduceEqDiff, ↓reduceIte] <;> first | rfl | assumption) | simp [upd_apply, *]), (by first | assumption | (simp only [upd_apply, Nat.reduceEqDiff, ↓reduceIte] <;> first | rfl | assumption) | simp [upd_apply, *]), (by first | assumption | (simp only [upd_apply, Nat.reduceEqDiff, ↓reduceIte] <;> first | rfl | assumption) | simp [upd_apply, *]), (by first | assumption | (simp only [upd_apply, Nat.reduceEqDiff, ↓reduceIte] <;> first | rfl | assumption) | simp [upd_apply, *]), (by first | assumption | (simp only [upd_apply, Nat.reduceEqDiff, ↓reduceIte] <;> first | rfl | assumption) | simp [upd_apply, *]), (by first | assumption | (simp only [upd_apply, Nat.reduceEqDiff, ↓reduceIte] <;> first | rfl | assumption) | simp [upd_apply, *]), (by first | assumption | (simp only [upd_apply, Nat.reduceEqDiff, ↓reduceIte] <;> first | rfl | assumption) | simp [upd_apply, *]), (by first | assumption | (simp only [upd_apply, Nat.reduceEqDiff, ↓reduceIte] <;> first | rfl | assumption) | simp [upd_apply, *]), (by first | assumption | (simp only [upd_apply, Nat.reduceEqDiff, ↓reduceIte] <;> first | rfl | assumption) | simp [upd_apply, *]), by simp [upd_apply], xw'.trans x9⟩
      · simp (disch := omega) only [go_sem, Nat.reduceEqDiff, ↓reduceIte, Nat.reduceAdd, a17, a18, hA, hB, a7, a13, a15, a19, hlt, cl xw k hkn]
        refine loopN k (fun j f W' => f 7 = .slice (some ⟨gb, 0, none⟩) n gc ∧ f 11 = .slice ba n bc ∧ f 12 = .bool true ∧ f 13 = .string (bs sA) ∧ f 14 = .bool true ∧ f 15 = .string (bs sB) ∧ f 16 = .bool true ∧ f 17 = .bool (hv nm sA (k + 1)) ∧ f 18 = .bool (hv nm sB (k + 1)) ∧ f 19 = .int .i64 k ∧ f 20 = .int .i64 j ∧ Ext W W')
          ⟨(by first | assumption | (simp only [upd_apply, Nat.reduceEqDiff, ↓reduceIte] <;> first | rfl | assumption) | simp [upd_apply, *]), (by first | assumption | (simp only [upd_apply, Nat.reduceEqDiff, ↓reduceIte] <;> first | rfl | assumption) | simp [upd_apply, *]), (by first | assumption | (simp only [upd_apply, Nat.reduceEqDiff, ↓reduceIte] <;> first | rfl | assumption) | simp [upd_apply, *]), (by first | assumption | (simp only [upd_apply, Nat.reduceEqDiff, ↓reduceIte] <;> first | rfl | assumption) | simp [upd_apply, *]), (by first | assumption | (simp only [upd_apply, Nat.reduceEqDiff, ↓reduceIte] <;> first | rfl | assumption) | simp [upd_apply, *]), (by first | assumption | (simp only [upd_apply, Nat.reduceEqDiff, ↓reduceIte] <;> first | rfl | assumption) | simp [upd_apply, *]), (by first | assumption | (simp only [upd_apply, Nat.reduceEqDiff, ↓reduceIte] <;> first | rfl | assumption) | simp [upd_apply, *]), by simp [upd_apply, hv_succ, hA], by simp [upd_apply, hv_succ, hB], (by first | assumption | (simp only [upd_apply, Nat.reduceEqDiff, ↓reduceIte] <;> first | rfl | assumption) | simp [upd_apply, *]), (by first | assumption | (simp only [upd_apply, Nat.reduceEqDiff, ↓reduceIte] <;> first | rfl | assumption) | simp [upd_apply, *]), Ext.refl _⟩ fun j f W' hj ⟨a7, a11, a12, a13, a14, a15, a16, a17, a18, a19, a20, xi⟩ => ?_
        have xw' := xw.trans xi
        by_cases hjk : (j : Int) < k
        · have hne : (nm j == nm k) = false := by rw [beq_eq_false_iff_ne]; exact fun e => by have := inj j k (by omega) hkn e; omega
          simp (disch := omega) only [go_sem, Nat.reduceEqDiff, ↓reduceIte, Nat.reduceAdd, a19, a20, hjk]
          refine QR_of (by kernel_rfl) (by kernel_rfl) ?_
          simp (disch := omega) only [go_sem, Nat.reduceEqDiff, ↓reduceIte, Nat.reduceAdd, a7, a19, a20, cl xw' j (by omega), cl xw' k hkn, hne]
          exact fun w2 x2 => ⟨by omega, (by first | assumption | (simp only [upd_apply, Nat.reduceEqDiff, ↓reduceIte] <;> first | rfl | assumption) | simp [upd_apply, *]), (by first | assumption | (simp only [upd_apply, Nat.reduceEqDiff, ↓reduceIte] <;> first | rfl | assumption) | simp [upd_apply, *]), (by first | assumption | (simp only [upd_apply, Nat.reduceEqDiff, ↓reduceIte] <;> first | rfl | assumption) | simp [upd_apply, *]), (by first | assumption | (simp only [upd_apply, Nat.reduceEqDiff, ↓reduceIte] <;> first | rfl | assumption) | simp [upd_apply, *]), (by first | assumption | (simp only [upd_apply, Nat.reduceEqDiff, ↓reduceIte] <;> first | rfl | assumption) | simp [upd_apply, *]), (by first | assumption | (simp only [upd_apply, Nat.reduceEqDiff, ↓reduceIte] <;> first | rfl | assumption) | simp [upd_apply, *]), (by first | assumption | (simp only [upd_apply, Nat.reduceEqDiff, ↓reduceIte] <;> first | rfl | assumption) | simp [upd_apply, *]), (by first | assumption | (simp only [upd_apply, Nat.reduceEqDiff, ↓reduceIte] <;> first | rfl | assumption) | simp [upd_apply, *]), (by first | assumption | (simp only [upd_apply, Nat.reduceEqDiff, ↓reduceIte] <;> first | rfl | assumption) | simp [upd_apply, *]), (by first | assumption | (simp only [upd_apply, Nat.reduceEqDiff, ↓reduceIte] <;> first | rfl | assumption) | simp [upd_apply, *]), (by first | assumption | (simp only [upd_apply, Nat.reduceEqDiff, ↓reduceIte] <;> first | rfl | assumption) | simp [upd_apply, *]), xi.trans x2⟩
        · simp (disch := omega) only [go_sem, Nat.reduceEqDiff, ↓reduceIte, Nat.reduceAdd, a19, a20, hjk]
          refine QR_of (by kernel_rfl) (by kernel_rfl) ?_
          by_cases h0 : (0 : Int) < k
          · have ek : (k : Int) - 1 = ((k - 1 : Nat) : Int) := by omega
            have l1 := nlen k hkn
            have l2 := nlen (k - 1) (by omega)
            by_cases he : (nm k).take 1 = (nm (k - 1)).take 1
            · have heb : ((nm k).take 1 == (nm (k - 1)).take 1) = true := by simpa using he
              obtain ⟨q1, q2⟩ := next (k - 1) (by omega) (by rw [show k - 1 + 1 = k by omega]; exact he)
              rw [show k - 1 + 1 = k by omega] at q2
              simp (disch := omega) only [go_sem, Nat.reduceEqDiff, ↓reduceIte, Nat.reduceAdd, a7, a19, h0, ek, cl xw' k hkn, cl xw' (k - 1) (by omega), Int.reduceToNat, heb]
              intro w9 x9
              have xw9 := xw'.trans x9
              simp (disch := omega) only [go_sem, Nat.reduceEqDiff, ↓reduceIte, Nat.reduceAdd, a7, a19, ek, cl xw9 (k - 1) (by omega)]
              refine callK_pure (by kernel_rfl) (implSheetBeside_c _ _ _ _) fun w10 x10 => ?_
              have xw10 := xw9.trans x10
              have hnn : (!(nm k == nm k)) = false := by simp
              simp (disch := omega) only [go_sem, Nat.reduceEqDiff, ↓reduceIte, Nat.reduceAdd, a7, a19, q1, q2, cl xw10 k hkn, hnn]
              exact ⟨by omega, (by first | assumption | (simp only [upd_apply, Nat.reduceEqDiff, ↓reduceIte] <;> first | rfl | assumption) | simp [upd_apply, *]), (by first | assumption | (simp only [upd_apply, Nat.reduceEqDiff, ↓reduceIte] <;> first | rfl | assumption) | simp [upd_apply, *]), (by first | assumption | (simp only [upd_apply, Nat.reduceEqDiff, ↓reduceIte] <;> first | rfl | assumption) | simp [upd_apply, *]), (by first | assumption | (simp only [upd_apply, Nat.reduceEqDiff, ↓reduceIte] <;> first | rfl | assumption) | simp [upd_apply, *]), (by first | assumption | (simp only [upd_apply, Nat.reduceEqDiff, ↓reduceIte] <;> first | rfl | assumption) | simp [upd_apply, *]), (by first | assumption | (simp only [upd_apply, Nat.reduceEqDiff, ↓reduceIte] <;> first | rfl | assumption) | simp [upd_apply, *]), (by first | assumption | (simp only [upd_apply, Nat.reduceEqDiff, ↓reduceIte] <;> first | rfl | assumption) | simp [upd_apply, *]), (by first | assumption | (simp only [upd_apply, Nat.reduceEqDiff, ↓reduceIte] <;> first | rfl | assumption) | simp [upd_apply, *]), (by first | assumption | (simp only [upd_apply, Nat.reduceEqDiff, ↓reduceIte] <;> first | rfl | assumption) | simp [upd_apply, *]), by simp [upd_apply], xw10⟩
            · have heb : ((nm k).take 1 == (nm (k - 1)).take 1) = false := by simpa using he
              simp (disch := omega) only [go_sem, Nat.reduceEqDiff, ↓reduceIte, Nat.reduceAdd, a7, a19, h0, ek, cl xw' k hkn, cl xw' (k - 1) (by omega), Int.reduceToNat, heb]
              exact fun w9 x9 => ⟨by omega, (by first | assumption | (simp only [upd_apply, Nat.reduceEqDiff, ↓reduceIte] <;> first | rfl | assumption) | simp [upd_apply, *]), (by first | assumption | (simp only [upd_apply, Nat.reduceEqDiff, ↓reduceIte] <;> first | rfl | assumption) | simp [upd_apply, *]), (by first | assumption | (simp only [upd_apply, Nat.reduceEqDiff, ↓reduceIte] <;> first | rfl | assumption) | simp [upd_apply, *]), (by first | assumption | (simp only [upd_apply, Nat.reduceEqDiff, ↓reduceIte] <;> first | rfl | assumption) | simp [upd_apply, *]), (by first | assumption | (simp only [upd_apply, Nat.reduceEqDiff, ↓reduceIte] <;> first | rfl | assumption) | simp [upd_apply, *]), (by first | assumption | (simp only [upd_apply, Nat.reduceEqDiff, ↓reduceIte] <;> first | rfl | assumption) | simp [upd_apply, *]), (by first | assumption | (simp only [upd_apply, Nat.reduceEqDiff, ↓reduceIte] <;> first | rfl | assumption) | simp [upd_apply, *]), (by first | assumption | (simp only [upd_apply, Nat.reduceEqDiff, ↓reduceIte] <;> first | rfl | assumption) | simp [upd_apply, *]), (by first | assumption | (simp only [upd_apply, Nat.reduceEqDiff, ↓reduceIte] <;> first | rfl | assumption) | simp [upd_apply, *]), by simp [upd_apply], xw'.trans x9⟩
          · simp (disch := omega) only [go_sem, Nat.reduceEqDiff, ↓reduceIte, Nat.reduceAdd, a19, h0]
            exact fun w9 x9 => ⟨by omega, (by first | assumption | (simp only [upd_apply, Nat.reduceEqDiff, ↓reduceIte] <;> first | rfl | assumption) | simp [upd_apply, *]), (by first | assumption | (simp only [upd_apply, Nat.reduceEqDiff, ↓reduceIte] <;> first | rfl | assumption) | simp [upd_apply, *]), (by first | assumption | (simp only [upd_apply, Nat.reduceEqDiff, ↓reduceIte] <;> first | rfl | assumption) | simp [upd_apply, *]), (by first | assumption | (simp only [upd_apply, Nat.reduceEqDiff, ↓reduceIte] <;> first | rfl | assumption) | simp [upd_apply, *]), (by first | assumption | (simp only [upd_apply, Nat.reduceEqDiff, ↓reduceIte] <;> first | rfl | assumption) | simp [upd_apply, *]), (by first | assumption | (simp only [upd_apply, Nat.reduceEqDiff, ↓reduceIte] <;> first | rfl | assumption) | simp [upd_apply, *]), (by first | assumption | (simp only [upd_apply, Nat.reduceEqDiff, ↓reduceIte] <;> first | rfl | assumption) | simp [upd_apply, *]), (by first | assumption | (simp only [upd_apply, Nat.reduceEqDiff, ↓reduceIte] <;> first | rfl | assumption) | simp [upd_apply, *]), (by first | assumption | (simp only [upd_apply, Nat.reduceEqDiff, ↓reduceIte] <;> first | rfl | assumption) | simp [upd_apply, *]), by simp [upd_apply], xw'.trans x9⟩
      · simp (disch := omega) only [go_sem, Nat.reduceEqDiff, ↓reduceIte, Nat.reduceAdd, a17, a18, hA, hB, a7, a13, a15, a19, hlt, cl xw k hkn]
        refine loopN k (fun j f W' => f 7 = .slice (some ⟨gb, 0, none⟩) n gc ∧ f 11 = .slice ba n bc ∧ f 12 = .bool true ∧ f 13 = .string (bs sA) ∧ f 14 = .bool true ∧ f 15 = .string (bs sB) ∧ f 16 = .bool true ∧ f 17 = .bool (hv nm sA (k + 1)) ∧ f 18 = .bool (hv nm sB (k + 1)) ∧ f 19 = .int .i64 k ∧ f 20 = .int .i64 j ∧ Ext W W')
          ⟨(by first | assumption | (simp only [upd_apply, Nat.reduceEqDiff, ↓reduceIte] <;> first | rfl | assumption) | simp [upd_apply, *]), (by first | assumption | (simp only [upd_apply, Nat.reduceEqDiff, ↓reduceIte] <;> first | rfl | assumption) | simp [upd_apply, *]), (by first | assumption | (simp only [upd_apply, Nat.reduceEqDiff, ↓reduceIte] <;> first | rfl | assumption) | simp [upd_apply, *]), (by first | assumption | (simp only [upd_apply, Nat.reduceEqDiff, ↓reduceIte] <;> first | rfl | assumption) | simp [upd_apply, *]), (by first | assumption | (simp only [upd_apply, Nat.reduceEqDiff, ↓reduceIte] <;> first | rfl | assumption) | simp [upd_apply, *]), (by first | assumption | (simp only [upd_apply, Nat.reduceEqDiff, ↓reduceIte] <;> first | rfl | assumption) | simp [upd_apply, *]), (by first | assumption | (simp only [upd_apply, Nat.reduceEqDiff, ↓reduceIte] <;> first | rfl | assumption) | simp [upd_apply, *]), by simp [upd_apply, hv_succ, hA], by simp [upd_apply, hv_succ, hB], (by first | assumption | (simp only [upd_apply, Nat.reduceEqDiff, ↓reduceIte] <;> first | rfl | assumption) | simp [upd_apply, *]), (by first | assumption | (simp only [upd_apply, Nat.reduceEqDiff, ↓reduceIte] <;> first | rfl | assumption) | simp [upd_apply, *]), Ext.refl _⟩ fun j f W' hj ⟨a7, a11, a12, a13, a14, a15, a16, a17, a18, a19, a20, xi⟩ => ?_
        have xw' := xw.trans xi
        by_cases hjk : (j : Int) < k
        · have hne : (nm j == nm k) = false := by rw [beq_eq_false_iff_ne]; exact fun e => by have := inj j k (by omega) hkn e; omega
          simp (disch := omega) only [go_sem, Nat.reduceEqDiff, ↓reduceIte, Nat.reduceAdd, a19, a20, hjk]
          refine QR_of (by kernel_rfl) (by kernel_rfl) ?_
          simp (disch := omega) only [go_sem, Nat.reduceEqDiff, ↓reduceIte, Nat.reduceAdd, a7, a19, a20, cl xw' j (by omega), cl xw' k hkn, hne]
          exact fun w2 x2 => ⟨by omega, (by first | assumption | (simp only [upd_apply, Nat.reduceEqDiff, ↓reduceIte] <;> first | rfl | assumption) | simp [upd_apply, *]), (by first | assumption | (simp only [upd_apply, Nat.reduceEqDiff, ↓reduceIte] <;> first | rfl | assumption) | simp [upd_apply, *]), (by first | assumption | (simp only [upd_apply, Nat.reduceEqDiff, ↓reduceIte] <;> first | rfl | assumption) | simp [upd_apply, *]), (by first | assumption | (simp only [upd_apply, Nat.reduceEqDiff, ↓reduceIte] <;> first | rfl | assumption) | simp [upd_apply, *]), (by first | assumption | (simp only [upd_apply, Nat.reduceEqDiff, ↓reduceIte] <;> first | rfl | assumption) | simp [upd_apply, *]), (by first | assumption | (simp only [upd_apply, Nat.reduceEqDiff, ↓reduceIte] <;> first | rfl | assumption) | simp [upd_apply, *]), (by first | assumption | (simp only [upd_apply, Nat.reduceEqDiff, ↓reduceIte] <;> first | rfl | assumption) | simp [upd_apply, *]), (by first | assumption | (simp only [upd_apply, Nat.reduceEqDiff, ↓reduceIte] <;> first | rfl | assumption) | simp [upd_apply, *]), (by first | assumption | (simp only [upd_apply, Nat.reduceEqDiff, ↓reduceIte] <;> first | rfl | assumption) | simp [upd_apply, *]), (by first | assumption | (simp only [upd_apply, Nat.reduceEqDiff, ↓reduceIte] <;> first | rfl | assumption) | simp [upd_apply, *]), (by first | assumption | (simp only [upd_apply, Nat.reduceEqDiff, ↓reduceIte] <;> first | rfl | assumption) | simp [upd_apply, *]), xi.trans x2⟩
        · simp (disch := omega) only [go_sem, Nat.reduceEqDiff, ↓reduceIte, Nat.reduceAdd, a19, a20, hjk]
          refine QR_of (by kernel_rfl) (by kernel_rfl) ?_
          by_cases h0 : (0 : Int) < k
          · have ek : (k : Int) - 1 = ((k - 1 : Nat) : Int) := by omega
            have l1 := nlen k hkn
            have l2 := nlen (k - 1) (by omega)
            by_cases he : (nm k).take 1 = (nm (k - 1)).take 1
            · have heb : ((nm k).take 1 == (nm (k - 1)).take 1) = true := by simpa using he
              obtain ⟨q1, q2⟩ := next (k - 1) (by omega) (by rw [show k - 1 + 1 = k by omega]; exact he)
              rw [show k - 1 + 1 = k by omega] at q2
              simp (disch := omega) only [go_sem, Nat.reduceEqDiff, ↓reduceIte, Nat.reduceAdd, a7, a19, h0, ek, cl xw' k hkn, cl xw' (k - 1) (by omega), Int.reduceToNat, heb]
              intro w9 x9
              have xw9 := xw'.trans x9
              simp (disch := omega) only [go_sem, Nat.reduceEqDiff, ↓reduceIte, Nat.reduceAdd, a7, a19, ek, cl xw9 (k - 1) (by omega)]
              refine callK_pure (by kernel_rfl) (implSheetBeside_c _ _ _ _) fun w10 x10 => ?_
              have xw10 := xw9.trans x10
              have hnn : (!(nm k == nm k)) = false := by simp
              simp (disch := omega) only [go_sem, Nat.reduceEqDiff, ↓reduceIte, Nat.reduceAdd, a7, a19, q1, q2, cl xw10 k hkn, hnn]
              exact ⟨by omega, (by first | assumption | (simp only [upd_apply, Nat.reduceEqDiff, ↓reduceIte] <;> first | rfl | assumption) | simp [upd_apply, *]), (by first | assumption | (simp only [upd_apply, Nat.reduceEqDiff, ↓reduceIte] <;> first | rfl | assumption) | simp [upd_apply, *]), (by first | assumption | (simp only [upd_apply, Nat.reduceEqDiff, ↓reduceIte] <;> first | rfl | assumption) | simp [upd_apply, *]), (by first | assumption | (simp only [upd_apply, Nat.reduceEqDiff, ↓reduceIte] <;> first | rfl | assumption) | simp [upd_apply, *]), (by first | assumption | (simp only [upd_apply, Nat.reduceEqDiff, ↓reduceIte] <;> first | rfl | assumption) | simp [upd_apply, *]), (by first | assumption | (simp only [upd_apply, Nat.reduceEqDiff, ↓reduceIte] <;> first | rfl | assumption) | simp [upd_apply, *]), (by first | assumption | (simp only [upd_apply, Nat.reduceEqDiff, ↓reduceIte] <;> first | rfl | assumption) | simp [upd_apply, *]), (by first | assumption | (simp only [upd_apply, Nat.reduceEqDiff, ↓reduceIte] <;> first | rfl | assumption) | simp [upd_apply, *]), (by first | assumption | (simp only [upd_apply, Nat.reduceEqDiff, ↓reduceIte] <;> first | rfl | assumption) | simp [upd_apply, *]), by simp [upd_apply], xw10⟩
            · have heb : ((nm k).take 1 == (nm (k - 1)).take 1) = false := by simpa using he
              simp (disch := omega) only [go_sem, Nat.reduceEqDiff, ↓reduceIte, Nat.reduceAdd, a7, a19, h0, ek, cl xw' k hkn, cl xw' (k - 1) (by omega), Int.reduceToNat, heb]
              exact fun w9 x9 => ⟨by omega, (by first | assumption | (simp only [upd_apply, Nat.reduceEqDiff, ↓reduceIte] <;> first | rfl | assumption) | simp [upd_apply, *]), (by first | assumption | (simp only [upd_apply, Nat.reduceEqDiff, ↓reduceIte] <;> first | rfl | assumption) | simp [upd_apply, *]), (by first | assumption | (simp only [upd_apply, Nat.reduceEqDiff, ↓reduceIte] <;> first | rfl | assumption) | simp [upd_apply, *]), (by first | assumption | (simp only [upd_apply, Nat.reduceEqDiff, ↓reduceIte] <;> first | rfl | assumption) | simp [upd_apply, *]), (by first | assumption | (simp only [upd_apply, Nat.reduceEqDiff, ↓reduceIte] <;> first | rfl | assumption) | simp [upd_apply, *]), (by first | assumption | (simp only [upd_apply, Nat.reduceEqDiff, ↓reduceIte] <;> first | rfl | assumption) | simp [upd_apply, *]), (by first | assumption | (simp only [upd_apply, Nat.reduceEqDiff, ↓reduceIte] <;> first | rfl | assumption) | simp [upd_apply, *]), (by first | assumption | (simp only [upd_apply, Nat.reduceEqDiff, ↓reduceIte] <;> first | rfl | assumption) | simp [upd_apply, *]), (by first | assumption | (simp only [upd_apply, Nat.reduceEqDiff, ↓reduceIte] <;> first | rfl | assumption) | simp [upd_apply, *]), by simp [upd_apply], xw'.trans x9⟩
          · simp (disch := omega) only [go_sem, Nat.reduceEqDiff, ↓reduceIte, Nat.reduceAdd, a19, h0]
            exact fun w9 x9 => ⟨by omega, (by first | assumption | (simp only [upd_apply, Nat.reduceEqDiff, ↓reduceIte] <;> first | rfl | assumption) | simp [upd_apply, *]), (by first | assumption | (simp only [upd_apply, Nat.reduceEqDiff, ↓reduceIte] <;> first | rfl | assumption) | simp [upd_apply, *]), (by first | assumption | (simp only [upd_apply, Nat.reduceEqDiff, ↓reduceIte] <;> first | rfl | assumption) | simp [upd_apply, *]), (by first | assumption | (simp only [upd_apply, Nat.reduceEqDiff, ↓reduceIte] <;> first | rfl | assumption) | simp [upd_apply, *]), (by first | assumption | (simp only [upd_apply, Nat.reduceEqDiff, ↓reduceIte] <;> first | rfl | assumption) | simp [upd_apply, *]), (by first | assumption | (simp only [upd_apply, Nat.reduceEqDiff, ↓reduceIte] <;> first | rfl | assumption) | simp [upd_apply, *]), (by first | assumption | (simp only [upd_apply, Nat.reduceEqDiff, ↓reduceIte] <;> first | rfl | assumption) | simp [upd_apply, *]), (by first | assumption | (simp only [upd_apply, Nat.reduceEqDiff, ↓reduceIte] <;> first | rfl | assumption) | simp [upd_apply, *]), (by first | assumption | (simp only [upd_apply, Nat.reduceEqDiff, ↓reduceIte] <;> first | rfl | assumption) | simp [upd_apply, *]), by simp [upd_apply], xw'.trans x9⟩
      · simp (disch := omega) only [go_sem, Nat.reduceEqDiff, ↓reduceIte, Nat.reduceAdd, a17, a18, hA, hB, a7, a13, a15, a19, hlt, cl xw k hkn]
        refine loopN k (fun j f W' => f 7 = .slice (some ⟨gb, 0, none⟩) n gc ∧ f 11 = .slice ba n bc ∧ f 12 = .bool true ∧ f 13 = .string (bs sA) ∧ f 14 = .bool true ∧ f 15 = .string (bs sB) ∧ f 16 = .bool true ∧ f 17 = .bool (hv nm sA (k + 1)) ∧ f 18 = .bool (hv nm sB (k + 1)) ∧ f 19 = .int .i64 k ∧ f 20 = .int .i64 j ∧ Ext W W')
          ⟨(by first | assumption | (simp only [upd_apply, Nat.reduceEqDiff, ↓reduceIte] <;> first | rfl | assumption) | simp [upd_apply, *]), (by first | assumption | (simp only [upd_apply, Nat.reduceEqDiff, ↓reduceIte] <;> first | rfl | assumption) | simp [upd_apply, *]), (by first | assumption | (simp only [upd_apply, Nat.reduceEqDiff, ↓reduceIte] <;> first | rfl | assumption) | simp [upd_apply, *]), (by first | assumption | (simp only [upd_apply, Nat.reduceEqDiff, ↓reduceIte] <;> first | rfl | assumption) | simp [upd_apply, *]), (by first | assumption | (simp only [upd_apply, Nat.reduceEqDiff, ↓reduceIte] <;> first | rfl | assumption) | simp [upd_apply, *]), (by first | assumption | (simp only [upd_apply, Nat.reduceEqDiff, ↓reduceIte] <;> first | rfl | assumption) | simp [upd_apply, *]), (by first | assumption | (simp only [upd_apply, Nat.reduceEqDiff, ↓reduceIte] <;> first | rfl | assumption) | simp [upd_apply, *]), by simp [upd_apply, hv_succ, hA], by simp [upd_apply, hv_succ, hB], (by first | assumption | (simp only [upd_apply, Nat.reduceEqDiff, ↓reduceIte] <;> first | rfl | assumption) | simp [upd_apply, *]), (by first | assumption | (simp only [upd_apply, Nat.reduceEqDiff, ↓reduceIte] <;> first | rfl | assumption) | simp [upd_apply, *]), Ext.refl _⟩ fun j f W' hj ⟨a7, a11, a12, a13, a14, a15, a16, a17, a18, a19, a20, xi⟩ => ?_
        have xw' := xw.trans xi
        by_cases hjk : (j : Int) < k
        · have hne : (nm j == nm k) = false := by rw [beq_eq_false_iff_ne]; exact fun e => by have := inj j k (by omega) hkn e; omega
          simp (disch := omega) only [go_sem, Nat.reduceEqDiff, ↓reduceIte, Nat.reduceAdd, a19, a20, hjk]
          refine QR_of (by kernel_rfl) (by kernel_rfl) ?_
          simp (disch := omega) only [go_sem, Nat.reduceEqDiff, ↓reduceIte, Nat.reduceAdd, a7, a19, a20, cl xw' j (by omega), cl xw' k hkn, hne]
          exact fun w2 x2 => ⟨by omega, (by first | assumption | (simp only [upd_apply, Nat.reduceEqDiff, ↓reduceIte] <;> first | rfl | assumption) | simp [upd_apply, *]), (by first | assumption | (simp only [upd_apply, Nat.reduceEqDiff, ↓reduceIte] <;> first | rfl | assumption) | simp [upd_apply, *]), (by first | assumption | (simp only [upd_apply, Nat.reduceEqDiff, ↓reduceIte] <;> first | rfl | assumption) | simp [upd_apply, *]), (by first | assumption | (simp only [upd_apply, Nat.reduceEqDiff, ↓reduceIte] <;> first | rfl | assumption) | simp [upd_apply, *]), (by first | assumption | (simp only [upd_apply, Nat.reduceEqDiff, ↓reduceIte] <;> first | rfl | assumption) | simp [upd_apply, *]), (by first | assumption | (simp only [upd_apply, Nat.reduceEqDiff, ↓reduceIte] <;> first | rfl | assumption) | simp [upd_apply, *]), (by first | assumption | (simp only [upd_apply, Nat.reduceEqDiff, ↓reduceIte] <;> first | rfl | assumption) | simp [upd_apply, *]), (by first | assumption | (simp only [upd_apply, Nat.reduceEqDiff, ↓reduceIte] <;> first | rfl | assumption) | simp [upd_apply, *]), (by first | assumption | (simp only [upd_apply, Nat.reduceEqDiff, ↓reduceIte] <;> first | rfl | assumption) | simp [upd_apply, *]), (by first | assumption | (simp only [upd_apply, Nat.reduceEqDiff, ↓reduceIte] <;> first | rfl | assumption) | simp [upd_apply, *]), (by first | assumption | (simp only [upd_apply, Nat.reduceEqDiff, ↓reduceIte] <;> first | rfl | assumption) | simp [upd_apply, *]), xi.trans x2⟩
        · simp (disch := omega) only [go_sem, Nat.reduceEqDiff, ↓reduceIte, Nat.reduceAdd, a19, a20, hjk]
          refine QR_of (by kernel_rfl) (by kernel_rfl) ?_
          by_cases h0 : (0 : Int) < k
          · have ek : (k : Int) - 1 = ((k - 1 : Nat) : Int) := by omega
            have l1 := nlen k hkn
            have l2 := nlen (k - 1) (by omega)
            by_cases he : (nm k).take 1 = (nm (k - 1)).take 1
            · have heb : ((nm k).take 1 == (nm (k - 1)).take 1) = true := by simpa using he
              obtain ⟨q1, q2⟩ := next (k - 1) (by omega) (by rw [show k - 1 + 1 = k by omega]; exact he)
              rw [show k - 1 + 1 = k by omega] at q2
              simp (disch := omega) only [go_sem, Nat.reduceEqDiff, ↓reduceIte, Nat.reduceAdd, a7, a19, h0, ek, cl xw' k hkn, cl xw' (k - 1) (by omega), Int.reduceToNat, heb]
              intro w9 x9
              have xw9 := xw'.trans x9
              simp (disch := omega) only [go_sem, Nat.reduceEqDiff, ↓reduceIte, Nat.reduceAdd, a7, a19, ek, cl xw9 (k - 1) (by omega)]
              refine callK_pure (by kernel_rfl) (implSheetBeside_c _ _ _ _) fun w10 x10 => ?_
              have xw10 := xw9.trans x10
              have hnn : (!(nm k == nm k)) = false := by simp
              simp (disch := omega) only [go_sem, Nat.reduceEqDiff, ↓reduceIte, Nat.reduceAdd, a7, a19, q1, q2, cl xw10 k hkn, hnn]
              exact ⟨by omega, (by first | assumption | (simp only [upd_apply, Nat.reduceEqDiff, ↓reduceIte] <;> first | rfl | assumption) | simp [upd_apply, *]), (by first | assumption | (simp only [upd_apply, Nat.reduceEqDiff, ↓reduceIte] <;> first | rfl | assumption) | simp [upd_apply, *]), (by first | assumption | (simp only [upd_apply, Nat.reduceEqDiff, ↓reduceIte] <;> first | rfl | assumption) | simp [upd_apply, *]), (by first | assumption | (simp only [upd_apply, Nat.reduceEqDiff, ↓reduceIte] <;> first | rfl | assumption) | simp [upd_apply, *]), (by first | assumption | (simp only [upd_apply, Nat.reduceEqDiff, ↓reduceIte] <;> first | rfl | assumption) | simp [upd_apply, *]), (by first | assumption | (simp only [upd_apply, Nat.reduceEqDiff, ↓reduceIte] <;> first | rfl | assumption) | simp [upd_apply, *]), (by first | assumption | (simp only [upd_apply, Nat.reduceEqDiff, ↓reduceIte] <;> first | rfl | assumption) | simp [upd_apply, *]), (by first | assumption | (simp only [upd_apply, Nat.reduceEqDiff, ↓reduceIte] <;> first | rfl | assumption) | simp [upd_apply, *]), (by first | assumption | (simp only [upd_apply, Nat.reduceEqDiff, ↓reduceIte] <;> first | rfl | assumption) | simp [upd_apply, *]), by simp [upd_apply], xw10⟩
            · have heb : ((nm k).take 1 == (nm (k - 1)).take 1) = false := by simpa using he
              simp (disch := omega) only [go_sem, Nat.reduceEqDiff, ↓reduceIte, Nat.reduceAdd, a7, a19, h0, ek, cl xw' k hkn, cl xw' (k - 1) (by omega), Int.reduceToNat, heb]
              exact fun w9 x9 => ⟨by omega, (by first | assumption | (simp only [upd_apply, Nat.reduceEqDiff, ↓reduceIte] <;> first | rfl | assumption) | simp [upd_apply, *]), (by first | assumption | (simp only [upd_apply, Nat.reduceEqDiff, ↓reduceIte] <;> first | rfl | assumption) | simp [upd_apply, *]), (by first | assumption | (simp only [upd_apply, Nat.reduceEqDiff, ↓reduceIte] <;> first | rfl | assumption) | simp [upd_apply, *]), (by first | assumption | (simp only [upd_apply, Nat.reduceEqDiff, ↓reduceIte] <;> first | rfl | assumption) | simp [upd_apply, *]), (by first | assumption | (simp only [upd_apply, Nat.reduceEqDiff, ↓reduceIte] <;> first | rfl | assumption) | simp [upd_apply, *]), (by first | assumption | (simp only [upd_apply, Nat.reduceEqDiff, ↓reduceIte] <;> first | rfl | assumption) | simp [upd_apply, *]), (by first | assumption | (simp only [upd_apply, Nat.reduceEqDiff, ↓reduceIte] <;> first | rfl | assumption) | simp [upd_apply, *]), (by first | assumption | (simp only [upd_apply, Nat.reduceEqDiff, ↓reduceIte] <;> first | rfl | assumption) | simp [upd_apply, *]), (by first | assumption | (simp only [upd_apply, Nat.reduceEqDiff, ↓reduceIte] <;> first | rfl | assumption) | simp [upd_apply, *]), by simp [upd_apply], xw'.trans x9⟩
          · simp (disch := omega) only [go_sem, Nat.reduceEqDiff, ↓reduceIte, Nat.reduceAdd, a19, h0]
            exact fun w9 x9 => ⟨by omega, (by first | assumption | (simp only [upd_apply, Nat.reduceEqDiff, ↓reduceIte] <;> first | rfl | assumption) | simp [upd_apply, *]), (by first | assumption | (simp only [upd_apply, Nat.reduceEqDiff, ↓reduceIte] <;> first | rfl | assumption) | simp [upd_apply, *]), (by first | assumption | (simp only [upd_apply, Nat.reduceEqDiff, ↓reduceIte] <;> first | rfl | assumption) | simp [upd_apply, *]), (by first | assumption | (simp only [upd_apply, Nat.reduceEqDiff, ↓reduceIte] <;> first | rfl | assumption) | simp [upd_apply, *]), (by first | assumption | (simp only [upd_apply, Nat.reduceEqDiff, ↓reduceIte] <;> first | rfl | assumption) | simp [upd_apply, *]), (by first | assumption | (simp only [upd_apply, Nat.reduceEqDiff, ↓reduceIte] <;> first | rfl | assumption) | simp [upd_apply, *]), (by first | assumption | (simp only [upd_apply, Nat.reduceEqDiff, ↓reduceIte] <;> first | rfl | assumption) | simp [upd_apply, *]), (by first | assumption | (simp only [upd_apply, Nat.reduceEqDiff, ↓reduceIte] <;> first | rfl | assumption) | simp [upd_apply, *]), (by first | assumption | (simp only [upd_apply, Nat.reduceEqDiff, ↓reduceIte] <;> first | rfl | assumption) | simp [upd_apply, *]), by simp [upd_apply], xw'.trans x9⟩
    · obtain rfl : k = n := by omega
      have tA := hv_true hasA
      have tB := hv_true hasB
      simp (disch := omega) only [go_sem, Nat.reduceEqDiff, ↓reduceIte, Nat.reduceAdd, a7, a19, hlt, a11, a12, a14, a16, a17, a18, tA, tB]
      refine callK_pure (by kernel_rfl) (fin xw) fun w9 x9 => ?_
      simp (disch := omega) only [go_sem, Nat.reduceEqDiff, ↓reduceIte, Nat.reduceAdd, Tryd.results12]
      exact ⟨trivial, (x17.trans xw).trans x9⟩
end Go.Proofs.YteenlohkhckjkaaDoor
