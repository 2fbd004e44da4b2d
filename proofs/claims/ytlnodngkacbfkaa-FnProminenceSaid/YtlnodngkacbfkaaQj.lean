/- The law FnParent: contract. -/
import Derived.Test.YtlnodngkacbfkaaQi
set_option linter.all false
set_option maxRecDepth 20000
namespace Go.SW
open Go Go.RowKit
theorem top_in2 (h : Nat → Int) (p : Nat → Prop) : ∀ n, (∃ i, i < n ∧ p i) → ∃ x, x < n ∧ p x ∧ ∀ j, j < n → p j → hiB h j x = false
  | 0, ⟨i, hi, _⟩ => by omega
  | n + 1, ⟨i, hi, hp⟩ => by
    rcases Classical.em (∃ i, i < n ∧ p i) with he | he
    · obtain ⟨x, hx, hpx, hj⟩ := top_in2 h p n he
      rcases Classical.em (p n ∧ hiB h n x = true) with ⟨h1, h2⟩ | h1
      · refine ⟨n, by omega, h1, fun j hjn hpj => ?_⟩
        by_cases e : j = n
        · subst e; exact hiB_irr h j
        · exact (hiB_ahead h).tr _ _ _ (hj j (by omega) hpj) ((hiB_ahead h).asy _ _ h2)
      · refine ⟨x, by omega, hpx, fun j hjn hpj => ?_⟩
        by_cases e : j = n
        · subst e
          cases e2 : hiB h j x with
          | false => rfl
          | true => exact absurd ⟨hpj, e2⟩ h1
        · exact hj j (by omega) hpj
    · have e : i = n := by
        rcases Classical.em (i = n) with e | e
        · exact e
        · exact absurd ⟨i, by omega, hp⟩ he
      subst e
      refine ⟨i, by omega, hp, fun j hjn hpj => ?_⟩
      by_cases e : j = i
      · subst e; exact hiB_irr h j
      · exact absurd ⟨j, by omega, hpj⟩ he
theorem find_rank {h : Nat → Int} {p : Nat → Bool} : ∀ {l : List Nat}, Rank h l → ∀ {t : Nat}, t ∈ l → p t = true → ∃ o, l.find? p = Option.some o ∧ o ∈ l ∧ p o = true ∧ (o = t ∨ hiB h o t = true)
  | a :: l, hr, t, ht, hp => by
    have pr := List.pairwise_cons.1 hr
    cases ha : p a with
    | true =>
      refine ⟨a, by simp [ha], List.mem_cons_self, ha, ?_⟩
      rcases List.mem_cons.1 ht with e | e
      · exact .inl e.symm
      · exact .inr (pr.1 t e)
    | false =>
      have ht' : t ∈ l := by
        rcases List.mem_cons.1 ht with e | e
        · subst e; rw [hp] at ha; cases ha
        · exact e
      obtain ⟨o, h1, h2, h3, h4⟩ := find_rank (p := p) pr.2 ht' hp
      exact ⟨o, by simp [ha, h1], List.mem_cons_of_mem _ h2, h3, h4⟩
theorem rank_idx {h : Nat → Int} {l : List Nat} (hr : Rank h l) {i j : Nat} (hij : i < j) (hj : j < l.length) : hiB h (l.getD i 0) (l.getD j 0) = true := by
  rw [getD_at l 0 (by omega), getD_at l 0 hj]
  exact List.pairwise_iff_getElem.1 hr i j (by omega) hj hij
section
variable {R C : Nat} {h : Nat → Int}
theorem par_ok (g : Gd R C h) {i : Nat} (hi : i < R * C) (hp : peakB R C h i = true) : parN R C h i ∈ peaksL R C h ∧ keyN R C h i ≤ passN R C h i (parN R C h i) ∧ ∀ t ∈ peaksL R C h, keyN R C h i ≤ passN R C h i t → parN R C h i = t ∨ hiB h (parN R C h i) t = true := by
  have hk := keyN_bnd g i
  have hkl := keyN_le g hi
  have hself : keyN R C h i ≤ passN R C h i i := (pass_ok g hi hi hk.1).2 (Rch.self hkl)
  have hm : i ∈ peaksL R C h := mem_peaksTo.2 ⟨hi, hp⟩
  have key : ∀ t ∈ peaksL R C h, keyN R C h i ≤ passN R C h i t → ∃ o, (peaksL R C h).find? (fun j => decide (keyN R C h i ≤ passN R C h i j)) = Option.some o ∧ o ∈ peaksL R C h ∧ keyN R C h i ≤ passN R C h i o ∧ (o = t ∨ hiB h o t = true) := fun t ht hpt => by
    obtain ⟨o, h1, h2, h3, h4⟩ := find_rank (p := fun j => decide (keyN R C h i ≤ passN R C h i j)) (rank_peaksTo R C h (R * C)) ht (decide_eq_true hpt)
    exact ⟨o, h1, h2, of_decide_eq_true h3, h4⟩
  have eq : ∀ o, (peaksL R C h).find? (fun j => decide (keyN R C h i ≤ passN R C h i j)) = Option.some o → parN R C h i = o := fun o e => by rw [parN, e]; rfl
  obtain ⟨o, h1, h2, h3, -⟩ := key i hm hself
  rw [eq o h1]
  refine ⟨h2, h3, fun t ht hpt => ?_⟩
  obtain ⟨o', h1', h2', h3', h4'⟩ := key t ht hpt
  rw [h1] at h1'
  have : o = o' := Option.some.inj h1'
  rw [this]; exact h4'
theorem par_top (g : Gd R C h) {i : Nat} (hi : i < R * C) (hp : peakB R C h i = true) (ht : ∀ j, j < R * C → hiB h j i = false) : parN R C h i = i := by
  obtain ⟨h1, h2, h3⟩ := par_ok g hi hp
  have hm : i ∈ peaksL R C h := mem_peaksTo.2 ⟨hi, hp⟩
  rcases h3 i hm ((pass_ok g hi hi (keyN_bnd g i).1).2 (Rch.self (keyN_le g hi))) with e | e
  · exact e
  · rw [ht _ (mem_peaksTo.1 h1).1] at e; cases e
theorem par_up (g : Gd R C h) {i x : Nat} (hi : i < R * C) (hp : peakB R C h i = true) (hx : x < R * C) (hxi : hiB h x i = true) : hiB h (parN R C h i) i = true := by
  have hb := bestTo_ge (R := R) (C := C) i (R * C) x hx hxi
  have hm0 := pass_min g hi hx
  obtain ⟨j0, hj0, e0⟩ := mnN_at2 h (R * C) g.pos
  have hh0 := g.hh j0 hj0
  have hkey : keyN R C h i = bestTo R C h i (R * C) := by rw [keyN, if_pos (by omega)]
  obtain ⟨j, hj, hji, hbj⟩ : ∃ j, j < R * C ∧ hiB h j i = true ∧ bestTo R C h i (R * C) = passN R C h i j := by
    rcases bestTo_at (R := R) (C := C) (h := h) i (R * C) with e | e
    · omega
    · exact e
  have hk0 := (keyN_bnd g i).1
  have rj : Rch R C h i (keyN R C h i) j := (pass_ok g hi hj hk0).1 (by rw [hkey, hbj]; exact Int.le_refl _)
  obtain ⟨t, ht, hpt, htop⟩ := top_in2 h (fun y => Rch R C h i (keyN R C h i) y) (R * C) ⟨j, hj, rj⟩
  have hpk : peakB R C h t = true := by
    rw [peakB, List.all_eq_true]
    intro y hy
    have hyn := nearN_lt ht y hy
    cases e : hiB h y t with
    | false => rfl
    | true =>
      have hly := hpt.lex
      have : keyN R C h i ≤ h y := by
        simp only [hiB, decide_eq_true_eq] at e; omega
      have h2 := htop y hyn (hpt.edge ht hy this)
      rw [e] at h2; cases h2
  have hti : hiB h t i = true := by
    cases e : hiB h t i with
    | true => rfl
    | false =>
      have := (hiB_ahead h).tr _ _ _ (htop j hj rj) e
      rw [hji] at this; cases this
  obtain ⟨-, -, h3⟩ := par_ok g hi hp
  rcases h3 t (mem_peaksTo.2 ⟨ht, hpk⟩) ((pass_ok g hi ht hk0).2 hpt) with e | e
  · rw [e]; exact hti
  · exact hiB_trans e hti
theorem par_idx (g : Gd R C h) {m : Nat} (hm : m < (peaksL R C h).length) : ∃ m', m' < (peaksL R C h).length ∧ parN R C h ((peaksL R C h).getD m 0) = (peaksL R C h).getD m' 0 ∧ (m' < m ∨ (m = 0 ∧ m' = 0)) := by
  have hr := rank_peaksTo R C h (R * C)
  rw [← peaksL] at hr
  obtain ⟨x, lt, hpx, hxn, hxm, htop⟩ := peaks_top g
  have hmem := getD_mem (d := 0) hm
  obtain ⟨hin, hpk⟩ := mem_peaksTo.1 hmem
  by_cases h0 : m = 0
  · subst h0
    have e0 : (peaksL R C h).getD 0 0 = x := by rw [hpx]; rfl
    refine ⟨0, hm, ?_, .inr ⟨rfl, rfl⟩⟩
    rw [e0] at hin hpk ⊢
    exact par_top g hin hpk htop
  · have h0i := rank_idx hr (i := 0) (j := m) (by omega) hm
    have hx0 := (mem_peaksTo.1 (getD_mem (d := 0) (show 0 < (peaksL R C h).length by omega))).1
    have hu := par_up g hin hpk hx0 h0i
    obtain ⟨h1, -, -⟩ := par_ok g hin hpk
    obtain ⟨m', hm', e⟩ := List.mem_iff_getElem.1 h1
    refine ⟨m', hm', by rw [getD_at _ 0 hm', e], ?_⟩
    rw [← e, ← getD_at _ 0 hm'] at hu
    rcases Nat.lt_trichotomy m' m with h' | h' | h'
    · exact .inl h'
    · subst h'; rw [hiB_irr] at hu; cases hu
    · have := rank_idx hr h' hm'
      rw [(hiB_ahead h).asy _ _ this] at hu; cases hu
end
end Go.SW
namespace Go.Proofs.Ytlnodngkacbfkaa
open Go.RowKit Go.SW

theorem parent_law_c (a : Option Addr) (l : List Int) (c : Nat) (w : World) (hl : l.length ≤ c) (hc : c ≤ maxLen) (hs : ByteS w a l) :
    Ret Try.prog 14 #[.slice a l.length c] w fun v w' => v = .bool true ∧ Ext w w' := by
  have hmax := maxLen_le (Nat.le_trans hl hc)
  refine enter1 Try.func14 rfl (by kernel_rfl) (of_decide_eq_true (by kernel_rfl)) fun f a0 => ?_
  by_cases hbig : (1048576 : Int) < l.length
  · simp (disch := omega) only [go_sem, Nat.reduceEqDiff, ↓reduceIte, Nat.reduceAdd, a0, hbig, Try.results14]
    exact ⟨trivial, Ext.refl _⟩
  simp (disch := omega) only [go_sem, Nat.reduceEqDiff, ↓reduceIte, Nat.reduceAdd, a0, hbig]
  refine callK_of (by kernel_rfl) (drawPeakParent_c _ _ _ _ hl hc hs) ?_
  rintro _ w1 ⟨ga, gc, rows, A, Cp, i, rfl, hib, hr, x1⟩
  simp (disch := omega) only [go_sem, Nat.reduceEqDiff, ↓reduceIte, Nat.reduceAdd]
  refine callK_pure (by kernel_rfl) (implPeakParent_c _ _ _ _ _ i _ hr) fun w2 x2 => ?_
  simp (disch := omega) only [go_sem, Nat.reduceEqDiff, ↓reduceIte, Nat.reduceAdd]
  refine callK_pure (by kernel_rfl) (specPeakParent_c _ _ _ _ _ i _ (hr.ext x2)) fun w3 x3 => ?_
  have hne : (parOf rows i != parOf rows i) = false := bne_self_eq_false _
  have hee : (parOf rows i == parOf rows i) = true := beq_self_eq_true _
  have x13 := (x1.trans x2).trans x3
  cases hpk : pkOf rows i with
  | false =>
    have hlt : parOf rows i < 0 := by simp [parOf, hpk]
    simp (disch := omega) only [go_sem, Nat.reduceEqDiff, ↓reduceIte, Nat.reduceAdd, hne, hlt, hee, Try.results14]
    exact ⟨trivial, x13⟩
  | true =>
    obtain ⟨n, rfl, hv, hn, hp⟩ := pk_parts hpk
    have v := (gvalid_iff rows).1 hv
    have g := v.gd
    have hn49 := g.le
    have hpar : parOf rows (n : Int) = (parN rows.length (rowLen rows) (hgt rows) n : Nat) := by simp [parOf, hpk]
    have hkey : pkeyOf rows (n : Int) = keyN rows.length (rowLen rows) (hgt rows) n := by simp [pkeyOf, hpk]
    obtain ⟨p1, p2, p3⟩ := par_ok g hn hp
    have hidx : ∀ m, m < (peakListOf rows).length → ∃ m', m' < (peakListOf rows).length ∧ parOf rows ((peakListOf rows).getD m 0 : Nat) = ((peakListOf rows).getD m' 0 : Nat) ∧ (m' < m ∨ (m = 0 ∧ m' = 0)) := fun m hm => by
      have hP : peakListOf rows = peaksL rows.length (rowLen rows) (hgt rows) := by rw [peakListOf, if_pos hv]
      have hmem := mem_peakListOf.1 (getD_mem (d := 0) hm)
      rw [hP] at hm hmem ⊢
      obtain ⟨m', h1, h2, h3⟩ := par_idx g hm
      refine ⟨m', h1, ?_, h3⟩
      rw [parOf, if_pos hmem, Int.toNat_natCast, h2]
    have hP : peakListOf rows = peaksL rows.length (rowLen rows) (hgt rows) := by rw [peakListOf, if_pos hv]
    have hin : n ∈ peakListOf rows := mem_peakListOf.2 hpk
    obtain ⟨m0, hm0, em0⟩ := List.mem_iff_getElem.1 hin
    have em0' : (peakListOf rows).getD m0 0 = n := by rw [getD_at _ 0 hm0, em0]
    obtain ⟨x, lt, hpx, hxn, hxm, htop⟩ := peaks_top g
    have h0x : (peakListOf rows).getD 0 0 = x := by rw [hP, hpx]; rfl
    have hparin : parN rows.length (rowLen rows) (hgt rows) n ∈ peakListOf rows := by rw [hP]; exact p1
    have hparn := (mem_peaksTo.1 p1).1
    have hPl := peakListOf_len rows
    have hppos : 0 < (peakListOf rows).length := by omega
    have hnpos : 0 < (ni (peakListOf rows)).length := by rw [ni_len]; exact hppos
    have hmx : (ni (peakListOf rows)).length ≤ maxLen := by rw [ni_len]; simp only [maxLen]; omega
    have hnn : ¬ ((parN rows.length (rowLen rows) (hgt rows) n : Nat) : Int) < 0 := by omega
    rw [hpar] at hne
    have hr3 := (hr.ext x2).ext x3
    have hpb : pbOf rows (n : Int) (parN rows.length (rowLen rows) (hgt rows) n : Nat) = passN rows.length (rowLen rows) (hgt rows) n (parN rows.length (rowLen rows) (hgt rows) n) := by
      rw [pbOf, if_pos ⟨hv, ⟨by omega, by omega⟩, ⟨by omega, by omega⟩⟩]; simp
    have hnlt : ¬ passN rows.length (rowLen rows) (hgt rows) n (parN rows.length (rowLen rows) (hgt rows) n) < keyN rows.length (rowLen rows) (hgt rows) n := by omega
    have hhi : x ≠ n → hiB (hgt rows) (parN rows.length (rowLen rows) (hgt rows) n) n = true := fun hne => by
      refine par_up g hn hp hxn ?_
      exact hiB_tot (fun e => hne e.symm) (htop n hn)
    generalize hpq : parN rows.length (rowLen rows) (hgt rows) n = q at *
    simp (disch := omega) only [go_sem, Nat.reduceEqDiff, ↓reduceIte, Nat.reduceAdd, hpar, hne, hnn]
    refine callK_of (by kernel_rfl) (peakList_c _ _ _ _ _ _ hr3) ?_
    rintro _ w4 ⟨pa, pc, rfl, po, pf, x4⟩
    obtain ⟨pb, rfl⟩ := po.some (by omega)
    have hr4 := hr3.ext x4
    have cell0 : ∀ U, Ext w4 U → U.cell? ⟨pb, 0, none⟩ = some (.int .i64 (x : Nat)) := fun U e => by rw [(po.ext e).cell (by omega), vi_get _ _ hnpos, ni_get _ hppos, h0x]
    have g0 := cell0 _ (Ext.refl _)
    have hqd : decide (((q : Nat) : Int) ∈ ni (peakListOf rows)) = true := decide_eq_true (mem_ni.2 hparin)
    by_cases hnx : n = x
    · have hb : ((n : Int) != (x : Int)) = false := by rw [hnx]; exact bne_self_eq_false _
      simp (disch := omega) only [go_sem, Nat.reduceEqDiff, ↓reduceIte, Nat.reduceAdd, g0, hb]
      refine callK_pure (by kernel_rfl) (passBetween_c _ _ _ _ _ (n : Int) (q : Int) _ (hr4.ext (Ext.refl _))) fun w7 x7 => ?_
      simp (disch := omega) only [go_sem, Nat.reduceEqDiff, ↓reduceIte, Nat.reduceAdd]
      refine callK_pure (by kernel_rfl) (implPeakKey_c _ _ _ _ _ (n : Int) _ (hr4.ext ((Ext.refl _).trans x7))) fun w8 x8 => ?_
      have x48 := ((Ext.refl _).trans x7).trans x8
      simp (disch := omega) only [go_sem, Nat.reduceEqDiff, ↓reduceIte, Nat.reduceAdd, hpb, hkey, hnlt]
      refine loopN (peakListOf rows).length (fun k f W => f 3 = .slice ga rows.length gc ∧ f 5 = .int .i64 (q : Nat) ∧ f 7 = .slice (some ⟨pb, 0, none⟩) (ni (peakListOf rows)).length pc ∧ (∃ m, m < (peakListOf rows).length ∧ f 8 = .int .i64 ((peakListOf rows).getD m 0 : Nat) ∧ (m + k + 1 ≤ (peakListOf rows).length ∨ m = 0)) ∧ f 9 = .int .i64 k ∧ Ext w8 W) ⟨(by first | assumption | (simp only [upd_apply, Nat.reduceEqDiff, ↓reduceIte] <;> first | rfl | assumption) | simp [upd_apply, *]), (by first | assumption | (simp only [upd_apply, Nat.reduceEqDiff, ↓reduceIte] <;> first | rfl | assumption) | simp [upd_apply, *]), (by first | assumption | (simp only [upd_apply, Nat.reduceEqDiff, ↓reduceIte] <;> first | rfl | assumption) | simp [upd_apply, *]), ⟨m0, hm0, by rw [em0']; simp [upd_apply], by omega⟩, (by first | assumption | (simp only [upd_apply, Nat.reduceEqDiff, ↓reduceIte] <;> first | rfl | assumption) | simp [upd_apply, *]), Ext.refl _⟩ fun k f W hk ⟨a3, a5, a7, ⟨m, hm, a8, hmk⟩, a9, xW⟩ => ?_
      by_cases hlt : (k : Int) < (ni (peakListOf rows)).length
      · obtain ⟨m', h1, h2, h3⟩ := hidx m hm
        simp (disch := omega) only [go_sem, Nat.reduceEqDiff, ↓reduceIte, Nat.reduceAdd, a3, a7, a8, a9, hlt]
        refine callK_pure (by kernel_rfl) (implPeakParent_c _ _ _ _ _ ((peakListOf rows).getD m 0 : Nat) _ ((hr4.ext x48).ext xW)) fun w9 x9 => ?_
        simp (disch := omega) only [go_sem, Nat.reduceEqDiff, ↓reduceIte, Nat.reduceAdd, h2, a9]
        exact ⟨by rw [ni_len] at hlt; omega, (by first | assumption | (simp only [upd_apply, Nat.reduceEqDiff, ↓reduceIte] <;> first | rfl | assumption) | simp [upd_apply, *]), (by first | assumption | (simp only [upd_apply, Nat.reduceEqDiff, ↓reduceIte] <;> first | rfl | assumption) | simp [upd_apply, *]), (by first | assumption | (simp only [upd_apply, Nat.reduceEqDiff, ↓reduceIte] <;> first | rfl | assumption) | simp [upd_apply, *]), ⟨m', h1, by simp [upd_apply], by omega⟩, (by first | assumption | (simp only [upd_apply, Nat.reduceEqDiff, ↓reduceIte] <;> first | rfl | assumption) | simp [upd_apply, *]), xW.trans x9⟩
      · have em : m = 0 := by rw [ni_len] at hlt; omega
        rw [em, h0x] at a8
        have g1 := cell0 _ (x48.trans xW)
        simp (disch := omega) only [go_sem, Nat.reduceEqDiff, ↓reduceIte, Nat.reduceAdd, a5, a7, a8, a9, hlt, g1, beq_self_eq_true]
        refine callK_pure (by kernel_rfl) (hasInt_c _ _ _ (q : Int) _ ((po.ext x48).ext xW).ints hmx) fun w9 x9 => ?_
        simp (disch := omega) only [go_sem, Nat.reduceEqDiff, ↓reduceIte, Nat.reduceAdd, hqd, Try.results14]
        exact ⟨trivial, (((x13.trans x4).trans x48).trans xW).trans x9⟩
    · have hb : ((n : Int) != (x : Int)) = true := by simp; omega
      have hhx := hhi (fun e => hnx e.symm)
      simp (disch := omega) only [go_sem, Nat.reduceEqDiff, ↓reduceIte, Nat.reduceAdd, g0, hb]
      refine callK_pure (by kernel_rfl) (lawHigher_c _ _ _ _ _ _ hr4 v q n hparn hn) fun w6 x6 => ?_
      simp (disch := omega) only [go_sem, Nat.reduceEqDiff, ↓reduceIte, Nat.reduceAdd, hhx, Bool.not_true]
      refine callK_pure (by kernel_rfl) (passBetween_c _ _ _ _ _ (n : Int) (q : Int) _ (hr4.ext x6)) fun w7 x7 => ?_
      simp (disch := omega) only [go_sem, Nat.reduceEqDiff, ↓reduceIte, Nat.reduceAdd]
      refine callK_pure (by kernel_rfl) (implPeakKey_c _ _ _ _ _ (n : Int) _ (hr4.ext (x6.trans x7))) fun w8 x8 => ?_
      have x48 := (x6.trans x7).trans x8
      simp (disch := omega) only [go_sem, Nat.reduceEqDiff, ↓reduceIte, Nat.reduceAdd, hpb, hkey, hnlt]
      refine loopN (peakListOf rows).length (fun k f W => f 3 = .slice ga rows.length gc ∧ f 5 = .int .i64 (q : Nat) ∧ f 7 = .slice (some ⟨pb, 0, none⟩) (ni (peakListOf rows)).length pc ∧ (∃ m, m < (peakListOf rows).length ∧ f 8 = .int .i64 ((peakListOf rows).getD m 0 : Nat) ∧ (m + k + 1 ≤ (peakListOf rows).length ∨ m = 0)) ∧ f 9 = .int .i64 k ∧ Ext w8 W) ⟨(by first | assumption | (simp only [upd_apply, Nat.reduceEqDiff, ↓reduceIte] <;> first | rfl | assumption) | simp [upd_apply, *]), (by first | assumption | (simp only [upd_apply, Nat.reduceEqDiff, ↓reduceIte] <;> first | rfl | assumption) | simp [upd_apply, *]), (by first | assumption | (simp only [upd_apply, Nat.reduceEqDiff, ↓reduceIte] <;> first | rfl | assumption) | simp [upd_apply, *]), ⟨m0, hm0, by rw [em0']; simp [upd_apply], by omega⟩, (by first | assumption | (simp only [upd_apply, Nat.reduceEqDiff, ↓reduceIte] <;> first | rfl | assumption) | simp [upd_apply, *]), Ext.refl _⟩ fun k f W hk ⟨a3, a5, a7, ⟨m, hm, a8, hmk⟩, a9, xW⟩ => ?_
      by_cases hlt : (k : Int) < (ni (peakListOf rows)).length
      · obtain ⟨m', h1, h2, h3⟩ := hidx m hm
        simp (disch := omega) only [go_sem, Nat.reduceEqDiff, ↓reduceIte, Nat.reduceAdd, a3, a7, a8, a9, hlt]
        refine callK_pure (by kernel_rfl) (implPeakParent_c _ _ _ _ _ ((peakListOf rows).getD m 0 : Nat) _ ((hr4.ext x48).ext xW)) fun w9 x9 => ?_
        simp (disch := omega) only [go_sem, Nat.reduceEqDiff, ↓reduceIte, Nat.reduceAdd, h2, a9]
        exact ⟨by rw [ni_len] at hlt; omega, (by first | assumption | (simp only [upd_apply, Nat.reduceEqDiff, ↓reduceIte] <;> first | rfl | assumption) | simp [upd_apply, *]), (by first | assumption | (simp only [upd_apply, Nat.reduceEqDiff, ↓reduceIte] <;> first | rfl | assumption) | simp [upd_apply, *]), (by first | assumption | (simp only [upd_apply, Nat.reduceEqDiff, ↓reduceIte] <;> first | rfl | assumption) | simp [upd_apply, *]), ⟨m', h1, by simp [upd_apply], by omega⟩, (by first | assumption | (simp only [upd_apply, Nat.reduceEqDiff, ↓reduceIte] <;> first | rfl | assumption) | simp [upd_apply, *]), xW.trans x9⟩
      · have em : m = 0 := by rw [ni_len] at hlt; omega
        rw [em, h0x] at a8
        have g1 := cell0 _ (x48.trans xW)
        simp (disch := omega) only [go_sem, Nat.reduceEqDiff, ↓reduceIte, Nat.reduceAdd, a5, a7, a8, a9, hlt, g1, beq_self_eq_true]
        refine callK_pure (by kernel_rfl) (hasInt_c _ _ _ (q : Int) _ ((po.ext x48).ext xW).ints hmx) fun w9 x9 => ?_
        simp (disch := omega) only [go_sem, Nat.reduceEqDiff, ↓reduceIte, Nat.reduceAdd, hqd, Try.results14]
        exact ⟨trivial, (((x13.trans x4).trans x48).trans xW).trans x9⟩
end Go.Proofs.Ytlnodngkacbfkaa
