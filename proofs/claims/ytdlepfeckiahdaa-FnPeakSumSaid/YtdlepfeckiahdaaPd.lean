/- Peaks by rank: the list, and the contract of field.peaks. -/
import Derived.Test.YtdlepfeckiahdaaPc
set_option linter.all false
namespace Go.SW
open Go Go.RowKit
/-- Sorted by rank: the first is ahead. -/
def Rank (h : Nat → Int) (l : List Nat) : Prop := l.Pairwise fun a b => hiB h a b = true
theorem hiB_tot {h : Nat → Int} {a b : Nat} (hne : a ≠ b) (e : hiB h a b = false) : hiB h b a = true := by
  simp only [hiB, decide_eq_true_eq, decide_eq_false_iff_not] at *; omega
theorem hiB_irr (h : Nat → Int) (a : Nat) : hiB h a a = false := by simp [hiB]
theorem hiB_trans {h : Nat → Int} {a b c : Nat} (e1 : hiB h a b = true) (e2 : hiB h b c = true) : hiB h a c = true := by
  simp only [hiB, decide_eq_true_eq] at *; omega
theorem rank_uniq (h : Nat → Int) : ∀ l m : List Nat, Rank h l → Rank h m → (∀ x, x ∈ l ↔ x ∈ m) → l = m
  | [], m, _, _, e => by
    cases m with
    | nil => rfl
    | cons b m => exact absurd ((e b).2 List.mem_cons_self) (by simp)
  | a :: l, [], _, _, e => absurd ((e a).1 List.mem_cons_self) (by simp)
  | a :: l, b :: m, h1, h2, e => by
    have p1 := List.pairwise_cons.1 h1
    have p2 := List.pairwise_cons.1 h2
    have hab : a = b := by
      rcases Classical.em (a = b) with h' | hne
      · exact h'
      · have ha : a ∈ m := by
          rcases List.mem_cons.1 ((e a).1 List.mem_cons_self) with h' | h'
          · exact absurd h' hne
          · exact h'
        have hb : b ∈ l := by
          rcases List.mem_cons.1 ((e b).2 List.mem_cons_self) with h' | h'
          · exact absurd h'.symm hne
          · exact h'
        have q1 := p1.1 b hb
        have q2 := p2.1 a ha
        have := hiB_trans q1 q2
        rw [hiB_irr] at this; cases this
    subst hab
    rw [rank_uniq h l m p1.2 p2.2 fun x => ?_]
    have irr : ∀ l : List Nat, (∀ y ∈ l, hiB h a y = true) → a ∉ l := fun l hl hm => by
      have := hl a hm; rw [hiB_irr] at this; cases this
    have n1 := irr l p1.1
    have n2 := irr m p2.1
    constructor
    · intro hx
      rcases List.mem_cons.1 ((e x).1 (List.mem_cons_of_mem _ hx)) with h' | h'
      · subst h'; exact absurd hx n1
      · exact h'
    · intro hx
      rcases List.mem_cons.1 ((e x).2 (List.mem_cons_of_mem _ hx)) with h' | h'
      · subst h'; exact absurd hx n2
      · exact h'
def insL (h : Nat → Int) (i : Nat) : List Nat → List Nat
  | [] => [i]
  | a :: l => if hiB h a i then a :: insL h i l else i :: a :: l
theorem mem_insL {h : Nat → Int} {i x : Nat} : ∀ {l : List Nat}, x ∈ insL h i l ↔ x = i ∨ x ∈ l
  | [] => by simp [insL]
  | a :: l => by
    simp only [insL]
    split
    · simp only [List.mem_cons, mem_insL (l := l)]
      constructor
      · rintro (h | h | h)
        · exact .inr (.inl h)
        · exact .inl h
        · exact .inr (.inr h)
      · rintro (h | h | h)
        · exact .inr (.inl h)
        · exact .inl h
        · exact .inr (.inr h)
    · simp only [List.mem_cons]
theorem rank_insL {h : Nat → Int} {i : Nat} : ∀ {l : List Nat}, Rank h l → i ∉ l → Rank h (insL h i l)
  | [], _, _ => by simp [insL, Rank]
  | a :: l, hl, hi => by
    have p := List.pairwise_cons.1 hl
    simp only [insL]
    split
    · rename_i ha
      refine List.pairwise_cons.2 ⟨fun x hx => ?_, rank_insL (l := l) p.2 fun h => hi (List.mem_cons_of_mem _ h)⟩
      rcases mem_insL.1 hx with h' | h'
      · subst h'; exact ha
      · exact p.1 x h'
    · rename_i ha
      have hne : a ≠ i := fun e => hi (by subst e; exact List.mem_cons_self)
      have hia := hiB_tot hne (by simpa using ha)
      refine List.pairwise_cons.2 ⟨fun x hx => ?_, hl⟩
      rcases List.mem_cons.1 hx with h' | h'
      · subst h'; exact hia
      · exact hiB_trans hia (p.1 x h')
theorem insL_len {h : Nat → Int} {i : Nat} : ∀ {l : List Nat}, (insL h i l).length = l.length + 1
  | [] => by simp [insL]
  | a :: l => by
    simp only [insL]
    split
    · simp [insL_len (l := l)]
    · simp
theorem insL_eq {h : Nat → Int} {i : Nat} : ∀ {l : List Nat} {at_ : Nat}, at_ ≤ l.length → (∀ j, j < at_ → hiB h (l.getD j 0) i = true) → (at_ < l.length → hiB h (l.getD at_ 0) i = false) → insL h i l = l.take at_ ++ i :: l.drop at_
  | [], at_, h0, _, _ => by
    have : at_ = 0 := by simpa using h0
    subst this; simp [insL]
  | a :: l, 0, _, _, h2 => by
    have := h2 (by simp)
    simp only [List.getD_cons_zero] at this
    simp [insL, this]
  | a :: l, k + 1, h0, h1, h2 => by
    have ha := h1 0 (by omega)
    simp only [List.getD_cons_zero] at ha
    have := insL_eq (h := h) (i := i) (l := l) (at_ := k) (by simpa using h0) (fun j hj => by simpa using h1 (j + 1) (by omega)) (fun hk => by simpa using h2 (by simpa using hk))
    simp [insL, ha, this]
/-- The peaks below k by rank. -/
def peaksTo (R C : Nat) (h : Nat → Int) : Nat → List Nat
  | 0 => []
  | k + 1 => if peakB R C h k then insL h k (peaksTo R C h k) else peaksTo R C h k
def peaksL (R C : Nat) (h : Nat → Int) : List Nat := peaksTo R C h (R * C)
theorem mem_peaksTo {R C : Nat} {h : Nat → Int} {x : Nat} : ∀ {k : Nat}, x ∈ peaksTo R C h k ↔ x < k ∧ peakB R C h x = true
  | 0 => by simp [peaksTo]
  | k + 1 => by
    simp only [peaksTo]
    split
    · rename_i hp
      rw [mem_insL, mem_peaksTo (k := k)]
      constructor
      · rintro (h' | ⟨h1, h2⟩)
        · subst h'; exact ⟨by omega, hp⟩
        · exact ⟨by omega, h2⟩
      · rintro ⟨h1, h2⟩
        rcases Nat.lt_or_ge x k with h' | h'
        · exact .inr ⟨h', h2⟩
        · exact .inl (by omega)
    · rename_i hp
      rw [mem_peaksTo (k := k)]
      constructor
      · rintro ⟨h1, h2⟩; exact ⟨by omega, h2⟩
      · rintro ⟨h1, h2⟩
        refine ⟨?_, h2⟩
        rcases Nat.lt_or_ge x k with h' | h'
        · exact h'
        · have : x = k := by omega
          subst this; exact absurd h2 hp
theorem rank_peaksTo (R C : Nat) (h : Nat → Int) : ∀ k, Rank h (peaksTo R C h k)
  | 0 => by simp [peaksTo, Rank]
  | k + 1 => by
    simp only [peaksTo]
    split
    · exact rank_insL (rank_peaksTo R C h k) fun hm => by have := (mem_peaksTo.1 hm).1; omega
    · exact rank_peaksTo R C h k
theorem peaksTo_len (R C : Nat) (h : Nat → Int) : ∀ k, (peaksTo R C h k).length ≤ k
  | 0 => by simp [peaksTo]
  | k + 1 => by
    have := peaksTo_len R C h k
    simp only [peaksTo]
    split
    · rw [insL_len]; omega
    · omega
theorem peaksL_eq {R C : Nat} {h : Nat → Int} {l : List Nat} (h1 : Rank h l) (h2 : ∀ x, x ∈ l ↔ x < R * C ∧ peakB R C h x = true) : l = peaksL R C h :=
  rank_uniq h l _ h1 (rank_peaksTo R C h _) fun x => by rw [h2]; exact mem_peaksTo.symm
theorem bag_zero {L : Nat → Nat} (x : Nat) : bag 0 L x = 0 := rfl
/-- A round of taking: the list grows by the top. -/
structure TakeInv (R C : Nat) (h : Nat → Int) (n : Nat) (L : Nat → Nat) (l : List Nat) : Prop where
  rank : Rank h l
  one : ∀ x, bag n L x ≤ 1
  mem : ∀ x, (x ∈ l ∨ 0 < bag n L x) ↔ x < R * C ∧ peakB R C h x = true
  dis : ∀ x ∈ l, ∀ k, k < n → hiB h x (L k) = true
theorem TakeInv.step {R C : Nat} {h : Nat → Int} {n : Nat} {L L' : Nat → Nat} {l : List Nat} (t : TakeInv R C h (n + 1) L l) (hp : Heap (hiB h) (n + 1) L)
    (hb : ∀ y, bag n L' y + (if L 0 = y then 1 else 0) = bag (n + 1) L y) : TakeInv R C h n L' (l ++ [L 0]) := by
  have h0 : bag (n + 1) L (L 0) ≥ 1 := bag_mem.2 ⟨0, by omega, rfl⟩
  have hz : bag n L' (L 0) = 0 := by
    have h1 := hb (L 0)
    rw [if_pos rfl] at h1
    have := t.one (L 0)
    omega
  have hin : ∀ k, k < n → ∃ j, j < n + 1 ∧ L j = L' k := fun k hk => by
    have h1 : 0 < bag n L' (L' k) := bag_mem.2 ⟨k, hk, rfl⟩
    have h2 := hb (L' k)
    exact bag_mem.1 (by omega)
  have hne : ∀ k, k < n → L' k ≠ L 0 := fun k hk e => by
    have h1 : 0 < bag n L' (L' k) := bag_mem.2 ⟨k, hk, rfl⟩
    rw [e, hz] at h1; omega
  refine ⟨?_, fun x => ?_, fun x => ?_, fun x hx k hk => ?_⟩
  · refine List.pairwise_append.2 ⟨t.rank, by simp, fun a ha b hb' => ?_⟩
    have : b = L 0 := by simpa using hb'
    subst this
    exact t.dis a ha 0 (by omega)
  · have := hb x; have := t.one x; omega
  · rw [← t.mem x, List.mem_append]
    have h1 := hb x
    constructor
    · rintro ((h' | h') | h')
      · exact .inl h'
      · have : x = L 0 := by simpa using h'
        subst this; exact .inr (by omega)
      · exact .inr (by omega)
    · rintro (h' | h')
      · exact .inl (.inl h')
      · by_cases e : L 0 = x
        · exact .inl (.inr (by simp [e]))
        · rw [if_neg e] at h1; exact .inr (by omega)
  · obtain ⟨j, hj, ej⟩ := hin k hk
    rcases List.mem_append.1 hx with h' | h'
    · rw [← ej]; exact t.dis x h' j hj
    · have : x = L 0 := by simpa using h'
      subst this
      have ht := hp.top (hiB_ahead h) j hj
      rw [ej] at ht
      exact hiB_tot (hne k hk) ht
theorem TakeInv.done {R C : Nat} {h : Nat → Int} {L : Nat → Nat} {l : List Nat} (t : TakeInv R C h 0 L l) : l = peaksL R C h :=
  peaksL_eq t.rank fun x => by rw [← t.mem x, bag_zero]; simp
theorem bag_sum_le (n : Nat) (L : Nat → Nat) (N : Nat) (h1 : ∀ x, bag n L x ≤ 1) (h2 : ∀ k, k < n → L k < N) : n ≤ N := by
  have h3 : cntp (fun _ => True) n ≤ cntp (fun _ => True) N := cntp_inj (f := L) (fun i hi _ => ⟨h2 i hi, trivial⟩) fun i j hi hj _ _ e =>
    cntp_uniq (fun k => L k = L i) (n := n) (by
      have := h1 (L i)
      have h0 : 0 < bag n L (L i) := bag_mem.2 ⟨i, hi, rfl⟩
      simp only [bag] at this h0; omega) i j hi hj rfl e.symm
  have hc : ∀ m, cntp (fun _ => True) m = m := fun m => by
    induction m with
    | zero => rfl
    | succ m ih => simp only [cntp, ih, if_true]
  rw [hc, hc] at h3; exact h3
end Go.SW
namespace Go.Proofs.Ytdlepfeckiahdaa
open Go.RowKit Go.SW
theorem zero_p : zeroC Try.prog 80 = some #[.nilFunc, .slice none 0 0] := by kernel_rfl
theorem bld_p (fn : Fn) (x y : Array Value) : buildV Try.prog 80 [(0, .func fn x y)] = some (.agg #[.func fn x y, .slice none 0 0]) := by kernel_rfl
attribute [go_sem] bld_p

theorem siz_p : (Try.prog.info? 80).map (·.size) = some 2 := by kernel_rfl
theorem PileAt.ext {w w' : World} {pb c n : Nat} {fv : Value} {a : Option Addr} {L : Nat → Nat} (p : PileAt w pb fv a c n L) (e : Ext w w') : PileAt w' pb fv a c n L := ⟨p.1.ext e, p.2.1.ext e, p.2.2⟩
theorem peaks_c (R C cb : Nat) (h : Nat → Int) (w : World) (g : Gd R C h) (hc : CellsAt w cb (R * C) h) :
    Ret Try.prog 85 #[.agg #[.int .i64 R, .int .i64 C, .slice (some ⟨cb, 0, none⟩) (R * C) (R * C)]] w fun v w' => Got1 w w' (ni (peaksL R C h)) v := by
  have hn49 := g.le
  have hcl := hc.lt g.pos
  refine enter1 Try.func85 rfl (by kernel_rfl) (of_decide_eq_true (by kernel_rfl)) fun f a0 => ?_
  simp only [go_sem, Nat.reduceEqDiff, ↓reduceIte, a0]
  refine boxK_of fun w0 fb efb x0 kb _ => ?_
  have s0 := x0.size
  have kb : Blk w0 fb #[.int .i64 R, .int .i64 C, .slice (some ⟨cb, 0, none⟩) (R * C) (R * C)] 45 := by simpa [Value.cells] using kb
  have kl := kb.lt
  simp (disch := omega) only [go_sem, Nat.reduceEqDiff, ↓reduceIte, Nat.reduceAdd, readCells_blk kb (n := 3) (by simp)]
  refine allocK_of zero_p fun w1 pb epb x1 kp _ => ?_
  have s1 := x1.size
  have kb1 := kb.ext x1
  simp (disch := omega) only [go_sem, Nat.reduceEqDiff, ↓reduceIte, Nat.reduceAdd]
  refine stK_agg siz_p (by simp) (by simp [Value.oneCell']) kp (by simp) fun w2 kp2 g2 => ?_
  have kb2 := g2.grow.blk kb1 (by simp; omega)
  have hc2 : CellsAt w2 cb (R * C) h := ((hc.ext x0).ext x1).grow g2.grow (by simp; omega)
  have xw2 : Ext w w2 := g2.ext (x0.trans x1) (by omega)
  have kp2 : Blk w2 pb #[fvH R C cb, .slice none 0 0] 80 := by simpa [fvH] using kp2
  simp (disch := omega) only [go_sem, Nat.reduceEqDiff, ↓reduceIte, Nat.reduceAdd, kb2.cell]
  refine loopN (R * C) (fun m f W => f 1 = .pointer (some ⟨fb, 0, none⟩) ∧ f 3 = .pointer (some ⟨pb, 0, none⟩) ∧ f 11 = .int .i64 (R * C : Nat) ∧ f 12 = .int .i64 m ∧ Blk W fb #[.int .i64 R, .int .i64 C, .slice (some ⟨cb, 0, none⟩) (R * C) (R * C)] 45 ∧ CellsAt W cb (R * C) h ∧ Ext w W ∧ ∃ (a : Option Addr) (c n : Nat) (L : Nat → Nat), PileAt W pb (fvH R C cb) a c n L ∧ Heap (hiB h) n L ∧ (∀ x, bag n L x = if x < m ∧ peakB R C h x = true then 1 else 0) ∧ (∀ k, k < n → L k < R * C) ∧ (∀ b, blk a = some b → pb < b)) ⟨(by first | assumption | (simp only [upd_apply, Nat.reduceEqDiff, ↓reduceIte] <;> first | rfl | assumption) | simp [upd_apply, *]), (by first | assumption | (simp only [upd_apply, Nat.reduceEqDiff, ↓reduceIte] <;> first | rfl | assumption) | simp [upd_apply, *]), (by first | assumption | (simp only [upd_apply, Nat.reduceEqDiff, ↓reduceIte] <;> first | rfl | assumption) | simp [upd_apply, *]), (by first | assumption | (simp only [upd_apply, Nat.reduceEqDiff, ↓reduceIte] <;> first | rfl | assumption) | simp [upd_apply, *]), kb2, hc2, xw2, none, 0, 0, fun _ => 0, ⟨kp2, OwnS.nil _ _ _, by simp [blk]⟩, fun j h1 h2 => by omega, fun x => by simp [bag_zero], fun k hk => by omega, fun b hb => by cases hb⟩ fun m f W hm ⟨a1, a3, a11, a12, kW, cW, xW, a, c, n, L, pW, hpW, bW, lW, fW⟩ => ?_
  have hn : n ≤ R * C := bag_sum_le n L (R * C) (fun x => by rw [bW]; split <;> omega) lW
  by_cases hlt : (m : Int) < (R * C : Nat)
  · have hmn : m < R * C := by omega
    have ep : decide (0 ≤ (m : Int) ∧ (m : Int) < (R * C : Nat)) = true := decide_eq_true ⟨by omega, hlt⟩
    simp (disch := omega) only [go_sem, Nat.reduceEqDiff, ↓reduceIte, Nat.reduceAdd, a1, a11, a12, hlt, readCells_blk kW (n := 3) (by simp)]
    refine callK_pure (by kernel_rfl) (peak_c R C cb h m _ g cW) fun w5 x5 => ?_
    have s5 := x5.size
    have cW5 := cW.ext x5
    have kW5 := kW.ext x5
    have pW5 := pW.ext x5
    have sW := xW.size
    have hca : blk a ≠ some cb := fun e => by have := fW cb e; omega
    cases hpk : peakB R C h m with
    | true =>
      simp (disch := omega) only [go_sem, Nat.reduceEqDiff, ↓reduceIte, Nat.reduceAdd, ep, hpk, Bool.and_true, Bool.and_false, a3, a12]
      refine callK_of (by kernel_rfl) (put_c R C cb h pb a c n L m _ pW5 cW5 (by omega) hca lW hmn hpW (by omega)) ?_
      rintro _ w6 ⟨a', c', L', p', h', b', f', g'⟩
      simp (disch := omega) only [go_sem, Nat.reduceEqDiff, ↓reduceIte, Nat.reduceAdd, a12]
      have gl := pW.1.lt
      refine ⟨hmn, (by first | assumption | (simp only [upd_apply, Nat.reduceEqDiff, ↓reduceIte] <;> first | rfl | assumption) | simp [upd_apply, *]), (by first | assumption | (simp only [upd_apply, Nat.reduceEqDiff, ↓reduceIte] <;> first | rfl | assumption) | simp [upd_apply, *]), (by first | assumption | (simp only [upd_apply, Nat.reduceEqDiff, ↓reduceIte] <;> first | rfl | assumption) | simp [upd_apply, *]), (by first | assumption | (simp only [upd_apply, Nat.reduceEqDiff, ↓reduceIte] <;> first | rfl | assumption) | simp [upd_apply, *]), g'.blk kW5 ?_, g'.cells cW5 ?_, ?_, a', c', n + 1, L', p', h', fun x => ?_, fun k hk => ?_, fun b hb => ?_⟩
      · rintro (e | e)
        · omega
        · have := fW fb e; omega
      · rintro (e | e)
        · omega
        · exact hca e
      · refine g'.ext (xW.trans x5) ?_
        rintro b (e | e)
        · omega
        · have := fW b e; omega
      · rw [b', bW]
        by_cases e : m = x
        · subst e; simp [hpk]
        · have : x < m + 1 ↔ x < m := by omega
          simp [e, this]
      · have h0 : 0 < bag (n + 1) L' (L' k) := bag_mem.2 ⟨k, hk, rfl⟩
        rw [b', bW] at h0
        by_cases e : m = L' k
        · omega
        · rw [if_neg e] at h0
          by_cases e2 : L' k < m ∧ peakB R C h (L' k) = true
          · omega
          · rw [if_neg e2] at h0; omega
      · rcases f' b hb with e | e
        · exact fW b e
        · omega
    | false =>
      simp (disch := omega) only [go_sem, Nat.reduceEqDiff, ↓reduceIte, Nat.reduceAdd, ep, hpk, Bool.and_true, Bool.and_false, a12]
      refine ⟨hmn, (by first | assumption | (simp only [upd_apply, Nat.reduceEqDiff, ↓reduceIte] <;> first | rfl | assumption) | simp [upd_apply, *]), (by first | assumption | (simp only [upd_apply, Nat.reduceEqDiff, ↓reduceIte] <;> first | rfl | assumption) | simp [upd_apply, *]), (by first | assumption | (simp only [upd_apply, Nat.reduceEqDiff, ↓reduceIte] <;> first | rfl | assumption) | simp [upd_apply, *]), (by first | assumption | (simp only [upd_apply, Nat.reduceEqDiff, ↓reduceIte] <;> first | rfl | assumption) | simp [upd_apply, *]), kW5, cW5, xW.trans x5, a, c, n, L, pW5, hpW, fun x => ?_, lW, fW⟩
      rw [bW]
      by_cases e : x = m
      · subst e; simp [hpk]
      · have : x < m + 1 ↔ x < m := by omega
        simp [this]
  · obtain rfl : m = R * C := by omega
    simp (disch := omega) only [go_sem, Nat.reduceEqDiff, ↓reduceIte, Nat.reduceAdd, a11, a12, hlt]
    refine bslK_0 elt_i fun w5 b5 e5 x5 o5 _ => ?_
    have s5 := x5.size
    have sW := xW.size
    have pl := pW.1.lt
    have hca : blk a ≠ some cb := fun e => by have := fW cb e; omega
    simp (disch := omega) only [go_sem, Nat.reduceEqDiff, ↓reduceIte, Nat.reduceAdd]
    refine loopX (fun s f V => f 3 = .pointer (some ⟨pb, 0, none⟩) ∧ ∃ (n : Nat) (L : Nat → Nat) (l : List Nat) (la : Option Addr) (lc : Nat), s = n ∧ f 5 = .slice la l.length lc ∧ PileAt V pb (fvH R C cb) a c n L ∧ Heap (hiB h) n L ∧ TakeInv R C h n L l ∧ (∀ k, k < n → L k < R * C) ∧ l.length + n ≤ 49 ∧ OwnS V 3 1 la l.length lc (vi (ni l)) ∧ (∀ b, blk la = some b → pb < b ∧ blk a ≠ some b) ∧ CellsAt V cb (R * C) h ∧ Ext w V) n ⟨(by first | assumption | (simp only [upd_apply, Nat.reduceEqDiff, ↓reduceIte] <;> first | rfl | assumption) | simp [upd_apply, *]), n, L, [], _, _, rfl, by simp [upd_apply]; exact ⟨rfl, rfl⟩, pW.ext x5, hpW, ⟨by simp [Rank], fun x => by rw [bW]; split <;> omega, fun x => ?_, fun x hx => by simp at hx⟩, lW, by simp; omega, by simpa [vi, ni] using o5, fun b hb => ?_, cW.ext x5, xW.trans x5⟩ fun s f V ⟨a3, n, L, l, la, lc, hs, a5, pV, hpV, tV, lV, hl, oV, fV, cV, xV⟩ => ?_
    · rw [bW]; by_cases e : x < R * C ∧ peakB R C h x = true <;> simp [e]
    · have hb : b5 = b := by simpa [blk] using hb
      subst hb
      refine ⟨by omega, fun e => ?_⟩
      have := pW.2.1.blk_lt e; omega
    · subst hs
      cases s with
      | zero =>
        have hz : ¬ (0 : Int) < ((0 : Nat) : Int) := by omega
        simp (disch := omega) only [go_sem, Nat.reduceEqDiff, ↓reduceIte, Nat.reduceAdd, a3, a5, pV.1.cell, hz, Try.results85]
        rw [tV.done] at oV
        exact ⟨la, lc, by rw [ni_len, tV.done], by rw [ni_len]; exact oV, fun b hb => by have := (fV b hb).1; omega, xV⟩
      | succ n =>
        have hgt0 : (0 : Int) < ((n + 1 : Nat) : Int) := by omega
        simp (disch := omega) only [go_sem, Nat.reduceEqDiff, ↓reduceIte, Nat.reduceAdd, a3, pV.1.cell, hgt0]
        simp (disch := omega) only [go_sem, Nat.reduceEqDiff, ↓reduceIte, Nat.reduceAdd, a3, a5]
        refine callK_of (by kernel_rfl) (take_c R C cb h pb a c n L _ pV cV (by omega) hca lV hpV (by omega)) ?_
        rintro _ w6 ⟨rfl, L', p6, h6, b6, l6, g6⟩
        have ol : OwnS w6 3 1 la l.length lc (vi (ni l)) := g6.own oV fun b hb e => by
          have := fV b hb
          rcases e with e | e
          · omega
          · exact this.2 e
        have c6 : CellsAt w6 cb (R * C) h := g6.cells cV fun e => by
          rcases e with e | e
          · omega
          · exact hca e
        have x6 : Ext w w6 := g6.ext xV fun b e => by
          rcases e with e | e
          · omega
          · have := fW b e; omega
        simp (disch := omega) only [go_sem, Nat.reduceEqDiff, ↓reduceIte, Nat.reduceAdd]
        refine bslK_1 elt_i rfl fun w7 b7 e7 x7 k7 _ => ?_
        simp (disch := omega) only [go_sem, Nat.reduceEqDiff, ↓reduceIte, Nat.reduceAdd]
        have s7 := x7.size
        have s6 := g6.size
        refine appK_1 elt_i (ol.ext x7) k7 rfl (by omega) (.inl (by decide)) fun w8 a8 c8 o8 g8 h8 => ?_
        simp (disch := omega) only [go_sem, Nat.reduceEqDiff, ↓reduceIte, Nat.reduceAdd]
        have p7 := p6.ext x7
        have p7l := p6.1.lt
        refine ⟨n, by omega, (by first | assumption | (simp only [upd_apply, Nat.reduceEqDiff, ↓reduceIte] <;> first | rfl | assumption) | simp [upd_apply, *]), n, L', l ++ [L 0], a8, c8, rfl, by simp [upd_apply], ⟨g8.blk p7.1 ?_, p7.2.1.grow g8 ?_, p7.2.2⟩, h6, tV.step hpV b6, l6, by simp; omega, by rw [← vi_ni_snoc l (L 0) _ rfl]; simpa using o8, fun b hb => ?_, (c6.ext x7).grow g8 ?_, g8.ext (x6.trans x7) fun b hb => by have := (fV b hb).1; omega⟩
        · intro e; have := (fV pb e).1; omega
        · intro b hb e; exact (fV b e).2 hb
        · rcases h8 b hb with e | e
          · exact fV b e
          · refine ⟨by omega, fun e2 => ?_⟩
            have := p6.2.1.blk_lt e2; omega
        · intro e; have := (fV cb e).1; omega
end Go.Proofs.Ytdlepfeckiahdaa
