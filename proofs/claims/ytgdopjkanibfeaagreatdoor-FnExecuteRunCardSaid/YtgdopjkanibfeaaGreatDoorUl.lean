/- A line with a grid; a line that asks for a run; what a line answers. -/
import Derived.Test.YtgdopjkanibfeaaGreatDoorUk
import Derived.Recover
set_option linter.all false
set_option maxRecDepth 20000
namespace Go.Proofs.YtgdopjkanibfeaaGreatDoor
open Go.RowKit Go.SW

/-- A desk's new grid, made by a call. -/
theorem desk_new {W W1 : World} {d b : Nat} {n0 : Nat} {rows : List (List Int)} {A : Nat → Option Addr} {X : Nat → Prop} (v : Valid rows) (or : OwnRows W 25 3 n0 b rows A) (g : Wrote d W W1) (k : Blk W1 d #[.slice (some ⟨b, 0, none⟩) rows.length rows.length, .slice none 0 0] 61) (hX : ∀ x, X x → x < n0) (hd : d < n0) : Desk W1 61 d rows X := by
  have hR7 := v.r7
  have hC7 := v.c7
  have hr : RowsAt W (some ⟨b, 0, none⟩) rows A _ := or.at (fun l hl x hx => by have := v.rng l hl x hx; exact ⟨by omega, by omega⟩) (by simp [maxLen]; omega) fun l hl => by rw [v.rlen l hl]; simp [maxLen]; omega
  obtain ⟨xs, ot, _⟩ := or.top
  have hb := or.hb
  have s := g.size
  refine ⟨_, A, _, _, k, hr.kept (fun x hx _ => ?_) (fun i hi x hx _ => ?_), fun x hx => ?_, fun i hi x hx => ?_⟩
  · simp only [blk_some, Option.some.injEq] at hx
    exact g.other x (by omega)
  · obtain ⟨br, h1, h2, h3, oo⟩ := or.row i hi
    rw [h1] at hx
    simp only [blk_some, Option.some.injEq] at hx
    exact g.other x (by omega)
  · have hlt := ot.blk_lt hx
    simp only [blk_some, Option.some.injEq] at hx
    exact ⟨fun e => by have := hX x e; omega, by omega, by omega⟩
  · obtain ⟨br, h1, h2, h3, oo⟩ := or.row i hi
    have hlt := oo.blk_lt hx
    rw [h1] at hx
    simp only [blk_some, Option.some.injEq] at hx
    exact ⟨fun e => by have := hX x e; omega, by omega, by omega⟩

theorem obeyGrid_c (d : Nat) (rows rows' : List (List Int)) (X : Nat → Prop) (w : World) (hd : Desk w 61 d rows X) (hX : ∀ x, X x → x < w.heap.size) (hgv : gvalid rows' = true) :
    Ret Tryz.prog 79 #[.pointer (some ⟨d, 0, none⟩), .string (bs (grd ++ gtext rows'))] w fun v w' => v = .tuple #[.string (bs [111, 107, 10]), .bool true] ∧ Grow (some d) w w' ∧ Desk w' 61 d rows' X := by
  obtain ⟨a, A, Cp, gc, k, r, h1, h2⟩ := hd.ex
  have v := (gvalid_iff rows').1 hgv
  refine enter2 Tryz.func79 rfl (by kernel_rfl) (of_decide_eq_true (by kernel_rfl)) fun f a0 a1 => ?_
  simp (disch := omega) only [go_sem, Nat.reduceEqDiff, ↓reduceIte, Nat.reduceAdd, a1]
  refine callK_pure (by kernel_rfl) (cutPrefix_c _ grd _) fun w1 x1 => ?_
  rw [(grd_pre _).1, (grd_pre _).2]
  simp (disch := omega) only [go_sem, Nat.reduceEqDiff, ↓reduceIte, Nat.reduceAdd, a0]
  refine callK_of (by kernel_rfl) (implGridFrom_c rows' hgv _) ?_
  rintro _ w2 ⟨b, A', rfl, x2, or⟩
  have s1 := x1.size
  have ld := k.lt
  simp (disch := omega) only [go_sem, Nat.reduceEqDiff, ↓reduceIte, Nat.reduceAdd, a0]
  refine callK_of (by kernel_rfl) (become_c d _ _ _ _ _ _ ((k.ext x1).ext x2)) ?_
  rintro _ w3 ⟨rfl, g3, k3⟩
  simp (disch := omega) only [go_sem, Nat.reduceEqDiff, ↓reduceIte, Nat.reduceAdd, Tryz.results79]
  exact ⟨trivial, ((x1.trans x2).grow _).trans g3.grow, desk_new v or g3 k3 (fun x hx => by have := hX x hx; omega) (by omega)⟩

theorem vi_cell {w : World} {b : Nat} {l : List Int} {T : TypeId} (k : Blk w b (vi l).toArray T) {i : Nat} (h : i < l.length) : w.cell? ⟨b, i, none⟩ = some (.int .i64 (l.getD i 0)) := by
  rw [k.cell, List.getElem?_toArray, vi_get l i h]

theorem deskRun_c (d nb r c : Nat) (rows : List (List Int)) (X : Nat → Prop) (w : World) (hd : Desk w 61 d rows X) (kn : Blk w nb (vi [(r : Int), (c : Int)]).toArray 3) (hcells : (ni (runOf rows r c)).length ≤ 1000) (hr : ∀ x ∈ ni (runOf rows r c), 0 ≤ x ∧ x ≤ 99) :
    Ret Tryz.prog 116 #[.pointer (some ⟨d, 0, none⟩), .slice (some ⟨nb, 0, none⟩) 2 2] w fun v w' => v = .tuple #[.string (bs (sp (ni (runOf rows r c)) ++ [10])), .bool (cellok rows r c)] ∧ Ext w w' := by
  obtain ⟨a, A, Cp, gc, k, rr, h1, h2⟩ := hd.ex
  have n0 : ∀ {W : World}, Ext w W → W.cell? ⟨nb, 0, none⟩ = some (.int .i64 r) := fun x => vi_cell (kn.ext x) (i := 0) (by simp)
  have n1 : ∀ {W : World}, Ext w W → W.cell? ⟨nb, 1, none⟩ = some (.int .i64 c) := fun x => vi_cell (kn.ext x) (i := 1) (by simp)
  refine enter2 Tryz.func116 rfl (by kernel_rfl) (of_decide_eq_true (by kernel_rfl)) fun f a0 a1 => ?_
  have ex : Ext w w := Ext.refl _
  simp (disch := omega) only [go_sem, Nat.reduceEqDiff, ↓reduceIte, Nat.reduceAdd]
  refine QR_sch none (.st 0 (.st 1 (.st 2 (.st 3 (.st 4 (.st 5 (.st 6 (.st 7 (.st 8 (.st 9 (.ef 10 (.st 11 (.st 12 (.st 13 (.st 14 (.st 15 (.done))))))))))))))))) (by kernel_rfl) (by kernel_rfl) fun w0 x0 => ?_
  have X := ex.trans x0
  have k := k.ext x0
  simp (disch := omega) only [go_sem, Nat.reduceEqDiff, ↓reduceIte, Nat.reduceAdd, a0, a1, k.cell, n0 x0, n1 x0, Int.reduceToNat, ldS_none]
  refine callK_of (by kernel_rfl) (waterRun_c _ _ _ _ _ _ _ _ (rr.ext X)) ?_
  rintro _ w1 ⟨ra, rc, rfl, oo, hra, y1⟩
  refine nxE_of (y1.grow _) ?_
  have X := X.trans y1
  have k := k.ext y1
  skip
  simp (disch := omega) only [go_sem, Nat.reduceEqDiff, ↓reduceIte, Nat.reduceAdd]
  refine callK_pure (by kernel_rfl) (implSpaced_c ra _ rc _ oo.ints hcells hr) fun w2 x2 => ?_
  simp (disch := omega) only [go_sem, Nat.reduceEqDiff, ↓reduceIte, Nat.reduceAdd, Tryz.results116]
  exact ⟨trivial, X.trans x2⟩

theorem answerIdle_c (p : Addr) (w : World) : CallsD Tryz.prog 78 #[.pointer (some p)] .returning w fun e u' w' => e = .returned (.tuple #[]) ∧ u' = .returning ∧ w' = w := by
  refine callsD_of_wpS Tryz.func78 rfl fun c₀ cs hu => ?_
  apply wpS_seq
  apply wpS_region
  simp [wpOpsS, go_sem, recoverD, hu, Tryz.ntmps78, Exit.thenS]
  apply wpS_seq
  apply wpS_region
  simp [wpOpsS, go_sem, Exit.thenS]
  refine wpS_cond (t := false) (by simp [Act.eval, Array.replicate]) ?_
  simp only [Bool.false_eq_true, if_false]
  refine wpS_of_wp (wp_skip ?_)
  cases c₀
  simp_all [bodyPostS, results, Tryz.results78]

theorem answer_c (d : Nat) (l out : List UInt8) (w : World) (R : World → World → Prop) (hR : ∀ W, Ext w W → W.heap.size = w.heap.size + 1 → Ret Tryz.prog 79 #[.pointer (some ⟨d, 0, none⟩), .string (bs l)] W fun v w' => v = .tuple #[.string (bs out), .bool true] ∧ Grow (some d) W w' ∧ R W w') (hdw : d < w.heap.size) :
    Ret Tryz.prog 41 #[.pointer (some ⟨d, 0, none⟩), .string (bs l)] w fun v w' => v = .string (bs out) ∧ ∃ W W', Ext w W ∧ Grow (some d) W W' ∧ R W W' ∧ Wrote w.heap.size W' w' := by
  have hmf : ∀ (fn : Fn) (first cap : Array Value) (w : World), (Instr.makeFunc fn first cap).run Tryz.prog w = .ok (.func fn first cap) w := fun _ _ _ _ => rfl
  unfold Ret
  go_enter_defers Tryz.func41, Tryz.ntmps41
  go_wp2_with (go_at_call 79; refine Calls.mono (hR _ (ext_alloc w _) (by simp)) ?_; rintro e w2 ⟨v, rfl, rfl, g, hr⟩; have k2 := g.blk (heap_alloc_new w (.cells #[.string (bs [])] 9) : Blk (w.alloc (.cells #[.string (bs [])] 9)) w.heap.size #[.string (bs [])] 9) (by simp; omega); have hc : w2.cell? ⟨w.heap.size, 0, none⟩ = some (.string (bs [])) := (by rw [k2.cell]; rfl); have hz : w2.frozen? ⟨w.heap.size, 0, none⟩ = false := k2.frozen 0)
  have k3 := Blk.put k2 0 (.string (bs out))
  have hc3 : (w2.setCell ⟨w.heap.size, 0, none⟩ (.string (bs out))).cell? ⟨w.heap.size, 0, none⟩ = some (.string (bs out)) := by rw [k3.cell]; rfl
  refine leaves_cons (f := 78) (args := #[.pointer (some ⟨w.heap.size, 0, none⟩)]) (by simp) (by simp [go_sem]) ?_
  refine (answerIdle_c ⟨w.heap.size, 0, none⟩ _).mono ?_
  rintro e u' w'' ⟨rfl, rfl, rfl⟩
  have fin : ∃ W W', Ext w W ∧ Grow (some d) W W' ∧ R W W' ∧ Wrote w.heap.size W' (w2.setCell ⟨w.heap.size, 0, none⟩ (.string (bs out))) := ⟨_, w2, ext_alloc w _, g, hr, wrote_setCell w2 ⟨w.heap.size, 0, none⟩ _⟩
  obtain ⟨W, W', f1, f2, f3, f4⟩ := fin
  simp [Leaves, settle, results, Tryz.results41, go_sem, hc3]
  exact ⟨W, f1, W', f2, f3, f4⟩

/-- A line and its answer, by what the desk holds. -/
def Ans (l out : List UInt8) (rows rows' : List (List Int)) : Prop :=
  ∀ (d : Nat) (X : Nat → Prop) (w : World), Desk w 61 d rows X → (∀ x, X x → x < w.heap.size ∧ x ≠ d) →
    Ret Tryz.prog 41 #[.pointer (some ⟨d, 0, none⟩), .string (bs l)] w fun v w' => v = .string (bs out) ∧ Grow (some d) w w' ∧ Desk w' 61 d rows' X
theorem ans_of {l out : List UInt8} {rows rows' : List (List Int)} (h : ∀ (d : Nat) (X : Nat → Prop) (w : World), Desk w 61 d rows X → (∀ x, X x → x < w.heap.size) →
    Ret Tryz.prog 79 #[.pointer (some ⟨d, 0, none⟩), .string (bs l)] w fun v w' => v = .tuple #[.string (bs out), .bool true] ∧ Grow (some d) w w' ∧ Desk w' 61 d rows' X) : Ans l out rows rows' := by
  intro d X w dk hX
  obtain ⟨a, A, Cp, gc, k, r, h1, h2⟩ := dk.ex
  have hd := k.lt
  refine Ret.mono (answer_c d l out w (fun _ W' => Desk W' 61 d rows' (fun x => X x ∨ x = w.heap.size)) (fun W e hs => ?_) hd) fun v w' ⟨hv, W, W', e, g, hr, gw⟩ => ⟨hv, ?_, ?_⟩
  · have dk' : Desk W 61 d rows (fun x => X x ∨ x = w.heap.size) := (dk.avoid fun y hy => hy.elim .inl fun e => .inr (by omega)).ext e
    exact h d _ W dk' fun x hx => hx.elim (fun hx => by have := (hX x hx).1; omega) (fun e => by omega)
  · exact ((e.grow _).trans g).fresh gw.grow fun b hb => by cases hb; exact Nat.le_refl _
  · exact (hr.grow (gw.grow.growP (X := fun x => x = w.heap.size) fun x e => by cases e; rfl) (fun y hy => .inr hy) (by omega)).avoid fun y hy => .inl (.inl hy)

theorem ansGrid (rows rows' : List (List Int)) (hgv : gvalid rows' = true) : Ans (grd ++ gtext rows') [111, 107, 10] rows rows' :=
  ans_of fun d X w dk hX => obeyGrid_c d rows rows' X w dk hX hgv

theorem ansRun (rows : List (List Int)) (r c : Nat) (hr : r < 100) (hc : c < 100) (hok : cellok rows r c = true) : Ans ([114, 117, 110, 32] ++ dec r ++ [32] ++ dec c) (sp (ni (runOf rows r c)) ++ [10]) rows rows := by
  have hv : gvalid rows = true := by simp only [cellok, Bool.and_eq_true] at hok; exact hok.1
  have hrc : 0 ≤ (r : Int) ∧ (r : Int) < rows.length ∧ 0 ≤ (c : Int) ∧ (c : Int) < rowLen rows := by simp only [cellok, Bool.and_eq_true, decide_eq_true_eq] at hok; exact hok.2
  have g := ((gvalid_iff rows).1 hv).gd
  have hi : r * rowLen rows + c < rows.length * rowLen rows := by
    have := Nat.mul_le_mul_right (rowLen rows) (show r + 1 ≤ rows.length by omega)
    rw [Nat.succ_mul] at this
    omega
  have hrun : runOf rows r c = waterN rows.length (rowLen rows) (hgt rows) (r * rowLen rows + c) := by rw [runOf, if_pos hok]; simp
  have hn49 := g.le
  have hcells : ∀ x ∈ ni (runOf rows r c), 0 ≤ x ∧ x ≤ 99 := fun x hx => by
    rw [hrun] at hx
    obtain ⟨j, hj, rfl⟩ := List.mem_map.1 hx
    have := waterN_lt g _ hi j hj
    omega
  have hlen : (ni (runOf rows r c)).length ≤ 1000 := by
    rw [ni_len, hrun]
    have h1 := waterN_len g _ hi
    have h2 := g.hh _ hi
    omega
  have hd1 := dec_len2 hr
  have hd2 := dec_len2 hc
  have hs : spl 32 ([114, 117, 110, 32] ++ dec r ++ [32] ++ dec c) = [114, 117, 110] :: [r, c].map dec := by
    have e : ([114, 117, 110, 32] ++ dec r ++ [32] ++ dec c : List UInt8) = [114, 117, 110] ++ 32 :: (dec r ++ 32 :: dec c) := by simp
    rw [e, spl_app (by decide), spl_app (dec_nospace hr), spl_none (dec_nospace hc)]; rfl
  refine ans_of fun d X w dk hX => ?_
  refine Ret.mono (obey_c d _ [114, 117, 110] [r, c] 6 116 w (fun v W W' => v = .tuple #[.string (bs (sp (ni (runOf rows r c)) ++ [10])), .bool true] ∧ Ext W W') (by simp; omega) (not_grd (by decide)).1 hs (by simp; omega) (by simp) rfl (by kernel_rfl) fun W nb e kn => ?_) fun v w' ⟨W, e, hv, e2⟩ => ⟨hv, (e.trans e2).grow _, (dk.ext e).ext e2⟩
  refine Ret.mono (deskRun_c d nb r c rows X W (dk.ext e) kn hlen hcells) fun v W' ⟨hv, e2⟩ => ⟨_, _, hv, by rw [hv, hok], e2⟩
end Go.Proofs.YtgdopjkanibfeaaGreatDoor
