import Derived.Test.YtcbmhjndbpafbaaGreatDoorZ1
import Derived.Test.YtcbmhjndbpafbaaGreatDoorK4
set_option linter.all false
set_option maxRecDepth 20000
namespace Go.SW
open Go Go.RowKit
def arr (P : Program) (T : TypeId) : Option (Nat × Nat) :=
 match P.underlying T with
 | some (.array n e) => (P.info? e).map fun i => (n, i.size)
 | _ => none
theorem arr_some {P : Program} {T n s : Nat} (h : arr P T = some (n, s)) : ∃ e i, P.underlying T = some (.array n e) ∧ P.info? e = some i ∧ i.size = s := by
 unfold arr at h
 split at h
 ·rename_i n' e he
  cases hi : P.info? e with
  | none => simp [hi] at h
  | some i =>
   simp only [hi, Option.map_some, Option.some.injEq, Prod.mk.injEq] at h
   obtain ⟨rfl, rfl⟩ := h
   exact ⟨e, i, he, hi, rfl⟩
 ·cases h
def ixK (P : Program) (T : TypeId) (x i : Value) (k : Value → World → Prop) (w : World) : Prop :=
 match (Instr.indexAt T x i).run P w with
 | .ok v w' => k v w'
 | _ => False
def slK (P : Program) (T : TypeId) (x : Value) (lo hi : Option Value) (k : Value → World → Prop) (w : World) : Prop :=
 match (Instr.sliceAt T x lo hi none).run P w with
 | .ok v w' => k v w'
 | _ => False
section
variable {P : Program} {f : F} {w : World} {k : Value → World → Prop} {d : Option Tmp} {ty : TypeId} {pos : String} {aft : Array Edge} {g : Option (Nat × Bool)}
theorem OW_indexAddr (T : TypeId) (x y : Operand) : OW false P ⟨d, .indexAddr T x y, ty, pos, aft, g⟩ f k w = ixK P T (ev f x) (ev f y) k w := by
 simp only [OW, Bool.false_eq_true, if_false, genK, ixK, execOp, Sem.run_bind]
 cases (Instr.indexAt T (ev f x) (ev f y)).run P w <;> rfl
theorem OW_sliceP (T : TypeId) (x : Operand) (lo hi : Option Operand) : OW false P ⟨d, .slice T x lo hi none, ty, pos, aft, g⟩ f k w = slK P T (ev f x) (lo.map (ev f)) (hi.map (ev f)) k w := by
 simp only [OW, Bool.false_eq_true, if_false, genK, slK, execOp, Sem.run_bind, Option.map_none]
 cases (Instr.sliceAt T (ev f x) (lo.map (ev f)) (hi.map (ev f)) none).run P w <;> rfl
theorem ixK_congr {T : TypeId} {x y x' y' : Value} (h : x = x') (h2 : y = y') : ixK P T x y k w = ixK P T x' y' k w := by rw [h, h2]
theorem slK_congr {T : TypeId} {x x' : Value} {a b a' b' : Option Value} (h : x = x') (h2 : a = a') (h3 : b = b') : slK P T x a b k w = slK P T x' a' b' k w := by rw [h, h2, h3]
theorem idxV_ptr (o : Option Nat) (a : Option Addr) (v : Value) : idxV o (.pointer a) v = none := by unfold idxV; rfl
theorem slcV_ptr (T : TypeId) (a : Option Addr) (lo hi : Option Value) : slcV P T (.pointer a) lo hi = none := by unfold slcV; rfl
theorem ix_of {T n s b o : Nat} {kk : IntKind} {i : Int} (h : arr P T = some (n, s)) (h0 : 0 ≤ i) (h1 : i < n) : ixK P T (.pointer (some ⟨b, o, none⟩)) (.int kk i) k w = k (.pointer (some ⟨b, o + i.toNat * s, none⟩)) w := by
 obtain ⟨e, inf, hT, he, hs⟩ := arr_some h
 have hr : (Instr.indexAt T (.pointer (some ⟨b, o, none⟩)) (.int kk i)).run P w = .ok (.pointer (some ⟨b, o + i.toNat * s, none⟩)) w := by
  simp only [Instr.indexAt, Instr.sureAddr, asIntOf, underlying, sizeOf, typeInfo, program, bind, Sem.bind, pure, Sem.run, hT, h0, h1, and_self, if_true, he, hs, add_mk]
 unfold ixK; rw [hr]
theorem sl_of {T n b o : Nat} {k1 k2 : IntKind} {lo hi : Int} (h : arr P T = some (n, 1)) (h0 : 0 ≤ lo) (h1 : lo ≤ hi) (h2 : hi ≤ n) (h3 : lo < n) : slK P T (.pointer (some ⟨b, o, none⟩)) (some (.int k1 lo)) (some (.int k2 hi)) k w = k (.slice (some ⟨b, o + lo.toNat, none⟩) (hi.toNat - lo.toNat) (n - lo.toNat)) w := by
 obtain ⟨e, inf, hT, he, hs⟩ := arr_some h
 have e1 : (0 : Int) ≤ hi := om
 have e2 : lo ≤ ((hi.toNat : Nat) : Int) := om
 have e3 : ¬ n = lo.toNat := om
 have hr : (Instr.sliceAt T (.pointer (some ⟨b, o, none⟩)) (some (.int k1 lo)) (some (.int k2 hi)) none).run P w = .ok (.slice (some ⟨b, o + lo.toNat, none⟩) (hi.toNat - lo.toNat) (n - lo.toNat)) w := by
  simp only [Instr.sliceAt, Instr.sureAddr, Instr.sliceBounds, Instr.sliceBound, asIntOf, underlying, sizeOf, typeInfo, program, bind, Sem.bind, pure, Sem.run, hT, h0, h2, e1, e2, and_self, if_true, he, hs, if_neg e3, add_mk, Nat.mul_one, Option.isSome_none, Bool.false_eq_true, if_false]
 unfold slK; rw [hr]
end
attribute [congr] ixK_congr slK_congr
attribute [go_sem ↓] OW_indexAddr OW_sliceP
attribute [go_sem] idxV_ptr slcV_ptr
def lcs (s : Lb) : List Value := [.int .i64 s.x, .int .i64 s.y, .int .i64 s.w, .int .i64 s.v]
structure LabS (w : World) (a : Option Addr) (L : List Lb) : Prop where
 head : L ≠ [] → ∃ b o, a = some ⟨b, o, none⟩
 cell : ∀ b o, a = some ⟨b, o, none⟩ → ∀ i, i < L.length → ∀ j, j < 4 → w.cell? ⟨b, o + i * 4 + j, none⟩ = (lcs (L.getD i lb0))[j]?
 short : L.length ≤ 1000
theorem LabS.kept {w w' : World} {a : Option Addr} {L : List Lb} (h : LabS w a L) (hk : ∀ b, blk a = some b → b < w.heap.size → w'.heap[b]? = w.heap[b]?) : LabS w' a L :=
 ⟨h.head, fun b o e i hi j hj => by
  have h0 := h.cell b o e i hi j hj
  have hlt : b < w.heap.size := by
   match j, hj with
   | 0, _ => exact World.block_lt_of_cell? w _ h0
   | 1, _ => exact World.block_lt_of_cell? w _ h0
   | 2, _ => exact World.block_lt_of_cell? w _ h0
   | 3, _ => exact World.block_lt_of_cell? w _ h0
  rw [← h0]
  simp only [World.cell?, hk b (by rw [e]; rfl) hlt], h.short⟩
theorem LabS.ext {w w' : World} {a : Option Addr} {L : List Lb} (h : LabS w a L) (e : Ext w w') : LabS w' a L := h.kept fun b _ hb => Below.block e b hb
theorem LabS.grow {ob : Option Nat} {w w' : World} {a : Option Addr} {L : List Lb} (h : LabS w a L) (g : Grow ob w w') (hne : ∀ b, blk a = some b → ob ≠ some b) : LabS w' a L := h.kept fun b hb hlt => g.other b hlt (hne b hb)
theorem LabS.nil (w : World) (a : Option Addr) : LabS w a [] := ⟨fun h => absurd rfl h, fun _ _ _ i h => by simp at h, by simp⟩
theorem LabS.read0 {w : World} {b o : Nat} {L : List Lb} (h : LabS w (some ⟨b, o, none⟩) L) {i : Nat} (hi : i < L.length) : readCells w ⟨b, o + i * 4, none⟩ 4 = some (lcs (L.getD i lb0)) := by
 have c := fun j hj => h.cell b o rfl i hi j hj
 have c0 := c 0 om
 have c1 := c 1 om
 have c2 := c 2 om
 have c3 := c 3 om
 simp only [readCells]
 rw [show List.range 4 = [0, 1, 2, 3] from rfl]
 simp [add_mk, c0, c1, c2, c3, lcs]
 simp [Nat.add_assoc] at c0 ⊢
 simp [c0, lcs]
theorem LabS.read {w : World} {b o : Nat} {L : List Lb} (h : LabS w (some ⟨b, o, none⟩) L) {i : Nat} (hi : i < L.length) : readCells w ⟨b, o + i * 4, none⟩ 4 = some [.int .i64 (L.getD i lb0).x, .int .i64 (L.getD i lb0).y, .int .i64 (L.getD i lb0).w, .int .i64 (L.getD i lb0).v] := h.read0 hi
theorem LabS.fld {w : World} {b o : Nat} {L : List Lb} (h : LabS w (some ⟨b, o, none⟩) L) {i : Nat} (hi : i < L.length) :
  w.cell? ⟨b, o + i * 4, none⟩ = some (.int .i64 (L.getD i lb0).x) ∧ w.cell? ⟨b, o + i * 4 + 1, none⟩ = some (.int .i64 (L.getD i lb0).y) ∧ w.cell? ⟨b, o + i * 4 + 2, none⟩ = some (.int .i64 (L.getD i lb0).w) ∧ w.cell? ⟨b, o + i * 4 + 3, none⟩ = some (.int .i64 (L.getD i lb0).v) :=
 ⟨h.cell b o rfl i hi 0 om, h.cell b o rfl i hi 1 om, h.cell b o rfl i hi 2 om, h.cell b o rfl i hi 3 om⟩
def lcl (L : List Lb) : List Value := L.flatMap lcs
theorem lcl_len (L : List Lb) : (lcl L).length = L.length * 4 := by
 induction L with
 | nil => rfl
 | cons s L ih => simp only [lcl, List.flatMap_cons, List.length_append, List.length_cons] at ih ⊢; rw [ih]; simp [lcs]; omega
theorem lcl_app (L M : List Lb) : lcl L ++ lcl M = lcl (L ++ M) := by simp [lcl]
theorem lcl_get (L : List Lb) {i j : Nat} (hi : i < L.length) (hj : j < 4) : (lcl L)[i * 4 + j]? = (lcs (L.getD i lb0))[j]? := by
 induction L generalizing i with
 | nil => simp at hi
 | cons s L ih =>
  simp only [lcl, List.flatMap_cons]
  cases i with
  | zero =>
   rw [List.getElem?_append_left (by simp [lcs]; omega)]
   simp
  | succ i =>
   rw [List.getElem?_append_right (by simp [lcs]; omega)]
   have := ih (i := i) (by simpa using hi)
   simp only [lcl] at this
   rw [show (i + 1) * 4 + j - (lcs s).length = i * 4 + j by simp [lcs]; omega, this]
   simp
theorem OwnS.labs {w : World} {e c : Nat} {a : Option Addr} {L : List Lb} (h : OwnS w e 4 a L.length c (lcl L)) (hs : L.length ≤ 1000) : LabS w a L :=
 ⟨fun hne => by
  obtain ⟨b, rfl⟩ := h.some (List.length_pos_iff.2 hne)
  exact ⟨b, 0, rfl⟩, fun b o e i hi j hj => by
  subst e
  have hb := h.some om
  obtain ⟨b', hb⟩ := hb
  simp only [Option.some.injEq, Addr.mk.injEq] at hb
  obtain ⟨rfl, rfl, -⟩ := hb
  rw [Nat.zero_add, h.cell om, lcl_get L hi hj], hs⟩
theorem LabS.take {w : World} {a : Option Addr} {L : List Lb} (h : LabS w a L) (n : Nat) : LabS w a (L.take n) :=
 ⟨fun hne => h.head fun e => hne (by rw [e]; simp), fun b o e i hi j hj => by
  rw [List.length_take] at hi
  rw [h.cell b o e i om j hj]
  simp only [List.getD_eq_getElem?_getD, List.getElem?_take, show i < n from om, if_true], by
  have := h.short
  rw [List.length_take]; omega⟩
theorem appK_1c {P : Program} {T ty e bs : Nat} {z : Value} {k : Value → World → Prop} {w : World} (ht : elt P T = some (e, 1, z, bs))
  {a : Option Addr} {n c : Nat} {xs : List Value} (hown : OwnS w e 1 a n c xs) {b : Nat} {v : Value} (hb1 : Blk w b #[v] e) (h1 : v.oneCell' = true) (hn : n < 1000000) (hbs : bs ≤ 8)
  (h : ∀ w' a' c', OwnS w' e 1 a' (n + 1) c' (xs ++ [v]) → ((a' = a ∧ c' = c ∧ Grow (blk a) w w') ∨ (Ext w w' ∧ ∀ b, blk a' = some b → w.heap.size ≤ b)) → k (.slice a' (n + 1) c') w') :
  biK P .append #[T, T] ty #[.slice a n c, .slice (some ⟨b, 0, none⟩) 1 1] k w := by
 obtain ⟨hT, i, hi, hs, hz, hb, hzs⟩ := elt_some ht
 have hnews : ∀ j u, [v][j]? = some u → w.cell? ((⟨b, 0, none⟩ : Addr).add j) = some u := by
  intro j u hu
  rw [add_mk, Nat.zero_add, hb1.cell]
  cases j with
  | zero => simpa using hu
  | succ j => simp at hu
 have h63 : n + 1 ≤ maxLen := by simp [maxLen]; omega
 have hbytes : (n + 1) * bs ≤ 140737488355328 := Nat.le_trans (Nat.mul_le_mul_left _ hbs) om
 have h1' : ∀ u ∈ [v], u.oneCell' = true := by simpa using h1
 obtain ⟨v', w', hr, hrow, hg, hnil⟩ := run_append_own (P := P) w 0 T ty e i z 1 bs hT hi hz hs hb hzs dc (.slice a n c) n xs hown.row ⟨b, 0, none⟩ 1 1 [v] rfl hnews h1' h63 hbytes (Nat.zero_le _)
 obtain ⟨a', c', rfl, hown'⟩ := own_of_row hrow
 have hgrow : Grow (blk a) w w' := ⟨hg.os, hg.tape, hg.output, hg.size, fun b hb hne => hg.block b hb (fun e => hne (by
  cases a with
  | none => simp [Value.ownBlock] at e
  | some x => simpa [Value.ownBlock, blk] using e.symm))⟩
 have hblk : (a' = a ∧ c' = c ∧ Grow (blk a) w w') ∨ (Ext w w' ∧ ∀ b, blk a' = some b → w.heap.size ≤ b) := by
  rcases hown.2 with ⟨rfl, rfl, rfl⟩ | ⟨g, cur, rfl, hgg, hnc, hcm, hcs, htk⟩
  ·right
   have hr2 := run_append_nil (P := P) w T ty e i z hT hi hz ⟨b, 0, none⟩ 1 1 [v] (by rw [hs]; rfl) hnews om om (by rw [hb]; omega)
   have := hr.symm.trans hr2
   simp only [Result.ok.injEq, Value.slice.injEq] at this
   refine ⟨by rw [this.2]; exact (Ext.drew w).trans (ext_alloc _ _), fun b2 hb' => ?_⟩
   rw [this.1.1] at hb'
   simp only [blk_some, Option.some.injEq] at hb'
   omega
  ·by_cases hroom : n + 1 ≤ c
   ·left
    have hfit' : n * i.size + [v].length ≤ cur.size := by rw [hcs, hs]; simp; omega
    have hr2 := run_append_room (P := P) w T ty e i hT hi g n c cur hgg ⟨b, 0, none⟩ 1 1 [v] (by rw [hs]; rfl) hnews h1' hroom hfit'
    have := hr.symm.trans hr2
    simp only [Result.ok.injEq, Value.slice.injEq] at this
    exact ⟨this.1.1, this.1.2.2, hgrow⟩
   ·right
    have holds : ∀ j u, xs[j]? = some u → w.cell? ((⟨g, 0, none⟩ : Addr).add j) = some u := by
     intro j u hu
     have hj : j < n * 1 := by
      have h2 := (List.getElem?_eq_some_iff.1 hu).1
      rwa [hown.1] at h2
     rw [add_mk, Nat.zero_add, hown.cell hj, hu]
    have hr2 := run_append_grow (P := P) w T ty e i z hT hi hz ⟨g, 0, none⟩ n c xs (by rw [hs]; exact hown.1) holds ⟨b, 0, none⟩ 1 1 [v] (by rw [hs]; rfl) hnews om om (growslice_fits om (by rw [hb]; exact hbytes))
    have := hr.symm.trans hr2
    simp only [Result.ok.injEq, Value.slice.injEq] at this
    refine ⟨by rw [this.2]; exact (Ext.drew w).trans (ext_alloc _ _), fun b2 hb' => ?_⟩
    rw [this.1.1] at hb'
    simp only [blk_some, Option.some.injEq] at hb'
    omega
 have hrun : (builtin .append #[T, T] ty #[] #[.slice a n c, .slice (some ⟨b, 0, none⟩) 1 1]).run P w = .ok (.value (.slice a' (n + 1) c')) w' := run_bindV hr
 unfold biK
 rw [hrun]
 exact h w' a' c' hown' hblk
theorem OwnS.fore {w : World} {e n m c b : Nat} {xs : List Value} (o : OwnS w e 1 (Option.some ⟨b, 0, none⟩) n c xs) (hm : m ≤ n) : OwnS w e 1 (Option.some ⟨b, 0, none⟩) m c (xs.take m) := by
 obtain ⟨h1, h2⟩ := o
 refine ⟨by rw [List.length_take]; omega, ?_⟩
 rcases h2 with ⟨h, _⟩ | ⟨b', cur, h3, h4, h5, h6, h7, h8⟩
 ·cases h
 ·exact .inr ⟨b', cur, h3, h4, om, h6, h7, by rw [← h8, List.take_take, Nat.mul_one, Nat.mul_one, Nat.min_eq_left hm]⟩
theorem cpyK_nil {P : Program} {T T2 ty e bs s : Nat} {z : Value} {k : Value → World → Prop} {w : World} (ht : elt P T = some (e, s, z, bs)) {x : Option Addr} {c m c2 : Nat} (y : Option Addr)
  (h : k (.int .i64 0) w) : biK P .copy #[T, T2] ty #[.slice x 0 c, .slice y m c2] k w := by
 obtain ⟨hT, i, hi, hs, hz, hb, hzs⟩ := elt_some ht
 have hf : (Builtin.firstCells s 0 (.slice y m c2)).run P w = .ok #[] w := by
  cases y with
  | none => rfl
  | some ad => simp [Builtin.firstCells, loadCells, loadCellsFrom, Sem.run_pure]
 have hr : (builtin .copy #[T, T2] ty #[] #[.slice x 0 c, .slice y m c2]).run P w = .ok (.value (.int .i64 0)) w := by
  show (do pure (Next.value (← Builtin.copy_ #[T, T2] ty #[.slice x 0 c, .slice y m c2])) : Sem Next).run P w = _
  refine run_bindV (a := Value.int .i64 0) (w' := w) ?_
  cases x with
  | none => simp [Builtin.copy_, run_underlying_some hT, sizeOf, typeInfo, hi, hs, Builtin.lenOf, hf]; rfl
  | some a => simp [Builtin.copy_, run_underlying_some hT, sizeOf, typeInfo, hi, hs, Builtin.lenOf, hf, storeCells]; rfl
 unfold biK
 rw [hr]
 exact h
end Go.SW
namespace Go.Proofs.YtcbmhjndbpafbaaGreatDoor
open Go.RowKit Go.SW
theorem scal_lb : scal Tryz.prog 41 = false := ke
theorem aggN_lb : aggN Tryz.prog 41 = some 4 := ke
theorem zero_lb : zeroC Tryz.prog 41 = some #[.int .i64 0, .int .i64 0, .int .i64 0, .int .i64 0] := ke
theorem siz_lb : (Tryz.prog.info? 41).map (·.size) = some 4 := ke
theorem foff_lb0 : foff Tryz.prog 41 0 = some 0 := ke
theorem foff_lb1 : foff Tryz.prog 41 1 = some 1 := ke
theorem foff_lb2 : foff Tryz.prog 41 2 = some 2 := ke
theorem foff_lb3 : foff Tryz.prog 41 3 = some 3 := ke
theorem arr_bd : arr Tryz.prog 83 = some (100, 1) := ke
theorem scal_bd : scal Tryz.prog 83 = false := ke
theorem aggN_bd : aggN Tryz.prog 83 = some 100 := ke
theorem siz_bd : (Tryz.prog.info? 83).map (·.size) = some 100 := ke
theorem zero_bo : zeroC Tryz.prog 83 = some (Array.replicate 100 (.int .u8 0)) := ke
attribute [go_sem] scal_lb aggN_lb foff_lb0 foff_lb1 foff_lb2 foff_lb3 scal_bd aggN_bd
def isC (n : Int) : Bool := decide (0 ≤ n ∧ n < 10)
theorem isCoordinate_c (n : Int) (w : World) : Ret Tryz.prog 82 #[.int .i64 n] w fun v w' => v = .bool (isC n) ∧ Ext w w' := by
 refine enter1 Tryz.func82 rfl fun f a0 => ?_
 by_cases h : 0 ≤ n
 ·simp (disch := omega) only [go_sem, a0, h, Tryz.results82]
  exact ⟨by simp [isC, h], Ext.refl _⟩
 ·simp (disch := omega) only [go_sem, a0, h, Tryz.results82]
  exact ⟨by simp [isC, h], Ext.refl _⟩
theorem pointOf_c (s : Lb) (w : World) (hx : 0 ≤ s.x ∧ s.x < 10) (hy : 0 ≤ s.y ∧ s.y < 10) : Ret Tryz.prog 83 #[.agg #[.int .i64 s.x, .int .i64 s.y, .int .i64 s.w, .int .i64 s.v]] w fun v w' => v = .int .i64 s.pt ∧ Ext w w' := by
 refine enter1 Tryz.func83 rfl fun f a0 => ?_
 simp only [go_sem, a0]
 refine boxK_of fun w0 fb e0 x0 kf _ => ?_
 have kf : Blk w0 fb #[.int .i64 s.x, .int .i64 s.y, .int .i64 s.w, .int .i64 s.v] 41 := by simpa [Value.cells] using kf
 simp (disch := omega) only [go_sem, kf.cell, Tryz.results83]
 exact ⟨rfl, x0⟩
theorem implLabelsValid_c (a : Option Addr) (L : List Lb) (c : Nat) (w : World) (hL : LabS w a L) (hc : L.length ≤ c) :
  Ret Tryz.prog 48 #[.slice a L.length c] w fun v w' => v = .bool (lvalid L) ∧ Ext w w' := by
 have hs := hL.short
 refine enter1 Tryz.func48 rfl fun f a0 => ?_
 by_cases h6 : (6 : Int) < L.length
 ·simp (disch := omega) only [go_sem, a0, h6, Tryz.results48]
  exact ⟨by simp only [lvalid]; rw [decide_eq_false]; rintro ⟨h, -⟩; omega, Ext.refl _⟩
 simp (disch := omega) only [go_sem, a0, h6]
 have bad : ∀ {k : Nat}, k < L.length → ¬ ((L.getD k lb0).Ok ∧ ∀ j, j < k → (L.getD j lb0).pt ≠ (L.getD k lb0).pt) → lvalid L = false := fun hk hn => by
  simp only [lvalid]; rw [decide_eq_false]; rintro ⟨-, h⟩; exact hn (h _ hk)
 refine loopN L.length (fun k f W => f 0 = .slice a L.length c ∧ f 10 = .slice a L.length c ∧ f 11 = .int .i64 L.length ∧ f 12 = .int .i64 k ∧ Ext w W ∧ LokTo L k)
  ⟨uu, uu, uu, uu, Ext.refl _, fun k hk => om⟩ fun k f W hk ⟨a0, a10, a11, a12, xw, hok⟩ => ?_
 by_cases hlt : (k : Int) < (L.length : Int)
 rotate_left
 ·obtain rfl : k = L.length := om
  simp (disch := omega) only [go_sem, a11, a12, hlt, Tryz.results48]
  exact ⟨by rw [show lvalid L = true from lvalid_iff.2 ⟨om, hok⟩], xw⟩
 have hkL : k < L.length := om
 obtain ⟨b, o, rfl⟩ := hL.head (by intro e; rw [e] at hkL; simp at hkL)
 have LW := hL.ext xw
 have hrd := LW.read hkL
 have bad := bad hkL
 generalize hsk : L.getD k lb0 = s at *
 simp (disch := omega) only [go_sem, a0, a10, a11, a12, hlt, hrd]
 refine allocK_of zero_lb fun w1 fb e1 x1 k1 _ => ?_
 simp (disch := omega) only [go_sem]
 refine stK_agg siz_lb sm oi k1 sm fun w2 k2 g2 => ?_
 have s1 := x1.size
 have sw := xw.size
 have x2 : Ext W w2 := g2.ext x1 om
 simp (disch := omega) only [go_sem, k2.cell]
 refine callK_pure ke (isCoordinate_c s.x _) fun w3 x3 => ?_
 have k3 := k2.ext x3
 cases hx : isC s.x with
 | false =>
  simp (disch := omega) only [go_sem, Tryz.results48]
  exact ⟨by rw [bad fun ⟨h, _⟩ => by simp [isC] at hx; obtain ⟨h1, h2, _⟩ := h; omega], (xw.trans x2).trans x3⟩
 | true =>
 have hx' : 0 ≤ s.x ∧ s.x < 10 := by simpa [isC] using hx
 simp (disch := omega) only [go_sem, k3.cell]
 refine callK_pure ke (isCoordinate_c s.y _) fun w4 x4 => ?_
 have k4 := k3.ext x4
 have xw4 := ((xw.trans x2).trans x3).trans x4
 cases hy : isC s.y with
 | false =>
  simp (disch := omega) only [go_sem, Tryz.results48]
  exact ⟨by rw [bad fun ⟨h, _⟩ => by simp [isC] at hy; obtain ⟨_, _, h1, h2, _⟩ := h; omega], xw4⟩
 | true =>
 have hy' : 0 ≤ s.y ∧ s.y < 10 := by simpa [isC] using hy
 by_cases h1 : s.w < 1
 ·simp (disch := omega) only [go_sem, k4.cell, h1, Tryz.results48]
  exact ⟨by rw [bad fun ⟨h, _⟩ => by obtain ⟨_, _, _, _, h2, _⟩ := h; omega], xw4⟩
 by_cases h2 : (5 : Int) < s.w
 ·simp (disch := omega) only [go_sem, k4.cell, h1, h2, Tryz.results48]
  exact ⟨by rw [bad fun ⟨h, _⟩ => by obtain ⟨_, _, _, _, _, h2, _⟩ := h; omega], xw4⟩
 by_cases h3 : s.v < 1
 ·simp (disch := omega) only [go_sem, k4.cell, h1, h2, h3, Tryz.results48]
  exact ⟨by rw [bad fun ⟨h, _⟩ => by obtain ⟨_, _, _, _, _, _, h2, _⟩ := h; omega], xw4⟩
 by_cases h4 : (9 : Int) < s.v
 ·simp (disch := omega) only [go_sem, k4.cell, h1, h2, h3, h4, Tryz.results48]
  exact ⟨by rw [bad fun ⟨h, _⟩ => by obtain ⟨_, _, _, _, _, _, _, h2⟩ := h; omega], xw4⟩
 have hOk : s.Ok := ⟨hx'.1, om, hy'.1, om, om, om, om, om⟩
 simp (disch := omega) only [go_sem, a0, k4.cell, h1, h2, h3, h4]
 refine loopN k (fun j f W => f 0 = .slice (some ⟨b, o, none⟩) L.length c ∧ f 4 = .pointer (some ⟨fb, 0, none⟩) ∧ f 10 = .slice (some ⟨b, o, none⟩) L.length c ∧ f 11 = .int .i64 L.length ∧ f 12 = .int .i64 k ∧ f 47 = .slice (some ⟨b, o, none⟩) k c ∧ f 48 = .int .i64 k ∧ f 49 = .int .i64 j ∧ Ext w W ∧ Blk W fb #[.int .i64 s.x, .int .i64 s.y, .int .i64 s.w, .int .i64 s.v] 41 ∧ ∀ i, i < j → (L.getD i lb0).pt ≠ s.pt)
  ⟨uu, uu, uu, uu, uu, uu, uu, uu, xw4, k4, fun i hi => om⟩ fun j f V hj ⟨a0, a4, a10, a11, a12, a47, a48, a49, xV, kV, hpt⟩ => ?_
 by_cases hlj : (j : Int) < (k : Int)
 ·have hjk : j < k := om
  have hrd := (hL.ext xV).read (i := j) om
  obtain ⟨hjo, -⟩ := hok j hjk
  generalize hsj : L.getD j lb0 = t at *
  simp (disch := omega) only [go_sem, a4, a47, a48, a49, hlj, hrd]
  refine allocK_of zero_lb fun w5 tb e5 x5 k5 _ => ?_
  simp (disch := omega) only [go_sem]
  refine stK_agg siz_lb sm oi k5 sm fun w6 k6 g6 => ?_
  have s5 := x5.size
  have x6 : Ext V w6 := g6.ext x5 om
  have kV6 := kV.ext x6
  simp (disch := omega) only [go_sem, a4]
  refine QR_of ke ke ?_
  simp (disch := omega) only [go_sem, a4, a49, readCells_blk k6 (n := 4) sm, readCells_blk kV6 (n := 4) sm]
  refine callK_q ke (fun w' e => pointOf_c t w' ⟨hjo.1, by have := hjo.2.1; omega⟩ ⟨hjo.2.2.1, by have := hjo.2.2.2.1; omega⟩) ?_
  simp (disch := omega) only [go_sem, a4, a49, readCells_blk k6 (n := 4) sm, readCells_blk kV6 (n := 4) sm]
  refine callK_q ke (fun w' e => pointOf_c s w' hx' hy') ?_
  simp (disch := omega) only [go_sem]
  intro w7 x7
  by_cases hp : t.pt = s.pt
  ·simp (disch := omega) only [go_sem, hp, beq_self_eq_true, Tryz.results48]
   exact ⟨by rw [bad fun ⟨_, h⟩ => h j hjk (by rw [hsj]; exact hp)], (xV.trans x6).trans x7⟩
  ·have hp' : (t.pt == s.pt) = false := beq_eq_false_iff_ne.2 hp
   simp (disch := omega) only [go_sem, hp', a49]
   refine ⟨hjk, uu, uu, uu, uu, uu, uu, uu, uu, (xV.trans x6).trans x7, kV6.ext x7, fun i hi => ?_⟩
   by_cases e : i = j
   ·subst e; rw [hsj]; exact hp
   ·exact hpt i om
 ·obtain rfl : j = k := om
  simp (disch := omega) only [go_sem, a12, a48, a49, hlj]
  exact ⟨hkL, uu, uu, uu, uu, xV, hok.snoc (by rw [hsk]; exact hOk) (by rw [hsk]; exact hpt)⟩
theorem specLabelsValid_c (a : Option Addr) (L : List Lb) (c : Nat) (w : World) (hL : LabS w a L) (hc : L.length ≤ c) :
  Ret Tryz.prog 53 #[.slice a L.length c] w fun v w' => v = .bool (lvalid L) ∧ Ext w w' := by
 have hs := hL.short
 refine enter1 Tryz.func53 rfl fun f a0 => ?_
 simp (disch := omega) only [go_sem, a0]
 have bad : ∀ {k : Nat}, k < L.length → ¬ ((L.getD k lb0).Ok ∧ ∀ j, j < k → (L.getD j lb0).pt ≠ (L.getD k lb0).pt) → lvalid L = false := fun hk hn => by
  simp only [lvalid]; rw [decide_eq_false]; rintro ⟨-, h⟩; exact hn (h _ hk)
 refine loopN L.length (fun k f W => f 0 = .slice a L.length c ∧ f 3 = .int .i64 k ∧ Ext w W ∧ LokTo L k)
  ⟨uu, uu, Ext.refl _, fun k hk => om⟩ fun k f W hk ⟨a0, a3, xw, hok⟩ => ?_
 by_cases hlt : (k : Int) < (L.length : Int)
 rotate_left
 ·obtain rfl : k = L.length := om
  simp (disch := omega) only [go_sem, a0, a3, hlt, Tryz.results53]
  refine ⟨?_, xw⟩
  congr 1
  simp only [lvalid]
  exact decide_eq_decide.2 ⟨fun h => ⟨om, hok⟩, fun h => by have := h.1; omega⟩
 have hkL : k < L.length := om
 obtain ⟨b, o, rfl⟩ := hL.head (by intro e; rw [e] at hkL; simp at hkL)
 have LW := hL.ext xw
 have hrd := LW.read hkL
 have bad := bad hkL
 generalize hsk : L.getD k lb0 = s at *
 simp (disch := omega) only [go_sem, a0, a3, hlt, hrd]
 refine allocK_of zero_lb fun w1 fb e1 x1 k1 _ => ?_
 simp (disch := omega) only [go_sem]
 refine stK_agg siz_lb sm oi k1 sm fun w2 k2 g2 => ?_
 have s1 := x1.size
 have sw := xw.size
 have x2 : Ext W w2 := g2.ext x1 om
 simp (disch := omega) only [go_sem, k2.cell]
 refine callK_pure ke (l6In_c s.x 0 9 _) fun w3 x3 => ?_
 have k3 := k2.ext x3
 by_cases hx : 0 ≤ s.x ∧ s.x ≤ 9
 rotate_left
 ·rw [decide_eq_false hx]
  simp (disch := omega) only [go_sem, Tryz.results53]
  exact ⟨by rw [bad fun ⟨h, _⟩ => hx ⟨h.1, h.2.1⟩], (xw.trans x2).trans x3⟩
 rw [decide_eq_true hx]
 simp (disch := omega) only [go_sem, k3.cell]
 refine callK_pure ke (l6In_c s.y 0 9 _) fun w4 x4 => ?_
 have k4 := k3.ext x4
 have xw4 := ((xw.trans x2).trans x3).trans x4
 by_cases hy : 0 ≤ s.y ∧ s.y ≤ 9
 rotate_left
 ·rw [decide_eq_false hy]
  simp (disch := omega) only [go_sem, Tryz.results53]
  exact ⟨by rw [bad fun ⟨h, _⟩ => hy ⟨h.2.2.1, h.2.2.2.1⟩], xw4⟩
 rw [decide_eq_true hy]
 simp (disch := omega) only [go_sem, k4.cell]
 refine callK_pure ke (l6In_c s.w 1 5 _) fun w5 x5 => ?_
 have k5 := k4.ext x5
 by_cases hw : 1 ≤ s.w ∧ s.w ≤ 5
 rotate_left
 ·rw [decide_eq_false hw]
  simp (disch := omega) only [go_sem, Tryz.results53]
  exact ⟨by rw [bad fun ⟨h, _⟩ => hw ⟨h.2.2.2.2.1, h.2.2.2.2.2.1⟩], xw4.trans x5⟩
 rw [decide_eq_true hw]
 simp (disch := omega) only [go_sem, k5.cell]
 refine callK_pure ke (l6In_c s.v 1 9 _) fun w6 x6 => ?_
 have k6 := k5.ext x6
 have xw6 := (xw4.trans x5).trans x6
 by_cases hv : 1 ≤ s.v ∧ s.v ≤ 9
 rotate_left
 ·rw [decide_eq_false hv]
  simp (disch := omega) only [go_sem, Tryz.results53]
  exact ⟨by rw [bad fun ⟨h, _⟩ => hv ⟨h.2.2.2.2.2.2.1, h.2.2.2.2.2.2.2⟩], xw6⟩
 rw [decide_eq_true hv]
 have hOk : s.Ok := ⟨hx.1, hx.2, hy.1, hy.2, hw.1, hw.2, hv.1, hv.2⟩
 simp (disch := omega) only [go_sem]
 refine loopN k (fun j f W => f 0 = .slice (some ⟨b, o, none⟩) L.length c ∧ f 3 = .int .i64 k ∧ f 4 = .pointer (some ⟨fb, 0, none⟩) ∧ f 5 = .int .i64 j ∧ Ext w W ∧ Blk W fb #[.int .i64 s.x, .int .i64 s.y, .int .i64 s.w, .int .i64 s.v] 41 ∧ ∀ i, i < j → (L.getD i lb0).pt ≠ s.pt)
  ⟨uu, uu, uu, uu, xw6, k6, fun i hi => om⟩ fun j f V hj ⟨a0, a3, a4, a5, xV, kV, hpt⟩ => ?_
 by_cases hlj : (j : Int) < (k : Int)
 ·have hjk : j < k := om
  obtain ⟨hx0, hy0, hw0, hv0⟩ := (hL.ext xV).fld (i := j) om
  obtain ⟨hjo, -⟩ := hok j hjk
  have hinj := pt_inj (s := L.getD j lb0) (t := s) ⟨hjo.1, hjo.2.1⟩ hx
  generalize hsj : L.getD j lb0 = t at *
  simp (disch := omega) only [go_sem, a0, a3, a4, a5, hlj]
  refine QR_of ke ke ?_
  by_cases e1 : t.x = s.x
  ·by_cases e2 : t.y = s.y
   ·simp (disch := omega) only [go_sem, a0, a3, a4, a5, kV.cell, hx0, hy0, e1, e2, beq_self_eq_true]
    intro w7 x7
    simp (disch := omega) only [go_sem, Tryz.results53]
    exact ⟨by rw [bad fun ⟨_, h⟩ => h j hjk (by rw [hsj]; exact hinj.2 ⟨e1, e2⟩)], xV.trans x7⟩
   ·have e2' : (t.y == s.y) = false := beq_eq_false_iff_ne.2 e2
    simp (disch := omega) only [go_sem, a0, a3, a4, a5, kV.cell, hx0, hy0, e1, e2', beq_self_eq_true]
    intro w7 x7
    refine ⟨hjk, uu, uu, uu, uu, xV.trans x7, kV.ext x7, fun i hi => ?_⟩
    by_cases e : i = j
    ·subst e; rw [hsj]; exact fun h => e2 (hinj.1 h).2
    ·exact hpt i om
  ·have e1' : (t.x == s.x) = false := beq_eq_false_iff_ne.2 e1
   simp (disch := omega) only [go_sem, a0, a3, a4, a5, kV.cell, hx0, hy0, e1']
   intro w7 x7
   refine ⟨hjk, uu, uu, uu, uu, xV.trans x7, kV.ext x7, fun i hi => ?_⟩
   by_cases e : i = j
   ·subst e; rw [hsj]; exact fun h => e1 (hinj.1 h).1
   ·exact hpt i om
 ·obtain rfl : j = k := om
  simp (disch := omega) only [go_sem, a3, a5, hlj]
  exact ⟨hkL, uu, uu, xV, hok.snoc (by rw [hsk]; exact hOk) (by rw [hsk]; exact hpt)⟩
end Go.Proofs.YtcbmhjndbpafbaaGreatDoor
namespace Go.SW
open Go Go.RowKit
def bdA (B : Nat → Nat) : Array Value := ((List.range 100).map fun i => Value.int .u8 ((sgn (B i)).toNat : Nat)).toArray
theorem bdA_size (B : Nat → Nat) : (bdA B).size = 100 := by simp [bdA]
theorem bdA_get {B : Nat → Nat} {i : Nat} (h : i < 100) : (bdA B)[i]? = some (.int .u8 ((sgn (B i)).toNat : Nat)) := by simp [bdA, h]
theorem bdA_one (B : Nat → Nat) : ∀ v ∈ (bdA B).toList, v.oneCell' = true := by
 intro v hv
 simp only [bdA, List.mem_map] at hv
 obtain ⟨i, _, rfl⟩ := hv
 rfl
theorem bdA_ext {cs : Array Value} {B : Nat → Nat} (hs : cs.size = 100) (h : ∀ i, i < 100 → cs[i]? = some (.int .u8 ((sgn (B i)).toNat : Nat))) : cs = bdA B := by
 apply Array.ext_getElem?
 intro i
 by_cases hi : i < 100
 ·rw [h i hi, bdA_get hi]
 ·rw [Array.getElem?_eq_none om, Array.getElem?_eq_none (by rw [bdA_size]; omega)]
theorem bdA_set {B : Nat → Nat} {i c : Nat} (hi : i < 100) : (bdA B).setIfInBounds i (.int .u8 ((sgn c).toNat : Nat)) = bdA (fun x => if x = i then c else B x) := by
 refine bdA_ext (by simp [bdA_size]) fun j hj => ?_
 rw [Array.getElem?_setIfInBounds]
 by_cases e : i = j
 ·subst e; simp [bdA_size, hi]
 ·rw [if_neg e, bdA_get hj, if_neg (Ne.symm e)]
theorem sgn_nat {c : Nat} (h : c < 200) : (sgn c).toNat = if c = 0 then 46 else if c = 1 then 42 else 46 + c := by
 unfold sgn
 split
 ·rfl
 ·split
  ·rfl
  ·exact u8n' om
theorem sgn_free {c : Nat} (h : c < 200) : (((sgn c).toNat : Nat) : Int) = 46 ↔ c = 0 := by
 rw [sgn_nat h]; split
 ·simp_all
 ·split <;> omega
def mkC (c : Nat) : Int := if c = 0 then 0 else if c = 1 then -1 else (c : Int) - 1
def mkL (B : Nat → Nat) : List Int := (List.range 100).map fun i => mkC (B i)
theorem mkL_len (B : Nat → Nat) : (mkL B).length = 100 := by simp [mkL]
theorem mkL_get {B : Nat → Nat} {i : Nat} (h : i < 100) : (vi (mkL B))[i]? = some (.int .i64 (mkC (B i))) := vi_rangeI_get _ h
theorem mkL_set {B : Nat → Nat} {i k : Nat} (hi : i < 100) : (vi (mkL B)).set i (.int .i64 ((k : Int) + 1)) = vi (mkL fun x => if x = i then k + 2 else B x) :=
 vi_rangeI_set hi (by simp [mkC]; omega) fun j _ hne => by simp only [if_neg hne]
theorem mkC_free (c : Nat) : mkC c = 0 ↔ c = 0 := by
 unfold mkC; split
 ·simp_all
 ·split <;> omega
theorem mkC_rng {c : Nat} (h : c < 200) : -1 ≤ mkC c ∧ mkC c ≤ 200 := by unfold mkC; split <;> (try split) <;> omega
def plcL (s : Lb) (d : Nat) : List Int := (List.range s.n).map fun k => ((s.fst d + k : Nat) : Int)
theorem plcL_len (s : Lb) (d : Nat) : (plcL s d).length = s.n := by simp [plcL]
theorem plcL_get {s : Lb} {d k : Nat} (h : k < s.n) : (vi (plcL s d))[k]? = some (.int .i64 ((s.fst d + k : Nat) : Int)) := vi_rangeI_get (fun k => ((s.fst d + k : Nat) : Int)) h
theorem Lb.n_eq {s : Lb} (h : s.Ok) : (s.n : Int) = s.w ∧ 1 ≤ s.n ∧ s.n ≤ 5 := by
 obtain ⟨_, _, _, _, h1, h2, _, _⟩ := h
 simp only [Lb.n]; omega
end Go.SW
namespace Go.Proofs.YtcbmhjndbpafbaaGreatDoor
open Go.RowKit Go.SW
theorem lying_c (s : Lb) (d : Nat) (hd : d < 4) (hs : s.Ok) (w : World) : Ret Tryz.prog 112 #[.agg #[.int .i64 s.x, .int .i64 s.y, .int .i64 s.w, .int .i64 s.v], .int .i64 d] w fun v w' => Ext w w' ∧
  ((s.on d = true ∧ ∃ b, v = .tuple #[.slice (some ⟨b, 0, none⟩) s.n s.n, .bool true] ∧ w.heap.size ≤ b ∧ OwnS w' 3 1 (some ⟨b, 0, none⟩) s.n s.n (vi (plcL s d))) ∨ (s.on d = false ∧ v = .tuple #[.slice none 0 0, .bool false])) := by
 obtain ⟨hn, hn1, hn5⟩ := Lb.n_eq hs
 have hfst := fun h => Lb.fst_eq (s := s) (d := d) h hs.2.2.2.2.1
 obtain ⟨sx0, sx9, sy0, sy9, sw1, sw5, sv1, sv9⟩ := hs
 have hd4 : d = 0 ∨ d = 1 ∨ d = 2 ∨ d = 3 := om
 refine enter2 Tryz.func112 rfl fun f a0 a1 => ?_
 simp only [go_sem, a0]
 refine boxK_of fun w1 fb e1 x1 kf _ => ?_
 have kf : Blk w1 fb #[.int .i64 s.x, .int .i64 s.y, .int .i64 s.w, .int .i64 s.v] 41 := by simpa [Value.cells] using kf
 simp (disch := omega) only [go_sem]
 refine QR_of ke ke ?_
 simp (disch := omega) only [go_sem, kf.cell]
 intro w2 x2
 have k2 := kf.ext x2
 simp (disch := omega) only [go_sem, a1]
 refine cd_cut (fun f W => f 2 = .pointer (some ⟨fb, 0, none⟩) ∧ f 6 = .int .i64 (s.px d) ∧ f 7 = .int .i64 (s.py d) ∧ w2 = W) (fun f W ⟨a2, a6, a7, e⟩ => ?_) ?_
 rotate_left
 ·rcases hd4 with rfl | rfl | rfl | rfl
  ·have e0 : (((0 : Nat) : Int) == 0) = true := rfl
   simp (disch := omega) only [go_sem, e0]
   exact ⟨by simp [upd_apply], by simp [upd_apply, Lb.px], by simp [upd_apply, Lb.py], trivial⟩
  ·have e0 : (((1 : Nat) : Int) == 0) = false := rfl
   have e1 : (((1 : Nat) : Int) == 1) = true := rfl
   simp (disch := omega) only [go_sem, e0, e1, k2.cell]
   exact ⟨by simp [upd_apply], by simp [upd_apply, Lb.px], by simp [upd_apply, Lb.py], trivial⟩
  ·have e0 : (((2 : Nat) : Int) == 0) = false := rfl
   have e1 : (((2 : Nat) : Int) == 1) = false := rfl
   have e2 : (((2 : Nat) : Int) == 2) = true := rfl
   simp (disch := omega) only [go_sem, e0, e1, e2]
   exact ⟨by simp [upd_apply], by simp [upd_apply, Lb.px], by simp [upd_apply, Lb.py], trivial⟩
  ·have e0 : (((3 : Nat) : Int) == 0) = false := rfl
   have e1 : (((3 : Nat) : Int) == 1) = false := rfl
   have e2 : (((3 : Nat) : Int) == 2) = false := rfl
   have e3 : (((3 : Nat) : Int) == 3) = true := rfl
   simp (disch := omega) only [go_sem, e0, e1, e2, e3]
   exact ⟨by simp [upd_apply], by simp [upd_apply, Lb.px], by simp [upd_apply, Lb.py], trivial⟩
 subst e
 have hpx : -5 ≤ s.px d ∧ s.px d ≤ 10 := by unfold Lb.px; split <;> (try split) <;> omega
 have hpy : -1 ≤ s.py d ∧ s.py d ≤ 10 := by unfold Lb.py; split <;> (try split) <;> omega
 have hon := Lb.on_iff (s := s) (d := d)
 generalize s.px d = px at *
 generalize s.py d = py at *
 have fin : s.on d = false → s.on d = false := id
 simp (disch := omega) only [go_sem, a6]
 refine callK_pure ke (isCoordinate_c px _) fun w3 x3 => ?_
 have k3 := k2.ext x3
 cases h1 : isC px with
 | false =>
  have : s.on d = false := by
   cases e : s.on d with
   | false => rfl
   | true => have := hon.1 e; simp [isC] at h1; omega
  simp (disch := omega) only [go_sem, Tryz.results112]
  exact ⟨(x1.trans x2).trans x3, .inr ⟨this, trivial⟩⟩
 | true =>
 simp (disch := omega) only [go_sem, a2, a6, k3.cell]
 refine callK_pure ke (isCoordinate_c (px + s.w - 1) _) fun w4 x4 => ?_
 have k4 := k3.ext x4
 cases h2 : isC (px + s.w - 1) with
 | false =>
  have : s.on d = false := by
   cases e : s.on d with
   | false => rfl
   | true => have := hon.1 e; simp [isC] at h2; omega
  simp (disch := omega) only [go_sem, Tryz.results112]
  exact ⟨((x1.trans x2).trans x3).trans x4, .inr ⟨this, trivial⟩⟩
 | true =>
 simp (disch := omega) only [go_sem, a7]
 refine callK_pure ke (isCoordinate_c py _) fun w5 x5 => ?_
 have k5 := k4.ext x5
 have xw5 := (((x1.trans x2).trans x3).trans x4).trans x5
 cases h3 : isC py with
 | false =>
  have : s.on d = false := by
   cases e : s.on d with
   | false => rfl
   | true => have := hon.1 e; simp [isC] at h3; omega
  simp (disch := omega) only [go_sem, Tryz.results112]
  exact ⟨xw5, .inr ⟨this, trivial⟩⟩
 | true =>
 have hOn : s.on d = true := by
  simp only [isC, decide_eq_true_eq] at h1 h2 h3
  exact hon.2 om
 have hf := hfst hOn
 have hb := hon.1 hOn
 simp (disch := omega) only [go_sem, a2, k5.cell]
 refine mksK_of elt_i s.n s.n _ _ _ _ hn.symm hn.symm (Nat.le_refl _) om (by simp [maxLen]; omega) fun w6 b e6 x6 o6 _ => ?_
 simp (disch := omega) only [go_sem]
 refine loopN s.n (fun k f W => f 6 = .int .i64 px ∧ f 7 = .int .i64 py ∧ f 8 = .slice (some ⟨b, 0, none⟩) s.n s.n ∧ f 54 = .int .i64 s.n ∧ f 55 = .int .i64 k ∧ Ext w W ∧ ∃ ys, OwnS W 3 1 (some ⟨b, 0, none⟩) s.n s.n ys ∧ ∀ j, j < k → ys[j]? = some (.int .i64 ((s.fst d + j : Nat) : Int)))
  ⟨uu, uu, uu, uu, uu, xw5.trans x6, _, o6, fun j hj => om⟩ fun k f W hk ⟨a6, a7, a8, a54, a55, xw, ys, oy, hy⟩ => ?_
 have sw := xw5.size
 by_cases hlt : (k : Int) < (s.n : Int)
 ·have hkn : k < s.n := om
  simp (disch := omega) only [go_sem, a6, a7, a8, a54, a55, hlt]
  refine stK_own siz_int rf rf oy hkn fun w7 o7 g7 => ?_
  simp (disch := omega) only [go_sem, a55]
  refine ⟨hkn, uu, uu, uu, uu, uu, g7.ext xw om, _, o7, set_get (fun j => .int .i64 ((s.fst d + j : Nat) : Int)) (by rw [oy.1]; omega) ?_ hy⟩
  rw [show (10 * py + px + (k : Int)) = ((s.fst d + k : Nat) : Int) from om]
 ·obtain rfl : k = s.n := om
  have ev : ys = vi (plcL s d) := vi_ext (by rw [oy.1, plcL_len]; omega) fun j hj => by
   rw [plcL_len] at hj
   rw [hy j hj]
   simp [plcL, hj]
  simp (disch := omega) only [go_sem, a8, a54, a55, hlt, Tryz.results112]
  exact ⟨xw, .inl ⟨hOn, b, rfl, om, by rw [← ev]; exact oy⟩⟩
theorem l8Places_c (s : Lb) (d : Nat) (hd : d < 4) (hs : s.Ok) (w : World) : Ret Tryz.prog 86 #[.agg #[.int .i64 s.x, .int .i64 s.y, .int .i64 s.w, .int .i64 s.v], .int .i64 d] w fun v w' => Ext w w' ∧
  ∃ a c, v = .slice a (if s.on d then plcL s d else []).length c ∧ OwnS w' 3 1 a (if s.on d then plcL s d else []).length c (vi (if s.on d then plcL s d else [])) ∧ ∀ b, blk a = some b → w.heap.size ≤ b := by
 obtain ⟨hn, hn1, hn5⟩ := Lb.n_eq hs
 have hfst := fun h => Lb.fst_eq (s := s) (d := d) h hs.2.2.2.2.1
 obtain ⟨sx0, sx9, sy0, sy9, sw1, sw5, sv1, sv9⟩ := hs
 have hd4 : d = 0 ∨ d = 1 ∨ d = 2 ∨ d = 3 := om
 refine enter2 Tryz.func86 rfl fun f a0 a1 => ?_
 simp only [go_sem, a0]
 refine boxK_of fun w1 fb e1 x1 kf _ => ?_
 have k2 : Blk w1 fb #[.int .i64 s.x, .int .i64 s.y, .int .i64 s.w, .int .i64 s.v] 41 := by simpa [Value.cells] using kf
 simp (disch := omega) only [go_sem, a1, k2.cell]
 refine cd_cut (fun f W => f 2 = .pointer (some ⟨fb, 0, none⟩) ∧ f 5 = .int .i64 (s.px d) ∧ f 6 = .int .i64 (s.py d) ∧ w1 = W) (fun f W ⟨a2, a5, a6, e⟩ => ?_) ?_
 rotate_left
 ·rcases hd4 with rfl | rfl | rfl | rfl
  ·have e0 : (((0 : Nat) : Int) == 0) = true := rfl
   simp (disch := omega) only [go_sem, e0]
   exact ⟨by simp [upd_apply], by simp [upd_apply, Lb.px], by simp [upd_apply, Lb.py], trivial⟩
  ·have e0 : (((1 : Nat) : Int) == 0) = false := rfl
   have e1 : (((1 : Nat) : Int) == 1) = true := rfl
   simp (disch := omega) only [go_sem, e0, e1, k2.cell]
   exact ⟨by simp [upd_apply], by simp [upd_apply, Lb.px], by simp [upd_apply, Lb.py], trivial⟩
  ·have e0 : (((2 : Nat) : Int) == 0) = false := rfl
   have e1 : (((2 : Nat) : Int) == 1) = false := rfl
   have e2 : (((2 : Nat) : Int) == 2) = true := rfl
   simp (disch := omega) only [go_sem, e0, e1, e2]
   exact ⟨by simp [upd_apply], by simp [upd_apply, Lb.px], by simp [upd_apply, Lb.py], trivial⟩
  ·have e0 : (((3 : Nat) : Int) == 0) = false := rfl
   have e1 : (((3 : Nat) : Int) == 1) = false := rfl
   have e2 : (((3 : Nat) : Int) == 2) = false := rfl
   have e3 : (((3 : Nat) : Int) == 3) = true := rfl
   simp (disch := omega) only [go_sem, e0, e1, e2, e3]
   exact ⟨by simp [upd_apply], by simp [upd_apply, Lb.px], by simp [upd_apply, Lb.py], trivial⟩
 subst e
 have hpx : -5 ≤ s.px d ∧ s.px d ≤ 10 := by unfold Lb.px; split <;> (try split) <;> omega
 have hpy : -1 ≤ s.py d ∧ s.py d ≤ 10 := by unfold Lb.py; split <;> (try split) <;> omega
 have hon := Lb.on_iff (s := s) (d := d)
 generalize s.px d = px at *
 generalize s.py d = py at *
 simp (disch := omega) only [go_sem]
 refine bslK_0 elt_i fun w2 b2 e2 x2 o2 s2 => ?_
 have k3 := k2.ext x2
 simp (disch := omega) only [go_sem, a6]
 refine callK_pure ke (l6In_c py 0 9 _) fun w3 x3 => ?_
 have k4 := k3.ext x3
 have hxs := x1.size
 by_cases h1 : 0 ≤ py ∧ py ≤ 9
 rotate_left
 ·have hno : s.on d = false := by
   cases e : s.on d with
   | false => rfl
   | true => have := hon.1 e; omega
  have h1' : decide (0 ≤ py ∧ py ≤ 9) = false := decide_eq_false h1
  rw [h1']
  simp (disch := omega) only [go_sem, Tryz.results86]
  simp only [hno, Bool.false_eq_true, if_false]
  exact ⟨(x1.trans x2).trans x3, _, _, rfl, o2.ext x3, fun b hb => by simp only [blk_some, Option.some.injEq] at hb; omega⟩
 have h1' : decide (0 ≤ py ∧ py ≤ 9) = true := decide_eq_true h1
 rw [h1']
 simp (disch := omega) only [go_sem, a2, a5, k4.cell]
 refine callK_pure ke (l6In_c px 0 (10 - s.w) _) fun w4 x4 => ?_
 have k5 := k4.ext x4
 by_cases h2 : 0 ≤ px ∧ px ≤ 10 - s.w
 rotate_left
 ·have hno : s.on d = false := by
   cases e : s.on d with
   | false => rfl
   | true => have := hon.1 e; omega
  have h2' : decide (0 ≤ px ∧ px ≤ 10 - s.w) = false := decide_eq_false h2
  rw [h2']
  simp (disch := omega) only [go_sem, Tryz.results86]
  simp only [hno, Bool.false_eq_true, if_false]
  exact ⟨((x1.trans x2).trans x3).trans x4, _, _, rfl, (o2.ext x3).ext x4, fun b hb => by simp only [blk_some, Option.some.injEq] at hb; omega⟩
 have h2' : decide (0 ≤ px ∧ px ≤ 10 - s.w) = true := decide_eq_true h2
 rw [h2']
 have hOn : s.on d = true := hon.2 om
 have hf := hfst hOn
 simp only [hOn, if_true]
 simp (disch := omega) only [go_sem]
 refine loopN s.n (fun k f W => f 2 = .pointer (some ⟨fb, 0, none⟩) ∧ f 5 = .int .i64 px ∧ f 6 = .int .i64 py ∧ f 8 = .int .i64 k ∧ Ext w W ∧ Blk W fb #[.int .i64 s.x, .int .i64 s.y, .int .i64 s.w, .int .i64 s.v] 41 ∧ ∃ ob oc, f 7 = .slice (some ⟨ob, 0, none⟩) k oc ∧ OwnS W 3 1 (some ⟨ob, 0, none⟩) k oc (vi ((plcL s d).take k)) ∧ w1.heap.size ≤ ob)
  ⟨uu, uu, uu, uu, ((x1.trans x2).trans x3).trans x4, k5, b2, 0, by simp [upd_apply], by simpa [vi] using (o2.ext x3).ext x4, om⟩ fun k f W hk ⟨a2, a5, a6, a8, xw, kW, ob, oc, a7, oo, hob⟩ => ?_
 have lfb := k2.lt
 by_cases hlt : (k : Int) < s.w
 ·have hkn : k < s.n := om
  have hpl : (plcL s d).length = s.n := plcL_len s d
  have hsn : vi ((plcL s d).take (k + 1)) = vi ((plcL s d).take k) ++ [.int .i64 (10 * py + px + (k : Int))] := by
   rw [take_snoc 0 om, vi_snoc]
   congr 2
   simp [plcL, hkn]; omega
  simp (disch := omega) only [go_sem, a2, a5, a6, a7, a8, kW.cell, hlt]
  refine bslK_1 elt_i rfl fun w7 b7 e7 x7 k7 _ => ?_
  simp (disch := omega) only [go_sem]
  refine appK_1 elt_i (oo.ext x7) k7 rfl om (.inl dc) fun w8 a8' c8 o8 g8 h8 => ?_
  rw [← hsn] at o8
  obtain ⟨b8, rfl⟩ := o8.some om
  have s7 := x7.size
  have sx := xw.size
  simp (disch := omega) only [go_sem, a8]
  refine ⟨om, uu, uu, uu, uu, g8.ext (xw.trans x7) fun b hb => by simp only [blk_some, Option.some.injEq] at hb; omega, g8.blk (kW.ext x7) (by simp [blk]; omega), b8, c8, by simp [upd_apply], o8, ?_⟩
  rcases h8 b8 rfl with h | h
  ·simp only [blk_some, Option.some.injEq] at h; omega
  ·have := oo.blk_lt rfl
   omega
 ·obtain rfl : k = s.n := om
  have hpl : (plcL s d).length = s.n := plcL_len s d
  rw [List.take_of_length_le om] at oo
  simp (disch := omega) only [go_sem, a2, a7, a8, kW.cell, hlt, Tryz.results86]
  exact ⟨xw, _, _, by rw [hpl], by rw [hpl]; exact oo, fun b hb => by simp only [blk_some, Option.some.injEq] at hb; omega⟩
end Go.Proofs.YtcbmhjndbpafbaaGreatDoor
namespace Go.SW
open Go Go.RowKit
theorem pts_at {L : List Lb} {i : Nat} (h : LokTo L L.length) (hi : i < L.length) : (L.getD i lb0).pt.toNat < 100 ∧ (((L.getD i lb0).pt.toNat : Nat) : Int) = (L.getD i lb0).pt := by
 have := (h i hi).1.pt
 omega
def ptsTo (L : List Lb) (k : Nat) : Nat → Nat := ptsL (L.take k)
theorem ptsTo_0 (L : List Lb) : ptsTo L 0 = fun _ => 0 := by funext i; simp [ptsTo, ptsL]
theorem ptsTo_all (L : List Lb) : ptsTo L L.length = ptsL L := by rw [ptsTo, List.take_length]
theorem ptsTo_succ {L : List Lb} {k : Nat} (hk : k < L.length) (hp : (((L.getD k lb0).pt.toNat : Nat) : Int) = (L.getD k lb0).pt) : ptsTo L (k + 1) = fun i => if i = (L.getD k lb0).pt.toNat then 1 else ptsTo L k i := by
 funext i
 simp only [ptsTo, ptsL, take_snoc lb0 hk]
 by_cases e : i = (L.getD k lb0).pt.toNat
 ·rw [if_pos e, if_pos ⟨_, List.mem_append_right _ (List.mem_singleton.2 rfl), om⟩]
 ·rw [if_neg e]
  by_cases h : ∃ s ∈ L.take k, s.pt = (i : Int)
  ·obtain ⟨s, h1, h2⟩ := h
   rw [if_pos ⟨s, List.mem_append_left _ h1, h2⟩, if_pos ⟨s, h1, h2⟩]
  ·rw [if_neg h, if_neg]
   rintro ⟨s, h1, h2⟩
   rcases List.mem_append.1 h1 with h1 | h1
   ·exact h ⟨s, h1, h2⟩
   ·rw [List.mem_singleton] at h1
    subst h1
    omega
theorem fits_of {B : Nat → Nat} {s : Lb} {d : Nat} (h1 : s.on d = true) (h2 : FreeTo B (s.fst d) s.n) : fits B s d = true := by simp [fits, h1, h2]
theorem not_fits {B : Nat → Nat} {s : Lb} {d k : Nat} (hk : k < s.n) (h : B (s.fst d + k) ≠ 0) : fits B s d = false := by
 simp only [fits, Bool.and_eq_false_iff, decide_eq_false_iff_not]
 exact .inr fun hh => h (hh k hk)
theorem mkL_put {B : Nat → Nat} {i : Nat} {v : Int} {c : Nat} (hi : i < 100) (hv : v = mkC c) : (vi (mkL B)).set i (.int .i64 v) = vi (mkL fun x => if x = i then c else B x) :=
 vi_rangeI_set hi (by simp [hv]) fun j _ hne => by simp only [if_neg hne]
end Go.SW
namespace Go.Proofs.YtcbmhjndbpafbaaGreatDoor
open Go.RowKit Go.SW
theorem signOf_c (k : Nat) (hk : k < 100) (w : World) : Ret Tryz.prog 85 #[.int .i64 k] w fun v w' => v = .int .u8 ((sgn (k + 2)).toNat : Nat) ∧ Ext w w' := by
 have e : (48 : Int) + (k : Int) = (((sgn (k + 2)).toNat : Nat) : Int) := by rw [sgn_nat om]; simp; omega
 have hl := (sgn (k + 2)).toNat_lt
 refine enter1 Tryz.func85 rfl fun f a0 => ?_
 simp (disch := omega) only [go_sem, a0, e, Tryz.results85]
 exact ⟨trivial, Ext.refl _⟩
theorem ix_bd {b o : Nat} {kk : IntKind} {i : Int} {k : Value → World → Prop} {w : World} (h0 : 0 ≤ i) (h1 : i < 100) : ixK Tryz.prog 83 (.pointer (some ⟨b, o, none⟩)) (.int kk i) k w = k (.pointer (some ⟨b, o + i.toNat, none⟩)) w := by
 rw [ix_of arr_bd h0 (by simpa using h1), Nat.mul_one]
theorem sl_bd {b o : Nat} {k1 k2 : IntKind} {lo hi : Int} {k : Value → World → Prop} {w : World} (h0 : 0 ≤ lo) (h1 : lo ≤ hi) (h2 : hi ≤ 100) (h3 : lo < 100) : slK Tryz.prog 83 (.pointer (some ⟨b, o, none⟩)) (some (.int k1 lo)) (some (.int k2 hi)) k w = k (.slice (some ⟨b, o + lo.toNat, none⟩) (hi.toNat - lo.toNat) (100 - lo.toNat)) w :=
 sl_of arr_bd h0 h1 (by simpa using h2) (by simpa using h3)
attribute [go_sem] ix_bd sl_bd
theorem blk_bd {w : World} {b : Nat} {B : Nat → Nat} {T : TypeId} (k : Blk w b (bdA B) T) : readCells w ⟨b, 0, none⟩ 100 = some (bdA B).toList := readCells_blk k (bdA_size B)
theorem pointed_c (a : Option Addr) (L : List Lb) (c : Nat) (w : World) (hL : LabS w a L) (hv : LVal L) :
  Ret Tryz.prog 50 #[.slice a L.length c] w fun v w' => v = .agg (bdA (ptsL L)) ∧ Ext w w' := by
 have hs := hL.short
 refine enter1 Tryz.func50 rfl fun f a0 => ?_
 simp (disch := omega) only [go_sem]
 refine allocK_of zero_bo fun w1 rb e1 x1 kr _ => ?_
 simp (disch := omega) only [go_sem]
 refine allocK_of zero_bo fun w2 pb e2 x2 kp _ => ?_
 have s1 := x1.size
 have s2 := x2.size
 have lr := kr.lt
 simp (disch := omega) only [go_sem]
 refine loopN 100 (fun k f W => f 0 = .slice a L.length c ∧ f 2 = .pointer (some ⟨rb, 0, none⟩) ∧ f 3 = .pointer (some ⟨pb, 0, none⟩) ∧ f 7 = .int .i64 k ∧ Ext w W ∧ Blk W rb (Array.replicate 100 (.int .u8 0)) 83 ∧ ∃ cs, Blk W pb cs 83 ∧ cs.size = 100 ∧ ∀ j, j < k → cs[j]? = some (.int .u8 46))
  ⟨uu, uu, uu, uu, x1.trans x2, kr.ext x2, _, kp, by simp, fun j hj => om⟩ fun k f W hk ⟨a0, a2, a3, a7, xw, krW, cs, kpW, hcs, hcj⟩ => ?_
 by_cases hlt : (k : Int) < 100
 ·simp (disch := omega) only [go_sem, a3, a7, hlt]
  refine stK_blk siz_u8 rf rf kpW om fun w3 k3 g3 => ?_
  have sw := xw.size
  simp (disch := omega) only [go_sem, a7]
  refine ⟨om, uu, uu, uu, uu, g3.ext xw om, g3.blk krW om, _, k3, by simpa using hcs, fun j hj => ?_⟩
  rw [Array.getElem?_setIfInBounds]
  by_cases e : k = j
  ·subst e; simp [hcs]; omega
  ·rw [if_neg e]; exact hcj j om
 obtain rfl : k = 100 := om
 have hcb : cs = bdA (ptsTo L 0) := bdA_ext hcs fun i hi => by rw [hcj i hi, ptsTo_0]; rfl
 subst hcb
 simp (disch := omega) only [go_sem, a0, a7, hlt]
 refine loopN L.length (fun k f W => f 2 = .pointer (some ⟨rb, 0, none⟩) ∧ f 3 = .pointer (some ⟨pb, 0, none⟩) ∧ f 13 = .slice a L.length c ∧ f 14 = .int .i64 L.length ∧ f 15 = .int .i64 k ∧ Ext w W ∧ Blk W rb (Array.replicate 100 (.int .u8 0)) 83 ∧ Blk W pb (bdA (ptsTo L k)) 83)
  ⟨uu, uu, uu, uu, uu, xw, krW, kpW⟩ fun k f W hk ⟨a2, a3, a13, a14, a15, xw, krW, kpW⟩ => ?_
 by_cases hlt : (k : Int) < (L.length : Int)
 ·have hkL : k < L.length := om
  obtain ⟨b, o, rfl⟩ := hL.head (by intro e; rw [e] at hkL; simp at hkL)
  have hrd := (hL.ext xw).read hkL
  have hOk := hv.ok hkL
  obtain ⟨hp1, hp2⟩ := pts_at hv.2 hkL
  have hsc := ptsTo_succ hkL hp2
  generalize hsk : L.getD k lb0 = s at *
  simp (disch := omega) only [go_sem, a13, a14, a15, hlt, hrd]
  refine allocK_of zero_lb fun w3 tb e3 x3 k3 _ => ?_
  simp (disch := omega) only [go_sem]
  refine stK_agg siz_lb sm oi k3 sm fun w4 k4 g4 => ?_
  have s3 := x3.size
  have sw := xw.size
  have x4 : Ext W w4 := g4.ext x3 om
  simp (disch := omega) only [go_sem, readCells_blk k4 (n := 4) sm]
  refine callK_pure ke (pointOf_c s _ ⟨hOk.1, by have := hOk.2.1; omega⟩ ⟨hOk.2.2.1, by have := hOk.2.2.2.1; omega⟩) fun w5 x5 => ?_
  have kp5 := (kpW.ext x4).ext x5
  have kr5 := (krW.ext x4).ext x5
  simp (disch := omega) only [go_sem, a3]
  refine stK_blk siz_u8 rf rf kp5 (by rw [bdA_size]; omega) fun w6 k6 g6 => ?_
  have s5 := x5.size
  have s4 := x4.size
  rw [show (Value.int .u8 42) = .int .u8 ((sgn 1).toNat : Nat) from rfl, bdA_set hp1, ← hsc] at k6
  simp (disch := omega) only [go_sem, a15]
  exact ⟨hkL, uu, uu, uu, uu, uu, g6.ext ((xw.trans x4).trans x5) om, g6.blk kr5 om, k6⟩
 ·obtain rfl : k = L.length := om
  rw [ptsTo_all] at kpW
  simp (disch := omega) only [go_sem, a2, a3, a14, a15, hlt, blk_bd kpW]
  refine stK_agg siz_bd (by simp [bdA_size]) (by simpa using bdA_one (ptsL L)) krW sm fun w3 k3 g3 => ?_
  have sw := xw.size
  simp (disch := omega) only [go_sem, a2, readCells_blk k3 (n := 100) (by simp [bdA_size]), Tryz.results50]
  exact ⟨by simp, g3.ext xw om⟩
end Go.Proofs.YtcbmhjndbpafbaaGreatDoor
namespace Go.SW
open Go Go.RowKit
theorem val_le : ∀ (L : List Lb) (B : Nat → Nat) (k : Nat), (∀ s ∈ L, s.Ok) → val B k L ≤ 9 * (L.length : Int)
 | [], _, _, _ => Int.le_refl _
 | s :: L, B, k, h => by
  have hs := h s sm
  have ih := fun B => val_le L B (k + 1) fun t ht => h t (by simp [ht])
  have : ∀ (R : List Nat) (m : Int), m ≤ 9 * (L.length : Int) + 9 → R.foldl (fun m d => if fits B s d then max m (s.v + val (putL B s d k) (k + 1) L) else m) m ≤ 9 * (L.length : Int) + 9 := by
   intro R
   induction R with
   | nil => exact fun m h => h
   | cons d R ihR =>
    intro m hm
    rw [List.foldl_cons]
    refine ihR _ ?_
    have := ih (putL B s d k)
    have := hs.2.2.2.2.2.2.2
    split <;> omega
  have h0 := this (List.range 4) (val B (k + 1) L) (by have := ih B; omega)
  simp only [val, List.length_cons]
  omega
end Go.SW
namespace Go.Proofs.YtcbmhjndbpafbaaGreatDoor
open Go.RowKit Go.SW
theorem with_c (B : Nat → Nat) (s : Lb) (d k : Nat) (w : World) (hB : Bd 6 B) (hs : s.Ok) (hd : d < 4) (hk : k < 6) :
  Ret Tryz.prog 84 #[.agg (bdA B), .agg #[.int .i64 s.x, .int .i64 s.y, .int .i64 s.w, .int .i64 s.v], .int .i64 d, .int .u8 ((sgn (k + 2)).toNat : Nat)] w fun v w' => Ext w w' ∧ ∃ B', Bd 6 B' ∧ v = .tuple #[.agg (bdA B'), .bool (fits B s d)] ∧ (fits B s d = true → B' = putL B s d k) := by
 obtain ⟨hn, hn1, hn5⟩ := Lb.n_eq hs
 have hlt100 := fun h => Lb.fst_lt (s := s) (d := d) h hs.2.2.2.2.1
 refine enter4 Tryz.func84 rfl fun f a0 a1 a2 a3 => ?_
 simp only [go_sem, a0]
 refine boxK_of fun w1 bb e1 x1 kb _ => ?_
 have kb : Blk w1 bb (bdA B) 83 := by simpa [Value.cells] using kb
 simp (disch := omega) only [go_sem, a1]
 refine boxK_of fun w2 fb e2 x2 kf _ => ?_
 have kf : Blk w2 fb #[.int .i64 s.x, .int .i64 s.y, .int .i64 s.w, .int .i64 s.v] 41 := by simpa [Value.cells] using kf
 simp (disch := omega) only [go_sem]
 refine allocK_of zero_bo fun w3 rb e3 x3 kr _ => ?_
 have kf3 := kf.ext x3
 simp (disch := omega) only [go_sem, a2, readCells_blk kf3 (n := 4) sm]
 refine callK_of ke (lying_c s d hd hs _) ?_
 rintro _ w4 ⟨x4, h4⟩
 have s1 := x1.size
 have s2 := x2.size
 have s3 := x3.size
 have s4 := x4.size
 have lr := kr.lt
 have kb4 := ((kb.ext x2).ext x3).ext x4
 have kr4 := kr.ext x4
 have xw4 := ((x1.trans x2).trans x3).trans x4
 rcases h4 with ⟨hon, pb, rfl, hpb, op⟩ | ⟨hoff, rfl⟩
 rotate_left
 ·have hf : fits B s d = false := by simp [fits, hoff]
  simp (disch := omega) only [go_sem, blk_bd kb4]
  refine stK_agg siz_bd (by simp [bdA_size]) (by simpa using bdA_one B) kr4 sm fun w5 k5 g5 => ?_
  simp (disch := omega) only [go_sem, readCells_blk k5 (n := 100) (by simp [bdA_size]), Tryz.results84]
  exact ⟨g5.ext xw4 om, B, hB, by simp [hf], fun e => by rw [hf] at e; cases e⟩
 have hl := hlt100 hon
 simp (disch := omega) only [go_sem]
 refine loopN s.n (fun m f W => f 3 = .int .u8 ((sgn (k + 2)).toNat : Nat) ∧ f 4 = .pointer (some ⟨bb, 0, none⟩) ∧ f 8 = .pointer (some ⟨rb, 0, none⟩) ∧ f 23 = .slice (some ⟨pb, 0, none⟩) s.n s.n ∧ f 24 = .int .i64 s.n ∧ f 25 = .int .i64 m ∧ Ext w W ∧ Blk W bb (bdA (putTo B (s.fst d) m (k + 2))) 83 ∧ Blk W rb (Array.replicate 100 (.int .u8 0)) 83 ∧ OwnS W 3 1 (some ⟨pb, 0, none⟩) s.n s.n (vi (plcL s d)) ∧ FreeTo B (s.fst d) m)
  ⟨uu, uu, uu, uu, uu, uu, xw4, by rw [putTo_0]; exact kb4, kr4, op, fun j hj => om⟩ fun m f W hm ⟨a3, a4, a8, a23, a24, a25, xw, kbW, krW, oW, hfree⟩ => ?_
 have sw := xw.size
 by_cases hlt : (m : Int) < (s.n : Int)
 ·have hmn : m < s.n := om
  have hcp : W.cell? ⟨pb, m, none⟩ = some (.int .i64 ((s.fst d + m : Nat) : Int)) := by rw [oW.cell om, plcL_get hmn]
  have hcb : W.cell? ⟨bb, s.fst d + m, none⟩ = some (.int .u8 ((sgn (B (s.fst d + m))).toNat : Nat)) := by
   rw [kbW.cell, bdA_get om, putTo_in (Nat.le_refl _)]
  have hfr := sgn_free (c := B (s.fst d + m)) (by have := hB (s.fst d + m); omega)
  by_cases h0 : B (s.fst d + m) = 0
  ·have hne : ((((sgn (B (s.fst d + m))).toNat : Nat) : Int) != 46) = false := by rw [bne_eq_false_iff_eq]; exact hfr.2 h0
   simp (disch := omega) only [go_sem, a3, a4, a23, a24, a25, hlt, hcp, hcb, hne]
   refine stK_blk siz_u8 rf rf kbW (by rw [bdA_size]; omega) fun w5 k5 g5 => ?_
   rw [bdA_set om, ← putTo_succ] at k5
   simp (disch := omega) only [go_sem, a25]
   refine ⟨hmn, uu, uu, uu, uu, uu, uu, g5.ext xw om, k5, g5.blk krW om, oW.grow g5.grow (by simp [blk]; omega), fun j hj => ?_⟩
   by_cases e : j = m
   ·subst e; exact h0
   ·exact hfree j om
  ·have hne : ((((sgn (B (s.fst d + m))).toNat : Nat) : Int) != 46) = true := by rw [bne_iff_ne]; exact fun h => h0 (hfr.1 h)
   have hf := not_fits hmn h0
   simp (disch := omega) only [go_sem, a3, a4, a23, a24, a25, hlt, hcp, hcb, hne, a8, blk_bd kbW]
   refine stK_agg siz_bd (by simp [bdA_size]) (by simpa using bdA_one _) krW sm fun w5 k5 g5 => ?_
   simp (disch := omega) only [go_sem, a8, readCells_blk k5 (n := 100) (by simp [bdA_size]), Tryz.results84]
   exact ⟨g5.ext xw om, putTo B (s.fst d) m (k + 2), hB.put hk, by simp [hf], fun e => by rw [hf] at e; cases e⟩
 ·obtain rfl : m = s.n := om
  have hf := fits_of hon hfree
  simp (disch := omega) only [go_sem, a4, a8, a24, a25, hlt, blk_bd kbW]
  refine stK_agg siz_bd (by simp [bdA_size]) (by simpa using bdA_one _) krW sm fun w5 k5 g5 => ?_
  simp (disch := omega) only [go_sem, a8, readCells_blk k5 (n := 100) (by simp [bdA_size]), Tryz.results84]
  exact ⟨g5.ext xw om, putL B s d k, hB.put hk, by simp [hf, putL], fun _ => rfl⟩
theorem l8Map_c (a : Option Addr) (L : List Lb) (c : Nat) (w : World) (hL : LabS w a L) (hv : LVal L) :
  Ret Tryz.prog 54 #[.slice a L.length c] w fun v w' => Ext w w' ∧ ∃ b, v = .slice (some ⟨b, 0, none⟩) 100 100 ∧ IntS w' (some ⟨b, 0, none⟩) (mkL (ptsL L)) ∧ w.heap.size ≤ b := by
 have hs := hL.short
 refine enter1 Tryz.func54 rfl fun f a0 => ?_
 simp (disch := omega) only [go_sem]
 refine mksK_of elt_i 100 100 _ _ _ _ rfl rfl (Nat.le_refl _) om (by simp [maxLen]) fun w1 b e1 x1 o1 _ => ?_
 have o1' : OwnS w1 3 1 (some ⟨b, 0, none⟩) 100 100 (vi (mkL (ptsTo L 0))) := by
  have h := o1
  rw [show ((madeCells (Value.int .i64 0).cells (100 * 1)).toList.take (100 * 1)) = List.replicate 100 (Value.int .i64 0) from made_int _ _, vi_rangeI_zero 100 (fun i => mkC (ptsTo L 0 i)) fun j _ => by rw [ptsTo_0]; rfl] at h
  exact h
 simp (disch := omega) only [go_sem]
 refine loopN L.length (fun k f W => f 0 = .slice a L.length c ∧ f 3 = .slice (some ⟨b, 0, none⟩) 100 100 ∧ f 4 = .int .i64 k ∧ Ext w W ∧ OwnS W 3 1 (some ⟨b, 0, none⟩) 100 100 (vi (mkL (ptsTo L k))))
  ⟨uu, uu, uu, x1, o1'⟩ fun k f W hk ⟨a0, a3, a4, xw, oW⟩ => ?_
 by_cases hlt : (k : Int) < (L.length : Int)
 ·have hkL : k < L.length := om
  obtain ⟨lb, lo, rfl⟩ := hL.head (by intro e; rw [e] at hkL; simp at hkL)
  obtain ⟨hx, hy, -, -⟩ := (hL.ext xw).fld hkL
  have hOk := hv.ok hkL
  obtain ⟨hp1, hp2⟩ := pts_at hv.2 hkL
  have hsc := ptsTo_succ hkL hp2
  generalize hsk : L.getD k lb0 = s at *
  obtain ⟨sx0, sx9, sy0, sy9, _⟩ := hOk
  simp (disch := omega) only [go_sem, a0, a3, a4, hlt]
  refine QR_tail 13 ke ke ?_
  have hpt : 10 * s.y + s.x = ((s.pt.toNat : Nat) : Int) := by rw [hp2]; rfl
  simp (disch := omega) only [go_sem, a0, a3, a4, hx, hy, hpt, Int.toNat_natCast]
  intro w2 x2
  refine stK_own siz_int rf rf (oW.ext x2) hp1 fun w3 o3 g3 => ?_
  rw [mkL_put hp1 (show (-1 : Int) = mkC 1 from rfl), ← hsc] at o3
  have s2 := x2.size
  have sw := xw.size
  simp (disch := omega) only [go_sem, a4]
  exact ⟨hkL, uu, uu, uu, g3.ext (xw.trans x2) om, o3⟩
 ·obtain rfl : k = L.length := om
  rw [ptsTo_all] at oW
  simp (disch := omega) only [go_sem, a0, a3, a4, hlt, Tryz.results54]
  exact ⟨xw, b, rfl, oW.ints, om⟩
end Go.Proofs.YtcbmhjndbpafbaaGreatDoor
namespace Go.SW
open Go Go.RowKit
theorem drop_at {L : List Lb} {i : Nat} (h : i < L.length) : L.drop i = L.getD i lb0 :: L.drop (i + 1) := by
 rw [List.drop_eq_getElem_cons h, getD_at L lb0 h]
theorem LVal.mem {L : List Lb} (h : LVal L) : ∀ s ∈ L, s.Ok := fun s hs => by
 obtain ⟨i, hi, rfl⟩ := List.getElem_of_mem hs
 have := h.ok hi
 rwa [getD_at L lb0 hi] at this
def valTo (B : Nat → Nat) (s : Lb) (k : Nat) (L : List Lb) (j : Nat) : Int := (List.range j).foldl (fun m d => if fits B s d then max m (s.v + val (putL B s d k) (k + 1) L) else m) (val B (k + 1) L)
theorem valTo_succ (B : Nat → Nat) (s : Lb) (k : Nat) (L : List Lb) (j : Nat) : valTo B s k L (j + 1) = if fits B s j then max (valTo B s k L j) (s.v + val (putL B s j k) (k + 1) L) else valTo B s k L j := by
 simp only [valTo, List.range_succ, List.foldl_append, List.foldl_cons, List.foldl_nil]
theorem valTo_4 (B : Nat → Nat) (s : Lb) (k : Nat) (L : List Lb) : valTo B s k L 4 = val B k (s :: L) := rfl
theorem valTo_ge (B : Nat → Nat) (s : Lb) (k : Nat) (L : List Lb) : ∀ j, 0 ≤ valTo B s k L j
 | 0 => val_zero _ _ _
 | j + 1 => by
  have := valTo_ge B s k L j
  rw [valTo_succ]
  split <;> omega
theorem valTo_le {B : Nat → Nat} {s : Lb} {k : Nat} {L : List Lb} (hs : s.Ok) (hL : ∀ t ∈ L, t.Ok) : ∀ j, valTo B s k L j ≤ 9 * (L.length : Int) + 9
 | 0 => by have := val_le L B (k + 1) hL; simp only [valTo, List.range_zero, List.foldl_nil]; omega
 | j + 1 => by
  have := valTo_le hs hL (B := B) (k := k) j
  have := val_le L (putL B s j k) (k + 1) hL
  have := hs.2.2.2.2.2.2.2
  rw [valTo_succ]
  split <;> omega
end Go.SW
namespace Go.Proofs.YtcbmhjndbpafbaaGreatDoor
open Go.RowKit Go.SW
theorem l8Set_c (pa : Option Addr) (pc : Nat) (B : Nat → Nat) (s : Lb) (d k : Nat) (w : World) (hp : IntS w pa (mkL B)) (hB : Bd 6 B) (hs : s.Ok) (hd : d < 4) (hk : k < 6) :
  Ret Tryz.prog 56 #[.slice pa 100 pc, .agg #[.int .i64 s.x, .int .i64 s.y, .int .i64 s.w, .int .i64 s.v], .int .i64 d, .int .i64 ((k : Int) + 1)] w fun v w' => Ext w w' ∧ ∃ a n c, v = .tuple #[.slice a n c, .bool (fits B s d)] ∧ (fits B s d = true → n = 100 ∧ IntS w' a (mkL (putL B s d k)) ∧ ∀ b, blk a = some b → w.heap.size ≤ b) := by
 obtain ⟨hn, hn1, hn5⟩ := Lb.n_eq hs
 have hlt100 := fun h => Lb.fst_lt (s := s) (d := d) h hs.2.2.2.2.1
 obtain ⟨pb, po, rfl⟩ := hp.head (by intro e; have := mkL_len B; rw [e] at this; simp at this)
 refine enter4 Tryz.func56 rfl fun f a0 a1 a2 a3 => ?_
 simp only [go_sem, a1]
 refine boxK_of fun w1 fb e1 x1 kf _ => ?_
 have kf : Blk w1 fb #[.int .i64 s.x, .int .i64 s.y, .int .i64 s.w, .int .i64 s.v] 41 := by simpa [Value.cells] using kf
 simp (disch := omega) only [go_sem, a2, readCells_blk kf (n := 4) sm]
 refine callK_of ke (l8Places_c s d hd hs _) ?_
 rintro _ w2 ⟨x2, la, lc, rfl, ol, hla⟩
 simp (disch := omega) only [go_sem]
 refine bslK_0 elt_i fun w3 b3 e3 x3 o3 _ => ?_
 have s1 := x1.size
 have s2 := x2.size
 have s3 := x3.size
 have hp3 := ((hp.ext x1).ext x2).ext x3
 simp (disch := omega) only [go_sem, a0]
 refine appK_of elt_i dc o3 (m := 100) (vi (mkL B)) (by rw [vi_len, mkL_len]) (fun j u hu => ?_) (fun u hu => ?_) (by simp [maxLen]) om fun w4 a4 c4 o4 g4 h4 => ?_
 ·have hj : j < 100 := by have := (List.getElem?_eq_some_iff.1 hu).1; rwa [vi_len, mkL_len] at this
  rw [mkL_get hj] at hu
  cases hu
  rw [add_mk, hp3.cell pb po rfl j (by rw [mkL_len]; exact hj)]
  simp [mkL, hj]
 ·simp only [vi, List.mem_map] at hu
  obtain ⟨x, _, rfl⟩ := hu
  rfl
 rw [List.nil_append, Nat.zero_add] at o4
 rw [Nat.zero_add]
 obtain ⟨ob, rfl⟩ := o4.some om
 have xw3 := (x1.trans x2).trans x3
 have hob : w2.heap.size ≤ ob := by
  rcases h4 ob rfl with h | h
  ·simp only [blk_some, Option.some.injEq] at h; omega
  ·omega
 have xw4 : Ext w w4 := g4.ext xw3 fun b hb => by simp only [blk_some, Option.some.injEq] at hb; omega
 have hll : ∀ b, blk la = some b → b < w2.heap.size := fun b hb => ol.blk_lt hb
 have ol4 := (ol.ext x3).grow g4 fun b hb => by have := hll b hb; simp [blk]; omega
 have hne : ∀ b, blk la = some b → b ≠ ob := fun b hb => by have := hll b hb; omega
 cases hon : s.on d with
 | false =>
  have hf : fits B s d = false := by simp [fits, hon]
  simp only [hon, Bool.false_eq_true, if_false, List.length_nil] at ol4 ⊢
  simp (disch := omega) only [go_sem]
  refine loopN 0 (fun m f W => f 10 = .slice la 0 lc ∧ f 11 = .slice (some ⟨ob, 0, none⟩) 100 c4 ∧ f 12 = .int .i64 m ∧ Ext w W) ⟨uu, uu, uu, xw4⟩ fun m f W hm ⟨a10, a11, a12, xw⟩ => ?_
  obtain rfl : m = 0 := om
  have z1 : ¬ (((0 : Nat) : Int) < ((0 : Nat) : Int)) := om
  have z2 : ¬ ((0 : Int) < ((0 : Nat) : Int)) := om
  simp (disch := omega) only [go_sem, a10, a11, a12, z1, z2, Tryz.results56]
  exact ⟨xw, _, _, _, by rw [hf], fun e => by rw [hf] at e; cases e⟩
 | true =>
 have hl := hlt100 hon
 simp only [hon, if_true] at ol4 ⊢
 have hpl := plcL_len s d
 rw [hpl] at ol4 ⊢
 obtain ⟨lb, rfl⟩ := ol4.some om
 have hne := hne lb rfl
 simp (disch := omega) only [go_sem]
 refine loopN s.n (fun m f W => f 3 = .int .i64 ((k : Int) + 1) ∧ f 10 = .slice (some ⟨lb, 0, none⟩) s.n lc ∧ f 11 = .slice (some ⟨ob, 0, none⟩) 100 c4 ∧ f 12 = .int .i64 m ∧ Ext w W ∧ OwnS W 3 1 (some ⟨lb, 0, none⟩) s.n lc (vi (plcL s d)) ∧ OwnS W 3 1 (some ⟨ob, 0, none⟩) 100 c4 (vi (mkL (putTo B (s.fst d) m (k + 2)))) ∧ FreeTo B (s.fst d) m)
  ⟨uu, uu, uu, uu, xw4, ol4, by rw [putTo_0]; exact o4, fun j hj => om⟩ fun m f W hm ⟨a3, a10, a11, a12, xw, lW, oW, hfree⟩ => ?_
 have sw := xw.size
 by_cases hlt : (m : Int) < (s.n : Int)
 ·have hmn : m < s.n := om
  have hcl : W.cell? ⟨lb, m, none⟩ = some (.int .i64 ((s.fst d + m : Nat) : Int)) := by rw [lW.cell om, plcL_get hmn]
  have hco : W.cell? ⟨ob, s.fst d + m, none⟩ = some (.int .i64 (mkC (B (s.fst d + m)))) := by rw [oW.cell om, mkL_get om, putTo_in (Nat.le_refl _)]
  have hfr := mkC_free (B (s.fst d + m))
  have i1 : ((s.fst d + m : Nat) : Int) < ((100 : Nat) : Int) := om
  by_cases h0 : B (s.fst d + m) = 0
  ·have hne : (mkC (B (s.fst d + m)) != 0) = false := by rw [bne_eq_false_iff_eq]; exact hfr.2 h0
   simp (disch := omega) only [go_sem, a3, a10, a11, a12, hlt, hcl, hco, hne]
   refine stK_own siz_int rf rf oW om fun w5 o5 g5 => ?_
   rw [mkL_set om, ← putTo_succ] at o5
   simp (disch := omega) only [go_sem, a12]
   refine ⟨hmn, uu, uu, uu, uu, g5.ext xw om, lW.grow g5.grow (by simp [blk]; omega), o5, fun j hj => ?_⟩
   by_cases e : j = m
   ·subst e; exact h0
   ·exact hfree j om
  ·have hne : (mkC (B (s.fst d + m)) != 0) = true := by rw [bne_iff_ne]; exact fun h => h0 (hfr.1 h)
   have hf := not_fits hmn h0
   simp (disch := omega) only [go_sem, a3, a10, a11, a12, hlt, hcl, hco, hne]
   refine bslK_0 elt_i fun w5 b5 e5 x5 o5 _ => ?_
   simp (disch := omega) only [go_sem, Tryz.results56]
   exact ⟨xw.trans x5, _, _, _, by rw [hf], fun e => by rw [hf] at e; cases e⟩
 ·obtain rfl : m = s.n := om
  have hf := fits_of hon hfree
  have hpos : (0 : Int) < (s.n : Int) := om
  simp (disch := omega) only [go_sem, a10, a11, a12, hlt, hpos, Tryz.results56]
  exact ⟨xw, _, _, _, by rw [hf], fun _ => ⟨rfl, oW.ints, fun b hb => by simp only [blk_some, Option.some.injEq] at hb; omega⟩⟩
theorem l8Best_c (la : Option Addr) (L : List Lb) (lc : Nat) (hv : LVal L) : ∀ (n i : Nat) (pa : Option Addr) (pc : Nat) (B : Nat → Nat) (w : World), L.length - i = n → i ≤ L.length → LabS w la L → IntS w pa (mkL B) → Bd 6 B →
  Ret Tryz.prog 55 #[.slice la L.length lc, .slice pa 100 pc, .int .i64 i, .bool true] w fun v w' => v = .int .i64 (val B i (L.drop i)) ∧ Ext w w' := by
 have hs6 := hv.1
 intro n
 induction n with
 | zero =>
  intro i pa pc B w hn hi hL hp hB
  have e : (i : Int) = (L.length : Int) := om
  have e0 : L.drop i = [] := List.drop_eq_nil_of_le om
  refine enter4 Tryz.func55 rfl fun f a0 a1 a2 a3 => ?_
  simp (disch := omega) only [go_sem, a0, a2, e, beq_self_eq_true, Tryz.results55]
  exact ⟨by rw [e0]; rfl, Ext.refl _⟩
 | succ n ih =>
  intro i pa pc B w hn hi hL hp hB
  have hiL : i < L.length := om
  have e : ((i : Int) == (L.length : Int)) = false := beq_eq_false_iff_ne.2 om
  obtain ⟨lb, lo, rfl⟩ := hL.head (by intro e; rw [e] at hiL; simp at hiL)
  have hdr := drop_at hiL
  have hOk := hv.ok hiL
  have hmem : ∀ t ∈ L.drop (i + 1), t.Ok := fun t ht => hv.mem t (List.mem_of_mem_drop ht)
  have hdl : (L.drop (i + 1)).length = L.length - (i + 1) := List.length_drop
  have ei : (i : Int) + 1 = ((i + 1 : Nat) : Int) := om
  refine enter4 Tryz.func55 rfl fun f a0 a1 a2 a3 => ?_
  simp (disch := omega) only [go_sem, a0, a1, a2, a3, e, ei]
  refine callK_pure ke (ih (i + 1) pa pc B _ om om hL hp hB) fun w1 x1 => ?_
  simp (disch := omega) only [go_sem]
  refine loopN 4 (fun j f W => f 0 = .slice (some ⟨lb, lo, none⟩) L.length lc ∧ f 1 = .slice pa 100 pc ∧ f 2 = .int .i64 i ∧ f 3 = .bool true ∧ f 9 = .int .i64 (valTo B (L.getD i lb0) i (L.drop (i + 1)) j) ∧ f 10 = .int .i64 j ∧ Ext w W)
   ⟨uu, uu, uu, uu, by simp [upd_apply, valTo], uu, x1⟩ fun j f W hj ⟨a0, a1, a2, a3, a9, a10, xw⟩ => ?_
  by_cases hlt : (j : Int) < 4
  ·have hj4 : j < 4 := om
   have LW := hL.ext xw
   have hrd := LW.read hiL
   obtain ⟨-, -, -, hcv⟩ := LW.fld hiL
   have hsc := valTo_succ B (L.getD i lb0) i (L.drop (i + 1)) j
   have hge := valTo_ge B (L.getD i lb0) i (L.drop (i + 1)) j
   have hle := valTo_le hOk hmem (B := B) (k := i) j
   have hv1 := val_zero (putL B (L.getD i lb0) j i) (i + 1) (L.drop (i + 1))
   have hv2 := val_le (L.drop (i + 1)) (putL B (L.getD i lb0) j i) (i + 1) hmem
   generalize hsk : L.getD i lb0 = s at *
   have hsv := hOk.2.2.2.2.2.2
   simp (disch := omega) only [go_sem, a0, a1, a2, a10, hlt, hrd]
   refine callK_of ke (l8Set_c pa pc B s j i _ (hp.ext xw) hB hOk hj4 om) ?_
   rintro _ w2 ⟨x2, na, nn, nc, rfl, hN⟩
   cases hf : fits B s j with
   | false =>
    rw [hf] at hsc
    simp (disch := omega) only [go_sem, a10]
    exact ⟨hj4, uu, uu, uu, uu, by simp [upd_apply, a9, hsc], uu, xw.trans x2⟩
   | true =>
    obtain ⟨rfl, hN2, -⟩ := hN hf
    rw [hf] at hsc
    have LW2 := (hL.ext xw).ext x2
    obtain ⟨-, -, -, hcv⟩ := LW2.fld hiL
    rw [hsk] at hcv
    have hm4 : lo + i * 4 + 3 = lo + i * 4 + 3 := rfl
    simp (disch := omega) only [go_sem, a0, a2, a3, a9, hcv, ei]
    refine callK_pure ke (ih (i + 1) na nc (putL B s j i) _ om om LW2 hN2 (hB.put om)) fun w3 x3 => ?_
    simp (disch := omega) only [go_sem, a10]
    exact ⟨hj4, uu, uu, uu, uu, by simp [upd_apply, hsc], uu, (xw.trans x2).trans x3⟩
  ·obtain rfl : j = 4 := om
   rw [valTo_4] at a9
   simp (disch := omega) only [go_sem, a9, a10, hlt, Tryz.results55]
   exact ⟨by rw [hdr], xw⟩
theorem find4 {p : Nat → Bool} {d : Nat} (hd : d < 4) (hp : p d = true) (hb : ∀ e, e < d → p e = false) : (List.range 4).find? p = some d := by
 have : d = 0 ∨ d = 1 ∨ d = 2 ∨ d = 3 := om
 rw [show List.range 4 = [0, 1, 2, 3] from rfl]
 rcases this with rfl | rfl | rfl | rfl
 ·simp [hp]
 ·simp [hp, hb 0]
 ·simp [hp, hb 0, hb 1]
 ·simp [hp, hb 0, hb 1, hb 2]
theorem find4n {p : Nat → Bool} (hb : ∀ e, e < 4 → p e = false) : (List.range 4).find? p = none := by
 rw [List.find?_eq_none]
 intro x hx
 rw [hb x (List.mem_range.1 hx)]; simp
theorem ints_lt100 {w : World} {a : Option Addr} {B : Nat → Nat} (h : IntS w a (mkL B)) {b : Nat} (hb : blk a = some b) : b < w.heap.size := by
 obtain ⟨b', o, rfl⟩ := h.head (by intro e; have := mkL_len B; rw [e] at this; simp at this)
 simp only [blk_some, Option.some.injEq] at hb
 subst hb
 exact World.block_lt_of_cell? w _ (h.cell _ _ rfl 0 (by rw [mkL_len]; omega))
theorem specSettingBest_c (la : Option Addr) (L : List Lb) (lc : Nat) (w : World) (hL : LabS w la L) (hc : L.length ≤ lc) :
  Ret Tryz.prog 22 #[.slice la L.length lc] w fun v w' => Ext w w' ∧ ∃ a c, v = .tuple #[.slice a (if lvalid L then bestOf L else []).length c, .bool (lvalid L)] ∧ IntS w' a (if lvalid L then bestOf L else []) := by
 refine enter1 Tryz.func22 rfl fun f a0 => ?_
 simp (disch := omega) only [go_sem]
 refine bslK_0 elt_i fun w1 b1 e1 x1 o1 _ => ?_
 simp (disch := omega) only [go_sem, a0]
 refine callK_pure ke (specLabelsValid_c la L lc _ (hL.ext x1) hc) fun w2 x2 => ?_
 cases hlv : lvalid L with
 | false =>
  simp (disch := omega) only [go_sem, Tryz.results22]
  exact ⟨x1.trans x2, _, _, rfl, IntS.nil _ _⟩
 | true =>
 have hv := lvalid_iff.1 hlv
 have hs6 := hv.1
 simp only [if_true]
 simp (disch := omega) only [go_sem, a0]
 refine callK_of ke (l8Map_c la L lc _ ((hL.ext x1).ext x2) hv) ?_
 rintro _ w3 ⟨x3, mb, rfl, hm, hmb⟩
 have s1 := x1.size
 have s2 := x2.size
 have s3 := x3.size
 have xw3 := (x1.trans x2).trans x3
 have hb1 := o1.blk_lt (b := b1) rfl
 simp (disch := omega) only [go_sem]
 refine loopN L.length (fun i f W => f 0 = .slice la L.length lc ∧ f 6 = .int .i64 i ∧ Ext w W ∧ ∃ pre ob oc, f 4 = .slice (some ⟨ob, 0, none⟩) i oc ∧ OwnS W 3 1 (some ⟨ob, 0, none⟩) i oc (vi pre) ∧ pre.length = i ∧ w.heap.size ≤ ob ∧ ∃ pa pc B, f 5 = .slice pa 100 pc ∧ IntS W pa (mkL B) ∧ Bd 6 B ∧ (∀ b, blk pa = some b → b ≠ ob) ∧ pre ++ pick B i (L.drop i) = bestOf L)
  ⟨uu, uu, xw3, [], b1, 0, uu, by simpa [vi] using (o1.ext x2).ext x3, rfl, om, some ⟨mb, 0, none⟩, 100, ptsL L, uu, hm, ptsL_bd L 6, fun b hb => by simp only [blk_some, Option.some.injEq] at hb; omega, rfl⟩ fun i f W hi ⟨a0, a6, xw, pre, ob, oc, a4, oo, hpl, hob, pa, pc, B, a5, hp, hB, hne, hpre⟩ => ?_
 by_cases hlt : (i : Int) < (L.length : Int)
 rotate_left
 ·obtain rfl : i = L.length := om
  rw [List.drop_length] at hpre
  have hpe : pre = bestOf L := by rw [← hpre]; simp [pick]
  subst hpe
  simp (disch := omega) only [go_sem, a0, a4, a6, hlt, Tryz.results22]
  exact ⟨xw, _, _, by rw [hpl], oo.ints⟩
 have hiL : i < L.length := om
 obtain ⟨lb, lo, rfl⟩ := hL.head (by intro e; rw [e] at hiL; simp at hiL)
 have hdr := drop_at hiL
 have hOk := hv.ok hiL
 have hmem : ∀ t ∈ L.drop (i + 1), t.Ok := fun t ht => hv.mem t (List.mem_of_mem_drop ht)
 have hdl : (L.drop (i + 1)).length = L.length - (i + 1) := List.length_drop
 have ei : (i : Int) + 1 = ((i + 1 : Nat) : Int) := om
 simp (disch := omega) only [go_sem, a0, a5, a6, hlt]
 refine callK_pure ke (l8Best_c _ L lc hv (L.length - i) i pa pc B _ rfl om (hL.ext xw) hp hB) fun w4 x4 => ?_
 have hpd : pick B i (L.drop i) = match (List.range 4).find? (fun d => fits B (L.getD i lb0) d && decide ((L.getD i lb0).v + val (putL B (L.getD i lb0) d i) (i + 1) (L.drop (i + 1)) = val B i (L.getD i lb0 :: L.drop (i + 1)))) with
  | some d => (d : Int) :: pick (putL B (L.getD i lb0) d i) (i + 1) (L.drop (i + 1))
  | none => -1 :: pick B (i + 1) (L.drop (i + 1)) := by rw [hdr]; rfl
 rw [hdr]
 have hold := oo.blk_lt (b := ob) rfl
 simp (disch := omega) only [go_sem]
 refine loopN 4 (fun j f V => f 0 = .slice (some ⟨lb, lo, none⟩) L.length lc ∧ f 4 = .slice (some ⟨ob, 0, none⟩) i oc ∧ f 6 = .int .i64 i ∧ f 7 = .int .i64 (val B i (L.getD i lb0 :: L.drop (i + 1))) ∧ f 9 = .int .i64 j ∧ Ext W V ∧
   ((f 8 = .int .i64 (-1) ∧ f 5 = .slice pa 100 pc ∧ ∀ e, e < j → (fits B (L.getD i lb0) e && decide ((L.getD i lb0).v + val (putL B (L.getD i lb0) e i) (i + 1) (L.drop (i + 1)) = val B i (L.getD i lb0 :: L.drop (i + 1)))) = false) ∨
    ∃ d na nc, d < 4 ∧ j = d + 1 ∧ f 8 = .int .i64 (d : Int) ∧ f 5 = .slice na 100 nc ∧ IntS V na (mkL (putL B (L.getD i lb0) d i)) ∧ (∀ b, blk na = some b → W.heap.size ≤ b) ∧ (fits B (L.getD i lb0) d && decide ((L.getD i lb0).v + val (putL B (L.getD i lb0) d i) (i + 1) (L.drop (i + 1)) = val B i (L.getD i lb0 :: L.drop (i + 1)))) = true ∧ ∀ e, e < d → (fits B (L.getD i lb0) e && decide ((L.getD i lb0).v + val (putL B (L.getD i lb0) e i) (i + 1) (L.drop (i + 1)) = val B i (L.getD i lb0 :: L.drop (i + 1)))) = false))
  ⟨uu, uu, uu, uu, uu, x4, .inl ⟨uu, uu, fun e he => om⟩⟩ fun j f V hj ⟨a0, a4, a6, a7, a9, xWV, hst⟩ => ?_
 have xV := xw.trans xWV
 have sWV := xWV.size
 have oo := oo.ext xWV
 by_cases hgo : j < 4 ∧ f 8 = .int .i64 (-1)
 ·obtain ⟨hj4, a8⟩ := hgo
  rcases hst with ⟨-, a5, hno⟩ | ⟨d, na, nc, h1, h2, h3, _⟩
  rotate_left
  ·rw [h3] at a8
   simp only [Value.int.injEq, true_and] at a8
   omega
  have LV := hL.ext xV
  have hrd := LV.read hiL
  generalize hsk : L.getD i lb0 = s at *
  have hj4' : (j : Int) < 4 := om
  have hm1 : (-1 : Int) < 0 := om
  simp (disch := omega) only [go_sem, a0, a5, a6, a8, a9, hj4', hm1, hrd]
  refine callK_of ke (l8Set_c pa pc B s j i _ (hp.ext xWV) hB hOk hj4 om) ?_
  rintro _ w5 ⟨x5, na, nn, nc, rfl, hN⟩
  cases hf : fits B s j with
  | false =>
   simp (disch := omega) only [go_sem]
   refine QR_of ke ke ?_
   simp (disch := omega) only [go_sem, a9]
   intro w6 x6
   refine ⟨hj4, uu, uu, uu, uu, uu, (xWV.trans x5).trans x6, .inl ⟨uu, uu, fun e he => ?_⟩⟩
   by_cases e1 : e = j
   ·subst e1; rw [hf]; rfl
   ·exact hno e om
  | true =>
   obtain ⟨rfl, hN2, hNf⟩ := hN hf
   have LV2 := LV.ext x5
   obtain ⟨-, -, -, hcv⟩ := LV2.fld hiL
   rw [hsk] at hcv
   have hv1 := val_zero (putL B s j i) (i + 1) (L.drop (i + 1))
   have hv2 := val_le (L.drop (i + 1)) (putL B s j i) (i + 1) hmem
   have hsv := hOk.2.2.2.2.2.2
   simp (disch := omega) only [go_sem]
   refine QR_of ke ke ?_
   simp (disch := omega) only [go_sem, a0, a6, a7, a9, hcv, ei]
   refine callK_q ke (fun w' e => l8Best_c _ L lc hv (L.length - (i + 1)) (i + 1) na nc (putL B s j i) w' rfl om (LV2.ext e) (hN2.ext e) (hB.put om)) ?_
   by_cases he : s.v + val (putL B s j i) (i + 1) (L.drop (i + 1)) = val B i (s :: L.drop (i + 1))
   ·have hpj : (fits B s j && decide (s.v + val (putL B s j i) (i + 1) (L.drop (i + 1)) = val B i (s :: L.drop (i + 1)))) = true := by rw [hf, decide_eq_true he]; rfl
    simp (disch := omega) only [go_sem, a0, a6, a7, a9, he, beq_self_eq_true]
    intro w6 x6
    have s5 := x5.size
    exact ⟨hj4, uu, uu, uu, uu, uu, (xWV.trans x5).trans x6, .inr ⟨j, na, nc, hj4, rfl, uu, uu, hN2.ext x6, fun b hb => by have := hNf b hb; omega, hpj, hno⟩⟩
   ·have he' : (s.v + val (putL B s j i) (i + 1) (L.drop (i + 1)) == val B i (s :: L.drop (i + 1))) = false := beq_eq_false_iff_ne.2 he
    simp (disch := omega) only [go_sem, a0, a6, a7, a9, he']
    intro w6 x6
    refine ⟨hj4, uu, uu, uu, uu, uu, (xWV.trans x5).trans x6, .inl ⟨uu, uu, fun e he2 => ?_⟩⟩
    by_cases e1 : e = j
    ·subst e1; rw [decide_eq_false he, Bool.and_false]
    ·exact hno e om
 ·have ex : ∃ ch na nc B', f 8 = .int .i64 ch ∧ f 5 = .slice na 100 nc ∧ IntS V na (mkL B') ∧ Bd 6 B' ∧ (∀ b, blk na = some b → b ≠ ob) ∧ pick B i (L.drop i) = ch :: pick B' (i + 1) (L.drop (i + 1)) ∧ (j < 4 → ¬ ch < 0) := by
   rcases hst with ⟨a8, a5, hno⟩ | ⟨d, na, nc, h1, h2, h3, h4, h5, h6, h7, h8⟩
   ·obtain rfl : j = 4 := by
     refine Classical.byContradiction fun h => hgo ⟨om, a8⟩
    exact ⟨-1, pa, pc, B, a8, a5, hp.ext xWV, hB, hne, by rw [hpd, find4n hno], fun h => om⟩
   ·exact ⟨d, na, nc, putL B (L.getD i lb0) d i, h3, h4, h5, hB.put om, fun b hb => by have := h6 b hb; omega, by rw [hpd, find4 h1 h7 h8], fun _ => om⟩
  obtain ⟨ch, na, nc, B', a8, a5, hN, hB', hnb, hpk, hch⟩ := ex
  by_cases hj4 : (j : Int) < 4
  ·have hch := hch om
   simp (disch := omega) only [go_sem, a8, a9, hj4, hch]
   refine bslK_1 elt_i rfl fun w7 b7 e7 x7 k7 _ => ?_
   simp (disch := omega) only [go_sem, a4, a8]
   refine appK_1 elt_i (oo.ext x7) k7 rfl om (.inl dc) fun w8 a8' c8 o8 g8 h8 => ?_
   rw [vi_snoc] at o8
   obtain ⟨b8, rfl⟩ := o8.some om
   have s7 := x7.size
   have sV := xV.size
   simp (disch := omega) only [go_sem, a6]
   exact ⟨om, uu, by simp [upd_apply], g8.ext (xV.trans x7) fun b hb => by simp only [blk_some, Option.some.injEq] at hb; omega, pre ++ [ch], b8, c8, by simp [upd_apply], o8, by simp [hpl], (by rcases h8 b8 rfl with h | h; simp only [blk_some, Option.some.injEq] at h; omega; omega), na, nc, B', by simp [upd_apply, a5], (hN.ext x7).grow g8 (fun b hb e => by simp only [blk_some, Option.some.injEq] at e; exact hnb b hb e.symm), hB', fun b hb e => (by
    rcases h8 b8 rfl with h | h
    ·simp only [blk_some, Option.some.injEq] at h; exact hnb b hb om
    ·have := ints_lt100 hN hb; omega), by rw [List.append_assoc, List.singleton_append, ← hpk]; exact hpre⟩
  ·skip
   simp (disch := omega) only [go_sem, a8, a9, hj4]
   refine bslK_1 elt_i rfl fun w7 b7 e7 x7 k7 _ => ?_
   simp (disch := omega) only [go_sem, a4, a8]
   refine appK_1 elt_i (oo.ext x7) k7 rfl om (.inl dc) fun w8 a8' c8 o8 g8 h8 => ?_
   rw [vi_snoc] at o8
   obtain ⟨b8, rfl⟩ := o8.some om
   have s7 := x7.size
   have sV := xV.size
   simp (disch := omega) only [go_sem, a6]
   exact ⟨om, uu, by simp [upd_apply], g8.ext (xV.trans x7) fun b hb => by simp only [blk_some, Option.some.injEq] at hb; omega, pre ++ [ch], b8, c8, by simp [upd_apply], o8, by simp [hpl], (by rcases h8 b8 rfl with h | h; simp only [blk_some, Option.some.injEq] at h; omega; omega), na, nc, B', by simp [upd_apply, a5], (hN.ext x7).grow g8 (fun b hb e => by simp only [blk_some, Option.some.injEq] at e; exact hnb b hb e.symm), hB', fun b hb e => (by
    rcases h8 b8 rfl with h | h
    ·simp only [blk_some, Option.some.injEq] at h; exact hnb b hb om
    ·have := ints_lt100 hN hb; omega), by rw [List.append_assoc, List.singleton_append, ← hpk]; exact hpre⟩
end Go.Proofs.YtcbmhjndbpafbaaGreatDoor
