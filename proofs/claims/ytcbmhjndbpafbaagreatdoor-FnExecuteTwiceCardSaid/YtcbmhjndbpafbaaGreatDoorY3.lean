import Derived.Test.YtcbmhjndbpafbaaGreatDoorZ9
import Derived.Test.YtcbmhjndbpafbaaGreatDoorY2
set_option linter.all false
set_option maxRecDepth 20000
namespace Go.Proofs.YtcbmhjndbpafbaaGreatDoor
open Go.RowKit Go.SW
theorem foff_lst0 : foff Tryz.prog 64 0 = some 0 := ke
theorem foff_lst1 : foff Tryz.prog 64 1 = some 1 := ke
theorem aggN_lst : aggN Tryz.prog 64 = some 2 := ke
theorem scal_lst : scal Tryz.prog 64 = false := ke
theorem siz_lst : (Tryz.prog.info? 64).map (·.size) = some 2 := ke
theorem zero_lst : zeroC Tryz.prog 64 = some #[.slice none 0 0, .slice none 0 0] := ke
attribute [go_sem] foff_lst0 foff_lst1 aggN_lst scal_lst
def StAt (w : World) (v : Value) (k : Dk) : Prop := ∃ a A Cp gc la lc, v = .agg #[.slice a k.rows.length gc, .slice la k.labs.length lc] ∧ RowsAt w a k.rows A Cp ∧ LabS w la k.labs ∧ k.labs.length ≤ lc
theorem StAt.ext' {w w' : World} {v : Value} {k : Dk} (h : StAt w v k) (e : Ext w w') : StAt w' v k := by
 obtain ⟨a, A, Cp, gc, la, lc, hv, r, l, hc⟩ := h
 exact ⟨a, A, Cp, gc, la, lc, hv, r.ext e, l.ext e, hc⟩
theorem l10Sees_c (a : Option Addr) (rows : List (List Int)) (A : Nat → Option Addr) (Cp : Nat → Nat) (gc nb nc r i j : Nat) (w : World) (hr : RowsAt w a rows A Cp) (v : Valid rows) (hn : IntS w (some ⟨nb, 0, none⟩) [(r : Int), (i : Int), (j : Int)]) :
  Ret Tryz.prog 109 #[.slice a rows.length gc, .slice (some ⟨nb, 0, none⟩) 3 nc] w fun u w' => u = .string (bs (if decide (r < rows.length ∧ i < rowLen rows ∧ j < rowLen rows) then (if SeesP (rows.getD r []) i j then [121, 101, 115, 10] else [104, 105, 100, 100, 101, 110, 10]) else noT)) ∧ Ext w w' := by
 generalize hok : decide (r < rows.length ∧ i < rowLen rows ∧ j < rowLen rows) = ok
 have n0 : ∀ {W : World}, Ext w W → W.cell? ⟨nb, 0, none⟩ = some (.int .i64 r) := fun x => by simpa using (hn.ext x).cell nb 0 rfl 0 sm
 have n1 : ∀ {W : World}, Ext w W → W.cell? ⟨nb, 1, none⟩ = some (.int .i64 i) := fun x => by simpa using (hn.ext x).cell nb 0 rfl 1 sm
 have n2 : ∀ {W : World}, Ext w W → W.cell? ⟨nb, 2, none⟩ = some (.int .i64 j) := fun x => by simpa using (hn.ext x).cell nb 0 rfl 2 sm
 have ex : Ext w w := Ext.refl _
 refine enter2 Tryz.func109 rfl fun f a0 a1 => ?_
 simp (disch := omega) only [go_sem, a0, a1, n0 ex, Int.reduceToNat]
 refine callK_of ke (specProfileRow_c _ _ _ _ _ r _ hr v) ?_
 rintro _ w1 ⟨x1, hu⟩
 rcases hu with ⟨hr', b, c, rfl⟩ | ⟨hr', b, c, rfl, hp⟩
 ·have hd0 : ok = false := by rw [← hok]; exact decide_eq_false om
  subst hd0
  simp (disch := omega) only [go_sem, Tryz.results109]
  exact ⟨by first | rfl | trivial, x1⟩
 have hlen := v.len r hr'
 have hpr := v.prof hr'
 have hC7 := v.c7
 have hC1 := v.c1
 simp (disch := omega) only [go_sem, a1, n1 x1, Int.reduceToNat]
 refine callK_pure ke (l6In_c _ _ _ _) fun w2 x2 => ?_
 have x12 := x1.trans x2
 by_cases hi : i < rowLen rows
 rotate_left
 ·have hd : decide ((0 : Int) ≤ (i : Int) ∧ (i : Int) ≤ ((rowLen rows : Nat) : Int) - 1) = false := decide_eq_false om
  have hd0 : ok = false := by rw [← hok]; exact decide_eq_false om
  subst hd0
  simp (disch := omega) only [go_sem, hd, Tryz.results109]
  exact ⟨by first | rfl | trivial, x12⟩
 have hd : decide ((0 : Int) ≤ (i : Int) ∧ (i : Int) ≤ ((rowLen rows : Nat) : Int) - 1) = true := decide_eq_true om
 simp (disch := omega) only [go_sem, hd, a1, n2 x12, Int.reduceToNat]
 refine callK_pure ke (l6In_c _ _ _ _) fun w3 x3 => ?_
 have x13 := x12.trans x3
 by_cases hj : j < rowLen rows
 rotate_left
 ·have hd : decide ((0 : Int) ≤ (j : Int) ∧ (j : Int) ≤ ((rowLen rows : Nat) : Int) - 1) = false := decide_eq_false om
  have hd0 : ok = false := by rw [← hok]; exact decide_eq_false om
  subst hd0
  simp (disch := omega) only [go_sem, hd, Tryz.results109]
  exact ⟨by first | rfl | trivial, x13⟩
 have hd : decide ((0 : Int) ≤ (j : Int) ∧ (j : Int) ≤ ((rowLen rows : Nat) : Int) - 1) = true := decide_eq_true om
 have hd1 : ok = true := by rw [← hok]; exact decide_eq_true ⟨hr', hi, hj⟩
 subst hd1
 simp only [if_true]
 have hp3 := (hp.ext x2).ext x3
 have hcall : ∀ {V}, Ext w3 V → Ret Tryz.prog 144 #[.slice b (rowLen rows) c, .int .i64 i, .int .i64 j] V fun u w' => u = .bool (decide (SeesP (rows.getD r []) i j)) ∧ Ext V w' := fun x => by
  have := specProfileSees_c b (rows.getD r []) c i j _ (hp3.ext x) hpr om om
  rwa [hlen] at this
 simp (disch := omega) only [go_sem, hd]
 refine QR_sch none (.st 0 (.st 1 (.st 2 (.st 3 (.st 4 (.st 5 (.st 6 (.ef 7 (.done))))))))) ke ke fun w0 x0 => ?_
 have X := x13.trans x0
 simp (disch := omega) only [go_sem, a1, n1 X, n2 X, Int.reduceToNat, ldS_none]
 refine callK_of ke (hcall x0) ?_
 rintro _ w4 ⟨rfl, y1⟩
 refine nxE_of (y1.grow _) ?_
 have X := X.trans y1
 skip
 by_cases hs : SeesP (rows.getD r []) i j
 ·have hs' : decide (SeesP (rows.getD r []) i j) = true := decide_eq_true hs
  rw [if_pos hs]
  simp (disch := omega) only [go_sem, hs', Tryz.results109]
  exact ⟨by first | rfl | trivial, X⟩
 ·have hs' : decide (SeesP (rows.getD r []) i j) = false := decide_eq_false hs
  rw [if_neg hs]
  simp (disch := omega) only [go_sem, hs', Tryz.results109]
  exact ⟨by first | rfl | trivial, X⟩
theorem l10Change_c (i : Nat) (hi : 1 ≤ i ∧ i ≤ 4) (word : List UInt8) (hw : ordX word = some i) (a : Option Addr) (rows : List (List Int)) (A : Nat → Option Addr) (Cp : Nat → Nat) (gc : Nat) (w : World) (hr : RowsAt w a rows A Cp) (v : Valid rows) (L : List Lb) :
  Ret Tryz.prog 70 #[.slice a rows.length gc, .string (bs word)] w fun u w' => ∃ a' c' A' Cp', u = .tuple #[.slice a' (doF i [] ⟨rows, L⟩).1.rows.length c', .bool true] ∧ RowsAt w' a' (doF i [] ⟨rows, L⟩).1.rows A' Cp' ∧ Ext w w' ∧ (doF i [] ⟨rows, L⟩).1.labs = L ∧ (doF i [] ⟨rows, L⟩).2 = okT ∧ FreshR w.heap.size a' (doF i [] ⟨rows, L⟩).1.rows.length A' := by
 have hgv := (gvalid_iff rows).2 v
 have hword : word = (ordW.getD i ([], 0)).1 := by
  obtain ⟨h1, h2, -⟩ := List.findIdx?_eq_some_iff_getElem.1 hw
  rw [beq_iff_eq] at h2
  rw [getD_at _ _ h1, h2]
 have h4 : i = 1 ∨ i = 2 ∨ i = 3 ∨ i = 4 := om
 rcases h4 with rfl | rfl | rfl | rfl
 ·have e0 : (word == [116, 117, 114, 110]) = true := by rw [hword]; rfl
  refine enter2 Tryz.func70 rfl fun f a0 a1 => ?_
  simp (disch := omega) only [go_sem, a0, a1, e0]
  refine callK_of ke (specGridTurn_c _ _ _ _ _ _ hr v) ?_
  rintro _ w1 ⟨a', c', A', Cp', rfl, r', x1, hfr⟩
  simp (disch := omega) only [go_sem, Tryz.results70]
  exact ⟨a', c', A', Cp', rfl, r', x1, rfl, rfl, hfr⟩
 ·have e0 : (word == [116, 117, 114, 110]) = false := by rw [hword]; rfl
  have e1 : (word == [109, 105, 114, 114, 111, 114]) = true := by rw [hword]; rfl
  refine enter2 Tryz.func70 rfl fun f a0 a1 => ?_
  simp (disch := omega) only [go_sem, a0, a1, e0, e1]
  refine callK_of ke (specGridMirror_c _ _ _ _ _ _ hr v) ?_
  rintro _ w1 ⟨a', c', A', Cp', rfl, r', x1, hfr⟩
  simp (disch := omega) only [go_sem, Tryz.results70]
  exact ⟨a', c', A', Cp', rfl, r', x1, rfl, rfl, hfr⟩
 ·have e0 : (word == [116, 117, 114, 110]) = false := by rw [hword]; rfl
  have e1 : (word == [109, 105, 114, 114, 111, 114]) = false := by rw [hword]; rfl
  have e2 : (word == [105, 110, 118, 101, 114, 116]) = true := by rw [hword]; rfl
  refine enter2 Tryz.func70 rfl fun f a0 a1 => ?_
  simp (disch := omega) only [go_sem, a0, a1, e0, e1, e2]
  refine callK_of ke (specGridInvertF_c _ _ _ _ _ _ hr hgv) ?_
  rintro _ w1 ⟨a', c', A', Cp', rfl, r', x1, hfr⟩
  simp (disch := omega) only [go_sem, Tryz.results70]
  exact ⟨a', c', A', Cp', by show _ = Value.tuple #[.slice a' (inverted rows).length c', .bool true]; simp [inverted, mkRows_len], r', x1, rfl, rfl, (show FreshR w.heap.size a' (inverted rows).length A' from (show (inverted rows).length = rows.length by simp [inverted, mkRows_len]) ▸ hfr)⟩
 ·have e0 : (word == [116, 117, 114, 110]) = false := by rw [hword]; rfl
  have e1 : (word == [109, 105, 114, 114, 111, 114]) = false := by rw [hword]; rfl
  have e2 : (word == [105, 110, 118, 101, 114, 116]) = false := by rw [hword]; rfl
  refine enter2 Tryz.func70 rfl fun f a0 a1 => ?_
  simp (disch := omega) only [go_sem, a0, a1, e0, e1, e2]
  refine callK_of ke (specWaterFillF_c _ _ _ _ _ _ hr) ?_
  rintro _ w1 ⟨a', c', A', Cp', rfl, r', x1, hfr⟩
  rw [hgv] at r' hfr ⊢
  simp only [if_true] at r' hfr ⊢
  simp (disch := omega) only [go_sem, Tryz.results70]
  exact ⟨a', c', A', Cp', rfl, r', x1, rfl, rfl, hfr⟩
def oneF (k : Dk) (word : List UInt8) : List UInt8 := match ordX word with
 | some 5 => gtext k.rows ++ [10]
 | some 8 => jn 32 (pkW k.rows) ++ [10]
 | some 11 => mtext k.labs (bestOf k.labs)
 | _ => whT
theorem ordX_word {word : List UInt8} {i : Nat} (hw : ordX word = some i) : word = (ordW.getD i ([], 0)).1 := by
 obtain ⟨h1, h2, -⟩ := List.findIdx?_eq_some_iff_getElem.1 hw
 rw [beq_iff_eq] at h2
 rw [getD_at _ _ h1, h2]
theorem l10One_c (k : Dk) (hk : k.Good) (word : List UInt8) (sv : Value) (w : World) (hs : StAt w sv k) : Ret Tryz.prog 103 #[sv, .string (bs word)] w fun u w' => u = .string (bs (oneF k word)) ∧ Ext w w' := by
 obtain ⟨a, A, Cp, gc, la, lc, rfl, r, l, hlc⟩ := hs
 have v := hk.1
 have hgv := (gvalid_iff _).2 v
 have hgl := v.gt_len
 refine enter2 Tryz.func103 rfl fun f a0 a1 => ?_
 simp only [go_sem, a0]
 refine boxK_of fun w1 bx e1 x1 kx _ => ?_
 have kx : Blk w1 bx #[.slice a k.rows.length gc, .slice la k.labs.length lc] 64 := by simpa [Value.cells] using kx
 by_cases h5 : word = [115, 104, 111, 119]
 ·subst h5
  have ho : oneF k [115, 104, 111, 119] = gtext k.rows ++ [10] := rfl
  have e1 : binV Tryz.prog .add 9 (.string (bs (gtext k.rows))) (.string (bs [10])) = some (.string (bs (gtext k.rows ++ [10]))) := bin_adds _ _ sq
  rw [ho]
  simp (disch := omega) only [go_sem, a1, beq_self_eq_true, kx.cell]
  refine callK_pure ke (specGridText_c _ _ _ _ _ _ (r.ext x1)) fun w2 x2 => ?_
  rw [hgv]
  simp only [if_true]
  simp (disch := omega) only [go_sem, e1, Tryz.results103]
  exact ⟨by first | trivial | rfl, x1.trans x2⟩
 have n5 : (word == [115, 104, 111, 119]) = false := by rw [beq_eq_false_iff_ne]; exact h5
 by_cases h8 : word = [112, 101, 97, 107, 115]
 ·subst h8
  have ho : oneF k [112, 101, 97, 107, 115] = jn 32 (pkW k.rows) ++ [10] := rfl
  rw [ho]
  simp (disch := omega) only [go_sem, a1, n5, beq_self_eq_true, kx.cell]
  refine callK_pure ke (l10Peaks_c _ _ _ _ _ _ (r.ext x1)) fun w2 x2 => ?_
  simp (disch := omega) only [go_sem, Tryz.results103]
  exact ⟨by first | trivial | rfl, x1.trans x2⟩
 have n8 : (word == [112, 101, 97, 107, 115]) = false := by rw [beq_eq_false_iff_ne]; exact h8
 by_cases h11 : word = [109, 97, 112]
 ·subst h11
  have ho : oneF k [109, 97, 112] = mtext k.labs (bestOf k.labs) := rfl
  rw [ho]
  have hlv := lvalid_iff.2 hk.2
  have hf : FitA (ptsL k.labs) 0 k.labs (bestOf k.labs) := pick_fit _ _ _
  simp (disch := omega) only [go_sem, a1, n5, n8, beq_self_eq_true, kx.cell]
  refine callK_of ke (specSettingBest_c la k.labs lc _ (l.ext x1) hlc) ?_
  rintro _ w2 ⟨x2, sa, sc, rfl, hss⟩
  rw [hlv] at hss ⊢
  simp only [if_true] at hss ⊢
  have kx2 := kx.ext x2
  simp (disch := omega) only [go_sem, kx2.cell]
  refine callK_pure ke (specSettingText_c la k.labs lc sa (bestOf k.labs) sc _ ((l.ext x1).ext x2) hlc hk.2 hss hf) fun w3 x3 => ?_
  simp (disch := omega) only [go_sem, Tryz.results103]
  exact ⟨by first | trivial | rfl, (x1.trans x2).trans x3⟩
 have n11 : (word == [109, 97, 112]) = false := by rw [beq_eq_false_iff_ne]; exact h11
 have ho : oneF k word = whT := by
  unfold oneF
  split
  ·rename_i h; exact (h5 (ordX_word h)).elim
  ·rename_i h; exact (h8 (ordX_word h)).elim
  ·rename_i h; exact (h11 (ordX_word h)).elim
  ·rfl
 rw [ho]
 simp (disch := omega) only [go_sem, a1, n5, n8, n11, Tryz.results103]
 exact ⟨by first | rfl | trivial, x1⟩
def askF (k : Dk) (word : List UInt8) (ws : List (List UInt8)) : List UInt8 := match ordX word with
 | some i => if ws.length = cntX i then (doF i (ws.map numV) k).2 else whT
 | none => whT
theorem ask_none {k : Dk} {word : List UInt8} {ws : List (List UInt8)} (h : ∀ i, ordX word = some i → ws.length ≠ cntX i) : askF k word ws = whT := by
 unfold askF
 cases hx : ordX word with
 | none => rfl
 | some i => rw [hx] at h; simp [h i rfl]
theorem ask_some {k : Dk} {word : List UInt8} {ws : List (List UInt8)} {i : Nat} (hx : ordX word = some i) (hc : ws.length = cntX i) : askF k word ws = (doF i (ws.map numV) k).2 := by
 unfold askF; rw [hx]; simp [hc]
theorem ask_one {k : Dk} {word : List UInt8} (hno : ∀ i, ordX word = some i → cntX i = 0 → 5 ≤ i ∧ i ≠ 10) : askF k word [] = oneF k word := by
 unfold askF oneF
 cases hx : ordX word with
 | none => rfl
 | some i =>
  have h1 := hno i hx
  have hi := ordX_lt hx
  have h13 : i = 0 ∨ i = 1 ∨ i = 2 ∨ i = 3 ∨ i = 4 ∨ i = 5 ∨ i = 6 ∨ i = 7 ∨ i = 8 ∨ i = 9 ∨ i = 10 ∨ i = 11 ∨ i = 12 := om
  rcases h13 with rfl | rfl | rfl | rfl | rfl | rfl | rfl | rfl | rfl | rfl | rfl | rfl | rfl
  ·rfl
  ·have := (h1 rfl).1; omega
  ·have := (h1 rfl).1; omega
  ·have := (h1 rfl).1; omega
  ·have := (h1 rfl).1; omega
  all_goals rfl
theorem land3_rng' (rows : List (List Int)) (lv : Int) : (∀ x ∈ land3 rows lv, -1 ≤ x ∧ x ≤ 99) ∧ decide (0 ≤ landOf rows lv) = lvok rows lv := by
 cases hok : lvok rows lv with
 | true =>
  have h := land3_rng hok
  refine ⟨fun x hx => by have := h x hx; omega, decide_eq_true (h _ (by simp [land3])).1⟩
 | false =>
  have e1 : landOf rows lv = -1 := by simp [landOf, hok]
  have e2 : regionsOf rows lv = -1 := by simp [regionsOf, hok]
  have e3 : lakesOf rows lv = -1 := by simp [lakesOf, hok]
  refine ⟨fun x hx => ?_, by rw [e1]; rfl⟩
  simp only [land3, e1, e2, e3, List.mem_cons, List.not_mem_nil, or_false] at hx
  omega
set_option maxHeartbeats 1000000 in
theorem l10Ask_c (k : Dk) (hk : k.Good) (word : List UInt8) (ws : List (List UInt8)) (sv : Value) (b cp : Nat) (w : World) (hs : StAt w sv k) (ho : OwnS w 9 1 (some ⟨b, 0, none⟩) (ws.length + 1) cp (vst (word :: ws)))
  (hl : ws.length ≤ 100000) (hw : ∀ t ∈ ws, t.length ≤ 100000) (hno : ∀ i, ordX word = some i → cntX i = ws.length → 5 ≤ i ∧ i ≠ 10) :
  Ret Tryz.prog 71 #[sv, .slice (some ⟨b, 0, none⟩) (ws.length + 1) cp] w fun u w' => u = .string (bs (askF k word ws)) ∧ Ext w w' := by
 obtain ⟨a, A, Cp, gc, la, lc, rfl, r, l, hlc⟩ := hs
 have v := hk.1
 refine enter2 Tryz.func71 rfl fun f a0 a1 => ?_
 simp only [go_sem, a0]
 refine boxK_of fun w1 bx e1 x1 kx _ => ?_
 have kx : Blk w1 bx #[.slice a k.rows.length gc, .slice la k.labs.length lc] 64 := by simpa [Value.cells] using kx
 simp (disch := omega) only [go_sem, a1]
 refine callK_of ke (l10Numbers_c b (ws.length + 1) cp word ws _ (ho.ext x1) rfl hl hw) ?_
 rintro _ w2 ⟨nb, nc, rfl, x2, hnb, on⟩
 have x12 := x1.trans x2
 have kx2 := kx.ext x2
 have hwc : ∀ {W : World}, Ext w2 W → W.cell? ⟨b, 0, none⟩ = some (.string (bs word)) := fun x => by
  rw [(((ho.ext x1).ext x2).ext x).cell om, vst_get _ _ sm]; rfl
 have ni' := on.ints
 by_cases hz : ws.length = 0
 ·have hws : ws = [] := List.eq_nil_of_length_eq_zero hz
  have hze : ((ws.length : Int) == 0) = true := by rw [hz]; rfl
  have hone : askF k word ws = oneF k word := by
   rw [hws]
   exact ask_one fun i h1 h2 => hno i h1 (by rw [h2, hz])
  rw [hone]
  simp (disch := omega) only [go_sem, hze]
  have hst : ∀ {V}, Ext w2 V → StAt V (.agg #[.slice a k.rows.length gc, .slice la k.labs.length lc]) k := fun x => ⟨a, A, Cp, gc, la, lc, rfl, (r.ext x12).ext x, (l.ext x12).ext x, hlc⟩
  have e0 : (0 : Int) < ((ws.length + 1 : Nat) : Int) := om
  refine QR_sch none (.st 0 (.st 1 (.st 2 (.st 3 (.ef 4 (.st 5 (.done))))))) ke ke fun w0 x0 => ?_
  have X := x12.trans x0
  simp (disch := omega) only [go_sem, a1, e0, readCells_blk (kx2.ext x0) (n := 2) sm, hwc x0, Int.reduceToNat, ldS_none]
  refine callK_of ke (l10One_c k hk word _ _ (hst x0)) ?_
  rintro _ w3 ⟨rfl, y1⟩
  refine nxE_of (y1.grow _) ?_
  have X := X.trans y1
  simp (disch := omega) only [go_sem, Tryz.results71]
  exact ⟨by first | rfl | trivial, X⟩
 have hze : ((ws.length : Int) == 0) = false := by rw [beq_eq_false_iff_ne]; omega
 have e0 : (0 : Int) < ((ws.length + 1 : Nat) : Int) := om
 have ex2 : Ext w2 w2 := Ext.refl _
 have hw0 := hwc ex2
 -- run
 by_cases h6 : word = [114, 117, 110]
 ·subst h6
  have hx : ordX [114, 117, 110] = some 6 := rfl
  by_cases hc : ws.length = 2
  ·match ws, hc with
   | [t0, t1], _ =>
    rw [ask_some hx rfl]
    have n0 : ∀ {W : World}, Ext w2 W → W.cell? ⟨nb, 0, none⟩ = some (.int .i64 (numV t0 : Nat)) := fun x => by simpa using (ni'.ext x).cell nb 0 rfl 0 sm
    have n1 : ∀ {W : World}, Ext w2 W → W.cell? ⟨nb, 1, none⟩ = some (.int .i64 (numV t1 : Nat)) := fun x => by simpa using (ni'.ext x).cell nb 0 rfl 1 sm
    have hl2 : (((([t0, t1] : List (List UInt8)).length : Nat) : Int) == 2) = true := rfl
    have q0 : (0 : Int) < (([t0, t1] : List (List UInt8)).length : Nat) := by simp
    have q1 : (1 : Int) < (([t0, t1] : List (List UInt8)).length : Nat) := by simp
    obtain ⟨hr1, hr2⟩ := run_rng (rows := k.rows) (numV t0) (numV t1)
    have hsp := spI_eq fun x hx => (hr2 x hx).1
    have hfin : (doF 6 (([t0, t1] : List (List UInt8)).map numV) k).2 = if cellok k.rows (numV t0 : Nat) (numV t1 : Nat) then spI (ni (runOf k.rows (numV t0 : Nat) (numV t1 : Nat))) ++ [10] else noT := by rw [hsp]; rfl
    rw [hfin]
    simp (disch := omega) only [go_sem, hze, a1, e0, Int.reduceToNat, hw0, beq_self_eq_true, hl2]
    refine QR_sch none (.st 0 (.st 1 (.st 2 (.st 3 (.st 4 (.st 5 (.st 6 (.st 7 (.ef 8 (.st 9 (.st 10 (.ef 11 (.st 12 (.done)))))))))))))) ke ke fun w0 x0 => ?_
    have X := x12.trans x0
    simp (disch := omega) only [go_sem, q0, q1, (kx2.ext x0).cell, n0 x0, n1 x0, Int.reduceToNat, ldS_none]
    refine callK_of ke (specWaterRun_c _ _ _ _ _ _ _ _ ((r.ext x12).ext x0)) ?_
    rintro _ w3 ⟨ra, rc, rfl, oo, hra, y1⟩
    refine nxE_of (y1.grow _) ?_
    have X := X.trans y1
    simp (disch := omega) only [go_sem, q0, q1, (kx2.ext x0).cell, n0 x0, n1 x0, Int.reduceToNat, ldS_none]
    refine callK_of ke (l10List_c ra _ rc _ _ oo.ints hr1 (fun x hx => by have := hr2 x hx; omega)) ?_
    rintro _ w3 ⟨rfl, y1⟩
    refine nxE_of (y1.grow _) ?_
    have X := X.trans y1
    simp (disch := omega) only [go_sem, Tryz.results71]
    exact ⟨by first | rfl | trivial, X⟩
  ·have hl2 : ((ws.length : Int) == 2) = false := by rw [beq_eq_false_iff_ne]; omega
   rw [ask_none (k := k) fun i h => by rw [hx] at h; cases h; exact hc]
   have c1 : (([114, 117, 110] : List UInt8) == [108, 97, 110, 100]) = false := rfl
   have c2 : (([114, 117, 110] : List UInt8) == [115, 101, 101, 115]) = false := rfl
   have c3 : (([114, 117, 110] : List UInt8) == [112, 108, 97, 99, 101]) = false := rfl
   simp (disch := omega) only [go_sem, hze, a1, e0, Int.reduceToNat, hw0, beq_self_eq_true, hl2, c1, c2, c3, Tryz.results71]
   exact ⟨by first | rfl | trivial, x12⟩
 have n6 : (word == [114, 117, 110]) = false := by rw [beq_eq_false_iff_ne]; exact h6
 -- land
 by_cases h7 : word = [108, 97, 110, 100]
 ·subst h7
  have hx : ordX [108, 97, 110, 100] = some 7 := rfl
  by_cases hc : ws.length = 1
  ·match ws, hc with
   | [t0], _ =>
    rw [ask_some hx rfl]
    have n0 : ∀ {W : World}, Ext w2 W → W.cell? ⟨nb, 0, none⟩ = some (.int .i64 (numV t0 : Nat)) := fun x => by simpa using (ni'.ext x).cell nb 0 rfl 0 sm
    have hl2 : (((([t0] : List (List UInt8)).length : Nat) : Int) == 1) = true := rfl
    have q0 : (0 : Int) < (([t0] : List (List UInt8)).length : Nat) := by simp
    obtain ⟨hr1, hr2⟩ := land3_rng' k.rows (numV t0 : Nat)
    have hfin : (doF 7 (([t0] : List (List UInt8)).map numV) k).2 = if lvok k.rows (numV t0 : Nat) then spI (land3 k.rows (numV t0 : Nat)) ++ [10] else noT := by
     cases hok : lvok k.rows (numV t0 : Nat) with
     | false => simp [doF, saidF, hok]
     | true =>
      have hsp := spI_eq fun x hx => (land3_rng hok x hx).1
      rw [hsp]
      simp only [doF, saidF, List.map_cons, List.map_nil, List.getD_cons_zero, hok, if_true]
      rfl
    rw [hfin]
    simp (disch := omega) only [go_sem, hze, a1, e0, Int.reduceToNat, hw0, n6, beq_self_eq_true, hl2]
    refine QR_sch none (.st 0 (.st 1 (.st 2 (.st 3 (.st 4 (.st 6 (.st 7 (.st 8 (.st 9 (.st 10 (.st 12 (.st 13 (.st 14 (.st 15 (.st 16 (.ef 5 (.ef 11 (.ef 17 (.ef 18 (.st 19 (.done))))))))))))))))))))) ke ke fun w0 x0 => ?_
    have X := x12.trans x0
    simp (disch := omega) only [go_sem, q0, kx2.cell, (kx2.ext x0).cell, n0 x0, Int.reduceToNat, ldS_none]
    refine callK_of ke (specLevelLand_c _ _ _ _ _ _ _ (r.ext X)) ?_
    rintro _ w3 ⟨rfl, y1⟩
    refine nxE_of (y1.grow _) ?_
    have X := X.trans y1
    simp (disch := omega) only [go_sem, q0, kx2.cell, (kx2.ext x0).cell, n0 x0, Int.reduceToNat, ldS_none]
    refine callK_of ke (specLevelRegions_c _ _ _ _ _ _ _ (r.ext X)) ?_
    rintro _ w3 ⟨rfl, y1⟩
    refine nxE_of (y1.grow _) ?_
    have X := X.trans y1
    simp (disch := omega) only [go_sem, q0, kx2.cell, (kx2.ext x0).cell, n0 x0, Int.reduceToNat, ldS_none]
    refine callK_of ke (specLevelLakes_c _ _ _ _ _ _ _ (r.ext X)) ?_
    rintro _ w3 ⟨rfl, y1⟩
    refine nxE_of (y1.grow _) ?_
    have X := X.trans y1
    simp (disch := omega) only [go_sem, q0, kx2.cell, (kx2.ext x0).cell, n0 x0, Int.reduceToNat, ldS_none]
    refine bslK_n (vi (land3 k.rows (numV t0 : Nat))) elt_i (by simp [vi, land3, Value.cells]) rfl om om rfl fun w4 bz ez y1 kz _ => ?_
    refine nxE_of (y1.grow _) ?_
    have X := X.trans y1
    skip
    have kzi := blk_ints kz
    have c0 : w4.cell? ⟨bz, 0, none⟩ = some (.int .i64 (landOf k.rows (numV t0 : Nat))) := by simpa [land3] using kzi.cell bz 0 rfl 0 (by simp [land3])
    simp (disch := omega) only [go_sem, c0, Int.reduceToNat, hr2]
    refine callK_pure ke (l10List_c _ (land3 k.rows (numV t0 : Nat)) 3 (lvok k.rows (numV t0 : Nat)) _ kzi (by simp [land3]) hr1) fun w5 x5 => ?_
    simp (disch := omega) only [go_sem, Tryz.results71]
    exact ⟨by first | rfl | trivial, X.trans x5⟩
  ·have hl2 : ((ws.length : Int) == 1) = false := by rw [beq_eq_false_iff_ne]; omega
   rw [ask_none (k := k) fun i h => by rw [hx] at h; cases h; exact hc]
   have c2 : (([108, 97, 110, 100] : List UInt8) == [115, 101, 101, 115]) = false := rfl
   have c3 : (([108, 97, 110, 100] : List UInt8) == [112, 108, 97, 99, 101]) = false := rfl
   simp (disch := omega) only [go_sem, hze, a1, e0, Int.reduceToNat, hw0, n6, beq_self_eq_true, hl2, c2, c3, Tryz.results71]
   exact ⟨by first | rfl | trivial, x12⟩
 have n7 : (word == [108, 97, 110, 100]) = false := by rw [beq_eq_false_iff_ne]; exact h7
 -- sees
 by_cases h9 : word = [115, 101, 101, 115]
 ·subst h9
  have hx : ordX [115, 101, 101, 115] = some 9 := rfl
  by_cases hc : ws.length = 3
  ·match ws, hc with
   | [t0, t1, t2], _ =>
    rw [ask_some hx rfl]
    have hl2 : (((([t0, t1, t2] : List (List UInt8)).length : Nat) : Int) == 3) = true := rfl
    have hfin : (doF 9 (([t0, t1, t2] : List (List UInt8)).map numV) k).2 = if decide (numV t0 < k.rows.length ∧ numV t1 < rowLen k.rows ∧ numV t2 < rowLen k.rows) then (if SeesP (k.rows.getD (numV t0) []) (numV t1) (numV t2) then [121, 101, 115, 10] else [104, 105, 100, 100, 101, 110, 10]) else noT := rfl
    rw [hfin]
    have hcall := l10Sees_c a k.rows A Cp gc nb nc (numV t0) (numV t1) (numV t2) w2 (r.ext x12) v ni'
    simp (disch := omega) only [go_sem, hze, a1, e0, Int.reduceToNat, hw0, n6, n7, beq_self_eq_true, hl2, kx2.cell]
    refine callK_pure ke (hcall) fun w3 x3 => ?_
    simp (disch := omega) only [go_sem, Tryz.results71]
    exact ⟨by first | rfl | trivial, x12.trans x3⟩
  ·have hl2 : ((ws.length : Int) == 3) = false := by rw [beq_eq_false_iff_ne]; omega
   rw [ask_none (k := k) fun i h => by rw [hx] at h; cases h; exact hc]
   have c3 : (([115, 101, 101, 115] : List UInt8) == [112, 108, 97, 99, 101]) = false := rfl
   simp (disch := omega) only [go_sem, hze, a1, e0, Int.reduceToNat, hw0, n6, n7, beq_self_eq_true, hl2, c3, Tryz.results71]
   exact ⟨by first | rfl | trivial, x12⟩
 have n9 : (word == [115, 101, 101, 115]) = false := by rw [beq_eq_false_iff_ne]; exact h9
 -- place
 by_cases h12 : word = [112, 108, 97, 99, 101]
 ·subst h12
  have hx : ordX [112, 108, 97, 99, 101] = some 12 := rfl
  by_cases hc : ws.length = 2
  ·match ws, hc with
   | [t0, t1], _ =>
    rw [ask_some hx rfl]
    have n0 : ∀ {W : World}, Ext w2 W → W.cell? ⟨nb, 0, none⟩ = some (.int .i64 (numV t0 : Nat)) := fun x => by simpa using (ni'.ext x).cell nb 0 rfl 0 sm
    have n1 : ∀ {W : World}, Ext w2 W → W.cell? ⟨nb, 1, none⟩ = some (.int .i64 (numV t1 : Nat)) := fun x => by simpa using (ni'.ext x).cell nb 0 rfl 1 sm
    have hl2 : (((([t0, t1] : List (List UInt8)).length : Nat) : Int) == 2) = true := rfl
    have q0 : (0 : Int) < (([t0, t1] : List (List UInt8)).length : Nat) := by simp
    have q1 : (1 : Int) < (([t0, t1] : List (List UInt8)).length : Nat) := by simp
    have hfin : (doF 12 (([t0, t1] : List (List UInt8)).map numV) k).2 = if plc (numV t0 : Nat) (numV t1 : Nat) then placeName (numV t0 : Nat) (numV t1 : Nat) ++ [10] else noT := rfl
    have hlen : (placeName (numV t0 : Nat) (numV t1 : Nat)).length ≤ 100 := by
     unfold placeName
     split
     ·rename_i h
      have := plc_iff.1 h
      exact fname_len' om om
     ·simp
    rw [hfin]
    simp (disch := omega) only [go_sem, hze, a1, e0, Int.reduceToNat, hw0, n6, n7, n9, beq_self_eq_true, hl2]
    refine QR_sch none (.st 0 (.st 1 (.st 2 (.st 3 (.st 4 (.st 5 (.ef 6 (.st 7 (.st 8 (.ef 9 (.st 10 (.done)))))))))))) ke ke fun w0 x0 => ?_
    have X := x12.trans x0
    simp (disch := omega) only [go_sem, q0, q1, n0 x0, n1 x0, Int.reduceToNat, ldS_none]
    refine callK_of ke (specPlaceName_c _ _ _) ?_
    rintro _ w3 ⟨rfl, y1⟩
    refine nxE_of (y1.grow _) ?_
    have X := X.trans y1
    simp (disch := omega) only [go_sem, q0, q1, n0 x0, n1 x0, Int.reduceToNat, ldS_none]
    refine callK_of ke (l10Said_c _ _ _ om) ?_
    rintro _ w3 ⟨rfl, y1⟩
    refine nxE_of (y1.grow _) ?_
    have X := X.trans y1
    simp (disch := omega) only [go_sem, Tryz.results71]
    exact ⟨by first | rfl | trivial, X⟩
  ·have hl2 : ((ws.length : Int) == 2) = false := by rw [beq_eq_false_iff_ne]; omega
   rw [ask_none (k := k) fun i h => by rw [hx] at h; cases h; exact hc]
   simp (disch := omega) only [go_sem, hze, a1, e0, Int.reduceToNat, hw0, n6, n7, n9, beq_self_eq_true, hl2, Tryz.results71]
   exact ⟨by first | rfl | trivial, x12⟩
 have n12 : (word == [112, 108, 97, 99, 101]) = false := by rw [beq_eq_false_iff_ne]; exact h12
 rw [ask_none (k := k) fun i h hc => by
  have hi := ordX_lt h
  have hwd := ordX_word h
  obtain ⟨g1, g2⟩ := hno i h hc.symm
  have h8 : i = 5 ∨ i = 6 ∨ i = 7 ∨ i = 8 ∨ i = 9 ∨ i = 11 ∨ i = 12 := om
  rcases h8 with rfl | rfl | rfl | rfl | rfl | rfl | rfl
  ·exact hz hc
  ·exact h6 hwd
  ·exact h7 hwd
  ·exact hz hc
  ·exact h9 hwd
  ·exact hz hc
  ·exact h12 hwd]
 simp (disch := omega) only [go_sem, hze, a1, e0, Int.reduceToNat, hw0, n6, n7, n9, n12, Tryz.results71]
 exact ⟨by first | rfl | trivial, x12⟩
end Go.Proofs.YtcbmhjndbpafbaaGreatDoor
