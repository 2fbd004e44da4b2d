import Derived.Test.YtcbmhjndbpafbaaGreatDoorY1
set_option linter.all false
set_option maxRecDepth 20000
namespace Go.Proofs.YtcbmhjndbpafbaaGreatDoor
open Go.RowKit Go.SW
def DeskG (w : World) (D d : Nat) (rows : List (List Int)) : Prop := ∃ a A Cp gc y, Blk w d #[.slice a rows.length gc, y] D ∧ RowsAt w a rows A Cp
theorem deskG {w : World} {D d : Nat} {k : Dk} {X : Nat → Prop} (h : DeskL w D d k X) : DeskG w D d k.rows := by
 obtain ⟨a, A, Cp, gc, la, lc, kd, r, _⟩ := h.ex
 exact ⟨a, A, Cp, gc, _, kd, r⟩
theorem deskRunG_c (d nb r c : Nat) (rows : List (List Int)) (w : World) (hd : DeskG w 51 d rows) (kn : Blk w nb (vi [(r : Int), (c : Int)]).toArray 3) (hcells : (ni (runOf rows r c)).length ≤ 1000) (hr : ∀ x ∈ ni (runOf rows r c), 0 ≤ x ∧ x ≤ 99) :
  Ret Tryz.prog 125 #[.pointer (some ⟨d, 0, none⟩), .slice (some ⟨nb, 0, none⟩) 2 2] w fun v w' => v = .tuple #[.string (bs (sp (ni (runOf rows r c)) ++ [10])), .bool (cellok rows r c)] ∧ Ext w w' := by
 obtain ⟨a, A, Cp, gc, y, k, rr⟩ := hd
 have n0 : ∀ {W : World}, Ext w W → W.cell? ⟨nb, 0, none⟩ = some (.int .i64 r) := fun x => vi_cell (kn.ext x) (i := 0) sm
 have n1 : ∀ {W : World}, Ext w W → W.cell? ⟨nb, 1, none⟩ = some (.int .i64 c) := fun x => vi_cell (kn.ext x) (i := 1) sm
 refine enter2 Tryz.func125 rfl fun f a0 a1 => ?_
 have ex : Ext w w := Ext.refl _
 simp (disch := omega) only [go_sem]
 refine QR_sch none (.st 0 (.st 1 (.st 2 (.st 3 (.st 4 (.st 5 (.st 6 (.st 7 (.st 8 (.st 9 (.ef 10 (.st 11 (.st 12 (.st 13 (.st 14 (.st 15 (.done))))))))))))))))) ke ke fun w0 x0 => ?_
 have X := ex.trans x0
 have k := k.ext x0
 simp (disch := omega) only [go_sem, a0, a1, k.cell, n0 x0, n1 x0, Int.reduceToNat, ldS_none]
 refine callK_of ke (waterRun_c _ _ _ _ _ _ _ _ (rr.ext X)) ?_
 rintro _ w1 ⟨ra, rc, rfl, oo, hra, y1⟩
 refine nxE_of (y1.grow _) ?_
 have X := X.trans y1
 have k := k.ext y1
 skip
 simp (disch := omega) only [go_sem]
 refine callK_pure ke (implSpaced_c ra _ rc _ oo.ints hcells hr) fun w2 x2 => ?_
 simp (disch := omega) only [go_sem, Tryz.results125]
 exact ⟨trivial, X.trans x2⟩
theorem deskLandG_c (d nb lv : Nat) (rows : List (List Int)) (w : World) (hd : DeskG w 51 d rows) (kn : Blk w nb (vi [(lv : Int)]).toArray 3) (hok : lvok rows lv = true) :
  Ret Tryz.prog 126 #[.pointer (some ⟨d, 0, none⟩), .slice (some ⟨nb, 0, none⟩) 1 1] w fun v w' => v = .tuple #[.string (bs (sp (land3 rows lv) ++ [10])), .bool true] ∧ Ext w w' := by
 obtain ⟨a, A, Cp, gc, y, k, rr⟩ := hd
 have n0 : ∀ {W : World}, Ext w W → W.cell? ⟨nb, 0, none⟩ = some (.int .i64 lv) := fun x => vi_cell (kn.ext x) (i := 0) sm
 have hrg := land3_rng hok
 have hl0 : landOf rows lv ≠ -1 := by
  have := hrg (landOf rows lv) (by simp [land3])
  omega
 have hne : (landOf rows lv == -1) = false := beq_eq_false_iff_ne.2 hl0
 refine enter2 Tryz.func126 rfl fun f a0 a1 => ?_
 have ex : Ext w w := Ext.refl _
 simp (disch := omega) only [go_sem]
 refine QR_sch none (.st 0 (.st 1 (.st 2 (.st 3 (.st 4 (.st 5 (.st 6 (.ef 7 (.st 8 (.done)))))))))) ke ke fun w0 x0 => ?_
 have X := ex.trans x0
 have k := k.ext x0
 simp (disch := omega) only [go_sem, a0, a1, k.cell, n0 x0, Int.reduceToNat, ldS_none]
 refine callK_of ke (implLevelLand_c _ _ _ _ _ _ _ (rr.ext X)) ?_
 rintro _ w1 ⟨rfl, y1⟩
 refine nxE_of (y1.grow _) ?_
 have X := X.trans y1
 have k := k.ext y1
 skip
 simp (disch := omega) only [go_sem, hne]
 have X0 := X
 refine QR_sch none (.st 0 (.st 1 (.st 2 (.st 3 (.st 4 (.st 5 (.st 6 (.st 7 (.st 9 (.st 10 (.st 11 (.st 12 (.st 13 (.st 14 (.st 15 (.ef 8 (.ef 16 (.ef 17 (.ef 18 (.st 19 (.st 20 (.done)))))))))))))))))))))) ke ke fun w0 x0 => ?_
 have X := X0.trans x0
 have k := k.ext x0
 simp (disch := omega) only [go_sem, a0, a1, k.cell, n0 X, Int.reduceToNat, ldS_none]
 refine callK_of ke (implLevelRegions_c _ _ _ _ _ _ _ (rr.ext X)) ?_
 rintro _ w1 ⟨rfl, y1⟩
 refine nxE_of (y1.grow _) ?_
 have X := X.trans y1
 have k := k.ext y1
 simp (disch := omega) only [go_sem, a0, a1, k.cell, n0 X, Int.reduceToNat, ldS_none]
 refine callK_of ke (implLevelLakes_c _ _ _ _ _ _ _ (rr.ext X)) ?_
 rintro _ w1 ⟨rfl, y1⟩
 refine nxE_of (y1.grow _) ?_
 have X := X.trans y1
 have k := k.ext y1
 simp (disch := omega) only [go_sem, a0, a1, k.cell, n0 X, Int.reduceToNat, ldS_none]
 refine bslK_n (vi (land3 rows lv)) elt_i (by simp [vi, land3, Value.cells]) rfl om om rfl fun w1 bz ez y1 kz _ => ?_
 refine nxE_of (y1.grow _) ?_
 have X := X.trans y1
 have k := k.ext y1
 simp (disch := omega) only [go_sem, a0, a1, k.cell, n0 X, Int.reduceToNat, ldS_none]
 refine callK_of ke (implSpaced_c _ (land3 rows lv) 3 _ (blk_ints kz) (by simp [land3]) hrg) ?_
 rintro _ w1 ⟨rfl, y1⟩
 refine nxE_of (y1.grow _) ?_
 have X := X.trans y1
 have k := k.ext y1
 have kz := kz.ext y1
 simp (disch := omega) only [go_sem, Tryz.results126]
 exact ⟨trivial, X⟩
theorem deskPeaksG_c (d nb : Nat) (rows : List (List Int)) (w : World) (hd : DeskG w 51 d rows) :
  Ret Tryz.prog 127 #[.pointer (some ⟨d, 0, none⟩), .slice (some ⟨nb, 0, none⟩) 0 0] w fun v w' => v = .tuple #[.string (bs (jn 32 (pkW rows) ++ [10])), .bool true] ∧ Ext w w' := by
 obtain ⟨a, A, Cp, gc, y, k, rr⟩ := hd
 have hPl : (pkW rows).length = (peakListOf rows).length := by simp [pkW]
 have hP49 : (peakListOf rows).length ≤ 49 := peakListOf_len rows
 have hWl := pkW_len rows
 have hjl := jn_len (c := 32) hWl
 refine enter2 Tryz.func127 rfl fun f a0 a1 => ?_
 simp (disch := omega) only [go_sem]
 refine bslK_0 elt_s fun w1 b1 e1 x1 o1 s1 => ?_
 have k1 := k.ext x1
 simp (disch := omega) only [go_sem, a0, k1.cell]
 refine callK_of ke (peakList_c _ _ _ _ _ _ (rr.ext x1)) ?_
 rintro _ w2 ⟨pa, pc, rfl, po, hpa, x2⟩
 rw [ni_len] at po ⊢
 simp (disch := omega) only [go_sem]
 have hd0 := k.lt
 refine loopN (peakListOf rows).length (fun i f W => f 0 = .pointer (some ⟨d, 0, none⟩) ∧ f 14 = .slice pa (peakListOf rows).length pc ∧ f 15 = .int .i64 (peakListOf rows).length ∧ f 16 = .int .i64 i ∧ Ext w W ∧ OwnS W 3 1 pa (peakListOf rows).length pc (vi (ni (peakListOf rows))) ∧ ∃ ob oc, f 6 = .slice (some ⟨ob, 0, none⟩) i oc ∧ OwnS W 9 1 (some ⟨ob, 0, none⟩) i oc (vst ((pkW rows).take i)) ∧ w.heap.size ≤ ob ∧ blk pa ≠ some ob)
  ⟨uu, uu, uu, uu, x1.trans x2, po, b1, 0, by simp [upd_apply], by simpa [vst] using o1.ext x2, om, fun e => by have := hpa b1 e; omega⟩ fun i f W hi ⟨a0, a14, a15, a16, xw, po, ob, oc, a6, oo, hob, hpo⟩ => ?_
 by_cases hlt : (i : Int) < ((peakListOf rows).length : Int)
 ·have hiP : i < (peakListOf rows).length := om
  have hmem : (peakListOf rows).getD i 0 ∈ peakListOf rows := getD_mem hiP
  obtain ⟨hr1, hr2, hr3⟩ := prom_rng hmem
  have hpm : promOf rows ((peakListOf rows).getD i 0 : Nat) = (((promOf rows ((peakListOf rows).getD i 0 : Nat)).toNat : Nat) : Int) := om
  obtain ⟨pb, rfl⟩ := po.some om
  have hcl := ni_cell po rfl hiP
  have hpw : (pkW rows).getD i [] = dec ((peakListOf rows).getD i 0) ++ 58 :: dec (promOf rows ((peakListOf rows).getD i 0 : Nat)).toNat := by
   simp [pkW, hiP, pkw, getD_at]
  have hsn : vst ((pkW rows).take (i + 1)) = vst ((pkW rows).take i) ++ [.string (bs ((pkW rows).getD i []))] := by
   rw [take_snoc [] om, ← vst_snoc]
  rw [hpw] at hsn
  generalize hp : (peakListOf rows).getD i 0 = p at *
  generalize hq : (promOf rows (p : Nat)).toNat = q at *
  have d1 := dec_len2 (n := p) om
  have d2 := dec_len2 (n := q) om
  have e1 : binV Tryz.prog .add 9 (.string (bs (dec p))) (.string (bs [58])) = some (.string (bs (dec p ++ [58]))) := bin_adds _ _ sq
  have e2 : binV Tryz.prog .add 9 (.string (bs (dec p ++ [58]))) (.string (bs (dec q))) = some (.string (bs (dec p ++ [58] ++ dec q))) := bin_adds _ _ sq
  have e3 : dec p ++ [58] ++ dec q = dec p ++ 58 :: dec q := by simp
  simp (disch := omega) only [go_sem, a14, a15, a16, hlt, hcl]
  refine QR_sch (some ob) (.st 0 (.st 1 (.st 4 (.st 5 (.st 6 (.st 7 (.st 8 (.ef 2 (.st 3 (.ef 9 (.ef 10 (.st 11 (.ef 12 (.ef 13 (.st 14 (.done)))))))))))))))) ke ke fun w3 x3 => ?_
  have hod : ob ≠ d := om
  have k3 := k.ext (xw.trans x3)
  simp (disch := omega) only [go_sem, a0, a6, k3.cell, hod]
  refine callK_of ke (itoa_c p om _) ?_
  rintro _ w4 ⟨rfl, x4⟩
  refine nxE_of (x4.grow _) ?_
  have k4 := k3.ext x4
  simp (disch := omega) only [go_sem, a0, a6, k4.cell, e1]
  refine callK_of ke (implPeakProminence_c _ _ _ _ _ _ _ (rr.ext ((xw.trans x3).trans x4))) ?_
  rintro _ w5 ⟨rfl, x5⟩
  refine nxE_of (x5.grow _) ?_
  rw [hpm]
  simp (disch := omega) only [go_sem, a0, a6, e1]
  refine callK_of ke (itoa_c q om _) ?_
  rintro _ w6 ⟨rfl, x6⟩
  refine nxE_of (x6.grow _) ?_
  simp (disch := omega) only [go_sem, a0, a6, e2]
  refine bslK_1 elt_s rfl fun w7 b7 e7 x7 k7 _ => ?_
  refine nxE_of (x7.grow _) ?_
  have x37 := (((x3.trans x4).trans x5).trans x6).trans x7
  simp (disch := omega) only [go_sem, a0, a6]
  refine appK_1 elt_s (oo.ext x37) k7 rfl om (.inr ⟨om, by decide⟩) fun w8 a8 c8 o8 g8 h8 => nxE_of g8 ?_
  rw [e3, ← hsn] at o8
  obtain ⟨b8, rfl⟩ := o8.some om
  have hne : ∀ b, blk (some (⟨pb, 0, none⟩ : Addr)) = some b → blk (some (⟨ob, 0, none⟩ : Addr)) ≠ some b := fun b hb e => hpo (hb.trans e.symm)
  have hpl := po.blk_lt (b := pb) rfl
  have hs := x37.size
  have hsw := xw.size
  simp (disch := omega) only [go_sem, a16]
  have h8' := h8 b8 rfl
  refine ⟨hiP, uu, uu, uu, by simp [upd_apply], g8.ext (xw.trans x37) fun b hb => by simp only [blk_some, Option.some.injEq] at hb; omega, (po.ext x37).grow g8 hne, b8, c8, by simp [upd_apply], o8, ?_, ?_⟩
  ·rcases h8' with h | h
   ·simp only [blk_some, Option.some.injEq] at h; omega
   ·omega
  ·intro e
   rcases h8' with h | h
   ·exact hpo (e.trans h.symm)
   ·simp only [blk_some, Option.some.injEq] at e; omega
 ·obtain rfl : i = (peakListOf rows).length := om
  rw [← hPl, List.take_length] at oo
  simp (disch := omega) only [go_sem, a14, a15, a16, hlt, a6]
  refine callK_of ke (sjoin2_c ob _ oc (pkW rows) 32 W (fun j hj => by rw [oo.cell om]; simp [vst, hj, getD_at]) (oo.blk_lt rfl) hPl.symm (by rw [← hPl]; exact oo.le_cap) om (fun l hl => by have := hWl l hl; omega)) ?_
  rintro _ w9 ⟨rfl, x9⟩
  have e1 : binV Tryz.prog .add 9 (.string (bs (jn 32 (pkW rows)))) (.string (bs [10])) = some (.string (bs (jn 32 (pkW rows) ++ [10]))) := bin_adds _ _ sq
  simp (disch := omega) only [go_sem, e1, Tryz.results127]
  exact ⟨trivial, xw.trans x9⟩
theorem deskShowG_c (d nb : Nat) (rows : List (List Int)) (w : World) (hd : DeskG w 51 d rows) (hgv : gvalid rows = true) :
  Ret Tryz.prog 124 #[.pointer (some ⟨d, 0, none⟩), .slice (some ⟨nb, 0, none⟩) 0 0] w fun v w' => v = .tuple #[.string (bs (gtext rows ++ [10])), .bool true] ∧ Ext w w' := by
 obtain ⟨a, A, Cp, gc, y, k, rr⟩ := hd
 have v := (gvalid_iff rows).1 hgv
 have hR7 := v.r7
 have hC7 := v.c7
 have hgl := v.gt_len
 have e1 : binV Tryz.prog .add 9 (.string (bs (gtext rows))) (.string (bs [10])) = some (.string (bs (gtext rows ++ [10]))) := bin_adds _ _ sq
 refine enter2 Tryz.func124 rfl fun f a0 a1 => ?_
 simp (disch := omega) only [go_sem, a0, k.cell]
 refine callK_pure ke (implGridText_c _ _ _ _ _ _ rr hgv) fun w2 x2 => ?_
 simp (disch := omega) only [go_sem, e1, Tryz.results124]
 exact ⟨trivial, x2⟩
theorem becomeL_c (d b : Nat) (k : Dk) (rows' : List (List Int)) (A' : Nat → Option Addr) (X : Nat → Prop) (w W : World) (hd : DeskL w 51 d k X) (hX : ∀ x, X x → x < w.heap.size) (e : Ext w W) (v : Valid rows') (or : OwnRows W 35 3 w.heap.size b rows' A') (n : Nat) (hn : n = rows'.length) :
  Ret Tryz.prog 92 #[.pointer (some ⟨d, 0, none⟩), .slice (some ⟨b, 0, none⟩) n n, .bool true] W fun v w' => v = .tuple #[.string (bs okT), .bool true] ∧ Grow (some d) W w' ∧ DeskL w' 51 d ⟨rows', k.labs⟩ X := by
 subst hn
 obtain ⟨a, A, Cp, gc, la, lc, kd, r, ll, hlc, h1, h2, h3⟩ := hd.ex
 refine Ret.mono (become_c d _ _ _ _ _ W (kd.ext e)) fun u w' ⟨hu, g, k'⟩ => ⟨hu, g.grow, ?_⟩
 exact DeskL.rows v or g k' hX kd.lt e.size (ll.ext e) hlc h3
def OrdC (i : Nat) (n : List Nat) (k : Dk) : Prop := ∃ ok, ∀ (d nb : Nat) (X : Nat → Prop) (w : World), DeskL w 51 d k X → (∀ x, X x → x < w.heap.size) → Blk w nb (vi (n.map Int.ofNat)).toArray 3 →
  Ret Tryz.prog (ordG i) #[.pointer (some ⟨d, 0, none⟩), .slice (some ⟨nb, 0, none⟩) n.length n.length] w fun v w' => (∃ s, v = .tuple #[.string (bs s), .bool ok] ∧ (doF i n k).2 = if ok then s else noT) ∧ Grow (some d) w w' ∧ DeskL w' 51 d (doF i n k).1 X
theorem nb_ne {w : World} {nb d : Nat} {cs ds : Array Value} (kn : Blk w nb cs 3) (kd : Blk w d ds 51) : nb ≠ d := fun e => by
 subst e
 have := Option.some.inj (kn.symm.trans kd)
 simp only [Obj.cells.injEq] at this
 exact absurd this.2.1 dc
theorem ord0 {k : Dk} (hk : k.Good) (r c h : Nat) : OrdC 0 [r, c, h] k := by
 have v := hk.1
 by_cases hok : cellok k.rows r c = true ∧ h ≤ 99
 ·have hdo : doF 0 [r, c, h] k = (⟨setR k.rows r c h, k.labs⟩, okT) := by simp [doF, hok, becomeF]
  refine ⟨true, fun d nb X w hd hX kn => ?_⟩
  rw [hdo]
  obtain ⟨a, A, Cp, gc, y, kd, rr⟩ := deskG hd
  have n0 : ∀ {W : World}, Ext w W → W.cell? ⟨nb, 0, none⟩ = some (.int .i64 r) := fun x => vi_cell (kn.ext x) (i := 0) sm
  have n1 : ∀ {W : World}, Ext w W → W.cell? ⟨nb, 1, none⟩ = some (.int .i64 c) := fun x => vi_cell (kn.ext x) (i := 1) sm
  have n2 : ∀ {W : World}, Ext w W → W.cell? ⟨nb, 2, none⟩ = some (.int .i64 h) := fun x => vi_cell (kn.ext x) (i := 2) sm
  show Ret Tryz.prog 119 #[.pointer (some ⟨d, 0, none⟩), .slice (some ⟨nb, 0, none⟩) 3 3] w _
  refine enter2 Tryz.func119 rfl fun f a0 a1 => ?_
  have ex : Ext w w := Ext.refl _
  have hne := nb_ne kn kd
  have hnl := kn.lt
  have hld : ∀ (i : Nat) (kk : Value → World → Prop) (W' : World), Go.SWP.ldS Tryz.prog (fun b => b = d ∨ w.heap.size ≤ b) 3 (.pointer (some ⟨nb, i, none⟩)) kk W' = ldK Tryz.prog 3 (.pointer (some ⟨nb, i, none⟩)) kk W' := fun i kk W' => by
   simp only [Go.SWP.ldS]
   exact propext ⟨fun h => h.2, fun h => ⟨by rintro (e | e) <;> omega, h⟩⟩
  simp (disch := omega) only [go_sem]
  refine Go.SWP.QR_sch (fun b => b = d ∨ w.heap.size ≤ b) (.st 0 (.st 1 (.st 2 (.st 3 (.st 5 (.st 6 (.st 7 (.st 8 (.st 9 (.st 10 (.st 11 (.st 12 (.st 13 (.ef 4 (.ef 14 (.st 15 (.st 16 (.ef 17 (.st 18 (.st 19 (.st 20 (.st 21 (.done))))))))))))))))))))))) ke ke fun w0 x0 => ?_
  have sz := x0.size
  have X := ex.trans x0
  have sz := x0.size
  have kd := kd.ext x0
  try simp (disch := first | assumption | omega) only [go_sem, a0, a1, hld, kd.cell, n0 x0, n1 x0, n2 x0, Int.reduceToNat]
  skip
  refine Go.SWP.nxE_of (GrowP.refl _ _) ?_
  try simp (disch := first | assumption | omega) only [go_sem, a0, a1, hld, kd.cell, n0 x0, n1 x0, n2 x0, Int.reduceToNat]
  refine callK_of ke (gridSetAny_c _ _ _ _ _ r c h _ (rr.ext X) v) ?_
  rintro _ w1 (⟨hno, -⟩ | ⟨-, b, A', rfl, or, y1⟩)
  ·exact (hno hok).elim
  have or := (fun (o : OwnRows w1 35 3 _ b (setR k.rows r c h) A') => (⟨o.top, Nat.le_trans X.size o.hb, fun r hr => let ⟨br, h1, h2, h3, oo⟩ := o.row r hr; ⟨br, h1, Nat.le_trans X.size h2, h3, oo⟩, o.inj⟩ : OwnRows w1 35 3 w.heap.size b (setR k.rows r c h) A')) or
  refine Go.SWP.nxE_of (y1.growP _) ?_
  have sz := y1.size
  have X := X.trans y1
  have kd := kd.ext y1
  try simp (disch := first | assumption | omega) only [go_sem, a0, a1, hld, kd.cell, n0 x0, n1 x0, n2 x0, Int.reduceToNat]
  refine callK_of ke (becomeL_c d b k _ A' _ w _ hd hX X (setR_valid v hok.2) or _ (by simp [setR, mkRows_len])) ?_
  rintro _ w2 ⟨rfl, g2, d2⟩
  refine Go.SWP.nxE_of ((g2.growP fun x e => by cases e; exact Or.inl rfl)) ?_
  simp (disch := omega) only [go_sem, Tryz.results119]
  exact ⟨⟨_, rfl, rfl⟩, (X.grow _).trans g2, d2⟩
 ·have hdo : doF 0 [r, c, h] k = (k, noT) := by simp [doF, hok, becomeF]
  refine ⟨false, fun d nb X w hd hX kn => ?_⟩
  rw [hdo]
  obtain ⟨a, A, Cp, gc, y, kd, rr⟩ := deskG hd
  have n0 : ∀ {W : World}, Ext w W → W.cell? ⟨nb, 0, none⟩ = some (.int .i64 r) := fun x => vi_cell (kn.ext x) (i := 0) sm
  have n1 : ∀ {W : World}, Ext w W → W.cell? ⟨nb, 1, none⟩ = some (.int .i64 c) := fun x => vi_cell (kn.ext x) (i := 1) sm
  have n2 : ∀ {W : World}, Ext w W → W.cell? ⟨nb, 2, none⟩ = some (.int .i64 h) := fun x => vi_cell (kn.ext x) (i := 2) sm
  show Ret Tryz.prog 119 #[.pointer (some ⟨d, 0, none⟩), .slice (some ⟨nb, 0, none⟩) 3 3] w _
  refine enter2 Tryz.func119 rfl fun f a0 a1 => ?_
  have ex : Ext w w := Ext.refl _
  simp (disch := omega) only [go_sem]
  refine QR_sch none (.st 0 (.st 1 (.st 2 (.st 3 (.st 4 (.st 5 (.st 6 (.st 7 (.st 8 (.st 9 (.st 10 (.st 11 (.st 12 (.st 13 (.ef 14 (.st 15 (.st 16 (.ef 17 (.st 18 (.st 19 (.st 20 (.st 21 (.done))))))))))))))))))))))) ke ke fun w0 x0 => ?_
  have X := ex.trans x0
  have kd := kd.ext x0
  simp (disch := omega) only [go_sem, a0, a1, kd.cell, n0 x0, n1 x0, n2 x0, Int.reduceToNat, ldS_none]
  refine callK_of ke (gridSetAny_c _ _ _ _ _ r c h _ (rr.ext X) v) ?_
  rintro _ w1 (⟨-, rfl, y1⟩ | ⟨hno, -⟩)
  rotate_left
  ·exact (hok hno).elim
  refine nxE_of (y1.grow _) ?_
  have X := X.trans y1
  have kd := kd.ext y1
  simp (disch := omega) only [go_sem, a0, a1, kd.cell, n0 x0, n1 x0, n2 x0, Int.reduceToNat, ldS_none]
  refine callK_of ke (becomeNo_c d _ _) ?_
  rintro _ w2 ⟨rfl, rfl⟩
  refine nxE_of (Grow.refl _ _) ?_
  simp (disch := omega) only [go_sem, Tryz.results119]
  exact ⟨⟨_, rfl, by first | rfl | trivial⟩, X.grow _, hd.ext X⟩
theorem ord1 {k : Dk} (hk : k.Good) : OrdC 1 [] k := by
 have v := hk.1
 refine ⟨true, fun d nb X w hd hX kn => ?_⟩
 obtain ⟨a, A, Cp, gc, y, kd, rr⟩ := deskG hd
 show Ret Tryz.prog 120 #[.pointer (some ⟨d, 0, none⟩), .slice (some ⟨nb, 0, none⟩) 0 0] w _
 refine enter2 Tryz.func120 rfl fun f a0 a1 => ?_
 simp (disch := omega) only [go_sem, a0, kd.cell]
 refine callK_of ke (gridTurn_c _ _ _ _ _ _ rr ((gvalid_iff _).2 v)) ?_
 rintro _ w1 ⟨b, A', rfl, y1, or⟩
 simp (disch := omega) only [go_sem]
 refine callK_of ke (becomeL_c d b k (turned k.rows) A' X w _ hd hX y1 (turned_valid v) or _ (by simp [turned, mkRows_len])) ?_
 rintro _ w2 ⟨rfl, g2, d2⟩
 simp (disch := omega) only [go_sem, Tryz.results120]
 exact ⟨⟨_, rfl, rfl⟩, (y1.grow _).trans g2, d2⟩
theorem ord2 {k : Dk} (hk : k.Good) : OrdC 2 [] k := by
 have v := hk.1
 refine ⟨true, fun d nb X w hd hX kn => ?_⟩
 obtain ⟨a, A, Cp, gc, y, kd, rr⟩ := deskG hd
 show Ret Tryz.prog 121 #[.pointer (some ⟨d, 0, none⟩), .slice (some ⟨nb, 0, none⟩) 0 0] w _
 refine enter2 Tryz.func121 rfl fun f a0 a1 => ?_
 simp (disch := omega) only [go_sem, a0, kd.cell]
 refine callK_of ke (gridMirror_c _ _ _ _ _ _ rr ((gvalid_iff _).2 v)) ?_
 rintro _ w1 ⟨b, A', rfl, y1, or⟩
 simp (disch := omega) only [go_sem]
 refine callK_of ke (becomeL_c d b k (mirrored k.rows) A' X w _ hd hX y1 (mirrored_valid v) or _ (by simp [mirrored, mkRows_len])) ?_
 rintro _ w2 ⟨rfl, g2, d2⟩
 simp (disch := omega) only [go_sem, Tryz.results121]
 exact ⟨⟨_, rfl, rfl⟩, (y1.grow _).trans g2, d2⟩
theorem ord3 {k : Dk} (hk : k.Good) : OrdC 3 [] k := by
 have v := hk.1
 refine ⟨true, fun d nb X w hd hX kn => ?_⟩
 obtain ⟨a, A, Cp, gc, y, kd, rr⟩ := deskG hd
 show Ret Tryz.prog 122 #[.pointer (some ⟨d, 0, none⟩), .slice (some ⟨nb, 0, none⟩) 0 0] w _
 refine enter2 Tryz.func122 rfl fun f a0 a1 => ?_
 simp (disch := omega) only [go_sem, a0, kd.cell]
 refine callK_of ke (gridInvert_c _ _ _ _ _ _ rr ((gvalid_iff _).2 v)) ?_
 rintro _ w1 ⟨b, A', rfl, y1, or⟩
 simp (disch := omega) only [go_sem]
 refine callK_of ke (becomeL_c d b k (inverted k.rows) A' X w _ hd hX y1 (inverted_valid v) or _ (by simp [inverted, mkRows_len])) ?_
 rintro _ w2 ⟨rfl, g2, d2⟩
 simp (disch := omega) only [go_sem, Tryz.results122]
 exact ⟨⟨_, rfl, rfl⟩, (y1.grow _).trans g2, d2⟩
theorem ord4 {k : Dk} (hk : k.Good) : OrdC 4 [] k := by
 have v := hk.1
 have hgv := (gvalid_iff _).2 v
 refine ⟨true, fun d nb X w hd hX kn => ?_⟩
 obtain ⟨a, A, Cp, gc, y, kd, rr⟩ := deskG hd
 show Ret Tryz.prog 123 #[.pointer (some ⟨d, 0, none⟩), .slice (some ⟨nb, 0, none⟩) 0 0] w _
 refine enter2 Tryz.func123 rfl fun f a0 a1 => ?_
 simp (disch := omega) only [go_sem, a0, kd.cell]
 refine callK_of ke (implWaterFill_c _ _ _ _ _ _ rr) ?_
 rintro _ w1 (⟨-, b, A', rfl, y1, or⟩ | ⟨hv', -⟩)
 rotate_left
 ·rw [hgv] at hv'; cases hv'
 simp (disch := omega) only [go_sem]
 refine callK_of ke (becomeL_c d b k (fillOf k.rows) A' X w _ hd hX y1 (fillOf_valid v) or _ (by simp [fillOf, mkRows_len])) ?_
 rintro _ w2 ⟨rfl, g2, d2⟩
 simp (disch := omega) only [go_sem, Tryz.results123]
 exact ⟨⟨_, rfl, rfl⟩, (y1.grow _).trans g2, d2⟩
theorem ord5 {k : Dk} (hk : k.Good) : OrdC 5 [] k := by
 refine ⟨true, fun d nb X w hd hX kn => ?_⟩
 exact Ret.mono (deskShowG_c d nb k.rows w (deskG hd) ((gvalid_iff _).2 hk.1)) fun v w' ⟨hv, e⟩ => ⟨⟨_, hv, rfl⟩, e.grow _, hd.ext e⟩
theorem run_rng {rows : List (List Int)} (r c : Nat) : (ni (runOf rows r c)).length ≤ 1000 ∧ ∀ x ∈ ni (runOf rows r c), 0 ≤ x ∧ x ≤ 99 := by
 cases hok : cellok rows r c with
 | false =>
  have : runOf rows r c = [] := by rw [runOf, if_neg (by rw [hok]; simp)]
  rw [this]
  exact ⟨by simp [ni], fun x hx => by simp [ni] at hx⟩
 | true =>
  have hv : gvalid rows = true := by simp only [cellok, Bool.and_eq_true] at hok; exact hok.1
  have hrc : 0 ≤ (r : Int) ∧ (r : Int) < rows.length ∧ 0 ≤ (c : Int) ∧ (c : Int) < rowLen rows := by simp only [cellok, Bool.and_eq_true, decide_eq_true_eq] at hok; exact hok.2
  have g := ((gvalid_iff rows).1 hv).gd
  have hi := (row_idx (R := rows.length) (C := rowLen rows) (r := r) (c := c) om om).1
  have hrun : runOf rows r c = waterN rows.length (rowLen rows) (hgt rows) (r * rowLen rows + c) := by rw [runOf, if_pos hok]; simp
  have hn49 := g.le
  refine ⟨?_, fun x hx => ?_⟩
  ·rw [ni_len, hrun]
   have h1 := waterN_len g _ hi
   have h2 := g.hh _ hi
   omega
  ·rw [hrun] at hx
   obtain ⟨j, hj, rfl⟩ := List.mem_map.1 hx
   have := waterN_lt g _ hi j hj
   omega
theorem ord6 {k : Dk} (r c : Nat) : OrdC 6 [r, c] k := by
 refine ⟨cellok k.rows r c, fun d nb X w hd hX kn => ?_⟩
 obtain ⟨h1, h2⟩ := run_rng (rows := k.rows) r c
 exact Ret.mono (deskRunG_c d nb r c k.rows w (deskG hd) kn h1 h2) fun v w' ⟨hv, e⟩ => ⟨⟨_, hv, rfl⟩, e.grow _, hd.ext e⟩
theorem ord7 {k : Dk} (lv : Nat) : OrdC 7 [lv] k := by
 refine ⟨lvok k.rows lv, fun d nb X w hd hX kn => ?_⟩
 cases hok : lvok k.rows lv with
 | true =>
  exact Ret.mono (deskLandG_c d nb lv k.rows w (deskG hd) kn hok) fun v w' ⟨hv, e⟩ => ⟨⟨_, hv, by simp [doF, saidF, hok, land3]⟩, e.grow _, hd.ext e⟩
 | false =>
  obtain ⟨a, A, Cp, gc, y, kd, rr⟩ := deskG hd
  have n0 : ∀ {W : World}, Ext w W → W.cell? ⟨nb, 0, none⟩ = some (.int .i64 lv) := fun x => vi_cell (kn.ext x) (i := 0) sm
  have hne : (landOf k.rows lv == -1) = true := by rw [landOf, if_neg (by rw [hok]; simp)]; rfl
  show Ret Tryz.prog 126 #[.pointer (some ⟨d, 0, none⟩), .slice (some ⟨nb, 0, none⟩) 1 1] w _
  refine enter2 Tryz.func126 rfl fun f a0 a1 => ?_
  have ex : Ext w w := Ext.refl _
  simp (disch := omega) only [go_sem]
  refine QR_sch none (.st 0 (.st 1 (.st 2 (.st 3 (.st 4 (.st 5 (.st 6 (.ef 7 (.st 8 (.done)))))))))) ke ke fun w0 x0 => ?_
  have X := ex.trans x0
  have kd := kd.ext x0
  simp (disch := omega) only [go_sem, a0, a1, kd.cell, n0 x0, Int.reduceToNat, ldS_none]
  refine callK_of ke (implLevelLand_c _ _ _ _ _ _ _ (rr.ext X)) ?_
  rintro _ w1 ⟨rfl, y1⟩
  refine nxE_of (y1.grow _) ?_
  have X := X.trans y1
  have kd := kd.ext y1
  skip
  simp (disch := omega) only [go_sem, hne, Tryz.results126]
  exact ⟨⟨_, rfl, by simp [doF, saidF, hok]⟩, X.grow _, hd.ext X⟩
theorem ord8 {k : Dk} : OrdC 8 [] k := by
 refine ⟨true, fun d nb X w hd hX kn => ?_⟩
 exact Ret.mono (deskPeaksG_c d nb k.rows w (deskG hd)) fun v w' ⟨hv, e⟩ => ⟨⟨_, hv, rfl⟩, e.grow _, hd.ext e⟩
theorem ord9 {k : Dk} (hk : k.Good) (r i j : Nat) : OrdC 9 [r, i, j] k := by
 have v := hk.1
 refine ⟨decide (r < k.rows.length ∧ i < rowLen k.rows ∧ j < rowLen k.rows), fun d nb X w hd hX kn => ?_⟩
 have hdo : doF 9 [r, i, j] k = (k, if decide (r < k.rows.length ∧ i < rowLen k.rows ∧ j < rowLen k.rows) then (if SeesP (k.rows.getD r []) i j then [121, 101, 115, 10] else [104, 105, 100, 100, 101, 110, 10]) else noT) := rfl
 rw [hdo]
 generalize hok : decide (r < k.rows.length ∧ i < rowLen k.rows ∧ j < rowLen k.rows) = ok
 obtain ⟨a, A, Cp, gc, y, kd, rr⟩ := deskG hd
 have n0 : ∀ {W : World}, Ext w W → W.cell? ⟨nb, 0, none⟩ = some (.int .i64 r) := fun x => vi_cell (kn.ext x) (i := 0) sm
 have n1 : ∀ {W : World}, Ext w W → W.cell? ⟨nb, 1, none⟩ = some (.int .i64 i) := fun x => vi_cell (kn.ext x) (i := 1) sm
 have n2 : ∀ {W : World}, Ext w W → W.cell? ⟨nb, 2, none⟩ = some (.int .i64 j) := fun x => vi_cell (kn.ext x) (i := 2) sm
 show Ret Tryz.prog 128 #[.pointer (some ⟨d, 0, none⟩), .slice (some ⟨nb, 0, none⟩) 3 3] w _
 refine enter2 Tryz.func128 rfl fun f a0 a1 => ?_
 have ex : Ext w w := Ext.refl _
 simp (disch := omega) only [go_sem]
 refine QR_sch none (.st 0 (.st 1 (.st 2 (.st 3 (.st 4 (.st 5 (.st 6 (.ef 7 (.st 8 (.st 9 (.st 10 (.st 11 (.st 12 (.done)))))))))))))) ke ke fun w0 x0 => ?_
 have X := ex.trans x0
 have kd := kd.ext x0
 simp (disch := omega) only [go_sem, a0, a1, kd.cell, n0 x0, Int.reduceToNat, ldS_none]
 refine callK_of ke (implProfileRow_c _ _ _ _ _ r _ (rr.ext X) v) ?_
 rintro _ w1 ⟨y1, hu⟩
 refine nxE_of (y1.grow _) ?_
 have X := X.trans y1
 have kd := kd.ext y1
 skip
 rcases hu with ⟨hr, rfl⟩ | ⟨hr, b, rfl, hp⟩
 ·have hd0 : ok = false := by rw [← hok]; exact decide_eq_false om
  subst hd0
  simp (disch := omega) only [go_sem, Tryz.results128]
  exact ⟨⟨_, rfl, by first | rfl | trivial⟩, X.grow _, hd.ext X⟩
 have hlen := v.len r hr
 have hpr := v.prof hr
 rw [← hlen]
 by_cases hi : (((k.rows.getD r []).length : Nat) : Int) ≤ (i : Int)
 ·have hd0 : ok = false := by rw [← hok]; exact decide_eq_false om
  subst hd0
  simp (disch := omega) only [go_sem, a1, n1 X, hi, Int.reduceToNat, Tryz.results128]
  exact ⟨⟨_, rfl, by first | rfl | trivial⟩, X.grow _, hd.ext X⟩
 by_cases hj : (((k.rows.getD r []).length : Nat) : Int) ≤ (j : Int)
 ·have hd0 : ok = false := by rw [← hok]; exact decide_eq_false om
  subst hd0
  simp (disch := omega) only [go_sem, a1, n1 X, n2 X, hi, hj, Int.reduceToNat, Tryz.results128]
  exact ⟨⟨_, rfl, by first | rfl | trivial⟩, X.grow _, hd.ext X⟩
 have hd1 : ok = true := by rw [← hok]; exact decide_eq_true om
 subst hd1
 simp only [if_true]
 simp (disch := omega) only [go_sem, a1, n1 X, n2 X, hi, hj, Int.reduceToNat]
 have X0 := X
 refine QR_sch none (.st 0 (.st 1 (.st 2 (.st 3 (.st 4 (.st 5 (.st 6 (.ef 7 (.done))))))))) ke ke fun w0 x0 => ?_
 have X := X0.trans x0
 simp (disch := omega) only [go_sem, a1, n1 (X0.trans x0), n2 (X0.trans x0), Int.reduceToNat, ldS_none]
 refine callK_of ke (implProfileSees_c _ (k.rows.getD r []) _ i j _ (hp.ext x0) hpr om om) ?_
 rintro _ w2 ⟨rfl, y2⟩
 refine nxE_of (y2.grow _) ?_
 have X := X.trans y2
 skip
 by_cases hs : SeesP (k.rows.getD r []) i j
 ·have hs' : decide (SeesP (k.rows.getD r []) i j) = true := decide_eq_true hs
  rw [if_pos hs]
  simp (disch := omega) only [go_sem, hs', Tryz.results128]
  exact ⟨⟨_, rfl, by first | rfl | trivial⟩, X.grow _, hd.ext X⟩
 ·have hs' : decide (SeesP (k.rows.getD r []) i j) = false := decide_eq_false hs
  rw [if_neg hs]
  simp (disch := omega) only [go_sem, hs', Tryz.results128]
  exact ⟨⟨_, rfl, by first | rfl | trivial⟩, X.grow _, hd.ext X⟩
end Go.Proofs.YtcbmhjndbpafbaaGreatDoor
namespace Go.SW
open Go Go.RowKit
theorem fname_len' {x y : Nat} (hx : x < 104) (hy : y < 104) : (fname x y).length ≤ 100 := by
 have := (sname_len (x / 4) (y / 4)).2
 simp only [fname, List.length_append, List.length_singleton]
 omega
end Go.SW
namespace Go.Proofs.YtcbmhjndbpafbaaGreatDoor
open Go.RowKit Go.SW
theorem elt_L : elt Tryz.prog 33 = some (41, 4, .agg #[.int .i64 0, .int .i64 0, .int .i64 0, .int .i64 0], 32) := ke
theorem bld_L (a b c d : Int) : buildV Tryz.prog 41 [(0, .int .i64 a), (1, .int .i64 b), (2, .int .i64 c), (3, .int .i64 d)] = some (.agg #[.int .i64 a, .int .i64 b, .int .i64 c, .int .i64 d]) := ke
attribute [go_sem] bld_L
theorem siz_L : (Tryz.prog.info? 33).map (·.size) = some 1 := ke
theorem ord11 {k : Dk} (hk : k.Good) : OrdC 11 [] k := by
 have hv := hk.2
 have hlv := lvalid_iff.2 hv
 refine ⟨true, fun d nb X w hd hX kn => ?_⟩
 obtain ⟨a, A, Cp, gc, la, lc, kd, r, ll, hlc, h1, h2, h3⟩ := hd.ex
 have hf : FitA (ptsL k.labs) 0 k.labs (bestOf k.labs) := pick_fit _ _ _
 show Ret Tryz.prog 130 #[.pointer (some ⟨d, 0, none⟩), .slice (some ⟨nb, 0, none⟩) 0 0] w _
 refine enter2 Tryz.func130 rfl fun f a0 a1 => ?_
 simp (disch := omega) only [go_sem, a0, kd.cell]
 refine callK_of ke (implSettingBest_c la k.labs lc _ ll hlc (fun b hb => (h3 b hb).2.2)) ?_
 rintro _ w1 ⟨x1, sa, sc, rfl, hs⟩
 rw [hlv] at hs ⊢
 simp only [if_true] at hs ⊢
 have kd1 := kd.ext x1
 simp (disch := omega) only [go_sem, a0, kd1.cell]
 refine callK_pure ke (implSettingText_c la k.labs lc sa (bestOf k.labs) sc _ (ll.ext x1) hlc hv hs hf) fun w2 x2 => ?_
 simp (disch := omega) only [go_sem, Tryz.results130]
 exact ⟨⟨_, rfl, rfl⟩, (x1.trans x2).grow _, hd.ext (x1.trans x2)⟩
theorem ord12 {k : Dk} (x y : Nat) : OrdC 12 [x, y] k := by
 refine ⟨plc x y, fun d nb X w hd hX kn => ?_⟩
 have n0 : ∀ {W : World}, Ext w W → W.cell? ⟨nb, 0, none⟩ = some (.int .i64 x) := fun e => vi_cell (kn.ext e) (i := 0) sm
 have n1 : ∀ {W : World}, Ext w W → W.cell? ⟨nb, 1, none⟩ = some (.int .i64 y) := fun e => vi_cell (kn.ext e) (i := 1) sm
 have hlen : (placeName x y).length ≤ 100 := by
  unfold placeName
  split
  ·rename_i h
   have := plc_iff.1 h
   exact fname_len' om om
  ·simp
 have e1 : binV Tryz.prog .add 9 (.string (bs (placeName x y))) (.string (bs [10])) = some (.string (bs (placeName x y ++ [10]))) := bin_adds _ _ sq
 show Ret Tryz.prog 131 #[.pointer (some ⟨d, 0, none⟩), .slice (some ⟨nb, 0, none⟩) 2 2] w _
 refine enter2 Tryz.func131 rfl fun f a0 a1 => ?_
 have ex : Ext w w := Ext.refl _
 simp (disch := omega) only [go_sem]
 refine QR_sch none (.st 0 (.st 1 (.st 2 (.st 3 (.st 4 (.st 5 (.ef 6 (.st 7 (.st 8 (.st 9 (.st 10 (.st 11 (.done))))))))))))) ke ke fun w0 x0 => ?_
 have X := ex.trans x0
 simp (disch := omega) only [go_sem, a1, n0 x0, n1 x0, Int.reduceToNat, ldS_none]
 refine callK_of ke (implPlaceName_c x y _) ?_
 rintro _ w1 ⟨rfl, y1⟩
 refine nxE_of (y1.grow _) ?_
 have X := X.trans y1
 skip
 simp (disch := omega) only [go_sem, e1, Tryz.results131]
 exact ⟨⟨_, rfl, rfl⟩, X.grow _, hd.ext X⟩
set_option maxHeartbeats 400000 in
theorem ord10 {k : Dk} (hk : k.Good) (x y u v : Nat) (hb : x ≤ 9999 ∧ y ≤ 9999 ∧ u ≤ 9999 ∧ v ≤ 9999) : OrdC 10 [x, y, u, v] k := by
 have hs6 := hk.2.1
 have hdo : doF 10 [x, y, u, v] k = if LVal (k.labs ++ [⟨x, y, u, v⟩]) then (⟨k.rows, k.labs ++ [⟨x, y, u, v⟩]⟩, okT) else (k, noT) := rfl
 refine ⟨lvalid (k.labs ++ [⟨x, y, u, v⟩]), fun d nb X w hd hX kn => ?_⟩
 rw [hdo]
 obtain ⟨a, A, Cp, gc, la, lc, kd, rr, ll, hlc, h1, h2, h3⟩ := hd.ex
 have n0 : ∀ {W : World}, Ext w W → W.cell? ⟨nb, 0, none⟩ = some (.int .i64 x) := fun e => vi_cell (kn.ext e) (i := 0) sm
 have n1 : ∀ {W : World}, Ext w W → W.cell? ⟨nb, 1, none⟩ = some (.int .i64 y) := fun e => vi_cell (kn.ext e) (i := 1) sm
 have n2 : ∀ {W : World}, Ext w W → W.cell? ⟨nb, 2, none⟩ = some (.int .i64 u) := fun e => vi_cell (kn.ext e) (i := 2) sm
 have n3 : ∀ {W : World}, Ext w W → W.cell? ⟨nb, 3, none⟩ = some (.int .i64 v) := fun e => vi_cell (kn.ext e) (i := 3) sm
 have hnl := kn.lt
 have hdl := kd.lt
 show Ret Tryz.prog 129 #[.pointer (some ⟨d, 0, none⟩), .slice (some ⟨nb, 0, none⟩) 4 4] w _
 refine enter2 Tryz.func129 rfl fun f a0 a1 => ?_
 simp (disch := omega) only [go_sem, a0, kd.cell]
 refine mksK_of elt_L 0 (k.labs.length + 1) _ _ _ _ rfl om om om (by simp [maxLen]; omega) fun w1 b1 e1 x1 o1 s1 => ?_
 have o1' : OwnS w1 41 4 (some ⟨b1, 0, none⟩) ([] : List Lb).length (k.labs.length + 1) (lcl []) := by simpa [lcl] using o1
 have kd1 := kd.ext x1
 simp (disch := omega) only [go_sem, a0, kd1.cell]
 refine appK_L elt_L om o1' lc (ll.ext x1) sm fun w2 a2 c2 o2 g2 h2' => ?_
 rw [List.nil_append] at o2
 have x2 : Ext w w2 := g2.ext x1 fun b hb => by simp only [blk_some, Option.some.injEq] at hb; omega
 have hb2 : ∀ b, blk a2 = some b → w.heap.size ≤ b := fun b hb => (h2' b hb).elim (fun h => by simp only [blk_some, Option.some.injEq] at h; omega) fun h => by have := x1.size; omega
 have kd2 := kd.ext x2
 simp (disch := omega) only [go_sem]
 refine Go.SWP.QR_sch (fun k => w.heap.size ≤ k) (.st 0 (.st 1 (.st 2 (.st 3 (.st 4 (.st 5 (.st 6 (.st 7 (.st 8 (.st 9 (.st 10 (.st 11 (.st 12 (.st 13 (.ef 14 (.ef 15 (.st 16 (.done)))))))))))))))))) ke ke fun w0 x0 => ?_
 have sz := x0.size
 have X := x2.trans x0
 simp (disch := omega) only [go_sem, a1, n0 X, n1 X, n2 X, n3 X, Int.reduceToNat]
 refine bslK_L (s := ⟨x, y, u, v⟩) elt_L fun w4 b4 e4 y1 o4 s4 => ?_
 refine Go.SWP.nxE_of (y1.growP _) ?_
 have sz := y1.size
 have X := X.trans y1
 simp (disch := omega) only [go_sem, a1, n0 X, n1 X, n2 X, n3 X, Int.reduceToNat]
 refine appK_L (M := [⟨x, y, u, v⟩]) elt_L om (o2.ext (x0.trans y1)) 1 (OwnS.labs (L := [⟨x, y, u, v⟩]) o4 sm) om fun w5 a5 c5 o5 g5 h5 => ?_
 refine Go.SWP.nxE_of ((g5.growP fun b hb => hb2 b hb)) ?_
 skip
 have x5 : Ext w w5 := g5.ext X hb2
 have hL5 : LabS w5 a5 (k.labs ++ [⟨x, y, u, v⟩]) := o5.labs sq
 have hc5 := o5.le_cap
 have s2 := x2.size
 have sX := X.size
 have hb5 : ∀ b, blk a5 = some b → w.heap.size ≤ b ∧ b < w5.heap.size := fun b hb => ⟨(h5 b hb).elim (hb2 b) fun h => om, o5.blk_lt hb⟩
 have hcall := implLabelsValid_c a5 (k.labs ++ [⟨x, y, u, v⟩]) c5 w5 hL5 hc5
 simp (disch := omega) only [go_sem, Array.empty_append, Array.append_empty]
 refine callK_pure ke (hcall) fun w6 x6 => ?_
 have x56 := x5.trans x6
 cases hlv : lvalid (k.labs ++ [⟨x, y, u, v⟩]) with
 | false =>
  have hno : ¬ LVal (k.labs ++ [⟨x, y, u, v⟩]) := fun h => by rw [lvalid_iff.2 h] at hlv; cases hlv
  rw [if_neg hno]
  simp (disch := omega) only [go_sem, Tryz.results129]
  exact ⟨⟨_, rfl, by first | rfl | trivial⟩, x56.grow _, hd.ext x56⟩
 | true =>
  rw [if_pos (lvalid_iff.1 hlv)]
  have kd6 := kd.ext x56
  simp (disch := omega) only [go_sem, a0]
  refine stK_blk siz_L rf rf kd6 sm fun w7 k7 g7 => ?_
  have s6 := x6.size
  have s7 := g7.size
  have s56 := x56.size
  simp (disch := omega) only [go_sem, Tryz.results129]
  refine ⟨⟨_, rfl, by first | rfl | trivial⟩, (x56.grow _).trans g7.grow, a, A, Cp, gc, a5, c5, by simpa using k7, (rr.ext x56).kept (fun b hb _ => g7.other b (h1 b hb).2.1) (fun i hi b hb _ => g7.other b (h2 i hi b hb).2.1), (hL5.ext x6).kept (fun b hb _ => g7.other b (by have := hb5 b hb; omega)), hc5, fun b hb => ?_, fun i hi b hb => ?_, fun b hb => ?_⟩
  ·obtain ⟨p, q, z⟩ := h1 b hb
   exact ⟨p, q, om⟩
  ·obtain ⟨p, q, z⟩ := h2 i hi b hb
   exact ⟨p, q, om⟩
  ·have := hb5 b hb
   exact ⟨fun h => by have := hX b h; omega, om, om⟩
theorem ordC {k : Dk} (hk : k.Good) {i : Nat} (hi : i < 13) {n : List Nat} (hn : n.length = cntX i) (hb : ∀ x ∈ n, x ≤ 9999) : OrdC i n k := by
 have h13 : i = 0 ∨ i = 1 ∨ i = 2 ∨ i = 3 ∨ i = 4 ∨ i = 5 ∨ i = 6 ∨ i = 7 ∨ i = 8 ∨ i = 9 ∨ i = 10 ∨ i = 11 ∨ i = 12 := om
 rcases h13 with rfl | rfl | rfl | rfl | rfl | rfl | rfl | rfl | rfl | rfl | rfl | rfl | rfl
 ·match n, hn with
  | [r, c, h], _ => exact ord0 hk r c h
 ·match n, hn with
  | [], _ => exact ord1 hk
 ·match n, hn with
  | [], _ => exact ord2 hk
 ·match n, hn with
  | [], _ => exact ord3 hk
 ·match n, hn with
  | [], _ => exact ord4 hk
 ·match n, hn with
  | [], _ => exact ord5 hk
 ·match n, hn with
  | [r, c], _ => exact ord6 r c
 ·match n, hn with
  | [l], _ => exact ord7 l
 ·match n, hn with
  | [], _ => exact ord8
 ·match n, hn with
  | [r, i, j], _ => exact ord9 hk r i j
 ·match n, hn with
  | [x, y, u, v], _ => exact ord10 hk x y u v ⟨hb x sm, hb y sm, hb u sm, hb v sm⟩
 ·match n, hn with
  | [], _ => exact ord11 hk
 ·match n, hn with
  | [x, y], _ => exact ord12 x y
theorem ordX_lt {word : List UInt8} {i : Nat} (h : ordX word = some i) : i < 13 := by
 have := (List.findIdx?_eq_some_iff_findIdx_eq.1 h).1
 exact this
theorem ordG_go0 : goB Tryz.prog (ordG 0) = true := ke
theorem ordG_go1 : goB Tryz.prog (ordG 1) = true := ke
theorem ordG_go2 : goB Tryz.prog (ordG 2) = true := ke
theorem ordG_go3 : goB Tryz.prog (ordG 3) = true := ke
theorem ordG_go4 : goB Tryz.prog (ordG 4) = true := ke
theorem ordG_go5 : goB Tryz.prog (ordG 5) = true := ke
theorem ordG_go6 : goB Tryz.prog (ordG 6) = true := ke
theorem ordG_go7 : goB Tryz.prog (ordG 7) = true := ke
theorem ordG_go8 : goB Tryz.prog (ordG 8) = true := ke
theorem ordG_go9 : goB Tryz.prog (ordG 9) = true := ke
theorem ordG_go10 : goB Tryz.prog (ordG 10) = true := ke
theorem ordG_go11 : goB Tryz.prog (ordG 11) = true := ke
theorem ordG_go12 : goB Tryz.prog (ordG 12) = true := ke
theorem ordG_go {i : Nat} (hi : i < 13) : goB Tryz.prog (ordG i) = true := by
 have h13 : i = 0 ∨ i = 1 ∨ i = 2 ∨ i = 3 ∨ i = 4 ∨ i = 5 ∨ i = 6 ∨ i = 7 ∨ i = 8 ∨ i = 9 ∨ i = 10 ∨ i = 11 ∨ i = 12 := om
 rcases h13 with rfl | rfl | rfl | rfl | rfl | rfl | rfl | rfl | rfl | rfl | rfl | rfl | rfl
 ·exact ordG_go0
 ·exact ordG_go1
 ·exact ordG_go2
 ·exact ordG_go3
 ·exact ordG_go4
 ·exact ordG_go5
 ·exact ordG_go6
 ·exact ordG_go7
 ·exact ordG_go8
 ·exact ordG_go9
 ·exact ordG_go10
 ·exact ordG_go11
 ·exact ordG_go12
theorem cntX_le (i : Nat) : cntX i ≤ 4 := by
 have : ∀ p ∈ ordW, p.2 ≤ 4 := by decide
 unfold cntX
 by_cases h : i < ordW.length
 ·rw [getD_at _ _ h]; exact this _ (List.getElem_mem h)
 ·rw [List.getD_eq_getElem?_getD, List.getElem?_eq_none om]; simp
theorem ansL_all {k : Dk} (hk : k.Good) (l : List UInt8) (hl : l.length ≤ 1000) : AnsL l (lineF k l).2 k (lineF k l).1 := by
 cases hg : Lib.hasPrefix l grd with
 | true =>
  exact ansL_of (gfrom (Lib.trimPrefix l grd)).isSome fun d X w hd hX => obeyGridL_c d k l X w hd hX hl hg
 | false =>
  obtain ⟨word, ws, hs⟩ : ∃ word ws, spl 32 l = word :: ws := List.exists_cons_of_ne_nil (spl_ne 32 l)
  have hline : lineF k l = match ordX word with
    | some i => if ws.length + 1 = cntX i + 1 then doF i (ws.map numV) k else (k, whT)
    | none => (k, whT) := by
   rw [lineF, if_neg (by rw [hg]; simp), hs]; rfl
  cases hx : ordX word with
  | none =>
   rw [hx] at hline
   rw [hline]
   exact ansL_what hl hg hs fun i hi => by rw [hx] at hi; cases hi
  | some i =>
   rw [hx] at hline
   by_cases hc : ws.length = cntX i
   ·have hline : lineF k l = doF i (ws.map numV) k := by rw [hline]; simp [hc]
    rw [hline]
    have hi13 := ordX_lt hx
    have hb : ∀ x ∈ ws.map numV, x ≤ 9999 := fun x hx => by
     obtain ⟨t, -, rfl⟩ := List.mem_map.1 hx
     exact numV_le t
    obtain ⟨ok, hord⟩ := ordC hk hi13 (n := ws.map numV) (by rw [List.length_map, hc]) hb
    refine ansL_of ok fun d X w hd hX => ?_
    refine Ret.mono (obeyW_c d l word ws i w (fun v W w' => (∃ s, v = .tuple #[.string (bs s), .bool ok] ∧ (doF i (ws.map numV) k).2 = if ok then s else noT) ∧ Grow (some d) W w' ∧ DeskL w' 51 d (doF i (ws.map numV) k).1 X) hl hg hs (by rw [hc]; exact cntX_le i) hx hc.symm (ordG_go hi13) fun W nb e kn => ?_) fun v w' ⟨W, e, hv, g, dk⟩ => ⟨hv, (e.grow _).trans g, dk⟩
    have := hord d nb X W (hd.ext e) (fun x hx => by have := hX x hx; have := e.size; omega) kn
    rw [List.length_map] at this
    exact Ret.mono this fun v W' ⟨⟨s, hv, ho⟩, g, dk⟩ => ⟨_, _, hv, ⟨s, hv, ho⟩, g, dk⟩
   ·have hline : lineF k l = (k, whT) := by rw [hline]; simp [hc]
    rw [hline]
    exact ansL_what hl hg hs fun j hj => by rw [hx] at hj; cases hj; exact fun e => hc e.symm
theorem jn2_len {L : List Int} (h : ∀ x ∈ L, 0 ≤ x ∧ x ≤ 99) : (sp L).length ≤ 3 * L.length := by
 have := jn_len (c := 32) (L := L.map fun x => dec x.toNat) (m := 2) fun l hl => by
  obtain ⟨x, hx, rfl⟩ := List.mem_map.1 hl
  have := h x hx
  exact (dec_len2 om).2
 rw [List.length_map] at this
 unfold sp; omega
theorem run_len {rows : List (List Int)} (r c : Nat) : (ni (runOf rows r c)).length ≤ 200 := by
 cases hok : cellok rows r c with
 | false =>
  have : runOf rows r c = [] := by rw [runOf, if_neg (by rw [hok]; simp)]
  rw [this]; simp [ni]
 | true =>
  have hv : gvalid rows = true := by simp only [cellok, Bool.and_eq_true] at hok; exact hok.1
  have hrc : 0 ≤ (r : Int) ∧ (r : Int) < rows.length ∧ 0 ≤ (c : Int) ∧ (c : Int) < rowLen rows := by simp only [cellok, Bool.and_eq_true, decide_eq_true_eq] at hok; exact hok.2
  have g := ((gvalid_iff rows).1 hv).gd
  have hi := (row_idx (R := rows.length) (C := rowLen rows) (r := r) (c := c) om om).1
  have hrun : runOf rows r c = waterN rows.length (rowLen rows) (hgt rows) (r * rowLen rows + c) := by rw [runOf, if_pos hok]; simp
  rw [ni_len, hrun]
  have h1 := waterN_len g _ hi
  have h2 := g.hh _ hi
  omega
theorem becomeF_len (k : Dk) (o : Option (List (List Int))) : (becomeF k o).2.length ≤ 1500 := by cases o <;> simp [becomeF, okT, noT]
theorem saidF_len (k : Dk) (ok : Bool) (s : List UInt8) (h : ok = true → s.length ≤ 1500) : (saidF k ok s).2.length ≤ 1500 := by
 cases ok with
 | true => exact h rfl
 | false => simp [saidF, noT]
theorem doF_len {k : Dk} (hk : k.Good) (i : Nat) (n : List Nat) : (doF i n k).2.length ≤ 1500 := by
 unfold doF
 split
 ·exact becomeF_len _ _
 ·exact becomeF_len _ _
 ·exact becomeF_len _ _
 ·exact becomeF_len _ _
 ·exact becomeF_len _ _
 ·refine saidF_len _ _ _ fun _ => ?_
  have := hk.1.gt_len
  simp; omega
 ·refine saidF_len _ _ _ fun _ => ?_
  have h1 := run_len (rows := k.rows) (n.getD 0 0) (n.getD 1 0)
  have h2 := jn2_len (run_rng (rows := k.rows) (n.getD 0 0) (n.getD 1 0)).2
  simp only [List.length_append, List.length_singleton]
  omega
 ·refine saidF_len _ _ _ fun hok => ?_
  have h2 := jn2_len (land3_rng hok)
  have h3 : (land3 k.rows (n.getD 0 0 : Nat)).length = 3 := rfl
  show (sp (land3 k.rows (n.getD 0 0 : Nat)) ++ [10]).length ≤ 1500
  simp only [List.length_append, List.length_singleton]
  omega
 ·refine saidF_len _ _ _ fun _ => ?_
  have h1 : (pkW k.rows).length = (peakListOf k.rows).length := by simp [pkW]
  have h2 : (peakListOf k.rows).length ≤ 49 := peakListOf_len k.rows
  have h3 := jn_len (c := 32) (pkW_len k.rows)
  simp only [List.length_append, List.length_singleton]
  omega
 ·refine saidF_len _ _ _ fun _ => ?_
  split <;> simp
 ·split <;> simp [okT, noT]
 ·refine saidF_len _ _ _ fun _ => ?_
  rw [mtext_eq, mpre_len]; omega
 ·refine saidF_len _ _ _ fun hok => ?_
  have h := plc_iff.1 hok
  have := fname_len' (x := n.getD 0 0) (y := n.getD 1 0) om om
  rw [placeName, if_pos hok]
  simp only [List.length_append, List.length_singleton, Int.toNat_natCast]
  omega
theorem lineF_len {k : Dk} (hk : k.Good) (l : List UInt8) : (lineF k l).2.length ≤ 1500 := by
 unfold lineF
 split
 ·exact becomeF_len _ _
 ·split
  ·split
   ·exact doF_len hk _ _
   ·simp [whT]
  ·simp [whT]
theorem runF_len : ∀ (L : List (List UInt8)) {k : Dk}, k.Good → (runF k L).2.length ≤ 1500 * L.length
 | [], _, _ => by simp [runF]
 | l :: L, k, hk => by
  have h1 := lineF_len hk l
  have h2 := runF_len L (lineF_good hk l)
  simp only [runF, List.length_append, List.length_cons]
  omega
theorem runF_snoc (L : List (List UInt8)) (l : List UInt8) (k : Dk) : runF k (L ++ [l]) = ((lineF (runF k L).1 l).1, (runF k L).2 ++ (lineF (runF k L).1 l).2) := by
 rw [runF_app]; simp [runF]
def StL (w W : World) (d bb sb : Nat) (cs : Array Value) (k : Dk) (l : List UInt8) : Prop :=
 ∃ bf, Bld W 56 5 bb l bf ∧ DeskL W 51 d k (fun x => x = bb ∨ bf = some x) ∧ (∀ x, bf = some x → x ≠ d ∧ x ≠ sb ∧ w.heap.size ≤ x) ∧ Ext w W ∧ Blk W sb cs 9 ∧ d ≠ bb ∧ sb ≠ bb ∧ sb ≠ d ∧ w.heap.size ≤ d ∧ w.heap.size ≤ bb
theorem StL.ext {w W W' : World} {d bb sb : Nat} {cs : Array Value} {k : Dk} {l : List UInt8} (h : StL w W d bb sb cs k l) (e : Ext W W') : StL w W' d bb sb cs k l := by
 obtain ⟨bf, hb, dk, hf, x, ks, r⟩ := h
 exact ⟨bf, hb.ext e, dk.ext e, hf, x.trans e, ks.ext e, r⟩
theorem stL_write {w W : World} {d bb sb : Nat} {cs : Array Value} {k : Dk} {l : List UInt8} (h : StL w W d bb sb cs k l) (m : List UInt8) (hlen : l.length + m.length ≤ 1000000) :
  Ret Tryz.prog 31 #[.pointer (some ⟨bb, 0, none⟩), .string (bs m)] W fun v W' => v = .tuple #[.int .i64 m.length, .nilIface] ∧ StL w W' d bb sb cs k (l ++ m) := by
 obtain ⟨bf, hb, dk, hf, x, ks, n1, n2, n3, h1, h2⟩ := h
 have lsb := ks.lt
 have ld := dk.lt
 refine Ret.mono (writeString_c bb l m bf W hb hlen) fun v W' ⟨hv, bf', hb', g, hn⟩ => ⟨hv, bf', hb', ?_, fun y hy => ?_, g.ext x fun b hb => ?_, g.blk ks fun e => ?_, n1, n2, n3, h1, h2⟩
 ·have dk1 : DeskL W 51 d k (fun x => (x = bb ∨ bf = some x) ∨ bf' = some x) := dk.avoid fun y hy => hy.elim .inl fun e => (hn y e).elim (fun e => .inl (.inr e)) .inr
  exact (dk1.grow g (fun y hy => .inl hy) (fun e => e.elim n1 fun e => (hf d e).1 rfl)).avoid fun y hy => .inl (hy.elim (fun e => .inl (.inl e)) .inr)
 ·rcases hn y hy with e | e
  ·exact hf y e
  ·have := x.size; exact ⟨om, om, om⟩
 ·exact hb.elim (fun e => om) fun e => (hf b e).2.2
 ·exact e.elim n2 fun e => (hf sb e).2.1 rfl
theorem stL_answer {w W : World} {d bb sb : Nat} {cs : Array Value} {k k' : Dk} {l line out : List UInt8} (h : StL w W d bb sb cs k l) (ha : AnsL line out k k') :
  Ret Tryz.prog 32 #[.pointer (some ⟨d, 0, none⟩), .string (bs line)] W fun v W' => v = .string (bs out) ∧ StL w W' d bb sb cs k' l := by
 obtain ⟨bf, hb, dk, hf, x, ks, n1, n2, n3, h1, h2⟩ := h
 have lb := hb.lt
 refine Ret.mono (ha d _ W dk fun y hy => hy.elim (fun e => ⟨om, om⟩) fun e => ⟨lb.2 y e, (hf y e).1⟩) fun v W' ⟨hv, g, dk'⟩ => ⟨hv, bf, hb.grow g (by simpa using n1) (fun y hy e => by cases e; exact (hf _ hy).1 rfl), dk', hf, g.ext x (fun b hb => by cases hb; exact h1), g.blk ks (fun e => by cases e; exact n3 rfl), n1, n2, n3, h1, h2⟩
theorem implExecute_c (t : List UInt8) (w : World) : Ret Tryz.prog 10 #[.string (bs t)] w fun u w' => u = .string (bs (exF t)) ∧ Ext w w' := by
 refine enter1 Tryz.func10 rfl fun f a0 => ?_
 by_cases h600 : (600 : Int) < (t.length : Int)
 ·have he : exF t = longT := by rw [exF, if_pos om]
  simp (disch := omega) only [go_sem, a0, h600, Tryz.results10]
  exact ⟨by rw [he]; rfl, Ext.refl _⟩
 obtain ⟨hl1, hl2⟩ := spl_len_le 10 t
 have he : exF t = (runF d0 ((spl 10 t).take ((spl 10 t).length - 1))).2 ++ endL (runF d0 ((spl 10 t).take ((spl 10 t).length - 1))).1 := by
  rw [exF, if_neg om, List.dropLast_eq_take]
 rw [he]
 have hmem : ∀ l ∈ spl 10 t, l.length ≤ 1000 := fun l hl => by have := spl_mem_len hl; omega
 simp (disch := omega) only [go_sem, a0, h600]
 refine bslK_1 elt_i rfl fun w1 b1 e1 x1 k1 s1 => ?_
 simp (disch := omega) only [go_sem]
 refine bslK_1 elt_ii rfl fun w2 b2 e2 x2 k2 s2 => ?_
 simp (disch := omega) only [go_sem]
 refine boxK_of fun w3 d e3 x3 k3 s3 => ?_
 simp (disch := omega) only [go_sem, a0]
 refine callK_of ke (split_c t 10 _ om) ?_
 rintro _ w4 ⟨sb, rfl, x4, esb, ks⟩
 generalize spl 10 t = L at *
 simp (disch := omega) only [go_sem]
 refine allocK_of zero_bd fun w5 bb e5 x5 k5 s5 => ?_
 have z1 := x1.size
 have z4 := x4.size
 have lsb := ks.lt
 have x13 := (x1.trans x2).trans x3
 have x35 := x4.trans x5
 have hst : StL w w5 d bb sb (vst L).toArray d0 [] := by
  refine ⟨none, ⟨_, none, 0, k5, .inl rfl, OwnS.nil _ _ _, rfl, by simp⟩, ⟨some ⟨b2, 0, none⟩, fun _ => some ⟨b1, 0, none⟩, fun _ => 1, 1, none, 0, k3.ext x35, ?_, LabS.nil _ _, by simp [d0], fun b hb => ?_, fun r hr b hb => ?_, fun b hb => by simp [blk] at hb⟩, (fun x hx => by cases hx), x13.trans x35, ks.ext x5, om, om, om, om, om⟩
  ·have k2' := (k2.ext x3).ext x35
   have k1' := ((k1.ext x2).ext x3).ext x35
   refine ⟨fun _ => ⟨b2, 0, rfl⟩, fun b o hbo r hr => ?_, fun r hr => ⟨fun _ => ⟨b1, 0, rfl⟩, fun b o hbo i hi => ?_⟩, fun l hl x hx => ?_, fun l hl => ?_, by simp [maxLen, d0]⟩
   ·simp only [Option.some.injEq, Addr.mk.injEq] at hbo
    obtain ⟨rfl, rfl, _⟩ := hbo
    obtain rfl : r = 0 := by simpa [d0] using hr
    rw [Nat.zero_add, k2'.cell]; rfl
   ·simp only [Option.some.injEq, Addr.mk.injEq] at hbo
    obtain ⟨rfl, rfl, _⟩ := hbo
    obtain rfl : r = 0 := by simpa [d0] using hr
    obtain rfl : i = 0 := by simpa [d0] using hi
    rw [Nat.zero_add, k1'.cell]; rfl
   ·simp only [d0, List.mem_singleton] at hl
    subst hl
    simp only [List.mem_singleton] at hx
    subst hx
    exact ⟨om, om⟩
   ·simp only [d0, List.mem_singleton] at hl
    subst hl
    simp [maxLen]
  ·simp only [blk_some, Option.some.injEq] at hb
   subst hb
   exact ⟨fun e => e.elim om (fun e => by cases e), om, om⟩
  ·simp only [blk_some, Option.some.injEq] at hb
   subst hb
   exact ⟨fun e => e.elim om (fun e => by cases e), om, om⟩
 have el : ((L.length : Nat) : Int) - 1 = ((L.length - 1 : Nat) : Int) := om
 simp (disch := omega) only [go_sem, el, Int.toNat_natCast]
 refine loopN (L.length - 1) (fun k f W => f 3 = .pointer (some ⟨d, 0, none⟩) ∧ f 5 = .pointer (some ⟨bb, 0, none⟩) ∧ f 21 = .slice (some ⟨sb, 0, none⟩) (L.length - 1) L.length ∧ f 22 = .int .i64 (L.length - 1 : Nat) ∧ f 23 = .int .i64 k ∧ StL w W d bb sb (vst L).toArray (runF d0 (L.take k)).1 (runF d0 (L.take k)).2)
  ⟨uu, uu, uu, uu, uu, hst⟩ fun k f W hk ⟨a3, a5, a21, a22, a23, hst⟩ => ?_
 have hgood := runF_good (L.take k) d0_good
 have hol := runF_len (L.take k) d0_good
 rw [List.length_take] at hol
 by_cases hlt : (k : Int) < ((L.length - 1 : Nat) : Int)
 ·have hkL : k < L.length := om
  have hll := hmem _ (getD_mem (d := []) hkL)
  have hans := ansL_all hgood (L.getD k []) hll
  have hml := lineF_len hgood (L.getD k [])
  have hsn := runF_snoc (L.take k) (L.getD k []) d0
  rw [← take_snoc [] hkL] at hsn
  generalize hk1 : (runF d0 (L.take k)).1 = kd at *
  generalize (runF d0 (L.take k)).2 = o1 at *
  have hcell : W.cell? ⟨sb, k, none⟩ = some (.string (bs (L.getD k []))) := by
   obtain ⟨bf, _, _, _, _, ks, _⟩ := hst
   exact vst_cell ks hkL
  simp (disch := omega) only [go_sem, a3, a5, a21, a22, a23, hlt, hcell]
  refine callK_of ke (stL_answer hst hans) ?_
  rintro _ w6 ⟨rfl, hst6⟩
  simp (disch := omega) only [go_sem, a5]
  refine callK_of ke (stL_write hst6 (lineF kd (L.getD k [])).2 om) ?_
  rintro _ w7 ⟨rfl, hst7⟩
  simp (disch := omega) only [go_sem, a23]
  exact ⟨om, uu, uu, uu, uu, uu, by rw [hsn]; exact hst7⟩
 ·obtain rfl : k = L.length - 1 := om
  generalize hkk : (runF d0 (L.take (L.length - 1))).1 = kd at *
  generalize (runF d0 (L.take (L.length - 1))).2 = out at *
  have v := hgood.1
  have hR1 := v.r1
  have hR7 := v.r7
  have hC7 := v.c7
  have hL6 := hgood.2.1
  have d1 := dec_len2 (n := kd.rows.length) om
  have d2 := dec_len2 (n := rowLen kd.rows) om
  have d3 := dec_len2 (n := kd.labs.length) om
  have row0 : ∀ {W : World} {l : List UInt8}, StL w W d bb sb (vst L).toArray kd l → ∃ a A gc gr la lc, Blk W d #[.slice a kd.rows.length gc, .slice la kd.labs.length lc] 51 ∧ ∃ b o, a = some ⟨b, o, none⟩ ∧ W.cell? ⟨b, o, none⟩ = some (.slice A (rowLen kd.rows) gr) := fun ⟨bf, hb, dk, _⟩ => by
   obtain ⟨a, A, Cp, gc, la, lc, k, r, _⟩ := dk.ex
   obtain ⟨b, o, rfl⟩ := r.head v.ne
   have := r.row b o rfl 0 v.r1
   rw [Nat.add_zero] at this
   exact ⟨_, A 0, gc, Cp 0, la, lc, k, b, o, rfl, this⟩
  obtain ⟨a, A, gc, gr, la, lc, kdk, -⟩ := row0 hst
  have c1 : binV Tryz.prog .add 9 (.string (bs [114, 111, 119, 115, 32])) (.string (bs (dec kd.rows.length))) = some (.string (bs ([114, 111, 119, 115, 32] ++ dec kd.rows.length))) := bin_adds _ _ sq
  have c2' : binV Tryz.prog .add 9 (.string (bs [32, 99, 111, 108, 117, 109, 110, 115, 32])) (.string (bs (dec (rowLen kd.rows)))) = some (.string (bs ([32, 99, 111, 108, 117, 109, 110, 115, 32] ++ dec (rowLen kd.rows)))) := bin_adds _ _ sq
  have c3 : binV Tryz.prog .add 9 (.string (bs [32, 108, 97, 98, 101, 108, 115, 32])) (.string (bs (dec kd.labs.length))) = some (.string (bs ([32, 108, 97, 98, 101, 108, 115, 32] ++ dec kd.labs.length))) := bin_adds _ _ sq
  have c4 : binV Tryz.prog .add 9 (.string (bs ([32, 108, 97, 98, 101, 108, 115, 32] ++ dec kd.labs.length))) (.string (bs [10])) = some (.string (bs ([32, 108, 97, 98, 101, 108, 115, 32] ++ dec kd.labs.length ++ [10]))) := bin_adds _ _ sq
  simp (disch := omega) only [go_sem, a3, a5, a22, a23, hlt, kdk.cell]
  refine callK_pure ke (itoa_c kd.rows.length om _) fun w6 x6 => ?_
  simp (disch := omega) only [go_sem, a5, c1]
  refine callK_of ke (stL_write (hst.ext x6) _ sq) ?_
  rintro _ w7 ⟨rfl, st7⟩
  obtain ⟨a, A, gc, gr, la, lc, kdk, b, o, rfl, hrow⟩ := row0 st7
  simp (disch := omega) only [go_sem, a3, kdk.cell, hrow]
  refine callK_pure ke (itoa_c (rowLen kd.rows) om _) fun w8 x8 => ?_
  simp (disch := omega) only [go_sem, a5, c2']
  refine callK_of ke (stL_write (st7.ext x8) _ sq) ?_
  rintro _ w9 ⟨rfl, st9⟩
  obtain ⟨a, A, gc, gr, la, lc, kdk, -⟩ := row0 st9
  simp (disch := omega) only [go_sem, a3, kdk.cell]
  refine callK_pure ke (itoa_c kd.labs.length om _) fun w10 x10 => ?_
  simp (disch := omega) only [go_sem, a5, c3, c4]
  refine callK_of ke (stL_write (st9.ext x10) ([32, 108, 97, 98, 101, 108, 115, 32] ++ dec kd.labs.length ++ [10]) sq) ?_
  rintro _ w11 ⟨rfl, st11⟩
  obtain ⟨bf, hb, dk, hf, x, ks, n1, n2, n3, h1, h2⟩ := st11
  simp (disch := omega) only [go_sem, a5]
  have hfin := builderString_c w.heap.size bb _ bf _ hb h2 (fun x hx => (hf x hx).2.2) x.size
  refine callK_of ke (hfin) ?_
  rintro _ w12 ⟨rfl, x12⟩
  simp (disch := omega) only [go_sem, Tryz.results10]
  exact ⟨by simp only [endL, List.append_assoc, List.cons_append, List.nil_append], Below.trans x x12⟩
end Go.Proofs.YtcbmhjndbpafbaaGreatDoor
