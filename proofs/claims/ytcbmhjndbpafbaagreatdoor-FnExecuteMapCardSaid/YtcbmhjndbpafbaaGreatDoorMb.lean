import Derived.Test.YtcbmhjndbpafbaaGreatDoorZ7
import Derived.Test.YtcbmhjndbpafbaaGreatDoorMa
import Derived.Test.YtcbmhjndbpafbaaGreatDoorZ3
import Derived.Test.YtcbmhjndbpafbaaGreatDoorMc
import Derived.Test.YtcbmhjndbpafbaaGreatDoorY2
set_option linter.all false
set_option maxRecDepth 20000
namespace Go.SW
open Go Go.RowKit
theorem LVal.pre {A B : List Lb} (h : LVal (A ++ B)) : LVal A := by
 obtain ⟨h1, h2⟩ := h
 rw [List.length_append] at h1
 have e : ∀ k, k < A.length → (A ++ B).getD k lb0 = A.getD k lb0 := fun k hk => by
  simp [List.getD_eq_getElem?_getD, List.getElem?_append_left hk]
 refine ⟨by omega, fun k hk => ?_⟩
 obtain ⟨h3, h4⟩ := h2 k (by rw [List.length_append]; omega)
 rw [e k hk] at h3 h4
 exact ⟨h3, fun j hj => by have := h4 j hj; rwa [e j (by omega)] at this⟩
theorem lns_snoc (L : List (List UInt8)) (l : List UInt8) : lns (L ++ [l]) = lns L ++ l ++ [10] := by
 induction L with
 | nil => simp [lns]
 | cons a r ih => simp [lns, ih]
end Go.SW
namespace Go.Proofs.YtcbmhjndbpafbaaGreatDoor
open Go.RowKit Go.SW
def nameT (s : Lb) : List UInt8 := [110, 97, 109, 101, 32] ++ sp [s.x, s.y, s.w, s.v]
def mapT : List UInt8 := [109, 97, 112]
theorem nameT_jn (s : Lb) : nameT s = jn 32 [[110, 97, 109, 101], dec s.x.toNat, dec s.y.toNat, dec s.w.toNat, dec s.v.toNat] := by
 rw [jn_cons (by simp)]; rfl
theorem nameT_spl {s : Lb} (h : s.Ok) : spl 32 (nameT s) = [[110, 97, 109, 101], dec s.x.toNat, dec s.y.toNat, dec s.w.toNat, dec s.v.toNat] := by
 obtain ⟨h1, h2, h3, h4, h5, h6, h7, h8⟩ := h
 rw [nameT_jn, spl_jn (by simp)]
 intro l hl
 simp only [List.mem_cons, List.not_mem_nil, or_false] at hl
 rcases hl with rfl | rfl | rfl | rfl | rfl
 ·decide
 all_goals exact dec_nospace (by omega)
theorem nameT_line {s : Lb} (h : s.Ok) : (10 : UInt8) ∉ nameT s := fun hx => by
 obtain ⟨h1, h2, h3, h4, h5, h6, h7, h8⟩ := h
 rw [nameT_jn] at hx
 rcases jn_mem hx with e | ⟨l, hl, hx⟩
 ·revert e; decide
 ·simp only [List.mem_cons, List.not_mem_nil, or_false] at hl
  rcases hl with rfl | rfl | rfl | rfl | rfl
  ·revert hx; decide
  all_goals exact dec_noline (by omega) hx
theorem lineF_name {d : Dk} {s : Lb} (h : s.Ok) (hv : LVal (d.labs ++ [s])) : lineF d (nameT s) = (⟨d.rows, d.labs ++ [s]⟩, okT) := by
 have h1 : Lib.hasPrefix (nameT s) grd = false := (not_grd (by decide)).1
 have h3 : ordX [110, 97, 109, 101] = some 10 := by decide
 rw [lineF, h1, nameT_spl h]
 obtain ⟨g1, g2, g3, g4, g5, g6, g7, g8⟩ := h
 have e : (⟨(s.x.toNat : Nat), (s.y.toNat : Nat), (s.w.toNat : Nat), (s.v.toNat : Nat)⟩ : Lb) = s := by
  cases s; simp at *; omega
 simp only [Bool.false_eq_true, if_false, List.getD_cons_zero, h3, List.length_cons, List.length_nil, List.tail_cons, List.map_cons, List.map_nil]
 rw [if_pos (by decide), numV_dec (by omega), numV_dec (by omega), numV_dec (by omega), numV_dec (by omega), doF]
 simp only [List.getD_cons_zero, List.getD_cons_succ, e, if_pos hv]
theorem lineF_map (d : Dk) : lineF d mapT = (d, mtext d.labs (bestOf d.labs)) := by
 have h1 : Lib.hasPrefix mapT grd = false := by decide
 have h2 : spl 32 mapT = [[109, 97, 112]] := by decide
 have h3 : ordX [109, 97, 112] = some 11 := by decide
 rw [lineF, h1, h2]
 simp only [Bool.false_eq_true, if_false, List.getD_cons_zero, h3]
 rfl
def okN : Nat → List UInt8
 | 0 => []
 | n + 1 => okN n ++ okT
theorem okN_len (n : Nat) : (okN n).length = 3 * n := by
 induction n with
 | zero => rfl
 | succ n ih => rw [okN, List.length_append, ih]; simp [okT]; omega
theorem okN_succ (n : Nat) : okN (n + 1) = okT ++ okN n := by
 induction n with
 | zero => rfl
 | succ n ih =>
  show okN (n + 1) ++ okT = okT ++ (okN n ++ okT)
  rw [ih, List.append_assoc]
theorem runF_names (rows : List (List Int)) : ∀ (B A : List Lb), LVal (A ++ B) → runF ⟨rows, A⟩ (B.map nameT) = (⟨rows, A ++ B⟩, okN B.length)
 | [], A, _ => by simp [runF, okN]
 | s :: B, A, h => by
  have e : A ++ s :: B = A ++ [s] ++ B := by simp
  rw [e] at h
  have hv := h.pre
  have hs : s.Ok := by
   have := hv.ok (k := A.length) (by simp)
   simpa using this
  simp only [List.map_cons, runF, lineF_name (d := ⟨rows, A⟩) hs hv, runF_names rows B (A ++ [s]) h, List.length_cons, okN_succ, e]
def scr (L : List Lb) : List UInt8 := lns (L.map nameT)
theorem scr_snoc {L : List Lb} {k : Nat} (h : k < L.length) : scr (L.take (k + 1)) = scr (L.take k) ++ nameT (L.getD k lb0) ++ [10] := by
 rw [scr, take_snoc lb0 h, List.map_append, List.map_cons, List.map_nil, lns_snoc]; rfl
theorem nameT_len {s : Lb} (h : s.Ok) : (nameT s).length ≤ 20 := by
 obtain ⟨h1, h2, h3, h4, h5, h6, h7, h8⟩ := h
 have e1 := dec_len2 (n := s.x.toNat) (by omega)
 have e2 := dec_len2 (n := s.y.toNat) (by omega)
 have e3 := dec_len2 (n := s.w.toNat) (by omega)
 have e4 := dec_len2 (n := s.v.toNat) (by omega)
 rw [nameT_jn]
 simp [jn]; omega
theorem scr_len {L : List Lb} (h : LVal L) : ∀ k, k ≤ L.length → (scr (L.take k)).length ≤ 21 * k
 | 0, _ => by simp [scr, lns]
 | k + 1, hk => by
  have h1 := scr_len h k (by omega)
  have h2 := nameT_len (h.ok (k := k) (by omega))
  rw [scr_snoc (by omega), List.length_append, List.length_append]
  simp only [List.length_singleton]; omega
theorem exF_scr {L : List Lb} (h : LVal L) : exF (scr L ++ mapT ++ [10]) = okN L.length ++ mtext L (bestOf L) ++ endL ⟨[[0]], L⟩ := by
 have h6 := h.1
 have hl := scr_len h L.length (Nat.le_refl _)
 rw [List.take_length] at hl
 have hs : spl 10 (scr L ++ mapT ++ [10]) = L.map nameT ++ [mapT] ++ [[]] := by
  rw [scr, ← lns_snoc, spl_lns fun l hl => ?_]
  rcases List.mem_append.1 hl with hl | hl
  ·obtain ⟨s, hs, rfl⟩ := List.mem_map.1 hl
   exact nameT_line (h.mem s hs)
  ·rw [List.mem_singleton.1 hl]; decide
 have hr := runF_names [[0]] L [] (by simpa using h)
 rw [List.nil_append] at hr
 rw [exF, if_neg (by simp [mapT]; omega), hs, List.dropLast_concat, runF_app]
 show _ ++ _ = _
 simp only [d0, hr, runF, lineF_map, List.append_nil]
theorem endLineN_c (a : Option Addr) (rows : List (List Int)) (A : Nat → Option Addr) (Cp : Nat → Nat) (gc : Nat) (L : List Lb) (hL : L.length ≤ 6) (w : World) (hr : RowsAt w a rows A Cp) (v : Valid rows) :
  Ret Tryz.prog 19 #[.slice a rows.length gc, .int .i64 L.length] w fun v w' => v = .string (bs (endL ⟨rows, L⟩)) ∧ Ext w w' := by
 have hR7 := v.r7
 have hR1 := v.r1
 have hC7 := v.c7
 have d1 := dec_len2 (n := rows.length) (by omega)
 have d2 := dec_len2 (n := rowLen rows) (by omega)
 have d3 := dec_len2 (n := L.length) (by omega)
 obtain ⟨b, o, rfl⟩ := hr.head v.ne
 have g0 : ∀ {W : World}, Ext w W → W.cell? ⟨b, o, none⟩ = some (.slice (A 0) (rowLen rows) (Cp 0)) := fun x => by
  have := (hr.ext x).row b o rfl 0 v.r1
  rw [Nat.add_zero] at this
  exact this
 rw [endL]
 generalize L.length = n at *
 show Ret _ _ _ _ fun v w' => v = .string (bs ([114, 111, 119, 115, 32] ++ dec rows.length ++ [32, 99, 111, 108, 117, 109, 110, 115, 32] ++ dec (rowLen rows) ++ [32, 108, 97, 98, 101, 108, 115, 32] ++ dec n ++ [10])) ∧ Ext w w'
 refine enter2 Tryz.func19 rfl (by kernel_rfl) (of_decide_eq_true (by kernel_rfl)) fun f a0 a1 => ?_
 simp (disch := omega) only [go_sem]
 refine QR_sch none (.st 0 (.st 1 (.st 5 (.st 6 (.st 7 (.st 8 (.st 12 (.ef 2 (.st 3 (.st 4 (.ef 9 (.st 10 (.st 11 (.ef 13 (.st 14 (.st 15 (.st 16 (.done)))))))))))))))))) (by kernel_rfl) (by kernel_rfl) fun w0 x0 => ?_
 have X := x0
 simp (disch := first | omega | (simp only [List.length_append, List.length_cons, List.length_nil]; omega)) only [go_sem, a0, a1, g0 x0]
 refine callK_of (by kernel_rfl) (digits_c rows.length (by omega) _) ?_
 rintro _ w1 ⟨rfl, y1⟩
 have x0 := x0.trans y1
 refine nxE_of (y1.grow _) ?_
 have X := X.trans y1
 simp (disch := first | omega | (simp only [List.length_append, List.length_cons, List.length_nil]; omega)) only [go_sem, a0, a1, g0 x0]
 refine callK_of (by kernel_rfl) (digits_c (rowLen rows) (by omega) _) ?_
 rintro _ w1 ⟨rfl, y1⟩
 have x0 := x0.trans y1
 refine nxE_of (y1.grow _) ?_
 have X := X.trans y1
 simp (disch := first | omega | (simp only [List.length_append, List.length_cons, List.length_nil]; omega)) only [go_sem, a0, a1, g0 x0]
 refine callK_of (by kernel_rfl) (digits_c n (by omega) _) ?_
 rintro _ w1 ⟨rfl, y1⟩
 have x0 := x0.trans y1
 refine nxE_of (y1.grow _) ?_
 have X := X.trans y1
 simp (disch := first | omega | (simp only [List.length_append, List.length_cons, List.length_nil]; omega)) only [go_sem, Tryz.results19]
 exact ⟨trivial, X⟩
theorem rows00 {w : World} {b1 b2 : Nat} (k1 : Blk w b1 #[.int .i64 0] 3) (k2 : Blk w b2 #[.slice (some ⟨b1, 0, none⟩) 1 1] 35) : RowsAt w (some ⟨b2, 0, none⟩) [[0]] (fun _ => some ⟨b1, 0, none⟩) (fun _ => 1) := by
 refine ⟨fun _ => ⟨b2, 0, rfl⟩, fun b o hbo r hr => ?_, fun r hr => ⟨fun _ => ⟨b1, 0, rfl⟩, fun b o hbo i hi => ?_⟩, fun l hl x hx => ?_, fun l hl => ?_, by simp [maxLen]⟩
 ·simp only [Option.some.injEq, Addr.mk.injEq] at hbo
  obtain ⟨rfl, rfl, _⟩ := hbo
  obtain rfl : r = 0 := by simpa using hr
  rw [Nat.zero_add, k2.cell]; rfl
 ·simp only [Option.some.injEq, Addr.mk.injEq] at hbo
  obtain ⟨rfl, rfl, _⟩ := hbo
  obtain rfl : r = 0 := by simpa using hr
  obtain rfl : i = 0 := by simpa using hi
  rw [Nat.zero_add, k1.cell]; rfl
 ·simp only [List.mem_singleton] at hl
  subst hl
  simp only [List.mem_singleton] at hx
  subst hx
  exact ⟨by omega, by omega⟩
 ·simp only [List.mem_singleton] at hl
  subst hl
  simp [maxLen]
set_option maxHeartbeats 1000000 in
theorem fnExecuteMap_c (a : Option Addr) (l : List Int) (c : Nat) (w : World) (hl : l.length ≤ c) (hc : c ≤ maxLen) (hs : ByteS w a l) :
  Ret Tryz.prog 7 #[.slice a l.length c] w fun v w' => v = .bool true ∧ Ext w w' := by
 have hmax := maxLen_le (Nat.le_trans hl hc)
 refine enter1 Tryz.func7 rfl (by kernel_rfl) (of_decide_eq_true (by kernel_rfl)) fun f a0 => ?_
 by_cases hbig : (1048576 : Int) < l.length
 ·simp (disch := omega) only [go_sem, a0, hbig, Tryz.results7]
  exact ⟨trivial, Ext.refl _⟩
 simp (disch := omega) only [go_sem, a0, hbig]
 refine callK_of (by kernel_rfl) (drawSettingBest_c _ _ _ _ hl hc hs) ?_
 rintro _ w1 ⟨L, la, lc, rfl, h6, hlc, hL, hlt, x1⟩
 simp (disch := omega) only [go_sem]
 refine callK_of (by kernel_rfl) (implSettingBest_c la L lc _ hL hlc hlt) ?_
 rintro _ w2 ⟨x2, oa, oc, rfl, o2⟩
 simp (disch := omega) only [go_sem]
 refine callK_of (by kernel_rfl) (specSettingBest_c la L lc _ (hL.ext x2) hlc) ?_
 rintro _ w3 ⟨x3, sa, sc, rfl, o3⟩
 have x13 := (x1.trans x2).trans x3
 have o2 := o2.ext x3
 have hL := (hL.ext x2).ext x3
 have hk : (lvalid L != lvalid L) = false := bne_self_eq_false _
 have hk2 : (!(lvalid L == lvalid L)) = false := by simp
 cases hok : lvalid L with
 | false =>
  rw [hok] at hk hk2 o2 o3
  simp only [Bool.false_eq_true, if_false] at o2 o3
  have hd : decide (([] : List Int) = []) = true := rfl
  simp (disch := omega) only [go_sem, hk, hk2]
  refine callK_pure (by kernel_rfl) (sameInts_c oa sa [] [] oc sc _ o2 o3 (by simp [maxLen])) fun w4 x4 => ?_
  simp (disch := omega) only [go_sem, hd, beq_self_eq_true]
  refine callK_pure (by kernel_rfl) (sameInts_c oa sa [] [] oc sc _ (o2.ext x4) (o3.ext x4) (by simp [maxLen])) fun w5 x5 => ?_
  simp (disch := omega) only [go_sem, hd, Tryz.results7]
  exact ⟨trivial, (x13.trans x4).trans x5⟩
 | true =>
  have hv := lvalid_iff.1 hok
  rw [hok] at hk hk2 o2 o3
  simp only [if_true] at o2 o3
  have hfit := pick_fit L (ptsL L) 0
  have hbl : (bestOf L).length = L.length := hfit.len
  have hd : decide (bestOf L = bestOf L) = true := decide_eq_true rfl
  simp (disch := omega) only [go_sem, hk, hk2]
  refine callK_pure (by kernel_rfl) (sameInts_c oa sa _ _ oc sc _ o2 o3 (by simp [maxLen]; omega)) fun w4 x4 => ?_
  simp (disch := omega) only [go_sem, hd]
  have x14 := x13.trans x4
  have o4 := o2.ext x4
  have hL4 := hL.ext x4
  refine loopN L.length (fun k f W => f 3 = .slice la L.length lc ∧ f 4 = .slice oa (bestOf L).length oc ∧ f 8 = .string (bs (scr (L.take k))) ∧ f 9 = .string (bs (okN k)) ∧ f 10 = .int .i64 k ∧ Ext w4 W) ⟨uu, uu, uu, uu, uu, Ext.refl _⟩ fun k f W hk ⟨a3, a4, a8, a9, a10, xw⟩ => ?_
  by_cases hkn : (k : Int) < L.length
  ·have hkL : k < L.length := by omega
   obtain ⟨b, o, rfl⟩ := hL4.head (by intro e; rw [e] at hkL; simp at hkL)
   have hO := hv.ok hkL
   have fd := fun {V : World} (x : Ext W V) => ((hL4.ext xw).ext x).fld hkL
   have hsc := scr_snoc hkL
   have hsl := scr_len hv k (by omega)
   have hok := okN_len k
   rw [nameT, ← List.append_assoc] at hsc
   have hoks : okN (k + 1) = okN k ++ [111, 107, 10] := rfl
   generalize L.getD k lb0 = s at *
   obtain ⟨g1, g2, g3, g4, g5, g6, g7, g8⟩ := hO
   have hrg : ∀ x ∈ [s.x, s.y, s.w, s.v], 0 ≤ x ∧ x ≤ 99 := fun x hx => by
    simp only [List.mem_cons, List.not_mem_nil, or_false] at hx
    rcases hx with rfl | rfl | rfl | rfl <;> omega
   have hspl := sp_len (L := [s.x, s.y, s.w, s.v]) (by simp) hrg
   have ex : Ext W W := Ext.refl _
   simp (disch := omega) only [go_sem, a10, a3, hkn]
   refine QR_sch none (.st 0 (.st 1 (.st 2 (.st 3 (.st 4 (.st 5 (.st 6 (.st 7 (.st 8 (.st 9 (.st 10 (.st 11 (.st 12 (.st 13 (.st 14 (.st 15 (.st 16 (.st 17 (.st 18 (.st 19 (.st 20 (.st 21 (.ef 22 (.ef 23 (.st 24 (.st 25 (.st 26 (.done)))))))))))))))))))))))))))) (by kernel_rfl) (by kernel_rfl) fun w0 x0 => ?_
   have X := ex.trans x0
   simp (disch := first | omega | (simp only [List.length_append, List.length_cons, List.length_nil]; omega)) only [go_sem, a3, a8, a9, a10, (fd X).1, (fd X).2.1, (fd X).2.2.1, (fd X).2.2.2]
   refine bslK_n (vi [s.x, s.y, s.w, s.v]) elt_i (by simp [vi, Value.cells]) rfl (by omega) (by omega) rfl fun w5 b5 e5 y5 k5 _ => ?_
   refine nxE_of (y5.grow _) ?_
   have X := X.trans y5
   simp (disch := first | omega | (simp only [List.length_append, List.length_cons, List.length_nil]; omega)) only [go_sem, a3, a8, a9, a10, (fd X).1, (fd X).2.1, (fd X).2.2.1, (fd X).2.2.2]
   refine callK_of (by kernel_rfl) (lawSpaced_c _ [s.x, s.y, s.w, s.v] 4 _ (blk_ints k5) (by simp) hrg) ?_
   rintro _ w6 ⟨rfl, y6⟩
   refine nxE_of (y6.grow _) ?_
   have X := X.trans y6
   have k5 := k5.ext y6
   simp (disch := first | omega | (simp only [List.length_append, List.length_cons, List.length_nil]; omega)) only [go_sem, a9, a10]
   exact ⟨by first | trivial | omega, uu, uu, by rw [hsc] <;> exact uu, by rw [hoks] <;> exact uu, uu, xw.trans X⟩
  ·obtain rfl : k = L.length := by omega
   have hsl := scr_len hv L.length (by omega)
   have hok := okN_len L.length
   rw [List.take_length] at a8 hsl
   have hex := exF_scr hv
   rw [List.append_assoc] at hex
   have hd0 : Dk.Good ⟨[[0]], L⟩ := ⟨d0_good.1, hv⟩
   have hEl := endL_len hd0
   have hMl : (mtext L (bestOf L)).length = 110 := by rw [mtext_eq, mpre_len]
   have e1 : binV Tryz.prog .add 9 (.string (bs (scr L))) (.string (bs [109, 97, 112, 10])) = some (.string (bs (scr L ++ (mapT ++ [10])))) := bin_adds _ [109, 97, 112, 10] (by simp; omega)
   simp (disch := omega) only [go_sem, a10, a3, hkn, a8, e1]
   refine callK_pure (by kernel_rfl) (implExecute_c (scr L ++ (mapT ++ [10])) _) fun w5 x5 => ?_
   rw [hex]
   simp (disch := omega) only [go_sem, a9, a3, a4]
   refine callK_pure (by kernel_rfl) (implSettingText_c la L lc oa (bestOf L) oc _ ((hL4.ext xw).ext x5) hlc hv ((o4.ext xw).ext x5) hfit) fun w6 x6 => ?_
   generalize hK : okN L.length = K at *
   generalize mtext L (bestOf L) = M at *
   have l1 : (K ++ M).length = K.length + M.length := List.length_append
   have e2 : binV Tryz.prog .add 9 (.string (bs K)) (.string (bs M)) = some (.string (bs (K ++ M))) := bin_adds _ _ (by omega)
   have e3 : binV Tryz.prog .add 9 (.string (bs (K ++ M))) (.string (bs (endL ⟨[[0]], L⟩))) = some (.string (bs (K ++ M ++ endL ⟨[[0]], L⟩))) := bin_adds _ _ (by omega)
   simp (disch := omega) only [go_sem, e2]
   refine bslK_1 elt_i rfl fun w7 b1 _ x7 k1 _ => ?_
   simp (disch := omega) only [go_sem]
   refine bslK_1 elt_ii rfl fun w8 b2 _ x8 k2 _ => ?_
   simp (disch := omega) only [go_sem, a3]
   refine callK_pure (by kernel_rfl) (endLineN_c _ [[0]] _ _ 1 L h6 _ (rows00 (k1.ext x8) k2) d0_good.1) fun w9 x9 => ?_
   simp (disch := omega) only [go_sem, e3, beq_self_eq_true, Tryz.results7]
   exact ⟨trivial, x14.trans (((((xw.trans x5).trans x6).trans x7).trans x8).trans x9)⟩
end Go.Proofs.YtcbmhjndbpafbaaGreatDoor
