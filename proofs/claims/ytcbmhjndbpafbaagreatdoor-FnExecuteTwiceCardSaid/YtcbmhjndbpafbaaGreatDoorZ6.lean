import Derived.Test.YtcbmhjndbpafbaaGreatDoorK5
set_option linter.all false
set_option maxRecDepth 20000
namespace Go.SW
open Go Go.RowKit
def sname (c r : Nat) : List UInt8 := UInt8.ofNat (65 + r) :: dec (c + 1)
def ltr (e s : Nat) : UInt8 := UInt8.ofNat (97 + e + 2 * s)
def fname (x y : Nat) : List UInt8 := sname (x / 4) (y / 4) ++ [ltr (x / 2 % 2) (y / 2 % 2)] ++ [ltr (x % 2) (y % 2)]
def plc (x y : Int) : Bool := decide (0 ≤ x ∧ x < 104 ∧ 0 ≤ y ∧ y < 104)
theorem plc_iff {x y : Int} : plc x y = true ↔ (0 ≤ x ∧ x < 104 ∧ 0 ≤ y ∧ y < 104) := by simp [plc]
theorem sname_len (c r : Nat) : 2 ≤ (sname c r).length ∧ (sname c r).length ≤ c + 3 := by
 have := dec_len (c + 1); simp only [sname, List.length_cons]; omega
def abcd : List UInt8 := [97, 98, 99, 100]
def sheetOf (x y : Int) : List UInt8 := if plc x y then sname (x.toNat / 4) (y.toNat / 4) else []
def placeName (x y : Int) : List UInt8 := if plc x y then fname x.toNat y.toNat else []
end Go.SW
namespace Go.Proofs.YtcbmhjndbpafbaaGreatDoor
open Go.RowKit Go.SW
theorem l7Side_c (w : World) : Ret Tryz.prog 208 #[] w fun v w' => v = .int .i64 104 ∧ Ext w w' := by
 refine enter0 Tryz.func208 rfl fun f => ?_
 simp (disch := omega) only [go_sem, Tryz.results208]
 exact ⟨trivial, Ext.refl _⟩
theorem l7Place_c (x y : Int) (w : World) : Ret Tryz.prog 180 #[.int .i64 x, .int .i64 y] w fun v w' => v = .bool (plc x y) ∧ Ext w w' := by
 refine enter2 Tryz.func180 rfl fun f a0 a1 => ?_
 simp (disch := omega) only [go_sem, a0]
 refine callK_pure ke (l7Side_c _) fun w1 x1 => ?_
 simp (disch := omega) only [go_sem]
 refine callK_pure ke (l6In_c _ _ _ _) fun w2 x2 => ?_
 cases h : decide (0 ≤ x ∧ x ≤ 104 - 1) with
 | true =>
  simp (disch := omega) only [go_sem, a1, h]
  refine callK_pure ke (l7Side_c _) fun w3 x3 => ?_
  simp (disch := omega) only [go_sem]
  refine callK_pure ke (l6In_c _ _ _ _) fun w4 x4 => ?_
  have h' := of_decide_eq_true h
  simp (disch := omega) only [go_sem, Tryz.results180]
  refine ⟨?_, ((x1.trans x2).trans x3).trans x4⟩
  congr 1
  rw [plc]
  congr 1
  exact propext ⟨fun h => om, fun h => om⟩
 | false =>
  have h' := of_decide_eq_false h
  simp (disch := omega) only [go_sem, h, Tryz.results180]
  refine ⟨?_, x1.trans x2⟩
  congr 1
  rw [plc, eq_comm, decide_eq_false_iff_not]
  omega
theorem placeThere_c (x y : Int) (w : World) : Ret Tryz.prog 200 #[.agg #[.int .i64 x, .int .i64 y]] w fun v w' => v = .bool (plc x y) ∧ Ext w w' := by
 refine enter1 Tryz.func200 rfl fun f a0 => ?_
 simp (disch := omega) only [go_sem, a0]
 refine boxK_of fun w1 b _ x1 k1 _ => ?_
 by_cases h1 : 0 ≤ x
 ·by_cases h2 : x < 104
  ·by_cases h3 : 0 ≤ y
   ·by_cases h4 : y < 104
    ·simp (disch := omega) only [go_sem, k1.cell, Value.cells, h1, h2, h3, h4, Tryz.results200]
     exact ⟨by simp [plc, *], x1⟩
    ·simp (disch := omega) only [go_sem, k1.cell, Value.cells, h1, h2, h3, h4, Tryz.results200]
     exact ⟨by simp [plc, *], x1⟩
   ·simp (disch := omega) only [go_sem, k1.cell, Value.cells, h1, h2, h3, Tryz.results200]
    exact ⟨by simp [plc, *], x1⟩
  ·simp (disch := omega) only [go_sem, k1.cell, Value.cells, h1, h2, Tryz.results200]
   exact ⟨by simp [plc, *], x1⟩
 ·simp (disch := omega) only [go_sem, k1.cell, Value.cells, h1, Tryz.results200]
  exact ⟨by simp [plc, *], x1⟩
theorem l7Name_c (c r : Nat) (hc : c < 1000) (hr : r < 26) (w : World) : Ret Tryz.prog 181 #[.int .i64 c, .int .i64 r] w fun v w' => v = .string (bs (sname c r)) ∧ Ext w w' := by
 refine enter2 Tryz.func181 rfl fun f a0 a1 => ?_
 have e1 : (c : Int) + 1 = ((c + 1 : Nat) : Int) := om
 have hl := dec_len (c + 1)
 simp (disch := omega) only [go_sem]
 refine QR_sch none (.st 0 (.st 1 (.st 2 (.st 5 (.st 6 (.alt (.ef 3 (.alt (.ef 4 (.ef 7 (.st 8 (.st 9 (.done))))) (.ef 7 (.ef 4 (.st 8 (.st 9 (.done))))))) (.ef 7 (.ef 3 (.ef 4 (.st 8 (.st 9 (.done)))))))))))) ke ke fun w0 x0 => ?_
 have X := x0
 simp (disch := omega) only [go_sem, a0, a1, e1]
 refine RLT_alt ?_ ?_
 ·simp (disch := omega) only [go_sem, a0, a1, e1]
  refine bslK_1 elt_b rfl fun w1 b1 _ y1 k1 _ => ?_
  refine nxE_of (y1.grow _) ?_
  have X := X.trans y1
  simp (disch := omega) only [go_sem, a0, a1, e1]
  refine RLT_alt ?_ ?_
  ·simp (disch := omega) only [go_sem, a0, a1, e1]
   refine cvK_1 cvb_bs k1 ?_
   refine nxE_of (Grow.refl _ _) ?_
   simp (disch := omega) only [go_sem, a0, a1, e1]
   refine callK_of ke (l6Dec_c _ om _) ?_
   rintro _ w1 ⟨rfl, y1⟩
   refine nxE_of (y1.grow _) ?_
   have X := X.trans y1
   have k1 := k1.ext y1
   simp (disch := omega) only [go_sem, Tryz.results181]
   exact ⟨by rw [sname]; congr 4, X⟩
  ·simp (disch := omega) only [go_sem, a0, a1, e1]
   refine callK_of ke (l6Dec_c _ om _) ?_
   rintro _ w1 ⟨rfl, y1⟩
   refine nxE_of (y1.grow _) ?_
   have X := X.trans y1
   have k1 := k1.ext y1
   simp (disch := omega) only [go_sem, a0, a1, e1]
   refine cvK_1 cvb_bs k1 ?_
   refine nxE_of (Grow.refl _ _) ?_
   simp (disch := omega) only [go_sem, Tryz.results181]
   exact ⟨by rw [sname]; congr 4, X⟩
 ·simp (disch := omega) only [go_sem, a0, a1, e1]
  refine callK_of ke (l6Dec_c _ om _) ?_
  rintro _ w1 ⟨rfl, y1⟩
  refine nxE_of (y1.grow _) ?_
  have X := X.trans y1
  simp (disch := omega) only [go_sem, a0, a1, e1]
  refine bslK_1 elt_b rfl fun w1 b1 _ y1 k1 _ => ?_
  refine nxE_of (y1.grow _) ?_
  have X := X.trans y1
  simp (disch := omega) only [go_sem, a0, a1, e1]
  refine cvK_1 cvb_bs k1 ?_
  refine nxE_of (Grow.refl _ _) ?_
  simp (disch := omega) only [go_sem, Tryz.results181]
  exact ⟨by rw [sname]; congr 4, X⟩
theorem sheetName_c (c r : Nat) (hc : c < 99) (hr : r < 26) (w : World) : Ret Tryz.prog 225 #[.agg #[.int .i64 r, .int .i64 c]] w fun v w' => v = .string (bs (sname c r)) ∧ Ext w w' := by
 refine enter1 Tryz.func225 rfl fun f a0 => ?_
 have e1 : (c : Int) + 1 = ((c + 1 : Nat) : Int) := om
 have hl := dec_len (c + 1)
 simp (disch := omega) only [go_sem, a0]
 refine boxK_of fun w1 b _ x1 kb _ => ?_
 simp (disch := omega) only [go_sem]
 refine QR_sch none (.st 0 (.st 1 (.st 2 (.st 3 (.st 6 (.st 7 (.st 8 (.alt (.ef 4 (.alt (.ef 5 (.ef 9 (.st 10 (.st 11 (.done))))) (.ef 9 (.ef 5 (.st 10 (.st 11 (.done))))))) (.ef 9 (.ef 4 (.ef 5 (.st 10 (.st 11 (.done)))))))))))))) ke ke fun w0 x0 => ?_
 have X := x1.trans x0
 have kb := kb.ext x0
 simp (disch := omega) only [go_sem, kb.cell, Value.cells, ldS_none, e1]
 refine RLT_alt ?_ ?_
 ·simp (disch := omega) only [go_sem, kb.cell, Value.cells, ldS_none, e1]
  refine bslK_1 elt_b rfl fun w1 b1 _ y1 k1 _ => ?_
  refine nxE_of (y1.grow _) ?_
  have X := X.trans y1
  have kb := kb.ext y1
  simp (disch := omega) only [go_sem, kb.cell, Value.cells, ldS_none, e1]
  refine RLT_alt ?_ ?_
  ·simp (disch := omega) only [go_sem, kb.cell, Value.cells, ldS_none, e1]
   refine cvK_1 cvb_bs k1 ?_
   refine nxE_of (Grow.refl _ _) ?_
   simp (disch := omega) only [go_sem, kb.cell, Value.cells, ldS_none, e1]
   refine callK_of ke (itoa_c _ om _) ?_
   rintro _ w1 ⟨rfl, y1⟩
   refine nxE_of (y1.grow _) ?_
   have X := X.trans y1
   have kb := kb.ext y1
   have k1 := k1.ext y1
   simp (disch := omega) only [go_sem, Tryz.results225]
   exact ⟨by rw [sname]; congr 4, X⟩
  ·simp (disch := omega) only [go_sem, kb.cell, Value.cells, ldS_none, e1]
   refine callK_of ke (itoa_c _ om _) ?_
   rintro _ w1 ⟨rfl, y1⟩
   refine nxE_of (y1.grow _) ?_
   have X := X.trans y1
   have kb := kb.ext y1
   have k1 := k1.ext y1
   simp (disch := omega) only [go_sem, kb.cell, Value.cells, ldS_none, e1]
   refine cvK_1 cvb_bs k1 ?_
   refine nxE_of (Grow.refl _ _) ?_
   simp (disch := omega) only [go_sem, Tryz.results225]
   exact ⟨by rw [sname]; congr 4, X⟩
 ·simp (disch := omega) only [go_sem, kb.cell, Value.cells, ldS_none, e1]
  refine callK_of ke (itoa_c _ om _) ?_
  rintro _ w1 ⟨rfl, y1⟩
  refine nxE_of (y1.grow _) ?_
  have X := X.trans y1
  have kb := kb.ext y1
  simp (disch := omega) only [go_sem, kb.cell, Value.cells, ldS_none, e1]
  refine bslK_1 elt_b rfl fun w1 b1 _ y1 k1 _ => ?_
  refine nxE_of (y1.grow _) ?_
  have X := X.trans y1
  have kb := kb.ext y1
  simp (disch := omega) only [go_sem, kb.cell, Value.cells, ldS_none, e1]
  refine cvK_1 cvb_bs k1 ?_
  refine nxE_of (Grow.refl _ _) ?_
  simp (disch := omega) only [go_sem, Tryz.results225]
  exact ⟨by rw [sname]; congr 4, X⟩
theorem placeSheet_c (x y : Nat) (hx : x < 104) (hy : y < 104) (w : World) : Ret Tryz.prog 224 #[.agg #[.int .i64 x, .int .i64 y]] w fun v w' => v = .agg #[.int .i64 (y / 4 : Nat), .int .i64 (x / 4 : Nat)] ∧ Ext w w' := by
 refine enter1 Tryz.func224 rfl fun f a0 => ?_
 have e1 : (x : Int) / 4 = ((x / 4 : Nat) : Int) := rfl
 have e2 : (y : Int) / 4 = ((y / 4 : Nat) : Int) := rfl
 simp (disch := omega) only [go_sem, a0]
 refine boxK_of fun w1 b _ x1 kb _ => ?_
 simp (disch := omega) only [go_sem]
 refine allocK_of zero_sh fun w2 b2 _ x2 k2 _ => ?_
 have kb2 := kb.ext x2
 simp (disch := omega) only [go_sem, kb2.cell, Value.cells, e1, e2]
 refine stK_agg siz_sh sm oi k2 sm fun w3 k3 g3 => ?_
 simp (disch := omega) only [go_sem, readCells_blk k3 (n := 2) (by simp [Value.cells]), Tryz.results224]
 exact ⟨trivial, g3.ext (x1.trans x2) (by have := x1.size; omega)⟩
theorem letter1_c (x y : Nat) (hx : x < 104) (hy : y < 104) (w : World) : Ret Tryz.prog 227 #[.agg #[.int .i64 x, .int .i64 y], .int .i64 1] w fun v w' => v = .string (bs [ltr (x % 2) (y % 2)]) ∧ Ext w w' := by
 refine enter2 Tryz.func227 rfl fun f a0 a1 => ?_
 have e1 : (x : Int) / 1 = ((x : Nat) : Int) := om
 have e2 : (y : Int) / 1 = ((y : Nat) : Int) := om
 have e3 : ((x : Nat) : Int) % 2 = ((x % 2 : Nat) : Int) := rfl
 have e4 : ((y : Nat) : Int) % 2 = ((y % 2 : Nat) : Int) := rfl
 simp (disch := omega) only [go_sem, a0, a1]
 refine boxK_of fun w1 b _ x1 kb _ => ?_
 simp (disch := omega) only [go_sem]
 refine QR_sch none (.st 0 (.st 1 (.st 2 (.st 3 (.st 4 (.st 5 (.st 6 (.st 7 (.st 8 (.st 9 (.st 10 (.st 11 (.st 12 (.st 13 (.ef 14 (.ef 15 (.st 16 (.done)))))))))))))))))) ke ke fun w0 x0 => ?_
 have X := x1.trans x0
 have kb := kb.ext x0
 simp (disch := omega) only [go_sem, kb.cell, Value.cells, ldS_none, a1, e1, e2, e3, e4]
 refine bslK_1 elt_b rfl fun w1 b1 _ y1 k1 _ => ?_
 refine nxE_of (y1.grow _) ?_
 have X := X.trans y1
 have kb := kb.ext y1
 simp (disch := omega) only [go_sem, kb.cell, Value.cells, ldS_none, a1, e1, e2, e3, e4]
 refine cvK_1 cvb_bs k1 ?_
 refine nxE_of (Grow.refl _ _) ?_
 simp (disch := omega) only [go_sem, Tryz.results227]
 exact ⟨by rw [ltr]; congr 4, X⟩
theorem letter2_c (x y : Nat) (hx : x < 104) (hy : y < 104) (w : World) : Ret Tryz.prog 227 #[.agg #[.int .i64 x, .int .i64 y], .int .i64 2] w fun v w' => v = .string (bs [ltr (x / 2 % 2) (y / 2 % 2)]) ∧ Ext w w' := by
 refine enter2 Tryz.func227 rfl fun f a0 a1 => ?_
 have e1 : (x : Int) / 2 = ((x / 2 : Nat) : Int) := om
 have e2 : (y : Int) / 2 = ((y / 2 : Nat) : Int) := om
 have e3 : ((x / 2 : Nat) : Int) % 2 = ((x / 2 % 2 : Nat) : Int) := rfl
 have e4 : ((y / 2 : Nat) : Int) % 2 = ((y / 2 % 2 : Nat) : Int) := rfl
 simp (disch := omega) only [go_sem, a0, a1]
 refine boxK_of fun w1 b _ x1 kb _ => ?_
 simp (disch := omega) only [go_sem]
 refine QR_sch none (.st 0 (.st 1 (.st 2 (.st 3 (.st 4 (.st 5 (.st 6 (.st 7 (.st 8 (.st 9 (.st 10 (.st 11 (.st 12 (.st 13 (.ef 14 (.ef 15 (.st 16 (.done)))))))))))))))))) ke ke fun w0 x0 => ?_
 have X := x1.trans x0
 have kb := kb.ext x0
 simp (disch := omega) only [go_sem, kb.cell, Value.cells, ldS_none, a1, e1, e2, e3, e4]
 refine bslK_1 elt_b rfl fun w1 b1 _ y1 k1 _ => ?_
 refine nxE_of (y1.grow _) ?_
 have X := X.trans y1
 have kb := kb.ext y1
 simp (disch := omega) only [go_sem, kb.cell, Value.cells, ldS_none, a1, e1, e2, e3, e4]
 refine cvK_1 cvb_bs k1 ?_
 refine nxE_of (Grow.refl _ _) ?_
 simp (disch := omega) only [go_sem, Tryz.results227]
 exact ⟨by rw [ltr]; congr 4, X⟩
theorem key_k : keyOk Tryz.prog 196 = some (9, 195, .string) := ke
def KindsAt (w : World) (b : Nat) : Prop := w.heap[b]? = some (.map #[⟨.string (bs [115, 104, 101, 101, 116]), .func (.func 223) #[] #[], 0⟩, ⟨.string (bs [102, 117, 108, 108]), .func (.func 226) #[] #[], 1⟩] 2)
theorem kinds_c (w : World) : Ret Tryz.prog 201 #[] w fun v w' => ∃ b, v = .map (some b) ∧ Ext w w' ∧ KindsAt w' b := by
 refine enter0 Tryz.func201 rfl fun f => ?_
 simp (disch := omega) only [go_sem]
 refine mmK_of fun w1 b e1 x1 h1 _ => ?_
 simp (disch := omega) only [go_sem]
 refine insK_new key_k h1 rfl fun w2 h2 g2 => ?_
 simp (disch := omega) only [go_sem]
 refine insK_new key_k h2 rfl fun w3 h3 g3 => ?_
 simp (disch := omega) only [go_sem, Tryz.results201]
 exact ⟨b, rfl, g3.ext (g2.ext x1 om) om, h3⟩
theorem kinds1_c (x y : Nat) (hx : x < 104) (hy : y < 104) (w : World) : Ret Tryz.prog 223 #[.agg #[.int .i64 x, .int .i64 y]] w fun v w' => v = .string (bs (sname (x / 4) (y / 4))) ∧ Ext w w' := by
 refine enter1 Tryz.func223 rfl fun f a0 => ?_
 simp (disch := omega) only [go_sem, a0]
 refine boxK_of fun w1 b _ x1 kb _ => ?_
 simp (disch := omega) only [go_sem, readCells_blk kb (n := 2) (by simp [Value.cells]), Value.cells]
 refine callK_pure ke (placeSheet_c x y hx hy _) fun w2 x2 => ?_
 simp (disch := omega) only [go_sem]
 refine callK_pure ke (sheetName_c (x / 4) (y / 4) om om _) fun w3 x3 => ?_
 simp (disch := omega) only [go_sem, Tryz.results223]
 exact ⟨trivial, (x1.trans x2).trans x3⟩
theorem kinds2_c (x y : Nat) (hx : x < 104) (hy : y < 104) (w : World) : Ret Tryz.prog 226 #[.agg #[.int .i64 x, .int .i64 y]] w fun v w' => v = .string (bs (fname x y)) ∧ Ext w w' := by
 have hl := sname_len (x / 4) (y / 4)
 have hl2 : (sname (x / 4) (y / 4) ++ [ltr (x / 2 % 2) (y / 2 % 2)]).length = (sname (x / 4) (y / 4)).length + 1 := by simp
 refine enter1 Tryz.func226 rfl fun f a0 => ?_
 simp (disch := omega) only [go_sem, a0]
 refine boxK_of fun w1 b _ x1 kb _ => ?_
 simp (disch := omega) only [go_sem]
 refine QR_sch none (.st 0 (.st 3 (.st 6 (.ef 1 (.ef 2 (.ef 4 (.st 5 (.ef 7 (.st 8 (.st 9 (.done))))))))))) ke ke fun w0 x0 => ?_
 have X := x1.trans x0
 have kb := kb.ext x0
 simp (disch := omega) only [go_sem, readCells_blk kb (n := 2) (by simp [Value.cells]), Value.cells, ldS_none]
 refine callK_of ke (placeSheet_c x y hx hy _) ?_
 rintro _ w1 ⟨rfl, y1⟩
 refine nxE_of (y1.grow _) ?_
 have X := X.trans y1
 have kb := kb.ext y1
 simp (disch := omega) only [go_sem, readCells_blk kb (n := 2) (by simp [Value.cells]), Value.cells, ldS_none]
 refine callK_of ke (sheetName_c (x / 4) (y / 4) om om _) ?_
 rintro _ w1 ⟨rfl, y1⟩
 refine nxE_of (y1.grow _) ?_
 have X := X.trans y1
 have kb := kb.ext y1
 simp (disch := omega) only [go_sem, readCells_blk kb (n := 2) (by simp [Value.cells]), Value.cells, ldS_none]
 refine callK_of ke (letter2_c x y hx hy _) ?_
 rintro _ w1 ⟨rfl, y1⟩
 refine nxE_of (y1.grow _) ?_
 have X := X.trans y1
 have kb := kb.ext y1
 simp (disch := omega) only [go_sem, readCells_blk kb (n := 2) (by simp [Value.cells]), Value.cells, ldS_none]
 refine callK_of ke (letter1_c x y hx hy _) ?_
 rintro _ w1 ⟨rfl, y1⟩
 refine nxE_of (y1.grow _) ?_
 have X := X.trans y1
 have kb := kb.ext y1
 simp (disch := omega) only [go_sem, Tryz.results226]
 exact ⟨rfl, X⟩
theorem implPlaceName_c (x y : Int) (w : World) : Ret Tryz.prog 167 #[.int .i64 x, .int .i64 y] w fun v w' => v = .tuple #[.string (bs (placeName x y)), .bool (plc x y)] ∧ Ext w w' := by
 refine enter2 Tryz.func167 rfl fun f a0 a1 => ?_
 simp (disch := omega) only [go_sem, a0, a1]
 refine allocK_of zero_pl fun w1 b1 _ x1 k1 _ => ?_
 simp (disch := omega) only [go_sem, a0, a1]
 refine stK_agg siz_pl sm oi k1 sm fun w2 k2 g2 => ?_
 have x2 := g2.ext x1 om
 simp (disch := omega) only [go_sem, readCells_blk k2 (n := 2) (by simp [Value.cells])]
 refine callK_pure ke (placeThere_c x y _) fun w3 x3 => ?_
 cases hp : plc x y with
 | false =>
  simp (disch := omega) only [go_sem, Tryz.results167]
  exact ⟨by simp [placeName, hp], x2.trans x3⟩
 | true =>
  obtain ⟨h1, h2, h3, h4⟩ := plc_iff.1 hp
  obtain ⟨m, rfl⟩ := Int.eq_ofNat_of_zero_le h1
  obtain ⟨n, rfl⟩ := Int.eq_ofNat_of_zero_le h3
  have k3 := k2.ext x3
  have x23 := x2.trans x3
  simp (disch := omega) only [go_sem]
  refine QR_sch none (.st 2 (.ef 0 (.ef 1 (.ef 3 (.st 4 (.st 5 (.done))))))) ke ke fun w0 x0 => ?_
  have X := x23.trans x0
  have k3 := k3.ext x0
  simp (disch := omega) only [go_sem, readCells_blk k3 (n := 2) (by simp [Value.cells]), Value.cells, ldS_none, Bool.false_eq_true]
  refine callK_of ke (kinds_c _) ?_
  rintro _ w1 ⟨mb, rfl, y1, hm⟩
  refine nxE_of (y1.grow _) ?_
  have X := X.trans y1
  have k3 := k3.ext y1
  simp (disch := omega) only [go_sem, readCells_blk k3 (n := 2) (by simp [Value.cells]), Value.cells, ldS_none, Bool.false_eq_true]
  refine lkK_some key_k hm rfl ?_
  refine nxE_of (Grow.refl _ _) ?_
  simp (disch := omega) only [go_sem, readCells_blk k3 (n := 2) (by simp [Value.cells]), Value.cells, ldS_none, Bool.false_eq_true]
  refine callK_of ke (kinds2_c m n om om _) ?_
  rintro _ w1 ⟨rfl, y1⟩
  refine nxE_of (y1.grow _) ?_
  have X := X.trans y1
  have k3 := k3.ext y1
  simp (disch := omega) only [go_sem, Tryz.results167]
  exact ⟨by simp [placeName, hp], X⟩
theorem specSheetOf_c (x y : Int) (w : World) : Ret Tryz.prog 145 #[.int .i64 x, .int .i64 y] w fun v w' => v = .tuple #[.string (bs (sheetOf x y)), .bool (plc x y)] ∧ Ext w w' := by
 refine enter2 Tryz.func145 rfl fun f a0 a1 => ?_
 simp (disch := omega) only [go_sem, a0, a1]
 refine callK_pure ke (l7Place_c x y _) fun w3 x3 => ?_
 cases hp : plc x y with
 | false =>
  simp (disch := omega) only [go_sem, Tryz.results145]
  exact ⟨by simp [sheetOf, hp], x3⟩
 | true =>
  obtain ⟨h1, h2, h3, h4⟩ := plc_iff.1 hp
  obtain ⟨X, rfl⟩ := Int.eq_ofNat_of_zero_le h1
  obtain ⟨Y, rfl⟩ := Int.eq_ofNat_of_zero_le h3
  have e1 : (X : Int) / 4 = ((X / 4 : Nat) : Int) := rfl
  have e2 : (Y : Int) / 4 = ((Y / 4 : Nat) : Int) := rfl
  simp (disch := omega) only [go_sem, a0, a1, e1, e2]
  refine callK_pure ke (l7Name_c (X / 4) (Y / 4) om om _) fun w4 x4 => ?_
  simp (disch := omega) only [go_sem, Tryz.results145]
  exact ⟨by simp [sheetOf, hp], x3.trans x4⟩
theorem l7Letter_c (e s : Nat) (he : e < 2) (hs : s < 2) (w : World) : Ret Tryz.prog 146 #[.int .i64 e, .int .i64 s] w fun v w' => v = .string (bs [ltr e s]) ∧ Ext w w' := by
 refine enter2 Tryz.func146 rfl fun f a0 a1 => ?_
 have e1 : (2 : Int) * (s : Int) + (e : Int) = ((2 * s + e : Nat) : Int) := om
 have e2 : ((2 * s + e : Nat) : Int) + 1 = ((2 * s + e + 1 : Nat) : Int) := om
 have e3 : ([97, 98, 99, 100] : List UInt8) = abcd := rfl
 have L : abcd.length = 4 := rfl
 simp (disch := omega) only [go_sem, a0, a1, e1, e2, e3, Int.toNat_natCast, Tryz.results146]
 refine ⟨?_, Ext.refl _⟩
 have h1 : e = 0 ∨ e = 1 := om
 have h2 : s = 0 ∨ s = 1 := om
 rcases h1 with rfl | rfl <;> rcases h2 with rfl | rfl <;> rfl
theorem specPlaceName_c (x y : Int) (w : World) : Ret Tryz.prog 111 #[.int .i64 x, .int .i64 y] w fun v w' => v = .tuple #[.string (bs (placeName x y)), .bool (plc x y)] ∧ Ext w w' := by
 refine enter2 Tryz.func111 rfl fun f a0 a1 => ?_
 simp (disch := omega) only [go_sem, a0, a1]
 refine callK_pure ke (specSheetOf_c x y _) fun w3 x3 => ?_
 cases hp : plc x y with
 | false =>
  simp (disch := omega) only [go_sem, Tryz.results111]
  exact ⟨by simp [placeName, hp], x3⟩
 | true =>
  obtain ⟨h1, h2, h3, h4⟩ := plc_iff.1 hp
  obtain ⟨X, rfl⟩ := Int.eq_ofNat_of_zero_le h1
  obtain ⟨Y, rfl⟩ := Int.eq_ofNat_of_zero_le h3
  have e1 : (X : Int) / 2 = ((X / 2 : Nat) : Int) := rfl
  have e2 : (Y : Int) / 2 = ((Y / 2 : Nat) : Int) := rfl
  have e3 : ((X / 2 : Nat) : Int) % 2 = ((X / 2 % 2 : Nat) : Int) := rfl
  have e4 : ((Y / 2 : Nat) : Int) % 2 = ((Y / 2 % 2 : Nat) : Int) := rfl
  have e5 : (X : Int) % 2 = ((X % 2 : Nat) : Int) := rfl
  have e6 : (Y : Int) % 2 = ((Y % 2 : Nat) : Int) := rfl
  have hl := sname_len (X / 4) (Y / 4)
  have hs : sheetOf X Y = sname (X / 4) (Y / 4) := by simp [sheetOf, hp]
  have hl2 : (sname (X / 4) (Y / 4) ++ [ltr (X / 2 % 2) (Y / 2 % 2)]).length = (sname (X / 4) (Y / 4)).length + 1 := by simp
  rw [hs]
  simp (disch := omega) only [go_sem, a0, a1, e1, e2, e3, e4]
  refine callK_pure ke (l7Letter_c (X / 2 % 2) (Y / 2 % 2) om om _) fun w4 x4 => ?_
  simp (disch := omega) only [go_sem, a0, a1, e5, e6]
  refine callK_pure ke (l7Letter_c (X % 2) (Y % 2) om om _) fun w5 x5 => ?_
  simp (disch := omega) only [go_sem, Tryz.results111]
  exact ⟨by simp [placeName, hp, fname], (x3.trans x4).trans x5⟩
end Go.Proofs.YtcbmhjndbpafbaaGreatDoor
