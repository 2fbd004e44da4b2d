import Derived.Test.YtcbmhjndbpafbaaGreatDoorK8
import Derived.Test.YtcbmhjndbpafbaaGreatDoorKp
import Derived.Recover
set_option linter.all false
set_option maxRecDepth 20000
namespace Go.Proofs.YtcbmhjndbpafbaaGreatDoor
open Go.RowKit Go.SW
theorem zero_or : zeroC Tryz.prog 130 = some #[.int .i64 0, .nilFunc] := ke
theorem siz_or : (Tryz.prog.info? 130).map (·.size) = some 2 := ke
theorem foff_or0 : foff Tryz.prog 130 0 = some 0 := ke
theorem foff_or1 : foff Tryz.prog 130 1 = some 1 := ke
theorem aggN_or : aggN Tryz.prog 130 = some 2 := ke
theorem scal_or : scal Tryz.prog 130 = false := ke
theorem bld_or (n : Int) (g : Nat) : buildV Tryz.prog 130 [(0, .int .i64 n), (1, .func (.func g) #[] #[])] = some (.agg #[.int .i64 n, .func (.func g) #[] #[]]) := ke
theorem key_or : keyOk Tryz.prog 132 = some (9, 130, .string) := ke
theorem scal_fo : scal Tryz.prog 128 = true := ke
attribute [go_sem] foff_or0 foff_or1 aggN_or scal_or bld_or scal_fo
def ord (s : List UInt8) (n : Int) (g : Nat) (i : Nat) : MapEntry := ⟨.string (bs s), .agg #[.int .i64 n, .func (.func g) #[] #[]], i⟩
def ordL : Array MapEntry := #[ord [115, 101, 116] 3 119 0, ord [116, 117, 114, 110] 0 120 1, ord [109, 105, 114, 114, 111, 114] 0 121 2, ord [105, 110, 118, 101, 114, 116] 0 122 3, ord [102, 105, 108, 108] 0 123 4, ord [115, 104, 111, 119] 0 124 5, ord [114, 117, 110] 2 125 6, ord [108, 97, 110, 100] 1 126 7, ord [112, 101, 97, 107, 115] 0 127 8, ord [115, 101, 101, 115] 3 128 9, ord [110, 97, 109, 101] 4 129 10, ord [109, 97, 112] 0 130 11, ord [112, 108, 97, 99, 101] 2 131 12]
def OrdAt (w : World) (b : Nat) : Prop := w.heap[b]? = some (.map ordL 13)
theorem OrdAt.ext {w w' : World} {b : Nat} (h : OrdAt w b) (x : Ext w w') : OrdAt w' b := by
 unfold OrdAt; rw [Below.block x b (Array.getElem?_eq_some_iff.1 h).1]; exact h
theorem orders_c (w : World) : Ret Tryz.prog 94 #[] w fun v w' => ∃ b, v = .map (some b) ∧ Ext w w' ∧ OrdAt w' b := by
 refine enter0 Tryz.func94 rfl fun f => ?_
 simp (disch := omega) only [go_sem]
 refine mmK_of fun w0 b e1 x1 h0 _ => ?_
 have hb : w.heap.size ≤ b := om
 simp (disch := omega) only [go_sem]
 refine insK_new key_or h0 rfl fun w1 h0 g => ?_
 have x1 := g.ext x1 hb
 simp (disch := omega) only [go_sem]
 refine insK_new key_or h0 rfl fun w2 h0 g => ?_
 have x1 := g.ext x1 hb
 simp (disch := omega) only [go_sem]
 refine insK_new key_or h0 rfl fun w3 h0 g => ?_
 have x1 := g.ext x1 hb
 simp (disch := omega) only [go_sem]
 refine insK_new key_or h0 rfl fun w4 h0 g => ?_
 have x1 := g.ext x1 hb
 simp (disch := omega) only [go_sem]
 refine insK_new key_or h0 rfl fun w5 h0 g => ?_
 have x1 := g.ext x1 hb
 simp (disch := omega) only [go_sem]
 refine insK_new key_or h0 rfl fun w6 h0 g => ?_
 have x1 := g.ext x1 hb
 simp (disch := omega) only [go_sem]
 refine insK_new key_or h0 rfl fun w7 h0 g => ?_
 have x1 := g.ext x1 hb
 simp (disch := omega) only [go_sem]
 refine insK_new key_or h0 rfl fun w8 h0 g => ?_
 have x1 := g.ext x1 hb
 simp (disch := omega) only [go_sem]
 refine insK_new key_or h0 rfl fun w9 h0 g => ?_
 have x1 := g.ext x1 hb
 simp (disch := omega) only [go_sem]
 refine insK_new key_or h0 rfl fun w10 h0 g => ?_
 have x1 := g.ext x1 hb
 simp (disch := omega) only [go_sem]
 refine insK_new key_or h0 rfl fun w11 h0 g => ?_
 have x1 := g.ext x1 hb
 simp (disch := omega) only [go_sem]
 refine insK_new key_or h0 rfl fun w12 h0 g => ?_
 have x1 := g.ext x1 hb
 simp (disch := omega) only [go_sem]
 refine insK_new key_or h0 rfl fun w13 h0 g => ?_
 have x1 := g.ext x1 hb
 simp (disch := omega) only [go_sem, Tryz.results94]
 exact ⟨b, rfl, x1, h0⟩
theorem become_c (d : Nat) (x y : Value) (a : Option Addr) (n c : Nat) (w : World) (k : Blk w d #[x, y] 51) :
  Ret Tryz.prog 92 #[.pointer (some ⟨d, 0, none⟩), .slice a n c, .bool true] w fun v w' => v = .tuple #[.string (bs [111, 107, 10]), .bool true] ∧ Wrote d w w' ∧ Blk w' d #[.slice a n c, y] 51 := by
 refine enter3 Tryz.func92 rfl fun f a0 a1 a2 => ?_
 simp (disch := omega) only [go_sem, a0, a1, a2]
 refine stK_blk siz_ii rf rf k sm fun w1 k1 g1 => ?_
 simp (disch := omega) only [go_sem, Tryz.results92]
 exact ⟨trivial, g1, by simpa using k1⟩
theorem vi_cell {w : World} {b : Nat} {l : List Int} {T : TypeId} (k : Blk w b (vi l).toArray T) {i : Nat} (h : i < l.length) : w.cell? ⟨b, i, none⟩ = some (.int .i64 (l.getD i 0)) := by
 rw [k.cell, List.getElem?_toArray, vi_get l i h]
theorem answerIdle_c (p : Addr) (w : World) : CallsD Tryz.prog 64 #[.pointer (some p)] .returning w fun e u' w' => e = .returned (.tuple #[]) ∧ u' = .returning ∧ w' = w := by
 refine callsD_of_wpS Tryz.func64 rfl fun c₀ cs hu => ?_
 apply wpS_seq
 apply wpS_region
 simp [wpOpsS, go_sem, recoverD, hu, Tryz.ntmps64, Exit.thenS]
 apply wpS_seq
 apply wpS_region
 simp [wpOpsS, go_sem, Exit.thenS]
 refine wpS_cond (t := false) (by simp [Act.eval, Array.replicate]) ?_
 simp only [Bool.false_eq_true, if_false]
 refine wpS_of_wp (wp_skip ?_)
 cases c₀
 simp_all [bodyPostS, results, Tryz.results64]
theorem answer_c (d : Nat) (l out : List UInt8) (w : World) (R : World → World → Prop) (hR : ∀ W, Ext w W → W.heap.size = w.heap.size + 1 → Ret Tryz.prog 65 #[.pointer (some ⟨d, 0, none⟩), .string (bs l)] W fun v w' => v = .tuple #[.string (bs out), .bool true] ∧ Grow (some d) W w' ∧ R W w') (hdw : d < w.heap.size) :
  Ret Tryz.prog 32 #[.pointer (some ⟨d, 0, none⟩), .string (bs l)] w fun v w' => v = .string (bs out) ∧ ∃ W W', Ext w W ∧ Grow (some d) W W' ∧ R W W' ∧ Wrote w.heap.size W' w' := by
 have hmf : ∀ (fn : Fn) (first cap : Array Value) (w : World), (Instr.makeFunc fn first cap).run Tryz.prog w = .ok (.func fn first cap) w := fun _ _ _ _ => rfl
 unfold Ret
 go_enter_defers Tryz.func32, Tryz.ntmps32
 go_wp2_with (go_at_call 65; refine Calls.mono (hR _ (ext_alloc w _) sm) ?_; rintro e w2 ⟨v, rfl, rfl, g, hr⟩; have k2 := g.blk (heap_alloc_new w (.cells #[.string (bs [])] 9) : Blk (w.alloc (.cells #[.string (bs [])] 9)) w.heap.size #[.string (bs [])] 9) sq; have hc : w2.cell? ⟨w.heap.size, 0, none⟩ = some (.string (bs [])) := (by rw [k2.cell]; rfl); have hz : w2.frozen? ⟨w.heap.size, 0, none⟩ = false := k2.frozen 0)
 have k3 := Blk.put k2 0 (.string (bs out))
 have hc3 : (w2.setCell ⟨w.heap.size, 0, none⟩ (.string (bs out))).cell? ⟨w.heap.size, 0, none⟩ = some (.string (bs out)) := by rw [k3.cell]; rfl
 refine leaves_cons (f := 64) (args := #[.pointer (some ⟨w.heap.size, 0, none⟩)]) sm (by simp [go_sem]) ?_
 refine (answerIdle_c ⟨w.heap.size, 0, none⟩ _).mono ?_
 rintro e u' w'' ⟨rfl, rfl, rfl⟩
 have fin : ∃ W W', Ext w W ∧ Grow (some d) W W' ∧ R W W' ∧ Wrote w.heap.size W' (w2.setCell ⟨w.heap.size, 0, none⟩ (.string (bs out))) := ⟨_, w2, ext_alloc w _, g, hr, wrote_setCell w2 ⟨w.heap.size, 0, none⟩ _⟩
 obtain ⟨W, W', f1, f2, f3, f4⟩ := fin
 simp [Leaves, settle, results, Tryz.results32, go_sem, hc3]
 exact ⟨W, f1, W', f2, f3, f4⟩
theorem scal_labs : scal Tryz.prog 33 = true := ke
attribute [go_sem] scal_labs
def St (w W : World) (d bb sb : Nat) (cs : Array Value) (rows : List (List Int)) (l : List UInt8) : Prop :=
 ∃ bf, Bld W 56 5 bb l bf ∧ Desk W 51 d rows (fun x => x = bb ∨ bf = some x) ∧ (∀ x, bf = some x → x ≠ d ∧ x ≠ sb ∧ w.heap.size ≤ x) ∧ Ext w W ∧ Blk W sb cs 9 ∧ d ≠ bb ∧ sb ≠ bb ∧ sb ≠ d ∧ w.heap.size ≤ d ∧ w.heap.size ≤ bb
theorem St.ext {w W W' : World} {d bb sb : Nat} {cs : Array Value} {rows : List (List Int)} {l : List UInt8} (h : St w W d bb sb cs rows l) (e : Ext W W') : St w W' d bb sb cs rows l := by
 obtain ⟨bf, hb, dk, hf, x, ks, r⟩ := h
 exact ⟨bf, hb.ext e, dk.ext e, hf, x.trans e, ks.ext e, r⟩
end Go.Proofs.YtcbmhjndbpafbaaGreatDoor
