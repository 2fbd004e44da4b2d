/- Facts on the types of this seat. Written by a program of ours. -/
import Derived.Test.YtlnodngkacbfkaaChecked
import Derived.Test.YtlnodngkacbfkaaG
set_option linter.all false
set_option maxRecDepth 20000
namespace Go.Proofs.Ytlnodngkacbfkaa
open Go.RowKit Go.SW

theorem esz_ii : esz Try.prog 22 = some 1 := by kernel_rfl
theorem isl_ii : isSl Try.prog 22 = true := by kernel_rfl
theorem elt_ii : elt Try.prog 22 = some (24, 1, .slice none 0 0, 24) := by kernel_rfl
attribute [go_sem] esz_ii isl_ii
theorem esz_i : esz Try.prog 24 = some 1 := by kernel_rfl
theorem isl_i : isSl Try.prog 24 = true := by kernel_rfl
theorem elt_i : elt Try.prog 24 = some (3, 1, .int .i64 0, 8) := by kernel_rfl
attribute [go_sem] esz_i isl_i
theorem esz_b : esz Try.prog 31 = some 1 := by kernel_rfl
theorem isl_b : isSl Try.prog 31 = true := by kernel_rfl
theorem elt_b : elt Try.prog 31 = some (5, 1, .int .u8 0, 1) := by kernel_rfl
attribute [go_sem] esz_b isl_b
theorem esz_st : esz Try.prog 90 = some 2 := by kernel_rfl
theorem isl_st : isSl Try.prog 90 = true := by kernel_rfl
attribute [go_sem] esz_st isl_st
theorem scal_int : scal Try.prog 3 = true := by kernel_rfl
theorem siz_int : (Try.prog.info? 3).map (·.size) = some 1 := by kernel_rfl
attribute [go_sem] scal_int
theorem scal_u8 : scal Try.prog 5 = true := by kernel_rfl
theorem siz_u8 : (Try.prog.info? 5).map (·.size) = some 1 := by kernel_rfl
attribute [go_sem] scal_u8
theorem scal_bool : scal Try.prog 4 = true := by kernel_rfl
theorem siz_bool : (Try.prog.info? 4).map (·.size) = some 1 := by kernel_rfl
attribute [go_sem] scal_bool
theorem scal_str : scal Try.prog 9 = true := by kernel_rfl
theorem siz_str : (Try.prog.info? 9).map (·.size) = some 1 := by kernel_rfl
attribute [go_sem] scal_str
theorem scal_i : scal Try.prog 24 = true := by kernel_rfl
theorem siz_i : (Try.prog.info? 24).map (·.size) = some 1 := by kernel_rfl
attribute [go_sem] scal_i
theorem scal_ii : scal Try.prog 22 = true := by kernel_rfl
theorem siz_ii : (Try.prog.info? 22).map (·.size) = some 1 := by kernel_rfl
attribute [go_sem] scal_ii
theorem scal_b : scal Try.prog 31 = true := by kernel_rfl
theorem siz_b : (Try.prog.info? 31).map (·.size) = some 1 := by kernel_rfl
attribute [go_sem] scal_b
theorem aggN_f : aggN Try.prog 51 = some 3 := by kernel_rfl
theorem scal_f : scal Try.prog 51 = false := by kernel_rfl
theorem siz_f : (Try.prog.info? 51).map (·.size) = some 3 := by kernel_rfl
theorem foff_f0 : foff Try.prog 51 0 = some 0 := by kernel_rfl
theorem foff_f1 : foff Try.prog 51 1 = some 1 := by kernel_rfl
theorem foff_f2 : foff Try.prog 51 2 = some 2 := by kernel_rfl
theorem zero_f : zeroC Try.prog 51 = some #[.int .i64 0, .int .i64 0, .slice none 0 0] := by kernel_rfl
theorem bld_f0 : buildV Try.prog 51 [] = some (.agg #[.int .i64 0, .int .i64 0, .slice none 0 0]) := by kernel_rfl
theorem bld_f3 (a b : Int) (x : Option Addr) (n c : Nat) : buildV Try.prog 51 [(0, .int .i64 a), (1, .int .i64 b), (2, .slice x n c)] = some (.agg #[.int .i64 a, .int .i64 b, .slice x n c]) := by kernel_rfl
attribute [go_sem] aggN_f scal_f foff_f0 foff_f1 foff_f2 bld_f0 bld_f3
theorem aggN_rd : aggN Try.prog 80 = some 2 := by kernel_rfl
theorem scal_rd : scal Try.prog 80 = false := by kernel_rfl
theorem foff_rd0 : foff Try.prog 80 0 = some 0 := by kernel_rfl
theorem foff_rd1 : foff Try.prog 80 1 = some 1 := by kernel_rfl
theorem bld_rd (x : Option Addr) (n c : Nat) : buildV Try.prog 80 [(0, .slice x n c)] = some (.agg #[.slice x n c, .int .i64 0]) := by kernel_rfl
theorem cv_u8 (x : Int) : cvV Try.prog 5 3 (.int .u8 x) = some (.int .i64 (IntKind.i64.wrap x)) := by kernel_rfl
attribute [go_sem] aggN_rd scal_rd foff_rd0 foff_rd1 bld_rd cv_u8

end Go.Proofs.Ytlnodngkacbfkaa
