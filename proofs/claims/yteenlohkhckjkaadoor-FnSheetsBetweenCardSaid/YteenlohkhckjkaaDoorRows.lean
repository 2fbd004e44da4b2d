/-
  NARROWER THAN 'FOR EVERY INPUT', by the rows' own cells (each row's printed sentence says how): FnExactSheetOf: laid · FnExactPlaceName: laid · FnExactSheetBeside: laid · FnExactSheetsBetween: laid · FnSheetBeside: laid · FnPlaceFar: laid · FnSheetFrom: laid · FnSheetOf: laid · FnPlaceName: laid · FnSheetsBetween: laid · FnPlaceFrom: laid.
  DERIVED. THE GIVEN ROWS OF THIS SEAT. 11 by the template 'for every input the law returns true; each argument reads behind the call as it read before'; 0 by the template 'total and deterministic' (their statements: YteenlohkhckjkaaDoorTotals.lean).
  GIVEN WITH THE SEED: the statements are not yours to turn. If you find one false, say at which input.
  Laid BY PROGRAM, IN A SANDBOX (cutbox-rows.mjs): the forced cells as the released guide's own fill.sh prints them over the translation b7086a3dde6d189a… (all of the seat's roots in one cut). By AI agents, Wed Nov 11 2026. No macro, syntax, notation, axiom, sorry.
-/
import Derived.Test.YteenlohkhckjkaaDoorChecked
import GoSem.Claim
import GoSem.ClaimJoined
import GoSem.ClaimMapViews
import Derived.JoinedTies
import Derived.KernelRfl
namespace Go.Proofs.YteenlohkhckjkaaDoor
/- THE CELL 'sum', in the pinned program and in every row, IS THE sha256 OF THE DUMP (.gsa) THAT YteenlohkhckjkaaDoorProg.lean LOADS. Nothing in Lean hashes anything: it is a label: what it is worth is what the hold of that sum in a sandbox is worth. -/
noncomputable def Tryd.pinned : Pinned := { name := "yteenlohkhckjkaadoor", sum := "b7086a3dde6d189a7cb22eb8949814ca398a4e13687797ab58cd295990dc3e5c", checked := Tryd.checked }
namespace Rows
def none {H : Type} : Left H := { results := [], args := [] }

/- WHAT THE LISTED PACKAGE-LEVEL VARIABLES READ AS WHEN THE CALL BEGINS. Each datum BY PROGRAM (the guide's laid-datum.mjs) off the statement by which the dump's own 'gosem.cut.vars' lays the variable. In a bare row this is a premise. The card (YteenlohkhckjkaaDoorCards.lean) ties it to the program's text. -/
def laid_math_bits_deBruijn32tab {H : Type} : DataW H := .agg [.lit (.int .u8 0), .lit (.int .u8 1), .lit (.int .u8 28), .lit (.int .u8 2), .lit (.int .u8 29), .lit (.int .u8 14), .lit (.int .u8 24), .lit (.int .u8 3), .lit (.int .u8 30), .lit (.int .u8 22), .lit (.int .u8 20), .lit (.int .u8 15), .lit (.int .u8 25), .lit (.int .u8 17), .lit (.int .u8 4), .lit (.int .u8 8), .lit (.int .u8 31), .lit (.int .u8 27), .lit (.int .u8 13), .lit (.int .u8 23), .lit (.int .u8 21), .lit (.int .u8 19), .lit (.int .u8 16), .lit (.int .u8 7), .lit (.int .u8 26), .lit (.int .u8 12), .lit (.int .u8 18), .lit (.int .u8 6), .lit (.int .u8 11), .lit (.int .u8 5), .lit (.int .u8 10), .lit (.int .u8 9)]
def laid_math_bits_deBruijn64tab {H : Type} : DataW H := .agg [.lit (.int .u8 0), .lit (.int .u8 1), .lit (.int .u8 56), .lit (.int .u8 2), .lit (.int .u8 57), .lit (.int .u8 49), .lit (.int .u8 28), .lit (.int .u8 3), .lit (.int .u8 61), .lit (.int .u8 58), .lit (.int .u8 42), .lit (.int .u8 50), .lit (.int .u8 38), .lit (.int .u8 29), .lit (.int .u8 17), .lit (.int .u8 4), .lit (.int .u8 62), .lit (.int .u8 47), .lit (.int .u8 59), .lit (.int .u8 36), .lit (.int .u8 45), .lit (.int .u8 43), .lit (.int .u8 51), .lit (.int .u8 22), .lit (.int .u8 53), .lit (.int .u8 39), .lit (.int .u8 33), .lit (.int .u8 30), .lit (.int .u8 24), .lit (.int .u8 18), .lit (.int .u8 12), .lit (.int .u8 5), .lit (.int .u8 63), .lit (.int .u8 55), .lit (.int .u8 48), .lit (.int .u8 27), .lit (.int .u8 60), .lit (.int .u8 41), .lit (.int .u8 37), .lit (.int .u8 16), .lit (.int .u8 46), .lit (.int .u8 35), .lit (.int .u8 44), .lit (.int .u8 21), .lit (.int .u8 52), .lit (.int .u8 32), .lit (.int .u8 23), .lit (.int .u8 11), .lit (.int .u8 54), .lit (.int .u8 26), .lit (.int .u8 40), .lit (.int .u8 15), .lit (.int .u8 34), .lit (.int .u8 20), .lit (.int .u8 31), .lit (.int .u8 10), .lit (.int .u8 25), .lit (.int .u8 14), .lit (.int .u8 19), .lit (.int .u8 9), .lit (.int .u8 13), .lit (.int .u8 8), .lit (.int .u8 7), .lit (.int .u8 6)]
def laid_internal_strconv_uint64pow10 {H : Type} : DataW H := .agg [.lit (.int .u64 1), .lit (.int .u64 10), .lit (.int .u64 100), .lit (.int .u64 1000), .lit (.int .u64 10000), .lit (.int .u64 100000), .lit (.int .u64 1000000), .lit (.int .u64 10000000), .lit (.int .u64 100000000), .lit (.int .u64 1000000000), .lit (.int .u64 10000000000), .lit (.int .u64 100000000000), .lit (.int .u64 1000000000000), .lit (.int .u64 10000000000000), .lit (.int .u64 100000000000000), .lit (.int .u64 1000000000000000), .lit (.int .u64 10000000000000000), .lit (.int .u64 100000000000000000), .lit (.int .u64 1000000000000000000), .lit (.int .u64 10000000000000000000)]

/-- 'laws.FnExactSheetOf': WHATEVER THE INPUT: true; the input reads as it did. -/
def fnExactSheetOfSpec : ChangeSpec := { name := "fnExactSheetOf", fn := fun _ => fun
  | [d1, d2] => { results := [.lit (.bool true)], args := [d1, d2] }
  | _ => none }
def fnExactSheetOfRow : OpenClaim := { program := "yteenlohkhckjkaadoor", sum := "b7086a3dde6d189a7cb22eb8949814ca398a4e13687797ab58cd295990dc3e5c", func := "loop.example/reliefmaps/laws.FnExactSheetOf", spec := "fnExactSheetOf", unfollowed := true, recurses := true, named := ["internal/strconv.uint64pow10", "math/bits.deBruijn32tab", "math/bits.deBruijn64tab"], apart := false, laid := [("math/bits.deBruijn32tab", laid_math_bits_deBruijn32tab), ("math/bits.deBruijn64tab", laid_math_bits_deBruijn64tab), ("internal/strconv.uint64pow10", laid_internal_strconv_uint64pow10)] }
def FnExactSheetOfSaid : Prop := fnExactSheetOfRow.holds Tryd.pinned (OpenSpec.ofChange fnExactSheetOfSpec)

/-- ITS FALSE NEIGHBOUR: 'it returns false'. Refute it at one input. -/
def fnExactSheetOfWrong : ChangeSpec := { name := "fnExactSheetOf", fn := fun _ => fun
  | [d1, d2] => { results := [.lit (.bool false)], args := [d1, d2] }
  | _ => none }
def FnExactSheetOfWrongFalsely : Prop := fnExactSheetOfRow.holds Tryd.pinned (OpenSpec.ofChange fnExactSheetOfWrong)

/-- 'laws.FnExactPlaceName': WHATEVER THE INPUT: true; the input reads as it did. -/
def fnExactPlaceNameSpec : ChangeSpec := { name := "fnExactPlaceName", fn := fun _ => fun
  | [d1, d2] => { results := [.lit (.bool true)], args := [d1, d2] }
  | _ => none }
def fnExactPlaceNameRow : OpenClaim := { program := "yteenlohkhckjkaadoor", sum := "b7086a3dde6d189a7cb22eb8949814ca398a4e13687797ab58cd295990dc3e5c", func := "loop.example/reliefmaps/laws.FnExactPlaceName", spec := "fnExactPlaceName", unfollowed := true, recurses := true, named := ["internal/strconv.uint64pow10", "math/bits.deBruijn32tab", "math/bits.deBruijn64tab"], apart := false, laid := [("math/bits.deBruijn32tab", laid_math_bits_deBruijn32tab), ("math/bits.deBruijn64tab", laid_math_bits_deBruijn64tab), ("internal/strconv.uint64pow10", laid_internal_strconv_uint64pow10)] }
def FnExactPlaceNameSaid : Prop := fnExactPlaceNameRow.holds Tryd.pinned (OpenSpec.ofChange fnExactPlaceNameSpec)

/-- ITS FALSE NEIGHBOUR: 'it returns false'. Refute it at one input. -/
def fnExactPlaceNameWrong : ChangeSpec := { name := "fnExactPlaceName", fn := fun _ => fun
  | [d1, d2] => { results := [.lit (.bool false)], args := [d1, d2] }
  | _ => none }
def FnExactPlaceNameWrongFalsely : Prop := fnExactPlaceNameRow.holds Tryd.pinned (OpenSpec.ofChange fnExactPlaceNameWrong)

/-- 'laws.FnExactSheetBeside': WHATEVER THE INPUT: true; the input reads as it did. -/
def fnExactSheetBesideSpec : ChangeSpec := { name := "fnExactSheetBeside", fn := fun _ => fun
  | [d1, d2, d3] => { results := [.lit (.bool true)], args := [d1, d2, d3] }
  | _ => none }
def fnExactSheetBesideRow : OpenClaim := { program := "yteenlohkhckjkaadoor", sum := "b7086a3dde6d189a7cb22eb8949814ca398a4e13687797ab58cd295990dc3e5c", func := "loop.example/reliefmaps/laws.FnExactSheetBeside", spec := "fnExactSheetBeside", recurses := true, named := ["internal/strconv.uint64pow10", "math/bits.deBruijn32tab", "math/bits.deBruijn64tab"], apart := false, laid := [("math/bits.deBruijn32tab", laid_math_bits_deBruijn32tab), ("math/bits.deBruijn64tab", laid_math_bits_deBruijn64tab), ("internal/strconv.uint64pow10", laid_internal_strconv_uint64pow10)] }
def FnExactSheetBesideSaid : Prop := fnExactSheetBesideRow.holds Tryd.pinned (OpenSpec.ofChange fnExactSheetBesideSpec)

/-- ITS FALSE NEIGHBOUR: 'it returns false'. Refute it at one input. -/
def fnExactSheetBesideWrong : ChangeSpec := { name := "fnExactSheetBeside", fn := fun _ => fun
  | [d1, d2, d3] => { results := [.lit (.bool false)], args := [d1, d2, d3] }
  | _ => none }
def FnExactSheetBesideWrongFalsely : Prop := fnExactSheetBesideRow.holds Tryd.pinned (OpenSpec.ofChange fnExactSheetBesideWrong)

/-- 'laws.FnExactSheetsBetween': WHATEVER THE INPUT: true; the input reads as it did. -/
def fnExactSheetsBetweenSpec : ChangeSpec := { name := "fnExactSheetsBetween", fn := fun _ => fun
  | [d1, d2, d3, d4] => { results := [.lit (.bool true)], args := [d1, d2, d3, d4] }
  | _ => none }
def fnExactSheetsBetweenRow : OpenClaim := { program := "yteenlohkhckjkaadoor", sum := "b7086a3dde6d189a7cb22eb8949814ca398a4e13687797ab58cd295990dc3e5c", func := "loop.example/reliefmaps/laws.FnExactSheetsBetween", spec := "fnExactSheetsBetween", recurses := true, named := ["internal/strconv.uint64pow10", "math/bits.deBruijn32tab", "math/bits.deBruijn64tab"], apart := false, laid := [("math/bits.deBruijn32tab", laid_math_bits_deBruijn32tab), ("math/bits.deBruijn64tab", laid_math_bits_deBruijn64tab), ("internal/strconv.uint64pow10", laid_internal_strconv_uint64pow10)] }
def FnExactSheetsBetweenSaid : Prop := fnExactSheetsBetweenRow.holds Tryd.pinned (OpenSpec.ofChange fnExactSheetsBetweenSpec)

/-- ITS FALSE NEIGHBOUR: 'it returns false'. Refute it at one input. -/
def fnExactSheetsBetweenWrong : ChangeSpec := { name := "fnExactSheetsBetween", fn := fun _ => fun
  | [d1, d2, d3, d4] => { results := [.lit (.bool false)], args := [d1, d2, d3, d4] }
  | _ => none }
def FnExactSheetsBetweenWrongFalsely : Prop := fnExactSheetsBetweenRow.holds Tryd.pinned (OpenSpec.ofChange fnExactSheetsBetweenWrong)

/-- 'laws.FnSheetBeside': WHATEVER THE INPUT: true; the input reads as it did. -/
def fnSheetBesideSpec : ChangeSpec := { name := "fnSheetBeside", fn := fun _ => fun
  | [d] => { results := [.lit (.bool true)], args := [d] }
  | _ => none }
def fnSheetBesideRow : OpenClaim := { program := "yteenlohkhckjkaadoor", sum := "b7086a3dde6d189a7cb22eb8949814ca398a4e13687797ab58cd295990dc3e5c", func := "loop.example/reliefmaps/laws.FnSheetBeside", spec := "fnSheetBeside", recurses := true, named := ["internal/strconv.uint64pow10", "math/bits.deBruijn32tab", "math/bits.deBruijn64tab"], apart := false, laid := [("math/bits.deBruijn32tab", laid_math_bits_deBruijn32tab), ("math/bits.deBruijn64tab", laid_math_bits_deBruijn64tab), ("internal/strconv.uint64pow10", laid_internal_strconv_uint64pow10)] }
def FnSheetBesideSaid : Prop := fnSheetBesideRow.holds Tryd.pinned (OpenSpec.ofChange fnSheetBesideSpec)

/-- ITS FALSE NEIGHBOUR: 'it returns false'. Refute it at one input. -/
def fnSheetBesideWrong : ChangeSpec := { name := "fnSheetBeside", fn := fun _ => fun
  | [d] => { results := [.lit (.bool false)], args := [d] }
  | _ => none }
def FnSheetBesideWrongFalsely : Prop := fnSheetBesideRow.holds Tryd.pinned (OpenSpec.ofChange fnSheetBesideWrong)

/-- 'laws.FnPlaceFar': WHATEVER THE INPUT: true; the input reads as it did. -/
def fnPlaceFarSpec : ChangeSpec := { name := "fnPlaceFar", fn := fun _ => fun
  | [d1, d2] => { results := [.lit (.bool true)], args := [d1, d2] }
  | _ => none }
def fnPlaceFarRow : OpenClaim := { program := "yteenlohkhckjkaadoor", sum := "b7086a3dde6d189a7cb22eb8949814ca398a4e13687797ab58cd295990dc3e5c", func := "loop.example/reliefmaps/laws.FnPlaceFar", spec := "fnPlaceFar", unfollowed := true, recurses := true, named := ["internal/strconv.uint64pow10", "math/bits.deBruijn32tab", "math/bits.deBruijn64tab"], apart := false, laid := [("math/bits.deBruijn32tab", laid_math_bits_deBruijn32tab), ("math/bits.deBruijn64tab", laid_math_bits_deBruijn64tab), ("internal/strconv.uint64pow10", laid_internal_strconv_uint64pow10)] }
def FnPlaceFarSaid : Prop := fnPlaceFarRow.holds Tryd.pinned (OpenSpec.ofChange fnPlaceFarSpec)

/-- ITS FALSE NEIGHBOUR: 'it returns false'. Refute it at one input. -/
def fnPlaceFarWrong : ChangeSpec := { name := "fnPlaceFar", fn := fun _ => fun
  | [d1, d2] => { results := [.lit (.bool false)], args := [d1, d2] }
  | _ => none }
def FnPlaceFarWrongFalsely : Prop := fnPlaceFarRow.holds Tryd.pinned (OpenSpec.ofChange fnPlaceFarWrong)

/-- 'laws.FnSheetFrom': WHATEVER THE INPUT: true; the input reads as it did. -/
def fnSheetFromSpec : ChangeSpec := { name := "fnSheetFrom", fn := fun _ => fun
  | [d] => { results := [.lit (.bool true)], args := [d] }
  | _ => none }
def fnSheetFromRow : OpenClaim := { program := "yteenlohkhckjkaadoor", sum := "b7086a3dde6d189a7cb22eb8949814ca398a4e13687797ab58cd295990dc3e5c", func := "loop.example/reliefmaps/laws.FnSheetFrom", spec := "fnSheetFrom", unfollowed := true, recurses := true, named := ["internal/strconv.uint64pow10", "math/bits.deBruijn32tab", "math/bits.deBruijn64tab"], apart := false, laid := [("math/bits.deBruijn32tab", laid_math_bits_deBruijn32tab), ("math/bits.deBruijn64tab", laid_math_bits_deBruijn64tab), ("internal/strconv.uint64pow10", laid_internal_strconv_uint64pow10)] }
def FnSheetFromSaid : Prop := fnSheetFromRow.holds Tryd.pinned (OpenSpec.ofChange fnSheetFromSpec)

/-- ITS FALSE NEIGHBOUR: 'it returns false'. Refute it at one input. -/
def fnSheetFromWrong : ChangeSpec := { name := "fnSheetFrom", fn := fun _ => fun
  | [d] => { results := [.lit (.bool false)], args := [d] }
  | _ => none }
def FnSheetFromWrongFalsely : Prop := fnSheetFromRow.holds Tryd.pinned (OpenSpec.ofChange fnSheetFromWrong)

/-- 'laws.FnSheetOf': WHATEVER THE INPUT: true; the input reads as it did. -/
def fnSheetOfSpec : ChangeSpec := { name := "fnSheetOf", fn := fun _ => fun
  | [d] => { results := [.lit (.bool true)], args := [d] }
  | _ => none }
def fnSheetOfRow : OpenClaim := { program := "yteenlohkhckjkaadoor", sum := "b7086a3dde6d189a7cb22eb8949814ca398a4e13687797ab58cd295990dc3e5c", func := "loop.example/reliefmaps/laws.FnSheetOf", spec := "fnSheetOf", unfollowed := true, recurses := true, named := ["internal/strconv.uint64pow10", "math/bits.deBruijn32tab", "math/bits.deBruijn64tab"], apart := false, laid := [("math/bits.deBruijn32tab", laid_math_bits_deBruijn32tab), ("math/bits.deBruijn64tab", laid_math_bits_deBruijn64tab), ("internal/strconv.uint64pow10", laid_internal_strconv_uint64pow10)] }
def FnSheetOfSaid : Prop := fnSheetOfRow.holds Tryd.pinned (OpenSpec.ofChange fnSheetOfSpec)

/-- ITS FALSE NEIGHBOUR: 'it returns false'. Refute it at one input. -/
def fnSheetOfWrong : ChangeSpec := { name := "fnSheetOf", fn := fun _ => fun
  | [d] => { results := [.lit (.bool false)], args := [d] }
  | _ => none }
def FnSheetOfWrongFalsely : Prop := fnSheetOfRow.holds Tryd.pinned (OpenSpec.ofChange fnSheetOfWrong)

/-- 'laws.FnPlaceName': WHATEVER THE INPUT: true; the input reads as it did. -/
def fnPlaceNameSpec : ChangeSpec := { name := "fnPlaceName", fn := fun _ => fun
  | [d] => { results := [.lit (.bool true)], args := [d] }
  | _ => none }
def fnPlaceNameRow : OpenClaim := { program := "yteenlohkhckjkaadoor", sum := "b7086a3dde6d189a7cb22eb8949814ca398a4e13687797ab58cd295990dc3e5c", func := "loop.example/reliefmaps/laws.FnPlaceName", spec := "fnPlaceName", unfollowed := true, recurses := true, named := ["internal/strconv.uint64pow10", "math/bits.deBruijn32tab", "math/bits.deBruijn64tab"], apart := false, laid := [("math/bits.deBruijn32tab", laid_math_bits_deBruijn32tab), ("math/bits.deBruijn64tab", laid_math_bits_deBruijn64tab), ("internal/strconv.uint64pow10", laid_internal_strconv_uint64pow10)] }
def FnPlaceNameSaid : Prop := fnPlaceNameRow.holds Tryd.pinned (OpenSpec.ofChange fnPlaceNameSpec)

/-- ITS FALSE NEIGHBOUR: 'it returns false'. Refute it at one input. -/
def fnPlaceNameWrong : ChangeSpec := { name := "fnPlaceName", fn := fun _ => fun
  | [d] => { results := [.lit (.bool false)], args := [d] }
  | _ => none }
def FnPlaceNameWrongFalsely : Prop := fnPlaceNameRow.holds Tryd.pinned (OpenSpec.ofChange fnPlaceNameWrong)

/-- 'laws.FnSheetsBetween': WHATEVER THE INPUT: true; the input reads as it did. -/
def fnSheetsBetweenSpec : ChangeSpec := { name := "fnSheetsBetween", fn := fun _ => fun
  | [d] => { results := [.lit (.bool true)], args := [d] }
  | _ => none }
def fnSheetsBetweenRow : OpenClaim := { program := "yteenlohkhckjkaadoor", sum := "b7086a3dde6d189a7cb22eb8949814ca398a4e13687797ab58cd295990dc3e5c", func := "loop.example/reliefmaps/laws.FnSheetsBetween", spec := "fnSheetsBetween", unfollowed := true, recurses := true, named := ["internal/strconv.uint64pow10", "math/bits.deBruijn32tab", "math/bits.deBruijn64tab"], apart := false, laid := [("math/bits.deBruijn32tab", laid_math_bits_deBruijn32tab), ("math/bits.deBruijn64tab", laid_math_bits_deBruijn64tab), ("internal/strconv.uint64pow10", laid_internal_strconv_uint64pow10)] }
def FnSheetsBetweenSaid : Prop := fnSheetsBetweenRow.holds Tryd.pinned (OpenSpec.ofChange fnSheetsBetweenSpec)

/-- ITS FALSE NEIGHBOUR: 'it returns false'. Refute it at one input. -/
def fnSheetsBetweenWrong : ChangeSpec := { name := "fnSheetsBetween", fn := fun _ => fun
  | [d] => { results := [.lit (.bool false)], args := [d] }
  | _ => none }
def FnSheetsBetweenWrongFalsely : Prop := fnSheetsBetweenRow.holds Tryd.pinned (OpenSpec.ofChange fnSheetsBetweenWrong)

/-- 'laws.FnPlaceFrom': WHATEVER THE INPUT: true; the input reads as it did. -/
def fnPlaceFromSpec : ChangeSpec := { name := "fnPlaceFrom", fn := fun _ => fun
  | [d] => { results := [.lit (.bool true)], args := [d] }
  | _ => none }
def fnPlaceFromRow : OpenClaim := { program := "yteenlohkhckjkaadoor", sum := "b7086a3dde6d189a7cb22eb8949814ca398a4e13687797ab58cd295990dc3e5c", func := "loop.example/reliefmaps/laws.FnPlaceFrom", spec := "fnPlaceFrom", unfollowed := true, recurses := true, named := ["internal/strconv.uint64pow10", "math/bits.deBruijn32tab", "math/bits.deBruijn64tab"], apart := false, laid := [("math/bits.deBruijn32tab", laid_math_bits_deBruijn32tab), ("math/bits.deBruijn64tab", laid_math_bits_deBruijn64tab), ("internal/strconv.uint64pow10", laid_internal_strconv_uint64pow10)] }
def FnPlaceFromSaid : Prop := fnPlaceFromRow.holds Tryd.pinned (OpenSpec.ofChange fnPlaceFromSpec)

/-- ITS FALSE NEIGHBOUR: 'it returns false'. Refute it at one input. -/
def fnPlaceFromWrong : ChangeSpec := { name := "fnPlaceFrom", fn := fun _ => fun
  | [d] => { results := [.lit (.bool false)], args := [d] }
  | _ => none }
def FnPlaceFromWrongFalsely : Prop := fnPlaceFromRow.holds Tryd.pinned (OpenSpec.ofChange fnPlaceFromWrong)

/- THE SECOND FORM. 'bulk': how many values and letters a reading holds, each counted each time it is reached (what is shared counts as often as it is met; a slice's spare places count too). A statement '..UptoSaid' is the law's where the arguments, and the package variables that the reading takes, are together of bulk at most 1048576: NARROWER than '..Said'. Prove '..Said' where nothing that the law and all that it calls make is longer than what came in: it says more and counts as full. Else prove '..UptoSaid'. A law counts once. -/
mutual
def uptoBulk {H : Type} : DataW H → Nat
  | .lit (.string bytes) => bytes.length + 1
  | .lit _ => 1
  | .nil => 1
  | .ptr d => uptoBulk d + 1
  | .slice elems spare => uptoBulkAll elems + uptoBulkAll spare + 1
  | .agg parts => uptoBulkAll parts + 1
  | .iface _ d => uptoBulk d + 1
  | .map entries => uptoBulkEntries entries + 1
  | .held _ => 1
def uptoBulkAll {H : Type} : List (DataW H) → Nat
  | [] => 0
  | d :: r => uptoBulk d + uptoBulkAll r
def uptoBulkEntries {H : Type} : List (Lit × DataW H) → Nat
  | [] => 0
  | x :: r => uptoBulkEntry x + uptoBulkEntries r
def uptoBulkEntry {H : Type} : Lit × DataW H → Nat
  | (.string bytes, d) => bytes.length + uptoBulk d + 1
  | (_, d) => uptoBulk d + 1
 end
def uptoSmall : (H : Type) → List (DataW H) → Bool := fun _ ds => decide (uptoBulkAll ds ≤ 1048576)
def OpenSpec.upto (s : _root_.Go.ChangeSpec) : _root_.Go.OpenSpec := { _root_.Go.OpenSpec.ofChange s with cond := some uptoSmall }

/-- 'laws.FnExactSheetOf', WHERE WHAT IT READS IS OF BULK AT MOST 1048576: true; the input reads as it did. -/
def fnExactSheetOfUptoRow : OpenClaim := { program := "yteenlohkhckjkaadoor", sum := "b7086a3dde6d189a7cb22eb8949814ca398a4e13687797ab58cd295990dc3e5c", func := "loop.example/reliefmaps/laws.FnExactSheetOf", spec := "fnExactSheetOf", unfollowed := true, recurses := true, named := ["internal/strconv.uint64pow10", "math/bits.deBruijn32tab", "math/bits.deBruijn64tab"], apart := false, laid := [("math/bits.deBruijn32tab", laid_math_bits_deBruijn32tab), ("math/bits.deBruijn64tab", laid_math_bits_deBruijn64tab), ("internal/strconv.uint64pow10", laid_internal_strconv_uint64pow10)], narrowed := true }
def FnExactSheetOfUptoSaid : Prop := fnExactSheetOfUptoRow.holds Tryd.pinned (OpenSpec.upto fnExactSheetOfSpec)

/-- 'laws.FnExactPlaceName', WHERE WHAT IT READS IS OF BULK AT MOST 1048576: true; the input reads as it did. -/
def fnExactPlaceNameUptoRow : OpenClaim := { program := "yteenlohkhckjkaadoor", sum := "b7086a3dde6d189a7cb22eb8949814ca398a4e13687797ab58cd295990dc3e5c", func := "loop.example/reliefmaps/laws.FnExactPlaceName", spec := "fnExactPlaceName", unfollowed := true, recurses := true, named := ["internal/strconv.uint64pow10", "math/bits.deBruijn32tab", "math/bits.deBruijn64tab"], apart := false, laid := [("math/bits.deBruijn32tab", laid_math_bits_deBruijn32tab), ("math/bits.deBruijn64tab", laid_math_bits_deBruijn64tab), ("internal/strconv.uint64pow10", laid_internal_strconv_uint64pow10)], narrowed := true }
def FnExactPlaceNameUptoSaid : Prop := fnExactPlaceNameUptoRow.holds Tryd.pinned (OpenSpec.upto fnExactPlaceNameSpec)

/-- 'laws.FnExactSheetBeside', WHERE WHAT IT READS IS OF BULK AT MOST 1048576: true; the input reads as it did. -/
def fnExactSheetBesideUptoRow : OpenClaim := { program := "yteenlohkhckjkaadoor", sum := "b7086a3dde6d189a7cb22eb8949814ca398a4e13687797ab58cd295990dc3e5c", func := "loop.example/reliefmaps/laws.FnExactSheetBeside", spec := "fnExactSheetBeside", recurses := true, named := ["internal/strconv.uint64pow10", "math/bits.deBruijn32tab", "math/bits.deBruijn64tab"], apart := false, laid := [("math/bits.deBruijn32tab", laid_math_bits_deBruijn32tab), ("math/bits.deBruijn64tab", laid_math_bits_deBruijn64tab), ("internal/strconv.uint64pow10", laid_internal_strconv_uint64pow10)], narrowed := true }
def FnExactSheetBesideUptoSaid : Prop := fnExactSheetBesideUptoRow.holds Tryd.pinned (OpenSpec.upto fnExactSheetBesideSpec)

/-- 'laws.FnExactSheetsBetween', WHERE WHAT IT READS IS OF BULK AT MOST 1048576: true; the input reads as it did. -/
def fnExactSheetsBetweenUptoRow : OpenClaim := { program := "yteenlohkhckjkaadoor", sum := "b7086a3dde6d189a7cb22eb8949814ca398a4e13687797ab58cd295990dc3e5c", func := "loop.example/reliefmaps/laws.FnExactSheetsBetween", spec := "fnExactSheetsBetween", recurses := true, named := ["internal/strconv.uint64pow10", "math/bits.deBruijn32tab", "math/bits.deBruijn64tab"], apart := false, laid := [("math/bits.deBruijn32tab", laid_math_bits_deBruijn32tab), ("math/bits.deBruijn64tab", laid_math_bits_deBruijn64tab), ("internal/strconv.uint64pow10", laid_internal_strconv_uint64pow10)], narrowed := true }
def FnExactSheetsBetweenUptoSaid : Prop := fnExactSheetsBetweenUptoRow.holds Tryd.pinned (OpenSpec.upto fnExactSheetsBetweenSpec)

/-- 'laws.FnSheetBeside', WHERE WHAT IT READS IS OF BULK AT MOST 1048576: true; the input reads as it did. -/
def fnSheetBesideUptoRow : OpenClaim := { program := "yteenlohkhckjkaadoor", sum := "b7086a3dde6d189a7cb22eb8949814ca398a4e13687797ab58cd295990dc3e5c", func := "loop.example/reliefmaps/laws.FnSheetBeside", spec := "fnSheetBeside", recurses := true, named := ["internal/strconv.uint64pow10", "math/bits.deBruijn32tab", "math/bits.deBruijn64tab"], apart := false, laid := [("math/bits.deBruijn32tab", laid_math_bits_deBruijn32tab), ("math/bits.deBruijn64tab", laid_math_bits_deBruijn64tab), ("internal/strconv.uint64pow10", laid_internal_strconv_uint64pow10)], narrowed := true }
def FnSheetBesideUptoSaid : Prop := fnSheetBesideUptoRow.holds Tryd.pinned (OpenSpec.upto fnSheetBesideSpec)

/-- 'laws.FnPlaceFar', WHERE WHAT IT READS IS OF BULK AT MOST 1048576: true; the input reads as it did. -/
def fnPlaceFarUptoRow : OpenClaim := { program := "yteenlohkhckjkaadoor", sum := "b7086a3dde6d189a7cb22eb8949814ca398a4e13687797ab58cd295990dc3e5c", func := "loop.example/reliefmaps/laws.FnPlaceFar", spec := "fnPlaceFar", unfollowed := true, recurses := true, named := ["internal/strconv.uint64pow10", "math/bits.deBruijn32tab", "math/bits.deBruijn64tab"], apart := false, laid := [("math/bits.deBruijn32tab", laid_math_bits_deBruijn32tab), ("math/bits.deBruijn64tab", laid_math_bits_deBruijn64tab), ("internal/strconv.uint64pow10", laid_internal_strconv_uint64pow10)], narrowed := true }
def FnPlaceFarUptoSaid : Prop := fnPlaceFarUptoRow.holds Tryd.pinned (OpenSpec.upto fnPlaceFarSpec)

/-- 'laws.FnSheetFrom', WHERE WHAT IT READS IS OF BULK AT MOST 1048576: true; the input reads as it did. -/
def fnSheetFromUptoRow : OpenClaim := { program := "yteenlohkhckjkaadoor", sum := "b7086a3dde6d189a7cb22eb8949814ca398a4e13687797ab58cd295990dc3e5c", func := "loop.example/reliefmaps/laws.FnSheetFrom", spec := "fnSheetFrom", unfollowed := true, recurses := true, named := ["internal/strconv.uint64pow10", "math/bits.deBruijn32tab", "math/bits.deBruijn64tab"], apart := false, laid := [("math/bits.deBruijn32tab", laid_math_bits_deBruijn32tab), ("math/bits.deBruijn64tab", laid_math_bits_deBruijn64tab), ("internal/strconv.uint64pow10", laid_internal_strconv_uint64pow10)], narrowed := true }
def FnSheetFromUptoSaid : Prop := fnSheetFromUptoRow.holds Tryd.pinned (OpenSpec.upto fnSheetFromSpec)

/-- 'laws.FnSheetOf', WHERE WHAT IT READS IS OF BULK AT MOST 1048576: true; the input reads as it did. -/
def fnSheetOfUptoRow : OpenClaim := { program := "yteenlohkhckjkaadoor", sum := "b7086a3dde6d189a7cb22eb8949814ca398a4e13687797ab58cd295990dc3e5c", func := "loop.example/reliefmaps/laws.FnSheetOf", spec := "fnSheetOf", unfollowed := true, recurses := true, named := ["internal/strconv.uint64pow10", "math/bits.deBruijn32tab", "math/bits.deBruijn64tab"], apart := false, laid := [("math/bits.deBruijn32tab", laid_math_bits_deBruijn32tab), ("math/bits.deBruijn64tab", laid_math_bits_deBruijn64tab), ("internal/strconv.uint64pow10", laid_internal_strconv_uint64pow10)], narrowed := true }
def FnSheetOfUptoSaid : Prop := fnSheetOfUptoRow.holds Tryd.pinned (OpenSpec.upto fnSheetOfSpec)

/-- 'laws.FnPlaceName', WHERE WHAT IT READS IS OF BULK AT MOST 1048576: true; the input reads as it did. -/
def fnPlaceNameUptoRow : OpenClaim := { program := "yteenlohkhckjkaadoor", sum := "b7086a3dde6d189a7cb22eb8949814ca398a4e13687797ab58cd295990dc3e5c", func := "loop.example/reliefmaps/laws.FnPlaceName", spec := "fnPlaceName", unfollowed := true, recurses := true, named := ["internal/strconv.uint64pow10", "math/bits.deBruijn32tab", "math/bits.deBruijn64tab"], apart := false, laid := [("math/bits.deBruijn32tab", laid_math_bits_deBruijn32tab), ("math/bits.deBruijn64tab", laid_math_bits_deBruijn64tab), ("internal/strconv.uint64pow10", laid_internal_strconv_uint64pow10)], narrowed := true }
def FnPlaceNameUptoSaid : Prop := fnPlaceNameUptoRow.holds Tryd.pinned (OpenSpec.upto fnPlaceNameSpec)

/-- 'laws.FnSheetsBetween', WHERE WHAT IT READS IS OF BULK AT MOST 1048576: true; the input reads as it did. -/
def fnSheetsBetweenUptoRow : OpenClaim := { program := "yteenlohkhckjkaadoor", sum := "b7086a3dde6d189a7cb22eb8949814ca398a4e13687797ab58cd295990dc3e5c", func := "loop.example/reliefmaps/laws.FnSheetsBetween", spec := "fnSheetsBetween", unfollowed := true, recurses := true, named := ["internal/strconv.uint64pow10", "math/bits.deBruijn32tab", "math/bits.deBruijn64tab"], apart := false, laid := [("math/bits.deBruijn32tab", laid_math_bits_deBruijn32tab), ("math/bits.deBruijn64tab", laid_math_bits_deBruijn64tab), ("internal/strconv.uint64pow10", laid_internal_strconv_uint64pow10)], narrowed := true }
def FnSheetsBetweenUptoSaid : Prop := fnSheetsBetweenUptoRow.holds Tryd.pinned (OpenSpec.upto fnSheetsBetweenSpec)

/-- 'laws.FnPlaceFrom', WHERE WHAT IT READS IS OF BULK AT MOST 1048576: true; the input reads as it did. -/
def fnPlaceFromUptoRow : OpenClaim := { program := "yteenlohkhckjkaadoor", sum := "b7086a3dde6d189a7cb22eb8949814ca398a4e13687797ab58cd295990dc3e5c", func := "loop.example/reliefmaps/laws.FnPlaceFrom", spec := "fnPlaceFrom", unfollowed := true, recurses := true, named := ["internal/strconv.uint64pow10", "math/bits.deBruijn32tab", "math/bits.deBruijn64tab"], apart := false, laid := [("math/bits.deBruijn32tab", laid_math_bits_deBruijn32tab), ("math/bits.deBruijn64tab", laid_math_bits_deBruijn64tab), ("internal/strconv.uint64pow10", laid_internal_strconv_uint64pow10)], narrowed := true }
def FnPlaceFromUptoSaid : Prop := fnPlaceFromUptoRow.holds Tryd.pinned (OpenSpec.upto fnPlaceFromSpec)

end Rows
end Go.Proofs.YteenlohkhckjkaaDoor
