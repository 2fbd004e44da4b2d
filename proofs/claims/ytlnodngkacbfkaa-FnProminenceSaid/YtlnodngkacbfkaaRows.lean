/-
  No cell of these rows narrows 'for every input' (looked for: loops, veiled, ifaces, maps, wideKeys, modest, calm, conditions, laid).
  DERIVED. THE GIVEN ROWS OF THIS SEAT. 13 by the template 'for every input the law returns true; each argument reads behind the call as it read before'; 0 by the template 'total and deterministic' (their statements: YtlnodngkacbfkaaTotals.lean).
  GIVEN WITH THE SEED: the statements are not yours to turn. If you find one false, say at which input.
  Laid BY PROGRAM, IN A SANDBOX (cutbox-rows.mjs): the forced cells as the released guide's own fill.sh prints them over the translation 8c23c56f24de8409… (all of the seat's roots in one cut). By AI agents, Wed Nov 11 2026. No macro, syntax, notation, axiom, sorry.
-/
import Derived.Test.YtlnodngkacbfkaaChecked
import GoSem.Claim
import GoSem.ClaimJoined
import GoSem.ClaimMapViews
import Derived.JoinedTies
import Derived.KernelRfl
namespace Go.Proofs.Ytlnodngkacbfkaa
/- THE CELL 'sum', in the pinned program and in every row, IS THE sha256 OF THE DUMP (.gsa) THAT YtlnodngkacbfkaaProg.lean LOADS. Nothing in Lean hashes anything: it is a label: what it is worth is what the hold of that sum in a sandbox is worth. -/
noncomputable def Try.pinned : Pinned := { name := "ytlnodngkacbfkaa", sum := "8c23c56f24de8409d5cfa1f8fe659e8dd37496c8202fdea85330ca9b785b8310", checked := Try.checked }
namespace Rows
def none {H : Type} : Left H := { results := [], args := [] }

/-- 'laws.FnExactPeakList': WHATEVER THE INPUT: true; the input reads as it did. -/
def fnExactPeakListSpec : ChangeSpec := { name := "fnExactPeakList", fn := fun _ => fun
  | [d] => { results := [.lit (.bool true)], args := [d] }
  | _ => none }
def fnExactPeakListRow : OpenClaim := { program := "ytlnodngkacbfkaa", sum := "8c23c56f24de8409d5cfa1f8fe659e8dd37496c8202fdea85330ca9b785b8310", func := "loop.example/reliefmaps/laws.FnExactPeakList", spec := "fnExactPeakList", unfollowed := true, recurses := true, apart := false }
def FnExactPeakListSaid : Prop := fnExactPeakListRow.holds Try.pinned (OpenSpec.ofChange fnExactPeakListSpec)

/-- ITS FALSE NEIGHBOUR: 'it returns false'. Refute it at one input. -/
def fnExactPeakListWrong : ChangeSpec := { name := "fnExactPeakList", fn := fun _ => fun
  | [d] => { results := [.lit (.bool false)], args := [d] }
  | _ => none }
def FnExactPeakListWrongFalsely : Prop := fnExactPeakListRow.holds Try.pinned (OpenSpec.ofChange fnExactPeakListWrong)

/-- 'laws.FnPeakList': WHATEVER THE INPUT: true; the input reads as it did. -/
def fnPeakListSpec : ChangeSpec := { name := "fnPeakList", fn := fun _ => fun
  | [d] => { results := [.lit (.bool true)], args := [d] }
  | _ => none }
def fnPeakListRow : OpenClaim := { program := "ytlnodngkacbfkaa", sum := "8c23c56f24de8409d5cfa1f8fe659e8dd37496c8202fdea85330ca9b785b8310", func := "loop.example/reliefmaps/laws.FnPeakList", spec := "fnPeakList", unfollowed := true, recurses := true, apart := false }
def FnPeakListSaid : Prop := fnPeakListRow.holds Try.pinned (OpenSpec.ofChange fnPeakListSpec)

/-- ITS FALSE NEIGHBOUR: 'it returns false'. Refute it at one input. -/
def fnPeakListWrong : ChangeSpec := { name := "fnPeakList", fn := fun _ => fun
  | [d] => { results := [.lit (.bool false)], args := [d] }
  | _ => none }
def FnPeakListWrongFalsely : Prop := fnPeakListRow.holds Try.pinned (OpenSpec.ofChange fnPeakListWrong)

/-- 'laws.FnPeak': WHATEVER THE INPUT: true; the input reads as it did. -/
def fnPeakSpec : ChangeSpec := { name := "fnPeak", fn := fun _ => fun
  | [d] => { results := [.lit (.bool true)], args := [d] }
  | _ => none }
def fnPeakRow : OpenClaim := { program := "ytlnodngkacbfkaa", sum := "8c23c56f24de8409d5cfa1f8fe659e8dd37496c8202fdea85330ca9b785b8310", func := "loop.example/reliefmaps/laws.FnPeak", spec := "fnPeak", unfollowed := true, recurses := true, apart := false }
def FnPeakSaid : Prop := fnPeakRow.holds Try.pinned (OpenSpec.ofChange fnPeakSpec)

/-- ITS FALSE NEIGHBOUR: 'it returns false'. Refute it at one input. -/
def fnPeakWrong : ChangeSpec := { name := "fnPeak", fn := fun _ => fun
  | [d] => { results := [.lit (.bool false)], args := [d] }
  | _ => none }
def FnPeakWrongFalsely : Prop := fnPeakRow.holds Try.pinned (OpenSpec.ofChange fnPeakWrong)

/-- 'laws.FnExactPitList': WHATEVER THE INPUT: true; the input reads as it did. -/
def fnExactPitListSpec : ChangeSpec := { name := "fnExactPitList", fn := fun _ => fun
  | [d] => { results := [.lit (.bool true)], args := [d] }
  | _ => none }
def fnExactPitListRow : OpenClaim := { program := "ytlnodngkacbfkaa", sum := "8c23c56f24de8409d5cfa1f8fe659e8dd37496c8202fdea85330ca9b785b8310", func := "loop.example/reliefmaps/laws.FnExactPitList", spec := "fnExactPitList", unfollowed := true, recurses := true, apart := false }
def FnExactPitListSaid : Prop := fnExactPitListRow.holds Try.pinned (OpenSpec.ofChange fnExactPitListSpec)

/-- ITS FALSE NEIGHBOUR: 'it returns false'. Refute it at one input. -/
def fnExactPitListWrong : ChangeSpec := { name := "fnExactPitList", fn := fun _ => fun
  | [d] => { results := [.lit (.bool false)], args := [d] }
  | _ => none }
def FnExactPitListWrongFalsely : Prop := fnExactPitListRow.holds Try.pinned (OpenSpec.ofChange fnExactPitListWrong)

/-- 'laws.FnExactPeakIsland': WHATEVER THE INPUT: true; the input reads as it did. -/
def fnExactPeakIslandSpec : ChangeSpec := { name := "fnExactPeakIsland", fn := fun _ => fun
  | [d1, d2, d3] => { results := [.lit (.bool true)], args := [d1, d2, d3] }
  | _ => none }
def fnExactPeakIslandRow : OpenClaim := { program := "ytlnodngkacbfkaa", sum := "8c23c56f24de8409d5cfa1f8fe659e8dd37496c8202fdea85330ca9b785b8310", func := "loop.example/reliefmaps/laws.FnExactPeakIsland", spec := "fnExactPeakIsland", unfollowed := true, recurses := true, apart := false }
def FnExactPeakIslandSaid : Prop := fnExactPeakIslandRow.holds Try.pinned (OpenSpec.ofChange fnExactPeakIslandSpec)

/-- ITS FALSE NEIGHBOUR: 'it returns false'. Refute it at one input. -/
def fnExactPeakIslandWrong : ChangeSpec := { name := "fnExactPeakIsland", fn := fun _ => fun
  | [d1, d2, d3] => { results := [.lit (.bool false)], args := [d1, d2, d3] }
  | _ => none }
def FnExactPeakIslandWrongFalsely : Prop := fnExactPeakIslandRow.holds Try.pinned (OpenSpec.ofChange fnExactPeakIslandWrong)

/-- 'laws.FnExactPeakParent': WHATEVER THE INPUT: true; the input reads as it did. -/
def fnExactPeakParentSpec : ChangeSpec := { name := "fnExactPeakParent", fn := fun _ => fun
  | [d1, d2] => { results := [.lit (.bool true)], args := [d1, d2] }
  | _ => none }
def fnExactPeakParentRow : OpenClaim := { program := "ytlnodngkacbfkaa", sum := "8c23c56f24de8409d5cfa1f8fe659e8dd37496c8202fdea85330ca9b785b8310", func := "loop.example/reliefmaps/laws.FnExactPeakParent", spec := "fnExactPeakParent", unfollowed := true, recurses := true, apart := false }
def FnExactPeakParentSaid : Prop := fnExactPeakParentRow.holds Try.pinned (OpenSpec.ofChange fnExactPeakParentSpec)

/-- ITS FALSE NEIGHBOUR: 'it returns false'. Refute it at one input. -/
def fnExactPeakParentWrong : ChangeSpec := { name := "fnExactPeakParent", fn := fun _ => fun
  | [d1, d2] => { results := [.lit (.bool false)], args := [d1, d2] }
  | _ => none }
def FnExactPeakParentWrongFalsely : Prop := fnExactPeakParentRow.holds Try.pinned (OpenSpec.ofChange fnExactPeakParentWrong)

/-- 'laws.FnExactPeakSum': WHATEVER THE INPUT: true; the input reads as it did. -/
def fnExactPeakSumSpec : ChangeSpec := { name := "fnExactPeakSum", fn := fun _ => fun
  | [d] => { results := [.lit (.bool true)], args := [d] }
  | _ => none }
def fnExactPeakSumRow : OpenClaim := { program := "ytlnodngkacbfkaa", sum := "8c23c56f24de8409d5cfa1f8fe659e8dd37496c8202fdea85330ca9b785b8310", func := "loop.example/reliefmaps/laws.FnExactPeakSum", spec := "fnExactPeakSum", unfollowed := true, recurses := true, apart := false }
def FnExactPeakSumSaid : Prop := fnExactPeakSumRow.holds Try.pinned (OpenSpec.ofChange fnExactPeakSumSpec)

/-- ITS FALSE NEIGHBOUR: 'it returns false'. Refute it at one input. -/
def fnExactPeakSumWrong : ChangeSpec := { name := "fnExactPeakSum", fn := fun _ => fun
  | [d] => { results := [.lit (.bool false)], args := [d] }
  | _ => none }
def FnExactPeakSumWrongFalsely : Prop := fnExactPeakSumRow.holds Try.pinned (OpenSpec.ofChange fnExactPeakSumWrong)

/-- 'laws.FnPits': WHATEVER THE INPUT: true; the input reads as it did. -/
def fnPitsSpec : ChangeSpec := { name := "fnPits", fn := fun _ => fun
  | [d] => { results := [.lit (.bool true)], args := [d] }
  | _ => none }
def fnPitsRow : OpenClaim := { program := "ytlnodngkacbfkaa", sum := "8c23c56f24de8409d5cfa1f8fe659e8dd37496c8202fdea85330ca9b785b8310", func := "loop.example/reliefmaps/laws.FnPits", spec := "fnPits", unfollowed := true, recurses := true, apart := false }
def FnPitsSaid : Prop := fnPitsRow.holds Try.pinned (OpenSpec.ofChange fnPitsSpec)

/-- ITS FALSE NEIGHBOUR: 'it returns false'. Refute it at one input. -/
def fnPitsWrong : ChangeSpec := { name := "fnPits", fn := fun _ => fun
  | [d] => { results := [.lit (.bool false)], args := [d] }
  | _ => none }
def FnPitsWrongFalsely : Prop := fnPitsRow.holds Try.pinned (OpenSpec.ofChange fnPitsWrong)

/-- 'laws.FnExactPeakMost': WHATEVER THE INPUT: true; the input reads as it did. -/
def fnExactPeakMostSpec : ChangeSpec := { name := "fnExactPeakMost", fn := fun _ => fun
  | [d1, d2] => { results := [.lit (.bool true)], args := [d1, d2] }
  | _ => none }
def fnExactPeakMostRow : OpenClaim := { program := "ytlnodngkacbfkaa", sum := "8c23c56f24de8409d5cfa1f8fe659e8dd37496c8202fdea85330ca9b785b8310", func := "loop.example/reliefmaps/laws.FnExactPeakMost", spec := "fnExactPeakMost", unfollowed := true, recurses := true, apart := false }
def FnExactPeakMostSaid : Prop := fnExactPeakMostRow.holds Try.pinned (OpenSpec.ofChange fnExactPeakMostSpec)

/-- ITS FALSE NEIGHBOUR: 'it returns false'. Refute it at one input. -/
def fnExactPeakMostWrong : ChangeSpec := { name := "fnExactPeakMost", fn := fun _ => fun
  | [d1, d2] => { results := [.lit (.bool false)], args := [d1, d2] }
  | _ => none }
def FnExactPeakMostWrongFalsely : Prop := fnExactPeakMostRow.holds Try.pinned (OpenSpec.ofChange fnExactPeakMostWrong)

/-- 'laws.FnPeakMost': WHATEVER THE INPUT: true; the input reads as it did. -/
def fnPeakMostSpec : ChangeSpec := { name := "fnPeakMost", fn := fun _ => fun
  | [d] => { results := [.lit (.bool true)], args := [d] }
  | _ => none }
def fnPeakMostRow : OpenClaim := { program := "ytlnodngkacbfkaa", sum := "8c23c56f24de8409d5cfa1f8fe659e8dd37496c8202fdea85330ca9b785b8310", func := "loop.example/reliefmaps/laws.FnPeakMost", spec := "fnPeakMost", unfollowed := true, recurses := true, apart := false }
def FnPeakMostSaid : Prop := fnPeakMostRow.holds Try.pinned (OpenSpec.ofChange fnPeakMostSpec)

/-- ITS FALSE NEIGHBOUR: 'it returns false'. Refute it at one input. -/
def fnPeakMostWrong : ChangeSpec := { name := "fnPeakMost", fn := fun _ => fun
  | [d] => { results := [.lit (.bool false)], args := [d] }
  | _ => none }
def FnPeakMostWrongFalsely : Prop := fnPeakMostRow.holds Try.pinned (OpenSpec.ofChange fnPeakMostWrong)

/-- 'laws.FnIsland': WHATEVER THE INPUT: true; the input reads as it did. -/
def fnIslandSpec : ChangeSpec := { name := "fnIsland", fn := fun _ => fun
  | [d] => { results := [.lit (.bool true)], args := [d] }
  | _ => none }
def fnIslandRow : OpenClaim := { program := "ytlnodngkacbfkaa", sum := "8c23c56f24de8409d5cfa1f8fe659e8dd37496c8202fdea85330ca9b785b8310", func := "loop.example/reliefmaps/laws.FnIsland", spec := "fnIsland", unfollowed := true, recurses := true, apart := false }
def FnIslandSaid : Prop := fnIslandRow.holds Try.pinned (OpenSpec.ofChange fnIslandSpec)

/-- ITS FALSE NEIGHBOUR: 'it returns false'. Refute it at one input. -/
def fnIslandWrong : ChangeSpec := { name := "fnIsland", fn := fun _ => fun
  | [d] => { results := [.lit (.bool false)], args := [d] }
  | _ => none }
def FnIslandWrongFalsely : Prop := fnIslandRow.holds Try.pinned (OpenSpec.ofChange fnIslandWrong)

/-- 'laws.FnParent': WHATEVER THE INPUT: true; the input reads as it did. -/
def fnParentSpec : ChangeSpec := { name := "fnParent", fn := fun _ => fun
  | [d] => { results := [.lit (.bool true)], args := [d] }
  | _ => none }
def fnParentRow : OpenClaim := { program := "ytlnodngkacbfkaa", sum := "8c23c56f24de8409d5cfa1f8fe659e8dd37496c8202fdea85330ca9b785b8310", func := "loop.example/reliefmaps/laws.FnParent", spec := "fnParent", unfollowed := true, recurses := true, apart := false }
def FnParentSaid : Prop := fnParentRow.holds Try.pinned (OpenSpec.ofChange fnParentSpec)

/-- ITS FALSE NEIGHBOUR: 'it returns false'. Refute it at one input. -/
def fnParentWrong : ChangeSpec := { name := "fnParent", fn := fun _ => fun
  | [d] => { results := [.lit (.bool false)], args := [d] }
  | _ => none }
def FnParentWrongFalsely : Prop := fnParentRow.holds Try.pinned (OpenSpec.ofChange fnParentWrong)

/-- 'laws.FnProminence': WHATEVER THE INPUT: true; the input reads as it did. -/
def fnProminenceSpec : ChangeSpec := { name := "fnProminence", fn := fun _ => fun
  | [d] => { results := [.lit (.bool true)], args := [d] }
  | _ => none }
def fnProminenceRow : OpenClaim := { program := "ytlnodngkacbfkaa", sum := "8c23c56f24de8409d5cfa1f8fe659e8dd37496c8202fdea85330ca9b785b8310", func := "loop.example/reliefmaps/laws.FnProminence", spec := "fnProminence", unfollowed := true, recurses := true, apart := false }
def FnProminenceSaid : Prop := fnProminenceRow.holds Try.pinned (OpenSpec.ofChange fnProminenceSpec)

/-- ITS FALSE NEIGHBOUR: 'it returns false'. Refute it at one input. -/
def fnProminenceWrong : ChangeSpec := { name := "fnProminence", fn := fun _ => fun
  | [d] => { results := [.lit (.bool false)], args := [d] }
  | _ => none }
def FnProminenceWrongFalsely : Prop := fnProminenceRow.holds Try.pinned (OpenSpec.ofChange fnProminenceWrong)

/- THE SECOND FORM. 'bulk': how many values and letters a reading holds, each counted each time it is reached (what is shared counts as often as it is met; a slice's spare places count too). A statement '..UptoSaid' is the law's where the arguments, and the package variables that the reading takes, are together of bulk at most 1048576: NARROWER than '..Said'. Prove '..Said' where nothing that the law and all that it calls make is longer than what came in: it says more and counts as full. Else prove '..UptoSaid'. A law counts once. -/
mutual
def uptoBulk {H : Type} : DataW H → Nat
  | .lit (.string bytes) => bytes.length + 1
  | .lit _ => 1
  | .nil => 1
  | .ptr d => uptoBulk d + 1
  | .slice elems spare => uptoBulkAll elems + uptoBulkAll spare + 1
  | .agg parts => uptoBulkAll parts + 1
  | .iface _ d => uptoBulk d + 1
  | .map entries => uptoBulkEntries entries + 1
  | .held _ => 1
def uptoBulkAll {H : Type} : List (DataW H) → Nat
  | [] => 0
  | d :: r => uptoBulk d + uptoBulkAll r
def uptoBulkEntries {H : Type} : List (Lit × DataW H) → Nat
  | [] => 0
  | x :: r => uptoBulkEntry x + uptoBulkEntries r
def uptoBulkEntry {H : Type} : Lit × DataW H → Nat
  | (.string bytes, d) => bytes.length + uptoBulk d + 1
  | (_, d) => uptoBulk d + 1
 end
def uptoSmall : (H : Type) → List (DataW H) → Bool := fun _ ds => decide (uptoBulkAll ds ≤ 1048576)
def OpenSpec.upto (s : _root_.Go.ChangeSpec) : _root_.Go.OpenSpec := { _root_.Go.OpenSpec.ofChange s with cond := some uptoSmall }

/-- 'laws.FnExactPeakList', WHERE WHAT IT READS IS OF BULK AT MOST 1048576: true; the input reads as it did. -/
def fnExactPeakListUptoRow : OpenClaim := { program := "ytlnodngkacbfkaa", sum := "8c23c56f24de8409d5cfa1f8fe659e8dd37496c8202fdea85330ca9b785b8310", func := "loop.example/reliefmaps/laws.FnExactPeakList", spec := "fnExactPeakList", unfollowed := true, recurses := true, apart := false, narrowed := true }
def FnExactPeakListUptoSaid : Prop := fnExactPeakListUptoRow.holds Try.pinned (OpenSpec.upto fnExactPeakListSpec)

/-- 'laws.FnPeakList', WHERE WHAT IT READS IS OF BULK AT MOST 1048576: true; the input reads as it did. -/
def fnPeakListUptoRow : OpenClaim := { program := "ytlnodngkacbfkaa", sum := "8c23c56f24de8409d5cfa1f8fe659e8dd37496c8202fdea85330ca9b785b8310", func := "loop.example/reliefmaps/laws.FnPeakList", spec := "fnPeakList", unfollowed := true, recurses := true, apart := false, narrowed := true }
def FnPeakListUptoSaid : Prop := fnPeakListUptoRow.holds Try.pinned (OpenSpec.upto fnPeakListSpec)

/-- 'laws.FnPeak', WHERE WHAT IT READS IS OF BULK AT MOST 1048576: true; the input reads as it did. -/
def fnPeakUptoRow : OpenClaim := { program := "ytlnodngkacbfkaa", sum := "8c23c56f24de8409d5cfa1f8fe659e8dd37496c8202fdea85330ca9b785b8310", func := "loop.example/reliefmaps/laws.FnPeak", spec := "fnPeak", unfollowed := true, recurses := true, apart := false, narrowed := true }
def FnPeakUptoSaid : Prop := fnPeakUptoRow.holds Try.pinned (OpenSpec.upto fnPeakSpec)

/-- 'laws.FnExactPitList', WHERE WHAT IT READS IS OF BULK AT MOST 1048576: true; the input reads as it did. -/
def fnExactPitListUptoRow : OpenClaim := { program := "ytlnodngkacbfkaa", sum := "8c23c56f24de8409d5cfa1f8fe659e8dd37496c8202fdea85330ca9b785b8310", func := "loop.example/reliefmaps/laws.FnExactPitList", spec := "fnExactPitList", unfollowed := true, recurses := true, apart := false, narrowed := true }
def FnExactPitListUptoSaid : Prop := fnExactPitListUptoRow.holds Try.pinned (OpenSpec.upto fnExactPitListSpec)

/-- 'laws.FnExactPeakIsland', WHERE WHAT IT READS IS OF BULK AT MOST 1048576: true; the input reads as it did. -/
def fnExactPeakIslandUptoRow : OpenClaim := { program := "ytlnodngkacbfkaa", sum := "8c23c56f24de8409d5cfa1f8fe659e8dd37496c8202fdea85330ca9b785b8310", func := "loop.example/reliefmaps/laws.FnExactPeakIsland", spec := "fnExactPeakIsland", unfollowed := true, recurses := true, apart := false, narrowed := true }
def FnExactPeakIslandUptoSaid : Prop := fnExactPeakIslandUptoRow.holds Try.pinned (OpenSpec.upto fnExactPeakIslandSpec)

/-- 'laws.FnExactPeakParent', WHERE WHAT IT READS IS OF BULK AT MOST 1048576: true; the input reads as it did. -/
def fnExactPeakParentUptoRow : OpenClaim := { program := "ytlnodngkacbfkaa", sum := "8c23c56f24de8409d5cfa1f8fe659e8dd37496c8202fdea85330ca9b785b8310", func := "loop.example/reliefmaps/laws.FnExactPeakParent", spec := "fnExactPeakParent", unfollowed := true, recurses := true, apart := false, narrowed := true }
def FnExactPeakParentUptoSaid : Prop := fnExactPeakParentUptoRow.holds Try.pinned (OpenSpec.upto fnExactPeakParentSpec)

/-- 'laws.FnExactPeakSum', WHERE WHAT IT READS IS OF BULK AT MOST 1048576: true; the input reads as it did. -/
def fnExactPeakSumUptoRow : OpenClaim := { program := "ytlnodngkacbfkaa", sum := "8c23c56f24de8409d5cfa1f8fe659e8dd37496c8202fdea85330ca9b785b8310", func := "loop.example/reliefmaps/laws.FnExactPeakSum", spec := "fnExactPeakSum", unfollowed := true, recurses := true, apart := false, narrowed := true }
def FnExactPeakSumUptoSaid : Prop := fnExactPeakSumUptoRow.holds Try.pinned (OpenSpec.upto fnExactPeakSumSpec)

/-- 'laws.FnPits', WHERE WHAT IT READS IS OF BULK AT MOST 1048576: true; the input reads as it did. -/
def fnPitsUptoRow : OpenClaim := { program := "ytlnodngkacbfkaa", sum := "8c23c56f24de8409d5cfa1f8fe659e8dd37496c8202fdea85330ca9b785b8310", func := "loop.example/reliefmaps/laws.FnPits", spec := "fnPits", unfollowed := true, recurses := true, apart := false, narrowed := true }
def FnPitsUptoSaid : Prop := fnPitsUptoRow.holds Try.pinned (OpenSpec.upto fnPitsSpec)

/-- 'laws.FnExactPeakMost', WHERE WHAT IT READS IS OF BULK AT MOST 1048576: true; the input reads as it did. -/
def fnExactPeakMostUptoRow : OpenClaim := { program := "ytlnodngkacbfkaa", sum := "8c23c56f24de8409d5cfa1f8fe659e8dd37496c8202fdea85330ca9b785b8310", func := "loop.example/reliefmaps/laws.FnExactPeakMost", spec := "fnExactPeakMost", unfollowed := true, recurses := true, apart := false, narrowed := true }
def FnExactPeakMostUptoSaid : Prop := fnExactPeakMostUptoRow.holds Try.pinned (OpenSpec.upto fnExactPeakMostSpec)

/-- 'laws.FnPeakMost', WHERE WHAT IT READS IS OF BULK AT MOST 1048576: true; the input reads as it did. -/
def fnPeakMostUptoRow : OpenClaim := { program := "ytlnodngkacbfkaa", sum := "8c23c56f24de8409d5cfa1f8fe659e8dd37496c8202fdea85330ca9b785b8310", func := "loop.example/reliefmaps/laws.FnPeakMost", spec := "fnPeakMost", unfollowed := true, recurses := true, apart := false, narrowed := true }
def FnPeakMostUptoSaid : Prop := fnPeakMostUptoRow.holds Try.pinned (OpenSpec.upto fnPeakMostSpec)

/-- 'laws.FnIsland', WHERE WHAT IT READS IS OF BULK AT MOST 1048576: true; the input reads as it did. -/
def fnIslandUptoRow : OpenClaim := { program := "ytlnodngkacbfkaa", sum := "8c23c56f24de8409d5cfa1f8fe659e8dd37496c8202fdea85330ca9b785b8310", func := "loop.example/reliefmaps/laws.FnIsland", spec := "fnIsland", unfollowed := true, recurses := true, apart := false, narrowed := true }
def FnIslandUptoSaid : Prop := fnIslandUptoRow.holds Try.pinned (OpenSpec.upto fnIslandSpec)

/-- 'laws.FnParent', WHERE WHAT IT READS IS OF BULK AT MOST 1048576: true; the input reads as it did. -/
def fnParentUptoRow : OpenClaim := { program := "ytlnodngkacbfkaa", sum := "8c23c56f24de8409d5cfa1f8fe659e8dd37496c8202fdea85330ca9b785b8310", func := "loop.example/reliefmaps/laws.FnParent", spec := "fnParent", unfollowed := true, recurses := true, apart := false, narrowed := true }
def FnParentUptoSaid : Prop := fnParentUptoRow.holds Try.pinned (OpenSpec.upto fnParentSpec)

/-- 'laws.FnProminence', WHERE WHAT IT READS IS OF BULK AT MOST 1048576: true; the input reads as it did. -/
def fnProminenceUptoRow : OpenClaim := { program := "ytlnodngkacbfkaa", sum := "8c23c56f24de8409d5cfa1f8fe659e8dd37496c8202fdea85330ca9b785b8310", func := "loop.example/reliefmaps/laws.FnProminence", spec := "fnProminence", unfollowed := true, recurses := true, apart := false, narrowed := true }
def FnProminenceUptoSaid : Prop := fnProminenceUptoRow.holds Try.pinned (OpenSpec.upto fnProminenceSpec)

end Rows
end Go.Proofs.Ytlnodngkacbfkaa
