/-
  No cell of these rows narrows 'for every input' (looked for: loops, veiled, ifaces, maps, wideKeys, modest, calm, conditions, laid).
  DERIVED. THE GIVEN ROWS OF THIS SEAT. 6 by the template 'for every input the law returns true; each argument reads behind the call as it read before'; 0 by the template 'total and deterministic' (their statements: YtfnigoibemimaaaTotals.lean).
  GIVEN WITH THE SEED: the statements are not yours to turn. If you find one false, say at which input.
  Laid BY PROGRAM, IN A SANDBOX (cutbox-rows.mjs): the forced cells as the released guide's own fill.sh prints them over the translation f60b5583003b28df… (all of the seat's roots in one cut). By AI agents, Wed Nov 11 2026. No macro, syntax, notation, axiom, sorry.
-/
import Derived.Test.YtfnigoibemimaaaChecked
import GoSem.Claim
import GoSem.ClaimJoined
import GoSem.ClaimMapViews
import Derived.JoinedTies
import Derived.KernelRfl
namespace Go.Proofs.Ytfnigoibemimaaa
/- THE CELL 'sum', in the pinned program and in every row, IS THE sha256 OF THE DUMP (.gsa) THAT YtfnigoibemimaaaProg.lean LOADS. Nothing in Lean hashes anything: it is a label: what it is worth is what the hold of that sum in a sandbox is worth. -/
noncomputable def Try.pinned : Pinned := { name := "ytfnigoibemimaaa", sum := "f60b5583003b28df3aaca0a5ee91ac8783fbdd14a00d2948fa4d08056904fd64", checked := Try.checked }
namespace Rows
def none {H : Type} : Left H := { results := [], args := [] }

/-- 'laws.FnExactLevelLand': WHATEVER THE INPUT: true; the input reads as it did. -/
def fnExactLevelLandSpec : ChangeSpec := { name := "fnExactLevelLand", fn := fun _ => fun
  | [d1, d2] => { results := [.lit (.bool true)], args := [d1, d2] }
  | _ => none }
def fnExactLevelLandRow : OpenClaim := { program := "ytfnigoibemimaaa", sum := "f60b5583003b28df3aaca0a5ee91ac8783fbdd14a00d2948fa4d08056904fd64", func := "loop.example/reliefmaps/laws.FnExactLevelLand", spec := "fnExactLevelLand", apart := false }
def FnExactLevelLandSaid : Prop := fnExactLevelLandRow.holds Try.pinned (OpenSpec.ofChange fnExactLevelLandSpec)

/-- ITS FALSE NEIGHBOUR: 'it returns false'. Refute it at one input. -/
def fnExactLevelLandWrong : ChangeSpec := { name := "fnExactLevelLand", fn := fun _ => fun
  | [d1, d2] => { results := [.lit (.bool false)], args := [d1, d2] }
  | _ => none }
def FnExactLevelLandWrongFalsely : Prop := fnExactLevelLandRow.holds Try.pinned (OpenSpec.ofChange fnExactLevelLandWrong)

/-- 'laws.FnGreatest': WHATEVER THE INPUT: true; the input reads as it did. -/
def fnGreatestSpec : ChangeSpec := { name := "fnGreatest", fn := fun _ => fun
  | [d] => { results := [.lit (.bool true)], args := [d] }
  | _ => none }
def fnGreatestRow : OpenClaim := { program := "ytfnigoibemimaaa", sum := "f60b5583003b28df3aaca0a5ee91ac8783fbdd14a00d2948fa4d08056904fd64", func := "loop.example/reliefmaps/laws.FnGreatest", spec := "fnGreatest", apart := false }
def FnGreatestSaid : Prop := fnGreatestRow.holds Try.pinned (OpenSpec.ofChange fnGreatestSpec)

/-- ITS FALSE NEIGHBOUR: 'it returns false'. Refute it at one input. -/
def fnGreatestWrong : ChangeSpec := { name := "fnGreatest", fn := fun _ => fun
  | [d] => { results := [.lit (.bool false)], args := [d] }
  | _ => none }
def FnGreatestWrongFalsely : Prop := fnGreatestRow.holds Try.pinned (OpenSpec.ofChange fnGreatestWrong)

/-- 'laws.FnLand': WHATEVER THE INPUT: true; the input reads as it did. -/
def fnLandSpec : ChangeSpec := { name := "fnLand", fn := fun _ => fun
  | [d] => { results := [.lit (.bool true)], args := [d] }
  | _ => none }
def fnLandRow : OpenClaim := { program := "ytfnigoibemimaaa", sum := "f60b5583003b28df3aaca0a5ee91ac8783fbdd14a00d2948fa4d08056904fd64", func := "loop.example/reliefmaps/laws.FnLand", spec := "fnLand", unfollowed := true, recurses := true, apart := false }
def FnLandSaid : Prop := fnLandRow.holds Try.pinned (OpenSpec.ofChange fnLandSpec)

/-- ITS FALSE NEIGHBOUR: 'it returns false'. Refute it at one input. -/
def fnLandWrong : ChangeSpec := { name := "fnLand", fn := fun _ => fun
  | [d] => { results := [.lit (.bool false)], args := [d] }
  | _ => none }
def FnLandWrongFalsely : Prop := fnLandRow.holds Try.pinned (OpenSpec.ofChange fnLandWrong)

/-- 'laws.FnExactWaterLongest': WHATEVER THE INPUT: true; the input reads as it did. -/
def fnExactWaterLongestSpec : ChangeSpec := { name := "fnExactWaterLongest", fn := fun _ => fun
  | [d] => { results := [.lit (.bool true)], args := [d] }
  | _ => none }
def fnExactWaterLongestRow : OpenClaim := { program := "ytfnigoibemimaaa", sum := "f60b5583003b28df3aaca0a5ee91ac8783fbdd14a00d2948fa4d08056904fd64", func := "loop.example/reliefmaps/laws.FnExactWaterLongest", spec := "fnExactWaterLongest", unfollowed := true, recurses := true, apart := false }
def FnExactWaterLongestSaid : Prop := fnExactWaterLongestRow.holds Try.pinned (OpenSpec.ofChange fnExactWaterLongestSpec)

/-- ITS FALSE NEIGHBOUR: 'it returns false'. Refute it at one input. -/
def fnExactWaterLongestWrong : ChangeSpec := { name := "fnExactWaterLongest", fn := fun _ => fun
  | [d] => { results := [.lit (.bool false)], args := [d] }
  | _ => none }
def FnExactWaterLongestWrongFalsely : Prop := fnExactWaterLongestRow.holds Try.pinned (OpenSpec.ofChange fnExactWaterLongestWrong)

/-- 'laws.FnExactWaterRun': WHATEVER THE INPUT: true; the input reads as it did. -/
def fnExactWaterRunSpec : ChangeSpec := { name := "fnExactWaterRun", fn := fun _ => fun
  | [d1, d2, d3] => { results := [.lit (.bool true)], args := [d1, d2, d3] }
  | _ => none }
def fnExactWaterRunRow : OpenClaim := { program := "ytfnigoibemimaaa", sum := "f60b5583003b28df3aaca0a5ee91ac8783fbdd14a00d2948fa4d08056904fd64", func := "loop.example/reliefmaps/laws.FnExactWaterRun", spec := "fnExactWaterRun", unfollowed := true, recurses := true, apart := false }
def FnExactWaterRunSaid : Prop := fnExactWaterRunRow.holds Try.pinned (OpenSpec.ofChange fnExactWaterRunSpec)

/-- ITS FALSE NEIGHBOUR: 'it returns false'. Refute it at one input. -/
def fnExactWaterRunWrong : ChangeSpec := { name := "fnExactWaterRun", fn := fun _ => fun
  | [d1, d2, d3] => { results := [.lit (.bool false)], args := [d1, d2, d3] }
  | _ => none }
def FnExactWaterRunWrongFalsely : Prop := fnExactWaterRunRow.holds Try.pinned (OpenSpec.ofChange fnExactWaterRunWrong)

/-- 'laws.FnLongest': WHATEVER THE INPUT: true; the input reads as it did. -/
def fnLongestSpec : ChangeSpec := { name := "fnLongest", fn := fun _ => fun
  | [d] => { results := [.lit (.bool true)], args := [d] }
  | _ => none }
def fnLongestRow : OpenClaim := { program := "ytfnigoibemimaaa", sum := "f60b5583003b28df3aaca0a5ee91ac8783fbdd14a00d2948fa4d08056904fd64", func := "loop.example/reliefmaps/laws.FnLongest", spec := "fnLongest", unfollowed := true, recurses := true, apart := false }
def FnLongestSaid : Prop := fnLongestRow.holds Try.pinned (OpenSpec.ofChange fnLongestSpec)

/-- ITS FALSE NEIGHBOUR: 'it returns false'. Refute it at one input. -/
def fnLongestWrong : ChangeSpec := { name := "fnLongest", fn := fun _ => fun
  | [d] => { results := [.lit (.bool false)], args := [d] }
  | _ => none }
def FnLongestWrongFalsely : Prop := fnLongestRow.holds Try.pinned (OpenSpec.ofChange fnLongestWrong)

/- THE SECOND FORM. 'bulk': how many values and letters a reading holds, each counted each time it is reached (what is shared counts as often as it is met; a slice's spare places count too). A statement '..UptoSaid' is the law's where the arguments, and the package variables that the reading takes, are together of bulk at most 1048576: NARROWER than '..Said'. Prove '..Said' where nothing that the law and all that it calls make is longer than what came in: it says more and counts as full. Else prove '..UptoSaid'. A law counts once. -/
mutual
def uptoBulk {H : Type} : DataW H → Nat
  | .lit (.string bytes) => bytes.length + 1
  | .lit _ => 1
  | .nil => 1
  | .ptr d => uptoBulk d + 1
  | .slice elems spare => uptoBulkAll elems + uptoBulkAll spare + 1
  | .agg parts => uptoBulkAll parts + 1
  | .iface _ d => uptoBulk d + 1
  | .map entries => uptoBulkEntries entries + 1
  | .held _ => 1
def uptoBulkAll {H : Type} : List (DataW H) → Nat
  | [] => 0
  | d :: r => uptoBulk d + uptoBulkAll r
def uptoBulkEntries {H : Type} : List (Lit × DataW H) → Nat
  | [] => 0
  | x :: r => uptoBulkEntry x + uptoBulkEntries r
def uptoBulkEntry {H : Type} : Lit × DataW H → Nat
  | (.string bytes, d) => bytes.length + uptoBulk d + 1
  | (_, d) => uptoBulk d + 1
 end
def uptoSmall : (H : Type) → List (DataW H) → Bool := fun _ ds => decide (uptoBulkAll ds ≤ 1048576)
def OpenSpec.upto (s : _root_.Go.ChangeSpec) : _root_.Go.OpenSpec := { _root_.Go.OpenSpec.ofChange s with cond := some uptoSmall }

/-- 'laws.FnExactLevelLand', WHERE WHAT IT READS IS OF BULK AT MOST 1048576: true; the input reads as it did. -/
def fnExactLevelLandUptoRow : OpenClaim := { program := "ytfnigoibemimaaa", sum := "f60b5583003b28df3aaca0a5ee91ac8783fbdd14a00d2948fa4d08056904fd64", func := "loop.example/reliefmaps/laws.FnExactLevelLand", spec := "fnExactLevelLand", apart := false, narrowed := true }
def FnExactLevelLandUptoSaid : Prop := fnExactLevelLandUptoRow.holds Try.pinned (OpenSpec.upto fnExactLevelLandSpec)

/-- 'laws.FnGreatest', WHERE WHAT IT READS IS OF BULK AT MOST 1048576: true; the input reads as it did. -/
def fnGreatestUptoRow : OpenClaim := { program := "ytfnigoibemimaaa", sum := "f60b5583003b28df3aaca0a5ee91ac8783fbdd14a00d2948fa4d08056904fd64", func := "loop.example/reliefmaps/laws.FnGreatest", spec := "fnGreatest", apart := false, narrowed := true }
def FnGreatestUptoSaid : Prop := fnGreatestUptoRow.holds Try.pinned (OpenSpec.upto fnGreatestSpec)

/-- 'laws.FnLand', WHERE WHAT IT READS IS OF BULK AT MOST 1048576: true; the input reads as it did. -/
def fnLandUptoRow : OpenClaim := { program := "ytfnigoibemimaaa", sum := "f60b5583003b28df3aaca0a5ee91ac8783fbdd14a00d2948fa4d08056904fd64", func := "loop.example/reliefmaps/laws.FnLand", spec := "fnLand", unfollowed := true, recurses := true, apart := false, narrowed := true }
def FnLandUptoSaid : Prop := fnLandUptoRow.holds Try.pinned (OpenSpec.upto fnLandSpec)

/-- 'laws.FnExactWaterLongest', WHERE WHAT IT READS IS OF BULK AT MOST 1048576: true; the input reads as it did. -/
def fnExactWaterLongestUptoRow : OpenClaim := { program := "ytfnigoibemimaaa", sum := "f60b5583003b28df3aaca0a5ee91ac8783fbdd14a00d2948fa4d08056904fd64", func := "loop.example/reliefmaps/laws.FnExactWaterLongest", spec := "fnExactWaterLongest", unfollowed := true, recurses := true, apart := false, narrowed := true }
def FnExactWaterLongestUptoSaid : Prop := fnExactWaterLongestUptoRow.holds Try.pinned (OpenSpec.upto fnExactWaterLongestSpec)

/-- 'laws.FnExactWaterRun', WHERE WHAT IT READS IS OF BULK AT MOST 1048576: true; the input reads as it did. -/
def fnExactWaterRunUptoRow : OpenClaim := { program := "ytfnigoibemimaaa", sum := "f60b5583003b28df3aaca0a5ee91ac8783fbdd14a00d2948fa4d08056904fd64", func := "loop.example/reliefmaps/laws.FnExactWaterRun", spec := "fnExactWaterRun", unfollowed := true, recurses := true, apart := false, narrowed := true }
def FnExactWaterRunUptoSaid : Prop := fnExactWaterRunUptoRow.holds Try.pinned (OpenSpec.upto fnExactWaterRunSpec)

/-- 'laws.FnLongest', WHERE WHAT IT READS IS OF BULK AT MOST 1048576: true; the input reads as it did. -/
def fnLongestUptoRow : OpenClaim := { program := "ytfnigoibemimaaa", sum := "f60b5583003b28df3aaca0a5ee91ac8783fbdd14a00d2948fa4d08056904fd64", func := "loop.example/reliefmaps/laws.FnLongest", spec := "fnLongest", unfollowed := true, recurses := true, apart := false, narrowed := true }
def FnLongestUptoSaid : Prop := fnLongestUptoRow.holds Try.pinned (OpenSpec.upto fnLongestSpec)

end Rows
end Go.Proofs.Ytfnigoibemimaaa
