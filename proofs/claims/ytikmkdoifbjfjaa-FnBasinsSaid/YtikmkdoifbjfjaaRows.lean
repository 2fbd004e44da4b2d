/-
  No cell of these rows narrows 'for every input' (looked for: loops, veiled, ifaces, maps, wideKeys, modest, calm, conditions, laid).
  DERIVED. THE GIVEN ROWS OF THIS SEAT. 12 by the template 'for every input the law returns true; each argument reads behind the call as it read before'; 0 by the template 'total and deterministic' (their statements: YtikmkdoifbjfjaaTotals.lean).
  GIVEN WITH THE SEED: the statements are not yours to turn. If you find one false, say at which input.
  Laid BY PROGRAM, IN A SANDBOX (cutbox-rows.mjs): the forced cells as the released guide's own fill.sh prints them over the translation 5ef958f9bb823f4b… (all of the seat's roots in one cut). By AI agents, Wed Nov 11 2026. No macro, syntax, notation, axiom, sorry.
-/
import Derived.Test.YtikmkdoifbjfjaaChecked
import GoSem.Claim
import GoSem.ClaimJoined
import GoSem.ClaimMapViews
import Derived.JoinedTies
import Derived.KernelRfl
namespace Go.Proofs.Ytikmkdoifbjfjaa
/- THE CELL 'sum', in the pinned program and in every row, IS THE sha256 OF THE DUMP (.gsa) THAT YtikmkdoifbjfjaaProg.lean LOADS. Nothing in Lean hashes anything: it is a label: what it is worth is what the hold of that sum in a sandbox is worth. -/
noncomputable def Try.pinned : Pinned := { name := "ytikmkdoifbjfjaa", sum := "5ef958f9bb823f4b1921404691270af43c56a215444cbe2fe1b91a0c345740f0", checked := Try.checked }
namespace Rows
def none {H : Type} : Left H := { results := [], args := [] }

/-- 'laws.FnExactWaterLongest': WHATEVER THE INPUT: true; the input reads as it did. -/
def fnExactWaterLongestSpec : ChangeSpec := { name := "fnExactWaterLongest", fn := fun _ => fun
  | [d] => { results := [.lit (.bool true)], args := [d] }
  | _ => none }
def fnExactWaterLongestRow : OpenClaim := { program := "ytikmkdoifbjfjaa", sum := "5ef958f9bb823f4b1921404691270af43c56a215444cbe2fe1b91a0c345740f0", func := "loop.example/reliefmaps/laws.FnExactWaterLongest", spec := "fnExactWaterLongest", unfollowed := true, recurses := true, apart := false }
def FnExactWaterLongestSaid : Prop := fnExactWaterLongestRow.holds Try.pinned (OpenSpec.ofChange fnExactWaterLongestSpec)

/-- ITS FALSE NEIGHBOUR: 'it returns false'. Refute it at one input. -/
def fnExactWaterLongestWrong : ChangeSpec := { name := "fnExactWaterLongest", fn := fun _ => fun
  | [d] => { results := [.lit (.bool false)], args := [d] }
  | _ => none }
def FnExactWaterLongestWrongFalsely : Prop := fnExactWaterLongestRow.holds Try.pinned (OpenSpec.ofChange fnExactWaterLongestWrong)

/-- 'laws.FnExactWaterRun': WHATEVER THE INPUT: true; the input reads as it did. -/
def fnExactWaterRunSpec : ChangeSpec := { name := "fnExactWaterRun", fn := fun _ => fun
  | [d1, d2, d3] => { results := [.lit (.bool true)], args := [d1, d2, d3] }
  | _ => none }
def fnExactWaterRunRow : OpenClaim := { program := "ytikmkdoifbjfjaa", sum := "5ef958f9bb823f4b1921404691270af43c56a215444cbe2fe1b91a0c345740f0", func := "loop.example/reliefmaps/laws.FnExactWaterRun", spec := "fnExactWaterRun", unfollowed := true, recurses := true, apart := false }
def FnExactWaterRunSaid : Prop := fnExactWaterRunRow.holds Try.pinned (OpenSpec.ofChange fnExactWaterRunSpec)

/-- ITS FALSE NEIGHBOUR: 'it returns false'. Refute it at one input. -/
def fnExactWaterRunWrong : ChangeSpec := { name := "fnExactWaterRun", fn := fun _ => fun
  | [d1, d2, d3] => { results := [.lit (.bool false)], args := [d1, d2, d3] }
  | _ => none }
def FnExactWaterRunWrongFalsely : Prop := fnExactWaterRunRow.holds Try.pinned (OpenSpec.ofChange fnExactWaterRunWrong)

/-- 'laws.FnLongest': WHATEVER THE INPUT: true; the input reads as it did. -/
def fnLongestSpec : ChangeSpec := { name := "fnLongest", fn := fun _ => fun
  | [d] => { results := [.lit (.bool true)], args := [d] }
  | _ => none }
def fnLongestRow : OpenClaim := { program := "ytikmkdoifbjfjaa", sum := "5ef958f9bb823f4b1921404691270af43c56a215444cbe2fe1b91a0c345740f0", func := "loop.example/reliefmaps/laws.FnLongest", spec := "fnLongest", unfollowed := true, recurses := true, apart := false }
def FnLongestSaid : Prop := fnLongestRow.holds Try.pinned (OpenSpec.ofChange fnLongestSpec)

/-- ITS FALSE NEIGHBOUR: 'it returns false'. Refute it at one input. -/
def fnLongestWrong : ChangeSpec := { name := "fnLongest", fn := fun _ => fun
  | [d] => { results := [.lit (.bool false)], args := [d] }
  | _ => none }
def FnLongestWrongFalsely : Prop := fnLongestRow.holds Try.pinned (OpenSpec.ofChange fnLongestWrong)

/-- 'laws.FnExactWaterBasin': WHATEVER THE INPUT: true; the input reads as it did. -/
def fnExactWaterBasinSpec : ChangeSpec := { name := "fnExactWaterBasin", fn := fun _ => fun
  | [d1, d2] => { results := [.lit (.bool true)], args := [d1, d2] }
  | _ => none }
def fnExactWaterBasinRow : OpenClaim := { program := "ytikmkdoifbjfjaa", sum := "5ef958f9bb823f4b1921404691270af43c56a215444cbe2fe1b91a0c345740f0", func := "loop.example/reliefmaps/laws.FnExactWaterBasin", spec := "fnExactWaterBasin", unfollowed := true, recurses := true, apart := false }
def FnExactWaterBasinSaid : Prop := fnExactWaterBasinRow.holds Try.pinned (OpenSpec.ofChange fnExactWaterBasinSpec)

/-- ITS FALSE NEIGHBOUR: 'it returns false'. Refute it at one input. -/
def fnExactWaterBasinWrong : ChangeSpec := { name := "fnExactWaterBasin", fn := fun _ => fun
  | [d1, d2] => { results := [.lit (.bool false)], args := [d1, d2] }
  | _ => none }
def FnExactWaterBasinWrongFalsely : Prop := fnExactWaterBasinRow.holds Try.pinned (OpenSpec.ofChange fnExactWaterBasinWrong)

/-- 'laws.FnExactWaterFlow': WHATEVER THE INPUT: true; the input reads as it did. -/
def fnExactWaterFlowSpec : ChangeSpec := { name := "fnExactWaterFlow", fn := fun _ => fun
  | [d] => { results := [.lit (.bool true)], args := [d] }
  | _ => none }
def fnExactWaterFlowRow : OpenClaim := { program := "ytikmkdoifbjfjaa", sum := "5ef958f9bb823f4b1921404691270af43c56a215444cbe2fe1b91a0c345740f0", func := "loop.example/reliefmaps/laws.FnExactWaterFlow", spec := "fnExactWaterFlow", unfollowed := true, recurses := true, apart := false }
def FnExactWaterFlowSaid : Prop := fnExactWaterFlowRow.holds Try.pinned (OpenSpec.ofChange fnExactWaterFlowSpec)

/-- ITS FALSE NEIGHBOUR: 'it returns false'. Refute it at one input. -/
def fnExactWaterFlowWrong : ChangeSpec := { name := "fnExactWaterFlow", fn := fun _ => fun
  | [d] => { results := [.lit (.bool false)], args := [d] }
  | _ => none }
def FnExactWaterFlowWrongFalsely : Prop := fnExactWaterFlowRow.holds Try.pinned (OpenSpec.ofChange fnExactWaterFlowWrong)

/-- 'laws.FnExactWaterDivide': WHATEVER THE INPUT: true; the input reads as it did. -/
def fnExactWaterDivideSpec : ChangeSpec := { name := "fnExactWaterDivide", fn := fun _ => fun
  | [d] => { results := [.lit (.bool true)], args := [d] }
  | _ => none }
def fnExactWaterDivideRow : OpenClaim := { program := "ytikmkdoifbjfjaa", sum := "5ef958f9bb823f4b1921404691270af43c56a215444cbe2fe1b91a0c345740f0", func := "loop.example/reliefmaps/laws.FnExactWaterDivide", spec := "fnExactWaterDivide", unfollowed := true, recurses := true, apart := false }
def FnExactWaterDivideSaid : Prop := fnExactWaterDivideRow.holds Try.pinned (OpenSpec.ofChange fnExactWaterDivideSpec)

/-- ITS FALSE NEIGHBOUR: 'it returns false'. Refute it at one input. -/
def fnExactWaterDivideWrong : ChangeSpec := { name := "fnExactWaterDivide", fn := fun _ => fun
  | [d] => { results := [.lit (.bool false)], args := [d] }
  | _ => none }
def FnExactWaterDivideWrongFalsely : Prop := fnExactWaterDivideRow.holds Try.pinned (OpenSpec.ofChange fnExactWaterDivideWrong)

/-- 'laws.FnExactWaterBasins': WHATEVER THE INPUT: true; the input reads as it did. -/
def fnExactWaterBasinsSpec : ChangeSpec := { name := "fnExactWaterBasins", fn := fun _ => fun
  | [d] => { results := [.lit (.bool true)], args := [d] }
  | _ => none }
def fnExactWaterBasinsRow : OpenClaim := { program := "ytikmkdoifbjfjaa", sum := "5ef958f9bb823f4b1921404691270af43c56a215444cbe2fe1b91a0c345740f0", func := "loop.example/reliefmaps/laws.FnExactWaterBasins", spec := "fnExactWaterBasins", unfollowed := true, recurses := true, apart := false }
def FnExactWaterBasinsSaid : Prop := fnExactWaterBasinsRow.holds Try.pinned (OpenSpec.ofChange fnExactWaterBasinsSpec)

/-- ITS FALSE NEIGHBOUR: 'it returns false'. Refute it at one input. -/
def fnExactWaterBasinsWrong : ChangeSpec := { name := "fnExactWaterBasins", fn := fun _ => fun
  | [d] => { results := [.lit (.bool false)], args := [d] }
  | _ => none }
def FnExactWaterBasinsWrongFalsely : Prop := fnExactWaterBasinsRow.holds Try.pinned (OpenSpec.ofChange fnExactWaterBasinsWrong)

/-- 'laws.FnFlow': WHATEVER THE INPUT: true; the input reads as it did. -/
def fnFlowSpec : ChangeSpec := { name := "fnFlow", fn := fun _ => fun
  | [d] => { results := [.lit (.bool true)], args := [d] }
  | _ => none }
def fnFlowRow : OpenClaim := { program := "ytikmkdoifbjfjaa", sum := "5ef958f9bb823f4b1921404691270af43c56a215444cbe2fe1b91a0c345740f0", func := "loop.example/reliefmaps/laws.FnFlow", spec := "fnFlow", unfollowed := true, recurses := true, apart := false }
def FnFlowSaid : Prop := fnFlowRow.holds Try.pinned (OpenSpec.ofChange fnFlowSpec)

/-- ITS FALSE NEIGHBOUR: 'it returns false'. Refute it at one input. -/
def fnFlowWrong : ChangeSpec := { name := "fnFlow", fn := fun _ => fun
  | [d] => { results := [.lit (.bool false)], args := [d] }
  | _ => none }
def FnFlowWrongFalsely : Prop := fnFlowRow.holds Try.pinned (OpenSpec.ofChange fnFlowWrong)

/-- 'laws.FnWaterRun': WHATEVER THE INPUT: true; the input reads as it did. -/
def fnWaterRunSpec : ChangeSpec := { name := "fnWaterRun", fn := fun _ => fun
  | [d] => { results := [.lit (.bool true)], args := [d] }
  | _ => none }
def fnWaterRunRow : OpenClaim := { program := "ytikmkdoifbjfjaa", sum := "5ef958f9bb823f4b1921404691270af43c56a215444cbe2fe1b91a0c345740f0", func := "loop.example/reliefmaps/laws.FnWaterRun", spec := "fnWaterRun", unfollowed := true, recurses := true, apart := false }
def FnWaterRunSaid : Prop := fnWaterRunRow.holds Try.pinned (OpenSpec.ofChange fnWaterRunSpec)

/-- ITS FALSE NEIGHBOUR: 'it returns false'. Refute it at one input. -/
def fnWaterRunWrong : ChangeSpec := { name := "fnWaterRun", fn := fun _ => fun
  | [d] => { results := [.lit (.bool false)], args := [d] }
  | _ => none }
def FnWaterRunWrongFalsely : Prop := fnWaterRunRow.holds Try.pinned (OpenSpec.ofChange fnWaterRunWrong)

/-- 'laws.FnBasin': WHATEVER THE INPUT: true; the input reads as it did. -/
def fnBasinSpec : ChangeSpec := { name := "fnBasin", fn := fun _ => fun
  | [d] => { results := [.lit (.bool true)], args := [d] }
  | _ => none }
def fnBasinRow : OpenClaim := { program := "ytikmkdoifbjfjaa", sum := "5ef958f9bb823f4b1921404691270af43c56a215444cbe2fe1b91a0c345740f0", func := "loop.example/reliefmaps/laws.FnBasin", spec := "fnBasin", unfollowed := true, recurses := true, apart := false }
def FnBasinSaid : Prop := fnBasinRow.holds Try.pinned (OpenSpec.ofChange fnBasinSpec)

/-- ITS FALSE NEIGHBOUR: 'it returns false'. Refute it at one input. -/
def fnBasinWrong : ChangeSpec := { name := "fnBasin", fn := fun _ => fun
  | [d] => { results := [.lit (.bool false)], args := [d] }
  | _ => none }
def FnBasinWrongFalsely : Prop := fnBasinRow.holds Try.pinned (OpenSpec.ofChange fnBasinWrong)

/-- 'laws.FnBasins': WHATEVER THE INPUT: true; the input reads as it did. -/
def fnBasinsSpec : ChangeSpec := { name := "fnBasins", fn := fun _ => fun
  | [d] => { results := [.lit (.bool true)], args := [d] }
  | _ => none }
def fnBasinsRow : OpenClaim := { program := "ytikmkdoifbjfjaa", sum := "5ef958f9bb823f4b1921404691270af43c56a215444cbe2fe1b91a0c345740f0", func := "loop.example/reliefmaps/laws.FnBasins", spec := "fnBasins", unfollowed := true, recurses := true, apart := false }
def FnBasinsSaid : Prop := fnBasinsRow.holds Try.pinned (OpenSpec.ofChange fnBasinsSpec)

/-- ITS FALSE NEIGHBOUR: 'it returns false'. Refute it at one input. -/
def fnBasinsWrong : ChangeSpec := { name := "fnBasins", fn := fun _ => fun
  | [d] => { results := [.lit (.bool false)], args := [d] }
  | _ => none }
def FnBasinsWrongFalsely : Prop := fnBasinsRow.holds Try.pinned (OpenSpec.ofChange fnBasinsWrong)

/-- 'laws.FnDivide': WHATEVER THE INPUT: true; the input reads as it did. -/
def fnDivideSpec : ChangeSpec := { name := "fnDivide", fn := fun _ => fun
  | [d] => { results := [.lit (.bool true)], args := [d] }
  | _ => none }
def fnDivideRow : OpenClaim := { program := "ytikmkdoifbjfjaa", sum := "5ef958f9bb823f4b1921404691270af43c56a215444cbe2fe1b91a0c345740f0", func := "loop.example/reliefmaps/laws.FnDivide", spec := "fnDivide", unfollowed := true, recurses := true, apart := false }
def FnDivideSaid : Prop := fnDivideRow.holds Try.pinned (OpenSpec.ofChange fnDivideSpec)

/-- ITS FALSE NEIGHBOUR: 'it returns false'. Refute it at one input. -/
def fnDivideWrong : ChangeSpec := { name := "fnDivide", fn := fun _ => fun
  | [d] => { results := [.lit (.bool false)], args := [d] }
  | _ => none }
def FnDivideWrongFalsely : Prop := fnDivideRow.holds Try.pinned (OpenSpec.ofChange fnDivideWrong)

/- THE SECOND FORM. 'bulk': how many values and letters a reading holds, each counted each time it is reached (what is shared counts as often as it is met; a slice's spare places count too). A statement '..UptoSaid' is the law's where the arguments, and the package variables that the reading takes, are together of bulk at most 1048576: NARROWER than '..Said'. Prove '..Said' where nothing that the law and all that it calls make is longer than what came in: it says more and counts as full. Else prove '..UptoSaid'. A law counts once. -/
mutual
def uptoBulk {H : Type} : DataW H → Nat
  | .lit (.string bytes) => bytes.length + 1
  | .lit _ => 1
  | .nil => 1
  | .ptr d => uptoBulk d + 1
  | .slice elems spare => uptoBulkAll elems + uptoBulkAll spare + 1
  | .agg parts => uptoBulkAll parts + 1
  | .iface _ d => uptoBulk d + 1
  | .map entries => uptoBulkEntries entries + 1
  | .held _ => 1
def uptoBulkAll {H : Type} : List (DataW H) → Nat
  | [] => 0
  | d :: r => uptoBulk d + uptoBulkAll r
def uptoBulkEntries {H : Type} : List (Lit × DataW H) → Nat
  | [] => 0
  | x :: r => uptoBulkEntry x + uptoBulkEntries r
def uptoBulkEntry {H : Type} : Lit × DataW H → Nat
  | (.string bytes, d) => bytes.length + uptoBulk d + 1
  | (_, d) => uptoBulk d + 1
 end
def uptoSmall : (H : Type) → List (DataW H) → Bool := fun _ ds => decide (uptoBulkAll ds ≤ 1048576)
def OpenSpec.upto (s : _root_.Go.ChangeSpec) : _root_.Go.OpenSpec := { _root_.Go.OpenSpec.ofChange s with cond := some uptoSmall }

/-- 'laws.FnExactWaterLongest', WHERE WHAT IT READS IS OF BULK AT MOST 1048576: true; the input reads as it did. -/
def fnExactWaterLongestUptoRow : OpenClaim := { program := "ytikmkdoifbjfjaa", sum := "5ef958f9bb823f4b1921404691270af43c56a215444cbe2fe1b91a0c345740f0", func := "loop.example/reliefmaps/laws.FnExactWaterLongest", spec := "fnExactWaterLongest", unfollowed := true, recurses := true, apart := false, narrowed := true }
def FnExactWaterLongestUptoSaid : Prop := fnExactWaterLongestUptoRow.holds Try.pinned (OpenSpec.upto fnExactWaterLongestSpec)

/-- 'laws.FnExactWaterRun', WHERE WHAT IT READS IS OF BULK AT MOST 1048576: true; the input reads as it did. -/
def fnExactWaterRunUptoRow : OpenClaim := { program := "ytikmkdoifbjfjaa", sum := "5ef958f9bb823f4b1921404691270af43c56a215444cbe2fe1b91a0c345740f0", func := "loop.example/reliefmaps/laws.FnExactWaterRun", spec := "fnExactWaterRun", unfollowed := true, recurses := true, apart := false, narrowed := true }
def FnExactWaterRunUptoSaid : Prop := fnExactWaterRunUptoRow.holds Try.pinned (OpenSpec.upto fnExactWaterRunSpec)

/-- 'laws.FnLongest', WHERE WHAT IT READS IS OF BULK AT MOST 1048576: true; the input reads as it did. -/
def fnLongestUptoRow : OpenClaim := { program := "ytikmkdoifbjfjaa", sum := "5ef958f9bb823f4b1921404691270af43c56a215444cbe2fe1b91a0c345740f0", func := "loop.example/reliefmaps/laws.FnLongest", spec := "fnLongest", unfollowed := true, recurses := true, apart := false, narrowed := true }
def FnLongestUptoSaid : Prop := fnLongestUptoRow.holds Try.pinned (OpenSpec.upto fnLongestSpec)

/-- 'laws.FnExactWaterBasin', WHERE WHAT IT READS IS OF BULK AT MOST 1048576: true; the input reads as it did. -/
def fnExactWaterBasinUptoRow : OpenClaim := { program := "ytikmkdoifbjfjaa", sum := "5ef958f9bb823f4b1921404691270af43c56a215444cbe2fe1b91a0c345740f0", func := "loop.example/reliefmaps/laws.FnExactWaterBasin", spec := "fnExactWaterBasin", unfollowed := true, recurses := true, apart := false, narrowed := true }
def FnExactWaterBasinUptoSaid : Prop := fnExactWaterBasinUptoRow.holds Try.pinned (OpenSpec.upto fnExactWaterBasinSpec)

/-- 'laws.FnExactWaterFlow', WHERE WHAT IT READS IS OF BULK AT MOST 1048576: true; the input reads as it did. -/
def fnExactWaterFlowUptoRow : OpenClaim := { program := "ytikmkdoifbjfjaa", sum := "5ef958f9bb823f4b1921404691270af43c56a215444cbe2fe1b91a0c345740f0", func := "loop.example/reliefmaps/laws.FnExactWaterFlow", spec := "fnExactWaterFlow", unfollowed := true, recurses := true, apart := false, narrowed := true }
def FnExactWaterFlowUptoSaid : Prop := fnExactWaterFlowUptoRow.holds Try.pinned (OpenSpec.upto fnExactWaterFlowSpec)

/-- 'laws.FnExactWaterDivide', WHERE WHAT IT READS IS OF BULK AT MOST 1048576: true; the input reads as it did. -/
def fnExactWaterDivideUptoRow : OpenClaim := { program := "ytikmkdoifbjfjaa", sum := "5ef958f9bb823f4b1921404691270af43c56a215444cbe2fe1b91a0c345740f0", func := "loop.example/reliefmaps/laws.FnExactWaterDivide", spec := "fnExactWaterDivide", unfollowed := true, recurses := true, apart := false, narrowed := true }
def FnExactWaterDivideUptoSaid : Prop := fnExactWaterDivideUptoRow.holds Try.pinned (OpenSpec.upto fnExactWaterDivideSpec)

/-- 'laws.FnExactWaterBasins', WHERE WHAT IT READS IS OF BULK AT MOST 1048576: true; the input reads as it did. -/
def fnExactWaterBasinsUptoRow : OpenClaim := { program := "ytikmkdoifbjfjaa", sum := "5ef958f9bb823f4b1921404691270af43c56a215444cbe2fe1b91a0c345740f0", func := "loop.example/reliefmaps/laws.FnExactWaterBasins", spec := "fnExactWaterBasins", unfollowed := true, recurses := true, apart := false, narrowed := true }
def FnExactWaterBasinsUptoSaid : Prop := fnExactWaterBasinsUptoRow.holds Try.pinned (OpenSpec.upto fnExactWaterBasinsSpec)

/-- 'laws.FnFlow', WHERE WHAT IT READS IS OF BULK AT MOST 1048576: true; the input reads as it did. -/
def fnFlowUptoRow : OpenClaim := { program := "ytikmkdoifbjfjaa", sum := "5ef958f9bb823f4b1921404691270af43c56a215444cbe2fe1b91a0c345740f0", func := "loop.example/reliefmaps/laws.FnFlow", spec := "fnFlow", unfollowed := true, recurses := true, apart := false, narrowed := true }
def FnFlowUptoSaid : Prop := fnFlowUptoRow.holds Try.pinned (OpenSpec.upto fnFlowSpec)

/-- 'laws.FnWaterRun', WHERE WHAT IT READS IS OF BULK AT MOST 1048576: true; the input reads as it did. -/
def fnWaterRunUptoRow : OpenClaim := { program := "ytikmkdoifbjfjaa", sum := "5ef958f9bb823f4b1921404691270af43c56a215444cbe2fe1b91a0c345740f0", func := "loop.example/reliefmaps/laws.FnWaterRun", spec := "fnWaterRun", unfollowed := true, recurses := true, apart := false, narrowed := true }
def FnWaterRunUptoSaid : Prop := fnWaterRunUptoRow.holds Try.pinned (OpenSpec.upto fnWaterRunSpec)

/-- 'laws.FnBasin', WHERE WHAT IT READS IS OF BULK AT MOST 1048576: true; the input reads as it did. -/
def fnBasinUptoRow : OpenClaim := { program := "ytikmkdoifbjfjaa", sum := "5ef958f9bb823f4b1921404691270af43c56a215444cbe2fe1b91a0c345740f0", func := "loop.example/reliefmaps/laws.FnBasin", spec := "fnBasin", unfollowed := true, recurses := true, apart := false, narrowed := true }
def FnBasinUptoSaid : Prop := fnBasinUptoRow.holds Try.pinned (OpenSpec.upto fnBasinSpec)

/-- 'laws.FnBasins', WHERE WHAT IT READS IS OF BULK AT MOST 1048576: true; the input reads as it did. -/
def fnBasinsUptoRow : OpenClaim := { program := "ytikmkdoifbjfjaa", sum := "5ef958f9bb823f4b1921404691270af43c56a215444cbe2fe1b91a0c345740f0", func := "loop.example/reliefmaps/laws.FnBasins", spec := "fnBasins", unfollowed := true, recurses := true, apart := false, narrowed := true }
def FnBasinsUptoSaid : Prop := fnBasinsUptoRow.holds Try.pinned (OpenSpec.upto fnBasinsSpec)

/-- 'laws.FnDivide', WHERE WHAT IT READS IS OF BULK AT MOST 1048576: true; the input reads as it did. -/
def fnDivideUptoRow : OpenClaim := { program := "ytikmkdoifbjfjaa", sum := "5ef958f9bb823f4b1921404691270af43c56a215444cbe2fe1b91a0c345740f0", func := "loop.example/reliefmaps/laws.FnDivide", spec := "fnDivide", unfollowed := true, recurses := true, apart := false, narrowed := true }
def FnDivideUptoSaid : Prop := fnDivideUptoRow.holds Try.pinned (OpenSpec.upto fnDivideSpec)

end Rows
end Go.Proofs.Ytikmkdoifbjfjaa
