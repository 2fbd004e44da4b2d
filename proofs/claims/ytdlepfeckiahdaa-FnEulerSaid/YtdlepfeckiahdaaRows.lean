/-
  No cell of these rows narrows 'for every input' (looked for: loops, veiled, ifaces, maps, wideKeys, modest, calm, conditions, laid).
  DERIVED. THE GIVEN ROWS OF THIS SEAT. 12 by the template 'for every input the law returns true; each argument reads behind the call as it read before'; 0 by the template 'total and deterministic' (their statements: YtdlepfeckiahdaaTotals.lean).
  GIVEN WITH THE SEED: the statements are not yours to turn. If you find one false, say at which input.
  Laid BY PROGRAM, IN A SANDBOX (cutbox-rows.mjs): the forced cells as the released guide's own fill.sh prints them over the translation d7de7d8d1ae1be31… (all of the seat's roots in one cut). By AI agents, Wed Nov 11 2026. No macro, syntax, notation, axiom, sorry.
-/
import Derived.Test.YtdlepfeckiahdaaChecked
import GoSem.Claim
import GoSem.ClaimJoined
import GoSem.ClaimMapViews
import Derived.JoinedTies
import Derived.KernelRfl
namespace Go.Proofs.Ytdlepfeckiahdaa
/- THE CELL 'sum', in the pinned program and in every row, IS THE sha256 OF THE DUMP (.gsa) THAT YtdlepfeckiahdaaProg.lean LOADS. Nothing in Lean hashes anything: it is a label: what it is worth is what the hold of that sum in a sandbox is worth. -/
noncomputable def Try.pinned : Pinned := { name := "ytdlepfeckiahdaa", sum := "d7de7d8d1ae1be31856d97c6c7e7ba6a51e7b6481c8b2827a1b4d1414c80b545", checked := Try.checked }
namespace Rows
def none {H : Type} : Left H := { results := [], args := [] }

/-- 'laws.FnExactLevelLand': WHATEVER THE INPUT: true; the input reads as it did. -/
def fnExactLevelLandSpec : ChangeSpec := { name := "fnExactLevelLand", fn := fun _ => fun
  | [d1, d2] => { results := [.lit (.bool true)], args := [d1, d2] }
  | _ => none }
def fnExactLevelLandRow : OpenClaim := { program := "ytdlepfeckiahdaa", sum := "d7de7d8d1ae1be31856d97c6c7e7ba6a51e7b6481c8b2827a1b4d1414c80b545", func := "loop.example/reliefmaps/laws.FnExactLevelLand", spec := "fnExactLevelLand", apart := false }
def FnExactLevelLandSaid : Prop := fnExactLevelLandRow.holds Try.pinned (OpenSpec.ofChange fnExactLevelLandSpec)

/-- ITS FALSE NEIGHBOUR: 'it returns false'. Refute it at one input. -/
def fnExactLevelLandWrong : ChangeSpec := { name := "fnExactLevelLand", fn := fun _ => fun
  | [d1, d2] => { results := [.lit (.bool false)], args := [d1, d2] }
  | _ => none }
def FnExactLevelLandWrongFalsely : Prop := fnExactLevelLandRow.holds Try.pinned (OpenSpec.ofChange fnExactLevelLandWrong)

/-- 'laws.FnGreatest': WHATEVER THE INPUT: true; the input reads as it did. -/
def fnGreatestSpec : ChangeSpec := { name := "fnGreatest", fn := fun _ => fun
  | [d] => { results := [.lit (.bool true)], args := [d] }
  | _ => none }
def fnGreatestRow : OpenClaim := { program := "ytdlepfeckiahdaa", sum := "d7de7d8d1ae1be31856d97c6c7e7ba6a51e7b6481c8b2827a1b4d1414c80b545", func := "loop.example/reliefmaps/laws.FnGreatest", spec := "fnGreatest", apart := false }
def FnGreatestSaid : Prop := fnGreatestRow.holds Try.pinned (OpenSpec.ofChange fnGreatestSpec)

/-- ITS FALSE NEIGHBOUR: 'it returns false'. Refute it at one input. -/
def fnGreatestWrong : ChangeSpec := { name := "fnGreatest", fn := fun _ => fun
  | [d] => { results := [.lit (.bool false)], args := [d] }
  | _ => none }
def FnGreatestWrongFalsely : Prop := fnGreatestRow.holds Try.pinned (OpenSpec.ofChange fnGreatestWrong)

/-- 'laws.FnLand': WHATEVER THE INPUT: true; the input reads as it did. -/
def fnLandSpec : ChangeSpec := { name := "fnLand", fn := fun _ => fun
  | [d] => { results := [.lit (.bool true)], args := [d] }
  | _ => none }
def fnLandRow : OpenClaim := { program := "ytdlepfeckiahdaa", sum := "d7de7d8d1ae1be31856d97c6c7e7ba6a51e7b6481c8b2827a1b4d1414c80b545", func := "loop.example/reliefmaps/laws.FnLand", spec := "fnLand", unfollowed := true, recurses := true, apart := false }
def FnLandSaid : Prop := fnLandRow.holds Try.pinned (OpenSpec.ofChange fnLandSpec)

/-- ITS FALSE NEIGHBOUR: 'it returns false'. Refute it at one input. -/
def fnLandWrong : ChangeSpec := { name := "fnLand", fn := fun _ => fun
  | [d] => { results := [.lit (.bool false)], args := [d] }
  | _ => none }
def FnLandWrongFalsely : Prop := fnLandRow.holds Try.pinned (OpenSpec.ofChange fnLandWrong)

/-- 'laws.FnSides': WHATEVER THE INPUT: true; the input reads as it did. -/
def fnSidesSpec : ChangeSpec := { name := "fnSides", fn := fun _ => fun
  | [d] => { results := [.lit (.bool true)], args := [d] }
  | _ => none }
def fnSidesRow : OpenClaim := { program := "ytdlepfeckiahdaa", sum := "d7de7d8d1ae1be31856d97c6c7e7ba6a51e7b6481c8b2827a1b4d1414c80b545", func := "loop.example/reliefmaps/laws.FnSides", spec := "fnSides", unfollowed := true, recurses := true, apart := false }
def FnSidesSaid : Prop := fnSidesRow.holds Try.pinned (OpenSpec.ofChange fnSidesSpec)

/-- ITS FALSE NEIGHBOUR: 'it returns false'. Refute it at one input. -/
def fnSidesWrong : ChangeSpec := { name := "fnSides", fn := fun _ => fun
  | [d] => { results := [.lit (.bool false)], args := [d] }
  | _ => none }
def FnSidesWrongFalsely : Prop := fnSidesRow.holds Try.pinned (OpenSpec.ofChange fnSidesWrong)

/-- 'laws.FnExactLevelEuler': WHATEVER THE INPUT: true; the input reads as it did. -/
def fnExactLevelEulerSpec : ChangeSpec := { name := "fnExactLevelEuler", fn := fun _ => fun
  | [d1, d2] => { results := [.lit (.bool true)], args := [d1, d2] }
  | _ => none }
def fnExactLevelEulerRow : OpenClaim := { program := "ytdlepfeckiahdaa", sum := "d7de7d8d1ae1be31856d97c6c7e7ba6a51e7b6481c8b2827a1b4d1414c80b545", func := "loop.example/reliefmaps/laws.FnExactLevelEuler", spec := "fnExactLevelEuler", apart := false }
def FnExactLevelEulerSaid : Prop := fnExactLevelEulerRow.holds Try.pinned (OpenSpec.ofChange fnExactLevelEulerSpec)

/-- ITS FALSE NEIGHBOUR: 'it returns false'. Refute it at one input. -/
def fnExactLevelEulerWrong : ChangeSpec := { name := "fnExactLevelEuler", fn := fun _ => fun
  | [d1, d2] => { results := [.lit (.bool false)], args := [d1, d2] }
  | _ => none }
def FnExactLevelEulerWrongFalsely : Prop := fnExactLevelEulerRow.holds Try.pinned (OpenSpec.ofChange fnExactLevelEulerWrong)

/-- 'laws.FnShore': WHATEVER THE INPUT: true; the input reads as it did. -/
def fnShoreSpec : ChangeSpec := { name := "fnShore", fn := fun _ => fun
  | [d] => { results := [.lit (.bool true)], args := [d] }
  | _ => none }
def fnShoreRow : OpenClaim := { program := "ytdlepfeckiahdaa", sum := "d7de7d8d1ae1be31856d97c6c7e7ba6a51e7b6481c8b2827a1b4d1414c80b545", func := "loop.example/reliefmaps/laws.FnShore", spec := "fnShore", unfollowed := true, recurses := true, apart := false }
def FnShoreSaid : Prop := fnShoreRow.holds Try.pinned (OpenSpec.ofChange fnShoreSpec)

/-- ITS FALSE NEIGHBOUR: 'it returns false'. Refute it at one input. -/
def fnShoreWrong : ChangeSpec := { name := "fnShore", fn := fun _ => fun
  | [d] => { results := [.lit (.bool false)], args := [d] }
  | _ => none }
def FnShoreWrongFalsely : Prop := fnShoreRow.holds Try.pinned (OpenSpec.ofChange fnShoreWrong)

/-- 'laws.FnArea': WHATEVER THE INPUT: true; the input reads as it did. -/
def fnAreaSpec : ChangeSpec := { name := "fnArea", fn := fun _ => fun
  | [d] => { results := [.lit (.bool true)], args := [d] }
  | _ => none }
def fnAreaRow : OpenClaim := { program := "ytdlepfeckiahdaa", sum := "d7de7d8d1ae1be31856d97c6c7e7ba6a51e7b6481c8b2827a1b4d1414c80b545", func := "loop.example/reliefmaps/laws.FnArea", spec := "fnArea", apart := false }
def FnAreaSaid : Prop := fnAreaRow.holds Try.pinned (OpenSpec.ofChange fnAreaSpec)

/-- ITS FALSE NEIGHBOUR: 'it returns false'. Refute it at one input. -/
def fnAreaWrong : ChangeSpec := { name := "fnArea", fn := fun _ => fun
  | [d] => { results := [.lit (.bool false)], args := [d] }
  | _ => none }
def FnAreaWrongFalsely : Prop := fnAreaRow.holds Try.pinned (OpenSpec.ofChange fnAreaWrong)

/-- 'laws.FnRegions': WHATEVER THE INPUT: true; the input reads as it did. -/
def fnRegionsSpec : ChangeSpec := { name := "fnRegions", fn := fun _ => fun
  | [d] => { results := [.lit (.bool true)], args := [d] }
  | _ => none }
def fnRegionsRow : OpenClaim := { program := "ytdlepfeckiahdaa", sum := "d7de7d8d1ae1be31856d97c6c7e7ba6a51e7b6481c8b2827a1b4d1414c80b545", func := "loop.example/reliefmaps/laws.FnRegions", spec := "fnRegions", unfollowed := true, recurses := true, apart := false }
def FnRegionsSaid : Prop := fnRegionsRow.holds Try.pinned (OpenSpec.ofChange fnRegionsSpec)

/-- ITS FALSE NEIGHBOUR: 'it returns false'. Refute it at one input. -/
def fnRegionsWrong : ChangeSpec := { name := "fnRegions", fn := fun _ => fun
  | [d] => { results := [.lit (.bool false)], args := [d] }
  | _ => none }
def FnRegionsWrongFalsely : Prop := fnRegionsRow.holds Try.pinned (OpenSpec.ofChange fnRegionsWrong)

/-- 'laws.FnLakes': WHATEVER THE INPUT: true; the input reads as it did. -/
def fnLakesSpec : ChangeSpec := { name := "fnLakes", fn := fun _ => fun
  | [d] => { results := [.lit (.bool true)], args := [d] }
  | _ => none }
def fnLakesRow : OpenClaim := { program := "ytdlepfeckiahdaa", sum := "d7de7d8d1ae1be31856d97c6c7e7ba6a51e7b6481c8b2827a1b4d1414c80b545", func := "loop.example/reliefmaps/laws.FnLakes", spec := "fnLakes", unfollowed := true, recurses := true, apart := false }
def FnLakesSaid : Prop := fnLakesRow.holds Try.pinned (OpenSpec.ofChange fnLakesSpec)

/-- ITS FALSE NEIGHBOUR: 'it returns false'. Refute it at one input. -/
def fnLakesWrong : ChangeSpec := { name := "fnLakes", fn := fun _ => fun
  | [d] => { results := [.lit (.bool false)], args := [d] }
  | _ => none }
def FnLakesWrongFalsely : Prop := fnLakesRow.holds Try.pinned (OpenSpec.ofChange fnLakesWrong)

/-- 'laws.FnEuler': WHATEVER THE INPUT: true; the input reads as it did. -/
def fnEulerSpec : ChangeSpec := { name := "fnEuler", fn := fun _ => fun
  | [d] => { results := [.lit (.bool true)], args := [d] }
  | _ => none }
def fnEulerRow : OpenClaim := { program := "ytdlepfeckiahdaa", sum := "d7de7d8d1ae1be31856d97c6c7e7ba6a51e7b6481c8b2827a1b4d1414c80b545", func := "loop.example/reliefmaps/laws.FnEuler", spec := "fnEuler", apart := false }
def FnEulerSaid : Prop := fnEulerRow.holds Try.pinned (OpenSpec.ofChange fnEulerSpec)

/-- ITS FALSE NEIGHBOUR: 'it returns false'. Refute it at one input. -/
def fnEulerWrong : ChangeSpec := { name := "fnEuler", fn := fun _ => fun
  | [d] => { results := [.lit (.bool false)], args := [d] }
  | _ => none }
def FnEulerWrongFalsely : Prop := fnEulerRow.holds Try.pinned (OpenSpec.ofChange fnEulerWrong)

/-- 'laws.FnPeakRegions': WHATEVER THE INPUT: true; the input reads as it did. -/
def fnPeakRegionsSpec : ChangeSpec := { name := "fnPeakRegions", fn := fun _ => fun
  | [d] => { results := [.lit (.bool true)], args := [d] }
  | _ => none }
def fnPeakRegionsRow : OpenClaim := { program := "ytdlepfeckiahdaa", sum := "d7de7d8d1ae1be31856d97c6c7e7ba6a51e7b6481c8b2827a1b4d1414c80b545", func := "loop.example/reliefmaps/laws.FnPeakRegions", spec := "fnPeakRegions", unfollowed := true, recurses := true, apart := false }
def FnPeakRegionsSaid : Prop := fnPeakRegionsRow.holds Try.pinned (OpenSpec.ofChange fnPeakRegionsSpec)

/-- ITS FALSE NEIGHBOUR: 'it returns false'. Refute it at one input. -/
def fnPeakRegionsWrong : ChangeSpec := { name := "fnPeakRegions", fn := fun _ => fun
  | [d] => { results := [.lit (.bool false)], args := [d] }
  | _ => none }
def FnPeakRegionsWrongFalsely : Prop := fnPeakRegionsRow.holds Try.pinned (OpenSpec.ofChange fnPeakRegionsWrong)

/-- 'laws.FnPeakSum': WHATEVER THE INPUT: true; the input reads as it did. -/
def fnPeakSumSpec : ChangeSpec := { name := "fnPeakSum", fn := fun _ => fun
  | [d] => { results := [.lit (.bool true)], args := [d] }
  | _ => none }
def fnPeakSumRow : OpenClaim := { program := "ytdlepfeckiahdaa", sum := "d7de7d8d1ae1be31856d97c6c7e7ba6a51e7b6481c8b2827a1b4d1414c80b545", func := "loop.example/reliefmaps/laws.FnPeakSum", spec := "fnPeakSum", unfollowed := true, recurses := true, apart := false }
def FnPeakSumSaid : Prop := fnPeakSumRow.holds Try.pinned (OpenSpec.ofChange fnPeakSumSpec)

/-- ITS FALSE NEIGHBOUR: 'it returns false'. Refute it at one input. -/
def fnPeakSumWrong : ChangeSpec := { name := "fnPeakSum", fn := fun _ => fun
  | [d] => { results := [.lit (.bool false)], args := [d] }
  | _ => none }
def FnPeakSumWrongFalsely : Prop := fnPeakSumRow.holds Try.pinned (OpenSpec.ofChange fnPeakSumWrong)

/- THE SECOND FORM. 'bulk': how many values and letters a reading holds, each counted each time it is reached (what is shared counts as often as it is met; a slice's spare places count too). A statement '..UptoSaid' is the law's where the arguments, and the package variables that the reading takes, are together of bulk at most 1048576: NARROWER than '..Said'. Prove '..Said' where nothing that the law and all that it calls make is longer than what came in: it says more and counts as full. Else prove '..UptoSaid'. A law counts once. -/
mutual
def uptoBulk {H : Type} : DataW H → Nat
  | .lit (.string bytes) => bytes.length + 1
  | .lit _ => 1
  | .nil => 1
  | .ptr d => uptoBulk d + 1
  | .slice elems spare => uptoBulkAll elems + uptoBulkAll spare + 1
  | .agg parts => uptoBulkAll parts + 1
  | .iface _ d => uptoBulk d + 1
  | .map entries => uptoBulkEntries entries + 1
  | .held _ => 1
def uptoBulkAll {H : Type} : List (DataW H) → Nat
  | [] => 0
  | d :: r => uptoBulk d + uptoBulkAll r
def uptoBulkEntries {H : Type} : List (Lit × DataW H) → Nat
  | [] => 0
  | x :: r => uptoBulkEntry x + uptoBulkEntries r
def uptoBulkEntry {H : Type} : Lit × DataW H → Nat
  | (.string bytes, d) => bytes.length + uptoBulk d + 1
  | (_, d) => uptoBulk d + 1
 end
def uptoSmall : (H : Type) → List (DataW H) → Bool := fun _ ds => decide (uptoBulkAll ds ≤ 1048576)
def OpenSpec.upto (s : _root_.Go.ChangeSpec) : _root_.Go.OpenSpec := { _root_.Go.OpenSpec.ofChange s with cond := some uptoSmall }

/-- 'laws.FnExactLevelLand', WHERE WHAT IT READS IS OF BULK AT MOST 1048576: true; the input reads as it did. -/
def fnExactLevelLandUptoRow : OpenClaim := { program := "ytdlepfeckiahdaa", sum := "d7de7d8d1ae1be31856d97c6c7e7ba6a51e7b6481c8b2827a1b4d1414c80b545", func := "loop.example/reliefmaps/laws.FnExactLevelLand", spec := "fnExactLevelLand", apart := false, narrowed := true }
def FnExactLevelLandUptoSaid : Prop := fnExactLevelLandUptoRow.holds Try.pinned (OpenSpec.upto fnExactLevelLandSpec)

/-- 'laws.FnGreatest', WHERE WHAT IT READS IS OF BULK AT MOST 1048576: true; the input reads as it did. -/
def fnGreatestUptoRow : OpenClaim := { program := "ytdlepfeckiahdaa", sum := "d7de7d8d1ae1be31856d97c6c7e7ba6a51e7b6481c8b2827a1b4d1414c80b545", func := "loop.example/reliefmaps/laws.FnGreatest", spec := "fnGreatest", apart := false, narrowed := true }
def FnGreatestUptoSaid : Prop := fnGreatestUptoRow.holds Try.pinned (OpenSpec.upto fnGreatestSpec)

/-- 'laws.FnLand', WHERE WHAT IT READS IS OF BULK AT MOST 1048576: true; the input reads as it did. -/
def fnLandUptoRow : OpenClaim := { program := "ytdlepfeckiahdaa", sum := "d7de7d8d1ae1be31856d97c6c7e7ba6a51e7b6481c8b2827a1b4d1414c80b545", func := "loop.example/reliefmaps/laws.FnLand", spec := "fnLand", unfollowed := true, recurses := true, apart := false, narrowed := true }
def FnLandUptoSaid : Prop := fnLandUptoRow.holds Try.pinned (OpenSpec.upto fnLandSpec)

/-- 'laws.FnSides', WHERE WHAT IT READS IS OF BULK AT MOST 1048576: true; the input reads as it did. -/
def fnSidesUptoRow : OpenClaim := { program := "ytdlepfeckiahdaa", sum := "d7de7d8d1ae1be31856d97c6c7e7ba6a51e7b6481c8b2827a1b4d1414c80b545", func := "loop.example/reliefmaps/laws.FnSides", spec := "fnSides", unfollowed := true, recurses := true, apart := false, narrowed := true }
def FnSidesUptoSaid : Prop := fnSidesUptoRow.holds Try.pinned (OpenSpec.upto fnSidesSpec)

/-- 'laws.FnExactLevelEuler', WHERE WHAT IT READS IS OF BULK AT MOST 1048576: true; the input reads as it did. -/
def fnExactLevelEulerUptoRow : OpenClaim := { program := "ytdlepfeckiahdaa", sum := "d7de7d8d1ae1be31856d97c6c7e7ba6a51e7b6481c8b2827a1b4d1414c80b545", func := "loop.example/reliefmaps/laws.FnExactLevelEuler", spec := "fnExactLevelEuler", apart := false, narrowed := true }
def FnExactLevelEulerUptoSaid : Prop := fnExactLevelEulerUptoRow.holds Try.pinned (OpenSpec.upto fnExactLevelEulerSpec)

/-- 'laws.FnShore', WHERE WHAT IT READS IS OF BULK AT MOST 1048576: true; the input reads as it did. -/
def fnShoreUptoRow : OpenClaim := { program := "ytdlepfeckiahdaa", sum := "d7de7d8d1ae1be31856d97c6c7e7ba6a51e7b6481c8b2827a1b4d1414c80b545", func := "loop.example/reliefmaps/laws.FnShore", spec := "fnShore", unfollowed := true, recurses := true, apart := false, narrowed := true }
def FnShoreUptoSaid : Prop := fnShoreUptoRow.holds Try.pinned (OpenSpec.upto fnShoreSpec)

/-- 'laws.FnArea', WHERE WHAT IT READS IS OF BULK AT MOST 1048576: true; the input reads as it did. -/
def fnAreaUptoRow : OpenClaim := { program := "ytdlepfeckiahdaa", sum := "d7de7d8d1ae1be31856d97c6c7e7ba6a51e7b6481c8b2827a1b4d1414c80b545", func := "loop.example/reliefmaps/laws.FnArea", spec := "fnArea", apart := false, narrowed := true }
def FnAreaUptoSaid : Prop := fnAreaUptoRow.holds Try.pinned (OpenSpec.upto fnAreaSpec)

/-- 'laws.FnRegions', WHERE WHAT IT READS IS OF BULK AT MOST 1048576: true; the input reads as it did. -/
def fnRegionsUptoRow : OpenClaim := { program := "ytdlepfeckiahdaa", sum := "d7de7d8d1ae1be31856d97c6c7e7ba6a51e7b6481c8b2827a1b4d1414c80b545", func := "loop.example/reliefmaps/laws.FnRegions", spec := "fnRegions", unfollowed := true, recurses := true, apart := false, narrowed := true }
def FnRegionsUptoSaid : Prop := fnRegionsUptoRow.holds Try.pinned (OpenSpec.upto fnRegionsSpec)

/-- 'laws.FnLakes', WHERE WHAT IT READS IS OF BULK AT MOST 1048576: true; the input reads as it did. -/
def fnLakesUptoRow : OpenClaim := { program := "ytdlepfeckiahdaa", sum := "d7de7d8d1ae1be31856d97c6c7e7ba6a51e7b6481c8b2827a1b4d1414c80b545", func := "loop.example/reliefmaps/laws.FnLakes", spec := "fnLakes", unfollowed := true, recurses := true, apart := false, narrowed := true }
def FnLakesUptoSaid : Prop := fnLakesUptoRow.holds Try.pinned (OpenSpec.upto fnLakesSpec)

/-- 'laws.FnEuler', WHERE WHAT IT READS IS OF BULK AT MOST 1048576: true; the input reads as it did. -/
def fnEulerUptoRow : OpenClaim := { program := "ytdlepfeckiahdaa", sum := "d7de7d8d1ae1be31856d97c6c7e7ba6a51e7b6481c8b2827a1b4d1414c80b545", func := "loop.example/reliefmaps/laws.FnEuler", spec := "fnEuler", apart := false, narrowed := true }
def FnEulerUptoSaid : Prop := fnEulerUptoRow.holds Try.pinned (OpenSpec.upto fnEulerSpec)

/-- 'laws.FnPeakRegions', WHERE WHAT IT READS IS OF BULK AT MOST 1048576: true; the input reads as it did. -/
def fnPeakRegionsUptoRow : OpenClaim := { program := "ytdlepfeckiahdaa", sum := "d7de7d8d1ae1be31856d97c6c7e7ba6a51e7b6481c8b2827a1b4d1414c80b545", func := "loop.example/reliefmaps/laws.FnPeakRegions", spec := "fnPeakRegions", unfollowed := true, recurses := true, apart := false, narrowed := true }
def FnPeakRegionsUptoSaid : Prop := fnPeakRegionsUptoRow.holds Try.pinned (OpenSpec.upto fnPeakRegionsSpec)

/-- 'laws.FnPeakSum', WHERE WHAT IT READS IS OF BULK AT MOST 1048576: true; the input reads as it did. -/
def fnPeakSumUptoRow : OpenClaim := { program := "ytdlepfeckiahdaa", sum := "d7de7d8d1ae1be31856d97c6c7e7ba6a51e7b6481c8b2827a1b4d1414c80b545", func := "loop.example/reliefmaps/laws.FnPeakSum", spec := "fnPeakSum", unfollowed := true, recurses := true, apart := false, narrowed := true }
def FnPeakSumUptoSaid : Prop := fnPeakSumUptoRow.holds Try.pinned (OpenSpec.upto fnPeakSumSpec)

end Rows
end Go.Proofs.Ytdlepfeckiahdaa
