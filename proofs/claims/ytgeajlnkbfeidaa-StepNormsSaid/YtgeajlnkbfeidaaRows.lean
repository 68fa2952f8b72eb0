/-
  No cell of these rows narrows 'for every input' (looked for: loops, veiled, ifaces, maps, wideKeys, modest, calm, conditions, laid).
  DERIVED. THE GIVEN ROWS OF THIS SEAT. 7 by the template 'for every input the law returns true; each argument reads behind the call as it read before'; 0 by the template 'total and deterministic' (their statements: YtgeajlnkbfeidaaTotals.lean).
  GIVEN WITH THE SEED: the statements are not yours to turn. If you find one false, say at which input.
  Laid BY PROGRAM, IN A SANDBOX (cutbox-rows.mjs): the forced cells as the released guide's own fill.sh prints them over the translation 1bb02a303a5e3a61… (all of the seat's roots in one cut). By AI agents, Wed Nov 11 2026. No macro, syntax, notation, axiom, sorry.
-/
import Derived.Test.YtgeajlnkbfeidaaChecked
import GoSem.Claim
import GoSem.ClaimJoined
import GoSem.ClaimMapViews
import Derived.JoinedTies
import Derived.KernelRfl
namespace Go.Proofs.Ytgeajlnkbfeidaa
/- THE CELL 'sum', in the pinned program and in every row, IS THE sha256 OF THE DUMP (.gsa) THAT YtgeajlnkbfeidaaProg.lean LOADS. Nothing in Lean hashes anything: it is a label: what it is worth is what the hold of that sum in a sandbox is worth. -/
noncomputable def Try.pinned : Pinned := { name := "ytgeajlnkbfeidaa", sum := "1bb02a303a5e3a61f31c057a95b20a9c0a17ab9202440a9e6bc8b11b663b52a4", checked := Try.checked }
namespace Rows
def none {H : Type} : Left H := { results := [], args := [] }

/-- 'rescindlaw09.StepNorms': WHATEVER THE INPUT: true; the input reads as it did. -/
def stepNormsSpec : ChangeSpec := { name := "stepNorms", fn := fun _ => fun
  | [d] => { results := [.lit (.bool true)], args := [d] }
  | _ => none }
def stepNormsRow : OpenClaim := { program := "ytgeajlnkbfeidaa", sum := "1bb02a303a5e3a61f31c057a95b20a9c0a17ab9202440a9e6bc8b11b663b52a4", func := "rescind/rescindlaw09.StepNorms", spec := "stepNorms", unfollowed := true, recurses := true, apart := false }
def StepNormsSaid : Prop := stepNormsRow.holds Try.pinned (OpenSpec.ofChange stepNormsSpec)

/-- ITS FALSE NEIGHBOUR: 'it returns false'. Refute it at one input. -/
def stepNormsWrong : ChangeSpec := { name := "stepNorms", fn := fun _ => fun
  | [d] => { results := [.lit (.bool false)], args := [d] }
  | _ => none }
def StepNormsWrongFalsely : Prop := stepNormsRow.holds Try.pinned (OpenSpec.ofChange stepNormsWrong)

/-- 'rescindlaw09.StepPoints': WHATEVER THE INPUT: true; the input reads as it did. -/
def stepPointsSpec : ChangeSpec := { name := "stepPoints", fn := fun _ => fun
  | [d1, d2, d3] => { results := [.lit (.bool true)], args := [d1, d2, d3] }
  | _ => none }
def stepPointsRow : OpenClaim := { program := "ytgeajlnkbfeidaa", sum := "1bb02a303a5e3a61f31c057a95b20a9c0a17ab9202440a9e6bc8b11b663b52a4", func := "rescind/rescindlaw09.StepPoints", spec := "stepPoints", unfollowed := true, recurses := true, apart := false }
def StepPointsSaid : Prop := stepPointsRow.holds Try.pinned (OpenSpec.ofChange stepPointsSpec)

/-- ITS FALSE NEIGHBOUR: 'it returns false'. Refute it at one input. -/
def stepPointsWrong : ChangeSpec := { name := "stepPoints", fn := fun _ => fun
  | [d1, d2, d3] => { results := [.lit (.bool false)], args := [d1, d2, d3] }
  | _ => none }
def StepPointsWrongFalsely : Prop := stepPointsRow.holds Try.pinned (OpenSpec.ofChange stepPointsWrong)

/-- 'rescindlaw09.StepRing': WHATEVER THE INPUT: true; the input reads as it did. -/
def stepRingSpec : ChangeSpec := { name := "stepRing", fn := fun _ => fun
  | [d1, d2, d3] => { results := [.lit (.bool true)], args := [d1, d2, d3] }
  | _ => none }
def stepRingRow : OpenClaim := { program := "ytgeajlnkbfeidaa", sum := "1bb02a303a5e3a61f31c057a95b20a9c0a17ab9202440a9e6bc8b11b663b52a4", func := "rescind/rescindlaw09.StepRing", spec := "stepRing", unfollowed := true, recurses := true, apart := false }
def StepRingSaid : Prop := stepRingRow.holds Try.pinned (OpenSpec.ofChange stepRingSpec)

/-- ITS FALSE NEIGHBOUR: 'it returns false'. Refute it at one input. -/
def stepRingWrong : ChangeSpec := { name := "stepRing", fn := fun _ => fun
  | [d1, d2, d3] => { results := [.lit (.bool false)], args := [d1, d2, d3] }
  | _ => none }
def StepRingWrongFalsely : Prop := stepRingRow.holds Try.pinned (OpenSpec.ofChange stepRingWrong)

/-- 'rescindlaw09.StepTwo': WHATEVER THE INPUT: true; the input reads as it did. -/
def stepTwoSpec : ChangeSpec := { name := "stepTwo", fn := fun _ => fun
  | [d1, d2] => { results := [.lit (.bool true)], args := [d1, d2] }
  | _ => none }
def stepTwoRow : OpenClaim := { program := "ytgeajlnkbfeidaa", sum := "1bb02a303a5e3a61f31c057a95b20a9c0a17ab9202440a9e6bc8b11b663b52a4", func := "rescind/rescindlaw09.StepTwo", spec := "stepTwo", unfollowed := true, recurses := true, apart := false }
def StepTwoSaid : Prop := stepTwoRow.holds Try.pinned (OpenSpec.ofChange stepTwoSpec)

/-- ITS FALSE NEIGHBOUR: 'it returns false'. Refute it at one input. -/
def stepTwoWrong : ChangeSpec := { name := "stepTwo", fn := fun _ => fun
  | [d1, d2] => { results := [.lit (.bool false)], args := [d1, d2] }
  | _ => none }
def StepTwoWrongFalsely : Prop := stepTwoRow.holds Try.pinned (OpenSpec.ofChange stepTwoWrong)

/-- 'rescindlaw09.StepValues': WHATEVER THE INPUT: true; the input reads as it did. -/
def stepValuesSpec : ChangeSpec := { name := "stepValues", fn := fun _ => fun
  | [d1, d2] => { results := [.lit (.bool true)], args := [d1, d2] }
  | _ => none }
def stepValuesRow : OpenClaim := { program := "ytgeajlnkbfeidaa", sum := "1bb02a303a5e3a61f31c057a95b20a9c0a17ab9202440a9e6bc8b11b663b52a4", func := "rescind/rescindlaw09.StepValues", spec := "stepValues", unfollowed := true, recurses := true, apart := false }
def StepValuesSaid : Prop := stepValuesRow.holds Try.pinned (OpenSpec.ofChange stepValuesSpec)

/-- ITS FALSE NEIGHBOUR: 'it returns false'. Refute it at one input. -/
def stepValuesWrong : ChangeSpec := { name := "stepValues", fn := fun _ => fun
  | [d1, d2] => { results := [.lit (.bool false)], args := [d1, d2] }
  | _ => none }
def StepValuesWrongFalsely : Prop := stepValuesRow.holds Try.pinned (OpenSpec.ofChange stepValuesWrong)

/-- 'rescindlaw09.StepCuts': WHATEVER THE INPUT: true; the input reads as it did. -/
def stepCutsSpec : ChangeSpec := { name := "stepCuts", fn := fun _ => fun
  | [d1, d2] => { results := [.lit (.bool true)], args := [d1, d2] }
  | _ => none }
def stepCutsRow : OpenClaim := { program := "ytgeajlnkbfeidaa", sum := "1bb02a303a5e3a61f31c057a95b20a9c0a17ab9202440a9e6bc8b11b663b52a4", func := "rescind/rescindlaw09.StepCuts", spec := "stepCuts", unfollowed := true, recurses := true, apart := false }
def StepCutsSaid : Prop := stepCutsRow.holds Try.pinned (OpenSpec.ofChange stepCutsSpec)

/-- ITS FALSE NEIGHBOUR: 'it returns false'. Refute it at one input. -/
def stepCutsWrong : ChangeSpec := { name := "stepCuts", fn := fun _ => fun
  | [d1, d2] => { results := [.lit (.bool false)], args := [d1, d2] }
  | _ => none }
def StepCutsWrongFalsely : Prop := stepCutsRow.holds Try.pinned (OpenSpec.ofChange stepCutsWrong)

/-- 'rescindlaw09.StepSides': WHATEVER THE INPUT: true; the input reads as it did. -/
def stepSidesSpec : ChangeSpec := { name := "stepSides", fn := fun _ => fun
  | [d1, d2, d3] => { results := [.lit (.bool true)], args := [d1, d2, d3] }
  | _ => none }
def stepSidesRow : OpenClaim := { program := "ytgeajlnkbfeidaa", sum := "1bb02a303a5e3a61f31c057a95b20a9c0a17ab9202440a9e6bc8b11b663b52a4", func := "rescind/rescindlaw09.StepSides", spec := "stepSides", unfollowed := true, recurses := true, apart := false }
def StepSidesSaid : Prop := stepSidesRow.holds Try.pinned (OpenSpec.ofChange stepSidesSpec)

/-- ITS FALSE NEIGHBOUR: 'it returns false'. Refute it at one input. -/
def stepSidesWrong : ChangeSpec := { name := "stepSides", fn := fun _ => fun
  | [d1, d2, d3] => { results := [.lit (.bool false)], args := [d1, d2, d3] }
  | _ => none }
def StepSidesWrongFalsely : Prop := stepSidesRow.holds Try.pinned (OpenSpec.ofChange stepSidesWrong)

/- THE SECOND FORM. 'bulk': how many values and letters a reading holds, each counted each time it is reached (what is shared counts as often as it is met; a slice's spare places count too). A statement '..UptoSaid' is the law's where the arguments, and the package variables that the reading takes, are together of bulk at most 1048576: NARROWER than '..Said'. Prove '..Said' where nothing that the law and all that it calls make is longer than what came in: it says more and counts as full. Else prove '..UptoSaid'. A law counts once. -/
mutual
def uptoBulk {H : Type} : DataW H → Nat
  | .lit (.string bytes) => bytes.length + 1
  | .lit _ => 1
  | .nil => 1
  | .ptr d => uptoBulk d + 1
  | .slice elems spare => uptoBulkAll elems + uptoBulkAll spare + 1
  | .agg parts => uptoBulkAll parts + 1
  | .iface _ d => uptoBulk d + 1
  | .map entries => uptoBulkEntries entries + 1
  | .held _ => 1
def uptoBulkAll {H : Type} : List (DataW H) → Nat
  | [] => 0
  | d :: r => uptoBulk d + uptoBulkAll r
def uptoBulkEntries {H : Type} : List (Lit × DataW H) → Nat
  | [] => 0
  | x :: r => uptoBulkEntry x + uptoBulkEntries r
def uptoBulkEntry {H : Type} : Lit × DataW H → Nat
  | (.string bytes, d) => bytes.length + uptoBulk d + 1
  | (_, d) => uptoBulk d + 1
 end
def uptoSmall : (H : Type) → List (DataW H) → Bool := fun _ ds => decide (uptoBulkAll ds ≤ 1048576)
def OpenSpec.upto (s : _root_.Go.ChangeSpec) : _root_.Go.OpenSpec := { _root_.Go.OpenSpec.ofChange s with cond := some uptoSmall }

/-- 'rescindlaw09.StepNorms', WHERE WHAT IT READS IS OF BULK AT MOST 1048576: true; the input reads as it did. -/
def stepNormsUptoRow : OpenClaim := { program := "ytgeajlnkbfeidaa", sum := "1bb02a303a5e3a61f31c057a95b20a9c0a17ab9202440a9e6bc8b11b663b52a4", func := "rescind/rescindlaw09.StepNorms", spec := "stepNorms", unfollowed := true, recurses := true, apart := false, narrowed := true }
def StepNormsUptoSaid : Prop := stepNormsUptoRow.holds Try.pinned (OpenSpec.upto stepNormsSpec)

/-- 'rescindlaw09.StepPoints', WHERE WHAT IT READS IS OF BULK AT MOST 1048576: true; the input reads as it did. -/
def stepPointsUptoRow : OpenClaim := { program := "ytgeajlnkbfeidaa", sum := "1bb02a303a5e3a61f31c057a95b20a9c0a17ab9202440a9e6bc8b11b663b52a4", func := "rescind/rescindlaw09.StepPoints", spec := "stepPoints", unfollowed := true, recurses := true, apart := false, narrowed := true }
def StepPointsUptoSaid : Prop := stepPointsUptoRow.holds Try.pinned (OpenSpec.upto stepPointsSpec)

/-- 'rescindlaw09.StepRing', WHERE WHAT IT READS IS OF BULK AT MOST 1048576: true; the input reads as it did. -/
def stepRingUptoRow : OpenClaim := { program := "ytgeajlnkbfeidaa", sum := "1bb02a303a5e3a61f31c057a95b20a9c0a17ab9202440a9e6bc8b11b663b52a4", func := "rescind/rescindlaw09.StepRing", spec := "stepRing", unfollowed := true, recurses := true, apart := false, narrowed := true }
def StepRingUptoSaid : Prop := stepRingUptoRow.holds Try.pinned (OpenSpec.upto stepRingSpec)

/-- 'rescindlaw09.StepTwo', WHERE WHAT IT READS IS OF BULK AT MOST 1048576: true; the input reads as it did. -/
def stepTwoUptoRow : OpenClaim := { program := "ytgeajlnkbfeidaa", sum := "1bb02a303a5e3a61f31c057a95b20a9c0a17ab9202440a9e6bc8b11b663b52a4", func := "rescind/rescindlaw09.StepTwo", spec := "stepTwo", unfollowed := true, recurses := true, apart := false, narrowed := true }
def StepTwoUptoSaid : Prop := stepTwoUptoRow.holds Try.pinned (OpenSpec.upto stepTwoSpec)

/-- 'rescindlaw09.StepValues', WHERE WHAT IT READS IS OF BULK AT MOST 1048576: true; the input reads as it did. -/
def stepValuesUptoRow : OpenClaim := { program := "ytgeajlnkbfeidaa", sum := "1bb02a303a5e3a61f31c057a95b20a9c0a17ab9202440a9e6bc8b11b663b52a4", func := "rescind/rescindlaw09.StepValues", spec := "stepValues", unfollowed := true, recurses := true, apart := false, narrowed := true }
def StepValuesUptoSaid : Prop := stepValuesUptoRow.holds Try.pinned (OpenSpec.upto stepValuesSpec)

/-- 'rescindlaw09.StepCuts', WHERE WHAT IT READS IS OF BULK AT MOST 1048576: true; the input reads as it did. -/
def stepCutsUptoRow : OpenClaim := { program := "ytgeajlnkbfeidaa", sum := "1bb02a303a5e3a61f31c057a95b20a9c0a17ab9202440a9e6bc8b11b663b52a4", func := "rescind/rescindlaw09.StepCuts", spec := "stepCuts", unfollowed := true, recurses := true, apart := false, narrowed := true }
def StepCutsUptoSaid : Prop := stepCutsUptoRow.holds Try.pinned (OpenSpec.upto stepCutsSpec)

/-- 'rescindlaw09.StepSides', WHERE WHAT IT READS IS OF BULK AT MOST 1048576: true; the input reads as it did. -/
def stepSidesUptoRow : OpenClaim := { program := "ytgeajlnkbfeidaa", sum := "1bb02a303a5e3a61f31c057a95b20a9c0a17ab9202440a9e6bc8b11b663b52a4", func := "rescind/rescindlaw09.StepSides", spec := "stepSides", unfollowed := true, recurses := true, apart := false, narrowed := true }
def StepSidesUptoSaid : Prop := stepSidesUptoRow.holds Try.pinned (OpenSpec.upto stepSidesSpec)

end Rows
end Go.Proofs.Ytgeajlnkbfeidaa
