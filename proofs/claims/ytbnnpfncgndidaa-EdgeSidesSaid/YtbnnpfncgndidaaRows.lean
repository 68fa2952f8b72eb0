/-
  No cell of these rows narrows 'for every input' (looked for: loops, veiled, ifaces, maps, wideKeys, modest, calm, conditions, laid).
  DERIVED. THE GIVEN ROWS OF THIS SEAT. 9 by the template 'for every input the law returns true; each argument reads behind the call as it read before'; 0 by the template 'total and deterministic' (their statements: YtbnnpfncgndidaaTotals.lean).
  GIVEN WITH THE SEED: the statements are not yours to turn. If you find one false, say at which input.
  Laid BY PROGRAM, IN A SANDBOX (cutbox-rows.mjs): the forced cells as the released guide's own fill.sh prints them over the translation 737a8dc723d179be… (all of the seat's roots in one cut). By AI agents, Wed Nov 11 2026. No macro, syntax, notation, axiom, sorry.
-/
import Derived.Test.YtbnnpfncgndidaaChecked
import GoSem.Claim
import GoSem.ClaimJoined
import GoSem.ClaimMapViews
import Derived.JoinedTies
import Derived.KernelRfl
namespace Go.Proofs.Ytbnnpfncgndidaa
/- THE CELL 'sum', in the pinned program and in every row, IS THE sha256 OF THE DUMP (.gsa) THAT YtbnnpfncgndidaaProg.lean LOADS. Nothing in Lean hashes anything: it is a label: what it is worth is what the hold of that sum in a sandbox is worth. -/
noncomputable def Try.pinned : Pinned := { name := "ytbnnpfncgndidaa", sum := "737a8dc723d179bef54dc7b1a895eae7dccc89b02eecc30f4f3f7b0b984418e9", checked := Try.checked }
namespace Rows
def none {H : Type} : Left H := { results := [], args := [] }

/-- 'rescindlaw33.LifeLasts': WHATEVER THE INPUT: true; the input reads as it did. -/
def lifeLastsSpec : ChangeSpec := { name := "lifeLasts", fn := fun _ => fun
  | [d1, d2, d3] => { results := [.lit (.bool true)], args := [d1, d2, d3] }
  | _ => none }
def lifeLastsRow : OpenClaim := { program := "ytbnnpfncgndidaa", sum := "737a8dc723d179bef54dc7b1a895eae7dccc89b02eecc30f4f3f7b0b984418e9", func := "rescind/rescindlaw33.LifeLasts", spec := "lifeLasts", inPlace := ["internal/bytealg.abigen_runtime_cmpstring"], unfollowed := true, recurses := true, apart := false }
def LifeLastsSaid : Prop := lifeLastsRow.holds Try.pinned (OpenSpec.ofChange lifeLastsSpec)

/-- ITS FALSE NEIGHBOUR: 'it returns false'. Refute it at one input. -/
def lifeLastsWrong : ChangeSpec := { name := "lifeLasts", fn := fun _ => fun
  | [d1, d2, d3] => { results := [.lit (.bool false)], args := [d1, d2, d3] }
  | _ => none }
def LifeLastsWrongFalsely : Prop := lifeLastsRow.holds Try.pinned (OpenSpec.ofChange lifeLastsWrong)

/-- 'rescindlaw33.LifeTicks': WHATEVER THE INPUT: true; the input reads as it did. -/
def lifeTicksSpec : ChangeSpec := { name := "lifeTicks", fn := fun _ => fun
  | [d1, d2, d3, d4] => { results := [.lit (.bool true)], args := [d1, d2, d3, d4] }
  | _ => none }
def lifeTicksRow : OpenClaim := { program := "ytbnnpfncgndidaa", sum := "737a8dc723d179bef54dc7b1a895eae7dccc89b02eecc30f4f3f7b0b984418e9", func := "rescind/rescindlaw33.LifeTicks", spec := "lifeTicks", inPlace := ["internal/bytealg.abigen_runtime_cmpstring"], unfollowed := true, recurses := true, apart := false }
def LifeTicksSaid : Prop := lifeTicksRow.holds Try.pinned (OpenSpec.ofChange lifeTicksSpec)

/-- ITS FALSE NEIGHBOUR: 'it returns false'. Refute it at one input. -/
def lifeTicksWrong : ChangeSpec := { name := "lifeTicks", fn := fun _ => fun
  | [d1, d2, d3, d4] => { results := [.lit (.bool false)], args := [d1, d2, d3, d4] }
  | _ => none }
def LifeTicksWrongFalsely : Prop := lifeTicksRow.holds Try.pinned (OpenSpec.ofChange lifeTicksWrong)

/-- 'rescindlaw10.EdgeNorms': WHATEVER THE INPUT: true; the input reads as it did. -/
def edgeNormsSpec : ChangeSpec := { name := "edgeNorms", fn := fun _ => fun
  | [d] => { results := [.lit (.bool true)], args := [d] }
  | _ => none }
def edgeNormsRow : OpenClaim := { program := "ytbnnpfncgndidaa", sum := "737a8dc723d179bef54dc7b1a895eae7dccc89b02eecc30f4f3f7b0b984418e9", func := "rescind/rescindlaw10.EdgeNorms", spec := "edgeNorms", inPlace := ["internal/bytealg.abigen_runtime_cmpstring"], unfollowed := true, recurses := true, apart := false }
def EdgeNormsSaid : Prop := edgeNormsRow.holds Try.pinned (OpenSpec.ofChange edgeNormsSpec)

/-- ITS FALSE NEIGHBOUR: 'it returns false'. Refute it at one input. -/
def edgeNormsWrong : ChangeSpec := { name := "edgeNorms", fn := fun _ => fun
  | [d] => { results := [.lit (.bool false)], args := [d] }
  | _ => none }
def EdgeNormsWrongFalsely : Prop := edgeNormsRow.holds Try.pinned (OpenSpec.ofChange edgeNormsWrong)

/-- 'rescindlaw10.EdgeGroups': WHATEVER THE INPUT: true; the input reads as it did. -/
def edgeGroupsSpec : ChangeSpec := { name := "edgeGroups", fn := fun _ => fun
  | [d] => { results := [.lit (.bool true)], args := [d] }
  | _ => none }
def edgeGroupsRow : OpenClaim := { program := "ytbnnpfncgndidaa", sum := "737a8dc723d179bef54dc7b1a895eae7dccc89b02eecc30f4f3f7b0b984418e9", func := "rescind/rescindlaw10.EdgeGroups", spec := "edgeGroups", inPlace := ["internal/bytealg.abigen_runtime_cmpstring"], unfollowed := true, recurses := true, apart := false }
def EdgeGroupsSaid : Prop := edgeGroupsRow.holds Try.pinned (OpenSpec.ofChange edgeGroupsSpec)

/-- ITS FALSE NEIGHBOUR: 'it returns false'. Refute it at one input. -/
def edgeGroupsWrong : ChangeSpec := { name := "edgeGroups", fn := fun _ => fun
  | [d] => { results := [.lit (.bool false)], args := [d] }
  | _ => none }
def EdgeGroupsWrongFalsely : Prop := edgeGroupsRow.holds Try.pinned (OpenSpec.ofChange edgeGroupsWrong)

/-- 'rescindlaw33.LifeSettles': WHATEVER THE INPUT: true; the input reads as it did. -/
def lifeSettlesSpec : ChangeSpec := { name := "lifeSettles", fn := fun _ => fun
  | [d1, d2, d3, d4] => { results := [.lit (.bool true)], args := [d1, d2, d3, d4] }
  | _ => none }
def lifeSettlesRow : OpenClaim := { program := "ytbnnpfncgndidaa", sum := "737a8dc723d179bef54dc7b1a895eae7dccc89b02eecc30f4f3f7b0b984418e9", func := "rescind/rescindlaw33.LifeSettles", spec := "lifeSettles", inPlace := ["internal/bytealg.abigen_runtime_cmpstring"], unfollowed := true, recurses := true, apart := false }
def LifeSettlesSaid : Prop := lifeSettlesRow.holds Try.pinned (OpenSpec.ofChange lifeSettlesSpec)

/-- ITS FALSE NEIGHBOUR: 'it returns false'. Refute it at one input. -/
def lifeSettlesWrong : ChangeSpec := { name := "lifeSettles", fn := fun _ => fun
  | [d1, d2, d3, d4] => { results := [.lit (.bool false)], args := [d1, d2, d3, d4] }
  | _ => none }
def LifeSettlesWrongFalsely : Prop := lifeSettlesRow.holds Try.pinned (OpenSpec.ofChange lifeSettlesWrong)

/-- 'rescindlaw10.EdgeRows': WHATEVER THE INPUT: true; the input reads as it did. -/
def edgeRowsSpec : ChangeSpec := { name := "edgeRows", fn := fun _ => fun
  | [d1, d2, d3] => { results := [.lit (.bool true)], args := [d1, d2, d3] }
  | _ => none }
def edgeRowsRow : OpenClaim := { program := "ytbnnpfncgndidaa", sum := "737a8dc723d179bef54dc7b1a895eae7dccc89b02eecc30f4f3f7b0b984418e9", func := "rescind/rescindlaw10.EdgeRows", spec := "edgeRows", inPlace := ["internal/bytealg.abigen_runtime_cmpstring"], unfollowed := true, recurses := true, apart := false }
def EdgeRowsSaid : Prop := edgeRowsRow.holds Try.pinned (OpenSpec.ofChange edgeRowsSpec)

/-- ITS FALSE NEIGHBOUR: 'it returns false'. Refute it at one input. -/
def edgeRowsWrong : ChangeSpec := { name := "edgeRows", fn := fun _ => fun
  | [d1, d2, d3] => { results := [.lit (.bool false)], args := [d1, d2, d3] }
  | _ => none }
def EdgeRowsWrongFalsely : Prop := edgeRowsRow.holds Try.pinned (OpenSpec.ofChange edgeRowsWrong)

/-- 'rescindlaw10.EdgeUndo': WHATEVER THE INPUT: true; the input reads as it did. -/
def edgeUndoSpec : ChangeSpec := { name := "edgeUndo", fn := fun _ => fun
  | [d1, d2] => { results := [.lit (.bool true)], args := [d1, d2] }
  | _ => none }
def edgeUndoRow : OpenClaim := { program := "ytbnnpfncgndidaa", sum := "737a8dc723d179bef54dc7b1a895eae7dccc89b02eecc30f4f3f7b0b984418e9", func := "rescind/rescindlaw10.EdgeUndo", spec := "edgeUndo", inPlace := ["internal/bytealg.abigen_runtime_cmpstring"], unfollowed := true, recurses := true, apart := false }
def EdgeUndoSaid : Prop := edgeUndoRow.holds Try.pinned (OpenSpec.ofChange edgeUndoSpec)

/-- ITS FALSE NEIGHBOUR: 'it returns false'. Refute it at one input. -/
def edgeUndoWrong : ChangeSpec := { name := "edgeUndo", fn := fun _ => fun
  | [d1, d2] => { results := [.lit (.bool false)], args := [d1, d2] }
  | _ => none }
def EdgeUndoWrongFalsely : Prop := edgeUndoRow.holds Try.pinned (OpenSpec.ofChange edgeUndoWrong)

/-- 'rescindlaw10.EdgeOf': WHATEVER THE INPUT: true; the input reads as it did. -/
def edgeOfSpec : ChangeSpec := { name := "edgeOf", fn := fun _ => fun
  | [d1, d2] => { results := [.lit (.bool true)], args := [d1, d2] }
  | _ => none }
def edgeOfRow : OpenClaim := { program := "ytbnnpfncgndidaa", sum := "737a8dc723d179bef54dc7b1a895eae7dccc89b02eecc30f4f3f7b0b984418e9", func := "rescind/rescindlaw10.EdgeOf", spec := "edgeOf", inPlace := ["internal/bytealg.abigen_runtime_cmpstring"], unfollowed := true, recurses := true, apart := false }
def EdgeOfSaid : Prop := edgeOfRow.holds Try.pinned (OpenSpec.ofChange edgeOfSpec)

/-- ITS FALSE NEIGHBOUR: 'it returns false'. Refute it at one input. -/
def edgeOfWrong : ChangeSpec := { name := "edgeOf", fn := fun _ => fun
  | [d1, d2] => { results := [.lit (.bool false)], args := [d1, d2] }
  | _ => none }
def EdgeOfWrongFalsely : Prop := edgeOfRow.holds Try.pinned (OpenSpec.ofChange edgeOfWrong)

/-- 'rescindlaw10.EdgeSides': WHATEVER THE INPUT: true; the input reads as it did. -/
def edgeSidesSpec : ChangeSpec := { name := "edgeSides", fn := fun _ => fun
  | [d1, d2, d3] => { results := [.lit (.bool true)], args := [d1, d2, d3] }
  | _ => none }
def edgeSidesRow : OpenClaim := { program := "ytbnnpfncgndidaa", sum := "737a8dc723d179bef54dc7b1a895eae7dccc89b02eecc30f4f3f7b0b984418e9", func := "rescind/rescindlaw10.EdgeSides", spec := "edgeSides", inPlace := ["internal/bytealg.abigen_runtime_cmpstring"], unfollowed := true, recurses := true, apart := false }
def EdgeSidesSaid : Prop := edgeSidesRow.holds Try.pinned (OpenSpec.ofChange edgeSidesSpec)

/-- ITS FALSE NEIGHBOUR: 'it returns false'. Refute it at one input. -/
def edgeSidesWrong : ChangeSpec := { name := "edgeSides", fn := fun _ => fun
  | [d1, d2, d3] => { results := [.lit (.bool false)], args := [d1, d2, d3] }
  | _ => none }
def EdgeSidesWrongFalsely : Prop := edgeSidesRow.holds Try.pinned (OpenSpec.ofChange edgeSidesWrong)

/- THE SECOND FORM. 'bulk': how many values and letters a reading holds, each counted each time it is reached (what is shared counts as often as it is met; a slice's spare places count too). A statement '..UptoSaid' is the law's where the arguments, and the package variables that the reading takes, are together of bulk at most 1048576: NARROWER than '..Said'. Prove '..Said' where nothing that the law and all that it calls make is longer than what came in: it says more and counts as full. Else prove '..UptoSaid'. A law counts once. -/
mutual
def uptoBulk {H : Type} : DataW H → Nat
  | .lit (.string bytes) => bytes.length + 1
  | .lit _ => 1
  | .nil => 1
  | .ptr d => uptoBulk d + 1
  | .slice elems spare => uptoBulkAll elems + uptoBulkAll spare + 1
  | .agg parts => uptoBulkAll parts + 1
  | .iface _ d => uptoBulk d + 1
  | .map entries => uptoBulkEntries entries + 1
  | .held _ => 1
def uptoBulkAll {H : Type} : List (DataW H) → Nat
  | [] => 0
  | d :: r => uptoBulk d + uptoBulkAll r
def uptoBulkEntries {H : Type} : List (Lit × DataW H) → Nat
  | [] => 0
  | x :: r => uptoBulkEntry x + uptoBulkEntries r
def uptoBulkEntry {H : Type} : Lit × DataW H → Nat
  | (.string bytes, d) => bytes.length + uptoBulk d + 1
  | (_, d) => uptoBulk d + 1
 end
def uptoSmall : (H : Type) → List (DataW H) → Bool := fun _ ds => decide (uptoBulkAll ds ≤ 1048576)
def OpenSpec.upto (s : _root_.Go.ChangeSpec) : _root_.Go.OpenSpec := { _root_.Go.OpenSpec.ofChange s with cond := some uptoSmall }

/-- 'rescindlaw33.LifeLasts', WHERE WHAT IT READS IS OF BULK AT MOST 1048576: true; the input reads as it did. -/
def lifeLastsUptoRow : OpenClaim := { program := "ytbnnpfncgndidaa", sum := "737a8dc723d179bef54dc7b1a895eae7dccc89b02eecc30f4f3f7b0b984418e9", func := "rescind/rescindlaw33.LifeLasts", spec := "lifeLasts", inPlace := ["internal/bytealg.abigen_runtime_cmpstring"], unfollowed := true, recurses := true, apart := false, narrowed := true }
def LifeLastsUptoSaid : Prop := lifeLastsUptoRow.holds Try.pinned (OpenSpec.upto lifeLastsSpec)

/-- 'rescindlaw33.LifeTicks', WHERE WHAT IT READS IS OF BULK AT MOST 1048576: true; the input reads as it did. -/
def lifeTicksUptoRow : OpenClaim := { program := "ytbnnpfncgndidaa", sum := "737a8dc723d179bef54dc7b1a895eae7dccc89b02eecc30f4f3f7b0b984418e9", func := "rescind/rescindlaw33.LifeTicks", spec := "lifeTicks", inPlace := ["internal/bytealg.abigen_runtime_cmpstring"], unfollowed := true, recurses := true, apart := false, narrowed := true }
def LifeTicksUptoSaid : Prop := lifeTicksUptoRow.holds Try.pinned (OpenSpec.upto lifeTicksSpec)

/-- 'rescindlaw10.EdgeNorms', WHERE WHAT IT READS IS OF BULK AT MOST 1048576: true; the input reads as it did. -/
def edgeNormsUptoRow : OpenClaim := { program := "ytbnnpfncgndidaa", sum := "737a8dc723d179bef54dc7b1a895eae7dccc89b02eecc30f4f3f7b0b984418e9", func := "rescind/rescindlaw10.EdgeNorms", spec := "edgeNorms", inPlace := ["internal/bytealg.abigen_runtime_cmpstring"], unfollowed := true, recurses := true, apart := false, narrowed := true }
def EdgeNormsUptoSaid : Prop := edgeNormsUptoRow.holds Try.pinned (OpenSpec.upto edgeNormsSpec)

/-- 'rescindlaw10.EdgeGroups', WHERE WHAT IT READS IS OF BULK AT MOST 1048576: true; the input reads as it did. -/
def edgeGroupsUptoRow : OpenClaim := { program := "ytbnnpfncgndidaa", sum := "737a8dc723d179bef54dc7b1a895eae7dccc89b02eecc30f4f3f7b0b984418e9", func := "rescind/rescindlaw10.EdgeGroups", spec := "edgeGroups", inPlace := ["internal/bytealg.abigen_runtime_cmpstring"], unfollowed := true, recurses := true, apart := false, narrowed := true }
def EdgeGroupsUptoSaid : Prop := edgeGroupsUptoRow.holds Try.pinned (OpenSpec.upto edgeGroupsSpec)

/-- 'rescindlaw33.LifeSettles', WHERE WHAT IT READS IS OF BULK AT MOST 1048576: true; the input reads as it did. -/
def lifeSettlesUptoRow : OpenClaim := { program := "ytbnnpfncgndidaa", sum := "737a8dc723d179bef54dc7b1a895eae7dccc89b02eecc30f4f3f7b0b984418e9", func := "rescind/rescindlaw33.LifeSettles", spec := "lifeSettles", inPlace := ["internal/bytealg.abigen_runtime_cmpstring"], unfollowed := true, recurses := true, apart := false, narrowed := true }
def LifeSettlesUptoSaid : Prop := lifeSettlesUptoRow.holds Try.pinned (OpenSpec.upto lifeSettlesSpec)

/-- 'rescindlaw10.EdgeRows', WHERE WHAT IT READS IS OF BULK AT MOST 1048576: true; the input reads as it did. -/
def edgeRowsUptoRow : OpenClaim := { program := "ytbnnpfncgndidaa", sum := "737a8dc723d179bef54dc7b1a895eae7dccc89b02eecc30f4f3f7b0b984418e9", func := "rescind/rescindlaw10.EdgeRows", spec := "edgeRows", inPlace := ["internal/bytealg.abigen_runtime_cmpstring"], unfollowed := true, recurses := true, apart := false, narrowed := true }
def EdgeRowsUptoSaid : Prop := edgeRowsUptoRow.holds Try.pinned (OpenSpec.upto edgeRowsSpec)

/-- 'rescindlaw10.EdgeUndo', WHERE WHAT IT READS IS OF BULK AT MOST 1048576: true; the input reads as it did. -/
def edgeUndoUptoRow : OpenClaim := { program := "ytbnnpfncgndidaa", sum := "737a8dc723d179bef54dc7b1a895eae7dccc89b02eecc30f4f3f7b0b984418e9", func := "rescind/rescindlaw10.EdgeUndo", spec := "edgeUndo", inPlace := ["internal/bytealg.abigen_runtime_cmpstring"], unfollowed := true, recurses := true, apart := false, narrowed := true }
def EdgeUndoUptoSaid : Prop := edgeUndoUptoRow.holds Try.pinned (OpenSpec.upto edgeUndoSpec)

/-- 'rescindlaw10.EdgeOf', WHERE WHAT IT READS IS OF BULK AT MOST 1048576: true; the input reads as it did. -/
def edgeOfUptoRow : OpenClaim := { program := "ytbnnpfncgndidaa", sum := "737a8dc723d179bef54dc7b1a895eae7dccc89b02eecc30f4f3f7b0b984418e9", func := "rescind/rescindlaw10.EdgeOf", spec := "edgeOf", inPlace := ["internal/bytealg.abigen_runtime_cmpstring"], unfollowed := true, recurses := true, apart := false, narrowed := true }
def EdgeOfUptoSaid : Prop := edgeOfUptoRow.holds Try.pinned (OpenSpec.upto edgeOfSpec)

/-- 'rescindlaw10.EdgeSides', WHERE WHAT IT READS IS OF BULK AT MOST 1048576: true; the input reads as it did. -/
def edgeSidesUptoRow : OpenClaim := { program := "ytbnnpfncgndidaa", sum := "737a8dc723d179bef54dc7b1a895eae7dccc89b02eecc30f4f3f7b0b984418e9", func := "rescind/rescindlaw10.EdgeSides", spec := "edgeSides", inPlace := ["internal/bytealg.abigen_runtime_cmpstring"], unfollowed := true, recurses := true, apart := false, narrowed := true }
def EdgeSidesUptoSaid : Prop := edgeSidesUptoRow.holds Try.pinned (OpenSpec.upto edgeSidesSpec)

end Rows
end Go.Proofs.Ytbnnpfncgndidaa
