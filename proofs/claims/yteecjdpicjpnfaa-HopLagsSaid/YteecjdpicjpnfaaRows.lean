/-
  No cell of these rows narrows 'for every input' (looked for: loops, veiled, ifaces, maps, wideKeys, modest, calm, conditions, laid).
  DERIVED. THE GIVEN ROWS OF THIS SEAT. 6 by the template 'for every input the law returns true; each argument reads behind the call as it read before'; 0 by the template 'total and deterministic' (their statements: YteecjdpicjpnfaaTotals.lean).
  GIVEN WITH THE SEED: the statements are not yours to turn. If you find one false, say at which input.
  Laid BY PROGRAM, IN A SANDBOX (cutbox-rows.mjs): the forced cells as the released guide's own fill.sh prints them over the translation 6fbf5e9def9866f7… (all of the seat's roots in one cut). By AI agents, Wed Nov 11 2026. No macro, syntax, notation, axiom, sorry.
-/
import Derived.Test.YteecjdpicjpnfaaChecked
import GoSem.Claim
import GoSem.ClaimJoined
import GoSem.ClaimMapViews
import Derived.JoinedTies
import Derived.KernelRfl
namespace Go.Proofs.Yteecjdpicjpnfaa
/- THE CELL 'sum', in the pinned program and in every row, IS THE sha256 OF THE DUMP (.gsa) THAT YteecjdpicjpnfaaProg.lean LOADS. Nothing in Lean hashes anything: it is a label: what it is worth is what the hold of that sum in a sandbox is worth. -/
noncomputable def Try.pinned : Pinned := { name := "yteecjdpicjpnfaa", sum := "6fbf5e9def9866f7f7f1ec1f0efcf87182da0cdd302f341bcef1db2444c32fb0", checked := Try.checked }
namespace Rows
def none {H : Type} : Left H := { results := [], args := [] }

/-- 'rescindlaw28.HopOpens': WHATEVER THE INPUT: true; the input reads as it did. -/
def hopOpensSpec : ChangeSpec := { name := "hopOpens", fn := fun _ => fun
  | [d1, d2, d3] => { results := [.lit (.bool true)], args := [d1, d2, d3] }
  | _ => none }
def hopOpensRow : OpenClaim := { program := "yteecjdpicjpnfaa", sum := "6fbf5e9def9866f7f7f1ec1f0efcf87182da0cdd302f341bcef1db2444c32fb0", func := "rescind/rescindlaw28.HopOpens", spec := "hopOpens", inPlace := ["internal/bytealg.abigen_runtime_cmpstring"], unfollowed := true, recurses := true, apart := false }
def HopOpensSaid : Prop := hopOpensRow.holds Try.pinned (OpenSpec.ofChange hopOpensSpec)

/-- ITS FALSE NEIGHBOUR: 'it returns false'. Refute it at one input. -/
def hopOpensWrong : ChangeSpec := { name := "hopOpens", fn := fun _ => fun
  | [d1, d2, d3] => { results := [.lit (.bool false)], args := [d1, d2, d3] }
  | _ => none }
def HopOpensWrongFalsely : Prop := hopOpensRow.holds Try.pinned (OpenSpec.ofChange hopOpensWrong)

/-- 'rescindlaw28.HopLags': WHATEVER THE INPUT: true; the input reads as it did. -/
def hopLagsSpec : ChangeSpec := { name := "hopLags", fn := fun _ => fun
  | [d1, d2, d3, d4] => { results := [.lit (.bool true)], args := [d1, d2, d3, d4] }
  | _ => none }
def hopLagsRow : OpenClaim := { program := "yteecjdpicjpnfaa", sum := "6fbf5e9def9866f7f7f1ec1f0efcf87182da0cdd302f341bcef1db2444c32fb0", func := "rescind/rescindlaw28.HopLags", spec := "hopLags", inPlace := ["internal/bytealg.abigen_runtime_cmpstring"], unfollowed := true, recurses := true, apart := false }
def HopLagsSaid : Prop := hopLagsRow.holds Try.pinned (OpenSpec.ofChange hopLagsSpec)

/-- ITS FALSE NEIGHBOUR: 'it returns false'. Refute it at one input. -/
def hopLagsWrong : ChangeSpec := { name := "hopLags", fn := fun _ => fun
  | [d1, d2, d3, d4] => { results := [.lit (.bool false)], args := [d1, d2, d3, d4] }
  | _ => none }
def HopLagsWrongFalsely : Prop := hopLagsRow.holds Try.pinned (OpenSpec.ofChange hopLagsWrong)

/-- 'rescindlaw28.HopStarts': WHATEVER THE INPUT: true; the input reads as it did. -/
def hopStartsSpec : ChangeSpec := { name := "hopStarts", fn := fun _ => fun
  | [d1, d2, d3, d4, d5] => { results := [.lit (.bool true)], args := [d1, d2, d3, d4, d5] }
  | _ => none }
def hopStartsRow : OpenClaim := { program := "yteecjdpicjpnfaa", sum := "6fbf5e9def9866f7f7f1ec1f0efcf87182da0cdd302f341bcef1db2444c32fb0", func := "rescind/rescindlaw28.HopStarts", spec := "hopStarts", inPlace := ["internal/bytealg.abigen_runtime_cmpstring"], unfollowed := true, recurses := true, apart := false }
def HopStartsSaid : Prop := hopStartsRow.holds Try.pinned (OpenSpec.ofChange hopStartsSpec)

/-- ITS FALSE NEIGHBOUR: 'it returns false'. Refute it at one input. -/
def hopStartsWrong : ChangeSpec := { name := "hopStarts", fn := fun _ => fun
  | [d1, d2, d3, d4, d5] => { results := [.lit (.bool false)], args := [d1, d2, d3, d4, d5] }
  | _ => none }
def HopStartsWrongFalsely : Prop := hopStartsRow.holds Try.pinned (OpenSpec.ofChange hopStartsWrong)

/-- 'rescindlaw28.HopParts': WHATEVER THE INPUT: true; the input reads as it did. -/
def hopPartsSpec : ChangeSpec := { name := "hopParts", fn := fun _ => fun
  | [d1, d2, d3, d4, d5] => { results := [.lit (.bool true)], args := [d1, d2, d3, d4, d5] }
  | _ => none }
def hopPartsRow : OpenClaim := { program := "yteecjdpicjpnfaa", sum := "6fbf5e9def9866f7f7f1ec1f0efcf87182da0cdd302f341bcef1db2444c32fb0", func := "rescind/rescindlaw28.HopParts", spec := "hopParts", inPlace := ["internal/bytealg.abigen_runtime_cmpstring"], unfollowed := true, recurses := true, apart := false }
def HopPartsSaid : Prop := hopPartsRow.holds Try.pinned (OpenSpec.ofChange hopPartsSpec)

/-- ITS FALSE NEIGHBOUR: 'it returns false'. Refute it at one input. -/
def hopPartsWrong : ChangeSpec := { name := "hopParts", fn := fun _ => fun
  | [d1, d2, d3, d4, d5] => { results := [.lit (.bool false)], args := [d1, d2, d3, d4, d5] }
  | _ => none }
def HopPartsWrongFalsely : Prop := hopPartsRow.holds Try.pinned (OpenSpec.ofChange hopPartsWrong)

/-- 'rescindlaw28.HopSettles': WHATEVER THE INPUT: true; the input reads as it did. -/
def hopSettlesSpec : ChangeSpec := { name := "hopSettles", fn := fun _ => fun
  | [d1, d2, d3, d4, d5] => { results := [.lit (.bool true)], args := [d1, d2, d3, d4, d5] }
  | _ => none }
def hopSettlesRow : OpenClaim := { program := "yteecjdpicjpnfaa", sum := "6fbf5e9def9866f7f7f1ec1f0efcf87182da0cdd302f341bcef1db2444c32fb0", func := "rescind/rescindlaw28.HopSettles", spec := "hopSettles", inPlace := ["internal/bytealg.abigen_runtime_cmpstring"], unfollowed := true, recurses := true, apart := false }
def HopSettlesSaid : Prop := hopSettlesRow.holds Try.pinned (OpenSpec.ofChange hopSettlesSpec)

/-- ITS FALSE NEIGHBOUR: 'it returns false'. Refute it at one input. -/
def hopSettlesWrong : ChangeSpec := { name := "hopSettles", fn := fun _ => fun
  | [d1, d2, d3, d4, d5] => { results := [.lit (.bool false)], args := [d1, d2, d3, d4, d5] }
  | _ => none }
def HopSettlesWrongFalsely : Prop := hopSettlesRow.holds Try.pinned (OpenSpec.ofChange hopSettlesWrong)

/-- 'rescindlaw28.HopForgets': WHATEVER THE INPUT: true; the input reads as it did. -/
def hopForgetsSpec : ChangeSpec := { name := "hopForgets", fn := fun _ => fun
  | [d1, d2, d3, d4, d5] => { results := [.lit (.bool true)], args := [d1, d2, d3, d4, d5] }
  | _ => none }
def hopForgetsRow : OpenClaim := { program := "yteecjdpicjpnfaa", sum := "6fbf5e9def9866f7f7f1ec1f0efcf87182da0cdd302f341bcef1db2444c32fb0", func := "rescind/rescindlaw28.HopForgets", spec := "hopForgets", inPlace := ["internal/bytealg.abigen_runtime_cmpstring"], unfollowed := true, recurses := true, apart := false }
def HopForgetsSaid : Prop := hopForgetsRow.holds Try.pinned (OpenSpec.ofChange hopForgetsSpec)

/-- ITS FALSE NEIGHBOUR: 'it returns false'. Refute it at one input. -/
def hopForgetsWrong : ChangeSpec := { name := "hopForgets", fn := fun _ => fun
  | [d1, d2, d3, d4, d5] => { results := [.lit (.bool false)], args := [d1, d2, d3, d4, d5] }
  | _ => none }
def HopForgetsWrongFalsely : Prop := hopForgetsRow.holds Try.pinned (OpenSpec.ofChange hopForgetsWrong)

/- THE SECOND FORM. 'bulk': how many values and letters a reading holds, each counted each time it is reached (what is shared counts as often as it is met; a slice's spare places count too). A statement '..UptoSaid' is the law's where the arguments, and the package variables that the reading takes, are together of bulk at most 1048576: NARROWER than '..Said'. Prove '..Said' where nothing that the law and all that it calls make is longer than what came in: it says more and counts as full. Else prove '..UptoSaid'. A law counts once. -/
mutual
def uptoBulk {H : Type} : DataW H → Nat
  | .lit (.string bytes) => bytes.length + 1
  | .lit _ => 1
  | .nil => 1
  | .ptr d => uptoBulk d + 1
  | .slice elems spare => uptoBulkAll elems + uptoBulkAll spare + 1
  | .agg parts => uptoBulkAll parts + 1
  | .iface _ d => uptoBulk d + 1
  | .map entries => uptoBulkEntries entries + 1
  | .held _ => 1
def uptoBulkAll {H : Type} : List (DataW H) → Nat
  | [] => 0
  | d :: r => uptoBulk d + uptoBulkAll r
def uptoBulkEntries {H : Type} : List (Lit × DataW H) → Nat
  | [] => 0
  | x :: r => uptoBulkEntry x + uptoBulkEntries r
def uptoBulkEntry {H : Type} : Lit × DataW H → Nat
  | (.string bytes, d) => bytes.length + uptoBulk d + 1
  | (_, d) => uptoBulk d + 1
 end
def uptoSmall : (H : Type) → List (DataW H) → Bool := fun _ ds => decide (uptoBulkAll ds ≤ 1048576)
def OpenSpec.upto (s : _root_.Go.ChangeSpec) : _root_.Go.OpenSpec := { _root_.Go.OpenSpec.ofChange s with cond := some uptoSmall }

/-- 'rescindlaw28.HopOpens', WHERE WHAT IT READS IS OF BULK AT MOST 1048576: true; the input reads as it did. -/
def hopOpensUptoRow : OpenClaim := { program := "yteecjdpicjpnfaa", sum := "6fbf5e9def9866f7f7f1ec1f0efcf87182da0cdd302f341bcef1db2444c32fb0", func := "rescind/rescindlaw28.HopOpens", spec := "hopOpens", inPlace := ["internal/bytealg.abigen_runtime_cmpstring"], unfollowed := true, recurses := true, apart := false, narrowed := true }
def HopOpensUptoSaid : Prop := hopOpensUptoRow.holds Try.pinned (OpenSpec.upto hopOpensSpec)

/-- 'rescindlaw28.HopLags', WHERE WHAT IT READS IS OF BULK AT MOST 1048576: true; the input reads as it did. -/
def hopLagsUptoRow : OpenClaim := { program := "yteecjdpicjpnfaa", sum := "6fbf5e9def9866f7f7f1ec1f0efcf87182da0cdd302f341bcef1db2444c32fb0", func := "rescind/rescindlaw28.HopLags", spec := "hopLags", inPlace := ["internal/bytealg.abigen_runtime_cmpstring"], unfollowed := true, recurses := true, apart := false, narrowed := true }
def HopLagsUptoSaid : Prop := hopLagsUptoRow.holds Try.pinned (OpenSpec.upto hopLagsSpec)

/-- 'rescindlaw28.HopStarts', WHERE WHAT IT READS IS OF BULK AT MOST 1048576: true; the input reads as it did. -/
def hopStartsUptoRow : OpenClaim := { program := "yteecjdpicjpnfaa", sum := "6fbf5e9def9866f7f7f1ec1f0efcf87182da0cdd302f341bcef1db2444c32fb0", func := "rescind/rescindlaw28.HopStarts", spec := "hopStarts", inPlace := ["internal/bytealg.abigen_runtime_cmpstring"], unfollowed := true, recurses := true, apart := false, narrowed := true }
def HopStartsUptoSaid : Prop := hopStartsUptoRow.holds Try.pinned (OpenSpec.upto hopStartsSpec)

/-- 'rescindlaw28.HopParts', WHERE WHAT IT READS IS OF BULK AT MOST 1048576: true; the input reads as it did. -/
def hopPartsUptoRow : OpenClaim := { program := "yteecjdpicjpnfaa", sum := "6fbf5e9def9866f7f7f1ec1f0efcf87182da0cdd302f341bcef1db2444c32fb0", func := "rescind/rescindlaw28.HopParts", spec := "hopParts", inPlace := ["internal/bytealg.abigen_runtime_cmpstring"], unfollowed := true, recurses := true, apart := false, narrowed := true }
def HopPartsUptoSaid : Prop := hopPartsUptoRow.holds Try.pinned (OpenSpec.upto hopPartsSpec)

/-- 'rescindlaw28.HopSettles', WHERE WHAT IT READS IS OF BULK AT MOST 1048576: true; the input reads as it did. -/
def hopSettlesUptoRow : OpenClaim := { program := "yteecjdpicjpnfaa", sum := "6fbf5e9def9866f7f7f1ec1f0efcf87182da0cdd302f341bcef1db2444c32fb0", func := "rescind/rescindlaw28.HopSettles", spec := "hopSettles", inPlace := ["internal/bytealg.abigen_runtime_cmpstring"], unfollowed := true, recurses := true, apart := false, narrowed := true }
def HopSettlesUptoSaid : Prop := hopSettlesUptoRow.holds Try.pinned (OpenSpec.upto hopSettlesSpec)

/-- 'rescindlaw28.HopForgets', WHERE WHAT IT READS IS OF BULK AT MOST 1048576: true; the input reads as it did. -/
def hopForgetsUptoRow : OpenClaim := { program := "yteecjdpicjpnfaa", sum := "6fbf5e9def9866f7f7f1ec1f0efcf87182da0cdd302f341bcef1db2444c32fb0", func := "rescind/rescindlaw28.HopForgets", spec := "hopForgets", inPlace := ["internal/bytealg.abigen_runtime_cmpstring"], unfollowed := true, recurses := true, apart := false, narrowed := true }
def HopForgetsUptoSaid : Prop := hopForgetsUptoRow.holds Try.pinned (OpenSpec.upto hopForgetsSpec)

end Rows
end Go.Proofs.Yteecjdpicjpnfaa
