/-
  No cell of these rows narrows 'for every input' (looked for: loops, veiled, ifaces, maps, wideKeys, modest, calm, conditions, laid).
  DERIVED. THE GIVEN ROWS OF THIS SEAT. 7 by the template 'for every input the law returns true; each argument reads behind the call as it read before'; 0 by the template 'total and deterministic' (their statements: YtfhaegpflbcmgaaTotals.lean).
  GIVEN WITH THE SEED: the statements are not yours to turn. If you find one false, say at which input.
  Laid BY PROGRAM, IN A SANDBOX (cutbox-rows.mjs): the forced cells as the released guide's own fill.sh prints them over the translation 95072e6089280154… (all of the seat's roots in one cut). By AI agents, Wed Nov 11 2026. No macro, syntax, notation, axiom, sorry.
-/
import Derived.Test.YtfhaegpflbcmgaaChecked
import GoSem.Claim
import GoSem.ClaimJoined
import GoSem.ClaimMapViews
import Derived.JoinedTies
import Derived.KernelRfl
namespace Go.Proofs.Ytfhaegpflbcmgaa
/- THE CELL 'sum', in the pinned program and in every row, IS THE sha256 OF THE DUMP (.gsa) THAT YtfhaegpflbcmgaaProg.lean LOADS. Nothing in Lean hashes anything: it is a label: what it is worth is what the hold of that sum in a sandbox is worth. -/
noncomputable def Try.pinned : Pinned := { name := "ytfhaegpflbcmgaa", sum := "95072e6089280154532fd2870680dd581686107f9bb0bb51305de00c7da703a0", checked := Try.checked }
namespace Rows
def none {H : Type} : Left H := { results := [], args := [] }

/-- 'rescindlaw27.SnapCuts': WHATEVER THE INPUT: true; the input reads as it did. -/
def snapCutsSpec : ChangeSpec := { name := "snapCuts", fn := fun _ => fun
  | [d1, d2] => { results := [.lit (.bool true)], args := [d1, d2] }
  | _ => none }
def snapCutsRow : OpenClaim := { program := "ytfhaegpflbcmgaa", sum := "95072e6089280154532fd2870680dd581686107f9bb0bb51305de00c7da703a0", func := "rescind/rescindlaw27.SnapCuts", spec := "snapCuts", inPlace := ["internal/bytealg.abigen_runtime_cmpstring"], unfollowed := true, recurses := true, apart := false }
def SnapCutsSaid : Prop := snapCutsRow.holds Try.pinned (OpenSpec.ofChange snapCutsSpec)

/-- ITS FALSE NEIGHBOUR: 'it returns false'. Refute it at one input. -/
def snapCutsWrong : ChangeSpec := { name := "snapCuts", fn := fun _ => fun
  | [d1, d2] => { results := [.lit (.bool false)], args := [d1, d2] }
  | _ => none }
def SnapCutsWrongFalsely : Prop := snapCutsRow.holds Try.pinned (OpenSpec.ofChange snapCutsWrong)

/-- 'rescindlaw27.SnapParts': WHATEVER THE INPUT: true; the input reads as it did. -/
def snapPartsSpec : ChangeSpec := { name := "snapParts", fn := fun _ => fun
  | [d1, d2] => { results := [.lit (.bool true)], args := [d1, d2] }
  | _ => none }
def snapPartsRow : OpenClaim := { program := "ytfhaegpflbcmgaa", sum := "95072e6089280154532fd2870680dd581686107f9bb0bb51305de00c7da703a0", func := "rescind/rescindlaw27.SnapParts", spec := "snapParts", inPlace := ["internal/bytealg.abigen_runtime_cmpstring"], unfollowed := true, recurses := true, apart := false }
def SnapPartsSaid : Prop := snapPartsRow.holds Try.pinned (OpenSpec.ofChange snapPartsSpec)

/-- ITS FALSE NEIGHBOUR: 'it returns false'. Refute it at one input. -/
def snapPartsWrong : ChangeSpec := { name := "snapParts", fn := fun _ => fun
  | [d1, d2] => { results := [.lit (.bool false)], args := [d1, d2] }
  | _ => none }
def SnapPartsWrongFalsely : Prop := snapPartsRow.holds Try.pinned (OpenSpec.ofChange snapPartsWrong)

/-- 'rescindlaw27.SnapTicks': WHATEVER THE INPUT: true; the input reads as it did. -/
def snapTicksSpec : ChangeSpec := { name := "snapTicks", fn := fun _ => fun
  | [d1, d2, d3] => { results := [.lit (.bool true)], args := [d1, d2, d3] }
  | _ => none }
def snapTicksRow : OpenClaim := { program := "ytfhaegpflbcmgaa", sum := "95072e6089280154532fd2870680dd581686107f9bb0bb51305de00c7da703a0", func := "rescind/rescindlaw27.SnapTicks", spec := "snapTicks", inPlace := ["internal/bytealg.abigen_runtime_cmpstring"], unfollowed := true, recurses := true, apart := false }
def SnapTicksSaid : Prop := snapTicksRow.holds Try.pinned (OpenSpec.ofChange snapTicksSpec)

/-- ITS FALSE NEIGHBOUR: 'it returns false'. Refute it at one input. -/
def snapTicksWrong : ChangeSpec := { name := "snapTicks", fn := fun _ => fun
  | [d1, d2, d3] => { results := [.lit (.bool false)], args := [d1, d2, d3] }
  | _ => none }
def SnapTicksWrongFalsely : Prop := snapTicksRow.holds Try.pinned (OpenSpec.ofChange snapTicksWrong)

/-- 'rescindlaw29.CountsStarts': WHATEVER THE INPUT: true; the input reads as it did. -/
def countsStartsSpec : ChangeSpec := { name := "countsStarts", fn := fun _ => fun
  | [d1, d2, d3] => { results := [.lit (.bool true)], args := [d1, d2, d3] }
  | _ => none }
def countsStartsRow : OpenClaim := { program := "ytfhaegpflbcmgaa", sum := "95072e6089280154532fd2870680dd581686107f9bb0bb51305de00c7da703a0", func := "rescind/rescindlaw29.CountsStarts", spec := "countsStarts", inPlace := ["internal/bytealg.abigen_runtime_cmpstring"], unfollowed := true, recurses := true, apart := false }
def CountsStartsSaid : Prop := countsStartsRow.holds Try.pinned (OpenSpec.ofChange countsStartsSpec)

/-- ITS FALSE NEIGHBOUR: 'it returns false'. Refute it at one input. -/
def countsStartsWrong : ChangeSpec := { name := "countsStarts", fn := fun _ => fun
  | [d1, d2, d3] => { results := [.lit (.bool false)], args := [d1, d2, d3] }
  | _ => none }
def CountsStartsWrongFalsely : Prop := countsStartsRow.holds Try.pinned (OpenSpec.ofChange countsStartsWrong)

/-- 'rescindlaw29.CountsParts': WHATEVER THE INPUT: true; the input reads as it did. -/
def countsPartsSpec : ChangeSpec := { name := "countsParts", fn := fun _ => fun
  | [d1, d2, d3] => { results := [.lit (.bool true)], args := [d1, d2, d3] }
  | _ => none }
def countsPartsRow : OpenClaim := { program := "ytfhaegpflbcmgaa", sum := "95072e6089280154532fd2870680dd581686107f9bb0bb51305de00c7da703a0", func := "rescind/rescindlaw29.CountsParts", spec := "countsParts", inPlace := ["internal/bytealg.abigen_runtime_cmpstring"], unfollowed := true, recurses := true, apart := false }
def CountsPartsSaid : Prop := countsPartsRow.holds Try.pinned (OpenSpec.ofChange countsPartsSpec)

/-- ITS FALSE NEIGHBOUR: 'it returns false'. Refute it at one input. -/
def countsPartsWrong : ChangeSpec := { name := "countsParts", fn := fun _ => fun
  | [d1, d2, d3] => { results := [.lit (.bool false)], args := [d1, d2, d3] }
  | _ => none }
def CountsPartsWrongFalsely : Prop := countsPartsRow.holds Try.pinned (OpenSpec.ofChange countsPartsWrong)

/-- 'rescindlaw29.CountsSettles': WHATEVER THE INPUT: true; the input reads as it did. -/
def countsSettlesSpec : ChangeSpec := { name := "countsSettles", fn := fun _ => fun
  | [d1, d2, d3, d4] => { results := [.lit (.bool true)], args := [d1, d2, d3, d4] }
  | _ => none }
def countsSettlesRow : OpenClaim := { program := "ytfhaegpflbcmgaa", sum := "95072e6089280154532fd2870680dd581686107f9bb0bb51305de00c7da703a0", func := "rescind/rescindlaw29.CountsSettles", spec := "countsSettles", inPlace := ["internal/bytealg.abigen_runtime_cmpstring"], unfollowed := true, recurses := true, apart := false }
def CountsSettlesSaid : Prop := countsSettlesRow.holds Try.pinned (OpenSpec.ofChange countsSettlesSpec)

/-- ITS FALSE NEIGHBOUR: 'it returns false'. Refute it at one input. -/
def countsSettlesWrong : ChangeSpec := { name := "countsSettles", fn := fun _ => fun
  | [d1, d2, d3, d4] => { results := [.lit (.bool false)], args := [d1, d2, d3, d4] }
  | _ => none }
def CountsSettlesWrongFalsely : Prop := countsSettlesRow.holds Try.pinned (OpenSpec.ofChange countsSettlesWrong)

/-- 'rescindlaw29.CountsForgets': WHATEVER THE INPUT: true; the input reads as it did. -/
def countsForgetsSpec : ChangeSpec := { name := "countsForgets", fn := fun _ => fun
  | [d1, d2, d3] => { results := [.lit (.bool true)], args := [d1, d2, d3] }
  | _ => none }
def countsForgetsRow : OpenClaim := { program := "ytfhaegpflbcmgaa", sum := "95072e6089280154532fd2870680dd581686107f9bb0bb51305de00c7da703a0", func := "rescind/rescindlaw29.CountsForgets", spec := "countsForgets", inPlace := ["internal/bytealg.abigen_runtime_cmpstring"], unfollowed := true, recurses := true, apart := false }
def CountsForgetsSaid : Prop := countsForgetsRow.holds Try.pinned (OpenSpec.ofChange countsForgetsSpec)

/-- ITS FALSE NEIGHBOUR: 'it returns false'. Refute it at one input. -/
def countsForgetsWrong : ChangeSpec := { name := "countsForgets", fn := fun _ => fun
  | [d1, d2, d3] => { results := [.lit (.bool false)], args := [d1, d2, d3] }
  | _ => none }
def CountsForgetsWrongFalsely : Prop := countsForgetsRow.holds Try.pinned (OpenSpec.ofChange countsForgetsWrong)

/- THE SECOND FORM. 'bulk': how many values and letters a reading holds, each counted each time it is reached (what is shared counts as often as it is met; a slice's spare places count too). A statement '..UptoSaid' is the law's where the arguments, and the package variables that the reading takes, are together of bulk at most 1048576: NARROWER than '..Said'. Prove '..Said' where nothing that the law and all that it calls make is longer than what came in: it says more and counts as full. Else prove '..UptoSaid'. A law counts once. -/
mutual
def uptoBulk {H : Type} : DataW H → Nat
  | .lit (.string bytes) => bytes.length + 1
  | .lit _ => 1
  | .nil => 1
  | .ptr d => uptoBulk d + 1
  | .slice elems spare => uptoBulkAll elems + uptoBulkAll spare + 1
  | .agg parts => uptoBulkAll parts + 1
  | .iface _ d => uptoBulk d + 1
  | .map entries => uptoBulkEntries entries + 1
  | .held _ => 1
def uptoBulkAll {H : Type} : List (DataW H) → Nat
  | [] => 0
  | d :: r => uptoBulk d + uptoBulkAll r
def uptoBulkEntries {H : Type} : List (Lit × DataW H) → Nat
  | [] => 0
  | x :: r => uptoBulkEntry x + uptoBulkEntries r
def uptoBulkEntry {H : Type} : Lit × DataW H → Nat
  | (.string bytes, d) => bytes.length + uptoBulk d + 1
  | (_, d) => uptoBulk d + 1
 end
def uptoSmall : (H : Type) → List (DataW H) → Bool := fun _ ds => decide (uptoBulkAll ds ≤ 1048576)
def OpenSpec.upto (s : _root_.Go.ChangeSpec) : _root_.Go.OpenSpec := { _root_.Go.OpenSpec.ofChange s with cond := some uptoSmall }

/-- 'rescindlaw27.SnapCuts', WHERE WHAT IT READS IS OF BULK AT MOST 1048576: true; the input reads as it did. -/
def snapCutsUptoRow : OpenClaim := { program := "ytfhaegpflbcmgaa", sum := "95072e6089280154532fd2870680dd581686107f9bb0bb51305de00c7da703a0", func := "rescind/rescindlaw27.SnapCuts", spec := "snapCuts", inPlace := ["internal/bytealg.abigen_runtime_cmpstring"], unfollowed := true, recurses := true, apart := false, narrowed := true }
def SnapCutsUptoSaid : Prop := snapCutsUptoRow.holds Try.pinned (OpenSpec.upto snapCutsSpec)

/-- 'rescindlaw27.SnapParts', WHERE WHAT IT READS IS OF BULK AT MOST 1048576: true; the input reads as it did. -/
def snapPartsUptoRow : OpenClaim := { program := "ytfhaegpflbcmgaa", sum := "95072e6089280154532fd2870680dd581686107f9bb0bb51305de00c7da703a0", func := "rescind/rescindlaw27.SnapParts", spec := "snapParts", inPlace := ["internal/bytealg.abigen_runtime_cmpstring"], unfollowed := true, recurses := true, apart := false, narrowed := true }
def SnapPartsUptoSaid : Prop := snapPartsUptoRow.holds Try.pinned (OpenSpec.upto snapPartsSpec)

/-- 'rescindlaw27.SnapTicks', WHERE WHAT IT READS IS OF BULK AT MOST 1048576: true; the input reads as it did. -/
def snapTicksUptoRow : OpenClaim := { program := "ytfhaegpflbcmgaa", sum := "95072e6089280154532fd2870680dd581686107f9bb0bb51305de00c7da703a0", func := "rescind/rescindlaw27.SnapTicks", spec := "snapTicks", inPlace := ["internal/bytealg.abigen_runtime_cmpstring"], unfollowed := true, recurses := true, apart := false, narrowed := true }
def SnapTicksUptoSaid : Prop := snapTicksUptoRow.holds Try.pinned (OpenSpec.upto snapTicksSpec)

/-- 'rescindlaw29.CountsStarts', WHERE WHAT IT READS IS OF BULK AT MOST 1048576: true; the input reads as it did. -/
def countsStartsUptoRow : OpenClaim := { program := "ytfhaegpflbcmgaa", sum := "95072e6089280154532fd2870680dd581686107f9bb0bb51305de00c7da703a0", func := "rescind/rescindlaw29.CountsStarts", spec := "countsStarts", inPlace := ["internal/bytealg.abigen_runtime_cmpstring"], unfollowed := true, recurses := true, apart := false, narrowed := true }
def CountsStartsUptoSaid : Prop := countsStartsUptoRow.holds Try.pinned (OpenSpec.upto countsStartsSpec)

/-- 'rescindlaw29.CountsParts', WHERE WHAT IT READS IS OF BULK AT MOST 1048576: true; the input reads as it did. -/
def countsPartsUptoRow : OpenClaim := { program := "ytfhaegpflbcmgaa", sum := "95072e6089280154532fd2870680dd581686107f9bb0bb51305de00c7da703a0", func := "rescind/rescindlaw29.CountsParts", spec := "countsParts", inPlace := ["internal/bytealg.abigen_runtime_cmpstring"], unfollowed := true, recurses := true, apart := false, narrowed := true }
def CountsPartsUptoSaid : Prop := countsPartsUptoRow.holds Try.pinned (OpenSpec.upto countsPartsSpec)

/-- 'rescindlaw29.CountsSettles', WHERE WHAT IT READS IS OF BULK AT MOST 1048576: true; the input reads as it did. -/
def countsSettlesUptoRow : OpenClaim := { program := "ytfhaegpflbcmgaa", sum := "95072e6089280154532fd2870680dd581686107f9bb0bb51305de00c7da703a0", func := "rescind/rescindlaw29.CountsSettles", spec := "countsSettles", inPlace := ["internal/bytealg.abigen_runtime_cmpstring"], unfollowed := true, recurses := true, apart := false, narrowed := true }
def CountsSettlesUptoSaid : Prop := countsSettlesUptoRow.holds Try.pinned (OpenSpec.upto countsSettlesSpec)

/-- 'rescindlaw29.CountsForgets', WHERE WHAT IT READS IS OF BULK AT MOST 1048576: true; the input reads as it did. -/
def countsForgetsUptoRow : OpenClaim := { program := "ytfhaegpflbcmgaa", sum := "95072e6089280154532fd2870680dd581686107f9bb0bb51305de00c7da703a0", func := "rescind/rescindlaw29.CountsForgets", spec := "countsForgets", inPlace := ["internal/bytealg.abigen_runtime_cmpstring"], unfollowed := true, recurses := true, apart := false, narrowed := true }
def CountsForgetsUptoSaid : Prop := countsForgetsUptoRow.holds Try.pinned (OpenSpec.upto countsForgetsSpec)

end Rows
end Go.Proofs.Ytfhaegpflbcmgaa
