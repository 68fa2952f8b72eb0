/-
  No cell of these rows narrows 'for every input' (looked for: loops, veiled, ifaces, maps, wideKeys, modest, calm, conditions, laid).
  DERIVED. THE GIVEN ROWS OF THIS SEAT. 7 by the template 'for every input the law returns true; each argument reads behind the call as it read before'; 0 by the template 'total and deterministic' (their statements: YtfepdngmgjmniaaTotals.lean).
  GIVEN WITH THE SEED: the statements are not yours to turn. If you find one false, say at which input.
  Laid BY PROGRAM, IN A SANDBOX (cutbox-rows.mjs): the forced cells as the released guide's own fill.sh prints them over the translation 247cfc4852574d2e… (all of the seat's roots in one cut). By AI agents, Wed Nov 11 2026. No macro, syntax, notation, axiom, sorry.
-/
import Derived.Test.YtfepdngmgjmniaaChecked
import GoSem.Claim
import GoSem.ClaimJoined
import GoSem.ClaimMapViews
import Derived.JoinedTies
import Derived.KernelRfl
namespace Go.Proofs.Ytfepdngmgjmniaa
/- THE CELL 'sum', in the pinned program and in every row, IS THE sha256 OF THE DUMP (.gsa) THAT YtfepdngmgjmniaaProg.lean LOADS. Nothing in Lean hashes anything: it is a label: what it is worth is what the hold of that sum in a sandbox is worth. -/
noncomputable def Try.pinned : Pinned := { name := "ytfepdngmgjmniaa", sum := "247cfc4852574d2eb0c962fd49e216f74adb5719e24e397974fa82afa51616ea", checked := Try.checked }
namespace Rows
def none {H : Type} : Left H := { results := [], args := [] }

/-- 'rescindlaw11.PackOnce': WHATEVER THE INPUT: true; the input reads as it did. -/
def packOnceSpec : ChangeSpec := { name := "packOnce", fn := fun _ => fun
  | [d] => { results := [.lit (.bool true)], args := [d] }
  | _ => none }
def packOnceRow : OpenClaim := { program := "ytfepdngmgjmniaa", sum := "247cfc4852574d2eb0c962fd49e216f74adb5719e24e397974fa82afa51616ea", func := "rescind/rescindlaw11.PackOnce", spec := "packOnce", inPlace := ["internal/bytealg.abigen_runtime_cmpstring"], unfollowed := true, recurses := true, apart := false }
def PackOnceSaid : Prop := packOnceRow.holds Try.pinned (OpenSpec.ofChange packOnceSpec)

/-- ITS FALSE NEIGHBOUR: 'it returns false'. Refute it at one input. -/
def packOnceWrong : ChangeSpec := { name := "packOnce", fn := fun _ => fun
  | [d] => { results := [.lit (.bool false)], args := [d] }
  | _ => none }
def PackOnceWrongFalsely : Prop := packOnceRow.holds Try.pinned (OpenSpec.ofChange packOnceWrong)

/-- 'rescindlaw16.AlignDoes': WHATEVER THE INPUT: true; the input reads as it did. -/
def alignDoesSpec : ChangeSpec := { name := "alignDoes", fn := fun _ => fun
  | [d1, d2] => { results := [.lit (.bool true)], args := [d1, d2] }
  | _ => none }
def alignDoesRow : OpenClaim := { program := "ytfepdngmgjmniaa", sum := "247cfc4852574d2eb0c962fd49e216f74adb5719e24e397974fa82afa51616ea", func := "rescind/rescindlaw16.AlignDoes", spec := "alignDoes", inPlace := ["internal/bytealg.abigen_runtime_cmpstring"], unfollowed := true, recurses := true, apart := false }
def AlignDoesSaid : Prop := alignDoesRow.holds Try.pinned (OpenSpec.ofChange alignDoesSpec)

/-- ITS FALSE NEIGHBOUR: 'it returns false'. Refute it at one input. -/
def alignDoesWrong : ChangeSpec := { name := "alignDoes", fn := fun _ => fun
  | [d1, d2] => { results := [.lit (.bool false)], args := [d1, d2] }
  | _ => none }
def AlignDoesWrongFalsely : Prop := alignDoesRow.holds Try.pinned (OpenSpec.ofChange alignDoesWrong)

/-- 'rescindlaw16.AlignSums': WHATEVER THE INPUT: true; the input reads as it did. -/
def alignSumsSpec : ChangeSpec := { name := "alignSums", fn := fun _ => fun
  | [d] => { results := [.lit (.bool true)], args := [d] }
  | _ => none }
def alignSumsRow : OpenClaim := { program := "ytfepdngmgjmniaa", sum := "247cfc4852574d2eb0c962fd49e216f74adb5719e24e397974fa82afa51616ea", func := "rescind/rescindlaw16.AlignSums", spec := "alignSums", inPlace := ["internal/bytealg.abigen_runtime_cmpstring"], unfollowed := true, recurses := true, apart := false }
def AlignSumsSaid : Prop := alignSumsRow.holds Try.pinned (OpenSpec.ofChange alignSumsSpec)

/-- ITS FALSE NEIGHBOUR: 'it returns false'. Refute it at one input. -/
def alignSumsWrong : ChangeSpec := { name := "alignSums", fn := fun _ => fun
  | [d] => { results := [.lit (.bool false)], args := [d] }
  | _ => none }
def AlignSumsWrongFalsely : Prop := alignSumsRow.holds Try.pinned (OpenSpec.ofChange alignSumsWrong)

/-- 'rescindlaw11.PackSpans': WHATEVER THE INPUT: true; the input reads as it did. -/
def packSpansSpec : ChangeSpec := { name := "packSpans", fn := fun _ => fun
  | [d] => { results := [.lit (.bool true)], args := [d] }
  | _ => none }
def packSpansRow : OpenClaim := { program := "ytfepdngmgjmniaa", sum := "247cfc4852574d2eb0c962fd49e216f74adb5719e24e397974fa82afa51616ea", func := "rescind/rescindlaw11.PackSpans", spec := "packSpans", inPlace := ["internal/bytealg.abigen_runtime_cmpstring"], unfollowed := true, recurses := true, apart := false }
def PackSpansSaid : Prop := packSpansRow.holds Try.pinned (OpenSpec.ofChange packSpansSpec)

/-- ITS FALSE NEIGHBOUR: 'it returns false'. Refute it at one input. -/
def packSpansWrong : ChangeSpec := { name := "packSpans", fn := fun _ => fun
  | [d] => { results := [.lit (.bool false)], args := [d] }
  | _ => none }
def PackSpansWrongFalsely : Prop := packSpansRow.holds Try.pinned (OpenSpec.ofChange packSpansWrong)

/-- 'rescindlaw11.PackTicks': WHATEVER THE INPUT: true; the input reads as it did. -/
def packTicksSpec : ChangeSpec := { name := "packTicks", fn := fun _ => fun
  | [d1, d2] => { results := [.lit (.bool true)], args := [d1, d2] }
  | _ => none }
def packTicksRow : OpenClaim := { program := "ytfepdngmgjmniaa", sum := "247cfc4852574d2eb0c962fd49e216f74adb5719e24e397974fa82afa51616ea", func := "rescind/rescindlaw11.PackTicks", spec := "packTicks", inPlace := ["internal/bytealg.abigen_runtime_cmpstring"], unfollowed := true, recurses := true, apart := false }
def PackTicksSaid : Prop := packTicksRow.holds Try.pinned (OpenSpec.ofChange packTicksSpec)

/-- ITS FALSE NEIGHBOUR: 'it returns false'. Refute it at one input. -/
def packTicksWrong : ChangeSpec := { name := "packTicks", fn := fun _ => fun
  | [d1, d2] => { results := [.lit (.bool false)], args := [d1, d2] }
  | _ => none }
def PackTicksWrongFalsely : Prop := packTicksRow.holds Try.pinned (OpenSpec.ofChange packTicksWrong)

/-- 'rescindlaw11.PackCuts': WHATEVER THE INPUT: true; the input reads as it did. -/
def packCutsSpec : ChangeSpec := { name := "packCuts", fn := fun _ => fun
  | [d1, d2] => { results := [.lit (.bool true)], args := [d1, d2] }
  | _ => none }
def packCutsRow : OpenClaim := { program := "ytfepdngmgjmniaa", sum := "247cfc4852574d2eb0c962fd49e216f74adb5719e24e397974fa82afa51616ea", func := "rescind/rescindlaw11.PackCuts", spec := "packCuts", inPlace := ["internal/bytealg.abigen_runtime_cmpstring"], unfollowed := true, recurses := true, apart := false }
def PackCutsSaid : Prop := packCutsRow.holds Try.pinned (OpenSpec.ofChange packCutsSpec)

/-- ITS FALSE NEIGHBOUR: 'it returns false'. Refute it at one input. -/
def packCutsWrong : ChangeSpec := { name := "packCuts", fn := fun _ => fun
  | [d1, d2] => { results := [.lit (.bool false)], args := [d1, d2] }
  | _ => none }
def PackCutsWrongFalsely : Prop := packCutsRow.holds Try.pinned (OpenSpec.ofChange packCutsWrong)

/-- 'rescindlaw11.PackSides': WHATEVER THE INPUT: true; the input reads as it did. -/
def packSidesSpec : ChangeSpec := { name := "packSides", fn := fun _ => fun
  | [d1, d2] => { results := [.lit (.bool true)], args := [d1, d2] }
  | _ => none }
def packSidesRow : OpenClaim := { program := "ytfepdngmgjmniaa", sum := "247cfc4852574d2eb0c962fd49e216f74adb5719e24e397974fa82afa51616ea", func := "rescind/rescindlaw11.PackSides", spec := "packSides", inPlace := ["internal/bytealg.abigen_runtime_cmpstring"], unfollowed := true, recurses := true, apart := false }
def PackSidesSaid : Prop := packSidesRow.holds Try.pinned (OpenSpec.ofChange packSidesSpec)

/-- ITS FALSE NEIGHBOUR: 'it returns false'. Refute it at one input. -/
def packSidesWrong : ChangeSpec := { name := "packSides", fn := fun _ => fun
  | [d1, d2] => { results := [.lit (.bool false)], args := [d1, d2] }
  | _ => none }
def PackSidesWrongFalsely : Prop := packSidesRow.holds Try.pinned (OpenSpec.ofChange packSidesWrong)

/- THE SECOND FORM. 'bulk': how many values and letters a reading holds, each counted each time it is reached (what is shared counts as often as it is met; a slice's spare places count too). A statement '..UptoSaid' is the law's where the arguments, and the package variables that the reading takes, are together of bulk at most 1048576: NARROWER than '..Said'. Prove '..Said' where nothing that the law and all that it calls make is longer than what came in: it says more and counts as full. Else prove '..UptoSaid'. A law counts once. -/
mutual
def uptoBulk {H : Type} : DataW H → Nat
  | .lit (.string bytes) => bytes.length + 1
  | .lit _ => 1
  | .nil => 1
  | .ptr d => uptoBulk d + 1
  | .slice elems spare => uptoBulkAll elems + uptoBulkAll spare + 1
  | .agg parts => uptoBulkAll parts + 1
  | .iface _ d => uptoBulk d + 1
  | .map entries => uptoBulkEntries entries + 1
  | .held _ => 1
def uptoBulkAll {H : Type} : List (DataW H) → Nat
  | [] => 0
  | d :: r => uptoBulk d + uptoBulkAll r
def uptoBulkEntries {H : Type} : List (Lit × DataW H) → Nat
  | [] => 0
  | x :: r => uptoBulkEntry x + uptoBulkEntries r
def uptoBulkEntry {H : Type} : Lit × DataW H → Nat
  | (.string bytes, d) => bytes.length + uptoBulk d + 1
  | (_, d) => uptoBulk d + 1
 end
def uptoSmall : (H : Type) → List (DataW H) → Bool := fun _ ds => decide (uptoBulkAll ds ≤ 1048576)
def OpenSpec.upto (s : _root_.Go.ChangeSpec) : _root_.Go.OpenSpec := { _root_.Go.OpenSpec.ofChange s with cond := some uptoSmall }

/-- 'rescindlaw11.PackOnce', WHERE WHAT IT READS IS OF BULK AT MOST 1048576: true; the input reads as it did. -/
def packOnceUptoRow : OpenClaim := { program := "ytfepdngmgjmniaa", sum := "247cfc4852574d2eb0c962fd49e216f74adb5719e24e397974fa82afa51616ea", func := "rescind/rescindlaw11.PackOnce", spec := "packOnce", inPlace := ["internal/bytealg.abigen_runtime_cmpstring"], unfollowed := true, recurses := true, apart := false, narrowed := true }
def PackOnceUptoSaid : Prop := packOnceUptoRow.holds Try.pinned (OpenSpec.upto packOnceSpec)

/-- 'rescindlaw16.AlignDoes', WHERE WHAT IT READS IS OF BULK AT MOST 1048576: true; the input reads as it did. -/
def alignDoesUptoRow : OpenClaim := { program := "ytfepdngmgjmniaa", sum := "247cfc4852574d2eb0c962fd49e216f74adb5719e24e397974fa82afa51616ea", func := "rescind/rescindlaw16.AlignDoes", spec := "alignDoes", inPlace := ["internal/bytealg.abigen_runtime_cmpstring"], unfollowed := true, recurses := true, apart := false, narrowed := true }
def AlignDoesUptoSaid : Prop := alignDoesUptoRow.holds Try.pinned (OpenSpec.upto alignDoesSpec)

/-- 'rescindlaw16.AlignSums', WHERE WHAT IT READS IS OF BULK AT MOST 1048576: true; the input reads as it did. -/
def alignSumsUptoRow : OpenClaim := { program := "ytfepdngmgjmniaa", sum := "247cfc4852574d2eb0c962fd49e216f74adb5719e24e397974fa82afa51616ea", func := "rescind/rescindlaw16.AlignSums", spec := "alignSums", inPlace := ["internal/bytealg.abigen_runtime_cmpstring"], unfollowed := true, recurses := true, apart := false, narrowed := true }
def AlignSumsUptoSaid : Prop := alignSumsUptoRow.holds Try.pinned (OpenSpec.upto alignSumsSpec)

/-- 'rescindlaw11.PackSpans', WHERE WHAT IT READS IS OF BULK AT MOST 1048576: true; the input reads as it did. -/
def packSpansUptoRow : OpenClaim := { program := "ytfepdngmgjmniaa", sum := "247cfc4852574d2eb0c962fd49e216f74adb5719e24e397974fa82afa51616ea", func := "rescind/rescindlaw11.PackSpans", spec := "packSpans", inPlace := ["internal/bytealg.abigen_runtime_cmpstring"], unfollowed := true, recurses := true, apart := false, narrowed := true }
def PackSpansUptoSaid : Prop := packSpansUptoRow.holds Try.pinned (OpenSpec.upto packSpansSpec)

/-- 'rescindlaw11.PackTicks', WHERE WHAT IT READS IS OF BULK AT MOST 1048576: true; the input reads as it did. -/
def packTicksUptoRow : OpenClaim := { program := "ytfepdngmgjmniaa", sum := "247cfc4852574d2eb0c962fd49e216f74adb5719e24e397974fa82afa51616ea", func := "rescind/rescindlaw11.PackTicks", spec := "packTicks", inPlace := ["internal/bytealg.abigen_runtime_cmpstring"], unfollowed := true, recurses := true, apart := false, narrowed := true }
def PackTicksUptoSaid : Prop := packTicksUptoRow.holds Try.pinned (OpenSpec.upto packTicksSpec)

/-- 'rescindlaw11.PackCuts', WHERE WHAT IT READS IS OF BULK AT MOST 1048576: true; the input reads as it did. -/
def packCutsUptoRow : OpenClaim := { program := "ytfepdngmgjmniaa", sum := "247cfc4852574d2eb0c962fd49e216f74adb5719e24e397974fa82afa51616ea", func := "rescind/rescindlaw11.PackCuts", spec := "packCuts", inPlace := ["internal/bytealg.abigen_runtime_cmpstring"], unfollowed := true, recurses := true, apart := false, narrowed := true }
def PackCutsUptoSaid : Prop := packCutsUptoRow.holds Try.pinned (OpenSpec.upto packCutsSpec)

/-- 'rescindlaw11.PackSides', WHERE WHAT IT READS IS OF BULK AT MOST 1048576: true; the input reads as it did. -/
def packSidesUptoRow : OpenClaim := { program := "ytfepdngmgjmniaa", sum := "247cfc4852574d2eb0c962fd49e216f74adb5719e24e397974fa82afa51616ea", func := "rescind/rescindlaw11.PackSides", spec := "packSides", inPlace := ["internal/bytealg.abigen_runtime_cmpstring"], unfollowed := true, recurses := true, apart := false, narrowed := true }
def PackSidesUptoSaid : Prop := packSidesUptoRow.holds Try.pinned (OpenSpec.upto packSidesSpec)

end Rows
end Go.Proofs.Ytfepdngmgjmniaa
