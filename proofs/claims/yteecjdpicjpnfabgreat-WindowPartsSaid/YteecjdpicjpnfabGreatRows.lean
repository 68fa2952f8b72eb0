/-
  No cell of these rows narrows 'for every input' (looked for: loops, veiled, ifaces, maps, wideKeys, modest, calm, conditions, laid).
  DERIVED. THE GIVEN ROWS OF THIS SEAT. 3 by the template 'for every input the law returns true; each argument reads behind the call as it read before'; 0 by the template 'total and deterministic' (their statements: YteecjdpicjpnfabGreatTotals.lean).
  GIVEN WITH THE SEED: the statements are not yours to turn. If you find one false, say at which input.
  Laid BY PROGRAM, IN A SANDBOX (cutbox-rows.mjs): the forced cells as the released guide's own fill.sh prints them over the translation 8af1f4f9d2518fa7… (all of the seat's roots in one cut). By AI agents, Wed Nov 11 2026. No macro, syntax, notation, axiom, sorry.
-/
import Derived.Test.YteecjdpicjpnfabGreatChecked
import GoSem.Claim
import GoSem.ClaimJoined
import GoSem.ClaimMapViews
import Derived.JoinedTies
import Derived.KernelRfl
namespace Go.Proofs.YteecjdpicjpnfabGreat
/- THE CELL 'sum', in the pinned program and in every row, IS THE sha256 OF THE DUMP (.gsa) THAT YteecjdpicjpnfabGreatProg.lean LOADS. Nothing in Lean hashes anything: it is a label: what it is worth is what the hold of that sum in a sandbox is worth. -/
noncomputable def Tryz.pinned : Pinned := { name := "yteecjdpicjpnfabgreat", sum := "8af1f4f9d2518fa7d4e7fb97d8660ffc4a1b91735c049392236966af9e9606cd", checked := Tryz.checked }
namespace Rows
def none {H : Type} : Left H := { results := [], args := [] }

/-- 'rescindlaw30.WindowClocks': WHATEVER THE INPUT: true; the input reads as it did. -/
def windowClocksSpec : ChangeSpec := { name := "windowClocks", fn := fun _ => fun
  | [d1, d2, d3] => { results := [.lit (.bool true)], args := [d1, d2, d3] }
  | _ => none }
def windowClocksRow : OpenClaim := { program := "yteecjdpicjpnfabgreat", sum := "8af1f4f9d2518fa7d4e7fb97d8660ffc4a1b91735c049392236966af9e9606cd", func := "rescind/rescindlaw30.WindowClocks", spec := "windowClocks", inPlace := ["internal/bytealg.abigen_runtime_cmpstring"], unfollowed := true, recurses := true, apart := false }
def WindowClocksSaid : Prop := windowClocksRow.holds Tryz.pinned (OpenSpec.ofChange windowClocksSpec)

/-- ITS FALSE NEIGHBOUR: 'it returns false'. Refute it at one input. -/
def windowClocksWrong : ChangeSpec := { name := "windowClocks", fn := fun _ => fun
  | [d1, d2, d3] => { results := [.lit (.bool false)], args := [d1, d2, d3] }
  | _ => none }
def WindowClocksWrongFalsely : Prop := windowClocksRow.holds Tryz.pinned (OpenSpec.ofChange windowClocksWrong)

/-- 'rescindlaw30.WindowParts': WHATEVER THE INPUT: true; the input reads as it did. -/
def windowPartsSpec : ChangeSpec := { name := "windowParts", fn := fun _ => fun
  | [d1, d2, d3, d4] => { results := [.lit (.bool true)], args := [d1, d2, d3, d4] }
  | _ => none }
def windowPartsRow : OpenClaim := { program := "yteecjdpicjpnfabgreat", sum := "8af1f4f9d2518fa7d4e7fb97d8660ffc4a1b91735c049392236966af9e9606cd", func := "rescind/rescindlaw30.WindowParts", spec := "windowParts", inPlace := ["internal/bytealg.abigen_runtime_cmpstring"], unfollowed := true, recurses := true, apart := false }
def WindowPartsSaid : Prop := windowPartsRow.holds Tryz.pinned (OpenSpec.ofChange windowPartsSpec)

/-- ITS FALSE NEIGHBOUR: 'it returns false'. Refute it at one input. -/
def windowPartsWrong : ChangeSpec := { name := "windowParts", fn := fun _ => fun
  | [d1, d2, d3, d4] => { results := [.lit (.bool false)], args := [d1, d2, d3, d4] }
  | _ => none }
def WindowPartsWrongFalsely : Prop := windowPartsRow.holds Tryz.pinned (OpenSpec.ofChange windowPartsWrong)

/-- 'rescindlaw30.WindowSettles': WHATEVER THE INPUT: true; the input reads as it did. -/
def windowSettlesSpec : ChangeSpec := { name := "windowSettles", fn := fun _ => fun
  | [d1, d2, d3, d4] => { results := [.lit (.bool true)], args := [d1, d2, d3, d4] }
  | _ => none }
def windowSettlesRow : OpenClaim := { program := "yteecjdpicjpnfabgreat", sum := "8af1f4f9d2518fa7d4e7fb97d8660ffc4a1b91735c049392236966af9e9606cd", func := "rescind/rescindlaw30.WindowSettles", spec := "windowSettles", inPlace := ["internal/bytealg.abigen_runtime_cmpstring"], unfollowed := true, recurses := true, apart := false }
def WindowSettlesSaid : Prop := windowSettlesRow.holds Tryz.pinned (OpenSpec.ofChange windowSettlesSpec)

/-- ITS FALSE NEIGHBOUR: 'it returns false'. Refute it at one input. -/
def windowSettlesWrong : ChangeSpec := { name := "windowSettles", fn := fun _ => fun
  | [d1, d2, d3, d4] => { results := [.lit (.bool false)], args := [d1, d2, d3, d4] }
  | _ => none }
def WindowSettlesWrongFalsely : Prop := windowSettlesRow.holds Tryz.pinned (OpenSpec.ofChange windowSettlesWrong)

/- THE SECOND FORM. 'bulk': how many values and letters a reading holds, each counted each time it is reached (what is shared counts as often as it is met; a slice's spare places count too). A statement '..UptoSaid' is the law's where the arguments, and the package variables that the reading takes, are together of bulk at most 1048576: NARROWER than '..Said'. Prove '..Said' where nothing that the law and all that it calls make is longer than what came in: it says more and counts as full. Else prove '..UptoSaid'. A law counts once. -/
mutual
def uptoBulk {H : Type} : DataW H → Nat
  | .lit (.string bytes) => bytes.length + 1
  | .lit _ => 1
  | .nil => 1
  | .ptr d => uptoBulk d + 1
  | .slice elems spare => uptoBulkAll elems + uptoBulkAll spare + 1
  | .agg parts => uptoBulkAll parts + 1
  | .iface _ d => uptoBulk d + 1
  | .map entries => uptoBulkEntries entries + 1
  | .held _ => 1
def uptoBulkAll {H : Type} : List (DataW H) → Nat
  | [] => 0
  | d :: r => uptoBulk d + uptoBulkAll r
def uptoBulkEntries {H : Type} : List (Lit × DataW H) → Nat
  | [] => 0
  | x :: r => uptoBulkEntry x + uptoBulkEntries r
def uptoBulkEntry {H : Type} : Lit × DataW H → Nat
  | (.string bytes, d) => bytes.length + uptoBulk d + 1
  | (_, d) => uptoBulk d + 1
 end
def uptoSmall : (H : Type) → List (DataW H) → Bool := fun _ ds => decide (uptoBulkAll ds ≤ 1048576)
def OpenSpec.upto (s : _root_.Go.ChangeSpec) : _root_.Go.OpenSpec := { _root_.Go.OpenSpec.ofChange s with cond := some uptoSmall }

/-- 'rescindlaw30.WindowClocks', WHERE WHAT IT READS IS OF BULK AT MOST 1048576: true; the input reads as it did. -/
def windowClocksUptoRow : OpenClaim := { program := "yteecjdpicjpnfabgreat", sum := "8af1f4f9d2518fa7d4e7fb97d8660ffc4a1b91735c049392236966af9e9606cd", func := "rescind/rescindlaw30.WindowClocks", spec := "windowClocks", inPlace := ["internal/bytealg.abigen_runtime_cmpstring"], unfollowed := true, recurses := true, apart := false, narrowed := true }
def WindowClocksUptoSaid : Prop := windowClocksUptoRow.holds Tryz.pinned (OpenSpec.upto windowClocksSpec)

/-- 'rescindlaw30.WindowParts', WHERE WHAT IT READS IS OF BULK AT MOST 1048576: true; the input reads as it did. -/
def windowPartsUptoRow : OpenClaim := { program := "yteecjdpicjpnfabgreat", sum := "8af1f4f9d2518fa7d4e7fb97d8660ffc4a1b91735c049392236966af9e9606cd", func := "rescind/rescindlaw30.WindowParts", spec := "windowParts", inPlace := ["internal/bytealg.abigen_runtime_cmpstring"], unfollowed := true, recurses := true, apart := false, narrowed := true }
def WindowPartsUptoSaid : Prop := windowPartsUptoRow.holds Tryz.pinned (OpenSpec.upto windowPartsSpec)

/-- 'rescindlaw30.WindowSettles', WHERE WHAT IT READS IS OF BULK AT MOST 1048576: true; the input reads as it did. -/
def windowSettlesUptoRow : OpenClaim := { program := "yteecjdpicjpnfabgreat", sum := "8af1f4f9d2518fa7d4e7fb97d8660ffc4a1b91735c049392236966af9e9606cd", func := "rescind/rescindlaw30.WindowSettles", spec := "windowSettles", inPlace := ["internal/bytealg.abigen_runtime_cmpstring"], unfollowed := true, recurses := true, apart := false, narrowed := true }
def WindowSettlesUptoSaid : Prop := windowSettlesUptoRow.holds Tryz.pinned (OpenSpec.upto windowSettlesSpec)

end Rows
end Go.Proofs.YteecjdpicjpnfabGreat
