/- The row of the law BagUndo: for every input the call answers true, and each argument reads as before. No conditions. -/
import Derived.Test.YtapehjfhmhfaoaaRows
import Derived.Test.YtapehjfhmhfaoaaBagUndoZ6
import Derived.WalkKit
import Derived.ProofKit
import Derived.OpenShut
import Derived.ShutString
import Derived.ChangeOld
import Derived.Below
import Derived.Carry
import Derived.SizedLaws
namespace Go.Proofs.Ytapehjfhmhfaoaa.bagUndo
open Go.ChangeShapes Go.WideShapes Go.ChangeAt Go.RowKit Go.Abs
open Go.ChangeMaps (open_string shut_string)
theorem own : ownKnob Try.prog.godebug = none := by kernel_rfl
theorem laidOut : laidOutB Try.prog = true := by kernel_rfl
set_option maxRecDepth 100000 in
theorem lifted (os : Os) (started : os.Started) (H : Type) (enc : TypeId × Value → H) :
    ReturnsInHanded {} Try.checked os 4 .any (Rows.bagUndoSpec.pre6 enc Try.prog Try.f4 Rows.bagUndoRow.domain false) (Rows.bagUndoSpec.post enc Try.prog Try.f4 false true false false) := by
  refine returnsInHanded_of_change_sized (C := Try.checked) own started (by kernel_rfl) Try.func4
    (ChangeSpec.witness6 (enc := enc) (C := Try.checked) false ⟨#[], #[.slice none 0 0, .slice none 0 0], []⟩ 8 (by kernel_rfl) (by kernel_rfl) (by kernel_rfl) (by kernel_rfl)) ?_
  intro W base args ds gs before aFt hW hcnd hsz0 _
  have hsz : (DataW.weightsEach Try.prog (Try.f4.params.toList ++ Rows.bagUndoSpec.plain.varTypes Try.prog) (ds ++ gs)).all (· ≤ reachBytes) = true := hsz0
  have hval : ∀ (j : Nat) t v, Try.f4.params[j]? = some t → args[j]? = some v → Value.okWide Try.prog W .any base t v := aFt
  have hW' := hW
  obtain ⟨p, q, hA0, hV, rfl, hfz, hnd⟩ := hW
  have hA : DataW.TrodAll enc Try.prog W 0 (fun _ => true) true Try.f4.params.toList args.toList ds p := hA0
  rw [Try.params4] at hA hval hsz
  obtain ⟨v0, vs0, d0, ds0, p0, q0, hargs, rfl, rfl, h0, r0⟩ := trodAll_cons hA
  obtain ⟨v1, vs1, d1, ds1, p1, q1, rfl, rfl, rfl, h1, r1⟩ := trodAll_cons r0
  obtain ⟨rfl, rfl, rfl⟩ := trodAll_nil r1
  obtain rfl : args = #[v0, v1] := by cases args; simp_all
  obtain ⟨rfl, rfl⟩ := trodVars_none hV
  obtain ⟨a0, len0, cap0, rfl⟩ := okWide_slice Try.underlying22 (hval 0 22 v0 rfl rfl)
  have k0 := h0
  have lt0 : ∀ x ∈ p0, x.block < W.heap.size := by obtain ⟨m, hm⟩ := k0; exact DataW.trod_lt m _ _ _ hm
  obtain ⟨l0, m0, rep0, b0, z0⟩ := VQ (en := aO) (ok := sC) Try.underlying22 (by decide +kernel) (fun _ => by kernel_rfl) (fun _ => rfl) FP h0 (YM hsz (j := 0) (t := 22) rfl rfl)
  have y0 := aAA hsz (j := 0) (t := 22) rfl rfl Try.underlying22 z0
  rw [show Try.prog.bytesOf 36 = 40 from by kernel_rfl, show reachBytes = 140737488351232 from by kernel_rfl] at y0
  obtain ⟨a1, len1, cap1, rfl⟩ := okWide_slice Try.underlying22 (hval 1 22 v1 rfl rfl)
  have k1 := h1
  have lt1 : ∀ x ∈ p1, x.block < W.heap.size := by obtain ⟨m, hm⟩ := k1; exact DataW.trod_lt m _ _ _ hm
  obtain ⟨l1, m1, rep1, b1, z1⟩ := VQ (en := aO) (ok := sC) Try.underlying22 (by decide +kernel) (fun _ => by kernel_rfl) (fun _ => rfl) FP h1 (YM hsz (j := 1) (t := 22) rfl rfl)
  have y1 := aAA hsz (j := 1) (t := 22) rfl rfl Try.underlying22 z1
  rw [show Try.prog.bytesOf 36 = 40 from by kernel_rfl, show reachBytes = 140737488351232 from by kernel_rfl] at y1
  clear hA0 aFt hsz0 hsz
  refine (aGp (b := .bool true) (vs := [_, _]) (SW l0 l1 true (YI l0 m0 y0 l1 m1 y1)) ⟨rep0, rep1, trivial⟩).mono fun e W' ⟨he, bel⟩ => ?_
  subst he
  exact ⟨_, rfl, _, _, _, [], _, [], hW', trodAll_mk1 (shut_bool Try.underlying4 _), (trodAll_cons_mk (Below.trod laidOut (by kernel_rfl) (of_decide_eq_true (by kernel_rfl)) k0 bel lt0) (trodAll_cons_mk (Below.trod laidOut (by kernel_rfl) (of_decide_eq_true (by kernel_rfl)) k1 bel lt1) trodAll_mk0)), rfl, bel.frame _, fun h => by cases h⟩
theorem over : Rows.bagUndoRow.holds Try.pinned (OpenSpec.ofChange Rows.bagUndoSpec) :=
  OpenClaim.holds_of_wide 4 Try.f4 rfl rfl rfl rfl rfl rfl rfl ⟨rfl, rfl, rfl, rfl, rfl⟩ rfl rfl rfl rfl rfl (by kernel_rfl) Try.func4 (by kernel_rfl)
    (of_decide_eq_true (by kernel_rfl)) (by unfold Func.isWrapper; first | (rw [if_pos (by decide +kernel)]; kernel_rfl) | (rw [if_neg (by decide +kernel)]; exact ⟨rfl, rfl⟩))
    (fun os started H enc _ => lifted os started H enc)
theorem proved : Rows.BagUndoSaid := over
end Go.Proofs.Ytapehjfhmhfaoaa.bagUndo
namespace Go.Proofs.Ytapehjfhmhfaoaa
theorem bagUndo_holds : Rows.BagUndoSaid := bagUndo.proved
#print axioms bagUndo_holds
end Go.Proofs.Ytapehjfhmhfaoaa
