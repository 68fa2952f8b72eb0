/- Openers of the parameters' types: printed by law.py. -/
import Derived.Test.YtgeajlnkbfeidaaAbs20
import Derived.Test.YtgeajlnkbfeidaaWalks
namespace Go.Abs
open Go Go.RowKit Go.Proofs

def ok_api_Jump (x : api_Jump) : Prop := in64 x.At ∧ in64 x.Net ∧ True
theorem opens_api_Jump_40 {H : Type} {enc : TypeId × Value → H} {w : World} : Opens enc Try.prog w 40 e_api_Jump ok_api_Jump :=
  opens_struct Try.underlying40 (by kernel_rfl) (opensF_cons (c' := c_api_Jump) (ok' := ok_api_Jump) (fun (a : Int) (b : Int × Unit) => (api_Jump.mk a b.1 : api_Jump)) (by kernel_rfl) (opens_i64 Try.underlying3) (opensF_cons (c' := fun (b : Int × Unit) => (V.cells (eInt .i64 b.1) ++ [])) (ok' := fun b => (in64 b.1 ∧ True)) (fun a b => (a, b)) (by kernel_rfl) (opens_i64 Try.underlying3) (opensF_nil ()) (fun _ _ => rfl) (fun _ _ h1 h2 => ⟨h1, h2⟩)) (fun _ _ => rfl) (fun _ _ h1 h2 => ⟨h1, h2⟩))
end Go.Abs
