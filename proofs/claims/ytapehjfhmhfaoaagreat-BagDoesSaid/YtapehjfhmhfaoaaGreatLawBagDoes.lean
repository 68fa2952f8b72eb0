/- The row of the law BagDoes: for every input the call answers true, and each argument reads as before. No conditions. -/
import Derived.Test.YtapehjfhmhfaoaaGreatRows
import Derived.Test.YtapehjfhmhfaoaaGreatBagDoesZ7
import Derived.WalkKit
import Derived.ProofKit
import Derived.OpenShut
import Derived.ShutString
import Derived.ChangeOld
import Derived.Below
import Derived.Carry
import Derived.SizedLaws
namespace Go.Proofs.YtapehjfhmhfaoaaGreat.bagDoes
open Go.ChangeShapes Go.WideShapes Go.ChangeAt Go.RowKit Go.Abs
open Go.ChangeMaps (open_string shut_string)
theorem own:ownKnob Tryz.prog.godebug=none:=by kernel_rfl
theorem laidOut:laidOutB Tryz.prog=true:=by kernel_rfl
set_option maxRecDepth 100000 in
theorem lifted (os:Os)(started:os.Started)(H:Type)(enc:TypeId×Value->H) :
    ReturnsInHanded {} Tryz.checked os 3 .any (Rows.bagDoesSpec.pre6 enc Tryz.prog Tryz.f3 Rows.bagDoesRow.domain false) (Rows.bagDoesSpec.post enc Tryz.prog Tryz.f3 false true false false):=by
  refine returnsInHanded_of_change_sized (C:=Tryz.checked) own started (by kernel_rfl) Tryz.func3
    (ChangeSpec.witness6 (enc:=enc) (C:=Tryz.checked) false ⟨#[],#[.slice none 0 0,.slice none 0 0],[]⟩ 8 (by kernel_rfl) (by kernel_rfl) (by kernel_rfl) (by kernel_rfl)) ?_
  intro W base args ds gs before aMk hW hcnd b5 _;have hsz:(DataW.weightsEach Tryz.prog (Tryz.f3.params.toList++Rows.bagDoesSpec.plain.varTypes Tryz.prog) (ds++gs)).all (· <= reachBytes)=true:=b5;have hval:∀ (j:Nat) t v,Tryz.f3.params[j]?=some t->args[j]?=some v->Value.okWide Tryz.prog W .any base t v:=aMk;have hW':=hW;obtain⟨p,q,b6,hV,rfl,hfz,hnd⟩:=hW;have hA:DataW.TrodAll enc Tryz.prog W 0 (fun _=>true) true Tryz.f3.params.toList args.toList ds p:=b6;rw [Tryz.params3] at hA hval hsz;obtain⟨v0,c9,d0,e3,p0,q0,hargs,rfl,rfl,h0,r0⟩:=trodAll_cons hA;obtain⟨v1,e4,d1,e5,p1,q1,rfl,rfl,rfl,h1,r1⟩:=trodAll_cons r0;obtain⟨rfl,rfl,rfl⟩:=trodAll_nil r1;obtain rfl:args=#[v0,v1]:=by cases args;simp_all
  obtain⟨rfl,rfl⟩:=trodVars_none hV;obtain⟨a0,c5,c6,rfl⟩:=okWide_slice Tryz.underlying22 (hval 0 22 v0 rfl rfl);have k0:=h0;have b9:∀ x∈p0,x.block<W.heap.size:=by obtain ⟨m,hm⟩:=k0;exact DataW.trod_lt m _ _ _ hm
  obtain⟨l0,m0,b7,b0,z0⟩:=aEA (en:=kN) (ok:=QL) Tryz.underlying22 (by decide +kernel) (fun _=>by kernel_rfl) (fun _=>rfl) aBt h0 (aFW hsz (j:=0) (t:=22) rfl rfl);have y0:=aGX hsz (j:=0) (t:=22) rfl rfl Tryz.underlying22 z0;rw [show Tryz.prog.bytesOf 33=40 from by kernel_rfl,show reachBytes=140737488351232 from by kernel_rfl] at y0;obtain⟨a1,c7,c8,rfl⟩:=okWide_slice Tryz.underlying24 (hval 1 24 v1 rfl rfl);have k1:=h1;have c4:∀ x∈p1,x.block<W.heap.size:=by obtain ⟨m,hm⟩:=k1;exact DataW.trod_lt m _ _ _ hm
  obtain⟨l1,m1,b8,b1,z1⟩:=aEA (en:=aI) (ok:=GC) Tryz.underlying24 (by decide +kernel) (fun _=>by kernel_rfl) (fun _=>rfl) RS h1 (aFW hsz (j:=1) (t:=24) rfl rfl);have y1:=aGX hsz (j:=1) (t:=24) rfl rfl Tryz.underlying24 z1;rw [show Tryz.prog.bytesOf 55=32 from by kernel_rfl,show reachBytes=140737488351232 from by kernel_rfl] at y1;clear b6 aMk b5 hsz;refine (aMB (b:=.bool true) (vs:=[_,_]) (aC0 l0 l1 true (aFL l0 m0 y0 l1 m1 y1)) ⟨b7,b8,trivial⟩).mono fun e W' ⟨he,bel⟩=>?_;subst he;exact⟨_,rfl,_,_,_,[],_,[],hW',trodAll_mk1 (shut_bool Tryz.underlying4 _),trodAll_cons_mk (Below.trod laidOut (by kernel_rfl) (of_decide_eq_true (by kernel_rfl)) k0 bel b9) (trodAll_cons_mk (Below.trod laidOut (by kernel_rfl) (of_decide_eq_true (by kernel_rfl)) k1 bel c4) trodAll_mk0),rfl,bel.frame _,fun h=>by cases h⟩
theorem over:Rows.bagDoesRow.holds Tryz.pinned (OpenSpec.ofChange Rows.bagDoesSpec) :=
  OpenClaim.holds_of_wide 3 Tryz.f3 rfl rfl rfl rfl rfl rfl rfl ⟨rfl,rfl,rfl,rfl,rfl⟩ rfl rfl rfl rfl rfl (by kernel_rfl) Tryz.func3 (by kernel_rfl)
    (of_decide_eq_true (by kernel_rfl)) (by unfold Func.isWrapper; first | (rw [if_pos (by decide +kernel)]; kernel_rfl) | (rw [if_neg (by decide +kernel)]; exact ⟨rfl,rfl⟩))
    (fun os started H enc _=>lifted os started H enc)
theorem proved:Rows.BagDoesSaid:=over
end Go.Proofs.YtapehjfhmhfaoaaGreat.bagDoes
namespace Go.Proofs.YtapehjfhmhfaoaaGreat
theorem bagDoes_holds:Rows.BagDoesSaid:=bagDoes.proved
#print axioms bagDoes_holds
end Go.Proofs.YtapehjfhmhfaoaaGreat
