/- The row of the law WindowSettles: for every input the call answers true, and each argument reads as before. No conditions. -/
import Derived.Test.YteecjdpicjpnfabGreatRows
import Derived.Test.YteecjdpicjpnfabGreatWindowSettlesZ6
import Derived.WalkKit
import Derived.ProofKit
import Derived.OpenShut
import Derived.ShutString
import Derived.ChangeOld
import Derived.Below
import Derived.Carry
import Derived.SizedLaws
namespace Go.Proofs.YteecjdpicjpnfabGreat.windowSettles
open Go.ChangeShapes Go.WideShapes Go.ChangeAt Go.RowKit Go.Abs
open Go.ChangeMaps (open_string shut_string)
theorem own:ownKnob Tryz.prog.godebug=none:=by kernel_rfl
theorem laidOut:laidOutB Tryz.prog=true:=by kernel_rfl
set_option maxRecDepth 100000 in
theorem lifted (os:Os)(started:os.Started)(H:Type)(enc:TypeId×Value->H) :
    ReturnsInHanded {} Tryz.checked os 5 .any (Rows.windowSettlesSpec.pre6 enc Tryz.prog Tryz.f5 Rows.windowSettlesRow.domain false) (Rows.windowSettlesSpec.post enc Tryz.prog Tryz.f5 false true false false):=by
  refine returnsInHanded_of_change_sized (C:=Tryz.checked) own started (by kernel_rfl) Tryz.func5
    (ChangeSpec.witness6 (enc:=enc) (C:=Tryz.checked) false ⟨#[],#[.agg #[.int .i64 0,.int .i64 0,.int .i64 0],.slice none 0 0,.slice none 0 0,.int .i64 0],[]⟩ 8 (by kernel_rfl) (by kernel_rfl) (by kernel_rfl) (by kernel_rfl)) ?_
  intro W base args ds gs before aFb hW hcnd hsz0 _;have hsz:(DataW.weightsEach Tryz.prog (Tryz.f5.params.toList++Rows.windowSettlesSpec.plain.varTypes Tryz.prog) (ds++gs)).all (· <= reachBytes)=true:=hsz0;have hval:∀ (j:Nat) t v,Tryz.f5.params[j]?=some t->args[j]?=some v->Value.okWide Tryz.prog W .any base t v:=aFb;have hW':=hW;obtain⟨p,q,hA0,hV,rfl,hfz,hnd⟩:=hW;have hA:DataW.TrodAll enc Tryz.prog W 0 (fun _=>true) true Tryz.f5.params.toList args.toList ds p:=hA0;rw [Tryz.params5] at hA hval hsz;obtain⟨v0,vs0,d0,ds0,p0,q0,hargs,rfl,rfl,h0,r0⟩:=trodAll_cons hA;obtain⟨v1,vs1,d1,ds1,p1,q1,rfl,rfl,rfl,h1,r1⟩:=trodAll_cons r0;obtain⟨v2,vs2,d2,ds2,p2,q2,rfl,rfl,rfl,h2,r2⟩:=trodAll_cons r1;obtain⟨v3,vs3,d3,ds3,p3,q3,rfl,rfl,rfl,h3,r3⟩:=trodAll_cons r2;obtain⟨rfl,rfl,rfl⟩:=trodAll_nil r3;obtain rfl:args=#[v0,v1,v2,v3]:=by cases args; simp_all
  obtain⟨rfl,rfl⟩:=trodVars_none hV;have k0:=h0;have lt0:∀ x∈p0,x.block<W.heap.size:=by obtain ⟨m,hm⟩:=k0; exact DataW.trod_lt m _ _ _ hm
  obtain⟨l0,m0,rep0⟩:=aBO (c:=FD) (ok:=zF) Tryz.underlying24 JP (hval 0 24 v0 rfl rfl) h0 (OV hsz (j:=0) (t:=24) rfl rfl);obtain⟨a1,len1,cap1,rfl⟩:=okWide_slice Tryz.underlying25 (hval 1 25 v1 rfl rfl);have k1:=h1;have lt1:∀ x∈p1,x.block<W.heap.size:=by obtain ⟨m,hm⟩:=k1; exact DataW.trod_lt m _ _ _ hm
  obtain⟨l1,m1,rep1,b1,z1⟩:=UN (en:=aE) (ok:=sU) Tryz.underlying25 (by decide +kernel) (fun _=>by kernel_rfl) (fun _=>rfl) DE h1 (OV hsz (j:=1) (t:=25) rfl rfl);have y1:=ZI hsz (j:=1) (t:=25) rfl rfl Tryz.underlying25 z1;rw [show Tryz.prog.bytesOf 47=40 from by kernel_rfl,show reachBytes=140737488351232 from by kernel_rfl] at y1;obtain⟨a2,len2,cap2,rfl⟩:=okWide_slice Tryz.underlying25 (hval 2 25 v2 rfl rfl);have k2:=h2;have lt2:∀ x∈p2,x.block<W.heap.size:=by obtain ⟨m,hm⟩:=k2; exact DataW.trod_lt m _ _ _ hm
  obtain⟨l2,m2,rep2,b2,z2⟩:=UN (en:=aE) (ok:=sU) Tryz.underlying25 (by decide +kernel) (fun _=>by kernel_rfl) (fun _=>rfl) DE h2 (OV hsz (j:=2) (t:=25) rfl rfl);have y2:=ZI hsz (j:=2) (t:=25) rfl rfl Tryz.underlying25 z2;rw [show Tryz.prog.bytesOf 47=40 from by kernel_rfl,show reachBytes=140737488351232 from by kernel_rfl] at y2;obtain⟨a3,rfl,rfl,rfl,w3⟩:=open_int Tryz.underlying3 (hval 3 3 v3 rfl rfl) h3;clear hA0 aFb hsz0 hsz;refine (aFr (b:=.bool true) (vs:=[_,_,_,_]) (HQ l0 l1 l2 a3 true (KB l0 m0 l1 m1 y1 l2 m2 y2 a3 (aBt w3))) ⟨rep0,rep1,rep2,(.lit _ rfl),trivial⟩).mono fun e W' ⟨he,bel⟩=>?_;subst he;exact⟨_,rfl,_,_,_,[],_,[],hW',trodAll_mk1 (shut_bool Tryz.underlying4 _),(trodAll_cons_mk (Below.trod laidOut (by kernel_rfl) (of_decide_eq_true (by kernel_rfl)) k0 bel lt0) (trodAll_cons_mk (Below.trod laidOut (by kernel_rfl) (of_decide_eq_true (by kernel_rfl)) k1 bel lt1) (trodAll_cons_mk (Below.trod laidOut (by kernel_rfl) (of_decide_eq_true (by kernel_rfl)) k2 bel lt2) (trodAll_cons_mk (shut_int Tryz.underlying3 w3) trodAll_mk0)))),rfl,bel.frame _,fun h=>by cases h⟩
theorem over:Rows.windowSettlesRow.holds Tryz.pinned (OpenSpec.ofChange Rows.windowSettlesSpec) :=
  OpenClaim.holds_of_wide 5 Tryz.f5 rfl rfl rfl rfl rfl rfl rfl ⟨rfl,rfl,rfl,rfl,rfl⟩ rfl rfl rfl rfl rfl (by kernel_rfl) Tryz.func5 (by kernel_rfl)
    (of_decide_eq_true (by kernel_rfl)) (by unfold Func.isWrapper; first | (rw [if_pos (by decide +kernel)]; kernel_rfl) | (rw [if_neg (by decide +kernel)]; exact ⟨rfl,rfl⟩))
    (fun os started H enc _=>lifted os started H enc)
theorem proved:Rows.WindowSettlesSaid:=over
end Go.Proofs.YteecjdpicjpnfabGreat.windowSettles
namespace Go.Proofs.YteecjdpicjpnfabGreat
theorem windowSettles_holds:Rows.WindowSettlesSaid:=windowSettles.proved
#print axioms windowSettles_holds
end Go.Proofs.YteecjdpicjpnfabGreat
