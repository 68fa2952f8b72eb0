/- What the law BagDoes stands on: the framework, the given functions as plain functions, their walks, and the plain laws; part 2. -/
import Derived.Test.YtapehjfhmhfaoaaGreatBagDoesZ1
set_option linter.unusedSimpArgs false
set_option linter.unusedVariables false
namespace Go.Abs
open Go IntKind Go.RowKit
variable {P:Program} {tt:TT} {ro:Option Nat} {N:Nat} {H:bA} {ds:List Nat}
variable {pl:Oper->Bool}
theorem aKs {ops:Array Oper} {oi oj:Oper} {T:PE} {next:PE->bA->Prop} (hap:oj.apart ops oi=true) (hki:ek pl oi=1) (hkj:clo pl ops oj=true) (hnj:qL oj.op=true)
  (h:OpD P tt N pl ops oj T H (fun T1 H1=>OpD P tt N pl ops oi T1 H1 next)):OpD P tt N pl ops oi T H (fun T1 H1=>OpD P tt N pl ops oj T1 H1 next):=by
 obtain⟨h1,h2,h3⟩:=Oper.apart_spec hap
 have hpj:∀ (T:PE),zI tt T oj.op=none:=by
  intro T;unfold qL at hnj;split at hnj
  ·rename_i he;rw [he];rfl
  ·cases hnj
 have hnj':tQ oj.op=false:=by
  unfold qL at hnj;split at hnj
  ·rename_i he;rw [he];rfl
  ·cases hnj
 have b5:oU oi.op=1:=by
  unfold ek at hki;split at hki
  ·cases hki
  ·exact hki
 obtain⟨hd,b,hb,g1,g2⟩:=h;have put:∀ x H',OpD P tt N pl ops oi (T.cF oj.dst x) H' next->OpD P tt N pl ops oi T H' (fun T' H'=>next (T'.cF oj.dst x) H'):=fun x H' hx=>(XY (fun e he=>h1 e he) (fun a ha hb=>h2 a ha hb)).1 hx
 cases b with
 | false =>
  refine TP (fun T' H' hx=>?_) (aDw (put _ _ (g2 rfl)));obtain⟨⟨y,rfl⟩,hx⟩:=hx;exact⟨hd,false,by rw [uT (fun e he=>h3 e he)];exact hb,fun h=>(by cases h),fun _=>hx⟩
 | true =>
  rcases g1 rfl with ⟨Cs,x,a1,_⟩ | ⟨hek,⟨hz,_⟩ | ⟨_,hc⟩⟩
  ·rw [hpj] at a1;cases a1
  ·rw [hkj] at hz;cases hz
  ·rcases hc with ⟨hk,_⟩ | ⟨_,x,hr,hn⟩
   ·rw [hnj'] at hk;cases hk
   have mk:∀ y,(∀ H5,fH H H5->next ((T.cF oi.dst y).cF oj.dst x) H5)->OpD P tt N pl ops oj (T.cF oi.dst y) H next:=fun y hx =>
    ⟨hd,true,by rw [uT (fun e he=>h3 e he)];exact hb,fun _=>.inr ⟨hek,.inr ⟨hkj,.inr ⟨hnj,x,fun H3 e3=>BY (BM (fun e he=>h3 e he)) (hr H3 e3),fun H5 e5=>hx H5 e5⟩⟩⟩,fun h=>(by cases h)⟩
   obtain⟨hdi,bi,hbi,i1,i2⟩:=put _ _ (hn H (fH.refl H))
   cases bi with
   | false =>
    refine⟨hdi,false,hbi,fun h=>(by cases h),fun _=>mk _ fun H5 e5=>?_⟩;obtain⟨_,b',hb',_,j2⟩:=put _ _ (hn H5 e5);rw [hbi] at hb';cases hb';exact j2 rfl
   | true =>
    have b7:∀ H5,fH H H5->(∃ Cs y,zI tt T oi.op=some (Cs,y)/\next ((T.cF oi.dst y).cF oj.dst x) H5)∨rO P tt (lift T) [] oi.op H5 (fun y H'=>H'=H5/\next ((T.cF oi.dst y).cF oj.dst x) H5):=by
     intro H5 e5;obtain⟨_,b',hb',j1,_⟩:=put _ _ (hn H5 e5);rw [hbi] at hb'; cases hb';rcases j1 rfl with ⟨Cs,y,a1,_,a3⟩ | ⟨_,⟨_,he⟩ | ⟨_,hc⟩⟩
     ·exact .inl ⟨Cs,y,a1,a3⟩
     ·obtain⟨y,hy,any⟩:=aA2 b5 he;exact .inr (any H5 _ (fH.refl H5) ⟨rfl,hy.2⟩)
     ·have:=hc.ek;rw [b5] at this;cases this
    rcases i1 rfl with ⟨Cs,y,a1,a2,a3⟩ | ⟨heki,⟨hz,he⟩ | ⟨_,hc⟩⟩
    ·refine⟨hdi,true,hbi,fun _=>.inl ⟨Cs,y,a1,a2,mk _ fun H5 e5=>?_⟩,fun h=>(by cases h)⟩;rcases b7 H5 e5 with ⟨Cs',y',b1,b3⟩ | b6
     ·rw [a1] at b1;cases b1;exact b3
     ·exact (aFS b5 a1 b6).elim
    ·obtain⟨y,hy,any⟩:=aA2 b5 he;refine⟨hdi,true,hbi,fun _=>.inr ⟨heki,.inl ⟨hz,any H _ (fH.refl H) ⟨fun _=>fH.refl H,mk _ fun H5 e5=>?_⟩⟩⟩,fun h=>(by cases h)⟩;rcases b7 H5 e5 with ⟨Cs',y',b1,b3⟩ | b6
     ·exact (aFS b5 b1 he).elim
     ·have b8:=any H (fun z _=>z=y) (fH.refl H) rfl;obtain⟨z,rfl,_,b9⟩:=aI9 b5 b8 b6 e5;exact b9
    ·have:=hc.ek;rw [b5] at this;cases this
def UQ (pl:Oper->Bool)(ops:Array Oper)(oj oi:Oper):Bool :=
 oj.apart ops oi&&(Nat.beq (ek pl oi) 0||Nat.beq (ek pl oj) 0||(Nat.beq (ek pl oi) 1&&Nat.beq (ek pl oj) 1)||((quiet pl oi||clo pl ops oi)&&Nat.beq (ek pl oj) 1)||(clo pl ops oi&&tQ oi.op&&clo pl ops oj&&qL oj.op)||(Nat.beq (ek pl oi) 1&&clo pl ops oj&&qL oj.op))
theorem front {ops:Array Oper}{i:Nat}{oi:Oper}(hi:ops[i]?=some oi){rest:List Nat}{K:PE->bA->Prop} :
  ∀ (js:List Nat),(∀ j∈js,∀ oj,ops[j]?=some oj->UQ pl ops oj oi=true) -> ∀ (T:PE) (H:bA),(ek pl oi=0->xZ tt N ops oi T) ->
   RD P tt N pl ops (js++i::rest) T H K->RD P tt N pl ops (i::(js++rest)) T H K:=by
 intro js
 induction js with
 | nil=>intro _ T H _ h; exact h
 | cons j js ih =>
  intro hj T H hK h;obtain⟨oj,ho,h⟩:=h;have hp:=hj j (List.mem_cons_self ..) oj ho;simp only [UQ,Bool.and_eq_true,Bool.or_eq_true] at hp;obtain⟨hap,hkinds⟩:=hp;obtain⟨h1,h2,h3⟩:=Oper.apart_spec hap
  have h':OpD P tt N pl ops oj T H (fun T1 H1=>OpD P tt N pl ops oi T1 H1 (fun T2 H2=>RD P tt N pl ops (js++rest) T2 H2 K)):=by
   refine TP ?_ (aDw h);rintro T1 H1 ⟨⟨x,rfl⟩,hr⟩;obtain⟨o',ho',hr'⟩:=ih (fun k hk=>hj k (List.mem_cons_of_mem _ hk)) _ H1 (fun hk=>(xZ.put (fun e he=>h1 e he)).2 (hK hk)) hr;rw [hi] at ho';cases ho';exact hr'
  refine⟨oi,hi,?_⟩
  have fin:OpD P tt N pl ops oi T H (fun T1 H1=>OpD P tt N pl ops oj T1 H1 (fun T2 H2=>RD P tt N pl ops (js++rest) T2 H2 K)):=by
   rcases hkinds with ((((hk | hk) | ⟨b5,hk2⟩) | ⟨b5,hk2⟩) | ⟨⟨⟨b5,hk2⟩,b6⟩,b7⟩) | ⟨⟨b5,hk2⟩,b6⟩
   ·have hk:=Nat.eq_of_beq_eq_true hk;exact aJO hap hk (hK hk) h'
   ·exact aK7 hap (Nat.eq_of_beq_eq_true hk) h'
   ·exact aI2 hap (Nat.eq_of_beq_eq_true b5) (Nat.eq_of_beq_eq_true hk2) h'
   ·exact aIG hap b5 (Nat.eq_of_beq_eq_true hk2) h'
   ·exact aLw hap b5 hk2 b6 b7 h'
   ·exact aKs hap (Nat.eq_of_beq_eq_true b5) hk2 b6 h'
  exact TP (fun T1 H1 hx=>⟨oj,ho,hx⟩) fin
theorem aLU (htt:jO P tt){ops:Array Oper}{i:Nat}{oi:Oper}(hi:ops[i]?=some oi)(hk:ek pl oi=0){rest:List Nat}{K:PE->bA->Prop} :
  ∀ (js:List Nat),(∀ j∈js,∀ oj,ops[j]?=some oj->UQ pl ops oj oi=true) -> ∀ (T:PE) (H:bA) (g:Gh) (w:World) (a:Act),Good N g w (lift T) H ds a ->
   RD P tt N pl ops (js++i::rest) T H K->xZ tt N ops oi T:=by
 intro js
 induction js with
 | nil =>
  rintro _ T H g w a _ ⟨o,ho,h⟩;rw [hi] at ho;cases ho;exact OpD.known hk h
 | cons j js ih =>
  rintro hj T H g w a hg ⟨oj,ho,h⟩;have hp:=hj j (List.mem_cons_self ..) oj ho;simp only [UQ,Bool.and_eq_true] at hp;obtain⟨h1,h2,h3⟩:=Oper.apart_spec hp.1;obtain⟨T1,H1,g1,w1,a1,⟨⟨x,rfl⟩,hr⟩,b5⟩:=aFl htt ho (aDw h) hg;exact (xZ.put (fun e he=>h1 e he)).1 (ih (fun k hk'=>hj k (List.mem_cons_of_mem _ hk')) _ H1 g1 w1 a1 b5 hr)
def reach (ops:Array Oper):Nat->Nat->Nat->Bool
 | 0,_,_=>false
 | n+1,i,j=>match ops[i]? with
  | some o=>(o.after.any fun e=>Region.binds .any e&&Nat.beq e.on j)||(o.after.any fun e=>Region.binds .any e&&(Nat.blt j e.on&&reach ops n e.on j))
  | none=>false
def aGD (pl:Oper->Bool)(ops:Array Oper):Bool :=
 (List.range ops.size).all fun i=>match ops[i]? with
  | some oi=>(oi.after.all fun e => !Region.binds .any e||Nat.blt e.on i)&&(List.range i).all fun j=>(match ops[j]? with
   | some oj=>UQ pl ops oj oi
   | none=>true)||reach ops ops.size i j
  | none=>true
theorem aAh {ops:Array Oper}{listed:Array Bool}(hcl:∀ (k:Nat) o,ops[k]?=some o->listed.getD k false=true -> ∀ e∈o.after,Region.binds .any e=true->listed.getD e.on false=true) :
  ∀ (n i j:Nat) o,ops[i]?=some o->(∀ e∈o.after,Region.binds .any e=true->listed.getD e.on false=true)->reach ops n i j=true->listed.getD j false=true
 | 0,i,j,o,_,_,h=>by simp [reach] at h
 | n+1,i,j,o,ho,hl,h=>by
  simp only [reach,ho] at h;rw [Bool.or_eq_true] at h;rcases h with h | h
  ·obtain⟨e,he,hb⟩:=Array.any_eq_true'.1 h;simp only [Bool.and_eq_true] at hb;rw [←Nat.eq_of_beq_eq_true hb.2];exact hl e he hb.1
  ·obtain⟨e,he,hb⟩:=Array.any_eq_true'.1 h;simp only [Bool.and_eq_true] at hb;have hon:=hl e he hb.1;have h1:=hb.2.2
   cases hoe:ops[e.on]? with
   | none=>cases n <;> simp [reach,hoe] at h1
   | some o'=>exact aAh hcl n e.on j o' hoe (hcl _ o' hoe hon) h1
structure Left (ops:Array Oper) (listed:Array Bool) (L:List Nat):Prop where
 size:listed.size=ops.size
 mem:∀ i,i∈L↔(i<ops.size/\listed.getD i false=false)
 sorted:L.Pairwise (· < ·)
 closed:∀ (k:Nat) o,ops[k]?=some o->listed.getD k false=true -> ∀ e∈o.after,Region.binds .any e=true->listed.getD e.on false=true
theorem aKl (htt:jO P tt){ops:Array Oper}(hok:aGD pl ops=true){K:PE->bA->Prop}{R:Exit->Act->World->Prop} :
  ∀ (fuel:Nat) (L:List Nat) (listed:Array Bool),L.length=fuel->Left ops listed L -> ∀ (T:PE) (H:bA) (g:Gh) (w:World) (a:Act),Good N g w (lift T) H ds a->RD P tt N pl ops L T H K ->
   (∀ T' H' g' w' a',K T' H'->Good N g' w' (lift T') H' ds a'->Ext g w g' w'->R .normal a' w')->wpAnyIn (FR ro) 0 P .any ops R fuel listed a w:=by
 have hpair:∀ (i j:Nat) oi oj,ops[i]?=some oi->ops[j]?=some oj->j<i->reach ops ops.size i j=false->UQ pl ops oj oi=true:=by
  intro i j oi oj hi hj hlt hr;have:=List.all_eq_true.1 hok i (List.mem_range.2 (Array.getElem?_eq_some_iff.1 hi).1);simp only [hi,Bool.and_eq_true] at this;have h2:=List.all_eq_true.1 this.2 j (List.mem_range.2 hlt)
  simpa [hr,hj] using h2
 have hafter:∀ (i:Nat) oi,ops[i]?=some oi -> ∀ e∈oi.after,Region.binds .any e=true->e.on<i:=by
  intro i oi hi e he hb;have:=List.all_eq_true.1 hok i (List.mem_range.2 (Array.getElem?_eq_some_iff.1 hi).1);simp only [hi,Bool.and_eq_true] at this;have h2:=Array.all_eq_true_iff_forall_mem.1 this.1 e he;simp only [hb,Bool.not_true,Bool.false_or] at h2;exact Nat.le_of_ble_eq_true h2
 intro fuel
 induction fuel with
 | zero =>
  intro L listed hL hleft T H g w a hg h hr;have : L=[]:=List.length_eq_zero_iff.1 hL;subst this;refine⟨?_,hr T H g w a h hg (Ext.refl g w)⟩;rw [List.eq_nil_iff_forall_not_mem];intro i hi;obtain⟨h0,o,ho,_⟩:=mem_ready.1 hi;have hlt:=(Array.getElem?_eq_some_iff.1 ho).1
  have : i∈([]:List Nat):=(hleft.mem i).2 ⟨hlt,by
   rw [Array.getD_eq_getD_getElem?] at h0 ⊢;rw [Array.getElem?_eq_getElem (by rw [hleft.size];exact hlt)] at h0 ⊢
   simpa using h0⟩
  cases this
 | succ fuel ih =>
  intro L listed hL hleft T H g w a hg h hr;refine⟨fun hnil=>?_,fun i hi=>?_⟩
  ·-- the least that is left is ready
   cases L with
   | nil=>simp at hL
   | cons i L =>
    exfalso
    obtain⟨hlt,hun⟩:=(hleft.mem i).1 (List.mem_cons_self ..)
    have hri:i∈Region.ready .any ops listed:=by
     refine mem_ready.2 ⟨?_,ops[i],Array.getElem?_eq_getElem hlt,fun e he hb=>?_⟩
     ·rw [Array.getD_eq_getD_getElem?] at hun ⊢;rw [Array.getElem?_eq_getElem (by rw [hleft.size];exact hlt)] at hun ⊢
      simpa using hun
     ·have hlt':=hafter i _ (Array.getElem?_eq_getElem hlt) e he hb
      cases hx:listed.getD e.on false with
      | true=>rfl
      | false =>
       have hm:=(hleft.mem e.on).2 ⟨by omega,hx⟩;rcases List.mem_cons.1 hm with he' | hm'
       ·omega
       ·have:=(List.pairwise_cons.1 hleft.sorted).1 _ hm';omega
    rw [hnil] at hri;cases hri
  ·obtain⟨h0,oi,hoi,hall⟩:=mem_ready.1 hi;have hlt:=(Array.getElem?_eq_some_iff.1 hoi).1
   have hun:listed.getD i false=false:=by
    rw [Array.getD_eq_getD_getElem?] at h0 ⊢;rw [Array.getElem?_eq_getElem (by rw [hleft.size];exact hlt)] at h0 ⊢
    simpa using h0
   obtain⟨js,rest,rfl⟩:=List.append_of_mem ((hleft.mem i).2 ⟨hlt,hun⟩);have hsorted:=hleft.sorted;rw [List.pairwise_append] at hsorted;obtain⟨b7,b6,b5⟩:=hsorted
   have hjs:∀ j∈js,∀ oj,ops[j]?=some oj->UQ pl ops oj oi=true:=by
    intro j hj oj hoj;have hji:j<i:=b5 j hj i (List.mem_cons_self ..);refine hpair i j oi oj hoi hoj hji ?_
    cases hre:reach ops ops.size i j with
    | false=>rfl
    | true =>
     have hl:=aAh hleft.closed _ i j oi hoi hall hre;have:=((hleft.mem j).1 (List.mem_append_left _ hj)).2;rw [hl] at this;cases this
   obtain⟨o',ho',hstep⟩:=front hoi js hjs T H (fun hk=>aLU htt hoi hk js hjs T H g w a hg h) h;rw [hoi] at ho';cases ho';refine aAM htt hoi hstep hg ?_;intro T1 H1 g1 w1 a1 hn b8 hx1;refine ih (js++rest) (listed.setIfInBounds i true) (by simp at hL ⊢;omega) ?_ T1 H1 g1 w1 a1 b8 hn (fun T' H' g' w' a' hk hg' hx'=>hr T' H' g' w' a' hk hg' (hx1.trans hx'))
   have hge:∀ k,(listed.setIfInBounds i true).getD k false=if k=i then true else listed.getD k false:=by
    intro k;by_cases hki:k=i
    ·subst hki;rw [if_pos rfl,Array.getD_eq_getD_getElem?,Array.getElem?_setIfInBounds];simp [hleft.size,hlt]
    ·rw [if_neg hki];exact getD_set_ne false (Ne.symm hki)
   refine⟨by simp [hleft.size],fun k=>?_,?_,fun k o ho hk e he hb=>?_⟩
   ·rw [hge];have hm:=hleft.mem k;have hni:i ∉ js:=fun hc=>by have:=b5 i hc i (List.mem_cons_self ..);omega
    have hni':i ∉ rest:=fun hc=>by have:=(List.pairwise_cons.1 b6).1 i hc;omega
    simp only [List.mem_append,List.mem_cons] at hm ⊢;by_cases hki:k=i
    ·subst hki;simp [hni,hni']
    ·rw [if_neg hki];rw [←hm];simp [hki]
   ·rw [List.pairwise_append];exact⟨b7,(List.pairwise_cons.1 b6).2,fun x hx y hy=>b5 x hx y (List.mem_cons_of_mem _ hy)⟩
   ·rw [hge] at hk ⊢;split
    ·rfl
    ·split at hk
     ·rename_i hne hki
      subst hki;rw [hoi] at ho;cases ho;exact hall e he hb
     ·exact hleft.closed k o ho hk e he hb
theorem RE (n i:Nat):(Array.replicate n false).getD i false=false:=by
 rw [Array.getD_eq_getD_getElem?];by_cases h:i<n
 ·rw [Array.getElem?_eq_getElem (by simpa using h)];simp
 ·rw [Array.getElem?_eq_none (by simpa using h)];rfl
def fC (l:List Nat)(o:Oper):Bool:=match o.dst with
 | some d=>l.any (Nat.beq d)
 | none=>false
theorem aOa (htt:jO P tt) (hm:P.follows .mixedOrders=true) {c:Code} {n:Nat} {l:List (Nat×V)} {Q:Exit->Env->bA->List Nat->Prop} (hk:c.kind=8) (hn:c.ops.size=n) (hok:aGD pl c.ops=true)
  (h:RD P tt N pl c.ops (aP 0 n) (PE.ofL l) H (fun T' H'=>Q .normal (lift T') H' ds)):AWP P ro N c (Env.ofL l) H ds Q:=by
 cases c with
 | region id ops draw =>
  cases draw with
  | true =>
   intro g w a R hg hr;simp only [Code.ops] at hn h hok;refine wpIn_region_any hm ?_;have b5:Good N g w (lift (PE.ofL l)) H ds a:=by rw [aGs];exact hg
   obtain⟨d1,d2⟩:=b5.sr.drew
   refine aKl (ro:=ro) htt hok ops.size (aP 0 n) (Array.replicate ops.size false) (by simp [aP,hn]) ?_ (PE.ofL l) H g _ a (b5.step d2 d1 (b5.tr.ext d2) rfl rfl) h
    (fun T' H' g' w' a' hk hg' hx=>hr _ _ _ _ _ _ _ hk hg' (d2.trans hx))
   refine⟨by simp,fun i=>?_,by simpa [aP] using List.pairwise_lt_range' ..,fun k o ho hk=>?_⟩
   ·simp only [aP,List.mem_range',hn];constructor
    ·rintro ⟨j,hj,rfl⟩;exact⟨by omega,RE _ _⟩
    ·rintro ⟨h1,_⟩;exact⟨i,by omega,by omega⟩
   ·rw [RE] at hk;cases hk
  | false=>simp [Code.kind] at hk
 | _=>simp [Code.kind] at hk
end Go.Abs
namespace Go.Abs
open Go IntKind Go.RowKit
variable {P:Program} {tt:TT} {ro:Option Nat} {N:Nat} {T:Env} {H:bA} {ds:List Nat} {Q:Exit->Env->bA->List Nat->Prop}
def dF (x x':V):Prop:=∀ g w v,Rep g w x v->Rep g w x' v
theorem dF.refl (x:V):dF x x:=fun _ _ _ h=>h
theorem aKA {z:Bool}{el el':Nat->V}:dF (.sl z 0 el) (.sl false 0 el'):=fun _ _ _ h=>by
 obtain⟨a,cap,rfl,_,_⟩:=h.slE;exact .sl0 _ _ _ _ (by simp)
def vQ:List V->List V->Prop
 | [],[]=>True
 | x::r,y::s=>dF x y/\vQ r s
 | _,_=>False
theorem vQ.refl:∀ l:List V,vQ l l
 | []=>trivial
 | x::r=>⟨dF.refl x,vQ.refl r⟩
theorem vQ.len:∀ {l m:List V},vQ l m->l.length=m.length
 | [],[],_=>rfl
 | _::r,_::s,h=>by simp [vQ.len h.2]
 | [],_::_,h=>h.elim
 | _::_,[],h=>h.elim
theorem vQ.get:∀ {l m:List V},vQ l m -> ∀ (i:Nat) x y,l[i]?=some x->m[i]?=some y->dF x y
 | [],[],_,i,x,y,hx,_=>by simp at hx
 | a::r,b::s,h,i,x,y,hx,hy=>by
  cases i with
  | zero=>simp at hx hy; subst hx; subst hy; exact h.1
  | succ i=>simp at hx hy; exact vQ.get h.2 i x y hx hy
 | [],_::_,h,_,_,_,_,_=>h.elim
 | _::_,[],h,_,_,_,_,_=>h.elim
theorem RW {xs ys:List V}(h:vQ xs ys):dF (.agg xs) (.agg ys):=fun g w v hr=>by
 obtain⟨vs,rfl,h1,h2,h3⟩:=hr.XJ;refine IN.rep ⟨by rw [←h.len];exact h1,fun i x y hx hy=>?_,h3⟩;have hlt:i<xs.length:=by rw [h.len];exact (List.getElem?_eq_some_iff.1 hx).1
 exact h.get i _ _ (List.getElem?_eq_getElem hlt) hx g w y (h2 i _ y (List.getElem?_eq_getElem hlt) hy)
theorem dF.eq {x y:V}(h:x=y):dF x y:=by subst h;exact dF.refl x
theorem aCe {t:Nat}{c:Ctx}{x:V}:∀ {l l':List (Nat×V)},l.map (·.1)=l'.map (·.1)->vQ (l.map (·.2)) (l'.map (·.2))->Env.ofL l' t=some (c,x)->c=[] /\ ∃ x0,Env.ofL l t=some ([],x0)/\dF x0 x
 | [],[],_,_,h=>by simp [Env.ofL] at h
 | [],_::_,hk,_,_=>by simp at hk
 | _::_,[],hk,_,_=>by simp at hk
 | p::r,q::s,hk,hs,h=>by
  simp only [List.map_cons,List.cons.injEq] at hk hs;simp only [Env.ofL] at h ⊢;rw [hk.1]
  cases hb:Nat.beq t q.1 with
  | true =>
   rw [hb] at h;simp at h;obtain ⟨rfl,rfl⟩:=h;exact⟨rfl,p.2,rfl,hs.1⟩
  | false =>
   rw [hb] at h;exact aCe hk.2 hs.2 h
theorem aNC {c:Code}(l l':List (Nat×V))(hk:l.map (·.1)=l'.map (·.1))(hs:vQ (l.map (·.2)) (l'.map (·.2)))(next:AWP P ro N c (Env.ofL l') H ds Q):AWP P ro N c (Env.ofL l) H ds Q:=by
 intro g w a R hg hr;refine next g w a R ⟨hg.sr,?_,hg.df,hg.dl,hg.sz⟩ hr;intro t c' x ht;obtain⟨rfl,x0,h0,hsub⟩:=aCe hk hs ht;obtain⟨v,hv,hrep⟩:=(hg.tr t [] x0 h0).1 (by simp [eJ]);exact⟨fun _=>⟨v,hv,hsub g w v hrep⟩,fun h=>absurd (by simp [eJ]) h⟩
def eL {α:Type}[Inhabited α](e:α->V)(l:List α):V:=.sl false l.length (fun i=>e (l.getD i default))
def cD (k:IntKind)(n:Int):V:=.lit (.int k n)
def aL (b:Bool):V:=.lit (.bool b)
def tG (s:ByteArray):V:=.lit (.string s)
theorem dN {α:Type}[Inhabited α]{e:α->V}{z:Bool}{el:Nat->V}:dF (.sl z 0 el) (eL e []):=aKA
theorem Rep.aBl {g:Gh}{w:World}{z:Bool}{n:Nat}{el el':Nat->V}{v:Value}(h:Rep g w (.sl z n el) v)(he:∀ i,i<n->el i=el' i):Rep g w (.sl z n el') v:=by
 cases h with
 | sl0 z el a cap hz=>exact .sl0 z el' a cap hz
 | sl n el b o k cap c h1 h2 h3 h4 h5 h6=>exact .sl n el' b o k cap c (fun i hi=>he i hi ▸ h1 i hi) h2 h3 h4 h5 (fun i hi=>he i hi ▸ h6 i hi)
theorem aJe {n n':Nat}{el el':Nat->V}(hn:n=n')(he:∀ i,i<n->el i=el' i):dF (.sl false n el) (.sl false n' el'):=by
 subst hn;exact fun g w v h=>h.aBl he
theorem aIq {α:Type}[Inhabited α]{e:α->V}{l:List α}{a:Nat}:dF (.sl false (l.length-a) (fun i=>e (l.getD (a+i) default))) (eL e (l.drop a)) :=
 aJe (by simp) (fun i hi=>by simp [List.getD_eq_getElem?_getD,List.getElem?_drop])
theorem aM3 {α:Type}[Inhabited α]{e:α->V}{l:List α}{b:Nat}(hb:b<=l.length):dF (.sl false b (fun i=>e (l.getD i default))) (eL e (l.take b)) :=
 aJe (by simp;omega) (fun i hi=>by simp [List.getD_eq_getElem?_getD,List.getElem?_take,hi])
theorem fH.push {H H':bA}(h:fH H H')(o:fD):fH H (H'++[o]):=⟨by simp;have:=h.1;omega,fun l hl=>by rw [List.getElem?_append_left (Nat.lt_of_lt_of_le hl h.1)];exact h.2 l hl⟩
theorem aJB (H:bA)(o:fD):(H++[o])[H.length]?=some o:=by simp
theorem yQ {H:bA}{l:Nat}{o o':fD}(h:H[l]?=some o):(H++[o'])[l]?=some o:=by
 rw [List.getElem?_append_left (List.getElem?_eq_some_iff.1 h).1];exact h
theorem XV {t:Nat}{x:V}:∀ {l:List (Nat×V)} {i:Nat} {old:V} {u:Nat} {c:Ctx} {y:V},l[i]?=some (t,old)->Env.ofL (l.set i (t,x)) u=some (c,y) ->
  Env.ofL l u=some (c,y)∨(c=[]/\y=x/\Env.ofL l u=some ([],old))
 | [],i,old,u,c,y,h,_=>by simp at h
 | p::r,0,old,u,c,y,h,hu=>by
  simp at h;subst h;simp only [List.set_cons_zero,Env.ofL] at hu ⊢
  cases hb:Nat.beq u t with
  | true=>rw [hb] at hu; simp at hu; exact .inr ⟨hu.1,hu.2.symm,rfl⟩
  | false=>rw [hb] at hu; exact .inl hu
 | p::r,i+1,old,u,c,y,h,hu=>by
  simp only [List.set_cons_succ,Env.ofL] at hu ⊢
  cases hb:Nat.beq u p.1 with
  | true=>rw [hb] at hu; exact .inl hu
  | false=>rw [hb] at hu; exact XV (by simpa using h) hu
theorem aOt {c:Code}{l:List (Nat×V)}(i:Nat){t k:Nat}{el:Nat->V}(hi:l[i]?=some (t,.sl true 0 el))(next:AWP P ro N c (Env.ofL (l.set i (t,.msl k H.length 0 0))) (H++[.vec k []]) ds Q) :
  AWP P ro N c (Env.ofL l) H ds Q:=by
 intro g w a R hg hr;have hm:=hg.sr.more (b:=w.heap.size) (o:=0) (k:=k) (cap:=0) (xs:=[]) (by simp) (by simp) (fun _=>undef) (by simp) (by simp) (fun _ _ _ _ _ _ _ hj=>by simp at hj);have hx:Ext g w (g.more w.heap.size 0 k 0) w:=(Ext.refl g w).more (.inl (Nat.le_refl _));refine next _ w a R (hg.step hx hm ?_ rfl rfl) (fun e T' H' ds' g' w' a' q hg' hx'=>hr e T' H' ds' g' w' a' q hg' (hx.trans hx'));have htr:=hg.tr.ext hx;intro u c' x hu;rcases XV hi hu with h | ⟨rfl,rfl,h⟩
 ·exact htr u c' x h
 ·obtain⟨v,hv,hrep⟩:=(hg.tr u [] _ h).1 (by simp [eJ]);obtain⟨a0,cap,rfl,hn,hz⟩:=hrep.slE;have hc0:=hz rfl;subst hc0;refine⟨fun _=>⟨_,hv,?_⟩,fun hnc=>absurd (by simp [eJ]) hnc⟩;have:=Rep.msl0 (g:=g.more w.heap.size 0 k 0) (w:=w) g.n 0 a0 (Nat.lt_succ_self _) (by simp [Gh.more,gU]);rw [hg.sr.len]
  simpa [Gh.more,gU] using this
theorem pO.sub {f:FuncId}{as0 as0':List V}{H:bA}{Q:V->bA->Prop}(h:pO P f as0' H Q)(hs:vQ as0 as0'):pO P f as0 H Q :=
 ⟨h.1,fun g w vs h1 h2 h3=>h.2 g w vs h1 (by rw [←hs.len];exact h2) (fun i x y hx hy=>by
  have hlt:i<as0.length:=by rw [hs.len];exact (List.getElem?_eq_some_iff.1 hx).1
  exact hs.get i _ _ (List.getElem?_eq_getElem hlt) hx g w y (h3 i _ y (List.getElem?_eq_getElem hlt) hy))⟩
theorem pO.post {f:FuncId}{as0:List V}{H:bA}{Q Q':V->bA->Prop}(h:pO P f as0 H Q)(hq:∀ r H',Q r H' -> ∃ r',dF r r'/\Q' r' H'):pO P f as0 H Q' :=
 ⟨h.1,fun g w vs h1 h2 h3=>(h.2 g w vs h1 h2 h3).mono fun _ _ ⟨v,r,g',H',a,b,c,d,e⟩=>let ⟨r',hs,hq'⟩:=hq r H' e;⟨v,r',g',H',a,hs _ _ _ b,c,d,hq'⟩⟩
def iter {S R:Type}(body:S->Option (S⊕R)):Nat->S->Option R
 | 0,_=>none
 | k+1,s=>match body s with
  | some (.inl s')=>iter body k s'
  | some (.inr r)=>some r
  | none=>none
open Classical in
noncomputable def lp {S R:Type}(body:S->Option (S⊕R))(s:S):Option R :=
 if h:∃ k r,iter body k s=some r then iter body (Classical.choose h) s else none
theorem aAY {S R:Type}{body:S->Option (S⊕R)}:∀ {k:Nat} {s:S} {r:R},iter body k s=some r -> ∀ m,iter body (k+m) s=some r
 | 0,s,r,h,_=>by simp [iter] at h
 | k+1,s,r,h,m=>by
  rw [show k+1+m=(k+m)+1 by omega];simp only [iter] at h ⊢;split at h
  ·exact aAY h m
  ·exact h
  ·exact h
theorem aHA {S R:Type}{body:S->Option (S⊕R)}{k k':Nat}{s:S}{r r':R}(h:iter body k s=some r)(h':iter body k' s=some r'):r=r':=by
 have h1:=aAY h k';have h2:=aAY h' k;rw [Nat.add_comm] at h2;rw [h1] at h2;exact Option.some.inj h2
theorem MK {S R:Type}{body:S->Option (S⊕R)}{s:S}{r:R}:lp body s=some r ↔ ∃ k,iter body k s=some r:=by
 unfold lp;constructor
 ·intro h;split at h
  ·exact⟨_,h⟩
  ·cases h
 ·rintro ⟨k,hk⟩;have hex:∃ k r,iter body k s=some r:=⟨k,r,hk⟩;rw [dif_pos hex];obtain⟨r',hr'⟩:=Classical.choose_spec hex;rw [hr',aHA hk hr']
theorem fA {S R:Type}{body:S->Option (S⊕R)}{s s':S}(h:body s=some (.inl s')):lp body s=lp body s':=by
 apply Option.ext;intro r;simp only [MK];constructor
 ·rintro ⟨k,hk⟩
  cases k with
  | zero=>simp [iter] at hk
  | succ k=>exact ⟨k,by simpa [iter,h] using hk⟩
 ·rintro ⟨k,hk⟩;exact⟨k+1,by simpa [iter,h] using hk⟩
theorem cY {S R:Type}{body:S->Option (S⊕R)}{s:S}{r:R}(h:body s=some (.inr r)):lp body s=some r :=
 MK.2 ⟨1,by simp [iter,h]⟩
theorem aJ1 {S R:Type}{body:S->Option (S⊕R)}{k:Nat}{s:S}{r:R}(h:iter body k s=some r) :
  ∃ k',k=k'+1/\((∃ s',body s=some (.inl s')/\iter body k' s'=some r)∨body s=some (.inr r)):=by
 cases k with
 | zero=>simp [iter] at h
 | succ k =>
  refine⟨k,rfl,?_⟩;simp only [iter] at h;split at h
  ·rename_i s' hs;exact .inl ⟨s',hs,h⟩
  ·rename_i r' hr;simp at h;subst h;exact .inr hr
  ·cases h
def aIY {S R:Type}(body:S->Option (S⊕R))(k:Nat)(r:R):S⊕R->Prop
 | .inl s=>iter body k s=some r
 | .inr r'=>r'=r
theorem aKP {S R:Type}{body:S->Option (S⊕R)}{k:Nat}{s:S}{r:R}(h:iter body k s=some r):∃ k' out,k=k'+1/\body s=some out/\aIY body k' r out:=by
 obtain⟨k',rfl,⟨s',h1,h2⟩ | h1⟩:=aJ1 h
 ·exact⟨k',_,rfl,h1,h2⟩
 ·exact⟨k',_,rfl,h1,rfl⟩
theorem aNQ {c:Code}(hk:c.kind=1)(J:Env->bA->Prop)(hJ:∀ T H,J T H->AWP P ro N c.r T H ds Q)(h:AWP P ro N c.l T H ds (AA (fun T H ds'=>ds'=ds/\J T H) Q)):AWP P ro N c T H ds Q:=by
 refine aE6 hk (h.mono ?_);intro e T H ds' hq
 cases e with
 | normal=>obtain ⟨rfl,hq⟩:=hq; exact hJ T H hq
 | _=>exact hq
theorem aM9 {c:Code} {S R:Type} {body:S->Option (S⊕R)} {s:S} {r:R} (hk:c.kind=4) (I:S->Env->bA->Prop) (hl:lp body s=some r) (h0:I s T H)
  (round:∀ k s out T H,I s T H->body s=some out->aIY body k r out->AWP P ro N c.b T H ds (AA (fun T' H' ds'=>ds'=ds /\ ∃ s',out=.inl s'/\I s' T' H') Q)):AWP P ro N c T H ds Q:=by
 obtain⟨k,b5⟩:=MK.1 hl;refine aKp hk (fun k T H ds'=>ds'=ds /\ ∃ s,I s T H/\iter body k s=some r) (k:=k) ⟨rfl,s,h0,b5⟩ ?_;rintro k T H _ ⟨rfl,s,hI,hit⟩;obtain⟨k',out,rfl,hb,ho⟩:=aKP hit;refine (round k' s out T H hI hb ho).mono ?_;intro e T' H' ds' hq
 cases e with
 | normal =>
  obtain⟨rfl,s',rfl,hI'⟩:=hq;exact⟨k',Nat.lt_succ_self _,rfl,s',hI',ho⟩
 | _=>exact hq
theorem oO {fn:Func}{Q:V->bA->Prop}{x x':V}(hx:SF fn T=some x)(hs:dF x x')(hq:Q x' H):WY fn (fun r H=>∃ r',dF r r'/\Q r' H) .ret T H [] :=
 ⟨rfl,x,hx,x',hs,hq⟩
theorem QG {fn:Func}{Q:V->bA->Prop}{x x':V}(hx:SF fn T=some x)(hs:dF x x')(hq:Q x' H):WY fn (fun r H=>∃ r',dF r r'/\Q r' H) .normal T H [] :=
 ⟨rfl,x,hx,x',hs,hq⟩
theorem aNU {f:Nat} {fn:Func} {args:List V} {Q:V->bA->Prop} (hf:P.funcs[f]?=some fn) (hb:fn.body.isSome=true) (hname:(fn.name == "runtime.NumGoroutine")=false) (b5:Nat.ble args.length fn.ntmps=true)
  (h:AWP P none fn.ntmps (B fn) (Env.ofL (params 0 args)) H [] (WY fn (fun r H=>∃ r',dF r r'/\Q r' H))):pO P f args H Q :=
 (aM5 hf hb hname b5 h).post fun _ _ h=>h
def cW (P:Program)(f:FuncId)(args:List V)(r:V):Prop:=∀ H,pO P f args H fun x H'=>x=r/\fH H H'
def QN (tt:TT)(N:Nat)(ops:Array Oper):List Nat->PE->Option (List Prop)
 | [],_=>some []
 | i::is,T=>match ops[i]? with
  | none=>none
  | some o=>match dOk N o,uG ops T o with
   | true,some true=>match zI tt T o.op with
    | some (Cs,x)=>match QN tt N ops is (T.cF o.dst x) with
     | some Ds=>some (Cs++Ds)
     | none=>none
    | none=>none
   | true,some false=>QN tt N ops is (T.cF o.dst .bad)
   | _,_=>none
def QE (tt:TT)(ops:Array Oper):List Nat->PE->PE
 | [],T=>T
 | i::is,T=>match ops[i]? with
  | none=>T
  | some o=>match uG ops T o with
   | some true=>match zI tt T o.op with
    | some (_,x)=>QE tt ops is (T.cF o.dst x)
    | none=>T
   | some false=>QE tt ops is (T.cF o.dst .bad)
   | none=>T
theorem aDm {pl:Oper->Bool}{ops:Array Oper}{K:PE->bA->Prop}:∀ {is js:List Nat} {T:PE} {Ds:List Prop},QN tt N ops is T=some Ds->zX Ds->RD P tt N pl ops js (QE tt ops is T) H K->RD P tt N pl ops (is++js) T H K
 | [],js,T,Ds,_,_,h=>h
 | i::is,js,T,Ds,hc,hD,h=>by
  simp only [QN] at hc;simp only [QE] at h;split at hc
  ·simp at hc
  ·rename_i o ho
   simp only [ho] at h;split at hc
   ·rename_i hd hg
    simp only [hg] at h;split at hc
    ·rename_i Cs x hp
     simp only [hp] at h;split at hc
     ·rename_i Ds' hDs
      simp at hc;subst hc;obtain⟨d1,d2⟩:=XU.1 hD;exact⟨o,ho,hd,true,hg,⟨fun _=>.inl ⟨Cs,x,hp,d1,aDm hDs d2 h⟩,fun h=>by simp at h⟩⟩
     ·simp at hc
    ·simp at hc
   ·rename_i hd hg
    simp only [hg] at h;exact⟨o,ho,hd,false,hg,⟨fun h=>by simp at h,fun _=>aDm hc hD h⟩⟩
   ·simp at hc
section drawn
variable {ops:Array Oper} {K:PE->bA->Prop} {i n:Nat} {T:PE} {pl:Oper->Bool}
theorem aKv (j:Nat) (hs:aP i n=aP i j++aP j n) {Ds:List Prop} (hc:QN tt N ops (aP i j) T=some Ds) (hD:zX Ds)
  (h:RD P tt N pl ops (aP j n) (QE tt ops (aP i j) T) H K):RD P tt N pl ops (aP i n) T H K:=by
 rw [hs];exact aDm hc hD h
theorem LL {Ds:List Prop}(hc:QN tt N ops (aP i n) T=some Ds)(hD:zX Ds)(h:K (QE tt ops (aP i n) T) H):RD P tt N pl ops (aP i n) T H K:=by
 have:=aDm (pl:=pl) (P:=P) (js:=[]) (H:=H) (K:=K) hc hD h
 rwa [List.append_nil] at this
theorem qC (hs:aP i n=[])(h:K T H):RD P tt N pl ops (aP i n) T H K:=by rw [hs];exact h
theorem rI {K':PE->bA->Prop}:∀ {is:List Nat} {T:PE} {H:bA},RD P tt N pl ops is T H K->(∀ T H,K T H->K' T H)->RD P tt N pl ops is T H K'
 | [],_,_,h,hk=>hk _ _ h
 | _::_,_,_,⟨o,ho,h⟩,hk=>⟨o,ho,TP (fun _ _ hr=>rI hr hk) h⟩
theorem aIg {is:List Nat}{t:Nat}{e b:Bool}(ht:T t=some (.lit (.bool e)))(he:e=b)(h:RD P tt N pl ops is (T.set t (.lit (.bool b))) H K):RD P tt N pl ops is T H K:=by
 subst he
 have : T.set t (.lit (.bool e))=T:=by
  funext u
  simp only [PE.set]
  cases hb:Nat.beq u t with
  | false=>rfl
  | true=>rw [Nat.eq_of_beq_eq_true hb,ht]
 rwa [this] at h
def vX (pl:Oper->Bool)(ops:Array Oper)(i:Nat):Bool:=match ops[i]? with
 | some o => !pl o
 | none=>true
theorem aMl {o:Oper}{T:PE}{ctx:Ctx}{K:V->bA->Prop}(hq:oU o.op=1->pl o=false)(he:rO P tt (lift T) ctx o.op H K):ek pl o≠0:=by
 intro hk;unfold ek at hk;split at hk
 ·rename_i hb
  simp only [Bool.and_eq_true] at hb;have:=hq (Nat.eq_of_beq_eq_true hb.2);rw [hb.1] at this
  cases this
 ·exact aKM hk he
def vK (pl:Oper->Bool)(ops:Array Oper)(i:Nat):Bool:=vX pl ops i || !aJt pl ops
theorem aIt {o:Oper}(ho:ops[i]?=some o)(h:vK pl ops i=true):clo pl ops o=false:=by
 unfold vK vX at h;simp only [ho,Bool.or_eq_true,Bool.not_eq_true'] at h;unfold clo;rcases h with h | h <;> simp [h]
theorem aEH {o:Oper}(h1:tQ o.op=false)(h2:qL o.op=false):clo pl ops o=false:=by
 unfold clo;simp [h1,h2]
theorem aL5 {op:Op}(h:NQ op=false):qL op=false:=by
 unfold qL;split
 ·simp [NQ] at h
 ·rfl
theorem aAu {op:Op}(hs:aP i n=i::aP (i+1) n)(hp:gJ N ops i=some op)(hq:oU op=1->vX pl ops i=true)(hz:(tQ op=false/\qL op=false)∨vK pl ops i=true)(h:rO P tt (lift T) [] op H (fun x H'=>(NQ op=true->vX pl ops i=false->fH H H')/\RD P tt N pl ops (aP (i+1) n) (T.cF (cP ops i) x) H' K)) :
  RD P tt N pl ops (aP i n) T H K:=by
 rw [hs];obtain⟨o,ho,rfl,hctx,hd,hdst⟩:=BF (T:=fun _=>none) hp;rw [hdst] at h
 have hg:uG ops T o=some true:=by
  unfold gJ at hp;rw [ho] at hp;simp only at hp;split at hp
  ·rename_i hgd _;unfold uG;rw [hgd]
  ·simp at hp
 have hdk:dOk N o=true:=by
  unfold ES at hd;unfold dOk;split <;> simp_all
 have hz':clo pl ops o=false:=by
  rcases hz with hz | hz
  ·exact aEH hz.1 hz.2
  ·exact aIt ho hz
 exact⟨o,ho,hdk,true,hg,⟨fun _=>.inr ⟨aMl (fun h1=>by have:=hq h1;simpa [vX,ho] using this) h,.inl ⟨hz',qT (fun x H' hx=>⟨fun hqu=>by
  unfold quiet at hqu;rw [Bool.and_eq_true] at hqu;exact hx.1 hqu.1 (by simp [vX,ho,hqu.2]),hx.2⟩) h⟩⟩,fun h=>by simp at h⟩⟩
theorem aE0 {op:Op}(hs:aP i n=i::aP (i+1) n)(hp:gJ N ops i=some op)(hq:oU op=1->vX pl ops i=true)(hc:NQ op=false)(hz:tQ op=false)(h:rO P tt (lift T) [] op H (fun x H'=>RD P tt N pl ops (aP (i+1) n) (T.cF (cP ops i) x) H' K)) :
  RD P tt N pl ops (aP i n) T H K:=aAu hs hp hq (.inl ⟨hz,aL5 hc⟩) (qT (fun x H' hx=>⟨fun h=>absurd h (by simp [hc]),hx⟩) h)
theorem aAG {fid:Nat} {as0:List V} (hs:aP i n=i::aP (i+1) n) (hd:qY N ops (lift T) i=some (fid,as0)) {Q:V->bA->Prop} (hc:pO P fid as0 H Q) (hx:vX pl ops i=false -> ∀ r H',Q r H'->fH H H')
  (h:∀ r H',Q r H'->RD P tt N pl ops (aP (i+1) n) (T.cF (cP ops i) r) H' K) (hz:vK pl ops i=true:=by kernel_rfl):RD P tt N pl ops (aP i n) T H K:=by
 unfold qY at hd;split at hd
 ·rename_i f args tys hp
  split at hd
  ·rename_i ys cs xs hf hxs
   simp at hd;obtain ⟨rfl,rfl⟩:=hd;refine aAu hs hp (fun h=>by cases h) (.inr hz) ?_;refine⟨_,xs,hf,hxs,?_⟩;refine Or.inl ?_
   simpa using hc.mono fun r H' q=>⟨fun _ hp'=>hx hp' r H' q,h r H' q⟩
  ·simp at hd
 ·simp at hd
theorem aLV {s x:V} {te:TyE} {es ys:List V} (hs:aP i n=i::aP (i+1) n) (hd:KF tt N ops (lift T) i=some (s,x,te)) (he:ON te.size H s=some es) (hy:wQ te.size H x=some ys)
  (hb:(es.length+ys.length)*te.bytes<=140737488355328) (h63:es.length+ys.length<=9223372036854775807)
  (h:RD P tt N pl ops (aP (i+1) n) (T.cF (cP ops i) (.msl te.size H.length 0 (es.length+ys.length))) (IT te.size H s (es++ys)) K):RD P tt N pl ops (aP i n) T H K:=by
 unfold KF at hd;split at hd
 ·rename_i args tys hp
  split at hd
  ·rename_i s' x' t t' hev h0 h1 h2
   split at hd
   ·rename_i e _ _ _ e' _ _ _ ht ht'
    split at hd
    ·rename_i te' hte
     split at hd
     ·rename_i hz
      simp at hd;obtain ⟨rfl,rfl,rfl⟩:=hd;refine aE0 hs hp (fun h=>by cases h) rfl rfl ?_;exact .inr (.inr ⟨_,_,t,t',e,e',_,es,ys,hev,aFd h0 h1 h2,⟨_,_,_,ht⟩,⟨_,_,_,ht'⟩,hte,hz,he,hy,hb,h63,h⟩)
     ·simp at hd
    ·simp at hd
   ·simp at hd
  ·simp at hd
 ·simp at hd
theorem OF {xs:List V} {k:Nat} (hs:aP i n=i::aP (i+1) n) (hd:RA tt N ops (lift T) i=some (xs,k))
  (h:RD P tt N pl ops (aP (i+1) n) (T.cF (cP ops i) (dB xs)) H K):RD P tt N pl ops (aP i n) T H K:=by
 unfold RA at hd;split at hd
 ·rename_i t k' parts hp
  split at hd
  ·rename_i ys e _ _ _ hb ht
   split at hd
   ·rename_i te hte
    simp at hd;obtain ⟨rfl,rfl⟩:=hd;refine aAu hs hp (fun h=>by cases h) (.inl ⟨rfl,rfl⟩) ?_;exact⟨_,hb,.inl ⟨fun _ _=>fH.refl H,h⟩⟩
   ·simp at hd
  ·simp at hd
 ·simp at hd
theorem aMP {fid:Nat} {as0:List V} {x:V} (hs:aP i n=i::aP (i+1) n) (hd:qY N ops (lift T) i=some (fid,as0)) (hc:∀ H1,pO P fid as0 H1 (fun r H'=>r=x/\fH H1 H'))
  (h:∀ H',fH H H'->RD P tt N pl ops (aP (i+1) n) (T.cF (cP ops i) x) H' K):RD P tt N pl ops (aP i n) T H K:=by
 cases hz:vK pl ops i with
 | true=>exact aAG hs hd (hc H) (fun _ _ _ q=>q.2) (fun r H' q=>q.1 ▸ h H' q.2) hz
 | false =>
  unfold qY at hd;split at hd
  ·rename_i f args tys hp
   split at hd
   ·rename_i ys cs xs hf hxs
    simp at hd;obtain ⟨rfl,rfl⟩:=hd;rw [hs];obtain⟨o,ho,hop,hctx,hdo,hdst⟩:=BF (T:=fun _=>none) hp;rw [hdst] at h
    have hg:uG ops T o=some true:=by
     unfold gJ at hp;rw [ho] at hp;simp only at hp;split at hp
     ·rename_i hgd _;unfold uG;rw [hgd]
     ·simp at hp
    have hdk:dOk N o=true:=by
     unfold ES at hdo;unfold dOk;split <;> simp_all
    have hcv:qL o.op=true:=by rw [hop];rfl
    have hk:ek pl o≠0:=by unfold ek;rw [hop];simp [oU]
    have hcl:clo pl ops o=true:=by
     unfold vK vX at hz;simp only [ho,Bool.or_eq_false_iff,Bool.not_eq_false'] at hz;unfold clo;simp [hz.1,hz.2,hcv]
    refine⟨o,ho,hdk,true,hg,⟨fun _=>.inr ⟨hk,.inr ⟨hcl,.inr ⟨hcv,x,fun H1 _=>?_,fun H' e=>h H' e⟩⟩⟩,fun h=>by simp at h⟩⟩;rw [hop];refine⟨_,xs,hf,hxs,?_⟩;refine Or.inl ?_
    simpa using hc H1
   ·simp at hd
  ·simp at hd
end drawn
end Go.Abs
namespace Go.Abs
open Go IntKind Go.RowKit
variable {P:Program} {tt:TT} {ro:Option Nat} {N:Nat} {T:Env} {H:bA} {ds:List Nat} {Q:Exit->Env->bA->List Nat->Prop}
structure Frame where
 h:bA
 e:List Nat
 g:List (Nat×fD)
def wN (F:Frame)(H:bA):Prop:=F.h.length<=H.length /\ ∀ l,l<F.h.length->l ∉ F.e->H[l]?=F.h[l]?
theorem wN.refl (H:bA)(e:List Nat)(g:List (Nat×fD):=[]):wN ⟨H,e,g⟩ H:=⟨Nat.le_refl _,fun _ _ _=>rfl⟩
theorem wN.push {F:Frame}{H:bA}(h:wN F H)(o:fD):wN F (H++[o]):=⟨by simp;have:=h.1;omega,fun l hl he=>by rw [List.getElem?_append_left (Nat.lt_of_lt_of_le hl h.1)];exact h.2 l hl he⟩
theorem wN.set {F:Frame}{H:bA}(h:wN F H){l:Nat}(hl:F.h.length<=l∨l∈F.e)(o:fD):wN F (H.set l o):=⟨by simp;exact h.1,fun k hk he=>by
 have hne:l≠k:=by
  rintro rfl;rcases hl with hl | hl
  ·omega
  ·exact he hl
 rw [List.getElem?_set_ne hne];exact h.2 k hk he⟩
theorem wN.trans {F:Frame}{H H':bA}(h:wN F H)(hx:fH H H'):wN F H':=⟨Nat.le_trans h.1 hx.1,fun l hl he=>(hx.2 l (Nat.lt_of_lt_of_le hl h.1)).trans (h.2 l hl he)⟩
theorem wN.aK6 {F:Frame}{H H':bA}{lo:Nat}(h:wN F H)(hx:wN ⟨H,[lo],[]⟩ H')(hl:F.h.length<=lo∨lo∈F.e):wN F H':=⟨Nat.le_trans h.1 hx.1,fun l hl' he=>by
 have hne:l≠lo:=by
  rintro rfl;rcases hl with hl | hl
  ·omega
  ·exact he hl
 exact (hx.2 l (Nat.lt_of_lt_of_le hl' h.1) (by simpa using hne)).trans (h.2 l hl' he)⟩
structure aN (H0:Frame) (H:bA) (L:List (Nat×Nat×List V)):Prop where
 ext:wN H0 H
 ne:∀ (i j:Nat) p q,L[i]?=some p->L[j]?=some q->i≠j->p.1≠q.1
 mem:∀ (i:Nat) lo k es,L[i]?=some (lo,k,es)->(H0.h.length<=lo∨lo∈H0.e)/\H[lo]?=some (.vec k es)
 gm:∀ (i:Nat) p,H0.g[i]?=some p->(H0.h.length<=p.1∨p.1∈H0.e)/\H[p.1]?=some p.2
 gl:∀ (i j:Nat) p q,H0.g[i]?=some p->L[j]?=some q->p.1≠q.1
 gn:∀ (i j:Nat) p q,H0.g[i]?=some p->H0.g[j]?=some q->i≠j->p.1≠q.1
theorem aN.start (H:bA):aN ⟨H,[],[]⟩ H []:=⟨wN.refl H _,by simp,by simp,by simp,by simp,by simp⟩
theorem aN.yZ {H:bA}{lo k:Nat}{es:List V}(h:H[lo]?=some (.vec k es)):aN ⟨H,[lo],[]⟩ H [(lo,k,es)]:=⟨wN.refl H _,fun i j p q hi hj hne=>by
 cases i with
 | zero=>cases j with
  | zero=>exact absurd rfl hne
  | succ j=>simp at hj
 | succ i=>simp at hi,fun i lo' k' es' hi=>by
 cases i with
 | zero=>simp at hi; obtain ⟨rfl,rfl,rfl⟩:=hi; exact ⟨.inr (by simp),h⟩
 | succ i=>simp at hi,by simp,by simp,by simp⟩
theorem aN.out {H0 H:bA}{L:List (Nat×Nat×List V)}(h:aN ⟨H0,[],[]⟩ H L):fH H0 H:=⟨h.ext.1,fun l hl=>h.ext.2 l hl (by simp)⟩
theorem aN.glt {H0:Frame}{H:bA}{L:List (Nat×Nat×List V)}(h:aN H0 H L){i:Nat}{p:Nat×fD}(hi:H0.g[i]?=some p):p.1<H.length:=(List.getElem?_eq_some_iff.1 (h.gm i p hi).2).1
theorem aN.lt {H0:Frame}{H:bA}{L:List (Nat×Nat×List V)}(h:aN H0 H L){i:Nat}{p:Nat×Nat×List V}(hi:L[i]?=some p):p.1<H.length:=(List.getElem?_eq_some_iff.1 (h.mem i p.1 p.2.1 p.2.2 hi).2).1
theorem aN.at {H0:Frame}{H:bA}{L:List (Nat×Nat×List V)}(h:aN H0 H L)(i:Nat){lo k:Nat}{es:List V}(hi:L[i]?=some (lo,k,es)):H[lo]?=some (.vec k es):=(h.mem i lo k es hi).2
theorem FM {α:Type}{L:List α}{x p:α}{i:Nat}(h:(L++[x])[i]?=some p):(i<L.length/\L[i]?=some p)∨(i=L.length/\p=x):=by
 by_cases hlt:i<L.length
 ·rw [List.getElem?_append_left hlt] at h;exact .inl ⟨hlt,h⟩
 ·rw [List.getElem?_append_right (by omega)] at h
  cases hz:i-L.length with
  | zero=>rw [hz] at h; simp at h; exact .inr ⟨by omega,h.symm⟩
  | succ n=>rw [hz] at h; simp at h
theorem tP {α:Type}{L:List α}{x p:α}{q i:Nat}(h:(L.set q x)[i]?=some p):(i≠q/\L[i]?=some p)∨(i=q/\p=x):=by
 rw [List.getElem?_set] at h;by_cases hq:q=i
 ·rw [if_pos hq] at h;split at h
  ·simp at h;exact .inr ⟨hq.symm,h.symm⟩
  ·cases h
 ·rw [if_neg hq] at h;exact .inl ⟨Ne.symm hq,h⟩
theorem aN.new {H0:Frame}{H:bA}{L:List (Nat×Nat×List V)}(h:aN H0 H L)(k:Nat)(es:List V):aN H0 (H++[.vec k es]) (L++[(H.length,k,es)]) where
 ext:=h.ext.push _
 ne i j p q hi hj hij:=by
  rcases FM hi with ⟨_,hi⟩ | ⟨rfl,rfl⟩ <;> rcases FM hj with ⟨_,hj⟩ | ⟨rfl,rfl⟩
  ·exact h.ne i j p q hi hj hij
  ·exact Nat.ne_of_lt (h.lt hi)
  ·exact (Nat.ne_of_lt (h.lt hj)).symm
  ·exact absurd rfl hij
 mem i lo k' es' hi:=by
  rcases FM hi with ⟨_,hi⟩ | ⟨rfl,hp⟩
  ·obtain⟨h1,h2⟩:=h.mem i lo k' es' hi;exact⟨h1,yQ h2⟩
  ·cases hp;exact ⟨.inl h.ext.1,aJB _ _⟩
 gm i p hi:=let ⟨h1,h2⟩:=h.gm i p hi;⟨h1,yQ h2⟩
 gl i j p q hi hj:=by
  rcases FM hj with ⟨_,hj⟩ | ⟨_,rfl⟩
  ·exact h.gl i j p q hi hj
  ·exact Nat.ne_of_lt (h.glt hi)
 gn:=h.gn
theorem aN.put {H0:Frame}{H:bA}{L:List (Nat×Nat×List V)}(h:aN H0 H L)(i:Nat){lo k:Nat}{es:List V}(hi:L[i]?=some (lo,k,es))(es':List V):aN H0 (H.set lo (.vec k es')) (L.set i (lo,k,es')) where
 ext:=h.ext.set (h.mem i lo k es hi).1 _
 ne a b p q ha hb hab:=by
  rcases tP ha with ⟨n1,a1⟩ | ⟨e1,e2⟩ <;> rcases tP hb with ⟨n2,b1⟩ | ⟨e3,e4⟩
  ·exact h.ne a b p q a1 b1 hab
  ·rw [e4];exact h.ne a i p (lo,k,es) a1 hi n1
  ·rw [e2];exact h.ne i b (lo,k,es) q hi b1 (Ne.symm n2)
  ·exact absurd (e1.trans e3.symm) hab
 mem j lo' k' e' hj:=by
  rcases tP hj with ⟨n1,hj⟩ | ⟨rfl,hp⟩
  ·obtain⟨h1,h2⟩:=h.mem j lo' k' e' hj;exact⟨h1,by rw [List.getElem?_set_ne (h.ne _ _ _ _ hi hj (Ne.symm n1))];exact h2⟩
  ·cases hp
   exact⟨(h.mem j _ _ _ hi).1,by rw [List.getElem?_set_self (h.lt hi)]⟩
 gm j p hj:=let ⟨h1,h2⟩:=h.gm j p hj;⟨h1,by rw [List.getElem?_set_ne (h.gl _ _ _ _ hj hi).symm];exact h2⟩
 gl a b p q ha hb:=by
  rcases tP hb with ⟨_,hb⟩ | ⟨_,rfl⟩
  ·exact h.gl a b p q ha hb
  ·exact h.gl a i p (lo,k,es) ha hi
 gn:=h.gn
theorem aN.app {H0:Frame}{H:bA}{L:List (Nat×Nat×List V)}(h:aN H0 H L)(i:Nat){lo k n:Nat}{es:List V}(hi:L[i]?=some (lo,k,es))(es':List V) :
  aN H0 (IT k H (.msl k lo 0 n) es') (L.set i (H.length,k,es')) where
 ext:=(h.ext.set (h.mem i lo k es hi).1 _).push _
 ne a b p q ha hb hab:=by
  rcases tP ha with ⟨n1,a1⟩ | ⟨e1,e2⟩ <;> rcases tP hb with ⟨n2,b1⟩ | ⟨e3,e4⟩
  ·exact h.ne a b p q a1 b1 hab
  ·rw [e4];exact Nat.ne_of_lt (h.lt a1)
  ·rw [e2];exact (Nat.ne_of_lt (h.lt b1)).symm
  ·exact absurd (e1.trans e3.symm) hab
 mem j lo' k' e' hj:=by
  unfold IT;rcases tP hj with ⟨n1,hj⟩ | ⟨rfl,hp⟩
  ·obtain⟨h1,h2⟩:=h.mem j lo' k' e' hj;exact⟨h1,yQ (by rw [List.getElem?_set_ne (h.ne _ _ _ _ hi hj (Ne.symm n1))];exact h2)⟩
  ·cases hp
   refine⟨.inl h.ext.1,?_⟩;simp
 gm j p hj:=let ⟨h1,h2⟩:=h.gm j p hj;⟨h1,by unfold IT;exact yQ (by rw [List.getElem?_set_ne (h.gl _ _ _ _ hj hi).symm];exact h2)⟩
 gl a b p q ha hb:=by
  rcases tP hb with ⟨_,hb⟩ | ⟨_,rfl⟩
  ·exact h.gl a b p q ha hb
  ·exact Nat.ne_of_lt (h.glt ha)
 gn:=h.gn
theorem aN.call {H0:Frame}{H H':bA}{L:List (Nat×Nat×List V)}(h:aN H0 H L)(hx:fH H H'):aN H0 H' L :=
 ⟨h.ext.trans hx,h.ne,fun i lo k es hi=>let ⟨a,b⟩:=h.mem i lo k es hi;⟨a,hx.at b⟩,fun i p hi=>let ⟨a,b⟩:=h.gm i p hi;⟨a,hx.at b⟩,h.gl,h.gn⟩
theorem aKK {l:List Nat}(h:l.Nodup){i j:Nat}{x:Nat}(hi:l[i]?=some x)(hj:l[j]?=some x):i=j:=by
 obtain⟨h1,h2⟩:=List.getElem?_eq_some_iff.1 hi;obtain⟨h3,h4⟩:=List.getElem?_eq_some_iff.1 hj;exact (List.getElem_inj h).1 (h2.trans h4.symm)
theorem aN.aOw {H0:Frame}{H H':bA}{L:List (Nat×Nat×List V)}(h:aN H0 H L)(q:Nat){lo k:Nat}{es es':List V}(hq:L[q]?=some (lo,k,es))(hx:wN ⟨H,[lo],[]⟩ H')(hl:H'[lo]?=some (.vec k es')):aN H0 H' (L.set q (lo,k,es')) where
 ext:=h.ext.aK6 hx (h.mem q lo k es hq).1
 ne a b p q' ha hb hab:=by
  rcases tP ha with ⟨n1,a1⟩ | ⟨e1,e2⟩ <;> rcases tP hb with ⟨n2,b1⟩ | ⟨e3,e4⟩
  ·exact h.ne a b p q' a1 b1 hab
  ·rw [e4];exact h.ne a q p (lo,k,es) a1 hq n1
  ·rw [e2];exact h.ne q b (lo,k,es) q' hq b1 (Ne.symm n2)
  ·exact absurd (e1.trans e3.symm) hab
 mem j lo' k' e' hj:=by
  rcases tP hj with ⟨n1,hj⟩ | ⟨rfl,hp⟩
  ·obtain⟨h1,h2⟩:=h.mem j lo' k' e' hj;refine⟨h1,?_⟩;have hne:=h.ne _ _ _ _ hq hj (Ne.symm n1);exact (hx.2 lo' (List.getElem?_eq_some_iff.1 h2).1 (by simpa using hne.symm)).trans h2
  ·cases hp
   exact⟨(h.mem j _ _ _ hq).1,hl⟩
 gm j p hj:=by
  obtain⟨h1,h2⟩:=h.gm j p hj;exact⟨h1,(hx.2 p.1 (List.getElem?_eq_some_iff.1 h2).1 (by simpa using h.gl _ _ _ _ hj hq)).trans h2⟩
 gl a b p q' ha hb:=by
  rcases tP hb with ⟨_,hb⟩ | ⟨_,rfl⟩
  ·exact h.gl a b p q' ha hb
  ·exact h.gl a q p (lo,k,es) ha hq
 gn:=h.gn
theorem aN.pick {H0:Frame}{H:bA}{L L':List (Nat×Nat×List V)}(h:aN H0 H L)(is:List Nat)(hd:is.Nodup)(hl:is.map (fun i=>L[i]?)=L'.map some):aN H0 H L':=by
 have hlen:is.length=L'.length:=by simpa using congrArg List.length hl
 have key:∀ (j:Nat) p,L'[j]?=some p -> ∃ i,is[j]?=some i/\L[i]?=some p:=by
  intro j p hj;have hlt:=(List.getElem?_eq_some_iff.1 hj).1;have hlt':j<is.length:=by omega
  refine⟨is[j],by simp,?_⟩;have:=congrArg (fun l=>l[j]?) hl
  simpa [hj,hlt'] using this
 refine⟨h.ext,fun a b p q ha hb hab=>?_,fun i lo k es hi=>?_,h.gm,fun a b p q ha hb=>let ⟨ib,_,b2⟩:=key b q hb;h.gl a ib p q ha b2,h.gn⟩
 ·obtain⟨ia,a1,a2⟩:=key a p ha;obtain⟨ib,b1,b2⟩:=key b q hb;refine h.ne ia ib p q a2 b2 fun hc=>hab ?_;subst hc;exact aKK hd a1 b1
 ·obtain⟨j,_,h2⟩:=key i _ hi;exact h.mem j lo k es h2
theorem aN.kill {H0:Frame}{H:bA}{L L':List (Nat×Nat×List V)}(h:aN H0 H L)(i:Nat){lo k:Nat}{es:List V}(hi:L[i]?=some (lo,k,es))(hl:L'=L.eraseIdx i):aN H0 (H.set lo .dead) L':=by
 subst hl
 have key:∀ (j:Nat) p,(L.eraseIdx i)[j]?=some p -> ∃ j',j'≠i/\L[j']?=some p/\j'=if j<i then j else j+1:=by
  intro j p hj;rw [List.getElem?_eraseIdx] at hj;by_cases hlt:j<i
  ·rw [if_pos hlt] at hj;exact ⟨j,by omega,hj,by rw [if_pos hlt]⟩
  ·rw [if_neg hlt] at hj;exact ⟨j+1,by omega,hj,by rw [if_neg hlt]⟩
 refine⟨h.ext.set (h.mem i lo k es hi).1 _,fun a b p q ha hb hab=>?_,fun j lo' k' e' hj=>?_,fun a p ha=>let ⟨h1,h2⟩:=h.gm a p ha;⟨h1,by rw [List.getElem?_set_ne (h.gl _ _ _ _ ha hi).symm];exact h2⟩,fun a b p q ha hb=>let ⟨b',_,b1,_⟩:=key b q hb;h.gl a b' p q ha b1,h.gn⟩
 ·obtain⟨a',_,a1,a2⟩:=key a p ha;obtain⟨b',_,b1,b2⟩:=key b q hb;refine h.ne a' b' p q a1 b1 ?_;subst a2;subst b2;split <;> split <;> omega
 ·obtain⟨j',n1,j1,_⟩:=key j _ hj;obtain⟨h1,h2⟩:=h.mem j' lo' k' e' j1;exact⟨h1,by rw [List.getElem?_set_ne (h.ne _ _ _ _ hi j1 (Ne.symm n1))];exact h2⟩
def UB (N:Nat)(ops:Array Oper)(T:Env)(i:Nat):Option (Ctx×Op):=match ops[i]? with
 | some o=>match SJ ops T o with
  | some ctx=>match ES N o ctx with
   | true=>some (ctx,o.op)
   | false=>none
  | none=>none
 | none=>none
theorem WZ {ops:Array Oper}{i:Nat}{ctx:Ctx}{op:Op}(h:UB N ops T i=some (ctx,op)):∃ o,ops[i]?=some o/\o.op=op/\SJ ops T o=some ctx/\ES N o ctx=true/\cP ops i=o.dst:=by
 unfold UB at h;split at h
 ·rename_i o ho
  split at h
  ·rename_i c hc
   split at h
   ·rename_i hd
    simp at h;obtain ⟨rfl,rfl⟩:=h;exact⟨o,ho,rfl,hc,hd,by simp [cP,ho]⟩
   ·simp at h
  ·simp at h
 ·simp at h
section rules
variable {ops:Array Oper} {K:Env->bA->Prop} {i n:Nat}
theorem aFw {ctx:Ctx} {op:Op} {y:V} (hs:aP i n=i::aP (i+1) n) (hp:UB N ops T i=some (ctx,op))
  (h:gB T ctx=true->rO P tt T ctx op H (fun x H'=>RWs P tt N ops (aP (i+1) n) (T.cF (cP ops i) (ctx,x)) H' K))
  (h':gB T ctx=false->RWs P tt N ops (aP (i+1) n) (T.cF (cP ops i) (ctx,y)) H K):RWs P tt N ops (aP i n) T H K:=by
 rw [hs];obtain⟨o,ho,rfl,hctx,hd,hdst⟩:=WZ hp;rw [hdst] at h h';exact⟨T,H,oF.refl _ _ _,o,ctx,ho,hctx,hd,.inr ⟨fun hg=>.inl (h hg),fun hb=>⟨y,h' hb⟩⟩⟩
def LX (N:Nat)(ops:Array Oper)(T:Env)(i:Nat):Option (Ctx×Nat×List V):=match UB N ops T i with
 | some (ctx,.call ⟨.value f,args,_⟩)=>match dD T ctx f,jT T ctx args.toList with
  | some (.fn (.func fid) ys cs),some xs=>some (ctx,fid,ys++xs++cs)
  | _,_=>none
 | _=>none
theorem aMu (ctx:Ctx) (fid:Nat) (as0:List V) (x:V) (b:Bool) (hs:aP i n=i::aP (i+1) n) (hd:LX N ops T i=some (ctx,fid,as0)) (hb:gB T ctx=b) (hc:b=true->cW P fid as0 x)
  (h:∀ H',fH H H'->RWs P tt N ops (aP (i+1) n) (T.cF (cP ops i) (ctx,x)) H' K):RWs P tt N ops (aP i n) T H K:=by
 unfold LX at hd;split at hd
 ·rename_i ctx' f args tys hp
  split at hd
  ·rename_i ys cs xs hf hx
   simp at hd;obtain ⟨rfl,rfl,rfl⟩:=hd;refine aFw (y:=x) hs hp (fun hg=>?_) (fun _=>h H (fH.refl H));refine⟨_,xs,hf,hx,?_⟩;refine Or.inl ?_;have:=hc (hb ▸ hg) H;simp only [List.append_assoc] at this ⊢;refine this.mono ?_;rintro r H' ⟨rfl,hx⟩;exact h H' hx
  ·simp at hd
 ·simp at hd
def PD (tt:TT)(N:Nat)(ops:Array Oper)(T:Env)(i:Nat)(y:V):Option (Ctx×Nat×Nat×V):=match UB N ops T i with
 | some (ctx,.load t x)=>match dD T ctx x with
  | some (.lp l ix o)=>match tt t,YQ tt t y o with
   | some _,some v=>some (ctx,l,ix,v)
   | _,_=>none
  | _=>none
 | _=>none
theorem aNv (ctx:Ctx) (lo ix:Nat) (y x:V) (hs:aP i n=i::aP (i+1) n) (hd:PD tt N ops T i y=some (ctx,lo,ix,x)) {k:Nat} {es:List V} (hl:H[lo]?=some (.vec k es)) (hy:gB T ctx=true->es[ix]?=some y)
  (h:RWs P tt N ops (aP (i+1) n) (T.cF (cP ops i) (ctx,x)) H K):RWs P tt N ops (aP i n) T H K:=by
 unfold PD at hd;split at hd
 ·rename_i ctx' t p hp
  split at hd
  ·rename_i l ix' o he
   split at hd
   ·rename_i e v ht hv
    simp at hd;obtain ⟨rfl,rfl,rfl,rfl⟩:=hd;exact aFw (y:=v) hs hp (fun hg=>⟨_,_,_,_,_,_,_,_,he,hl,hy hg,ht,hv,h⟩) (fun _=>h)
   ·simp at hd
  ·simp at hd
 ·simp at hd
def GF (tt:TT)(N:Nat)(ops:Array Oper)(T:Env)(i:Nat)(y:V):Option (Nat×Nat×V):=match gJ N ops i with
 | some (.store t p x)=>match dD T [] p,dD T [] x,tt t with
  | some (.lp l ix o),some v,some e=>match vY v e.size,aCS y o v with
   | true,some y'=>some (l,ix,y')
   | _,_=>none
  | _,_,_=>none
 | _=>none
theorem aNm (lo ix:Nat) (y y':V) (hs:aP i n=i::aP (i+1) n) (hn:cP ops i=none) (hd:GF tt N ops T i y=some (lo,ix,y')) {k:Nat} {es:List V} (hl:H[lo]?=some (.vec k es)) (hy:es[ix]?=some y)
  (h:RWs P tt N ops (aP (i+1) n) T (H.set lo (.vec k (es.set ix y'))) K):RWs P tt N ops (aP i n) T H K:=by
 unfold GF at hd;split at hd
 ·rename_i t p x hp
  split at hd
  ·rename_i l ix' o v e hep hex ht
   split at hd
   ·rename_i y'' hz hv
    simp at hd;obtain ⟨rfl,rfl,rfl⟩:=hd;refine HQ hs hp ?_;rw [hn];exact⟨_,_,_,_,_,_,_,_,_,hep,hex,hl,hy,ht,hz,hv,h⟩
   ·simp at hd
  ·simp at hd
 ·simp at hd
def BT (tt:TT)(N:Nat)(ops:Array Oper)(T:Env)(i:Nat):Option (Nat×V):=match gJ N ops i with
 | some (.alloc t)=>match tt t with
  | some e=>match jM e.zero with
   | true=>some (e.zero.cells.length,e.zero)
   | false=>none
  | none=>none
 | some (.box _ x)=>match dD T [] x with
  | some v=>match jM v with
   | true=>some (v.cells.length,v)
   | false=>none
  | none=>none
 | _=>none
theorem aNh (k:Nat) (z:V) (hs:aP i n=i::aP (i+1) n) (hd:BT tt N ops T i=some (k,z))
  (h:RWs P tt N ops (aP (i+1) n) (T.cF (cP ops i) ([],.lp H.length 0 0)) (H++[.vec k [z]]) K):RWs P tt N ops (aP i n) T H K:=by
 unfold BT at hd;split at hd
 ·rename_i t hp
  split at hd
  ·rename_i e ht
   split at hd
   ·rename_i hz
    simp at hd;obtain ⟨rfl,rfl⟩:=hd;exact HQ hs hp ⟨e,e.zero,ht,fun _ _ _ h=>h,hz,.inl h⟩
   ·simp at hd
  ·simp at hd
 ·rename_i t x hp
  split at hd
  ·rename_i v hv
   split at hd
   ·rename_i hz
    simp at hd;obtain ⟨rfl,rfl⟩:=hd;exact HQ hs hp ⟨v,hv,hz,.inl h⟩
   ·simp at hd
  ·simp at hd
 ·simp at hd
theorem aJM (k:Nat) (z z':V) (hs:aP i n=i::aP (i+1) n) (hd:BT tt N ops T i=some (k,z)) (hal:(match gJ N ops i with | some (.alloc _)=>true | _=>false)=true) (hsub:∀ g w v,Rep g w z v->Rep g w z' v) (hn:jM z'=true) (hk:z'.cells.length=k)
  (h:RWs P tt N ops (aP (i+1) n) (T.cF (cP ops i) ([],.lp H.length 0 0)) (H++[.vec k [z']]) K∨RWs P tt N ops (aP (i+1) n) (T.cF (cP ops i) ([],.rp z')) H K):RWs P tt N ops (aP i n) T H K:=by
 subst hk;unfold BT at hd;split at hd
 ·rename_i t hp
  split at hd
  ·rename_i e ht
   split at hd
   ·simp at hd;obtain ⟨_,rfl⟩:=hd;exact HQ hs hp ⟨e,z',ht,hsub,hn,h⟩
   ·simp at hd
  ·simp at hd
 ·rename_i t x hp
  rw [hp] at hal;simp at hal
 ·simp at hd
theorem aOf (k:Nat) (z:V) (hs:aP i n=i::aP (i+1) n) (hd:BT tt N ops T i=some (k,z))
  (h:RWs P tt N ops (aP (i+1) n) (T.cF (cP ops i) ([],.rp z)) H K):RWs P tt N ops (aP i n) T H K:=by
 unfold BT at hd;split at hd
 ·rename_i t hp
  split at hd
  ·rename_i e ht
   split at hd
   ·rename_i hz
    simp at hd;obtain ⟨rfl,rfl⟩:=hd;exact HQ hs hp ⟨e,e.zero,ht,fun _ _ _ h=>h,hz,.inr h⟩
   ·simp at hd
  ·simp at hd
 ·rename_i t x hp
  split at hd
  ·rename_i v hv
   split at hd
   ·rename_i hz
    simp at hd;obtain ⟨rfl,rfl⟩:=hd;exact HQ hs hp ⟨v,hv,hz,.inr h⟩
   ·simp at hd
  ·simp at hd
 ·simp at hd
theorem GD {H0:Frame} {L:List (Nat×Nat×List V)} (k:Nat) (z z':V) (hs:aP i n=i::aP (i+1) n) (hd:BT tt N ops T i=some (k,z)) (hal:(match gJ N ops i with | some (.alloc _)=>true | _=>false)=true) (hsub:∀ g w v,Rep g w z v->Rep g w z' v) (hn:jM z'=true) (hk:z'.cells.length=k) (hO:aN H0 H L)
  (h:∀ lo H',aN H0 H' (L++[(lo,k,[z'])])->RWs P tt N ops (aP (i+1) n) (T.cF (cP ops i) ([],.lp lo 0 0)) H' K):RWs P tt N ops (aP i n) T H K :=
 aJM k z z' hs hd hal hsub hn hk (.inl (h _ _ (hO.new k [z'])))
theorem nF {H0:Frame} {L:List (Nat×Nat×List V)} (k:Nat) (z:V) (hs:aP i n=i::aP (i+1) n) (hd:BT tt N ops T i=some (k,z)) (hO:aN H0 H L)
  (h:∀ lo H',aN H0 H' (L++[(lo,k,[z])])->RWs P tt N ops (aP (i+1) n) (T.cF (cP ops i) ([],.lp lo 0 0)) H' K):RWs P tt N ops (aP i n) T H K :=
 aNh k z hs hd (h _ _ (hO.new k [z]))
theorem TE {H0:Frame} {L:List (Nat×Nat×List V)} (ctx:Ctx) (q lo k ix:Nat) (y x:V) (es:List V) (hs:aP i n=i::aP (i+1) n) (hd:PD tt N ops T i y=some (ctx,lo,ix,x)) (hO:aN H0 H L) (hL:L[q]?=some (lo,k,es))
  (b:Bool) (hb:gB T ctx=b) (hy:b=true->es[ix]?=some y)
  (h:RWs P tt N ops (aP (i+1) n) (T.cF (cP ops i) (ctx,x)) H K):RWs P tt N ops (aP i n) T H K :=
 aNv ctx lo ix y x hs hd (hO.at q hL) (fun h=>hy (hb ▸ h)) h
theorem aLb {H0:Frame} {L:List (Nat×Nat×List V)} (q lo k ix:Nat) (y y':V) (es:List V) (hs:aP i n=i::aP (i+1) n) (hn:cP ops i=none) (hd:GF tt N ops T i y=some (lo,ix,y')) (hO:aN H0 H L) (hL:L[q]?=some (lo,k,es))
  (hy:es[ix]?=some y) (h:∀ H',aN H0 H' (L.set q (lo,k,es.set ix y'))->RWs P tt N ops (aP (i+1) n) T H' K):RWs P tt N ops (aP i n) T H K :=
 aNm lo ix y y' hs hn hd (hO.at q hL) hy (h _ (hO.put q hL _))
theorem rY {H0:Frame} {L:List (Nat×Nat×List V)} (ctx:Ctx) (fid:Nat) (as0:List V) (x:V) (b:Bool) (hs:aP i n=i::aP (i+1) n) (hd:LX N ops T i=some (ctx,fid,as0)) (hb:gB T ctx=b) (hc:b=true->cW P fid as0 x) (hO:aN H0 H L)
  (h:∀ H',aN H0 H' L->RWs P tt N ops (aP (i+1) n) (T.cF (cP ops i) (ctx,x)) H' K):RWs P tt N ops (aP i n) T H K :=
 aMu ctx fid as0 x b hs hd hb hc fun H' hx=>h H' (hO.call hx)
theorem aN6 {H0:Frame} {L:List (Nat×Nat×List V)} (q lo m:Nat) (te:TyE) (es ys:List V) (x:V) (hs:aP i n=i::aP (i+1) n) (hd:KF tt N ops T i=some (.msl te.size lo 0 m,x,te)) (hO:aN H0 H L) (hL:L[q]?=some (lo,te.size,es)) (hm:m=es.length) (hy:wQ te.size H x=some ys)
  (hb:(es.length+ys.length)*te.bytes<=140737488355328) (h63:es.length+ys.length<=9223372036854775807)
  (h:∀ lo' H',aN H0 H' (L.set q (lo',te.size,es++ys))->RWs P tt N ops (aP (i+1) n) (T.cF (cP ops i) ([],.msl te.size lo' 0 (es.length+ys.length))) H' K):RWs P tt N ops (aP i n) T H K:=by
 subst hm;exact aFO hs hd (by simp [ON,hO.at q hL]) hy hb h63 (h _ _ (hO.app q hL _))
theorem aOd {H0:Frame} {L:List (Nat×Nat×List V)} (te:TyE) (ys:List V) (el:Nat->V) (x:V) (hs:aP i n=i::aP (i+1) n) (hd:KF tt N ops T i=some (.sl true 0 el,x,te)) (hO:aN H0 H L) (hy:wQ te.size H x=some ys)
  (hb:ys.length*te.bytes<=140737488355328) (h63:ys.length<=9223372036854775807)
  (h:∀ lo' H',aN H0 H' (L++[(lo',te.size,ys)])->RWs P tt N ops (aP (i+1) n) (T.cF (cP ops i) ([],.msl te.size lo' 0 ys.length)) H' K):RWs P tt N ops (aP i n) T H K:=by
 refine aFO (es:=[]) hs hd rfl hy (by simpa using hb) (by simpa using h63) ?_;have:=h _ _ (hO.new te.size ys)
 simpa [IT] using this
end rules
theorem vI {H0:Frame} {L:List (Nat×Nat×List V)} {c:Code} {l:List (Nat×V)} (i t k:Nat) {el:Nat->V} (hO:aN H0 H L) (hi:l[i]?=some (t,.sl true 0 el))
  (next:∀ lo H',aN H0 H' (L++[(lo,k,[])])->AWP P ro N c (Env.ofL (l.set i (t,.msl k lo 0 0))) H' ds Q):AWP P ro N c (Env.ofL l) H ds Q :=
 aOt i hi (next _ _ (hO.new k []))
theorem oF.freeze {t k lo n:Nat} {es:List V} {n':Nat} {el:Nat->V} (ht:T t=some ([],.msl k lo 0 n)) (hl:H[lo]?=some (.vec k es)) (hn:n=es.length) (hn':n'=es.length)
  (he:∀ j,j<es.length->es.getD j .bad=el j):oF N T H (T.set t ([],.sl false n' el)) (H.set lo .dead):=by
 subst hn;subst hn';intro g w a ds hg;obtain⟨s1,s2,s3⟩:=hg.sr.freeze hl;refine⟨_,hg.step s2 s1 ?_ rfl rfl,s2⟩;have htr:=hg.tr.ext s2;intro u c' x hu;simp only [Env.set] at hu;split at hu
 ·rename_i hb
  have:=Nat.eq_of_beq_eq_true hb;subst this;simp at hu;obtain ⟨rfl,rfl⟩:=hu;obtain⟨v,hv,hrep⟩:=(hg.tr u [] _ ht).1 (by simp [eJ]);exact⟨fun _=>⟨v,hv,(s3 v hrep).aBl he⟩,fun hnc=>absurd (by simp [eJ]) hnc⟩
 ·split at hu
  ·rename_i y hy
   split at hu
   ·cases hu
   ·simp at hu;subst hu;exact htr u c' x hy
  ·cases hu
theorem aMX {ops:Array Oper}{K:Env->bA->Prop}{is:List Nat}{T':Env}{H':bA}(hne:is≠[])(hg:oF N T H T' H')(h:RWs P tt N ops is T' H' K):RWs P tt N ops is T H K:=by
 cases is with
 | nil=>exact absurd rfl hne
 | cons i is =>
  obtain⟨T1,H1,b5,hr⟩:=h;refine⟨T1,H1,fun g w a ds hgd=>?_,hr⟩;obtain⟨g1,a1,a2⟩:=hg g w a ds hgd;obtain⟨g2,b1,b2⟩:=b5 g1 w a ds a1;exact⟨g2,b1,a2.trans b2⟩
theorem BK {ops:Array Oper} {K:Env->bA->Prop} {i n:Nat} {H0:Frame} {L:List (Nat×Nat×List V)} {α:Type} [Inhabited α] {e:α->V} (xs:List α) (q t k lo m:Nat) (L':List (Nat×Nat×List V)) (hs:aP i n=i::aP (i+1) n) (hO:aN H0 H L) (ht:T t=some ([],.msl k lo 0 m))
  (hL:L[q]?=some (lo,k,xs.map e)) (hm:m=xs.length) (hl:L'=L.eraseIdx q) (h:∀ H',aN H0 H' L'->RWs P tt N ops (aP i n) (T.set t ([],eL e xs)) H' K):RWs P tt N ops (aP i n) T H K :=
 aMX (by rw [hs];simp) (oF.freeze ht (hO.at q hL) (by simpa using hm) (n':=xs.length) (by simp) (fun j hj=>by
  have hj':j<xs.length:=by simpa using hj
  simp [List.getD_eq_getElem?_getD,hj'])) (h _ (hO.kill q hL hl))
def Has (T:Env)(l:List (Nat×V)):Prop:=∃ l0:List (Nat×V),l0.map (fun p=>T p.1)=l0.map (fun p=>some ([],p.2))/\l0.map (·.1)=l.map (·.1)/\vQ (l0.map (·.2)) (l.map (·.2))
theorem Has.eq {l:List (Nat×V)}(h:l.map (fun p=>T p.1)=l.map (fun p=>some ([],p.2))):Has T l:=⟨l,h,rfl,vQ.refl _⟩
theorem bB {c:Code}{l:List (Nat×V)}(h:Has T l)(next:AWP P ro N c (Env.ofL l) H ds Q):AWP P ro N c T H ds Q:=by
 obtain⟨l0,h1,h2,h3⟩:=h;exact aN2 l0 h1 (aNC l0 l h2 h3 next)
def Cl (N:Nat)(Q:Exit->Env->bA->List Nat->Prop)(e:Exit)(T:Env)(H:bA)(ds:List Nat):Prop:=∀ g w a,Good N g w T H ds a -> ∃ g' T' H',Good N g' w T' H' ds a/\Ext g w g' w/\Q e T' H' ds
theorem aA6 {c:Code}(h:AWP P ro N c T H ds (Cl N Q)):AWP P ro N c T H ds Q:=by
 intro g w a R hg hr;refine h g w a R hg ?_;intro e T' H' ds' g' w' a' q hg' hx;obtain⟨g2,T2,H2,b5,b6,hq⟩:=q g' w' a' hg';exact hr _ _ _ _ _ _ _ hq b5 (hx.trans b6)
theorem TB {e:Exit}{T':Env}{H':bA}(hg:oF N T H T' H')(h:Cl N Q e T' H' ds):Cl N Q e T H ds:=by
 intro g w a hgd;obtain⟨g1,a1,a2⟩:=hg g w a ds hgd;obtain⟨g2,T2,H2,b1,b2,b3⟩:=h g1 w a a1;exact⟨g2,T2,H2,b1,a2.trans b2,b3⟩
theorem aJ {e:Exit}(h:Q e T H ds):Cl N Q e T H ds:=fun g w _ hg=>⟨g,T,H,hg,Ext.refl g w,h⟩
theorem oF.sub {T':Env}(h:aLj T' T):oF N T H T' H:=fun g w _ _ hg=>⟨g,⟨hg.sr,fun t c x ht=>hg.tr t c x (h t _ ht),hg.df,hg.dl,hg.sz⟩,Ext.refl g w⟩
theorem oF.trans {T' T'':Env}{H' H'':bA}(h:oF N T H T' H')(h':oF N T' H' T'' H''):oF N T H T'' H'':=fun g w a ds hg=>by
 obtain⟨g1,a1,a2⟩:=h g w a ds hg;obtain⟨g2,b1,b2⟩:=h' g1 w a ds a1;exact⟨g2,b1,a2.trans b2⟩
theorem oF.weak {l l':List (Nat×V)}(hk:l.map (·.1)=l'.map (·.1))(hs:vQ (l.map (·.2)) (l'.map (·.2))):oF N (Env.ofL l) H (Env.ofL l') H:=fun g w a ds hg=>by
 refine⟨g,⟨hg.sr,?_,hg.df,hg.dl,hg.sz⟩,Ext.refl g w⟩;intro t c' x ht;obtain⟨rfl,x0,h0,hsub⟩:=aCe hk hs ht;obtain⟨v,hv,hrep⟩:=(hg.tr t [] x0 h0).1 (by simp [eJ]);exact⟨fun _=>⟨v,hv,hsub g w v hrep⟩,fun h=>absurd (by simp [eJ]) h⟩
theorem Has.ghost {l:List (Nat×V)}(h:Has T l):oF N T H (Env.ofL l) H:=by
 obtain⟨l0,h1,h2,h3⟩:=h;exact (oF.sub (aDV h1)).trans (oF.weak h2 h3)
theorem oF.own {l:List (Nat×V)}{i t k:Nat}{el:Nat->V}(hi:l[i]?=some (t,.sl true 0 el)):oF N (Env.ofL l) H (Env.ofL (l.set i (t,.msl k H.length 0 0))) (H++[.vec k []]):=by
 intro g w a ds hg;have hm:=hg.sr.more (b:=w.heap.size) (o:=0) (k:=k) (cap:=0) (xs:=[]) (by simp) (by simp) (fun _=>undef) (by simp) (by simp) (fun _ _ _ _ _ _ _ hj=>by simp at hj);have hx:Ext g w (g.more w.heap.size 0 k 0) w:=(Ext.refl g w).more (.inl (Nat.le_refl _));refine⟨_,hg.step hx hm ?_ rfl rfl,hx⟩;have htr:=hg.tr.ext hx;intro u c' x hu;rcases XV hi hu with h | ⟨rfl,rfl,h⟩
 ·exact htr u c' x h
 ·obtain⟨v,hv,hrep⟩:=(hg.tr u [] _ h).1 (by simp [eJ]);obtain⟨a0,cap,rfl,hn,hz⟩:=hrep.slE;have hc0:=hz rfl;subst hc0;refine⟨fun _=>⟨_,hv,?_⟩,fun hnc=>absurd (by simp [eJ]) hnc⟩;have:=Rep.msl0 (g:=g.more w.heap.size 0 k 0) (w:=w) g.n 0 a0 (Nat.lt_succ_self _) (by simp [Gh.more,gU]);rw [hg.sr.len]
  simpa [Gh.more,gU] using this
theorem oF.aMV {α:Type}[Inhabited α]{e:α->V}{xs:List α}{l:List (Nat×V)}{i t k lo n:Nat}(hi:l[i]?=some (t,.msl k lo 0 n))(hl:H[lo]?=some (.vec k (xs.map e)))(hn:n=xs.length) :
  oF N (Env.ofL l) H (Env.ofL (l.set i (t,eL e xs))) (H.set lo .dead):=by
 subst hn;intro g w a ds hg;obtain⟨s1,s2,s3⟩:=hg.sr.freeze hl;refine⟨_,hg.step s2 s1 ?_ rfl rfl,s2⟩;have htr:=hg.tr.ext s2;intro u c' x hu;rcases XV hi hu with h | ⟨rfl,rfl,h⟩
 ·exact htr u c' x h
 ·obtain⟨v,hv,hrep⟩:=(hg.tr u [] _ h).1 (by simp [eJ]);have h3:=s3 v (by simpa using hrep);refine⟨fun _=>⟨v,hv,?_⟩,fun hnc=>absurd (by simp [eJ]) hnc⟩
  have:=h3.aBl (el':=fun i=>e (xs.getD i default)) fun j hj=>by
   have hj':j<xs.length:=by simpa using hj
   simp [List.getD_eq_getElem?_getD,hj']
  simpa [eL] using this
theorem cV {e:Exit}{l:List (Nat×V)}(h:Has T l)(next:Cl N Q e (Env.ofL l) H ds):Cl N Q e T H ds:=TB h.ghost next
theorem nL {e:Exit} {H0:Frame} {L L':List (Nat×Nat×List V)} {α:Type} [Inhabited α] {en:α->V} (xs:List α) {l:List (Nat×V)} (i q:Nat) (t k lo n:Nat) (hO:aN H0 H L) (hi:l[i]?=some (t,.msl k lo 0 n)) (hL:L[q]?=some (lo,k,xs.map en)) (hn:n=xs.length)
  (hl:L'=L.eraseIdx q) (next:∀ H',aN H0 H' L'->Cl N Q e (Env.ofL (l.set i (t,eL en xs))) H' ds):Cl N Q e (Env.ofL l) H ds :=
 TB (oF.aMV hi (hO.at q hL) hn) (next _ (hO.kill q hL hl))
theorem aAN {e:Exit} {H0:Frame} {L:List (Nat×Nat×List V)} {l:List (Nat×V)} (i t k:Nat) {el:Nat->V} (hO:aN H0 H L) (hi:l[i]?=some (t,.sl true 0 el))
  (next:∀ lo H',aN H0 H' (L++[(lo,k,[])])->Cl N Q e (Env.ofL (l.set i (t,.msl k lo 0 0))) H' ds):Cl N Q e (Env.ofL l) H ds :=
 TB (oF.own hi) (next _ _ (hO.new k []))
open Classical in
noncomputable def aU {α:Type}(c:Prop)(k:Option α):Option α:=if c then k else none
theorem aZ {α:Type}{c:Prop}{k:Option α}{r:α}(h:aU c k=some r):c/\k=some r:=by
 unfold aU at h;split at h
 ·rename_i hc;exact ⟨hc,h⟩
 ·cases h
theorem aQ {α:Type}{c:Prop}{k:Option α}(h:c):aU c k=k:=by unfold aU;rw [if_pos h]
theorem aW {α β:Type}{a:Option α}{f:α->Option β}{r:β}(h:a.bind f=some r):∃ x,a=some x/\f x=some r:=by
 cases a with
 | none=>cases h
 | some x=>exact ⟨x,rfl,h⟩
theorem aC4 {α:Type}{b:Bool}{x y:α}{z:α}(hb:b=true)(h:cond b x y=z):x=z:=by subst hb;exact h
theorem aDh {α:Type}{b:Bool}{x y:α}{z:α}(hb:b=false)(h:cond b x y=z):y=z:=by subst hb;exact h
def cR {α:Type}[Inhabited α](b:Bool)(k:Option α):Option α:=cond b k (some default)
theorem kW {α:Type}[Inhabited α]{b:Bool}{k:Option α}{r:α}(h:cR b k=some r):b=true->k=some r:=by
 intro hb;subst hb;exact h
end Go.Abs
namespace Go.Abs
open Go IntKind Go.RowKit
variable {P:Program} {tt:TT} {ro:Option Nat} {N:Nat} {T:Env} {H:bA} {ds:List Nat} {Q:Exit->Env->bA->List Nat->Prop}
theorem cW.sub {f:FuncId}{as0 as0':List V}{r:V}(h:cW P f as0' r)(hs:vQ as0 as0'):cW P f as0 r:=fun H=>(h H).sub hs
theorem dJ {c:Code}(J:Env->bA->Prop)(hJ:∀ T H,J T H->AWP P ro N c T H ds Q)(h:J T H):AWP P ro N c T H ds Q:=hJ T H h
theorem aAg {α:Type}[Inhabited α]{e:α->V}:∀ {l:List α},dF (dB (l.map e)) (eL e l)
 | []=>aKA
 | x::r=>aJe (by simp) (fun i hi=>by
   have hi':i<(x::r).length:=by simpa using hi
   show (List.map e (x::r)).getD i .bad=_;simp only [List.getD_eq_getElem?_getD,List.getElem?_map,List.getElem?_eq_getElem hi'];rfl)
theorem cM {α:Type}[Inhabited α]{e:α->V}{xs:List α}{j:Int}(h:0<=j/\j<(xs.length:Int)):(xs.map e)[0+j.toNat]?=some (e (xs.getD j.toNat default)):=by
 have : j.toNat<xs.length:=by omega
 simp [List.getD_eq_getElem?_getD,this]
theorem uH {α:Type}[Inhabited α]{e:α->V}{xs:List α}{j:Int}{n:Nat}(h:0<=j/\j<(n:Int))(hn:n=xs.length):(xs.map e)[0+j.toNat]?=some (e (xs.getD j.toNat default)):=by
 subst hn;exact cM h
theorem mS {α:Type}{e:α->V}{xs:List α}{i:Nat}{v:α}:(xs.map e).set (0+i) (e v)=(xs.set i v).map e:=by
 simp [List.map_set]
theorem aJR {ops:Array Oper} {K:Env->bA->Prop} {i n:Nat} {H0:Frame} {L:List (Nat×Nat×List V)} (q lo k ix:Nat) (y y':V) (es:List V) (L':List (Nat×Nat×List V)) (hs:aP i n=i::aP (i+1) n) (hn:cP ops i=none) (hd:GF tt N ops T i y=some (lo,ix,y')) (hO:aN H0 H L) (hL:L[q]?=some (lo,k,es))
  (hy:es[ix]?=some y) (hl:L'=L.set q (lo,k,es.set ix y')) (h:∀ H',aN H0 H' L'->RWs P tt N ops (aP (i+1) n) T H' K):RWs P tt N ops (aP i n) T H K :=
 aLb q lo k ix y y' es hs hn hd hO hL hy (hl ▸ h)
open Classical in
noncomputable def aGg {α:Type}(g:Nat->Option α):Option α:=if h:∃ k r,g k=some r then g (Classical.choose h) else none
theorem aKr {α:Type}{g:Nat->Option α}{r:α}(h:aGg g=some r):∃ k,g k=some r:=by
 unfold aGg at h;split at h
 ·exact⟨_,h⟩
 ·cases h
theorem aNn {α:Type}{g:Nat->Option α}{r:α}(he:∃ k,g k=some r)(hu:∀ k r',g k=some r'->r'=r):aGg g=some r:=by
 unfold aGg;have hex:∃ k r,g k=some r:=let ⟨k,hk⟩:=he;⟨k,r,hk⟩
 rw [dif_pos hex];obtain⟨r',hr'⟩:=Classical.choose_spec hex;rw [hr',hu _ _ hr']
theorem YI {α:Type}[Inhabited α]{e:α->V}{zs:List α}:(List.range zs.length).map (fun i=>e (zs.getD i default))=zs.map e:=by
 apply List.ext_getElem
 ·simp
 ·intro i h1 h2;have : i<zs.length:=by simpa using h2
  simp [List.getD_eq_getElem?_getD,this]
theorem AP {α:Type}[Inhabited α]{e:α->V}{zs:List α}{k:Nat}(hz:∀ a,vY (e a) k=true):wQ k H (eL e zs)=some (zs.map e):=by
 unfold wQ eL;simp only [hz];rw [YI]
theorem aKJ {α:Type}[Inhabited α]{e:α->V}{l:List α}{a k:Nat}(hz:∀ a,vY (e a) k=true):wQ k H (.sl false (l.length-a) (fun i=>e (l.getD (a+i) default)))=some ((l.drop a).map e):=by
 unfold wQ;simp only [hz];rw [←YI (zs:=l.drop a),List.length_drop];simp [List.getD_eq_getElem?_getD,List.getElem?_drop]
def PW (tt:TT)(N:Nat)(ops:Array Oper)(T:Env)(i:Nat):Option (V×V×Nat×Nat):=match KF tt N ops T i with
 | some (s,x,te)=>some (s,x,te.size,te.bytes)
 | none=>none
theorem NV {ops:Array Oper}{i:Nat}{s x:V}{k bytes:Nat}(h:PW tt N ops T i=some (s,x,k,bytes)):∃ te,KF tt N ops T i=some (s,x,te)/\te.size=k/\te.bytes=bytes:=by
 unfold PW at h;split at h
 ·rename_i s' x' te hd
  simp at h;obtain ⟨rfl,rfl,rfl,rfl⟩:=h;exact⟨te,hd,rfl,rfl⟩
 ·cases h
section rules
variable {ops:Array Oper} {K:Env->bA->Prop} {i n:Nat}
theorem aNg {H0:Frame} {L:List (Nat×Nat×List V)} {α:Type} {e:α->V} (xs zs:List α) (q lo k bytes:Nat) (x:V) (L':Nat->List (Nat×Nat×List V)) (hs:aP i n=i::aP (i+1) n) (hd:PW tt N ops T i=some (.msl k lo 0 xs.length,x,k,bytes)) (hO:aN H0 H L) (hL:L[q]?=some (lo,k,xs.map e))
  (hy:wQ k H x=some (zs.map e)) (hb:(xs.length+zs.length)*bytes<=140737488355328/\xs.length+zs.length<=9223372036854775807) (hl:∀ lo',L' lo'=L.set q (lo',k,(xs++zs).map e))
  (h:∀ lo' H',aN H0 H' (L' lo')->RWs P tt N ops (aP (i+1) n) (T.cF (cP ops i) ([],.msl k lo' 0 (xs++zs).length)) H' K):RWs P tt N ops (aP i n) T H K:=by
 obtain⟨te,hd',rfl,rfl⟩:=NV hd;refine aN6 q lo xs.length te _ _ x hs hd' hO hL (by simp) hy (by simpa using hb.1) (by simpa using hb.2) fun lo' H' hO'=>?_;have:=h lo' H' (by rw [hl,List.map_append];exact hO')
 simpa using this
theorem aBq {H0:Frame} {L:List (Nat×Nat×List V)} {α:Type} {e:α->V} (zs:List α) (el:Nat->V) (k bytes:Nat) (x:V) (L':Nat->List (Nat×Nat×List V)) (hs:aP i n=i::aP (i+1) n) (hd:PW tt N ops T i=some (.sl true 0 el,x,k,bytes)) (hO:aN H0 H L)
  (hy:wQ k H x=some (zs.map e)) (hb:zs.length*bytes<=140737488355328/\zs.length<=9223372036854775807) (hl:∀ lo',L' lo'=L++[(lo',k,zs.map e)])
  (h:∀ lo' H',aN H0 H' (L' lo')->RWs P tt N ops (aP (i+1) n) (T.cF (cP ops i) ([],.msl k lo' 0 zs.length)) H' K):RWs P tt N ops (aP i n) T H K:=by
 obtain⟨te,hd',rfl,rfl⟩:=NV hd;refine aOd te _ el x hs hd' hO hy (by simpa using hb.1) (by simpa using hb.2) fun lo' H' hO'=>?_;have:=h lo' H' (by rw [hl];exact hO')
 simpa using this
end rules
def wO (P:Program)(f:FuncId)(lo k:Nat)(es es':List V)(args:List V)(r:V):Prop:=∀ H,H[lo]?=some (.vec k es)->pO P f args H fun x H'=>x=r/\wN ⟨H,[lo],[]⟩ H'/\H'[lo]?=some (.vec k es')/\es'.length=es.length
theorem aMQ {ops:Array Oper} {K:Env->bA->Prop} {i n:Nat} {H0:Frame} {L L':List (Nat×Nat×List V)} (q lo k:Nat) (es es':List V) (fid:Nat) (as0:List V) (x:V) (hs:aP i n=i::aP (i+1) n) (hd:qY N ops T i=some (fid,as0)) (hc:wO P fid lo k es es' as0 x) (hO:aN H0 H L)
  (hq:L[q]?=some (lo,k,es)) (hl:L'=L.set q (lo,k,es')) (h:∀ H',aN H0 H' L'->es'.length=es.length->RWs P tt N ops (aP (i+1) n) (T.cF (cP ops i) ([],x)) H' K):RWs P tt N ops (aP i n) T H K :=
 YC hs hd (hc H (hO.at q hq)) fun _ H' ⟨e,hx,hl',hlen⟩=>e ▸ h H' (hl ▸ hO.aOw q hq hx hl') hlen
def NP (P:Program)(f:FuncId)(args:List V)(r:Nat->V)(k:Nat)(es:List V):Prop:=∀ H,pO P f args H fun x H'=>∃ lo,x=r lo/\aN ⟨H,[],[]⟩ H' [(lo,k,es)]
theorem aN.join {H0:Frame}{H H':bA}{L:List (Nat×Nat×List V)}{p:Nat×Nat×List V}(h:aN H0 H L)(h':aN ⟨H,[],[]⟩ H' [p]):aN H0 H' (L++[p]):=by
 have hc:=h.call h'.out
 have hp:H.length<=p.1:=by
  rcases (h'.mem 0 p.1 p.2.1 p.2.2 rfl).1 with h | h
  ·exact h
  ·simp at h
 refine⟨hc.ext,fun i j a b hi hj hij=>?_,fun i lo k es hi=>?_,hc.gm,fun i j a b hi hj=>?_,hc.gn⟩
 rotate_left 2
 ·rcases FM hj with ⟨_,hj⟩ | ⟨_,e2⟩
  ·exact h.gl i j a b hi hj
  ·have:=h.glt hi;rw [e2];omega
 ·rcases FM hi with ⟨_,hi⟩ | ⟨e1,e2⟩ <;> rcases FM hj with ⟨_,hj⟩ | ⟨e3,e4⟩
  ·exact h.ne i j a b hi hj hij
  ·have:=h.lt hi;rw [e4];omega
  ·have:=h.lt hj;rw [e2];omega
  ·exact absurd (e1.trans e3.symm) hij
 ·rcases FM hi with ⟨_,hi⟩ | ⟨rfl,hp'⟩
  ·exact hc.mem i lo k es hi
  ·subst hp';exact⟨.inl (Nat.le_trans h.ext.1 hp),(h'.mem 0 _ _ _ rfl).2⟩
theorem YB {ops:Array Oper} {K:Env->bA->Prop} {i n:Nat} {H0:Frame} {L:List (Nat×Nat×List V)} {L':Nat->List (Nat×Nat×List V)} (k:Nat) (es:List V) (fid:Nat) (as0:List V) (x:Nat->V) (hs:aP i n=i::aP (i+1) n) (hd:qY N ops T i=some (fid,as0)) (hc:NP P fid as0 x k es) (hO:aN H0 H L)
  (hl:∀ lo,L' lo=L++[(lo,k,es)]) (h:∀ lo H',aN H0 H' (L' lo)->RWs P tt N ops (aP (i+1) n) (T.cF (cP ops i) ([],x lo)) H' K):RWs P tt N ops (aP i n) T H K :=
 YC hs hd (hc H) fun _ H' ⟨lo,e,hO'⟩=>e ▸ h lo H' (hl lo ▸ hO.join hO')
def aH5 (tt:TT)(N:Nat)(ops:Array Oper)(T:Env)(i:Nat):Option (Ctx×List V):=match UB N ops T i with
 | some (ctx,.buildSlice t k parts)=>match SW tt T ctx (.buildSlice t k parts) with
  | some xs=>some (ctx,xs)
  | none=>none
 | _=>none
theorem aN3 {ops:Array Oper} {K:Env->bA->Prop} {i n:Nat} (ctx:Ctx) (xs:List V) (hs:aP i n=i::aP (i+1) n) (hd:aH5 tt N ops T i=some (ctx,xs))
  (h:RWs P tt N ops (aP (i+1) n) (T.cF (cP ops i) (ctx,dB xs)) H K):RWs P tt N ops (aP i n) T H K:=by
 unfold aH5 at hd;split at hd
 ·rename_i c t k parts hp
  split at hd
  ·rename_i ys hb
   simp at hd;obtain ⟨rfl,rfl⟩:=hd;exact aFw (y:=dB ys) hs hp (fun _=>⟨_,hb,.inl h⟩) (fun _=>h)
  ·cases hd
 ·cases hd
def aJP (tt:TT)(N:Nat)(ops:Array Oper)(T:Env)(i:Nat):Option (Bool×Nat×(Nat->V)):=match gJ N ops i with
 | some (.binOp .eql t x (.const (.slice none 0 0)) _)=>match dD T [] x,tt t with
  | some (.sl z n el),some ⟨.slice _,_,_,_⟩=>some (z,n,el)
  | _,_=>none
 | _=>none
theorem aOC {ops:Array Oper} {K:Env->bA->Prop} {i n:Nat} (z:Bool) (m:Nat) (el:Nat->V) (hs:aP i n=i::aP (i+1) n) (hd:aJP tt N ops T i=some (z,m,el))
  (h:∀ b:Bool,(b=true->m=0)->RWs P tt N ops (aP (i+1) n) (T.cF (cP ops i) ([],.lit (.bool b))) H K):RWs P tt N ops (aP i n) T H K:=by
 unfold aJP at hd;split at hd
 ·rename_i t x _ hp
  split at hd
  ·rename_i z' n' el' e q1 q2 q3 hx ht
   simp at hd;obtain ⟨rfl,rfl,rfl⟩:=hd;exact HQ hs hp ⟨_,_,_,_,_,_,_,hx,ht,h⟩
  ·cases hd
 ·cases hd
section drawn
variable {ops:Array Oper} {K:PE->bA->Prop} {i n:Nat} {T:PE} {pl:Oper->Bool}
theorem aDH {H0:Frame} {L:List (Nat×Nat×List V)} (fid:Nat) (as0:List V) (x:V) (hs:aP i n=i::aP (i+1) n) (hd:qY N ops (lift T) i=some (fid,as0)) (hc:cW P fid as0 x) (hO:aN H0 H L)
  (h:∀ H',aN H0 H' L->RD P tt N pl ops (aP (i+1) n) (T.cF (cP ops i) x) H' K):RD P tt N pl ops (aP i n) T H K :=
 aMP hs hd hc fun H' hx=>h H' (hO.call hx)
theorem MW {H0:Frame} {L:List (Nat×Nat×List V)} {α:Type} {e:α->V} (xs zs:List α) (q lo k bytes:Nat) (x:V) (L':Nat->List (Nat×Nat×List V)) (hs:aP i n=i::aP (i+1) n) (hd:PW tt N ops (lift T) i=some (.msl k lo 0 xs.length,x,k,bytes)) (hO:aN H0 H L) (hL:L[q]?=some (lo,k,xs.map e))
  (hy:wQ k H x=some (zs.map e)) (hb:(xs.length+zs.length)*bytes<=140737488355328/\xs.length+zs.length<=9223372036854775807) (hl:∀ lo',L' lo'=L.set q (lo',k,(xs++zs).map e))
  (h:∀ lo' H',aN H0 H' (L' lo')->RD P tt N pl ops (aP (i+1) n) (T.cF (cP ops i) (.msl k lo' 0 (xs++zs).length)) H' K):RD P tt N pl ops (aP i n) T H K:=by
 obtain⟨te,hd',rfl,rfl⟩:=NV hd;refine aLV (es:=xs.map e) hs hd' (by simp [ON,hO.at q hL]) hy (by simpa using hb.1) (by simpa using hb.2) ?_;have:=h _ _ (by rw [hl];exact hO.app q hL (n:=xs.length) ((xs++zs).map e))
 simpa using this
theorem aMU {H0:Frame} {L:List (Nat×Nat×List V)} (q lo k ix:Nat) (y x:V) (es:List V) (hs:aP i n=i::aP (i+1) n) (hp:(gJ N ops i).isSome=true) (hq:vX pl ops i=true) (hd:PD tt N ops (lift T) i y=some ([],lo,ix,x)) (hO:aN H0 H L) (hL:L[q]?=some (lo,k,es)) (hy:es[ix]?=some y)
  (h:RD P tt N pl ops (aP (i+1) n) (T.cF (cP ops i) x) H K):RD P tt N pl ops (aP i n) T H K:=by
 obtain⟨op,hop⟩:=Option.isSome_iff_exists.1 hp;unfold PD at hd;split at hd
 ·rename_i ctx t p hc
  obtain⟨o,ho,rfl,_,_,_⟩:=BF (T:=lift T) hop;obtain⟨o',ho',he,_,_,_⟩:=WZ hc;rw [ho] at ho';cases ho';split at hd
  ·rename_i l ix' o2 hev
   split at hd
   ·rename_i e v ht hv
    simp at hd;obtain ⟨rfl,rfl,rfl,rfl⟩:=hd;refine aE0 hs hop (fun _=>hq) (by rw [he];rfl) (by rw [he];rfl) ?_;rw [he];exact⟨_,_,_,_,_,_,_,_,hev,hO.at q hL,hy,ht,hv,h⟩
   ·simp at hd
  ·simp at hd
 ·simp at hd
theorem aLJ {H0:Frame} {L:List (Nat×Nat×List V)} (q lo k ix:Nat) (y y':V) (es:List V) (L':List (Nat×Nat×List V)) (hs:aP i n=i::aP (i+1) n) (hn:cP ops i=none) (hd:GF tt N ops (lift T) i y=some (lo,ix,y')) (hO:aN H0 H L) (hL:L[q]?=some (lo,k,es))
  (hy:es[ix]?=some y) (hl:L'=L.set q (lo,k,es.set ix y')) (h:∀ H',aN H0 H' L'->RD P tt N pl ops (aP (i+1) n) T H' K):RD P tt N pl ops (aP i n) T H K:=by
 subst hl;unfold GF at hd;split at hd
 ·rename_i t p x hp
  split at hd
  ·rename_i l ix' o v e hep hex ht
   split at hd
   ·rename_i y'' hz hv
    simp at hd;obtain ⟨rfl,rfl,rfl⟩:=hd;refine aE0 hs hp (fun h=>by cases h) rfl rfl ?_;rw [hn];exact⟨_,_,_,_,_,_,_,_,_,hep,hex,hO.at q hL,hy,ht,hz,hv,h _ (hO.put q hL _)⟩
   ·simp at hd
  ·simp at hd
 ·simp at hd
def aBg (N:Nat)(ops:Array Oper)(T:PE)(i:Nat):Option Op:=match ops[i]? with
 | some o=>match dOk N o,uG ops T o with
  | true,some true=>some o.op
  | _,_=>none
 | none=>none
theorem aAU {op:Op}(hs:aP i n=i::aP (i+1) n)(hp:aBg N ops T i=some op)(hq:oU op=1->vX pl ops i=true)(hz:(tQ op=false/\qL op=false)∨vK pl ops i=true)(h:rO P tt (lift T) [] op H (fun x H'=>(NQ op=true->fH H H')/\RD P tt N pl ops (aP (i+1) n) (T.cF (cP ops i) x) H' K)) :
  RD P tt N pl ops (aP i n) T H K:=by
 rw [hs];unfold aBg at hp;split at hp
 ·rename_i o ho
  split at hp
  ·rename_i hd hg
   simp at hp;subst hp;have hdst:cP ops i=o.dst:=by simp [cP,ho]
   rw [hdst] at h
   have hz':clo pl ops o=false:=by
    rcases hz with hz | hz
    ·exact aEH hz.1 hz.2
    ·exact aIt ho hz
   exact⟨o,ho,hd,true,hg,⟨fun _=>.inr ⟨aMl (fun h1=>by have:=hq h1;simpa [vX,ho] using this) h,.inl ⟨hz',qT (fun x H' hx=>⟨fun hqu=>hx.1 (by unfold quiet at hqu;rw [Bool.and_eq_true] at hqu;exact hqu.1),hx.2⟩) h⟩⟩,fun h=>by simp at h⟩⟩
  ·cases hp
 ·cases hp
def PN (N:Nat)(ops:Array Oper)(T:PE)(i:Nat):Option (Nat×List V):=match aBg N ops T i with
 | some (.call ⟨.value f,args,_⟩)=>match dD (lift T) [] f,jT (lift T) [] args.toList with
  | some (.fn (.func fid) ys cs),some xs=>some (fid,ys++xs++cs)
  | _,_=>none
 | _=>none
theorem sW {H0:Frame} {L:List (Nat×Nat×List V)} (fid:Nat) (as0:List V) (x:V) (hs:aP i n=i::aP (i+1) n) (hd:PN N ops T i=some (fid,as0)) (hc:cW P fid as0 x) (hO:aN H0 H L)
  (h:∀ H',aN H0 H' L->RD P tt N pl ops (aP (i+1) n) (T.cF (cP ops i) x) H' K) (hz:vK pl ops i=true:=by kernel_rfl):RD P tt N pl ops (aP i n) T H K:=by
 unfold PN at hd;split at hd
 ·rename_i f args tys hp
  split at hd
  ·rename_i ys cs xs hf hx
   simp at hd;obtain ⟨rfl,rfl⟩:=hd;refine aAU hs hp (fun h=>by cases h) (.inr hz) ?_;refine⟨_,xs,hf,hx,?_⟩;refine Or.inl ?_;have:=hc H;simp only [List.append_assoc] at this ⊢;exact this.mono fun _ H' ⟨e,hx⟩=>⟨fun _=>hx,e ▸ h H' (hO.call hx)⟩
  ·simp at hd
 ·simp at hd
def aB5 (tt:TT)(N:Nat)(ops:Array Oper)(T:PE)(i:Nat)(y:V):Option (Nat×Nat×V):=match aBg N ops T i with
 | some (.load t x)=>match dD (lift T) [] x with
  | some (.lp l ix o)=>match tt t,YQ tt t y o with
   | some _,some v=>some (l,ix,v)
   | _,_=>none
  | _=>none
 | _=>none
theorem aMZ {H0:Frame} {L:List (Nat×Nat×List V)} (q lo k ix:Nat) (y x:V) (es:List V) (hs:aP i n=i::aP (i+1) n) (hq:vX pl ops i=true) (hd:aB5 tt N ops T i y=some (lo,ix,x)) (hO:aN H0 H L) (hL:L[q]?=some (lo,k,es)) (hy:es[ix]?=some y)
  (h:RD P tt N pl ops (aP (i+1) n) (T.cF (cP ops i) x) H K):RD P tt N pl ops (aP i n) T H K:=by
 unfold aB5 at hd;split at hd
 ·rename_i t p hp
  split at hd
  ·rename_i l ix' o2 hev
   split at hd
   ·rename_i e v ht hv
    simp at hd;obtain ⟨rfl,rfl,rfl⟩:=hd;exact aAU hs hp (fun _=>hq) (.inl ⟨rfl,rfl⟩) ⟨_,_,_,_,_,_,_,_,hev,hO.at q hL,hy,ht,hv,(fun h=>by cases h),h⟩
   ·simp at hd
  ·simp at hd
 ·simp at hd
theorem pR {is:List Nat}{t:Nat}{e:Bool}(ht:T t=some (.lit (.bool e)))(h1:e=true->RD P tt N pl ops is (T.set t (.lit (.bool true))) H K)(h2:e=false->RD P tt N pl ops is (T.set t (.lit (.bool false))) H K):RD P tt N pl ops is T H K:=by
 cases e with
 | true=>exact aIg ht rfl (h1 rfl)
 | false=>exact aIg ht rfl (h2 rfl)
end drawn
end Go.Abs
namespace Go.Abs
open Go IntKind Go.RowKit
variable {P:Program} {H:Type} {enc:TypeId×Value->H} {w:World}
def QW (w:World):Gh:={ fx:=fun b o=>(w.cell? ⟨b,o,none⟩).isSome=true,n:=0,blk:=fun _=>0,off:=fun _=>0,k:=fun _=>0,cap:=fun _=>0 }
theorem aK8 (w:World):SR (QW w) w [] where
 len:=rfl
 fxc _ _ h:=h
 nt _ _ _ h:=by simp at h
 kk _ _ _ h:=by simp at h
 vec _ _ _ h:=by simp at h
 raw _ _ h:=by simp at h
 disj _ _ _ _ _ _ h:=by simp at h
 rawd _ _ _ _ h:=by simp at h
def KX (g:Gh)(w:World)(ys:List V)(cs:List Value):Prop:=ys.length=cs.length /\ ∀ (i:Nat) y c,ys[i]?=some y->cs[i]?=some c->Rep g w y c/\one c=true
theorem KX.append {g:Gh}{ys zs:List V}{cs ds:List Value}(h:KX g w ys cs)(k:KX g w zs ds):KX g w (ys++zs) (cs++ds):=by
 refine⟨by simp [h.1,k.1],fun i y c hy hc=>?_⟩;by_cases hi:i<ys.length
 ·rw [List.getElem?_append_left hi] at hy;rw [List.getElem?_append_left (by rw [←h.1];exact hi)] at hc;exact h.2 i y c hy hc
 ·rw [List.getElem?_append_right (by omega)] at hy;rw [List.getElem?_append_right (by rw [←h.1];omega),←h.1] at hc;exact k.2 _ y c hy hc
theorem KX.val {g:Gh}{y:V}{cs:List Value}(hn:jM y=true)(h:KX g w y.cells cs):∃ c,c.cells.toList=cs/\Rep g w y c:=by
 have single:y.cells=[y] -> ∃ c,c.cells.toList=cs/\Rep g w y c:=by
  intro hy;rw [hy] at h
  match cs,h.1 with
  | [c],_ =>
   obtain⟨h1,h2⟩:=h.2 0 y c rfl rfl;exact⟨c,by rw [xV h2],h1⟩
 cases y with
 | agg ys =>
  refine⟨.agg cs.toArray,rfl,.agg ys cs.toArray (by simpa [V.cells] using h.1) (fun i x y hx hy=>(h.2 i x y hx (by simpa using hy)).1) (fun i y hy=>?_)⟩
  have hlt:i<ys.length:=by
   rw [show ys.length=cs.length from h.1];have:=(Array.getElem?_eq_some_iff.1 hy).1
   simpa using this
  exact (h.2 i _ y (List.getElem?_eq_getElem hlt) (by simpa using hy)).2
 | tup=>simp [jM] at hn
 | _=>exact single rfl
def Small (P:Program)(t:TypeId)(d:DataW H):Prop:=(DataW.weights P t d).all (· <= reachBytes)=true
def LF (enc:TypeId×Value->H)(P:Program)(w:World)(t:TypeId){α:Type}(e:α->V)(ok:α->Prop):Prop :=
 ∀ fuel cs x,DataW.trod enc P w 0 (fun _=>true) true fuel t cs=some x->Small P t x.1 -> ∃ a:α,ok a/\KX (QW w) w (e a).cells cs
theorem KX.one {g:Gh}{y:V}{c:Value}(h:Rep g w y c)(h1:Abs.one c=true):KX g w [y] [c]:=by
 refine⟨rfl,fun i a b ha hb=>?_⟩
 cases i with
 | zero=>simp at ha hb; subst ha; subst hb; exact ⟨h,h1⟩
 | succ i=>simp at ha
theorem aKa {t:TypeId}{k:IntKind}(ht:P.underlying t=some (.int k)):LF enc P w t (cD k) (fun n=>(Lit.int k n).wf=true):=by
 intro fuel cs x h _;obtain⟨n,rfl,hx,hw⟩:=DataW.trod_int ht h;exact⟨n,hw,.one (.lit _ rfl) rfl⟩
theorem aGd {t:TypeId}(ht:P.underlying t=some .string):LF enc P w t tG (fun s=>s.size<=maxLen):=by
 intro fuel cs x h _;obtain⟨s,rfl,hx,hw⟩:=DataW.trod_string ht h;exact⟨s,hw,.one (.lit _ rfl) rfl⟩
def aCU (enc:TypeId×Value->H)(P:Program)(w:World)(fs:List Field)(o:Nat){α:Type}(c:α->List V)(ok:α->Prop):Prop :=
 ∀ n (xs:List (DataW H×List MemPlace)) (cs:List Value),xs.length=fs.length->(∀ (i:Nat) f,fs[i]?=some f->DataW.trod enc P w 0 (fun _=>true) true n f.type ((cs.drop f.offset).take (P.cellsOf f.type))=xs[i]?)->(∀ (i:Nat) f x,fs[i]?=some f->xs[i]?=some x->Small P f.type x.1) ->
  ∀ len,cs.length=len->len=o+(fs.map fun f=>P.cellsOf f.type).sum -> ∃ a:α,ok a/\KX (QW w) w (c a) (cs.drop o)
theorem YV {o:Nat}{α:Type}(a:α):aCU enc P w [] o (fun _:α=>[]) (fun _=>True):=by
 intro n xs cs _ _ _ len hl hs;refine⟨a,trivial,?_,by simp⟩;simp at hs ⊢;omega
theorem uW {f:Field} {fs:List Field} {o:Nat} {α β γ:Type} {e:α->V} {ok:α->Prop} {c:β->List V} {okc:β->Prop} (mk:α->β->γ) {c':γ->List V} {ok':γ->Prop} (ho:f.offset=o) (hf:LF enc P w f.type e ok) (hfs:aCU enc P w fs (o+P.cellsOf f.type) c okc)
  (hc:∀ a b,c' (mk a b)=(e a).cells++c b) (hk:∀ a b,ok a->okc b->ok' (mk a b)):aCU enc P w (f::fs) o c' ok':=by
 intro n xs cs hx hall hsm len hl hs;have h0:=hall 0 f rfl
 cases xs with
 | nil=>simp at hx
 | cons x xs =>
  simp only [List.getElem?_cons_zero] at h0;obtain⟨a,ha,hra⟩:=hf n _ x h0 (hsm 0 f x rfl rfl);obtain⟨b,hb,hrb⟩:=hfs n xs cs (by simpa using hx) (fun i g hg=>by simpa using hall (i+1) g (by simpa using hg)) (fun i g y hg hy=>hsm (i+1) g y (by simpa using hg) (by simpa using hy)) len hl (by simp at hs ⊢;omega);refine⟨mk a b,hk a b ha hb,?_⟩;rw [hc]
  have : cs.drop o=(cs.drop f.offset).take (P.cellsOf f.type)++cs.drop (o+P.cellsOf f.type):=by
   rw [ho,←List.drop_drop,List.take_append_drop]
  rw [this];exact hra.append hrb
theorem UE {t:TypeId}{fs:Array Field}{α:Type}{c:α->List V}{ok:α->Prop}(ht:P.underlying t=some (.struct fs))(hs:P.cellsOf t=(fs.toList.map fun f=>P.cellsOf f.type).sum)(h:aCU enc P w fs.toList 0 c ok):LF enc P w t (fun a=>.agg (c a)) ok:=by
 intro fuel cs x hx hsm;obtain⟨xs,n,rfl,rfl,hl,hlen,hall⟩:=DataW.trod_struct ht hx
 obtain⟨a,ha,hr⟩:=h n xs cs (by simpa using hlen) (fun i f hf=>hall i f (by simpa using hf)) (fun i f x hf hx'=>by
  refine List.all_eq_true.2 fun m hm=>?_;refine List.all_eq_true.1 hsm m ?_;simp only [DataW.weights,ht];exact DataW.weights_mem_each (j:=i) (t:=f.type) (d:=x.1) (by simp only [List.getElem?_map,hf,Option.map_some]) (by simp only [List.getElem?_map,hx',Option.map_some]) m hm) _ hl (by omega)
 exact⟨a,ha,by simpa [V.cells] using hr⟩
theorem aGb {α β:Type}{f:α->Option β}:∀ {l:List α} {r:List β},l.mapM f=some r->r.length=l.length /\ ∀ (i:Nat) x,l[i]?=some x->f x=r[i]?
 | [],r,h=>by simp at h; subst h; simp
 | a::l,r,h=>by
  rw [List.mapM_cons] at h;simp only [bind,Option.bind_eq_some_iff,pure,Option.some.injEq] at h;obtain⟨b,hb,r',hr,rfl⟩:=h;obtain⟨h1,h2⟩:=aGb hr;refine⟨by simp [h1],fun i x hx=>?_⟩
  cases i with
  | zero=>simp at hx; subst hx; simpa using hb
  | succ i=>simp at hx; simpa using h2 i x hx
theorem aLL {a:Addr}{n:Nat}{cs:List Value}(h:w.cells? 0 a n=some cs):cs.length=n /\ ∀ j,j<n->w.cell? (a.add j)=cs[j]? := by
 unfold World.cells? at h;simp only [Nat.zero_le,if_true] at h;obtain⟨h1,h2⟩:=aGb h;exact⟨by simpa using h1,fun j hj=>h2 j j (by simp [hj])⟩
theorem aGx {a:Addr}(h:a.spot=none)(n:Nat):a.add n=⟨a.block,a.off+n,none⟩:=by
 unfold Addr.add;split
 ·rename_i h0;subst h0;cases a;simp_all
 ·rfl
theorem aKc {a:Addr}{v:Value}(h:w.cell? a=some v):a.spot=none:=by
 unfold World.cell? at h;split at h
 ·split at h
  ·cases h
  ·rename_i hs;simpa using hs
 ·cases h
theorem WU {e:TypeId}:∀ {ds:List (DataW H)} {d:DataW H},d∈ds -> ∀ n∈d.weights P e,n∈DataW.weightsAll P e ds
 | [],_,h=>by cases h
 | a::r,d,h=>fun n hn=>by
  simp only [DataW.weightsAll,List.mem_append];rcases List.mem_cons.1 h with rfl | h
  ·exact .inl hn
  ·exact .inr (WU h n hn)
theorem aDd {t e:TypeId} {α:Type} [Inhabited α] {en:α->V} {ok:α->Prop} {fuel:Nat} {cs:List Value} {x:DataW H×List MemPlace} (ht:P.underlying t=some (.slice e)) (hk:0<P.cellsOf e) (hc:∀ a,(en a).cells.length=P.cellsOf e) (hn:∀ a,jM (en a)=true)
  (he:LF enc P w e en ok) (h:DataW.trod enc P w 0 (fun _=>true) true fuel t cs=some x) (hsm:Small P t x.1) :
  ∃ l:List α,(∀ a∈l,ok a)/\KX (QW w) w [eL en l] cs/\l.length*P.bytesOf e<=reachBytes/\(l=[] ∨ ∃ es sp,x.1=.slice es sp/\es.length=l.length):=by
 rcases DataW.trod_slice ht h with ⟨rfl,rfl⟩ | ⟨a,len,cap,elems,rest,n,_,rfl,rfl,_,hlc,hm,hlen,hel,_,_⟩
 ·exact⟨[],by simp,.one (.sl0 _ _ _ _ (by simp)) rfl,by simp,.inl rfl⟩
 ·-- the elements
  have each:∀ i,i<len -> ∃ b:α,ok b /\ ∃ c:Value,Rep (QW w) w (en b) c/\c.cells.size=P.cellsOf e /\ ∀ j,j<P.cellsOf e->w.cell? ((a.add (i*P.cellsOf e)).add j)=c.cells[j]? := by
   intro i hi;have h1:=hel i hi;rw [List.getElem?_eq_getElem (by omega)] at h1;simp only [Option.bind_eq_some_iff] at h1;obtain⟨ds,hds,htr⟩:=h1
   obtain⟨b,hb,hr⟩:=he n ds _ htr (by
    refine List.all_eq_true.2 fun m hm=>?_;refine List.all_eq_true.1 hsm m ?_;simp only [DataW.weights,ht,List.mem_cons,List.mem_append];exact .inr (.inl (WU (List.mem_map.2 ⟨_,List.getElem_mem (by omega),rfl⟩) m hm)))
   obtain⟨c,hcc,hrep⟩:=hr.val (hn b);obtain⟨l1,l2⟩:=aLL hds;refine⟨b,hb,c,hrep,by rw [←Array.length_toList,hcc,l1],fun j hj=>?_⟩;rw [l2 j hj,←hcc];simp
  have hspot:0<len->a.spot=none:=by
   intro h0;obtain⟨b,_,c,_,hs,hcell⟩:=each 0 h0;have h1:=hcell 0 hk;simp only [Nat.zero_mul] at h1;rw [Array.getElem?_eq_getElem (by omega)] at h1;have : (a.add 0).add 0=a:=by simp [Addr.add]
   rw [this] at h1;exact aKc h1
  let f:Nat->α:=fun i=>if h:i<len then Classical.choose (each i h) else default
  have hf:∀ i (h:i<len),f i=Classical.choose (each i h):=fun i h=>dif_pos h
  have hsz:len*P.bytesOf e<=reachBytes:=by
   have:=List.all_eq_true.1 hsm (((elems.map (·.1)).length+(rest.map (·.1)).length)*P.bytesOf e) (by simp [DataW.weights,ht]);refine Nat.le_trans (Nat.mul_le_mul_right _ ?_) (of_decide_eq_true this);simp;omega
  refine⟨(List.range len).map f,?_,?_,by simpa using hsz,.inr ⟨_,_,rfl,by simp [hlen]⟩⟩
  ·intro b hb;obtain⟨i,hi,rfl⟩:=List.mem_map.1 hb;have hi:i<len:=List.mem_range.1 hi;rw [hf i hi];exact (Classical.choose_spec (each i hi)).1
  ·refine .one ?_ rfl;by_cases h0:0<len
   ·have hs:=hspot h0
    let c:Nat->Value:=fun i=>if h:i<len then Classical.choose (Classical.choose_spec (each i h)).2 else default
    have hcc:∀ i (h:i<len),c i=Classical.choose (Classical.choose_spec (each i h)).2:=fun i h=>dif_pos h
    have spec:∀ i,i<len->Rep (QW w) w (en (f i)) (c i)/\(c i).cells.size=P.cellsOf e /\ ∀ j,j<P.cellsOf e->w.cell? ((a.add (i*P.cellsOf e)).add j)=(c i).cells[j]? := by
     intro i hi;rw [hf i hi,hcc i hi];exact Classical.choose_spec (Classical.choose_spec (each i hi)).2
    have addr:∀ i j,(a.add (i*P.cellsOf e)).add j=⟨a.block,a.off+i*P.cellsOf e+j,none⟩:=by
     intro i j;rw [aGx hs,aGx rfl]
    have hl:((List.range len).map f).length=len:=by simp
    have hgd:∀ i,i<len->((List.range len).map f).getD i default=f i:=by
     intro i hi;simp [List.getD_eq_getElem?_getD,hi]
    unfold eL;rw [hl];have ha:a=⟨a.block,a.off,none⟩:=by cases a;simp_all
    rw [ha];refine .sl len _ a.block a.off (P.cellsOf e) cap c (fun i hi=>by rw [hgd i hi];exact (spec i hi).1) (fun i hi=>(spec i hi).2.1) (fun i hi j x hx=>?_) (fun i hi j hj=>?_) hlc (fun i _=>hn _)
    ·have hj:j<P.cellsOf e:=by rw [←(spec i hi).2.1];exact (Array.getElem?_eq_some_iff.1 hx).1
     have:=(spec i hi).2.2 j hj;rw [addr] at this;rw [this,hx]
    ·have:=(spec i hi).2.2 j hj;rw [addr] at this;show (w.cell? _).isSome=true;rw [this,Array.getElem?_eq_getElem (by rw [(spec i hi).2.1];exact hj)];rfl
   ·have b5:len=0:=by omega
    subst b5;exact .sl0 _ _ _ _ (by simp)
theorem aBJ {t e:TypeId}{α:Type}[Inhabited α]{en:α->V}{ok:α->Prop}(ht:P.underlying t=some (.slice e))(hk:0<P.cellsOf e)(hc:∀ a,(en a).cells.length=P.cellsOf e)(hn:∀ a,jM (en a)=true)(he:LF enc P w e en ok){by':Nat}(hby:P.bytesOf e=by') :
  LF enc P w t (eL en) (fun l=>(∀ a∈l,ok a)/\l.length*by'<=140737488351232):=fun _ _ _ h hs =>
 let ⟨l,h1,h2,h3,_⟩:=aDd ht hk hc hn he h hs
 ⟨l,⟨h1,hby ▸ h3⟩,h2⟩
theorem aGP {g:Gh}{y:V}{v:Value}(hy:y.cells=[y])(hv:one v=true)(h:KX g w y.cells v.cells.toList):Rep g w y v:=by
 rw [hy,xV hv] at h;exact (h.2 0 y v rfl rfl).1
theorem aEA {t e:TypeId} {α:Type} [Inhabited α] {en:α->V} {ok:α->Prop} {d:DataW H} {ps:List MemPlace} {a:Option Addr} {len cap:Nat} (ht:P.underlying t=some (.slice e)) (hk:0<P.cellsOf e) (hc:∀ a,(en a).cells.length=P.cellsOf e) (hn:∀ a,jM (en a)=true)
  (he:LF enc P w e en ok) (h:DataW.Trod enc P w 0 (fun _=>true) true t (.slice a len cap) d ps) (hsm:Small P t d) :
  ∃ l:List α,(∀ a∈l,ok a)/\Rep (QW w) w (eL en l) (.slice a len cap)/\l.length*P.bytesOf e<=reachBytes/\(l=[] ∨ ∃ es sp,d=.slice es sp/\es.length=l.length):=by
 obtain⟨fuel,hf⟩:=h;obtain⟨l,h1,h2,h3,h4⟩:=aDd ht hk hc hn he hf hsm;exact⟨l,h1,aGP rfl rfl h2,h3,h4⟩
theorem aFW {ts:List TypeId}{ds:List (DataW H)}(hz:(DataW.weightsEach P ts ds).all (· <= reachBytes)=true){j:Nat}{t:TypeId}{d:DataW H}(ht:ts[j]?=some t)(hd:ds[j]?=some d):Small P t d :=
 List.all_eq_true.2 fun m hm=>List.all_eq_true.1 hz m (DataW.weights_mem_each ht hd m hm)
theorem aGX {ts:List TypeId}{ds:List (DataW H)}(hz:(DataW.weightsEach P ts ds).all (· <= reachBytes)=true){j:Nat}{t e:TypeId}{d:DataW H}{α:Type}{l:List α}(ht:ts[j]?=some t)(hd:ds[j]?=some d)(hu:P.underlying t=some (.slice e))(h:l=[] ∨ ∃ es sp,d=.slice es sp/\es.length=l.length) :
  l.length*P.bytesOf e<=reachBytes:=by
 rcases h with rfl | ⟨es,sp,rfl,hl⟩
 ·simp
 ·have:=sized_slice hz ht hd hu;rw [←hl];exact Nat.le_trans (Nat.mul_le_mul_right _ (Nat.le_add_right _ _)) this
theorem Ext.below {g:Gh}{w':World}{g':Gh}(h:Ext g w g' w')(h0:g.n=0):Below w.heap.size w w' :=
 ⟨h.os,h.tape,h.output,h.size,fun k hk=>h.keep k hk (fun l hl=>by omega)⟩
theorem aJv {f:FuncId}{args:List V}{vs:Array Value}{b:Value}(h:cW P f args (.lit b))(hl:args.length=vs.size)(hr:∀ (i:Nat) x y,args[i]?=some x->vs[i]?=some y->Rep (QW w) w x y) :
  Calls P f vs w fun e w'=>e=.returned b/\Below w.heap.size w w':=by
 refine ((h []).2 (QW w) w vs (aK8 w) hl hr).mono ?_;rintro e w' ⟨v,r,g',H',rfl,hrep,_,hx,rfl,_⟩
 cases hrep
 exact⟨rfl,hx.below rfl⟩
def aAy (g:Gh)(w:World):List V->List Value->Prop
 | [],[]=>True
 | x::xs,y::ys=>Rep g w x y/\aAy g w xs ys
 | _,_=>False
theorem aAy.get {g:Gh}:∀ {xs:List V} {ys:List Value},aAy g w xs ys->xs.length=ys.length /\ ∀ (i:Nat) x y,xs[i]?=some x->ys[i]?=some y->Rep g w x y
 | [],[],_=>by simp
 | x::xs,y::ys,h=>by
  obtain⟨h1,h2⟩:=aAy.get h.2;refine⟨by simp [h1],fun i a b ha hb=>?_⟩
  cases i with
  | zero=>simp at ha hb; subst ha; subst hb; exact h.1
  | succ i=>simp at ha hb; exact h2 i a b ha hb
 | [],_::_,h=>h.elim
 | _::_,[],h=>h.elim
theorem aMB {f:FuncId}{args:List V}{vs:List Value}{b:Value}(h:cW P f args (.lit b))(hr:aAy (QW w) w args vs):Calls P f vs.toArray w fun e w'=>e=.returned b/\Below w.heap.size w w':=by
 obtain⟨h1,h2⟩:=hr.get;exact aJv h (by simpa using h1) (fun i x y hx hy=>h2 i x y hx (by simpa using hy))
def sE (n:Int):Prop := -9223372036854775808<=n/\n<=9223372036854775807
theorem aNr {n:Int}(h:(Lit.int .i64 n).wf=true):sE n:=by
 simp [Lit.wf,IntKind.min,IntKind.max,IntKind.signed,IntKind.bits] at h;unfold sE;omega
theorem MP {t:TypeId}(ht:P.underlying t=some (.int .i64)):LF enc P w t (cD .i64) sE:=fun fuel cs x h hs =>
 let ⟨a,h1,h2⟩:=aKa ht fuel cs x h hs
 ⟨a,aNr h1,h2⟩
end Go.Abs
namespace Go.Abs
open Go IntKind Go.RowKit
variable {P:Program} {tt:TT} {g:Gh} {w:World} {H:bA}
theorem TR.YO {g':Gh}{w':World}{T:Env}{tmps:Array Value}(h:TR g w T tmps)(e:Ext0 g w g' w'):TR g' w' T tmps :=
 fun t c x ht=>⟨fun hc=>let ⟨v,hv,hr⟩:=(h t c x ht).1 hc;⟨v,hv,hr.ext e⟩,(h t c x ht).2⟩
def EA:Sp where
 p _ _ _ o:=o=.deferred (some [])
 st _ h:=h
structure QM where
 N:Nat
 T:List (Nat×V)
 ps:Array Tmp
 asg:Code
 body:Code
def qZ (b:Nat)(A:QM)(st:LoopState)(pe:Option Code):Sp where
 p g w b' o:=b'=b /\ ∃ r:Loop,o=.loop r/\r.state=st/\r.pending=pe/\r.params=A.ps/\r.assign=A.asg/\r.body=A.body/\r.tmps.size=A.N/\TR g w (Env.ofL A.T) r.tmps
 st e h:=by
  obtain⟨h0,r,h1,h2,h3,h4,h5,h6,h7,h8⟩:=h;exact⟨h0,r,h1,h2,h3,h4,h5,h6,h7,h8.YO e⟩
theorem SR.aMD (h:SR g w H){b:Nat}{o:Obj}(s:Sp)(hb:w.heap[b]?=some o)(ho:o.isCells=false)(hs:s.p (g.more b 0 0 0) w b o)(hd:∀ l s',H[l]?=some (.raw s')->g.blk l≠b):SR (g.more b 0 0 0) w (H++[.raw s]):=by
 have e:Ext0 g w (g.more b 0 0 0) w:=aEs
 have hat:∀ l ob,(H++[.raw s])[l]?=some ob->(l<g.n/\H[l]?=some ob)∨(l=g.n/\ob=.raw s):=by
  intro l ob hl;rw [List.getElem?_append] at hl;split at hl
  ·rename_i hlt;exact .inl ⟨by rw [←h.len];exact hlt,hl⟩
  ·have hlen:=h.len
   have h0:l-H.length=0:=by
    have:=(List.getElem?_eq_some_iff.1 hl).1;simp at this;omega
   rw [h0] at hl;simp at hl;exact .inr ⟨by omega,hl.symm⟩
 refine { len:=by simp [Gh.more,h.len],fxc:=h.fxc,nt:=?_,kk:=?_,vec:=?_,raw:=?_,disj:=?_,rawd:=?_ }
 ·intro l k' es hl;rcases hat l _ hl with ⟨_,hl'⟩ | ⟨_,he⟩
  ·exact h.nt l k' es hl'
  ·cases he
 ·intro l k' es hl;rcases hat l _ hl with ⟨hlt,hl'⟩ | ⟨_,he⟩
  ·rw [e.k l hlt];exact h.kk l k' es hl'
  ·cases he
 ·intro l k' es hl;rcases hat l _ hl with ⟨hlt,hl'⟩ | ⟨_,he⟩
  ·obtain⟨h1,⟨c',hc'⟩,h3⟩:=h.vec l k' es hl';have e1:=e.blk l hlt;have e2:=e.off l hlt;have e3:=e.k l hlt;have e4:=e.cap l hlt;rw [e1,e2,e3,e4];exact⟨h1,⟨c',fun i x hx=>⟨(hc' i x hx).1.ext e,(hc' i x hx).2⟩⟩,h3⟩
  ·cases he
 ·intro l s' hl;rcases hat l _ hl with ⟨hlt,hl'⟩ | ⟨rfl,he⟩
  ·rw [e.blk l hlt];obtain⟨o,h1,h2,h3⟩:=h.raw l s' hl';exact⟨o,h1,h2,s'.st e h3⟩
  ·cases he
   simp only [Gh.more,gU];exact⟨o,hb,ho,hs⟩
 ·intro l l' k1 k2 es es' hl hl' hne j j' hj hj';rcases hat l _ hl with ⟨hlt,b5⟩ | ⟨_,he⟩
  ·rcases hat l' _ hl' with ⟨hlt',hl1'⟩ | ⟨_,he'⟩
   ·rw [e.blk l hlt,e.off l hlt,e.blk l' hlt',e.off l' hlt'];rw [e.k l hlt,e.cap l hlt] at hj;rw [e.k l' hlt',e.cap l' hlt'] at hj';exact h.disj l l' k1 k2 es es' b5 hl1' hne j j' hj hj'
   ·cases he'
  ·cases he
 ·intro l l' o1 o2 hl hl' hne;rcases hat l _ hl with ⟨hlt,b5⟩ | ⟨b6,he⟩ <;> rcases hat l' _ hl' with ⟨hlt',hl1'⟩ | ⟨he0',he'⟩
  ·rw [e.blk l hlt,e.blk l' hlt'];exact h.rawd l l' o1 o2 b5 hl1' hne
  ·subst he0';rw [e.blk l hlt];simp only [Gh.more,gU];exact hd l o1 b5
  ·subst b6;rw [e.blk l' hlt'];simp only [Gh.more,gU];exact (hd l' o2 hl1').symm
  ·exact absurd (b6.trans he0'.symm) hne
theorem SR.aA3 (h:SR g w H)(o:Obj)(ho:o.isCells=false)(s:Sp)(hs:s.p (g.more w.heap.size 0 0 0) (w.alloc o) w.heap.size o) :
  SR (g.more w.heap.size 0 0 0) (w.alloc o) (H++[.raw s])/\Ext g w (g.more w.heap.size 0 0 0) (w.alloc o):=by
 obtain⟨h1,e1⟩:=h.alloc o;refine⟨h1.aMD s (World.alloc_heap_new w o) ho hs (fun l s' hl=>?_),e1.more (.inl (Nat.le_refl _))⟩;have:=h.aJ6 hl;omega
theorem cell?_putObj {b:Nat}{o:Obj}{a:Addr}(h:a.1≠b):(w.putObj b o).cell? a=w.cell? a:=by
 unfold World.cell?;rw [World.putObj_heap_other h]
theorem frozen?_putObj {b:Nat}{o:Obj}{a:Addr}(h:a.1≠b):(w.putObj b o).frozen? a=w.frozen? a:=by
 unfold World.frozen?;rw [World.putObj_heap_other h]
theorem cell?_none_of_raw {b o:Nat}{ob:Obj}(h:w.heap[b]?=some ob)(hc:ob.isCells=false):w.cell? ⟨b,o,none⟩=none:=by
 unfold World.cell?;rw [h]
 cases ob <;> simp_all [Obj.isCells]
theorem SR.AK (h:SR g w H){l:Nat}{s:Sp}(hl:H[l]?=some (.raw s))(o':Obj)(ho':o'.isCells=false)(s':Sp)(hs':s'.p g (w.putObj (g.blk l) o') (g.blk l) o') :
  SR g (w.putObj (g.blk l) o') (H.set l (.raw s'))/\Ext g w g (w.putObj (g.blk l) o'):=by
 obtain⟨o,hb,ho,_⟩:=h.raw l s hl;have hlt:l<H.length:=(List.getElem?_eq_some_iff.1 hl).1;have hln:l<g.n:=by rw [←h.len];exact hlt
 have e:Ext g w g (w.putObj (g.blk l) o') :=
  {fx:=fun _ _ h=>h,cell:=fun b' o1 hf=>cell?_putObj (by
    intro he;have h1:=h.fxc b' o1 hf;have he':b'=g.blk l:=he;rw [he',cell?_none_of_raw hb ho] at h1;cases h1),
   n:=Nat.le_refl _,blk:=fun _ _=>rfl,off:=fun _ _=>rfl,k:=fun _ _=>rfl,cap:=fun _ _=>rfl,
   size:=by simp,os:=rfl,tape:=rfl,output:=rfl,keep:=fun b' _ hb'=>World.putObj_heap_other (fun he=>hb' l hln he.symm),newblk:=fun l h1 h2=>absurd h2 (by omega) }
 refine⟨?_,e⟩
 have hat:∀ l' ob,(H.set l (.raw s'))[l']?=some ob->(l'=l/\ob=.raw s')∨(l'≠l/\H[l']?=some ob):=by
  intro l' ob hl';rw [List.getElem?_set] at hl';split at hl'
  ·rename_i heq
   simp [heq ▸ hlt] at hl';exact .inl ⟨heq.symm,hl'.symm⟩
  ·rename_i hne;exact .inr ⟨fun e=>hne e.symm,hl'⟩
 have c4:∀ (l':Nat) (ob:fD),(H.set l fD.dead)[l']?=some ob->ob≠fD.dead->l'≠l/\H[l']?=some ob:=by
  intro l' ob hl' hne;by_cases heq:l'=l
  ·subst heq;rw [List.getElem?_set] at hl';simp [hlt] at hl';exact absurd hl'.symm hne
  ·exact⟨heq,by rwa [List.getElem?_set_ne (Ne.symm heq)] at hl'⟩
 have hm:SR g (w.putObj (g.blk l) o') (H.set l .dead):=(h.kill l).move e (fun l' k1 b7 b5 j hj=>by
  obtain⟨_,b6⟩:=c4 l' _ b5 (by simp)
  have hne:g.blk l'≠g.blk l:=by
   intro he;have h1:=((h.vec l' k1 b7 b6).2.2 j hj).1;rw [he,cell?_none_of_raw hb ho] at h1;cases h1
  exact⟨cell?_putObj hne,frozen?_putObj hne⟩) (fun l' s1 b5=>by
  obtain⟨hne,b6⟩:=c4 l' _ b5 (by simp);exact World.putObj_heap_other (h.rawd l' l s1 s b6 hl hne))
 have back:∀ l' ob,l'≠l->H[l']?=some ob->(H.set l fD.dead)[l']?=some ob:=fun l' ob hne hl'=>by rw [List.getElem?_set_ne (Ne.symm hne)];exact hl'
 refine { len:=by simp [h.len],fxc:=hm.fxc,nt:=?_,kk:=?_,vec:=?_,raw:=?_,disj:=?_,rawd:=?_ }
 ·intro l' k1 b7 b5;rcases hat _ _ b5 with ⟨_,he⟩ | ⟨_,b6⟩
  ·cases he
  ·exact h.nt l' k1 b7 b6
 ·intro l' k1 b7 b5;rcases hat _ _ b5 with ⟨_,he⟩ | ⟨_,b6⟩
  ·cases he
  ·exact h.kk l' k1 b7 b6
 ·intro l' k1 b7 b5;rcases hat _ _ b5 with ⟨_,he⟩ | ⟨hne,b6⟩
  ·cases he
  ·exact hm.vec l' k1 b7 (back _ _ hne b6)
 ·intro l' s1 b5;rcases hat _ _ b5 with ⟨rfl,he⟩ | ⟨hne,b6⟩
  ·cases he
   exact⟨o',World.putObj_heap_same (Array.getElem?_eq_some_iff.1 hb).1,ho',hs'⟩
  ·exact hm.raw l' s1 (back _ _ hne b6)
 ·intro a b k1 k2 b7 c6 ha c5 hne;rcases hat _ _ ha with ⟨_,he⟩ | ⟨_,b8⟩
  ·cases he
  ·rcases hat _ _ c5 with ⟨_,he⟩ | ⟨_,b9⟩
   ·cases he
   ·exact h.disj _ _ _ _ _ _ b8 b9 hne
 ·intro a b s1 s2 ha c5 hne;rcases hat _ _ ha with ⟨rfl,_⟩ | ⟨_,b8⟩ <;> rcases hat _ _ c5 with ⟨rfl,_⟩ | ⟨_,b9⟩
  ·exact absurd rfl hne
  ·exact h.rawd _ _ _ _ hl b9 hne
  ·exact h.rawd _ _ _ _ b8 hl hne
  ·exact h.rawd _ _ _ _ b8 b9 hne
def aNN (b lL:Nat)(A:QM)(Q:V->bA->Prop):Exit->Env->bA->List Nat->Prop
 | .normal,_,H,_=>H[lL]?=some (.raw (qZ b A .busy none))/\Q (aL true) (H.set lL (.raw (qZ b A .ready none)))
 | .ret,_,H,_=>H[lL]?=some (.raw (qZ b A .busy none))/\Q (aL false) (H.set lL (.raw (qZ b A .done (some .ret))))
 | .exit id,_,H,_=>H[lL]?=some (.raw (qZ b A .busy none))/\Q (aL false) (H.set lL (.raw (qZ b A .done (some (.exit id)))))
 | _,_,_,_=>False
def aCX:List Tmp->List V->List (Nat×V)->List (Nat×V)
 | t::ts,x::xs,T=>aCX ts xs ((t,x)::T)
 | _,_,T=>T
theorem aMN {T:List (Nat×V)}{tmps:Array Value}(h:TR g w (Env.ofL T) tmps){t:Nat}{x:V}{v:Value}(ht:t<tmps.size)(hr:Rep g w x v):TR g w (Env.ofL ((t,x)::T)) (tmps.setIfInBounds t v):=by
 intro t' c y hy
 have hc0:c=[]:=by
  simp only [Env.ofL] at hy;split at hy
  ·simp at hy;exact hy.1
  ·clear h
   induction T with
   | nil=>simp [Env.ofL] at hy
   | cons p r ih =>
    simp only [Env.ofL] at hy;split at hy
    ·simp at hy;exact hy.1
    ·exact ih hy
 subst hc0;have hok:∀ a:Array Value,eJ a []:=fun a p hp=>by simp at hp
 refine⟨fun _=>?_,fun hn=>absurd (hok _) hn⟩;simp only [Env.ofL] at hy;split at hy
 ·rename_i hb
  have : t'=t:=Nat.eq_of_beq_eq_true hb;subst this;simp at hy;subst hy;exact⟨v,by simp [ht],hr⟩
 ·rename_i hb
  have hne:t'≠t:=fun he=>by subst he;simp at hb
  obtain⟨v',hv',hr'⟩:=(h t' [] y hy).1 (hok _);exact⟨v',by rw [Array.getElem?_setIfInBounds_ne (Ne.symm hne)];exact hv',hr'⟩
theorem aFn:∀ (ts:List Tmp) (xs:List V) (vs:List Value) (T:List (Nat×V)) (tmps:Array Value),TR g w (Env.ofL T) tmps->(∀ t∈ts,t<tmps.size)->xs.length=vs.length->ts.length=xs.length ->
  (∀ (i:Nat) x y,xs[i]?=some x->vs[i]?=some y->Rep g w x y) ->
  TR g w (Env.ofL (aCX ts xs T)) ((ts.zip vs).foldl (fun tmps (p:Tmp×Value)=>tmps.setIfInBounds p.1 p.2) tmps)/\((ts.zip vs).foldl (fun tmps (p:Tmp×Value)=>tmps.setIfInBounds p.1 p.2) tmps).size=tmps.size
 | [],xs,vs,T,tmps,h,_,_,hl,_=>by
  have : xs=[]:=List.length_eq_zero_iff.1 (by simpa using hl.symm);subst this;exact⟨by simpa [aCX] using h,by simp⟩
 | t::ts,[],vs,T,tmps,_,_,_,hl,_=>by simp at hl
 | t::ts,x::xs,[],T,tmps,_,_,hl,_,_=>by simp at hl
 | t::ts,x::xs,v::vs,T,tmps,h,hb,hl,b5,hr=>by
  have h1:=aMN h (hb t (by simp)) (hr 0 x v rfl rfl);have:=aFn ts xs vs ((t,x)::T) (tmps.setIfInBounds t v) h1 (fun t' ht'=>by simpa using hb t' (by simp [ht'])) (by simpa using hl) (by simpa using b5) (fun i x' y' hx hy=>hr (i+1) x' y' (by simpa using hx) (by simpa using hy))
  simpa [aCX] using this
def aOG (P:Program)(b lL:Nat)(A:QM)(Q:V->bA->Prop):Exit->Env->bA->List Nat->Prop :=
 fun e T H ds=>e=.normal/\ds=[]/\H[lL]?=some (.raw (qZ b A .ready none)) /\ ∀ o1,o1=fD.raw (qZ b A .busy none)->AWP P (some b) A.N A.body T (H.set lL o1) [] (aNN b lL A Q)
theorem TV {b lL:Nat} {A:QM} {args:List V} {Q:V->bA->Prop} (hl:H[lL]?=some (.raw (qZ b A .ready none))) (hn:args.length=A.ps.size) (hps:A.ps.toList.all (fun t=>Nat.blt t A.N)=true)
  (h:AWP P (some b) A.N A.asg (Env.ofL (aCX A.ps.toList args A.T)) H [] (aOG P b lL A Q)):XZ P b args H Q:=by
 intro g w vs hs hlen hrep;obtain⟨o,b9,e5,hbb,r,rfl,hst,hpe,hpa,has,hbo,hsz,htr⟩:=hs.raw lL _ hl;rw [hbb] at b9;have hsize:vs.size=r.params.size:=by rw [hpa,←hn,hlen]
 refine⟨r.fn,_,r.assign,r.body,run_yield b9 hsize,?_⟩;refine roundIn_of_wpIn (F:=FR none) trivial ?_;rw [has]
 have hfold:((r.params.zip vs).foldl (fun tmps (t,a)=>tmps.setIfInBounds t a) r.tmps)=((A.ps.toList.zip vs.toList).foldl (fun tmps (p:Tmp×Value)=>tmps.setIfInBounds p.1 p.2) r.tmps):=by
  rw [←Array.foldl_toList,Array.toList_zip,hpa]
 rw [hfold]
 obtain⟨t1,t2⟩:=aFn A.ps.toList args vs.toList A.T r.tmps htr (fun t ht=>by
  have:=List.all_eq_true.1 hps t ht;rw [hsz];simpa using this) (by simpa using hlen) (by simpa using hn.symm) (fun i x y hx hy=>hrep i x y hx (by simpa using hy))
 refine h g _ _ _ ⟨hs,t1,rfl,by simp,by rw [←hsz];exact t2⟩ ?_;rintro e T1 H1 e6 g1 w1 a1 ⟨rfl,rfl,b7,hbody⟩ b5 hx1;obtain⟨o1,ho1',ho2',b6,r1,rfl,c4,c5,c6,c7,c8,c9,e3⟩:=b5.sr.raw lL _ b7;rw [b6] at ho1';have hbe:(Instr.beginRound b).run P w1=.ok () (w1.putObj b (.loop { r1 with state:=.busy })):=run_beginRound ho1' c4
 have hset:=b5.sr.AK b7 (.loop { r1 with state:=.busy }) rfl (qZ b A .busy none) (by
  refine⟨b6,_,rfl,rfl,c5,c6,c7,c8,c9,e3.YO ?_⟩;exact (b5.sr.AK b7 (.loop { r1 with state:=.busy }) rfl ⟨fun _ _ _ _=>True,fun _ _=>trivial⟩ trivial).2.toExt0)
 rw [b6] at hset;refine⟨_,hbe,?_⟩;have h:=hbody _ rfl;rw [←hbo] at h;refine h g1 _ _ _ ⟨hset.1,b5.tr.YO hset.2.toExt0,b5.df,by simp,b5.sz⟩ ?_;intro e T' H' ds' g' w' a' hq hg hx
 have fin:∀ (jump:Option Code) (st:LoopState),st=(if jump.isNone then .ready else .done)->H'[lL]?=some (.raw (qZ b A .busy none))->Q (aL jump.isNone) (H'.set lL (.raw (qZ b A st jump))) ->
   ∃ v w2,(Instr.endRound b jump).run P w'=.ok v w2 /\ ∃ v2 r2 g2 H2,Ending.returned v=Ending.returned v2/\Rep g2 w2 r2 v2/\SR g2 w2 H2/\Ext g w g2 w2/\Q r2 H2:=by
  intro jump st hst b8 e4;obtain⟨o2,q1,q2,qb,r2,rfl,z1,z2,z3,z4,z5,z6,z7⟩:=hg.sr.raw lL _ b8;rw [qb] at q1
  have s2:=hg.sr.AK b8 (.loop { r2 with state:=if jump.isNone then .ready else .done,pending:=jump }) rfl (qZ b A st jump) (by
   refine⟨qb,_,rfl,hst.symm,rfl,z3,z4,z5,z6,z7.YO ?_⟩;exact (hg.sr.AK b8 (.loop { r2 with state:=if jump.isNone then .ready else .done,pending:=jump }) rfl ⟨fun _ _ _ _=>True,fun _ _=>trivial⟩ trivial).2.toExt0)
  rw [qb] at s2;exact⟨_,_,run_endRound jump q1,_,aL jump.isNone,g',_,rfl,.lit _ rfl,s2.1,((hx1.trans hset.2).trans hx).trans s2.2,e4⟩
 cases e with
 | normal=>exact fin none .ready rfl hq.1 hq.2
 | ret=>exact fin (some .ret) .done rfl hq.1 hq.2
 | exit id=>exact fin (some (.exit id)) .done rfl hq.1 hq.2
 | _=>exact hq.elim
def yv (b:Nat):V:=.lit (.func (.yield b) #[] #[])
theorem aNe {N:Nat} {c:Code} {l:List (Nat×V)} {ds:List Nat} {Q:Exit->Env->bA->List Nat->Prop} {fid:Nat} {ys cs:List V} (hk:c.kind=9) (hf:dD (Env.ofL l) [] c.cnd=some (.fn (.func fid) ys cs)) {ps:Array Tmp} (hps:c.rps=ps)
  (h:∀ b,pO P fid (ys++[yv b]++cs) (H++[.raw EA,.raw (qZ b ⟨N,l,ps,c.asg,c.b⟩ .ready none)]) (fun _ H'=>∃ st pe,H'[H.length+1]?=some (.raw (qZ b ⟨N,l,ps,c.asg,c.b⟩ st pe))/\st ≠ .busy /\
   (match pe with
    | none=>Cl N Q .normal (Env.ofL l) (H'.set (H.length+1) .dead) (H.length::ds)
    | some c'=>AWP P none N c' (Env.ofL l) (H'.set (H.length+1) .dead) (H.length::ds) Q))):AWP P none N c (Env.ofL l) H ds Q:=by
 cases c with
 | rangeFunc fo ps' asg body =>
  simp only [Code.rps] at hps;subst hps;simp only [Code.cnd] at hf;simp only [Code.asg,Code.b] at h;intro g w a R hg hr;refine wpIn_rangeFunc ?_;intro fn _
  -- the two blocks
  have n1:=hg.sr.aA3 (.deferred (some [])) rfl EA rfl;obtain⟨s1,e1⟩:=n1;obtain⟨w1,hw1⟩:∃ w1,w1=w.alloc (.deferred (some [])):=⟨_,rfl⟩;obtain⟨g1,b5⟩:∃ g1,g1=g.more w.heap.size 0 0 0:=⟨_,rfl⟩;rw [←hw1,←b5] at s1 e1;obtain⟨rec,hrec⟩:∃ rec:Loop,rec={ state:=.ready,pending:=none,fn,tmps:=a.tmps,params:=ps',assign:=asg,body,defers:=w.heap.size }:=⟨_,rfl⟩;have b6:TR g1 w1 (Env.ofL l) a.tmps:=hg.tr.YO e1.toExt0
  have n2:=s1.aA3 (.loop rec) rfl (qZ w1.heap.size ⟨N,l,ps',asg,body⟩ .ready none) ⟨rfl,rec,rfl,by rw [hrec],by rw [hrec],by rw [hrec],by rw [hrec],by rw [hrec],by rw [hrec];exact hg.sz,by
   have ht:rec.tmps=a.tmps:=by rw [hrec]
   rw [ht];exact b6.YO ((s1.aA3 (.loop rec) rfl ⟨fun _ _ _ _=>True,fun _ _=>trivial⟩ trivial).2.toExt0)⟩
  obtain⟨s2,e2⟩:=n2;rw [List.append_assoc] at s2;have hsize:w1.heap.size=w.heap.size+1:=by rw [hw1];simp
  have henter:(Instr.enterLoop fn a.tmps ps' asg body (FR none).round).run P w=.ok (w1.heap.size,[{ target:=.collected w.heap.size,args := #[] }]) (w1.alloc (.loop rec)):=by
   rw [hsize,hrec,hw1];exact run_enterLoop_outer fn a.tmps ps' asg body
  obtain⟨fs,cap,hfv,l1,l2,g1',g2'⟩:=(dG (b6.YO e2.toExt0) (a:=a) (by intro p hp;simp at hp) hf).fnE;obtain⟨hent,hcalls⟩:=h w1.heap.size;have hargs:(ys++[yv w1.heap.size]++cs).length=(fs ++ #[Value.func (.yield w1.heap.size) #[] #[]]++cap).size:=by simp [l1,l2];omega
  refine⟨w1.heap.size,[{ target:=.collected w.heap.size,args := #[] }],w1.alloc (.loop rec),⟨.fn (.func fid) cap,fs ++ #[Value.func (.yield w1.heap.size) #[] #[]]⟩,w1.alloc (.loop rec),fid,fs ++ #[Value.func (.yield w1.heap.size) #[] #[]]++cap,w1.alloc (.loop rec),henter,?_,fun _ _=>trivial,?_,fun h=>by simp [FR,Fence.wide] at h,?_⟩
  ·have hm:Array.map a.eval #[Operand.const (Value.func (.yield w1.heap.size) #[] #[])]=#[Value.func (.yield w1.heap.size) #[] #[]]:=by
    simp [Act.eval]
   simp only [rangeCall,resolve,hfv,Deferred.ofValue,Sem.run_bind,Sem.run_pure,Result.andThen,hm]
  ·simp only [invoke,hent]
  ·refine ZG ?_
   obtain⟨l4,g4⟩:=SP (xs:=ys) (ys:=[yv w1.heap.size]) (as0:=fs) (bs := #[Value.func (.yield w1.heap.size) #[] #[]]) l1 rfl g1' (fun i x y hx hy=>by
    cases i with
    | zero=>simp at hx hy; subst hx; subst hy; exact .lit _ rfl
    | succ i=>simp at hx)
   obtain⟨l5,g5⟩:=SP l4 l2 g4 g2';refine (hcalls _ _ _ s2 l5 g5).mono ?_;rintro e w3 ⟨v,r,g3,H3,rfl,_,s3,x3,st,pe,hL,hb,hq⟩;have hlen:H.length+1<H3.length:=(List.getElem?_eq_some_iff.1 hL).1;obtain⟨o3,q1,q2,qb,r3,rfl,z1,z2,z3,z4,z5,z6,z7⟩:=s3.raw _ _ hL;rw [qb] at q1;have s4:=s3.AK hL (.loop { r3 with state:=.exhausted }) rfl ⟨fun _ _ _ _=>True,fun _ _=>trivial⟩ trivial;rw [qb] at s4;obtain⟨s4,x4⟩:=s4;have s5:=s4.kill (H.length+1);rw [List.set_set] at s5;have hxx:Ext g w g3 (w3.putObj w1.heap.size (.loop { r3 with state:=.exhausted })):=((e1.trans e2).trans x3).trans x4
   have hgood:Good N g3 (w3.putObj w1.heap.size (.loop { r3 with state:=.exhausted })) (Env.ofL l) (H3.set (H.length+1) .dead) (H.length::ds) { a with defers:=[{ target:=.collected w.heap.size,args := #[] }]++a.defers }:=by
    refine⟨s5,hg.tr.YO hxx.toExt0,?_,?_,hg.sz⟩
    ·have hlt:H.length<(g.more w.heap.size 0 0 0).n:=by simp [Gh.more,hg.sr.len]
     have hblk:g3.blk H.length=w.heap.size:=by
      rw [x3.blk H.length (by rw [←s2.len];simp),e2.blk H.length (by rw [b5];exact hlt),b5,hg.sr.len];simp [Gh.more,gU]
     rw [List.map_cons,hg.df];have : mkD g3 H.length={ target:=.collected w.heap.size,args := #[] }:=by simp [mkD,hblk]
     rw [this];show _::_=_::_
     congr 1
     apply List.map_congr_left;intro l' hl';simp only [mkD,hxx.blk l' (hg.dl l' hl')]
    ·intro l' hl';rcases List.mem_cons.1 hl' with rfl | hl'
     ·rw [←s3.len];omega
     ·exact Nat.lt_of_lt_of_le (hg.dl l' hl') hxx.n
   refine⟨_,_,run_endLoop q1 (by rw [z1];exact hb),?_⟩;split
   ·rename_i hp
    have hpe:pe=none:=z2.symm.trans hp;subst hpe;obtain⟨g5,T5,H5,b7,b8,b9⟩:=hq _ _ _ hgood;exact hr _ _ _ _ _ _ _ b9 b7 (hxx.trans b8)
   ·rename_i c' hp
    have hpe:pe=some c':=z2.symm.trans hp;subst hpe;exact hq _ _ _ _ hgood fun e T' H' ds' g' w' a' hq' hg' hx'=>hr e T' H' ds' g' w' a' hq' hg' (hxx.trans hx')
 | region i o d=>cases d <;> simp [Code.kind] at hk
 | _=>simp [Code.kind] at hk
end Go.Abs
namespace Go.Abs
open Go IntKind Go.RowKit
variable {P:Program} {tt:TT} {g:Gh} {w:World} {H:bA}
def shut:List Nat->bA->bA
 | [],H=>H
 | l::r,H=>shut r (H.set l .dead)
def MB (tt:TT)(T:Env)(H:bA):List ResultVar->List V->Prop
 | [],[]=>True
 | .tmp t::r,x::xs=>T t=some ([],x)/\MB tt T H r xs
 | .cell a t::r,x::xs=>(∃ l i o k es y,T a=some ([],.lp l i o)/\H[l]?=some (.vec k es)/\es[i]?=some y/\(∃ e,tt t=some e)/\YQ tt t y o=some x)/\MB tt T H r xs
 | _,_=>False
def aAd:List V->V
 | [x]=>x
 | xs=>.tup xs
theorem aCg (htt:jO P tt){T:Env}{tmps:Array Value}(hs:SR g w H)(h:TR g w T tmps):∀ {rs:List ResultVar} {xs:List V},MB tt T H rs xs ->
  ∃ vs:List Value,(rs.mapM fun | .tmp t=>pure (tmps.getD t undef) | .cell a t=>do loadVar t (←asAddr (tmps.getD a undef)):Sem (List Value)).run P w=.ok vs w/\xs.length=vs.length /\
   ∀ (i:Nat) x y,xs[i]?=some x->vs[i]?=some y->Rep g w x y
 | [],[],_=>⟨[],rfl,rfl,by simp⟩
 | [],_::_,he=>he.elim
 | .tmp t::r,[],he=>he.elim
 | .cell a t::r,[],he=>he.elim
 | .tmp t::r,x::xs,he=>by
  obtain⟨ht,hr⟩:=he;obtain⟨v,hv,hrep⟩:=(h t [] x ht).1 (by simp [eJ]);obtain⟨vs,h1,h2,h3⟩:=aCg htt hs h hr;refine⟨v::vs,?_,by simp [h2],fun i a b ha hb=>?_⟩
  ·simp only [List.mapM_cons,Sem.run_bind,Sem.run_pure,Result.andThen,h1];simp [hv]
  ·cases i with
   | zero=>simp at ha hb; subst ha; subst hb; exact hrep
   | succ i=>simp at ha hb; exact h3 i a b ha hb
 | .cell a t::r,x::xs,he=>by
  obtain⟨⟨l,i,o,k,es,y,ht,hl,hy,⟨e,hte⟩,hx⟩,hr⟩:=he;obtain⟨v,hv,hrep⟩:=(h a [] _ ht).1 (by simp [eJ]);obtain⟨u,hu,hru⟩:=aDv (P:=P) htt hs hte hl hy hrep hx;obtain⟨hln,rfl⟩:=hrep.lpE;obtain⟨vs,h1,h2,h3⟩:=aCg htt hs h hr;have hu':(loadVar t ⟨g.blk l,g.off l+i*g.k l+o,none⟩).run P w=.ok u w:=hu;refine⟨u::vs,?_,by simp [h2],fun j p q ha hb=>?_⟩
  ·have hg:tmps.getD a undef=.pointer (some ⟨g.blk l,g.off l+i*g.k l+o,none⟩):=by simp [hv]
   have hfirst:(do loadVar t (←asAddr (tmps.getD a undef)):Sem Value).run P w=.ok u w:=by
    rw [hg];exact (Sem.run_bind ..).trans hu'
   rw [List.mapM_cons];refine (Sem.run_bind ..).trans ?_;refine (congrArg (fun r=>Result.andThen r _) hfirst).trans ?_;refine (Sem.run_bind ..).trans ?_;refine (congrArg (fun r=>Result.andThen r _) h1).trans ?_;rfl
  ·cases j with
   | zero=>simp at ha hb; subst ha; subst hb; exact hru
   | succ j=>simp at ha hb; exact h3 j p q ha hb
theorem aJ8 (htt:jO P tt){T:Env}{tmps:Array Value}{fn:Func}(hs:SR g w H)(h:TR g w T tmps){xs:List V}(hx:MB tt T H fn.results.toList xs):∃ v,(results fn tmps).run P w=.ok v w/\Rep g w (aAd xs) v:=by
 obtain⟨vs,h1,h2,h3⟩:=aCg (P:=P) htt hs h hx
 have main:(results fn tmps).run P w=.ok (if h:vs.toArray.size=1 then vs.toArray[0] else .tuple vs.toArray) w:=by
  unfold results;rw [Array.mapM_eq_mapM_toList];refine (Sem.run_bind ..).trans ?_
  have : Sem.run P (List.toArray <$> (fn.results.toList.mapM fun | .tmp t=>pure (tmps.getD t undef) | .cell a t=>do loadVar t (←asAddr (tmps.getD a undef)):Sem (List Value))) w=.ok vs.toArray w:=by
   change Sem.run P ((fn.results.toList.mapM fun | .tmp t=>pure (tmps.getD t undef) | .cell a t=>do loadVar t (←asAddr (tmps.getD a undef)):Sem (List Value)).bind fun x=>Sem.pure x.toArray) w=_
   exact (Sem.run_bind ..).trans (by rw [h1];rfl)
  exact (congrArg (fun r=>Result.andThen r (fun (a:Array Value) w'=>Sem.run P (pure (if h:a.size=1 then a[0] else Value.tuple a)) w')) this).trans rfl
 by_cases b5:vs.length=1
 ·obtain⟨v,rfl⟩:=List.length_eq_one_iff.1 b5;obtain⟨x,rfl⟩:=List.length_eq_one_iff.1 (h2.trans b5);exact⟨v,main,h3 0 _ _ rfl rfl⟩
 ·rw [dif_neg (by simpa using b5)] at main;refine⟨_,main,?_⟩
  have : aAd xs=.tup xs:=by
   match xs,h2 with
   | [],_=>rfl
   | [x],h2=>exact absurd h2.symm b5
   | _::_::_,_=>rfl
  rw [this];exact .tup _ _ (by simpa using h2) (fun i a b ha hb=>h3 i a b ha (by simpa using hb))
def aCA (tt:TT)(fn:Func)(Q:V->bA->Prop):Exit->Env->bA->List Nat->Prop
 | .normal,T,H,ds=>ds.Nodup/\(∀ l∈ds,H[l]?=some (.raw EA)) /\ ∃ xs,MB tt T (shut ds H) fn.results.toList xs/\Q (aAd xs) (shut ds H)
 | .ret,T,H,ds=>ds.Nodup/\(∀ l∈ds,H[l]?=some (.raw EA)) /\ ∃ xs,MB tt T (shut ds H) fn.results.toList xs/\Q (aAd xs) (shut ds H)
 | _,_,_,_=>False
theorem aBI {fn:Func}{T:Env}{tmps:Array Value}{R:Ending->World->Prop}:∀ (ds:List Nat) (w:World) (H:bA),SR g w H->(∀ l∈ds,H[l]?=some (.raw EA))->ds.Nodup->TR g w T tmps ->
  (∀ w',SR g w' (shut ds H)->Ext g w g w'->TR g w' T tmps -> ∃ v,(results fn tmps).run P w'=.ok v w'/\R (.returned v) w')->LeavesInM Fence.wide 0 P fn tmps R (ds.map (mkD g)) .returning w
 | [],w,H,hs,_,_,ht,hr=>by
  exact hr w hs (Ext.refl g w) ht
 | l::ds,w,H,hs,hd,hn,ht,hr=>by
  have hl:=hd l (by simp);obtain⟨o,q1,_,(rfl:o=.deferred (some []))⟩:=hs.raw l _ hl;have s1:=hs.AK hl (.deferred none) rfl ⟨fun _ _ _ _=>True,fun _ _=>trivial⟩ trivial;have s2:=s1.1.kill l;rw [List.set_set] at s2;refine⟨by simp,.inl ⟨g.blk l,w.putObj (g.blk l) (.deferred none),rfl,run_takeDeferred q1,?_⟩⟩;refine aBI ds _ _ s2 (fun l' hl'=>?_) (List.nodup_cons.1 hn).2 (ht.YO s1.2.toExt0) (fun w' h1 h2 h3=>hr w' h1 (s1.2.trans h2) h3);have hne:l≠l':=fun he=>(List.nodup_cons.1 hn).1 (he ▸ hl');rw [List.getElem?_set_ne hne];exact hd l' (by simp [hl'])
theorem aLi (htt:jO P tt) {f:Nat} {fn:Func} {args:List V} {Q:V->bA->Prop} (hf:P.funcs[f]?=some fn) (hb:fn.body.isSome=true) (hname:(fn.name == "runtime.NumGoroutine")=false) (b5:Nat.ble args.length fn.ntmps=true)
  (h:AWP P none fn.ntmps (B fn) (Env.ofL (params 0 args)) H [] (aCA tt fn Q)):pO P f args H Q:=by
 have hN:args.length<=fn.ntmps:=Nat.le_of_ble_eq_true b5;obtain⟨c,hc⟩:=Option.isSome_iff_exists.1 hb;refine⟨fun as0 w=>?_,fun g w vs hs hl hr=>?_⟩
 ·simp only [callFunc,Sem.run_bind,program,Sem.run,Result.andThen,hf];simp [hname,hc]
 ·refine (callsIn_wide (n:=0)).1 (callsIn_of_wp_marks (F:=Fence.wide) hf hc trivial ?_);rw [show B fn=c by simp [B,hc]] at h;refine h g w _ _ ⟨hs,?_,rfl,by simp,?_⟩ ?_
  ·refine aA4 fun j x hx=>?_;have hj:j<vs.size:=by rw [←hl];exact (List.getElem?_eq_some_iff.1 hx).1
   refine⟨vs[j],?_,hr j x _ hx (Array.getElem?_eq_getElem hj)⟩;simp only [Nat.zero_add];rw [Array.getElem?_append_left hj];exact Array.getElem?_eq_getElem hj
  ·simp;omega
  ·intro e T' H' ds' g' w' a' hq hg hx
   have fin:ds'.Nodup->(∀ l∈ds',H'[l]?=some (.raw EA))->(∃ xs,MB tt T' (shut ds' H') fn.results.toList xs/\Q (aAd xs) (shut ds' H')) ->
     LeavesInM Fence.wide 0 P fn a'.tmps (fun e w''=>∃ v r g2 H2,e=.returned v/\Rep g2 w'' r v/\SR g2 w'' H2/\Ext g w g2 w''/\Q r H2) a'.defers .returning w':=by
    intro h1 h2 ⟨xs,h3,h4⟩;rw [hg.df];refine aBI ds' w' H' hg.sr h2 h1 hg.tr fun w2 s2 x2 t2=>?_;obtain⟨v,hv,hrep⟩:=aJ8 (P:=P) htt s2 t2 h3;exact⟨v,hv,v,_,g',_,rfl,hrep,s2,hx.trans x2,h4⟩
   cases e with
   | normal=>exact fin hq.1 hq.2.1 hq.2.2
   | ret=>exact fin hq.1 hq.2.1 hq.2.2
   | _=>exact hq.elim
theorem aBk (htt:jO P tt) {f:Nat} {fn:Func} {args:List V} {Q:V->bA->Prop} (hf:P.funcs[f]?=some fn) (hb:fn.body.isSome=true) (hname:(fn.name == "runtime.NumGoroutine")=false) (b5:Nat.ble args.length fn.ntmps=true)
  (h:AWP P none fn.ntmps (B fn) (Env.ofL (params 0 args)) H [] (aCA tt fn (fun r H=>∃ r',dF r r'/\Q r' H))):pO P f args H Q :=
 (aLi htt hf hb hname b5 h).post fun _ _ h=>h
end Go.Abs
namespace Go.Abs
open Go IntKind Go.RowKit
variable {P:Program} {tt:TT} {ro:Option Nat} {N:Nat} {T:Env} {H:bA} {ds:List Nat} {Q:Exit->Env->bA->List Nat->Prop}
abbrev Gs:=List (Nat×fD)
structure GOk (H:bA) (G:Gs):Prop where
 m:∀ (i:Nat) p,G[i]?=some p->H[p.1]?=some p.2
 n:∀ (i j:Nat) p q,G[i]?=some p->G[j]?=some q->i≠j->p.1≠q.1
structure GStep (H:bA) (G:Gs) (H':bA) (G':Gs):Prop where
 ok:GOk H' G'
 ext:wN ⟨H,G.map (·.1),[]⟩ H'
 loc:∀ p∈G',p.1∈G.map (·.1)∨H.length<=p.1
def aIN {σ:Type}(I:σ->Gs->Prop)(s:σ)(H:bA)(G:Gs)(H':bA):Prop:=∃ G',I s G'/\GStep H G H' G'
def BP (P:Program)(f:FuncId){σ:Type}(I:σ->Gs->Prop)(s:σ)(args:List V)(s':σ)(r:V):Prop :=
 ∀ H G,I s G->GOk H G->pO P f args H fun x H'=>x=r/\aIN I s' H G H'
def SQ (P:Program)(fv:V){σ:Type}(I:σ->Gs->Prop)(s:σ)(args:List V)(s':σ)(r:V):Prop :=
 ∀ H G,I s G->GOk H G->SX P fv args H fun x H'=>x=r/\aIN I s' H G H'
theorem BP.sub {f:FuncId}{σ:Type}{I:σ->Gs->Prop}{s s':σ}{as0 as0':List V}{r:V}(h:BP P f I s as0' s' r)(hs:vQ as0 as0'):BP P f I s as0 s' r:=fun H G hi hg=>(h H G hi hg).sub hs
theorem aN.gok {F:Frame}{L:List (Nat×Nat×List V)}(h:aN F H L):GOk H F.g:=⟨fun i p hi=>(h.gm i p hi).2,h.gn⟩
theorem DO {α:Type}{l:List α}{x:α}(h:x∈l):∃ i:Nat,l[i]?=some x:=by
 obtain⟨i,hi,rfl⟩:=List.mem_iff_getElem.1 h;exact⟨i,List.getElem?_eq_getElem hi⟩
theorem aN.YJ {G:Gs}(h:GOk H G):aN ⟨H,G.map (·.1),G⟩ H [] where
 ext:=wN.refl H _ _
 ne:=by simp
 mem:=by simp
 gm i p hi:=⟨.inr (List.mem_map.2 ⟨p,List.mem_of_getElem? hi,rfl⟩),h.m i p hi⟩
 gl:=by simp
 gn:=h.n
theorem aN.TZ {H0:bA}{G0 G:Gs}{L:List (Nat×Nat×List V)}(h:aN ⟨H0,G0.map (·.1),G⟩ H L):GStep H0 G0 H G where
 ok:=h.gok
 ext:=⟨h.ext.1,h.ext.2⟩
 loc p hp:=by
  obtain⟨i,hi⟩:=DO hp;rcases (h.gm i p hi).1 with h1 | h1
  ·exact .inr h1
  ·exact .inl h1
theorem aN.aJg {F:Frame}{G':Gs}{H':bA}{L:List (Nat×Nat×List V)}(h:aN F H L)(hs:GStep H F.g H' G'):aN { F with g:=G' } H' L where
 ext:=⟨Nat.le_trans h.ext.1 hs.ext.1,fun l hl he=>by
  have hne:l ∉ F.g.map (·.1):=by
   intro hm;obtain⟨p,hp,rfl⟩:=List.mem_map.1 hm;obtain⟨i,hi⟩:=DO hp;rcases (h.gm i p hi).1 with h1 | h1
   ·exact absurd hl (by show ¬ p.1<F.h.length;omega)
   ·exact he h1
  exact (hs.ext.2 l (Nat.lt_of_lt_of_le hl h.ext.1) hne).trans (h.ext.2 l hl he)⟩
 ne:=h.ne
 mem i lo k es hi:=by
  obtain⟨h1,h2⟩:=h.mem i lo k es hi;refine⟨h1,?_⟩
  have hne:lo ∉ F.g.map (·.1):=by
   intro hm;obtain⟨p,hp,he⟩:=List.mem_map.1 hm;obtain⟨j,hj⟩:=DO hp;exact h.gl j i p _ hj hi he
  exact (hs.ext.2 lo (List.getElem?_eq_some_iff.1 h2).1 hne).trans h2
 gm i p hi:=by
  refine⟨?_,hs.ok.m i p hi⟩;rcases hs.loc p (List.mem_of_getElem? hi) with h1 | h1
  ·obtain⟨q,hq,he⟩:=List.mem_map.1 h1;obtain⟨j,hj⟩:=DO hq;have:=(h.gm j q hj).1;rw [he] at this;exact this
  ·exact .inl (Nat.le_trans h.ext.1 h1)
 gl i j p q hi hj:=by
  rcases hs.loc p (List.mem_of_getElem? hi) with h1 | h1
  ·obtain⟨r,hr,he⟩:=List.mem_map.1 h1;obtain⟨a,ha⟩:=DO hr;rw [←he];exact h.gl a j r q ha hj
  ·have:=h.lt hj;omega
 gn:=hs.ok.n
def up (L:List (Nat×Nat×List V)):Gs:=L.map fun p=>(p.1,.vec p.2.1 p.2.2)
theorem aAA {L:List (Nat×Nat×List V)}{i:Nat}{p:Nat×fD}(h:(up L)[i]?=some p):∃ lo k es,L[i]?=some (lo,k,es)/\p=(lo,.vec k es):=by
 simp only [up,List.getElem?_map,Option.map_eq_some_iff] at h;obtain⟨⟨lo,k,es⟩,h1,h2⟩:=h;exact⟨lo,k,es,h1,h2.symm⟩
theorem aE2 {L:List (Nat×Nat×List V)}{i:Nat}{lo k:Nat}{es:List V}(h:L[i]?=some (lo,k,es)):(up L)[i]?=some (lo,.vec k es):=by simp [up,h]
theorem get_append {α:Type}{A B:List α}{i:Nat}{p:α}(h:(A++B)[i]?=some p):A[i]?=some p ∨ ∃ j,i=A.length+j/\B[j]?=some p:=by
 by_cases hi:i<A.length
 ·rw [List.getElem?_append_left hi] at h;exact .inl h
 ·rw [List.getElem?_append_right (by omega)] at h;exact .inr ⟨i-A.length,by omega,h⟩
theorem aN.aB7 {F:Frame}{L:List (Nat×Nat×List V)}(h:aN F H L):aN { F with g:=up L++F.g } H [] where
 ext:=⟨h.ext.1,h.ext.2⟩
 ne:=by simp
 mem:=by simp
 gm i p hi:=by
  rcases get_append hi with h1 | ⟨j,_,h1⟩
  ·obtain⟨lo,k,es,h2,rfl⟩:=aAA h1;exact h.mem i lo k es h2
  ·exact h.gm j p h1
 gl:=by simp
 gn i j p q hi hj hij:=by
  rcases get_append hi with h1 | ⟨i',e1,h1⟩ <;> rcases get_append hj with h2 | ⟨j',e2,h2⟩
  ·obtain⟨lo,k,es,a1,rfl⟩:=aAA h1;obtain⟨lo',k',es',a2,rfl⟩:=aAA h2;exact h.ne i j _ _ a1 a2 hij
  ·obtain⟨lo,k,es,a1,rfl⟩:=aAA h1;exact (h.gl j' i q _ h2 a1).symm
  ·obtain⟨lo,k,es,a1,rfl⟩:=aAA h2;exact h.gl i' j p _ h1 a1
  ·exact h.gn i' j' p q h1 h2 (by omega)
theorem aN.take {H0:bA}{E:List Nat}{G:Gs}{L:List (Nat×Nat×List V)}(h:aN ⟨H0,E,up L++G⟩ H []):aN ⟨H0,E,G⟩ H L where
 ext:=⟨h.ext.1,h.ext.2⟩
 ne i j p q hi hj hij:=by
  have a1:(up L++G)[i]?=some (p.1,.vec p.2.1 p.2.2):=by
   have hl:=(List.getElem?_eq_some_iff.1 hi).1;rw [List.getElem?_append_left (by simpa [up] using hl)];exact aE2 hi
  have a2:(up L++G)[j]?=some (q.1,.vec q.2.1 q.2.2):=by
   have hl:=(List.getElem?_eq_some_iff.1 hj).1;rw [List.getElem?_append_left (by simpa [up] using hl)];exact aE2 hj
  exact h.gn i j _ _ a1 a2 hij
 mem i lo k es hi:=by
  have hl:=(List.getElem?_eq_some_iff.1 hi).1;exact h.gm i (lo,.vec k es) (by rw [List.getElem?_append_left (by simpa [up] using hl)];exact aE2 hi)
 gm i p hi:=h.gm ((up L).length+i) p (by rw [List.getElem?_append_right (by omega)];simpa using hi)
 gl i j p q hi hj:=by
  have hl:=(List.getElem?_eq_some_iff.1 hj).1
  have a2:(up L++G)[j]?=some (q.1,.vec q.2.1 q.2.2):=by
   rw [List.getElem?_append_left (by simpa [up] using hl)];exact aE2 hj
  have a1:(up L++G)[(up L).length+i]?=some p:=by rw [List.getElem?_append_right (by omega)];simpa using hi
  exact h.gn _ j _ _ a1 a2 (by simp only [up,List.length_map];omega)
 gn i j p q hi hj hij:=h.gn ((up L).length+i) ((up L).length+j) p q (by rw [List.getElem?_append_right (by omega)];simpa using hi) (by rw [List.getElem?_append_right (by omega)];simpa using hj) (by omega)
theorem aN.wV {H0:bA}{E:List Nat}{G:Gs}{L:List (Nat×Nat×List V)}{l:Nat}{o:fD}(h:aN ⟨H0,E,(l,o)::G⟩ H L)(o':fD):aN ⟨H0,E,(l,o')::G⟩ (H.set l o') L where
 ext:=by
  have hl:=(h.gm 0 (l,o) rfl).1;have:=h.ext.set (l:=l) hl o';exact⟨this.1,this.2⟩
 ne:=h.ne
 mem i lo k es hi:=by
  obtain⟨h1,h2⟩:=h.mem i lo k es hi;exact⟨h1,by rw [List.getElem?_set_ne (h.gl 0 i (l,o) _ rfl hi)];exact h2⟩
 gm i p hi:=by
  cases i with
  | zero =>
   simp at hi;subst hi;obtain⟨h1,h2⟩:=h.gm 0 (l,o) rfl;have hlt:=(List.getElem?_eq_some_iff.1 h2).1;exact⟨h1,by simp only at hlt;simp [hlt]⟩
  | succ i =>
   obtain⟨h1,h2⟩:=h.gm (i+1) p hi;exact⟨h1,by rw [List.getElem?_set_ne (h.gn 0 (i+1) (l,o) p rfl hi (by omega))];exact h2⟩
 gl i j p q hi hj:=by
  cases i with
  | zero=>simp at hi; subst hi; exact h.gl 0 j (l,o) q rfl hj
  | succ i=>exact h.gl (i+1) j p q hi hj
 gn i j p q hi hj hij:=by
  cases i with
  | zero=>cases j with
   | zero=>exact absurd rfl hij
   | succ j=>simp at hi; subst hi; exact h.gn 0 (j+1) (l,o) q rfl hj hij
  | succ i=>cases j with
   | zero=>simp at hj; subst hj; exact h.gn (i+1) 0 p (l,o) hi rfl hij
   | succ j=>exact h.gn (i+1) (j+1) p q hi hj hij
theorem aN.tC {H0:bA}{E:List Nat}{G:Gs}{L:List (Nat×Nat×List V)}{p:Nat×fD}(h:aN ⟨H0,E,p::G⟩ H L):aN ⟨H0,E,G⟩ H L where
 ext:=⟨h.ext.1,h.ext.2⟩
 ne:=h.ne
 mem:=h.mem
 gm i q hi:=h.gm (i+1) q hi
 gl i j q r hi hj:=h.gl (i+1) j q r hi hj
 gn i j q r hi hj hij:=h.gn (i+1) (j+1) q r hi hj (by omega)
theorem aN.aMr {H0:bA}{E:List Nat}{G:Gs}{L:List (Nat×Nat×List V)}{p q:Nat×fD}(h:aN ⟨H0,E,p::q::G⟩ H L):aN ⟨H0,E,q::p::G⟩ H L:=by
 have key:∀ (i:Nat) r,(q::p::G)[i]?=some r -> ∃ j,(p::q::G)[j]?=some r/\j=if i=0 then 1 else if i=1 then 0 else i:=by
  intro i r hr
  match i with
  | 0=>exact ⟨1,hr,rfl⟩
  | 1=>exact ⟨0,hr,rfl⟩
  | i+2=>exact ⟨i+2,hr,by simp⟩
 refine⟨⟨h.ext.1,h.ext.2⟩,h.ne,h.mem,fun i r hi=>?_,fun i j r s hi hj=>?_,fun i j r s hi hj hij=>?_⟩
 ·obtain⟨j,h1,_⟩:=key i r hi;exact h.gm j r h1
 ·obtain⟨a,h1,_⟩:=key i r hi;exact h.gl a j r s h1 hj
 ·obtain⟨a,h1,e1⟩:=key i r hi;obtain⟨b,h2,e2⟩:=key j s hj;refine h.gn a b r s h1 h2 ?_;subst e1;subst e2;split <;> split <;> (try split) <;> (try split) <;> omega
section rules
variable {ops:Array Oper} {K:Env->bA->Prop} {i n:Nat}
def TS (N:Nat)(ops:Array Oper)(T:Env)(i:Nat):Option (V×List V):=match gJ N ops i with
 | some (.call ⟨.value f,args,_⟩)=>match dD T [] f,jT T [] args.toList with
  | some fv,some xs=>some (fv,xs)
  | _,_=>none
 | _=>none
theorem aDZ {fv:V} {as0:List V} (hs:aP i n=i::aP (i+1) n) (hd:TS N ops T i=some (fv,as0)) {Q:V->bA->Prop} (hc:SX P fv as0 H Q)
  (h:∀ r H',Q r H'->RWs P tt N ops (aP (i+1) n) (T.cF (cP ops i) ([],r)) H' K):RWs P tt N ops (aP i n) T H K:=by
 unfold TS at hd;split at hd
 ·rename_i f args tys hp
  split at hd
  ·rename_i fv' xs hf hx
   simp at hd;obtain ⟨rfl,rfl⟩:=hd;exact HQ hs hp ⟨_,_,hf,hx,hc.mono h⟩
  ·simp at hd
 ·simp at hd
theorem aBp {σ:Type} {I:σ->Gs->Prop} {H0:bA} {E:List Nat} {G:Gs} {L:List (Nat×Nat×List V)} {s s':σ} (fv:V) (as0:List V) (x:V) (hs:aP i n=i::aP (i+1) n) (hd:TS N ops T i=some (fv,as0)) (hc:SQ P fv I s as0 s' x)
  (hO:aN ⟨H0,E,G⟩ H L) (hI:I s G) (h:∀ G' H',aN ⟨H0,E,G'⟩ H' L->I s' G'->RWs P tt N ops (aP (i+1) n) (T.cF (cP ops i) ([],x)) H' K):RWs P tt N ops (aP i n) T H K :=
 aDZ hs hd (hc H G hI hO.gok) fun _ H' ⟨e,G',hi,hst⟩=>e ▸ h G' H' (hO.aJg hst) hi
end rules
end Go.Abs
namespace Go.Abs
open Go IntKind Go.RowKit
variable {P:Program} {tt:TT} {ro:Option Nat} {N:Nat} {T:Env} {H:bA} {ds:List Nat} {Q:Exit->Env->bA->List Nat->Prop}
theorem UU {G:Gs}:(∀ (i j:Nat) p q,G[i]?=some p->G[j]?=some q->i≠j->p.1≠q.1)↔(G.map (·.1)).Nodup:=by
 rw [List.nodup_iff_pairwise_ne,List.pairwise_map,List.pairwise_iff_getElem];constructor
 ·intro h i j hi hj hij;exact h i j _ _ (List.getElem?_eq_getElem hi) (List.getElem?_eq_getElem hj) (by omega)
 ·intro h i j p q hp hq hij;obtain⟨h1,rfl⟩:=List.getElem?_eq_some_iff.1 hp;obtain⟨h2,rfl⟩:=List.getElem?_eq_some_iff.1 hq;rcases Nat.lt_or_gt_of_ne hij with h3 | h3
  ·exact h i j h1 h2 h3
  ·exact (h j i h2 h1 h3).symm
theorem aN.II {H0:bA}{E:List Nat}{G G':Gs}{L:List (Nat×Nat×List V)}(h:aN ⟨H0,E,G⟩ H L)(hp:G.Perm G'):aN ⟨H0,E,G'⟩ H L where
 ext:=⟨h.ext.1,h.ext.2⟩
 ne:=h.ne
 mem:=h.mem
 gm i p hi:=by
  obtain⟨j,hj⟩:=DO (hp.mem_iff.2 (List.mem_of_getElem? hi));exact h.gm j p hj
 gl i j p q hi hj:=by
  obtain⟨a,ha⟩:=DO (hp.mem_iff.2 (List.mem_of_getElem? hi));exact h.gl a j p q ha hj
 gn:=UU.2 ((hp.map (·.1)).nodup_iff.1 (UU.1 h.gn))
theorem aN.aEZ {H0:bA}{E:List Nat}{G:Gs}{L:List (Nat×Nat×List V)}(h:aN ⟨H0,E,G⟩ H L)(o:fD):aN ⟨H0,E,(H.length,o)::G⟩ (H++[o]) L where
 ext:=by
  have:=h.ext.push o;exact⟨this.1,this.2⟩
 ne:=h.ne
 mem i lo k es hi:=let ⟨h1,h2⟩:=h.mem i lo k es hi;⟨h1,yQ h2⟩
 gm i p hi:=by
  cases i with
  | zero=>simp at hi; subst hi; exact ⟨.inl h.ext.1,by simp⟩
  | succ i=>obtain ⟨h1,h2⟩:=h.gm i p hi; exact ⟨h1,yQ h2⟩
 gl i j p q hi hj:=by
  cases i with
  | zero=>simp at hi; subst hi; exact (Nat.ne_of_lt (h.lt hj)).symm
  | succ i=>exact h.gl i j p q hi hj
 gn i j p q hi hj hij:=by
  cases i with
  | zero=>cases j with
   | zero=>exact absurd rfl hij
   | succ j=>simp at hi; subst hi; exact (Nat.ne_of_lt (h.glt (i:=j) hj)).symm
  | succ i=>cases j with
   | zero=>simp at hj; subst hj; exact Nat.ne_of_lt (h.glt (i:=i) hi)
   | succ j=>exact h.gn i j p q hi hj (by omega)
theorem aN.aKm {H0:bA}{E:List Nat}{p0:Nat×fD}{G G':Gs}{H':bA}{L:List (Nat×Nat×List V)}(h:aN ⟨H0,E,p0::G⟩ H L)(hs:GStep H G H' G'):aN ⟨H0,E,p0::G'⟩ H' L:=by
 have h1:aN ⟨H0,E,G'⟩ H' L:=h.tC.aJg hs;have b5:=h.gm 0 p0 rfl;have hlt:=(List.getElem?_eq_some_iff.1 b5.2).1
 have hne:p0.1 ∉ G.map (·.1):=by
  intro hm;obtain⟨q,hq,he⟩:=List.mem_map.1 hm;obtain⟨j,hj⟩:=DO hq;exact h.gn (j+1) 0 q p0 hj rfl (by omega) he
 have key:∀ (i:Nat) p,G'[i]?=some p->p0.1≠p.1:=by
  intro i p hi he;rcases hs.loc p (List.mem_of_getElem? hi) with h2 | h2
  ·exact hne (he ▸ h2)
  ·omega
 refine⟨⟨h1.ext.1,h1.ext.2⟩,h1.ne,h1.mem,fun i p hi=>?_,fun i j p q hi hj=>?_,fun i j p q hi hj hij=>?_⟩
 ·cases i with
  | zero=>simp at hi; subst hi; exact ⟨b5.1,(hs.ext.2 _ hlt hne).trans b5.2⟩
  | succ i=>exact h1.gm i p hi
 ·cases i with
  | zero=>simp at hi; subst hi; exact h.gl 0 j p0 q rfl hj
  | succ i=>exact h1.gl i j p q hi hj
 ·cases i with
  | zero=>cases j with
   | zero=>exact absurd rfl hij
   | succ j=>simp at hi; subst hi; exact key j q hj
  | succ i=>cases j with
   | zero=>simp at hj; subst hj; exact (key i p hi).symm
   | succ j=>exact h1.gn i j p q hi hj (by omega)
theorem aL7 {H0:bA}{G0:Gs}{lL:Nat}{s:fD}{G:Gs}{L:List (Nat×Nat×List V)}(h:aN ⟨H0,G0.map (·.1),(lL,s)::G⟩ H L)(s':fD):GStep H0 G0 (H.set lL s') ((lL,s')::(up L++G)):=by
 have h1:=(h.wV s').aB7;have h2:aN ⟨H0,G0.map (·.1),(lL,s')::(up L++G)⟩ (H.set lL s') []:=h1.II List.perm_middle;exact h2.TZ
theorem zG {H0:bA}{E:List Nat}{lD lL:Nat}{d s:fD}{G:Gs}{L:List (Nat×Nat×List V)}(h:aN ⟨H0,E,(lD,d)::(lL,s)::(up L++G)⟩ H []) :
  H[lL]?=some s/\aN ⟨H0,E,(lD,d)::G⟩ (H.set lL .dead) L:=by
 refine⟨(h.gm 1 _ rfl).2,?_⟩;have h1:=(h.aMr.wV .dead).tC;have h2:aN ⟨H0,E,up L++((lD,d)::G)⟩ (H.set lL .dead) []:=h1.II List.perm_middle.symm;exact h2.take
theorem TX {σ:Type} {c:Code} {l:List (Nat×V)} {fid:Nat} {ys cs:List V} {H0:bA} {E:List Nat} {G:Gs} {L:List (Nat×Nat×List V)} (ps:Array Tmp) (I:QM->Nat->Nat->σ->Gs->Prop) (s0 s1:σ) (v:V)
  (hk:c.kind=9) (hf:dD (Env.ofL l) [] c.cnd=some (.fn (.func fid) ys cs)) (hps:c.rps=ps) (hO:aN ⟨H0,E,G⟩ H L)
  (h0:∀ b lL,I ⟨N,l,ps,c.asg,c.b⟩ b lL s0 ((lL,.raw (qZ b ⟨N,l,ps,c.asg,c.b⟩ .ready none))::(up L++G)))
  (hit:∀ b lL,BP P fid (I ⟨N,l,ps,c.asg,c.b⟩ b lL) s0 (ys++[yv b]++cs) s1 v)
  (hend:∀ b lD lL H' G',I ⟨N,l,ps,c.asg,c.b⟩ b lL s1 G'->aN ⟨H0,E,(lD,.raw EA)::G'⟩ H' [] -> ∃ st pe,H'[lL]?=some (.raw (qZ b ⟨N,l,ps,c.asg,c.b⟩ st pe))/\st ≠ .busy /\
   (match pe with
    | none=>Cl N Q .normal (Env.ofL l) (H'.set lL .dead) (lD::ds)
    | some c'=>AWP P none N c' (Env.ofL l) (H'.set lL .dead) (lD::ds) Q)):AWP P none N c (Env.ofL l) H ds Q:=by
 refine aNe hk hf hps fun b=>?_;have o1:=(hO.aB7.aEZ (.raw EA)).aEZ (.raw (qZ b ⟨N,l,ps,c.asg,c.b⟩ .ready none));have b5:(H++[fD.raw EA]).length=H.length+1:=by simp
 rw [b5] at o1;have o2:=o1.aMr;rw [List.append_assoc] at o2;refine (hit b (H.length+1) _ _ (h0 b (H.length+1)) o2.tC.gok).mono ?_;rintro x H' ⟨_,G',hi,hst⟩;exact hend b H.length (H.length+1) H' G' hi (o2.aKm hst)
end Go.Abs
namespace Go.Abs
open Go IntKind Go.RowKit
variable {P:Program} {tt:TT} {ro:Option Nat} {N:Nat} {T:Env} {H:bA} {ds:List Nat} {Q:Exit->Env->bA->List Nat->Prop}
theorem jO.of (P:Program):jO P ⟨aIE P,aFD P⟩:=⟨fun _ _ h=>h,fun _ h=>h⟩
def aMe (P:Program)(f:FuncId)(args:List V)(r:V):Prop:=∀ H,aF1 P f args H fun x H'=>x=r/\H'=H
theorem aMR {ops:Array Oper} {K:Env->bA->Prop} {i n:Nat} {H0:Frame} {L:List (Nat×Nat×List V)} (fid:Nat) (as0:List V) (x:V) (hs:aP i n=i::aP (i+1) n) (hd:TS N ops T i=some (.fn (.func fid) [] [],as0)) (hc:aMe P fid as0 x) (hO:aN H0 H L)
  (h:∀ H',aN H0 H' L->RWs P tt N ops (aP (i+1) n) (T.cF (cP ops i) ([],x)) H' K):RWs P tt N ops (aP i n) T H K :=
 aDZ (Q:=fun r H'=>r=x/\H'=H) hs hd (Or.inr (by simpa using hc H)) fun _ H' ⟨e,e'⟩=>e ▸ e' ▸ h H hO
def aDR (x y:ByteArray):Int:=Go.Lib.compareBytes x.data.toList y.data.toList
theorem aLx {f:FuncId}{fn:Func}(hf:P.funcs[f]?=some fn)(hname:(fn.name == "runtime.NumGoroutine")=false)(hb:fn.body.isNone=true)(hn:Extern.findNext fn=none)(he:Extern.find fn=some Extern.BytealgCompare.compare)(x y:ByteArray):aMe P f [tG x,tG y] (cD .i64 (aDR x y)):=by
 intro H g w vs hs hl hr
 match vs,hl with
 | ⟨[a,b]⟩,_ =>
  have h1:=(hr 0 _ a rfl rfl).qJ;have h2:=(hr 1 _ b rfl rfl).qJ;subst h1;subst h2;refine⟨_,_,?_,.lit (.int .i64 (aDR x y)) rfl,rfl,rfl⟩;rw [run_callFunc_extern hf hname hb hn he];have:=Go.Lib.run_compareString (P:=P) x y w
  change (Result.andThen (Sem.run P (Extern.BytealgCompare.compare #[.string x,.string y]) w) _)=_
  rw [this];rfl
section room
variable {ops:Array Oper} {K:Env->bA->Prop} {i n:Nat}
def aIy (tt:TT)(N:Nat)(ops:Array Oper)(T:Env)(i:Nat):Option (Int×Int×Nat×Nat):=match gJ N ops i with
 | some (.makeSlice t l c)=>match dD T [] l,dD T [] c,tt t with
  | some (.lit (.int _ z)),some (.lit (.int _ n)),some ⟨.slice e,_,_,_⟩=>match tt e with
   | some te=>some (z,n,te.size,te.bytes)
   | none=>none
  | _,_,_=>none
 | _=>none
theorem aBe {H0:Frame} {L:List (Nat×Nat×List V)} (k by':Nat) (m:Int) (hs:aP i n=i::aP (i+1) n) (hd:aIy tt N ops T i=some (0,m,k,by')) (hc:0<=m/\(by':Int)*m<=281474976710656/\m<=9223372036854775807) (hO:aN H0 H L)
  (h:∀ lo H',aN H0 H' (L++[(lo,k,[])])->RWs P tt N ops (aP (i+1) n) (T.cF (cP ops i) ([],.msl k lo 0 0)) H' K):RWs P tt N ops (aP i n) T H K:=by
 unfold aIy at hd;split at hd
 ·rename_i t l c hp
  split at hd
  ·rename_i k1 z k2 m' e _ _ _ hl hcc ht
   split at hd
   ·rename_i te hte
    simp at hd;obtain ⟨rfl,rfl,rfl,rfl⟩:=hd;exact HQ hs hp ⟨k1,k2,_,e,_,_,_,te,hl,hcc,ht,hte,hc.1,hc.2.1,hc.2.2,h _ _ (hO.new te.size [])⟩
   ·simp at hd
  ·simp at hd
 ·simp at hd
end room
def aBn (P:Program)(f:FuncId)(lo k:Nat)(es args:List V)(r:Nat->V)(es':List V):Prop :=
 ∀ H,H[lo]?=some (.vec k es)->pO P f args H fun x H'=>∃ lo',x=r lo'/\aN ⟨H,[lo],[]⟩ H' [(lo',k,es')]
theorem aN.aOu {F:Frame}{H':bA}{L:List (Nat×Nat×List V)}(h:aN F H L)(q:Nat){lo lo' k:Nat}{es es':List V}(hq:L[q]?=some (lo,k,es))(ho:aN ⟨H,[lo],[]⟩ H' [(lo',k,es')]):aN F H' (L.set q (lo',k,es')):=by
 have hx:=ho.ext
 have hlo':lo'=lo∨H.length<=lo':=by
  rcases (ho.mem 0 lo' k es' rfl).1 with h1 | h1
  ·exact .inr h1
  ·exact .inl (by simpa using h1)
 have far:∀ p:Nat,p<H.length->p≠lo->p≠lo':=by
  intro p hp hne he;rcases hlo' with h1 | h1 <;> omega
 refine⟨h.ext.aK6 ⟨hx.1,hx.2⟩ (h.mem q lo k es hq).1,fun a b p q' ha hb hab=>?_,fun j b5 k' e' hj=>?_,fun j p hj=>?_,fun a b p q' ha hb=>?_,h.gn⟩
 ·rcases tP ha with ⟨n1,a1⟩ | ⟨e1,e2⟩ <;> rcases tP hb with ⟨n2,b1⟩ | ⟨e3,e4⟩
  ·exact h.ne a b p q' a1 b1 hab
  ·rw [e4];exact far p.1 (h.lt a1) (h.ne a q p (lo,k,es) a1 hq n1)
  ·rw [e2];exact (far q'.1 (h.lt b1) (h.ne b q q' (lo,k,es) b1 hq n2)).symm
  ·exact absurd (e1.trans e3.symm) hab
 ·rcases tP hj with ⟨n1,hj⟩ | ⟨rfl,hp⟩
  ·obtain⟨h1,h2⟩:=h.mem j b5 k' e' hj;refine⟨h1,?_⟩;have hne:=h.ne _ _ _ _ hq hj (Ne.symm n1);exact (hx.2 b5 (List.getElem?_eq_some_iff.1 h2).1 (by simpa using hne.symm)).trans h2
  ·cases hp
   refine⟨?_,(ho.mem 0 _ _ _ rfl).2⟩;rcases hlo' with h1 | h1
   ·rw [h1];exact (h.mem j _ _ _ hq).1
   ·exact .inl (Nat.le_trans h.ext.1 h1)
 ·obtain⟨h1,h2⟩:=h.gm j p hj;exact⟨h1,(hx.2 p.1 (List.getElem?_eq_some_iff.1 h2).1 (by simpa using h.gl _ _ _ _ hj hq)).trans h2⟩
 ·rcases tP hb with ⟨_,hb⟩ | ⟨_,rfl⟩
  ·exact h.gl a b p q' ha hb
  ·exact far p.1 (h.glt ha) (h.gl a q p _ ha hq)
theorem aIj {ops:Array Oper} {K:Env->bA->Prop} {i n:Nat} {H0:Frame} {L:List (Nat×Nat×List V)} {L':Nat->List (Nat×Nat×List V)} (q lo k:Nat) (es es':List V) (fid:Nat) (as0:List V) (x:Nat->V) (hs:aP i n=i::aP (i+1) n) (hd:qY N ops T i=some (fid,as0)) (hc:aBn P fid lo k es as0 x es') (hO:aN H0 H L)
  (hq:L[q]?=some (lo,k,es)) (hl:∀ lo',L' lo'=L.set q (lo',k,es')) (h:∀ lo' H',aN H0 H' (L' lo')->RWs P tt N ops (aP (i+1) n) (T.cF (cP ops i) ([],x lo')) H' K):RWs P tt N ops (aP i n) T H K :=
 YC hs hd (hc H (hO.at q hq)) fun _ H' ⟨lo',e,ho⟩=>e ▸ h lo' H' (hl lo' ▸ hO.aOu q hq ho)
theorem aBn.nil {f:FuncId}{k:Nat}{es':List V}{pre post:List V}{el:Nat->V}{r:Nat->V}(h:∀ lo,aBn P f lo k [] (pre++[.msl k lo 0 0]++post) r es'):NP P f (pre++[.sl true 0 el]++post) r k es':=by
 intro H;refine⟨(h H.length (H++[.vec k []]) (by simp)).1,fun g w vs hs hl hr=>?_⟩;have hm:=hs.more (b:=w.heap.size) (o:=0) (k:=k) (cap:=0) (xs:=[]) (by simp) (by simp) (fun _=>undef) (by simp) (by simp) (fun _ _ _ _ _ _ _ hj=>by simp at hj);have hx:Ext g w (g.more w.heap.size 0 k 0) w:=(Ext.refl g w).more (.inl (Nat.le_refl _));refine ((h H.length (H++[.vec k []]) (by simp)).2 (g.more w.heap.size 0 k 0) w vs hm (by simpa using hl) (fun i x y hi hy=>?_)).mono ?_
 ·by_cases hp:i=pre.length
  ·subst hp;have h1:(pre++[V.sl true 0 el]++post)[pre.length]?=some (.sl true 0 el):=by simp
   have h2:(pre++[V.msl k H.length 0 0]++post)[pre.length]?=some (.msl k H.length 0 0):=by simp
   rw [h2] at hi;cases hi;obtain⟨a0,cap,rfl,_,hz⟩:=(hr _ _ _ h1 hy).slE;have hc0:=hz rfl;subst hc0;have:=Rep.msl0 (g:=g.more w.heap.size 0 k 0) (w:=w) g.n 0 a0 (Nat.lt_succ_self _) (by simp [Gh.more,gU]);rw [hs.len]
   simpa [Gh.more,gU] using this
  ·have h1:(pre++[V.sl true 0 el]++post)[i]?=(pre++[V.msl k H.length 0 0]++post)[i]? := by
    rcases Nat.lt_or_gt_of_ne hp with h3 | h3
    ·rw [List.append_assoc,List.append_assoc,List.getElem?_append_left h3,List.getElem?_append_left h3]
    ·rw [List.getElem?_append_right (by simp;omega),List.getElem?_append_right (by simp;omega)];simp
   exact (hr i x y (h1.trans hi) hy).ext hx.toExt0
 ·rintro e w' ⟨v,x,g',H',rfl,r1,r2,r3,lo',rfl,ho⟩;refine⟨v,_,g',H',rfl,r1,r2,hx.trans r3,lo',rfl,?_⟩
  have hle:H.length<=lo':=by
   rcases (ho.mem 0 lo' k es' rfl).1 with h1 | h1
   ·simp at h1;omega
   ·simp at h1;omega
  refine⟨⟨by have:=ho.ext.1;simp at this;show H.length<=H'.length;omega,fun l hl' _=>?_⟩,ho.ne,fun i b5 k2 e2 hi=>?_,by simp,by simp,by simp⟩
  ·have b6:l<H.length:=hl';have:=ho.ext.2 l (by simp;omega) (by simp;omega);rw [this];show (H++[fD.vec k []])[l]?=H[l]?;rw [List.getElem?_append_left b6]
  ·obtain⟨_,h2⟩:=ho.mem i b5 k2 e2 hi
   cases i with
   | zero=>simp at hi; obtain ⟨rfl,rfl,rfl⟩:=hi; exact ⟨.inl hle,h2⟩
   | succ i=>simp at hi
section drawn
variable {ops:Array Oper} {K:PE->bA->Prop} {i n:Nat} {T:PE} {pl:Oper->Bool}
theorem aNt {H0:Frame} {L:List (Nat×Nat×List V)} {L':Nat->List (Nat×Nat×List V)} (k:Nat) (es:List V) (fid:Nat) (as0:List V) (x:Nat->V) (hs:aP i n=i::aP (i+1) n) (hd:qY N ops (lift T) i=some (fid,as0)) (hc:NP P fid as0 x k es) (hO:aN H0 H L)
  (hl:∀ lo,L' lo=L++[(lo,k,es)]) (h:∀ lo H',aN H0 H' (L' lo)->RD P tt N pl ops (aP (i+1) n) (T.cF (cP ops i) (x lo)) H' K) (hz:vK pl ops i=true:=by kernel_rfl):RD P tt N pl ops (aP i n) T H K :=
 aAG hs hd (hc H) (fun _ _ _ ⟨_,_,hO'⟩=>hO'.out) (fun _ H' ⟨lo,e,hO'⟩=>e ▸ h lo H' (hl lo ▸ hO.join hO')) hz
end drawn
theorem aHB {ops:Array Oper}{i:Nat}{s x:V}{te:TyE}(hd:KF tt N ops T i=some (s,x,te)):∃ args tys t t' e e',gJ N ops i=some (.call ⟨.builtin .append,args,tys⟩)/\jT T [] args.toList=some [s,x]/\tys=#[t,t'] /\
  (∃ q1 q2 q3,tt t=some ⟨.slice e,q1,q2,q3⟩)/\(∃ q1 q2 q3,tt t'=some ⟨.slice e',q1,q2,q3⟩)/\tt e=some te/\vY te.zero te.size=true:=by
 unfold KF at hd;split at hd
 ·rename_i args tys hp
  split at hd
  ·rename_i s' x' t t' hev h0 h1 h2
   split at hd
   ·rename_i e _ _ _ e' _ _ _ ht ht'
    split at hd
    ·rename_i te' hte
     split at hd
     ·rename_i hz
      simp at hd;obtain ⟨rfl,rfl,rfl⟩:=hd;exact⟨args,tys,t,t',e,e',hp,hev,aFd h0 h1 h2,⟨_,_,_,ht⟩,⟨_,_,_,ht'⟩,hte,hz⟩
     ·simp at hd
    ·simp at hd
   ·simp at hd
  ·simp at hd
 ·simp at hd
theorem aH6 {pl:Oper->Bool} {ops:Array Oper} {K:PE->bA->Prop} {T:PE} {i n:Nat} {H0:Frame} {L:List (Nat×Nat×List V)} {α:Type} [Inhabited α] {e:α->V} (zs:List α) (el:Nat->V) (k bytes:Nat) (x:V) (hs:aP i n=i::aP (i+1) n) (hd:PW tt N ops (lift T) i=some (.sl true 0 el,x,k,bytes)) (hO:aN H0 H L)
  (hy:wQ k H x=some (zs.map e)) (hb:zs.length*bytes<=140737488355328/\zs.length<=9223372036854775807)
  (h:∀ H',aN H0 H' L->RD P tt N pl ops (aP (i+1) n) (T.cF (cP ops i) (eL e zs)) H' K):RD P tt N pl ops (aP i n) T H K:=by
 obtain⟨te,hd',rfl,rfl⟩:=NV hd;obtain⟨args,tys,t,t',e1,e2,hp,hev,rfl,ht,ht',hte,hz⟩:=aHB hd';refine aE0 hs hp (fun h=>by cases h) rfl rfl (.inr (.inl ⟨el,x,t,t',e1,e2,te,zs.map e,fun i=>e (zs.getD i default),hev,rfl,ht,ht',hte,hz,hy,by simpa using hb.1,by simpa using hb.2,fun j hj=>?_,?_⟩))
 ·have hj':j<zs.length:=by simpa using hj
  simp [List.getD_eq_getElem?_getD,hj']
 ·have:=h (H++[.dead]) (hO.call ((fH.refl H).push _))
  simpa [eL] using this
def aH2 (tt:TT)(N:Nat)(ops:Array Oper)(T:PE)(i:Nat):Option (List V×Nat):=match aBg N ops T i with
 | some (.buildSlice t k parts)=>match SW tt (lift T) [] (.buildSlice t k parts) with
  | some ys=>some (ys,0)
  | none=>none
 | _=>none
theorem aNP {pl:Oper->Bool} {ops:Array Oper} {K:PE->bA->Prop} {T:PE} {i n:Nat} {xs:List V} (hs:aP i n=i::aP (i+1) n) (hd:aH2 tt N ops T i=some (xs,0))
  (h:RD P tt N pl ops (aP (i+1) n) (T.cF (cP ops i) (dB xs)) H K):RD P tt N pl ops (aP i n) T H K:=by
 unfold aH2 at hd;split at hd
 ·rename_i t k' parts hp
  split at hd
  ·rename_i ys hb
   simp at hd;subst hd;exact aAU hs hp (fun h=>by cases h) (.inl ⟨rfl,rfl⟩) ⟨_,hb,.inl ⟨fun _=>fH.refl H,h⟩⟩
  ·simp at hd
 ·simp at hd
theorem aG0 {α:Type}{e:α->V}{H0:Frame}{L:List (Nat×Nat×List V)}{es:List α}{k lo m:Nat}(hO:aN H0 H L)(q:Nat)(hL:L[q]?=some (lo,k,es.map e))(hm:m<=es.length):wQ k H (.msl k lo 0 m)=some ((es.take m).map e):=by
 have : m.ble es.length=true:=Nat.ble_eq_true_of_le hm;simp only [wQ,hO.at q hL,Nat.zero_add,List.length_map,this,Nat.beq_refl,Bool.and_self,List.drop_zero];simp [List.map_take]
theorem aGn {α:Type}{e:α->V}{H0:Frame}{L:List (Nat×Nat×List V)}{es:List α}{k lo n x:Nat}(hO:aN H0 H L)(q:Nat)(hL:L[q]?=some (lo,k,es.map e))(hn:n=es.length)(hx:x<=es.length):wQ k H (.msl k lo (0+x) (n-x))=some ((es.drop x).map e):=by
 subst hn;have : (x+(es.length-x)).ble es.length=true:=Nat.ble_eq_true_of_le (by omega);simp only [wQ,hO.at q hL,Nat.zero_add,List.length_map,this,Nat.beq_refl,Bool.and_self];rw [←List.map_drop,←List.map_take,List.take_of_length_le (by simp)]
end Go.Abs
namespace Go.Abs
open Go IntKind
variable {P:Program} {tt:TT} {ro:Option Nat} {N:Nat} {T:Env} {H:bA} {ds:List Nat} {Q:Exit->Env->bA->List Nat->Prop}
theorem SR.aNf {g:Gh}{w:World}(h:SR g w H){l ke:Nat}{y:V}(hl:H[l]?=some (.vec ke [y])) :
  ∃ g',SR g' w (H.set l .dead)/\Ext g w g' w /\ ∀ v,Rep g w (.lp l 0 0) v->Rep g' w (.rp y) v:=by
 obtain⟨s1,s2,s3⟩:=h.freeze hl;refine⟨_,s1,s2,?_⟩;intro v hv;obtain⟨hln,rfl⟩:=hv.lpE;have hk:=h.kk l ke [y] hl;obtain⟨hc,_,_⟩:=h.vec l ke [y] hl;have hm:Rep g w (.msl ke l 0 1) (.slice (some ⟨g.blk l,g.off l+0*g.k l,none⟩) 1 (g.cap l-0)):=hk ▸ Rep.msl l 0 1 hln (by simpa using hc);have h3:=s3 _ hm
 cases h3 with
 | sl n el b o k cap c h1 h2 h4 h5 h6 h7 =>
  have a1:=h1 0 (Nat.lt_succ_self 0);have a2:=h2 0 (Nat.lt_succ_self 0);have a3:=h4 0 (Nat.lt_succ_self 0);refine .rp y (c 0) _ _ (by simpa using a1) (by simpa using a3) (fun j hj=>?_);have:=h5 0 (Nat.lt_succ_self 0) j (by rw [←a2];exact hj)
  simpa using this
theorem aEG {H0:Frame} {L:List (Nat×Nat×List V)} {c:Code} {l:List (Nat×V)} (i q t k lo:Nat) (y:V) (L':List (Nat×Nat×List V)) (hO:aN H0 H L) (hi:l[i]?=some (t,.lp lo 0 0)) (hL:L[q]?=some (lo,k,[y]))
  (hl:L'=L.eraseIdx q) (next:∀ H',aN H0 H' L'->AWP P ro N c (Env.ofL (l.set i (t,.rp y))) H' ds Q):AWP P ro N c (Env.ofL l) H ds Q:=by
 intro g w a R hg hr;obtain⟨g1,s1,s2,s3⟩:=hg.sr.aNf (hO.at q hL);refine next _ (hO.kill q hL hl) _ w a R (hg.step s2 s1 ?_ rfl rfl) (fun e T' H' ds' g' w' a' q hg' hx=>hr e T' H' ds' g' w' a' q hg' (s2.trans hx));have htr:=hg.tr.ext s2;intro u c' x hu;rcases XV hi hu with h | ⟨rfl,rfl,h⟩
 ·exact htr u c' x h
 ·obtain⟨v,hv,hrep⟩:=(hg.tr u [] _ h).1 (by simp [eJ]);exact⟨fun _=>⟨v,hv,s3 v hrep⟩,fun hnc=>absurd (by simp [eJ]) hnc⟩
def rnd {S R:Type}(f:S->Option (S⊕R)):S⊕R->Option ((S⊕R)×Bool)
 | .inl s=>(f s).bind fun o=>some (o,o.isLeft)
 | .inr _=>none
theorem aGQ {S R:Type}{f:S->Option (S⊕R)}{st st':S⊕R}{r:Bool}(h:rnd f st=some (st',r)):∃ s,st=.inl s/\f s=some st'/\r=st'.isLeft:=by
 cases st with
 | inr s=>cases h
 | inl s =>
  simp only [rnd] at h
  cases hf:f s with
  | none=>rw [hf] at h; cases h
  | some o =>
   rw [hf] at h;simp at h;exact⟨s,rfl,by rw [←h.1];exact hf,by rw [←h.1];exact h.2.symm⟩
theorem KH {b:Nat}{args:List V}{Q:V->bA->Prop}(h:XZ P b args H Q):SX P (yv b) args H Q:=h
theorem KK {lL:Nat}{s:fD}{G:Gs}{L:List (Nat×Nat×List V)}(h:GOk H ((lL,s)::(up L++G))):∃ E1,E1=List.map (fun p:Nat×fD=>p.1) ((lL,s)::(up L++G))/\aN ⟨H,E1,(lL,s)::G⟩ H L:=by
 refine⟨_,rfl,?_⟩;have h2:aN ⟨H,((lL,s)::(up L++G)).map (·.1),up L++((lL,s)::G)⟩ H []:=(aN.YJ h).II (List.perm_middle.symm);exact h2.take
theorem pV {H0:bA}{E1:List Nat}{G0 G:Gs}{lL:Nat}{o1 o:fD}{L:List (Nat×Nat×List V)}(hO:aN ⟨H0,E1,(lL,o1)::G⟩ H L)(hE:E1=List.map (fun p:Nat×fD=>p.1) G0)(ho:o1=o)(s':fD) :
  H[lL]?=some o/\GStep H0 G0 (H.set lL s') ((lL,s')::(up L++G)):=by
 subst hE;subst ho;exact⟨(hO.gm 0 _ rfl).2,aL7 hO s'⟩
theorem wO.toV {fid:Nat} {ys cs zs:List V} {lo k:Nat} {es es':List V} {r:V} {σ:Type} {I:σ->Gs->Prop} {s s':σ} (h:wO P fid lo k es es' (ys++zs++cs) r)
  (hI:∀ G,I s G -> ∃ A B,G=A++(lo,.vec k es)::B/\I s' (A++(lo,.vec k es')::B)):SQ P (.fn (.func fid) ys cs) I s zs s' r:=by
 intro H G hi hg;obtain⟨A,B,rfl,hi'⟩:=hI G hi;refine Or.inl ?_;have hl:H[lo]?=some (.vec k es):=hg.m A.length (lo,.vec k es) (by simp);refine (h H hl).mono ?_;rintro x H' ⟨rfl,hx,hl',_⟩;refine⟨rfl,_,hi',⟨⟨fun i p hp=>?_,?_⟩,⟨hx.1,fun l hl he=>?_⟩,?_⟩⟩
 ·by_cases hpl:p.1=lo
  ·have hm:p∈A++(lo,fD.vec k es')::B:=List.mem_of_getElem? hp;have hnd:=UU.1 hg.n;simp only [List.map_append,List.map_cons,List.nodup_append,List.nodup_cons,List.mem_map,List.mem_cons] at hnd;rcases List.mem_append.1 hm with h1 | h1
   ·exact absurd hpl (fun e=>hnd.2.2 p.1 ⟨p,h1,rfl⟩ lo (.inl rfl) e)
   ·rcases List.mem_cons.1 h1 with rfl | h1
    ·exact hl'
    ·exact absurd ⟨p,h1,hpl⟩ hnd.2.1.1
  ·have hm:p∈A++(lo,fD.vec k es)::B:=by
    rcases List.mem_append.1 (List.mem_of_getElem? hp) with h1 | h1
    ·exact List.mem_append.2 (.inl h1)
    ·rcases List.mem_cons.1 h1 with rfl | h1
     ·exact absurd rfl hpl
     ·exact List.mem_append.2 (.inr (List.mem_cons_of_mem _ h1))
   obtain⟨j,hj⟩:=DO hm;have hold:=hg.m j p hj;exact (hx.2 p.1 (List.getElem?_eq_some_iff.1 hold).1 (by simpa using hpl)).trans hold
 ·refine UU.2 ?_;have:=UU.1 hg.n
  simpa using this
 ·refine hx.2 l hl ?_;intro hm;simp only [List.mem_singleton] at hm;subst hm;exact he (by simp)
 ·intro p hp;refine .inl ?_;rcases List.mem_append.1 hp with h1 | h1
  ·exact List.mem_map.2 ⟨p,List.mem_append.2 (.inl h1),rfl⟩
  ·rcases List.mem_cons.1 h1 with rfl | h1
   ·simp
   ·exact List.mem_map.2 ⟨p,List.mem_append.2 (.inr (List.mem_cons_of_mem _ h1)),rfl⟩
theorem aOz {α β:Type}{x:Option (α×β)}{s:β}{r:α}(h:(x.bind fun o=>some (o.2,o.1))=some (s,r)):x=some (r,s):=by
 cases x with
 | none=>cases h
 | some o=>simp at h; rw [←h.1,←h.2]
section rules
variable {ops:Array Oper} {i n:Nat}
theorem aDg {σ:Type}{I:σ->Gs->Prop}{H0:bA}{E:List Nat}{G:Gs}{L L':List (Nat×Nat×List V)}{s':σ}{H':bA}(hO:aN ⟨H0,E,G⟩ H L)(hI':∀ G',I s' G'->G'=up L'++G)(h:aIN I s' H (up L++G) H'):aN ⟨H0,E,G⟩ H' L':=by
 obtain⟨G',hi,hst⟩:=h;have:=hI' G' hi;subst this;exact (hO.aB7.aJg hst).take
theorem aLI {K:Env->bA->Prop} {σ:Type} (I:σ->Gs->Prop) {H0:bA} {E:List Nat} {G:Gs} {L:List (Nat×Nat×List V)} (L':List (Nat×Nat×List V)) (s s':σ) (fid:Nat) (as0:List V) (x:V) (hs:aP i n=i::aP (i+1) n) (hd:qY N ops T i=some (fid,as0))
  (hc:BP P fid I s as0 s' x) (hO:aN ⟨H0,E,G⟩ H L) (hI:I s (up L++G)) (hI':∀ G',I s' G'->G'=up L'++G) (h:∀ H',aN ⟨H0,E,G⟩ H' L'->RWs P tt N ops (aP (i+1) n) (T.cF (cP ops i) ([],x)) H' K):RWs P tt N ops (aP i n) T H K :=
 YC hs hd (hc H _ hI hO.aB7.gok) fun _ H' ⟨e,hp⟩=>e ▸ h H' (aDg hO hI' hp)
theorem aNs {pl:Oper->Bool} {T:PE} {K:PE->bA->Prop} {σ:Type} (I:σ->Gs->Prop) {H0:bA} {E:List Nat} {G:Gs} {L:List (Nat×Nat×List V)} (L':List (Nat×Nat×List V)) (s s':σ) (fid:Nat) (as0:List V) (x:V) (hs:aP i n=i::aP (i+1) n) (hd:qY N ops (lift T) i=some (fid,as0))
  (hc:BP P fid I s as0 s' x) (hO:aN ⟨H0,E,G⟩ H L) (hI:I s (up L++G)) (hI':∀ G',I s' G'->G'=up L'++G) (h:∀ H',aN ⟨H0,E,G⟩ H' L'->RD P tt N pl ops (aP (i+1) n) (T.cF (cP ops i) x) H' K) (hq:vX pl ops i=true:=by kernel_rfl):RD P tt N pl ops (aP i n) T H K :=
 aAG hs hd (hc H _ hI hO.aB7.gok) (fun h=>by rw [hq] at h;cases h) (fun _ H' ⟨e,hp⟩=>e ▸ h H' (aDg hO hI' hp)) (by simp [vK,hq])
theorem aL8 {K:Env->bA->Prop} {σ:Type} {I:σ->Gs->Prop} {H0:bA} {E:List Nat} {p0:Nat×fD} {G:Gs} {L:List (Nat×Nat×List V)} {s s':σ} (fv:V) (as0:List V) (x:V) (hs:aP i n=i::aP (i+1) n) (hd:TS N ops T i=some (fv,as0)) (hc:SQ P fv I s as0 s' x)
  (hO:aN ⟨H0,E,p0::G⟩ H L) (hI:I s G) (h:∀ G' H',aN ⟨H0,E,p0::G'⟩ H' L->I s' G'->RWs P tt N ops (aP (i+1) n) (T.cF (cP ops i) ([],x)) H' K):RWs P tt N ops (aP i n) T H K :=
 aDZ hs hd (hc H G hI hO.tC.gok) fun _ H' ⟨e,G',hi,hst⟩=>e ▸ h G' H' (hO.aKm hst) hi
end rules
theorem SR.weaken {g:Gh}{w:World}(h:SR g w H){l k i:Nat}{es:List V}{y y':V}(hl:H[l]?=some (.vec k es))(hy:es[i]?=some y)(hn:jM y'=true)(hsub:∀ v,Rep g w y v->Rep g w y' v):SR g w (H.set l (.vec k (es.set i y'))):=by
 have hlt:l<H.length:=(List.getElem?_eq_some_iff.1 hl).1
 have hat:∀ (l':Nat) (ob:fD),(H.set l (.vec k (es.set i y')))[l']?=some ob->(l'=l/\ob=.vec k (es.set i y'))∨(l'≠l/\H[l']?=some ob):=by
  intro l' ob hl';rw [List.getElem?_set] at hl';split at hl'
  ·rename_i heq
   simp [heq ▸ hlt] at hl';exact .inl ⟨heq.symm,hl'.symm⟩
  ·rename_i hne;exact .inr ⟨fun e=>hne e.symm,hl'⟩
 have b5:∀ (l':Nat) (k':Nat) (es':List V),(H.set l (.vec k (es.set i y')))[l']?=some (.vec k' es') -> ∃ b6,H[l']?=some (.vec k' b6)/\b6.length=es'.length:=by
  intro l' k' es' hl';rcases hat l' _ hl' with ⟨rfl,he⟩ | ⟨_,h2⟩
  ·cases he;exact ⟨es,hl,by simp⟩
  ·exact⟨es',h2,rfl⟩
 refine { len:=by simp [h.len],fxc:=h.fxc,nt:=?_,kk:=?_,vec:=?_,raw:=?_,disj:=?_,rawd:=?_ }
 ·intro l' k' es' hl' x hx;rcases hat l' _ hl' with ⟨rfl,he⟩ | ⟨_,h2⟩
  ·cases he
   rcases List.mem_or_eq_of_mem_set hx with h1 | h1
   ·exact h.nt _ _ _ hl x h1
   ·rw [h1];exact hn
  ·exact h.nt _ _ _ h2 x hx
 ·intro l' k' es' hl';obtain⟨b6,h2,_⟩:=b5 _ _ _ hl';exact h.kk _ _ _ h2
 ·intro l' k' es' hl';rcases hat l' _ hl' with ⟨rfl,he⟩ | ⟨_,h2⟩
  ·cases he
   obtain⟨a1,⟨c,hc⟩,a3⟩:=h.vec _ _ _ hl;refine⟨by simpa using a1,⟨c,fun j x hx=>?_⟩,a3⟩;rw [List.getElem?_set] at hx;split at hx
   ·rename_i hij
    split at hx
    ·simp at hx;subst hx;subst hij;exact⟨hsub _ (hc _ _ hy).1,(hc _ _ hy).2⟩
    ·cases hx
   ·exact hc j x hx
  ·exact h.vec _ _ _ h2
 ·intro l' s hl';rcases hat l' _ hl' with ⟨_,he⟩ | ⟨_,h2⟩
  ·cases he
  ·exact h.raw _ _ h2
 ·intro a b k1 k2 e1 e2 ha hb hne j j' hj hj';obtain⟨x1,y1,_⟩:=b5 _ _ _ ha;obtain⟨x2,y2,_⟩:=b5 _ _ _ hb;exact h.disj a b k1 k2 x1 x2 y1 y2 hne j j' hj hj'
 ·intro a b s1 s2 ha hb hne;rcases hat a _ ha with ⟨_,he⟩ | ⟨_,h1⟩
  ·cases he
  ·rcases hat b _ hb with ⟨_,he⟩ | ⟨_,h2⟩
   ·cases he
   ·exact h.rawd a b s1 s2 h1 h2 hne
theorem oF.weaken {T:Env}{l k i:Nat}{es:List V}{y y':V}(hl:H[l]?=some (.vec k es))(hy:es[i]?=some y)(hn:jM y'=true)(hs:dF y y'):oF N T H T (H.set l (.vec k (es.set i y'))):=fun g w _ _ hg =>
 ⟨g,⟨hg.sr.weaken hl hy hn (fun v=>hs g w v),hg.tr,hg.df,hg.dl,hg.sz⟩,Ext.refl g w⟩
theorem aLr {e:Exit} {T:Env} {H0:Frame} {L:List (Nat×Nat×List V)} (q lo k:Nat) (y y':V) (L':List (Nat×Nat×List V)) (hO:aN H0 H L) (hL:L[q]?=some (lo,k,[y])) (hn:jM y'=true) (hs:dF y y') (hl:L'=L.set q (lo,k,[y']))
  (h:∀ H',aN H0 H' L'->Cl N Q e T H' ds):Cl N Q e T H ds:=by
 refine TB (oF.weaken (hO.at q hL) (i:=0) rfl hn hs) (h _ ?_);subst hl;exact hO.put q hL [y']
theorem RM {T:Env}{t:Nat}{x:V}{r:List ResultVar}{xs:List V}(ht:T t=some ([],x))(hr:MB tt T H r xs):MB tt T H (.tmp t::r) (x::xs):=⟨ht,hr⟩
theorem IF {H0:Frame}{L:List (Nat×Nat×List V)}{T:Env}{a t k lo:Nat}{x y:V}{r:List ResultVar}{xs:List V}(q:Nat)(hO:aN H0 H L)(hL:L[q]?=some (lo,k,[y]))(ht:T a=some ([],.lp lo 0 0))(hty:(tt t).isSome=true)(hx:YQ tt t y 0=some x)(hr:MB tt T H r xs) :
  MB tt T H (.cell a t::r) (x::xs):=⟨⟨lo,0,0,k,[y],y,ht,hO.at q hL,rfl,Option.isSome_iff_exists.1 hty,hx⟩,hr⟩
theorem wE {T:Env}:MB tt T H [] []:=trivial
theorem QM0 {fn:Func}{Q:V->bA->Prop}{T:Env}{e:Exit}{rs:List ResultVar}{xs:List V}{x:V}(he:e=.normal∨e=.ret)(hrs:fn.results.toList=rs)(hR:MB tt T H rs xs)(hx:aAd xs=x)(hq:Q x H):aCA tt fn (fun r H=>∃ r',dF r r'/\Q r' H) e T H []:=by
 subst hx;rcases he with rfl | rfl <;> exact ⟨List.nodup_nil,by simp,xs,hrs ▸ hR,_,dF.refl _,hq⟩
theorem QM1 {fn:Func}{Q:V->bA->Prop}{T:Env}{e:Exit}{rs:List ResultVar}{xs:List V}{x:V}{lD:Nat}(he:e=.normal∨e=.ret)(hD:H[lD]?=some (.raw EA))(hrs:fn.results.toList=rs)(hR:MB tt T (H.set lD .dead) rs xs)(hx:aAd xs=x)(hq:Q x (H.set lD .dead)):aCA tt fn (fun r H=>∃ r',dF r r'/\Q r' H) e T H [lD]:=by
 subst hx;rcases he with rfl | rfl <;> exact ⟨by simp,by simpa using hD,xs,hrs ▸ hR,_,dF.refl _,hq⟩
end Go.Abs
namespace Go.Abs
open Go IntKind Go.RowKit
variable {P:Program} {tt:TT} {ro:Option Nat} {N:Nat} {T:Env} {H:bA} {ds:List Nat} {Q:Exit->Env->bA->List Nat->Prop} {c:Code} {e:Exit}
theorem cN (l:List (Nat×V))(next:Cl N Q e (Env.ofL l) H ds)(h:l.map (fun p=>T p.1)=l.map (fun p=>some ([],p.2)):=by kernel_rfl):Cl N Q e T H ds:=cV (.eq h) next
theorem bD {X:Env->bA->List Nat->Prop}(l:List (Nat×V))(next:X (Env.ofL l) H ds)(h:l.map (fun p=>T p.1)=l.map (fun p=>some ([],p.2)):=by kernel_rfl):Cl N (AA X Q) .normal T H ds:=cV (.eq h) (aJ next)
theorem eA (l:List (Nat×V))(next:AWP P ro N c (Env.ofL l) H ds Q)(h:l.map (fun p=>T p.1)=l.map (fun p=>some ([],p.2)):=by kernel_rfl):AWP P ro N c T H ds Q:=bB (.eq h) next
theorem aO (h:AWP P ro N c.l T H ds (AA (fun T H ds=>AWP P ro N c.r T H ds Q) Q))(hk:c.kind=1:=by kernel_rfl):AWP P ro N c T H ds Q:=aE6 hk h
theorem bK (h:Cl N Q .ret T H ds)(hk:c.kind=6:=by kernel_rfl):AWP P ro N c T H ds Q:=aA6 (aOr hk h)
theorem bG (h:Cl N Q .normal T H ds)(hk:c.kind=0:=by kernel_rfl):AWP P ro N c T H ds Q:=aA6 (aOm hk h)
theorem dV (id:Nat)(h:Cl N Q (.exit id) T H ds)(hk:c.kind=5:=by kernel_rfl)(hi:c.blk=id:=by kernel_rfl):AWP P ro N c T H ds Q:=aA6 (aNJ hk hi h)
theorem bS (id:Nat)(h:AWP P ro N c.b T H ds (KC id Q))(hk:c.kind=3:=by kernel_rfl)(hi:c.blk=id:=by kernel_rfl):AWP P ro N c T H ds Q:=aNd hk hi h
theorem pX (b:Bool)(h1:b=true->AWP P ro N c.t T H ds Q)(h2:b=false->AWP P ro N c.e T H ds Q)(hk:c.kind=2:=by kernel_rfl)(hc:dD T [] c.cnd=some (.lit (.bool b)):=by kernel_rfl):AWP P ro N c T H ds Q:=aK1 hk hc h1 h2
section region
variable {ops:Array Oper} {K:Env->bA->Prop} {i n:Nat}
theorem bC (h:K (UI tt ops (aP i n) T) H)(hc:UA tt N ops (aP i n) T=some []:=by kernel_rfl):RWs P tt N ops (aP i n) T H K:=aE5 hc trivial h
theorem bM (j:Nat)(h:RWs P tt N ops (aP j n) (UI tt ops (aP i j) T) H K)(hs:aP i n=aP i j++aP j n:=by kernel_rfl)(hc:UA tt N ops (aP i j) T=some []:=by kernel_rfl):RWs P tt N ops (aP i n) T H K:=aKB j hs hc trivial h
theorem eC (h:K T H)(hs:aP i n=[]:=by kernel_rfl):RWs P tt N ops (aP i n) T H K:=aOx hs h
theorem aNZ {H0:Frame} {L:List (Nat×Nat×List V)} (fid:Nat) (as0:List V) (x:V) (hc:cW P fid as0 x) (hO:aN H0 H L)
  (h:∀ H',aN H0 H' L->RWs P tt N ops (aP (i+1) n) (T.cF (cP ops i) ([],x)) H' K) (hs:aP i n=i::aP (i+1) n:=by kernel_rfl) (hd:LX N ops T i=some ([],fid,as0):=by kernel_rfl):RWs P tt N ops (aP i n) T H K :=
 rY [] fid as0 x true hs hd rfl (fun _=>hc) hO h
end region
section drawn
variable {ops:Array Oper} {K:PE->bA->Prop} {i n:Nat} {T:PE} {pl:Oper->Bool}
theorem gT (h:K (QE tt ops (aP i n) T) H)(hc:QN tt N ops (aP i n) T=some []:=by kernel_rfl):RD P tt N pl ops (aP i n) T H K:=LL hc trivial h
theorem jX (j:Nat)(h:RD P tt N pl ops (aP j n) (QE tt ops (aP i j) T) H K)(hs:aP i n=aP i j++aP j n:=by kernel_rfl)(hc:QN tt N ops (aP i j) T=some []:=by kernel_rfl):RD P tt N pl ops (aP i n) T H K:=aKv j hs hc trivial h
end drawn
end Go.Abs
namespace Go.Abs
open Go IntKind Go.RowKit
def aNz (t:Nat):List Nat->Bool
 | []=>false
 | k::r=>match Nat.beq t k with
  | true=>true
  | false=>aNz t r
def WS (ks:List Nat):List (Nat×V)->List (Nat×V)
 | []=>[]
 | p::r=>match aNz p.1 ks with
  | true=>WS ks r
  | false=>p::WS ks r
section main
variable {P:Program} {tt:TT} {ro:Option Nat} {N:Nat} {T:Env} {H:bA} {ds:List Nat} {Q:Exit->Env->bA->List Nat->Prop} {c:Code} {e:Exit}
abbrev ClK (_l:List (Nat×V))(N:Nat)(Q:Exit->Env->bA->List Nat->Prop)(e:Exit)(T:Env)(H:bA)(ds:List Nat):Prop:=Cl N Q e T H ds
theorem aS (htt:jO P tt)(n:Nat){l:List (Nat×V)}(h:RWs P tt N c.ops (aP 0 n) (Env.ofL l) H (fun T' H'=>ClK l N Q .normal T' H' ds))(hk:c.kind=7:=by kernel_rfl)(hn:c.ops.size=n:=by kernel_rfl):AWP P ro N c (Env.ofL l) H ds Q:=aA6 (aCi htt hk hn h)
theorem fF (pl:Oper->Bool)(htt:jO P tt)(n:Nat){l:List (Nat×V)}(h:RD P tt N pl c.ops (aP 0 n) (PE.ofL l) H (fun T' H'=>ClK l N Q .normal (lift T') H' ds))(hm:P.follows .mixedOrders=true:=by kernel_rfl)(hk:c.kind=8:=by kernel_rfl)(hn:c.ops.size=n:=by kernel_rfl)(hok:aGD pl c.ops=true:=by kernel_rfl):AWP P ro N c (Env.ofL l) H ds Q:=aA6 (aOa htt hm hk hn hok h)
theorem bT {X:Env->bA->List Nat->Prop}{l:List (Nat×V)}(ks:List Nat)(new:List (Nat×V))(next:X (Env.ofL (new++WS ks l)) H ds)(h:(new++WS ks l).map (fun p=>T p.1)=(new++WS ks l).map (fun p=>some ([],p.2)):=by kernel_rfl):ClK l N (AA X Q) .normal T H ds:=cV (.eq h) (aJ next)
theorem dH (J:Env->bA->Prop)(hJ:∀ T H,J T H->AWP P ro N c.r T H ds Q)(h:AWP P ro N c.l T H ds (AA (fun T H ds'=>ds'=ds/\J T H) Q))(hk:c.kind=1:=by kernel_rfl):AWP P ro N c T H ds Q:=aNQ hk J hJ h
theorem cX {f:Nat}{fn:Func}{args:List V}{Q:V->bA->Prop}(hf:P.funcs[f]?=some fn)(h:AWP P none fn.ntmps (B fn) (Env.ofL (params 0 args)) H [] (WY fn (fun r H=>∃ r',dF r r'/\Q r' H)))(hb:fn.body.isSome=true:=by kernel_rfl)(hname:(fn.name == "runtime.NumGoroutine")=false:=by kernel_rfl)(b5:Nat.ble args.length fn.ntmps=true:=by kernel_rfl):pO P f args H Q:=aNU hf hb hname b5 h
theorem aY (htt:jO P tt) (n:Nat) {l:List (Nat×V)} (ks:List Nat) (new:List (Nat×V)) (next:AWP P ro N c.r (Env.ofL (new++WS ks l)) H ds Q)
  (hk:c.kind=1:=by kernel_rfl) (hk2:c.l.kind=7:=by kernel_rfl) (hn:c.l.ops.size=n:=by kernel_rfl) (hc:UA tt N c.l.ops (aP 0 n) (Env.ofL l)=some []:=by kernel_rfl)
  (h:(new++WS ks l).map (fun p=>UI tt c.l.ops (aP 0 n) (Env.ofL l) p.1)=(new++WS ks l).map (fun p=>some ([],p.2)):=by kernel_rfl):AWP P ro N c (Env.ofL l) H ds Q :=
 aE6 hk (aA6 (aCi htt hk2 hn (aE5 hc trivial (cV (.eq h) (aJ next)))))
theorem bW (htt:jO P tt) (n:Nat) {l:List (Nat×V)} (new:List (Nat×V)) (next:AWP P ro N c.r (Env.ofL new) H ds Q)
  (hk:c.kind=1:=by kernel_rfl) (hk2:c.l.kind=7:=by kernel_rfl) (hn:c.l.ops.size=n:=by kernel_rfl) (hc:UA tt N c.l.ops (aP 0 n) (Env.ofL l)=some []:=by kernel_rfl)
  (h:new.map (fun p=>UI tt c.l.ops (aP 0 n) (Env.ofL l) p.1)=new.map (fun p=>some ([],p.2)):=by kernel_rfl):AWP P ro N c (Env.ofL l) H ds Q :=
 aE6 hk (aA6 (aCi htt hk2 hn (aE5 hc trivial (cV (.eq h) (aJ next)))))
theorem bI {α:Type}{b:Bool}{x y:Option α}{r:α}(h0:cond b x y=some r)(h1:x=some r->AWP P ro N c.t T H ds Q)(h2:y=some r->AWP P ro N c.e T H ds Q)(hk:c.kind=2:=by kernel_rfl)(hc:dD T [] c.cnd=some (.lit (.bool b)):=by kernel_rfl):AWP P ro N c T H ds Q :=
 aK1 hk hc (fun e=>h1 (aC4 e h0)) (fun e=>h2 (aDh e h0))
end main
section region
variable {P:Program} {tt:TT} {N:Nat} {T:Env} {H:bA} {ops:Array Oper} {K:Env->bA->Prop} {i n:Nat}
theorem nI (Ds:List Prop)(hD:zX Ds)(h:K (UI tt ops (aP i n) T) H)(hc:UA tt N ops (aP i n) T=some Ds:=by kernel_rfl):RWs P tt N ops (aP i n) T H K:=aE5 hc hD h
theorem nM (j:Nat)(Ds:List Prop)(hD:zX Ds)(h:RWs P tt N ops (aP j n) (UI tt ops (aP i j) T) H K)(hs:aP i n=aP i j++aP j n:=by kernel_rfl)(hc:UA tt N ops (aP i j) T=some Ds:=by kernel_rfl):RWs P tt N ops (aP i n) T H K:=aKB j hs hc hD h
theorem gW {H0:Frame} {L:List (Nat×Nat×List V)} (q lo k ix:Nat) (y x:V) (es:List V) (hO:aN H0 H L) (hy:es[ix]?=some y)
  (h:RWs P tt N ops (aP (i+1) n) (T.cF (cP ops i) ([],x)) H K) (hs:aP i n=i::aP (i+1) n:=by kernel_rfl) (hd:PD tt N ops T i y=some ([],lo,ix,x):=by kernel_rfl) (hL:L[q]?=some (lo,k,es):=by kernel_rfl):RWs P tt N ops (aP i n) T H K:=TE [] q lo k ix y x es hs hd hO hL true rfl (fun _=>hy) h
theorem mK {H0:Frame} {L:List (Nat×Nat×List V)} (q lo k ix:Nat) (y y':V) (es:List V) (L':List (Nat×Nat×List V)) (hO:aN H0 H L) (hy:es[ix]?=some y) (hl:L'=L.set q (lo,k,es.set ix y')) (h:∀ H',aN H0 H' L'->RWs P tt N ops (aP (i+1) n) T H' K)
  (hs:aP i n=i::aP (i+1) n:=by kernel_rfl) (hn:cP ops i=none:=by kernel_rfl) (hd:GF tt N ops T i y=some (lo,ix,y'):=by kernel_rfl) (hL:L[q]?=some (lo,k,es):=by kernel_rfl):RWs P tt N ops (aP i n) T H K:=aJR q lo k ix y y' es L' hs hn hd hO hL hy hl h
end region
section drawn
variable {P:Program} {tt:TT} {N:Nat} {T:PE} {H:bA} {ops:Array Oper} {K:PE->bA->Prop} {i n:Nat} {pl:Oper->Bool}
theorem cS (j:Nat)(Ds:List Prop)(hD:zX Ds)(h:RD P tt N pl ops (aP j n) (QE tt ops (aP i j) T) H K)(hs:aP i n=aP i j++aP j n:=by kernel_rfl)(hc:QN tt N ops (aP i j) T=some Ds:=by kernel_rfl):RD P tt N pl ops (aP i n) T H K:=aKv j hs hc hD h
theorem jU {H0:Frame} {L:List (Nat×Nat×List V)} (q lo k ix:Nat) (y x:V) (es:List V) (hO:aN H0 H L) (hy:es[ix]?=some y) (h:RD P tt N pl ops (aP (i+1) n) (T.cF (cP ops i) x) H K)
  (hs:aP i n=i::aP (i+1) n:=by kernel_rfl) (hp:(gJ N ops i).isSome=true:=by kernel_rfl) (hq:vX pl ops i=true:=by kernel_rfl) (hd:PD tt N ops (lift T) i y=some ([],lo,ix,x):=by kernel_rfl) (hL:L[q]?=some (lo,k,es):=by kernel_rfl):RD P tt N pl ops (aP i n) T H K:=aMU q lo k ix y x es hs hp hq hd hO hL hy h
theorem oW {H0:Frame} {L:List (Nat×Nat×List V)} (q lo k ix:Nat) (y y':V) (es:List V) (L':List (Nat×Nat×List V)) (hO:aN H0 H L) (hy:es[ix]?=some y) (hl:L'=L.set q (lo,k,es.set ix y')) (h:∀ H',aN H0 H' L'->RD P tt N pl ops (aP (i+1) n) T H' K)
  (hs:aP i n=i::aP (i+1) n:=by kernel_rfl) (hn:cP ops i=none:=by kernel_rfl) (hd:GF tt N ops (lift T) i y=some (lo,ix,y'):=by kernel_rfl) (hL:L[q]?=some (lo,k,es):=by kernel_rfl):RD P tt N pl ops (aP i n) T H K:=aLJ q lo k ix y y' es L' hs hn hd hO hL hy hl h
end drawn
abbrev wR (n:Int):Int:=i64.wrap n
abbrev eI (n:Int):V:=cD .i64 n
abbrev lN {α:Type}(l:List α):Int:=(l.length:Int)
abbrev gD {α:Type}[Inhabited α](l:List α)(i:Int):α:=List.getD l i.toNat default
theorem oI {α:Type}{x y:α}(h:some x=some y):x=y:=Option.some.inj h
section ends
variable {P:Program} {tt:TT} {N:Nat} {T:Env} {H H0:bA} {fn:Func} {x:V} {L:List (Nat×Nat×List V)}
theorem Q_r (hO:aN ⟨H0,[],[]⟩ H L)(hx:SF fn T=some x:=by kernel_rfl):WY fn (fun r H=>∃ r',dF r r'/\(r'=x/\fH H0 H)) .ret T H []:=oO hx (dF.refl _) ⟨rfl,hO.out⟩
end ends
section calls
variable {P:Program} {tt:TT} {N:Nat} {T:Env} {H:bA} {ops:Array Oper} {K:Env->bA->Prop} {i n:Nat}
theorem cU {H0:Frame} {L:List (Nat×Nat×List V)} {fid:Nat} {as0:List V} {x:V} (hc:cW P fid as0 x) (hO:aN H0 H L)
  (h:∀ H',aN H0 H' L->RWs P tt N ops (aP (i+1) n) (T.cF (cP ops i) ([],x)) H' K) (hs:aP i n=i::aP (i+1) n:=by kernel_rfl) (hd:LX N ops T i=some ([],fid,as0):=by kernel_rfl):RWs P tt N ops (aP i n) T H K :=
 rY [] fid as0 x true hs hd rfl (fun _=>hc) hO h
theorem PB {H0:Frame} {L:List (Nat×Nat×List V)} {lo k:Nat} {es es':List V} {fid:Nat} {as0:List V} {x:V} (L':List (Nat×Nat×List V)) (q:Nat) (hc:wO P fid lo k es es' as0 x) (hO:aN H0 H L)
  (h:∀ H',aN H0 H' L'->es'.length=es.length->RWs P tt N ops (aP (i+1) n) (T.cF (cP ops i) ([],x)) H' K) (hs:aP i n=i::aP (i+1) n:=by kernel_rfl) (hd:qY N ops T i=some (fid,as0):=by kernel_rfl)
  (hq:L[q]?=some (lo,k,es):=by kernel_rfl) (hl:L'=L.set q (lo,k,es'):=by kernel_rfl):RWs P tt N ops (aP i n) T H K:=aMQ q lo k es es' fid as0 x hs hd hc hO hq hl h
variable {TD:PE} {KD:PE->bA->Prop} {pl:Oper->Bool}
theorem PZ {H0:Frame} {L:List (Nat×Nat×List V)} {fid:Nat} {as0:List V} {x:V} (hc:cW P fid as0 x) (hO:aN H0 H L)
  (h:∀ H',aN H0 H' L->RD P tt N pl ops (aP (i+1) n) (TD.cF (cP ops i) x) H' KD) (hs:aP i n=i::aP (i+1) n:=by kernel_rfl) (hd:qY N ops (lift TD) i=some (fid,as0):=by kernel_rfl):RD P tt N pl ops (aP i n) TD H KD :=
 aDH fid as0 x hs hd hc hO h
end calls
theorem pM {a a' b b':Bool}(h:a=a')(g:b=b'):(a&&b)=(a'&&b'):=by rw [h,g]
theorem wU {a a' b b':Bool}(h:a=a')(g:b=b'):(a||b)=(a'||b'):=by rw [h,g]
theorem zN {a a':Bool}(h:a=a'):(!a)=(!a'):=by rw [h]
abbrev OL:=List (Nat×Nat×List V)
def BX (P:Program)(f:FuncId)(args:List V)(L:OL)(Post:V->OL->Prop):Prop :=
 ∀ F H,aN F H L->pO P f args H fun x H'=>∃ L',Post x L'/\aN F H' L'
theorem aN.part {F:Frame}{H:bA}{L R:OL}(h:aN F H (L++R)):aN ⟨F.h,F.e,up R++F.g⟩ H L:=by
 have h1:=h.aB7;rw [show up (L++R)=up L++up R by simp [up],List.append_assoc] at h1;exact h1.take
theorem aN.glue {F:Frame}{H:bA}{L R:OL}(h:aN ⟨F.h,F.e,up R++F.g⟩ H L):aN F H (L++R):=by
 have h1:=h.aB7;rw [←List.append_assoc,←show up (L++R)=up L++up R by simp [up]] at h1;exact h1.take
section rules
variable {P:Program} {tt:TT} {N:Nat} {T:Env} {H:bA} {ops:Array Oper} {K:Env->bA->Prop} {i n:Nat}
theorem PL {F:Frame} {L0 L:OL} {Post:V->OL->Prop} {fid:Nat} {as0:List V} (R:OL) (ix:List Nat) (hc:BX P fid as0 L Post) (hO:aN F H L0)
  (h:∀ x L' H',Post x L'->aN F H' (L'++R)->RWs P tt N ops (aP (i+1) n) (T.cF (cP ops i) ([],x)) H' K) (hnd:ix.Nodup:=by decide) (hp:ix.map (fun i=>L0[i]?)=(L++R).map some:=by kernel_rfl)
  (hs:aP i n=i::aP (i+1) n:=by kernel_rfl) (hd:qY N ops T i=some (fid,as0):=by kernel_rfl):RWs P tt N ops (aP i n) T H K :=
 YC hs hd (hc _ H (hO.pick ix hnd hp).part) fun _ H' ⟨L',hP,hO'⟩=>h _ L' H' hP hO'.glue
variable {TD:PE} {KD:PE->bA->Prop} {pl:Oper->Bool}
theorem aN8 {F:Frame} {L0 L:OL} {Post:V->OL->Prop} {fid:Nat} {as0:List V} (R:OL) (ix:List Nat) (hc:BX P fid as0 L Post) (hO:aN F H L0)
  (h:∀ x L' H',Post x L'->aN F H' (L'++R)->RD P tt N pl ops (aP (i+1) n) (TD.cF (cP ops i) x) H' KD) (hnd:ix.Nodup:=by decide) (hp:ix.map (fun i=>L0[i]?)=(L++R).map some:=by kernel_rfl)
  (hs:aP i n=i::aP (i+1) n:=by kernel_rfl) (hd:qY N ops (lift TD) i=some (fid,as0):=by kernel_rfl) (hq:vX pl ops i=true:=by kernel_rfl):RD P tt N pl ops (aP i n) TD H KD :=
 aAG hs hd (hc _ H (hO.pick ix hnd hp).part) (fun h=>by rw [hq] at h;cases h) (fun _ H' ⟨L',hP,hO'⟩=>h _ L' H' hP hO'.glue) (by simp [vK,hq])
end rules
section ends
variable {fn:Func} {T:Env} {H:bA} {F:Frame} {Post:V->OL->Prop} {x:V} {L:OL}
theorem EE (hO:aN F H L)(hp:Post x L)(hx:SF fn T=some x:=by kernel_rfl):WY fn (fun r H=>∃ r',dF r r' /\ ∃ L',Post r' L'/\aN F H L') .ret T H []:=oO hx (dF.refl _) ⟨L,hp,hO⟩
theorem aOE (hO:aN F H L)(hp:Post x L)(hx:SF fn T=some x:=by kernel_rfl):WY fn (fun r H=>∃ r',dF r r' /\ ∃ L',Post r' L'/\aN F H L') .normal T H []:=QG hx (dF.refl _) ⟨L,hp,hO⟩
end ends
theorem QM2 {fn:Func}{tt:TT}{H:bA}{Q:V->bA->Prop}{T:Env}{e:Exit}{rs:List ResultVar}{xs:List V}{x:V}{l1 l2:Nat}(he:e=.normal∨e=.ret)(h1:H[l1]?=some (.raw EA))(h2:H[l2]?=some (.raw EA))(hn:l1≠l2)(hrs:fn.results.toList=rs)(hR:MB tt T ((H.set l1 .dead).set l2 .dead) rs xs)(hx:aAd xs=x)(hq:Q x ((H.set l1 .dead).set l2 .dead)):aCA tt fn (fun r H=>∃ r',dF r r'/\Q r' H) e T H [l1,l2]:=by
 subst hx;rcases he with rfl | rfl <;> exact ⟨by simp [hn],by simp [h1,h2],xs,hrs ▸ hR,_,dF.refl _,hq⟩
section rules
variable {P:Program} {tt:TT} {N:Nat} {T:Env} {H:bA} {ops:Array Oper} {K:Env->bA->Prop} {i n:Nat}
def aOD (N:Nat)(ops:Array Oper)(T:Env)(i:Nat):Option (Ctx×V×List V):=match UB N ops T i with
 | some (ctx,.call ⟨.value f,args,_⟩)=>match dD T ctx f,jT T ctx args.toList with
  | some fv,some xs=>some (ctx,fv,xs)
  | _,_=>none
 | _=>none
variable {TD:PE} {KD:PE->bA->Prop} {pl:Oper->Bool}
def aAf (tt:TT)(N:Nat)(pl:Oper->Bool)(ops:Array Oper)(i:Nat):Option (Nat×V):=match gJ N ops i with
 | some (.alloc t)=>match tt t with
  | some e=>match jM e.zero,vK pl ops i with
   | true,false=>some (e.zero.cells.length,e.zero)
   | _,_=>none
  | none=>none
 | _=>none
theorem aL3 {F:Frame} {L:List (Nat×Nat×List V)} (k:Nat) (z z':V) (hsub:∀ g w v,Rep g w z v->Rep g w z' v) (hO:aN F H L) (h:∀ lo H',aN F H' (L++[(lo,k,[z'])])->RD P tt N pl ops (aP (i+1) n) (TD.cF (cP ops i) (.lp lo 0 0)) H' KD)
  (hs:aP i n=i::aP (i+1) n:=by kernel_rfl) (hd:aAf tt N pl ops i=some (k,z):=by kernel_rfl) (hn:jM z'=true:=by kernel_rfl) (hk:z'.cells.length=k:=by kernel_rfl):RD P tt N pl ops (aP i n) TD H KD:=by
 subst hk;unfold aAf at hd;split at hd
 ·rename_i t hp
  split at hd
  ·rename_i e ht
   split at hd
   ·rename_i hz hoff
    simp at hd;obtain ⟨_,rfl⟩:=hd;rw [hs];obtain⟨o,ho,hop,hctx,hdo,hdst⟩:=BF (T:=fun _=>none) hp;rw [hdst] at h
    have hg:uG ops TD o=some true:=by
     unfold gJ at hp;rw [ho] at hp;simp only at hp;split at hp
     ·rename_i hgd _;unfold uG;rw [hgd]
     ·simp at hp
    have hdk:dOk N o=true:=by
     unfold ES at hdo;unfold dOk;split <;> simp_all
    have ha:tQ o.op=true:=by rw [hop];rfl
    have hk:ek pl o≠0:=by unfold ek;rw [hop];simp [oU]
    have hcl:clo pl ops o=true:=by
     unfold vK vX at hoff;simp only [ho,Bool.or_eq_false_iff,Bool.not_eq_false'] at hoff;unfold clo;simp [hoff.1,hoff.2,ha]
    refine⟨o,ho,hdk,true,hg,⟨fun _=>.inr ⟨hk,.inr ⟨hcl,.inl ⟨ha,fun H1 e1=>?_⟩⟩⟩,fun h=>by simp at h⟩⟩;rw [hop];exact⟨e,z',ht,hsub,hn,.inl ⟨(fH.refl H1).push _,fun H' e2=>h _ H' (((hO.call e1).new _ _).call e2)⟩⟩
   ·simp at hd
  ·simp at hd
 ·simp at hd
theorem aFC {F:Frame} {L:List (Nat×Nat×List V)} (k:Nat) (z:V) (hO:aN F H L) (h:∀ lo H',aN F H' (L++[(lo,k,[z])])->RD P tt N pl ops (aP (i+1) n) (TD.cF (cP ops i) (.lp lo 0 0)) H' KD)
  (hs:aP i n=i::aP (i+1) n:=by kernel_rfl) (hd:aAf tt N pl ops i=some (k,z):=by kernel_rfl) (hn:jM z=true:=by kernel_rfl) (hk:z.cells.length=k:=by kernel_rfl):RD P tt N pl ops (aP i n) TD H KD :=
 aL3 k z z (fun _ _ _ h=>h) hO h hs hd hn hk
end rules
open Go.MapKept
def tO (g:Gh)(w:World):List MapEntry->List (Value×V)->Prop
 | [],[]=>True
 | e::es,x::m=>(e.key=x.1/\Rep g w x.2 e.val)/\tO g w es m
 | _,_=>False
theorem tO.ext {g g':Gh}{w w':World}(e:Ext0 g w g' w'):∀ {es:List MapEntry} {m:List (Value×V)},tO g w es m->tO g' w' es m
 | [],[],_=>trivial
 | _::_,_::_,h=>⟨⟨h.1.1,h.1.2.ext e⟩,tO.ext e h.2⟩
 | [],_::_,h=>h.elim
 | _::_,[],h=>h.elim
theorem tO.len {g:Gh}{w:World}:∀ {es:List MapEntry} {m:List (Value×V)},tO g w es m->es.length=m.length
 | [],[],_=>rfl
 | _::_,_::_,h=>by simp [tO.len h.2]
 | [],_::_,h=>h.elim
 | _::_,[],h=>h.elim
theorem tO.keys {g:Gh}{w:World}:∀ {es:List MapEntry} {m:List (Value×V)},tO g w es m->es.map (·.key)=m.map (·.1)
 | [],[],_=>rfl
 | _::_,_::_,h=>by simp [tO.keys h.2,h.1.1]
 | [],_::_,h=>h.elim
 | _::_,[],h=>h.elim
theorem tO.snoc {g:Gh}{w:World}{e:MapEntry}{x:Value×V}(hx:e.key=x.1/\Rep g w x.2 e.val):∀ {es:List MapEntry} {m:List (Value×V)},tO g w es m->tO g w (es++[e]) (m++[x])
 | [],[],_=>⟨hx,trivial⟩
 | _::_,_::_,h=>⟨h.1,tO.snoc hx h.2⟩
 | [],_::_,h=>h.elim
 | _::_,[],h=>h.elim
theorem tO.set {g:Gh}{w:World}{e:MapEntry}{x:Value×V}(hx:e.key=x.1/\Rep g w x.2 e.val):∀ {es:List MapEntry} {m:List (Value×V)} (j:Nat),tO g w es m->tO g w (es.set j e) (m.set j x)
 | [],[],_,_=>trivial
 | _::_,_::_,0,h=>⟨hx,h.2⟩
 | _::_,_::_,j+1,h=>⟨h.1,tO.set hx j h.2⟩
 | [],_::_,_,h=>h.elim
 | _::_,[],_,h=>h.elim
theorem tO.at {g:Gh}{w:World}:∀ {es:List MapEntry} {m:List (Value×V)} {j:Nat} {e:MapEntry},tO g w es m->es[j]?=some e -> ∃ x,m[j]?=some x/\e.key=x.1/\Rep g w x.2 e.val
 | [],[],_,_,_,h=>by simp at h
 | _::_,x::_,0,_,h,hj=>by simp at hj; subst hj; exact ⟨x,rfl,h.1⟩
 | _::_,_::_,j+1,_,h,hj=>by simpa using tO.at h.2 (by simpa using hj)
 | [],_::_,_,_,h,_=>h.elim
 | _::_,[],_,_,h,_=>h.elim
def JI (d:TypeDesc)(m:List (Value×V)):Sp where
 p g w _ o:=∃ (es:Array MapEntry) (clock:Nat),o=.map es clock/\Stamped es clock/\(∀ x∈es.toList,IsKey d x.key)/\tO g w es.toList m
 st e h:=by
  obtain⟨es,clock,h1,h2,h3,h4⟩:=h;exact⟨es,clock,h1,h2,h3,h4.ext e⟩
variable {P:Program} {H:bA} {K:V->bA->Prop}
theorem aJz {t:TypeId}(d:TypeDesc)(h:K (.mp H.length) (H++[.raw (JI d [])])):yD P (.makeMap t none) [] H K:=by
 intro ro o a g w next R ho hs hx hn;obtain⟨s1,e1⟩:=hs.aA3 (.map #[] 0) rfl (JI d []) ⟨#[],0,rfl,stamped_empty 0,by simp,trivial⟩;have hl:H.length=g.n:=hs.len
 have hr:(execOp a.eval o).run P w=.ok (.value (.map (some w.heap.size))) (w.alloc (.map #[] 0)):=by
  cases o
  simp only at ho;subst ho;rfl
 refine fI (fun c e=>by rw [e] at ho;cases ho) hr (hn (.mp H.length) _ _ _ _ h s1 ?_ e1);have:=Rep.mp (g:=g.more w.heap.size 0 0 0) (w:=w.alloc (.map #[] 0)) H.length (by rw [hl];simp [Gh.more])
 simpa [Gh.more,hl,upd] using this
def aI4 (k:Value)(x:V)(m m':List (Value×V)):Prop:=(m.map (·.1)).Nodup/\(((∀ p∈m,p.1≠k)/\m'=m++[(k,x)]) ∨ ∃ j y,m[j]?=some (k,y)/\m'=m.set j (k,x))
theorem aET {w:World} {mty kt et:TypeId} {d:TypeDesc} {r:Nat} {es:Array MapEntry} {clock:Nat} {k v:Value} (hm:P.underlying mty=some (.map kt et)) (hd:P.underlying kt=some d) (hb:w.heap[r]?=some (.map es clock)) (hs:Stamped es clock)
  (hks:∀ x∈es.toList,IsKey d x.key) (hk:IsKey d k):∃ es' clock',(Instr.mapUpdate mty (.map (some r)) k v).run P w=.ok () { w with heap:=w.heap.setIfInBounds r (.map es' clock') }/\Stamped es' clock'/\(∀ x∈es'.toList,IsKey d x.key) /\
   (((∀ x∈es.toList,x.key≠k) /\ ∃ e,e.key=k/\e.val=v/\es'.toList=es.toList++[e]) ∨ ∃ j e e',es.toList[j]?=some e/\e.key=k/\e'.key=k/\e'.val=v/\es'.toList=es.toList.set j e'):=by
 rcases findNow_spec hk es.toList 0 hks with ⟨h1,h2⟩ | ⟨j,e,h1,h2,h3⟩
 ·refine⟨es.push { key:=k,val:=v,born:=clock },clock+1,by simp [Instr.mapUpdate,run_underlying hm,Go.MapKept.run_getObj_map hb,run_checkKey hd hk,run_findKey hd h1,Go.MapKept.run_setObj_map _ hb,Result.andThen],stamped_push hs h2,?_,.inl ⟨h2,⟨k,v,clock⟩,rfl,rfl,by simp⟩⟩;intro x hx;simp only [Array.toList_push,List.mem_append,List.mem_singleton] at hx;rcases hx with hx | rfl
  ·exact hks x hx
  ·exact hk
 ·have hj:es[j]?=some e:=by simpa using h2
  have hkey:∀ e',es[j]?=some e'->({ e' with key:=k,val:=v }:MapEntry).key=e'.key:=fun e' he'=>by rw [hj] at he';cases he';exact h3.symm
  refine⟨es.modify j fun e=>{ e with key:=k,val:=v },clock,by simp [Instr.mapUpdate,run_underlying hm,Go.MapKept.run_getObj_map hb,run_checkKey hd hk,run_findKey hd h1,hj,h3,run_keyThatStays hk,Go.MapKept.run_setObj_map _ hb,Result.andThen],stamped_modify hs _ _ (fun _ _=>rfl) (fun e' _ he'=>hkey e' he'),isKey_modify hks _ _ hkey,.inr ⟨j,e,{ e with key:=k,val:=v },h2,h3,rfl,rfl,?_⟩⟩;rw [Array.toList_modify];apply List.ext_getElem?;intro i;rw [List.getElem?_modify,List.getElem?_set];by_cases hij:j=i
  ·subst hij;have hlt:j<es.toList.length:=(List.getElem?_eq_some_iff.1 h2).1;simp [h2,hlt]
   simpa using hlt
  ·simp [hij]
theorem aLu {op:Op} {mty kt et:TypeId} {d:TypeDesc} {m k x:Operand} {l:Nat} {kv:Value} {xv:V} {M:List (Value×V)} (hop:op=.mapUpdate mty m k x∨op=.insert mty m k x) (hm:P.underlying mty=some (.map kt et)) (hd:P.underlying kt=some d) (hk:IsKey d kv) (hp:plain kv=true)
  (hl:H[l]?=some (.raw (JI d M))) (h:∀ M',aI4 kv xv M M'->K (.tup []) (H.set l (.raw (JI d M')))):yD P op [.mp l,.lit kv,xv] H K:=by
 intro ro o a g w next R ho hs hx hn;have hops:op.operands=#[m,k,x]:=by rcases hop with rfl | rfl <;> rfl
 rw [hops] at hx;obtain⟨_,hx⟩:=hx;have r1:=hx 0 (.mp l) (a.eval m) rfl (by simp);have r2:=hx 1 (.lit kv) (a.eval k) rfl (by simp);have r3:=hx 2 xv (a.eval x) rfl (by simp);obtain⟨ob,hb,_,es,clock,rfl,st,ks,en⟩:=hs.raw l _ hl
 have e1:a.eval m=.map (some (g.blk l)):=by
  generalize a.eval m=v at r1
  cases r1
  rfl
 have e2:a.eval k=kv:=r2.qJ;obtain⟨es',clock',hrun,st',ks',hcase⟩:=aET (v:=a.eval x) hm hd hb st ks hk
 have hr:(execOp a.eval o).run P w=.ok .skip (w.putObj (g.blk l) (.map es' clock')):=by
  cases o
  simp only at ho;subst ho;rcases hop with rfl | rfl <;> simp [execOp,Sem.run_bind,e1,e2,hrun,Result.andThen,World.putObj]
 have x0:=(hs.AK hl (.map es' clock') rfl ⟨fun _ _ _ _=>True,fun _ _=>trivial⟩ trivial).2.toExt0;have nd:(M.map (·.1)).Nodup:=by rw [←en.keys];exact st.2.2
 obtain⟨M',hM,en'⟩:∃ M',aI4 kv xv M M'/\tO g w es'.toList M':=by
  rcases hcase with ⟨c1,e,c2,c3,c4⟩ | ⟨j,e,e',c1,c2,c3,c4,c5⟩
  ·refine⟨M++[(kv,xv)],⟨nd,.inl ⟨fun p hp hpk=>?_,rfl⟩⟩,by rw [c4];exact en.snoc ⟨c2,by rw [c3];exact r3⟩⟩;have : kv∈es.toList.map (·.key):=by rw [en.keys];exact List.mem_map.2 ⟨p,hp,hpk⟩
   obtain⟨q,hq,hqk⟩:=List.mem_map.1 this;exact c1 q hq hqk
  ·obtain⟨y,hy,hy1,_⟩:=en.at c1;refine⟨M.set j (kv,xv),⟨nd,.inr ⟨j,y.2,?_,rfl⟩⟩,by rw [c5];exact en.set ⟨c3,by rw [c4];exact r3⟩ j⟩;rw [hy];rw [hy1] at c2;rw [←c2]
 obtain⟨s1,x1⟩:=hs.AK hl (.map es' clock') rfl (JI d M') ⟨es',clock',rfl,st',ks',en'.ext x0⟩;exact aCV (fun c e=>by rw [e] at ho; rcases hop with rfl | rfl <;> cases ho) hr (hn (.tup []) _ _ _ _ (h M' hM) s1 (.tup [] #[] rfl (by simp)) x1)
theorem aLB {mty kt et:TypeId}{d:TypeDesc}{m:Operand}{l:Nat}{M:List (Value×V)}(hm:P.underlying mty=some (.map kt et))(hl:H[l]?=some (.raw (JI d M)))(h:K (.lit (.int .i64 (M.length:Nat))) H):yD P (.call ⟨.builtin .len,#[m],#[mty]⟩) [.mp l] H K:=by
 intro ro o a g w next R ho hs hx hn;have r1:=hx.2 0 (.mp l) (a.eval m) rfl (by simp [Op.operands,Call.operands]);obtain⟨ob,hb,_,es,clock,rfl,st,ks,en⟩:=hs.raw l _ hl
 have e1:a.eval m=.map (some (g.blk l)):=by
  generalize a.eval m=v at r1
  cases r1
  rfl
 have hn':es.size=M.length:=by simpa using en.len
 have hr:(execOp a.eval o).run P w=.ok (.value (.int .i64 (M.length:Nat))) w:=by
  cases o
  simp only at ho;subst ho;simp [execOp,resolve,invoke,builtin,Builtin.len_,run_underlying hm,Go.MapKept.run_getObj_map hb,e1,Result.andThen,goInt,hn']
 exact fI (fun c e=>by rw [e] at ho;cases ho) hr (hn _ _ _ _ _ h hs (.lit _ rfl) (Ext.refl g w))
theorem aHn {w:World}{r:Nat}{o:Obj}(hb:w.heap[r]?=some o):w.putObj r o=w:=by
 have : w.heap.setIfInBounds r o=w.heap:=by
  apply Array.ext_getElem?;intro i;rw [Array.getElem?_setIfInBounds];split
  ·rename_i h
   subst h;obtain⟨hlt,he⟩:=Array.getElem?_eq_some_iff.1 hb;simp [hlt,he]
  ·rfl
 unfold World.putObj;rw [this]
theorem SR.aNI {g:Gh}{w:World}(h:SR g w H){l:Nat}{s:Sp}(hl:H[l]?=some (.raw s))(s':Sp)(hs:∀ o,w.heap[g.blk l]?=some o->s.p g w (g.blk l) o->s'.p g w (g.blk l) o):SR g w (H.set l (.raw s')):=by
 obtain⟨o,hb,ho,hp⟩:=h.raw l s hl;have e:=aHn hb;have:=(h.AK hl o ho s' (by rw [e];exact hs o hb hp)).1
 rwa [e] at this
def aCI (d:TypeDesc)(m:List (Value×V))(bs:List Nat)(clock:Nat):Sp where
 p g w _ o:=∃ (es:Array MapEntry),o=.map es clock/\es.toList.map (·.born)=bs/\Stamped es clock/\(∀ x∈es.toList,IsKey d x.key)/\tO g w es.toList m
 st e h:=by
  obtain⟨es,h1,h2,h3,h4,h5⟩:=h;exact⟨es,h1,h2,h3,h4,h5.ext e⟩
def ZE (li lm clock:Nat)(seen:List Nat)(last:Nat):Sp where
 p g _ _ o:=(lm<g.n/\o=.mapIter (some (g.blk lm)) clock seen.toArray last)/\li<g.n/\g.off li=0
 st e h:=⟨⟨Nat.lt_of_lt_of_le h.1.1 e.n,by rw [e.blk lm h.1.1];exact h.1.2⟩,Nat.lt_of_lt_of_le h.2.1 e.n,by rw [e.off li h.2.1];exact h.2.2⟩
theorem aMI {mty kt et:TypeId} {d:TypeDesc} {m:Operand} {lm:Nat} {M:List (Value×V)} (hm:P.underlying mty=some (.map kt et)) (hl:H[lm]?=some (.raw (JI d M)))
  (h:∀ bs clock,bs.length=M.length->bs.Nodup->K (.lp H.length 0 0) (H.set lm (.raw (aCI d M bs clock))++[.raw (ZE H.length lm clock [] clock)])):yD P (.range mty m) [.mp lm] H K:=by
 intro ro o a g w next R ho hs hx hn;have r1:=hx.2 0 (.mp lm) (a.eval m) rfl (by simp [Op.operands]);obtain⟨ob,hb,_,es,clock,rfl,st,ks,en⟩:=hs.raw lm _ hl
 have e1:a.eval m=.map (some (g.blk lm)):=by
  generalize a.eval m=v at r1
  cases r1
  rfl
 have hlen:H.length=g.n:=hs.len;have hlm:lm<g.n:=by rw [←hlen];exact (List.getElem?_eq_some_iff.1 hl).1
 have s1:=hs.aNI hl (aCI d M (es.toList.map (·.born)) clock) (fun o ho _=>by rw [hb] at ho;cases ho;exact ⟨es,rfl,rfl,st,ks,en⟩);obtain⟨s2,x2⟩:=s1.aA3 (.mapIter (some (g.blk lm)) clock #[] clock) rfl (ZE H.length lm clock [] clock) ⟨⟨by simp [Gh.more];omega,by simp [Gh.more,upd,Nat.ne_of_lt hlm]⟩,by simp [Gh.more];omega,by simp [Gh.more,upd,hlen]⟩
 have hr:(execOp a.eval o).run P w=.ok (.value (.pointer (some ⟨w.heap.size,0,none⟩))) (w.alloc (.mapIter (some (g.blk lm)) clock #[] clock)):=by
  cases o
  simp only at ho;subst ho;simp [execOp,Instr.range,run_underlying hm,Go.MapKept.run_getObj_map hb,e1,Result.andThen]
 refine fI (fun c e=>by rw [e] at ho;cases ho) hr (hn (.lp H.length 0 0) _ _ _ _ (h _ _ ?_ st.2.1) s2 ?_ x2)
 ·rw [List.length_map];exact en.len
 ·have:=Rep.lp (g:=g.more w.heap.size 0 0 0) (w:=w.alloc (.mapIter (some (g.blk lm)) clock #[] clock)) H.length 0 0 (by rw [hlen];simp [Gh.more])
  simpa [Gh.more,hlen,upd] using this
theorem find_born:∀ (l:List MapEntry) (j:Nat) (e:MapEntry),(l.map (·.born)).Nodup->l[j]?=some e->l.find? (fun x=>x.born==e.born)=some e
 | [],_,_,_,h=>by simp at h
 | x::l,0,e,_,h=>by simp at h; subst h; simp
 | x::l,j+1,e,hn,h=>by
  have hn':=List.nodup_cons.1 hn;have hj:l[j]?=some e:=by simpa using h
  have hne:x.born≠e.born:=fun q=>hn'.1 (List.mem_map.2 ⟨e,List.mem_of_getElem? hj,q.symm⟩);have hb:(x.born==e.born)=false:=by simp [hne]
  simp only [List.find?_cons,hb];exact find_born l j e hn'.2 hj
theorem aMt {d:TypeDesc} {m:Operand} {lm li clock j b:Nat} {seen bs:List Nat} {M:List (Value×V)} {kv:Value} {xv:V} (hl:H[lm]?=some (.raw (aCI d M bs clock))) (hi:H[li]?=some (.raw (ZE li lm clock (seen++[b]) clock)))
  (hj:bs[j]?=some b) (hM:M[j]?=some (kv,xv)) (hp:plain kv=true) (h:K (.tup [.lit kv,xv]) H):yD P (.entry m) [.lp li 0 0] H K:=by
 intro ro o a g w next R ho hs hx hn;have r1:=hx.2 0 (.lp li 0 0) (a.eval m) rfl (by simp [Op.operands]);obtain⟨ob,hb,_,es,rfl,eb,st,ks,en⟩:=hs.raw lm _ hl;obtain⟨oi,hbi,_,⟨_,rfl⟩,_,b5⟩:=hs.raw li _ hi
 have e1:a.eval m=.pointer (some ⟨g.blk li,0,none⟩):=by
  generalize a.eval m=v at r1
  cases r1
  simp [b5]
 obtain⟨e,he,hbn⟩:∃ e,es.toList[j]?=some e/\e.born=b:=by
  rw [←eb,List.getElem?_map] at hj
  cases hq:es.toList[j]? with
  | none=>rw [hq] at hj; cases hj
  | some e=>rw [hq] at hj; exact ⟨e,rfl,by simpa using hj⟩
 obtain⟨y,hy,hy1,b6⟩:=en.at he;rw [hM] at hy;cases hy
 have hf:es.find? (fun x=>x.born==b)=some e:=by
  rw [←Array.find?_toList,←hbn];exact find_born _ j e st.2.1 he
 have hr:(execOp a.eval o).run P w=.ok (.value (.tuple #[e.key,e.val])) w:=by
  cases o
  simp only at ho;subst ho;have g1:(getObj (g.blk li)).run P w=.ok (.mapIter (some (g.blk lm)) clock (seen++[b]).toArray clock) w:=by simp [getObj,Sem.run,hbi]
  simp [execOp,Instr.entry,g1,Go.MapKept.run_getObj_map hb,e1,Result.andThen,hf]
 refine fI (fun c e=>by rw [e] at ho;cases ho) hr (hn _ _ _ _ _ h hs ?_ (Ext.refl g w));refine .tup _ _ rfl fun i x v hx hv=>?_
 cases i with
 | zero=>simp at hx hv; subst hx; subst hv; rw [hy1]; exact .lit _ hp
 | succ i=>cases i with
  | zero=>simp at hx hv; subst hx; subst hv; exact b6
  | succ i=>simp at hx
theorem aNY {d:TypeDesc} {m:Operand} {lm li clock:Nat} {seen bs:List Nat} {M:List (Value×V)} (hl:H[lm]?=some (.raw (aCI d M bs clock))) (hi:H[li]?=some (.raw (ZE li lm clock seen clock)))
  (hp:∀ p∈M,plain p.1=true) (h0:(∀ b∈bs,b∈seen)->K (.tup [.lit (.bool false)]) H)
  (h1:∀ (j b:Nat) (kv:Value) (xv:V),bs[j]?=some b->M[j]?=some (kv,xv)->b ∉ seen->K (.tup [.lit (.bool true),.lit kv,xv]) (H.set li (.raw (ZE li lm clock (seen++[b]) clock)))):yD P (.next m false) [.lp li 0 0] H K:=by
 intro ro o a g w next R ho hs hx hn;have r1:=hx.2 0 (.lp li 0 0) (a.eval m) rfl (by simp [Op.operands]);obtain⟨ob,hb,_,es,rfl,eb,st,ks,en⟩:=hs.raw lm _ hl;obtain⟨oi,hbi,_,⟨hlm,rfl⟩,hli,b5⟩:=hs.raw li _ hi
 have e1:a.eval m=.pointer (some ⟨g.blk li,0,none⟩):=by
  generalize a.eval m=v at r1
  cases r1
  simp [b5]
 rcases run_next_at (P:=P) w o.type (g.blk li) (g.blk lm) clock clock seen.toArray es clock hbi hb st.1 (Nat.le_refl _) with ⟨c1,c2⟩ | ⟨e,c1,w1,c2,c3⟩
 ·have hr:(execOp a.eval o).run P w=.ok (.value (.tuple #[.bool false])) w:=by
   cases o
   simp only at ho;subst ho;simp [execOp,Sem.run_bind,e1,c2,Result.andThen]
  refine fI (fun c e=>by rw [e] at ho;cases ho) hr (hn _ _ _ _ _ (h0 fun b hbb=>?_) hs (.tup _ _ rfl fun i x v hx hv=>?_) (Ext.refl g w))
  ·rw [←eb] at hbb;obtain⟨e,he,rfl⟩:=List.mem_map.1 hbb;have : (leftOf es seen.toArray)=#[]:=Array.eq_empty_of_size_eq_zero c1;rw [leftOf,Array.filter_eq_empty_iff] at this
   simpa using this e (by simpa using he)
  ·cases i with
   | zero=>simp at hx hv; subst hx; subst hv; exact .lit _ rfl
   | succ i=>simp at hx
 ·have hr:(execOp a.eval o).run P w=.ok (.value (.tuple #[.bool true,e.key,e.val])) (Go.ChangeMaps.setBlock w1 (g.blk li) (.mapIter (some (g.blk lm)) clock (seen.toArray.push e.born) clock)):=by
   cases o
   simp only at ho;subst ho;simp [execOp,Sem.run_bind,e1,c3,Result.andThen]
  have hmem:e∈es.toList/\e.born ∉ seen:=by
   simp only [leftOf,Array.mem_toList_iff,Array.mem_filter] at c1
   simpa using c1
  obtain⟨j,hj⟩:=DO hmem.1;obtain⟨y,hy,hy1,b7⟩:=en.at hj;have hbj:bs[j]?=some e.born:=by rw [←eb,List.getElem?_map,hj];rfl
  have b6:SR g w1 H/\Ext g w g w1:=by rcases c2 with rfl | rfl; exact ⟨hs,Ext.refl _ _⟩; exact hs.drew
  obtain⟨s2,x2⟩:=b6.1.AK hi (.mapIter (some (g.blk lm)) clock (seen.toArray.push e.born) clock) rfl (ZE li lm clock (seen++[e.born]) clock) ⟨⟨hlm,by simp⟩,hli,b5⟩;have x3:=b6.2.trans x2;refine fI (fun c e=>by rw [e] at ho;cases ho) hr (hn _ _ _ _ _ (h1 j e.born y.1 y.2 hbj hy hmem.2) s2 (.tup _ _ rfl fun i x v hx hv=>?_) x3)
  match i with
  | 0=>simp at hx hv; subst hx; subst hv; exact .lit _ rfl
  | 1=>simp at hx hv; subst hx; subst hv; rw [hy1]; exact .lit _ (hp y (List.mem_of_getElem? hy))
  | 2=>simp at hx hv; subst hx; subst hv; exact b7.ext x3.toExt0
  | i+3=>simp at hx
end Go.Abs
namespace Go.Abs
open Go IntKind Go.RowKit Go.MapKept
def YP (li lm clock:Nat)(seen:List Nat):fD:=.raw (ZE li lm clock seen clock)
noncomputable def BQ {α R:Type}(m:List α)(f:List α->Option R):Option R:=by
 classical exact if ∀ q,q.Perm m->f q=f m then f m else none
def oP {S α:Type}(body:S->α->Option S)(s:S):List α->Option S
 | []=>some s
 | x::q=>(body s x).bind fun s'=>oP body s' q
theorem aJE {α R:Type}{m:List α}{f:List α->Option R}{r:R}(h:BQ m f=some r):∀ q,q.Perm m->f q=some r:=by
 unfold BQ at h;split at h
 ·rename_i hq
  exact fun q p=>(hq q p).trans h
 ·cases h
theorem RN {α R:Type}{m:List α}{f:List α->Option R}{r:R}(h:∀ q,q.Perm m->f q=some r):BQ m f=some r:=by
 unfold BQ;rw [if_pos (fun q p=>(h q p).trans (h m (List.Perm.refl m)).symm)];exact h m (List.Perm.refl m)
theorem aEE {α:Type}{x:Nat×α}{seen:List Nat}(hx:x.1 ∉ seen):∀ {l:List (Nat×α)},(l.map (·.1)).Nodup->x∈l ->
  (l.filter fun p => !seen.contains p.1).Perm (x::l.filter fun p => !(seen++[x.1]).contains p.1)
 | [],_,h=>by simp at h
 | y::l,hn,h=>by
  have hn':=List.nodup_cons.1 hn;rcases List.mem_cons.1 h with rfl | h1
  ·have e1:(!seen.contains x.1)=true:=by simpa using hx
   have e2:(!(seen++[x.1]).contains x.1)=false:=by simp
   simp only [List.filter_cons,e1,e2,if_true];refine List.Perm.cons _ (List.Perm.of_eq ?_);simp only [Bool.false_eq_true,if_false];refine List.filter_congr fun p hp=>?_;have : p.1≠x.1:=fun e=>hn'.1 (List.mem_map.2 ⟨p,hp,e⟩);simp [this]
  ·have ne:y.1≠x.1:=fun e=>hn'.1 (List.mem_map.2 ⟨x,h1,e.symm⟩);have ih:=aEE hx hn'.2 h1;by_cases hy:y.1∈seen
   ·have e1:(!seen.contains y.1)=false:=by simpa using hy
    have e2:(!(seen++[x.1]).contains y.1)=false:=by simp [hy]
    simp only [List.filter_cons,e1,e2,Bool.false_eq_true,if_false];exact ih
   ·have e1:(!seen.contains y.1)=true:=by simpa using hy
    have e2:(!(seen++[x.1]).contains y.1)=true:=by simp [hy,ne]
    simp only [List.filter_cons,e1,e2,if_true];exact (List.Perm.cons _ ih).trans (List.Perm.swap ..)
section rules
variable {P:Program} {tt:TT} {N:Nat} {T:Env} {H:bA} {ops:Array Oper} {K:Env->bA->Prop} {i n:Nat} {H0:bA} {E:List Nat} {G:Gs} {L:List (Nat×Nat×List V)}
def aKD (N:Nat)(ops:Array Oper)(T:Env)(i:Nat):Option (TypeId×Nat×Value×V):=match gJ N ops i with
 | some (.mapUpdate mty m k x)=>match dD T [] m,dD T [] k,dD T [] x with
  | some (.mp l),some (.lit kv),some xv=>some (mty,l,kv,xv)
  | _,_,_=>none
 | some (.insert mty m k x)=>match dD T [] m,dD T [] k,dD T [] x with
  | some (.mp l),some (.lit kv),some xv=>some (mty,l,kv,xv)
  | _,_,_=>none
 | _=>none
def aEg (N:Nat)(ops:Array Oper)(T:Env)(i:Nat):Option (TypeId×Nat):=match gJ N ops i with
 | some (.call ⟨.builtin .len,args,tys⟩)=>match args.toList,tys.toList with
  | [m],[mty]=>match dD T [] m with
   | some (.mp l)=>some (mty,l)
   | _=>none
  | _,_=>none
 | _=>none
def aGW (N:Nat)(ops:Array Oper)(T:Env)(i:Nat):Option (TypeId×Nat):=match gJ N ops i with
 | some (.range mty m)=>match dD T [] m with
  | some (.mp l)=>some (mty,l)
  | _=>none
 | _=>none
def aIb (N:Nat)(ops:Array Oper)(T:Env)(i:Nat):Option Nat:=match gJ N ops i with
 | some (.next m false)=>match dD T [] m with
  | some (.lp l 0 0)=>some l
  | _=>none
 | _=>none
def aGu (N:Nat)(ops:Array Oper)(T:Env)(i:Nat):Option Nat:=match gJ N ops i with
 | some (.entry m)=>match dD T [] m with
  | some (.lp l 0 0)=>some l
  | _=>none
 | _=>none
end rules
section code
variable {P:Program} {ro:Option Nat} {N:Nat} {T:Env} {H:bA} {ds:List Nat} {Q:Exit->Env->bA->List Nat->Prop}
end code
variable {P:Program} {tt:TT} {N:Nat} {T:Env} {H:bA} {ops:Array Oper} {K:Env->bA->Prop} {i n:Nat}
theorem NP.frozen {α:Type}[Inhabited α]{e:α->V}{xs:List α}{f:FuncId}{as0:List V}{k:Nat}(h:NP P f as0 (fun lo=>.msl k lo 0 xs.length) k (xs.map e)):cW P f as0 (eL e xs) :=
 fun H=>⟨(h H).1,fun g w vs h1 h2 h3=>((h H).2 g w vs h1 h2 h3).mono fun _ _ ⟨v,r,g',H',a,b,c,d,lo,hr,hO⟩=>by
  subst hr;have hat:=hO.at 0 rfl;obtain⟨s1,s2,s3⟩:=c.freeze hat;refine⟨v,eL e xs,_,_,a,?_,s1,d.trans s2,rfl,(hO.kill 0 rfl rfl).out⟩
  have:=(s3 v (by simpa using b)).aBl (el':=fun i=>e (xs.getD i default)) fun j hj=>by
   have hj':j<xs.length:=by simpa using hj
   simp [List.getD_eq_getElem?_getD,hj']
  simpa [eL] using this⟩
end Go.Abs
namespace Go.Abs
open Go IntKind Go.RowKit Go.MapKept
theorem tO.erase {g:Gh}{w:World}:∀ {es:List MapEntry} {m:List (Value×V)} (j:Nat),tO g w es m->tO g w (es.eraseIdx j) (m.eraseIdx j)
 | [],[],_,_=>trivial
 | _::_,_::_,0,h=>h.2
 | _::_,_::_,j+1,h=>⟨h.1,tO.erase j h.2⟩
 | [],_::_,_,h=>h.elim
 | _::_,[],_,h=>h.elim
theorem aEJ {α β:Type}(f:α->β):∀ (m:List α) (j:Nat),(m.map f).eraseIdx j=(m.eraseIdx j).map f
 | [],_=>rfl
 | _::_,0=>rfl
 | x::m,j+1=>by simp [aEJ f m j]
variable {P:Program} {H:bA} {K:V->bA->Prop}
theorem aLP {mty kt et:TypeId} {d:TypeDesc} {m k:Operand} {l:Nat} {kv:Value} {z:V} {M:List (Value×V)} {ok:Bool} (hm:P.underlying mty=some (.map kt et)) (hd:P.underlying kt=some d) (hk:IsKey d kv)
  (hz:∀ w:World,∃ zv,(zeroValue et).run P w=.ok zv w /\ ∀ g:Gh,Rep g w z zv) (hl:H[l]?=some (.raw (JI d M)))
  (h0:(M.map (·.1)).Nodup->(∀ p∈M,p.1≠kv)->K (cond ok (.tup [z,.lit (.bool false)]) z) H) (h1:(M.map (·.1)).Nodup -> ∀ (j:Nat) (x:V),M[j]?=some (kv,x)->K (cond ok (.tup [x,.lit (.bool true)]) x) H):yD P (.lookup mty m k ok) [.mp l,.lit kv] H K:=by
 intro ro o a g w next R ho hs hx hn;have r1:=hx.2 0 (.mp l) (a.eval m) rfl (by simp [Op.operands]);have r2:=hx.2 1 (.lit kv) (a.eval k) rfl (by simp [Op.operands]);obtain⟨ob,hb,_,es,clock,rfl,st,ks,en⟩:=hs.raw l _ hl
 have e1:a.eval m=.map (some (g.blk l)):=by
  generalize a.eval m=v at r1
  cases r1
  rfl
 have e2:a.eval k=kv:=r2.qJ;have nd:(M.map (·.1)).Nodup:=by rw [←en.keys];exact st.2.2
 have two:∀ {y:V} {c:Value} {b:Bool},Rep g w y c->Rep g w (.tup [y,.lit (.bool b)]) (.tuple #[c,.bool b]):=by
  intro y c b hr;refine .tup _ _ rfl fun i p q hp hq=>?_
  match i with
  | 0=>simp at hp hq; subst hp; subst hq; exact hr
  | 1=>simp at hp hq; subst hp; subst hq; exact .lit _ rfl
  | i+2=>simp at hp
 rcases findNow_spec hk es.toList 0 ks with ⟨c1,c2⟩ | ⟨j,e,c1,c2,c3⟩
 ·obtain⟨zv,z1,z2⟩:=hz w
  have hno:∀ p∈M,p.1≠kv:=fun p hp hpk=>by
   have : kv∈es.toList.map (·.key):=by rw [en.keys];exact List.mem_map.2 ⟨p,hp,hpk⟩
   obtain⟨q,hq,hqk⟩:=List.mem_map.1 this;exact c2 q hq hqk
  have hr:(execOp a.eval o).run P w=.ok (.value (cond ok (.tuple #[zv,.bool false]) zv)) w:=by
   cases o
   simp only at ho;subst ho
   cases ok <;> simp [execOp,Instr.lookup,run_underlying hm,Go.MapKept.run_getObj_map hb,e1,e2,run_checkKey hd hk,run_findKey hd c1,z1,Result.andThen]
  refine fI (fun c e=>by rw [e] at ho;cases ho) hr (hn _ _ _ _ _ (h0 nd hno) hs ?_ (Ext.refl g w))
  cases ok with
  | true=>exact two (z2 g)
  | false=>exact z2 g
 ·obtain⟨y,hy,hy1,b5⟩:=en.at c2
  have hr:(execOp a.eval o).run P w=.ok (.value (cond ok (.tuple #[e.val,.bool true]) e.val)) w:=by
   cases o
   simp only at ho;subst ho
   cases ok <;> simp [execOp,Instr.lookup,run_underlying hm,Go.MapKept.run_getObj_map hb,e1,e2,run_checkKey hd hk,run_findKey hd c1,Result.andThen]
  have hyk:M[j]?=some (kv,y.2):=by rw [hy,←c3,hy1]
  refine fI (fun c e=>by rw [e] at ho;cases ho) hr (hn _ _ _ _ _ (h1 nd j y.2 hyk) hs ?_ (Ext.refl g w))
  cases ok with
  | true=>exact two b5
  | false=>exact b5
theorem aLp {mty kt et kt':TypeId} {d:TypeDesc} {m k:Operand} {l:Nat} {kv:Value} {M:List (Value×V)} (hm:P.underlying mty=some (.map kt et)) (hd:P.underlying kt=some d) (hk:IsKey d kv) (hl:H[l]?=some (.raw (JI d M)))
  (h0:(M.map (·.1)).Nodup->(∀ p∈M,p.1≠kv)->K (.tup []) (H.set l (.raw (JI d M)))) (h1:(M.map (·.1)).Nodup -> ∀ (j:Nat) (x:V),M[j]?=some (kv,x)->K (.tup []) (H.set l (.raw (JI d (M.eraseIdx j))))):yD P (.call ⟨.builtin .delete,#[m,k],#[mty,kt']⟩) [.mp l,.lit kv] H K:=by
 intro ro o a g w next R ho hs hx hn;have r1:=hx.2 0 (.mp l) (a.eval m) rfl (by simp [Op.operands,Call.operands]);have r2:=hx.2 1 (.lit kv) (a.eval k) rfl (by simp [Op.operands,Call.operands]);obtain⟨ob,hb,_,es,clock,rfl,st,ks,en⟩:=hs.raw l _ hl
 have e1:a.eval m=.map (some (g.blk l)):=by
  generalize a.eval m=v at r1
  cases r1
  rfl
 have e2:a.eval k=kv:=r2.qJ;have nd:(M.map (·.1)).Nodup:=by rw [←en.keys];exact st.2.2
 have x0:∀ o',o'.isCells=false->Ext0 g w g (w.putObj (g.blk l) o'):=fun o' ho'=>(hs.AK hl o' ho' ⟨fun _ _ _ _=>True,fun _ _=>trivial⟩ trivial).2.toExt0;rcases findNow_spec hk es.toList 0 ks with ⟨c1,c2⟩ | ⟨j,e,c1,c2,c3⟩
 ·have hno:∀ p∈M,p.1≠kv:=fun p hp hpk=>by
   have : kv∈es.toList.map (·.key):=by rw [en.keys];exact List.mem_map.2 ⟨p,hp,hpk⟩
   obtain⟨q,hq,hqk⟩:=List.mem_map.1 this;exact c2 q hq hqk
  have hr:(execOp a.eval o).run P w=.ok (.value (.tuple #[])) (w.putObj (g.blk l) (.map es clock)):=by
   cases o
   simp only at ho;subst ho;simp [execOp,resolve,invoke,builtin,Builtin.delete_,run_underlying hm,Go.MapKept.run_getObj_map hb,e1,e2,run_checkKey hd hk,run_findKey hd c1,Go.MapKept.run_setObj_map _ hb,Result.andThen,World.putObj]
  obtain⟨s1,x1⟩:=hs.AK hl (.map es clock) rfl (JI d M) ⟨es,clock,rfl,st,ks,en.ext (x0 _ rfl)⟩;exact fI (fun c e=>by rw [e] at ho;cases ho) hr (hn _ _ _ _ _ (h0 nd hno) s1 (.tup [] #[] rfl (by simp)) x1)
 ·obtain⟨y,hy,hy1,b5⟩:=en.at c2;have hyk:M[j]?=some (kv,y.2):=by rw [hy,←c3,hy1]
  have hjs:j<es.size:=by have:=(List.getElem?_eq_some_iff.1 c2).1;simpa using this
  have hel:(es.eraseIdxIfInBounds j).toList=es.toList.eraseIdx j:=by
   unfold Array.eraseIdxIfInBounds;rw [dif_pos hjs];simp
  have hr:(execOp a.eval o).run P w=.ok (.value (.tuple #[])) (w.putObj (g.blk l) (.map (es.eraseIdxIfInBounds j) clock)):=by
   cases o
   simp only at ho;subst ho;simp [execOp,resolve,invoke,builtin,Builtin.delete_,run_underlying hm,Go.MapKept.run_getObj_map hb,e1,e2,run_checkKey hd hk,run_findKey hd c1,Go.MapKept.run_setObj_map _ hb,Result.andThen,World.putObj]
  obtain⟨s1,x1⟩:=hs.AK hl (.map (es.eraseIdxIfInBounds j) clock) rfl (JI d (M.eraseIdx j)) ⟨_,clock,rfl,stamped_erase st _,fun x hx=>ks x (by rw [hel] at hx;exact List.mem_of_mem_eraseIdx hx),by rw [hel];exact (en.erase j).ext (x0 _ rfl)⟩;exact fI (fun c e=>by rw [e] at ho;cases ho) hr (hn _ _ _ _ _ (h1 nd j y.2 hyk) s1 (.tup [] #[] rfl (by simp)) x1)
section rules
variable {tt:TT} {N:Nat} {T:Env} {ops:Array Oper} {K:Env->bA->Prop} {i n:Nat} {H0:bA} {E:List Nat} {G:Gs} {L:List (Nat×Nat×List V)}
def aEn (N:Nat)(ops:Array Oper)(T:Env)(i:Nat):Option (TypeId×Nat×Value×Bool):=match gJ N ops i with
 | some (.lookup mty m k ok)=>match dD T [] m,dD T [] k with
  | some (.mp l),some (.lit kv)=>some (mty,l,kv,ok)
  | _,_=>none
 | _=>none
def aEI (N:Nat)(ops:Array Oper)(T:Env)(i:Nat):Option (TypeId×Nat×Value):=match gJ N ops i with
 | some (.call ⟨.builtin .delete,args,tys⟩)=>match args.toList,tys.toList with
  | [m,k],[mty,_]=>match dD T [] m,dD T [] k with
   | some (.mp l),some (.lit kv)=>some (mty,l,kv)
   | _,_=>none
  | _,_=>none
 | _=>none
end rules
def vO (P:Program)(f:FuncId)(args:List V)(M:Gs)(L:OL)(Post:V->Gs->OL->Prop):Prop :=
 ∀ (F:Frame) (H:bA),aN ⟨F.h,F.e,M++F.g⟩ H L->pO P f args H fun x H'=>∃ M' L',Post x M' L'/\aN ⟨F.h,F.e,M'++F.g⟩ H' L'
theorem vO.sub {f:FuncId}{as0 as0':List V}{M:Gs}{L:OL}{Post:V->Gs->OL->Prop}(h:vO P f as0' M L Post)(hs:vQ as0 as0'):vO P f as0 M L Post:=fun F H hO=>(h F H hO).sub hs
theorem aN.aE9 {H0:bA}{E:List Nat}{M G:Gs}{L R:OL}(h:aN ⟨H0,E,M++G⟩ H (L++R)):aN ⟨H0,E,M++(up R++G)⟩ H L:=by
 have h1:aN ⟨H0,E,up R++(M++G)⟩ H L:=h.part;exact h1.II (by rw [←List.append_assoc,←List.append_assoc];exact List.Perm.append_right _ List.perm_append_comm)
theorem aN.aJa {H0:bA}{E:List Nat}{M G:Gs}{L R:OL}(h:aN ⟨H0,E,M++(up R++G)⟩ H L):aN ⟨H0,E,M++G⟩ H (L++R):=by
 have h1:aN ⟨H0,E,up R++(M++G)⟩ H L:=h.II (by rw [←List.append_assoc,←List.append_assoc];exact List.Perm.append_right _ List.perm_append_comm);exact aN.glue (F:=⟨H0,E,M++G⟩) h1
theorem aLY {tt:TT} {N:Nat} {T:Env} {ops:Array Oper} {K:Env->bA->Prop} {i n:Nat} {H0:bA} {E:List Nat} {G:Gs} {L0 L:OL} {Post:V->Gs->OL->Prop} {fid:Nat} {as0:List V} (M:Gs) (R:OL) (ix:List Nat) (hc:vO P fid as0 M L Post) (hO:aN ⟨H0,E,M++G⟩ H L0)
  (h:∀ x M' L' H',Post x M' L'->aN ⟨H0,E,M'++G⟩ H' (L'++R)->RWs P tt N ops (aP (i+1) n) (T.cF (cP ops i) ([],x)) H' K) (hnd:ix.Nodup:=by decide) (hp:ix.map (fun i=>L0[i]?)=(L++R).map some:=by kernel_rfl)
  (hs:aP i n=i::aP (i+1) n:=by kernel_rfl) (hd:qY N ops T i=some (fid,as0):=by kernel_rfl):RWs P tt N ops (aP i n) T H K :=
 YC hs hd (hc ⟨H0,E,up R++G⟩ H (hO.pick ix hnd hp).aE9) fun _ H' ⟨M',L',hP,hO'⟩=>h _ M' L' H' hP hO'.aJa
section ends
variable {fn:Func} {T:Env} {H:bA} {H0:bA} {E:List Nat} {G M:Gs} {Post:V->Gs->OL->Prop} {x:V} {L:OL}
theorem UX (hO:aN ⟨H0,E,M++G⟩ H L)(hp:Post x M L)(hx:SF fn T=some x:=by kernel_rfl):WY fn (fun r H=>∃ r',dF r r' /\ ∃ M' L',Post r' M' L'/\aN ⟨H0,E,M'++G⟩ H L') .ret T H []:=oO hx (dF.refl _) ⟨M,L,hp,hO⟩
theorem aOF (hO:aN ⟨H0,E,M++G⟩ H L)(hp:Post x M L)(hx:SF fn T=some x:=by kernel_rfl):WY fn (fun r H=>∃ r',dF r r' /\ ∃ M' L',Post r' M' L'/\aN ⟨H0,E,M'++G⟩ H L') .normal T H []:=QG hx (dF.refl _) ⟨M,L,hp,hO⟩
end ends
end Go.Abs
namespace Go.Abs
open Go IntKind Go.RowKit
section bundles
variable {β:Type} (sh:Nat->Nat->β->OL)
variable {sh}
end bundles
def aLR:V->Option Bool
 | .lit (.pointer none)=>some true
 | .lp _ _ _=>some false
 | _=>none
section nils
variable {P:Program} {tt:TT} {N:Nat} {T:Env} {H:bA} {ops:Array Oper} {K:Env->bA->Prop} {i n:Nat}
theorem aGc {K:V->bA->Prop}{op:BinOp}{t e u:TypeId}{x y:Operand}{z:V}{b:Bool}(hop:op=.eql∨op=.neq)(hu:P.underlying t=some (.pointer e))(hz:aLR z=some b)(h:K (.lit (.bool (if op=.eql then b else !b))) H):yD P (.binOp op t x y u) [z,.lit (.pointer none)] H K:=by
 intro ro o a g w next R ho hs hx hn;have r1:=hx.2 0 z (a.eval x) rfl (by simp [Op.operands]);have r2:=hx.2 1 (.lit (.pointer none)) (a.eval y) rfl (by simp [Op.operands]);have e2:a.eval y=.pointer none:=r2.qJ
 have e1:∃ ad,a.eval x=.pointer ad/\ad.isNone=b:=by
  unfold aLR at hz;split at hz
  ·simp at hz;subst hz;exact ⟨none,r1.qJ,rfl⟩
  ·simp at hz;subst hz;obtain ⟨_,h2⟩:=r1.lpE;exact ⟨_,h2,rfl⟩
  ·cases hz
 obtain⟨ad,e1,e3⟩:=e1
 have hq:(Op.equal t (.pointer ad) (.pointer none)).run P w=.ok b w:=by
  unfold Op.equal Op.maxDepth;unfold Op.equalIn;simp only [Sem.run_bind,run_underlying hu,Result.andThen]
  cases ad with
  | none=>subst e3; rfl
  | some ad=>subst e3; rfl
 have hr:(execOp a.eval o).run P w=.ok (.value (.bool (if op=.eql then b else !b))) w:=by
  cases o
  simp only at ho;subst ho;rcases hop with rfl | rfl
  ·have h1:(eqGuard .eql t x y (.pointer ad) (.pointer none)).run P w=.ok () w:=rfl
   have h2:(binOp .eql t (.pointer ad) (.pointer none)).run P w=.ok (.bool b) w:=by
    simp only [binOp,Sem.run_bind,hq,Result.andThen];rfl
   simp [execOp,e1,e2,h1,h2,Result.andThen]
  ·have h1:(eqGuard .neq t x y (.pointer ad) (.pointer none)).run P w=.ok () w:=rfl
   have h2:(binOp .neq t (.pointer ad) (.pointer none)).run P w=.ok (.bool (!b)) w:=by
    simp only [binOp,Sem.run_bind,hq,Result.andThen];rfl
   simp [execOp,e1,e2,h1,h2,Result.andThen]
 exact fI (fun c e=>by rw [e] at ho;cases ho) hr (hn _ _ _ _ _ h hs (.lit _ rfl) (Ext.refl g w))
def aMi (P:Program)(t:TypeId):Bool:=match P.underlying t with
 | some (.pointer _)=>true
 | _=>false
def aJ9 (P:Program)(N:Nat)(ops:Array Oper)(T:Env)(i:Nat):Option Bool:=match gJ N ops i with
 | some (.binOp op t x y _)=>match aMi P t,dD T [] x,dD T [] y with
  | true,some z,some (.lit (.pointer none))=>match aLR z,op with
   | some b,.eql=>some b
   | some b,.neq=>some (!b)
   | _,_=>none
  | _,_,_=>none
 | _=>none
theorem LY (b:Bool) (h:RWs P tt N ops (aP (i+1) n) (T.cF (cP ops i) ([],.lit (.bool b))) H K)
  (hs:aP i n=i::aP (i+1) n:=by kernel_rfl) (hd:aJ9 P N ops T i=some b:=by kernel_rfl):RWs P tt N ops (aP i n) T H K:=by
 unfold aJ9 at hd;split at hd
 ·rename_i op t x y u hp
  split at hd
  ·rename_i z hi hx hy
   unfold aMi at hi;split at hi
   ·rename_i e hu
    split at hd
    ·rename_i b' hz
     simp at hd;subst hd;exact FY hs hp (xs:=[z,.lit (.pointer none)]) (by simp [Op.operands,jT,hx,hy]) (aGc (.inl rfl) hu hz (by simpa using h))
    ·rename_i b' hz
     simp at hd;subst hd;exact FY hs hp (xs:=[z,.lit (.pointer none)]) (by simp [Op.operands,jT,hx,hy]) (aGc (.inr rfl) hu hz (by simpa using h))
    ·cases hd
   ·cases hi
  ·cases hd
 ·cases hd
end nils
theorem SR.aMF {g:Gh}{w:World}{H:bA}(h:SR g w H){l:Nat}{s s':Sp}(hl:H[l]?=some (.raw s))(hs:∀ g w b o,s.p g w b o->s'.p g w b o):SR g w (H.set l (.raw s')):=by
 have hlt:l<H.length:=(List.getElem?_eq_some_iff.1 hl).1
 have hat:∀ l' ob,(H.set l (.raw s'))[l']?=some ob->(l'=l/\ob=.raw s')∨(l'≠l/\H[l']?=some ob):=by
  intro l' ob hl';rw [List.getElem?_set] at hl';split at hl'
  ·rename_i heq
   simp [heq ▸ hlt] at hl';exact .inl ⟨heq.symm,hl'.symm⟩
  ·rename_i hne;exact .inr ⟨fun e=>hne e.symm,hl'⟩
 refine { len:=by simp [h.len],fxc:=h.fxc,nt:=?_,kk:=?_,vec:=?_,raw:=?_,disj:=?_,rawd:=?_ }
 ·intro l' k1 b7 b5;rcases hat _ _ b5 with ⟨_,he⟩ | ⟨_,b6⟩
  ·cases he
  ·exact h.nt l' k1 b7 b6
 ·intro l' k1 b7 b5;rcases hat _ _ b5 with ⟨_,he⟩ | ⟨_,b6⟩
  ·cases he
  ·exact h.kk l' k1 b7 b6
 ·intro l' k1 b7 b5;rcases hat _ _ b5 with ⟨_,he⟩ | ⟨_,b6⟩
  ·cases he
  ·exact h.vec l' k1 b7 b6
 ·intro l' s1 b5;rcases hat _ _ b5 with ⟨rfl,he⟩ | ⟨_,b6⟩
  ·cases he
   obtain⟨o,q1,q2,q3⟩:=h.raw l' _ hl;exact⟨o,q1,q2,hs _ _ _ _ q3⟩
  ·exact h.raw l' s1 b6
 ·intro a b k1 k2 b7 c5 ha c4 hne;rcases hat _ _ ha with ⟨_,he⟩ | ⟨_,b8⟩
  ·cases he
  ·rcases hat _ _ c4 with ⟨_,he⟩ | ⟨_,b9⟩
   ·cases he
   ·exact h.disj _ _ _ _ _ _ b8 b9 hne
 ·intro a b s1 s2 ha c4 hne;rcases hat _ _ ha with ⟨rfl,_⟩ | ⟨_,b8⟩ <;> rcases hat _ _ c4 with ⟨rfl,_⟩ | ⟨_,b9⟩
  ·exact absurd rfl hne
  ·exact h.rawd _ _ _ _ hl b9 hne
  ·exact h.rawd _ _ _ _ b8 hl hne
  ·exact h.rawd _ _ _ _ b8 b9 hne
section
variable {P:Program} {tt:TT} {ro:Option Nat} {N:Nat} {T:Env} {H:bA} {ds:List Nat} {Q:Exit->Env->bA->List Nat->Prop} {ops:Array Oper} {K:Env->bA->Prop} {i n:Nat}
theorem aV {l:List (Nat×V)}(h:l.map (fun p=>T p.1)=l.map (fun p=>some ([],p.2)):=by kernel_rfl):Has T l:=.eq h
theorem eE {c:Code} {S R:Type} {body:S->Option (S⊕R)} {s:S} {r:R} (I:S->Env->bA->Prop) (hl:lp body s=some r) (h0:I s T H)
  (round:∀ k s out T H,I s T H->body s=some out->aIY body k r out->AWP P ro N c.b T H ds (AA (fun T' H' ds'=>ds'=ds /\ ∃ s',out=.inl s'/\I s' T' H') Q)) (hk:c.kind=4:=by kernel_rfl):AWP P ro N c T H ds Q:=aM9 hk I hl h0 round
theorem AU (k:Nat)(z:V)(h:RWs P tt N ops (aP (i+1) n) (T.cF (cP ops i) ([],.rp z)) H K)(hs:aP i n=i::aP (i+1) n:=by kernel_rfl)(hd:BT tt N ops T i=some (k,z):=by kernel_rfl):RWs P tt N ops (aP i n) T H K:=aOf k z hs hd h
theorem mW (xs:List V)(k:Nat)(h:RWs P tt N ops (aP (i+1) n) (T.cF (cP ops i) ([],dB xs)) H K)(hs:aP i n=i::aP (i+1) n:=by kernel_rfl)(hd:RA tt N ops T i=some (xs,k):=by kernel_rfl):RWs P tt N ops (aP i n) T H K:=aOv hs hd h
theorem wD {H0:Frame} {L:List (Nat×Nat×List V)} {α:Type} (e:α->V) (xs zs:List α) (q lo k bytes:Nat) (x:V) (L':Nat->List (Nat×Nat×List V)) (hO:aN H0 H L)
  (hy:wQ k H x=some (zs.map e)) (hb:(xs.length+zs.length)*bytes<=140737488355328/\xs.length+zs.length<=9223372036854775807)
  (h:∀ lo' H',aN H0 H' (L' lo')->RWs P tt N ops (aP (i+1) n) (T.cF (cP ops i) ([],.msl k lo' 0 (xs++zs).length)) H' K)
  (hs:aP i n=i::aP (i+1) n:=by kernel_rfl) (hd:PW tt N ops T i=some (.msl k lo 0 xs.length,x,k,bytes):=by kernel_rfl) (hL:L[q]?=some (lo,k,xs.map e):=by kernel_rfl) (hl:∀ lo',L' lo'=L.set q (lo',k,(xs++zs).map e):=by intro _;kernel_rfl):RWs P tt N ops (aP i n) T H K :=
 aNg xs zs q lo k bytes x L' hs hd hO hL hy hb hl h
variable {TD:PE} {KD:PE->bA->Prop} {pl:Oper->Bool}
theorem wT {H0:Frame} {L:List (Nat×Nat×List V)} (q lo k ix:Nat) (y x:V) (es:List V) (hO:aN H0 H L) (hy:es[ix]?=some y) (h:RD P tt N pl ops (aP (i+1) n) (TD.cF (cP ops i) x) H KD)
  (hs:aP i n=i::aP (i+1) n:=by kernel_rfl) (hq:vX pl ops i=true:=by kernel_rfl) (hd:aB5 tt N ops TD i y=some (lo,ix,x):=by kernel_rfl) (hL:L[q]?=some (lo,k,es):=by kernel_rfl):RD P tt N pl ops (aP i n) TD H KD:=aMZ q lo k ix y x es hs hq hd hO hL hy h
end
section
variable {P:Program} {tt:TT} {N:Nat} {T:Env} {H:bA} {ops:Array Oper} {K:Env->bA->Prop} {i n:Nat}
end
theorem BX.read {P:Program}{f:FuncId}{as0:List V}{L:OL}{x:V}(hc:BX P f as0 L fun x' L'=>x'=x/\L'=L){F:Frame}{H:bA}(hO:aN F H L):pO P f as0 H fun r H'=>r=x/\fH H H':=by
 have h1:aN ⟨H,L.map (·.1),[]⟩ H L:=⟨wN.refl H _,hO.ne,fun i lo k es hi=>⟨.inr (List.mem_map.2 ⟨_,List.mem_of_getElem? hi,rfl⟩),(hO.mem i lo k es hi).2⟩,by simp,by simp,by simp⟩;refine (hc _ H h1).mono fun r H' ⟨L',⟨e1,e2⟩,hO'⟩=>⟨e1,?_⟩;subst e2;refine⟨hO'.ext.1,fun l hl=>?_⟩;by_cases hm:l∈L'.map (·.1)
 ·obtain⟨p,hp,rfl⟩:=List.mem_map.1 hm;obtain⟨i,hi⟩:=List.getElem?_of_mem hp;rw [(hO'.mem i p.1 p.2.1 p.2.2 hi).2,(hO.mem i p.1 p.2.1 p.2.2 hi).2]
 ·exact hO'.ext.2 l hl hm
section
variable {P:Program} {tt:TT} {N:Nat} {T:PE} {H:bA} {ops:Array Oper} {K:PE->bA->Prop} {i n:Nat} {pl:Oper->Bool}
theorem aOH {F:Frame} {L0 L:OL} {fid:Nat} {as0:List V} {x:V} (R:OL) (ix:List Nat) (hc:BX P fid as0 L fun x' L'=>x'=x/\L'=L) (hO:aN F H L0)
  (h:∀ H',aN F H' L0->RD P tt N pl ops (aP (i+1) n) (T.cF (cP ops i) x) H' K) (hnd:ix.Nodup:=by decide) (hp:ix.map (fun i=>L0[i]?)=(L++R).map some:=by kernel_rfl)
  (hs:aP i n=i::aP (i+1) n:=by kernel_rfl) (hd:PN N ops T i=some (fid,as0):=by kernel_rfl) (hz:vK pl ops i=true:=by kernel_rfl):RD P tt N pl ops (aP i n) T H K:=by
 unfold PN at hd;split at hd
 ·rename_i f args tys hp'
  split at hd
  ·rename_i ys cs xs hf hx
   simp at hd;obtain ⟨rfl,rfl⟩:=hd;refine aAU hs hp' (fun h=>by cases h) (.inr hz) ?_;refine⟨_,xs,hf,hx,?_⟩;refine Or.inl ?_;have h1:=hc.read (hO.pick ix hnd hp).part;simp only [List.append_assoc] at h1 ⊢;exact h1.mono fun _ H' ⟨e,hx⟩=>⟨fun _=>hx,e ▸ h H' (hO.call hx)⟩
  ·simp at hd
 ·simp at hd
end
section
variable {P:Program} {tt:TT} {N:Nat} {T:Env} {H:bA} {ds:List Nat} {Q:Exit->Env->bA->List Nat->Prop}
theorem aNy {e:Exit} {H0:Frame} {L:List (Nat×Nat×List V)} (q k lo k2:Nat) (el:Nat->V) (L':Nat->List (Nat×Nat×List V)) (hO:aN H0 H L) (hL:L[q]?=some (lo,k,[.sl true 0 el]))
  (hl:∀ b5,L' b5=L.set q (lo,k,[.msl k2 b5 0 0])++[(b5,k2,[])]) (h:∀ b5 H',aN H0 H' (L' b5)->Cl N Q e T H' ds):Cl N Q e T H ds:=by
 have hat:=hO.at q hL;have hq:q<L.length:=(List.getElem?_eq_some_iff.1 hL).1;have hlt:lo<H.length:=(List.getElem?_eq_some_iff.1 hat).1;refine TB (T':=T) (H':=(H++[fD.vec k2 []]).set lo (fD.vec k [.msl k2 H.length 0 0])) ?_ (h H.length _ ?_)
 ·intro g w a ds hg;have hm:=hg.sr.more (b:=w.heap.size) (o:=0) (k:=k2) (cap:=0) (xs:=[]) (by simp) (by simp) (fun _=>undef) (by simp) (by simp) (fun _ _ _ _ _ _ _ hj=>by simp at hj);have hx:Ext g w (g.more w.heap.size 0 k2 0) w:=(Ext.refl g w).more (.inl (Nat.le_refl _));have hat':(H++[fD.vec k2 []])[lo]?=some (fD.vec k [.sl true 0 el]):=by rw [List.getElem?_append_left hlt];exact hat
  have hw:=hm.weaken hat' (i:=0) (y':=.msl k2 H.length 0 0) rfl rfl (fun v hv=>by
   obtain⟨a0,cap,rfl,hn,hz⟩:=hv.slE;have hc0:=hz rfl;subst hc0;have:=Rep.msl0 (g:=g.more w.heap.size 0 k2 0) (w:=w) g.n 0 a0 (Nat.lt_succ_self _) (by simp [Gh.more,gU]);rw [hg.sr.len]
   simpa [Gh.more,gU] using this)
  exact⟨_,hg.step hx hw (hg.tr.ext hx) rfl rfl,hx⟩
 ·rw [hl];have h1:=hO.new k2 [];have hL':(L++[(H.length,k2,([]:List V))])[q]?=some (lo,k,[.sl true 0 el]):=by rw [List.getElem?_append_left hq];exact hL
  have h2:=h1.put q hL' [.msl k2 H.length 0 0]
  rwa [List.set_append_left _ _ hq] at h2
end
theorem aOA {α:Type}{x:Option α}{s s':Unit}{r:α}(h:(x.bind fun o=>some (s,o))=some (s',r)):x=some r:=by
 cases x with
 | none=>cases h
 | some o=>simp at h; rw [h]
theorem BP.toV {P:Program}{fid:Nat}{σ:Type}{I:σ->Gs->Prop}{s s':σ}{args:List V}{r:V}(h:BP P fid I s args s' r):SQ P (.fn (.func fid) [] []) I s args s' r:=fun H G hi hg=>Or.inl (by simpa using h H G hi hg)
section
variable {P:Program} {tt:TT} {N:Nat} {T:Env} {H:bA} {ops:Array Oper} {K:Env->bA->Prop} {i n:Nat}
end
open Go.MapKept
def rJ {β:Type}(f:β->V)(m:List (ByteArray×β)):List (Value×V):=m.map fun p=>(.string p.1,f p.2)
def aCv:TypeDesc:=.string
def lO {β:Type}(f:β->V)(m:List (ByteArray×β)):fD:=.raw (JI aCv (rJ f m))
def FK {β:Type}(f:β->V)(m:List (ByteArray×β))(bs:List Nat)(clock:Nat):fD:=.raw (aCI aCv (rJ f m) bs clock)
def pH {β:Type}:List (ByteArray×β)->ByteArray->β->List (ByteArray×β)
 | [],k,v=>[(k,v)]
 | p::m,k,v=>if p.1=k then (k,v)::m else p::pH m k v
theorem aC2 {β:Type}{k:ByteArray}{v:β}:∀ {m:List (ByteArray×β)},(∀ p∈m,p.1≠k)->pH m k v=m++[(k,v)]
 | [],_=>rfl
 | p::m,h=>by
  simp only [pH,h p (by simp),if_false,List.cons_append];rw [aC2 fun q hq=>h q (by simp [hq])]
theorem aDc {β:Type}{k:ByteArray}{v:β}:∀ {m:List (ByteArray×β)} {j:Nat} {y:β},(m.map (·.1)).Nodup->m[j]?=some (k,y)->pH m k v=m.set j (k,v)
 | [],_,_,_,h=>by simp at h
 | p::m,0,y,_,h=>by simp at h; subst h; simp [pH]
 | p::m,j+1,y,hn,h=>by
  have hn':=List.nodup_cons.1 hn;have hj:m[j]?=some (k,y):=by simpa using h
  have : p.1≠k:=fun e=>hn'.1 (List.mem_map.2 ⟨(k,y),List.mem_of_getElem? hj,e.symm⟩);simp only [pH,this,if_false,List.set_cons_succ];rw [aDc hn'.2 hj]
theorem aHG {β:Type}{f:β->V}{m:List (ByteArray×β)}:(rJ f m).map (·.1)=(m.map (·.1)).map fun k=>Value.string k:=by simp [rJ]
theorem UK {β:Type}{f:β->V}{m:List (ByteArray×β)}(h:((rJ f m).map (·.1)).Nodup):(m.map (·.1)).Nodup:=by
 rw [aHG] at h;exact List.Pairwise.imp (fun hab e=>hab (by rw [e])) (List.pairwise_map.1 h)
theorem aKz {β:Type}{f:β->V}{m:List (ByteArray×β)}{k:ByteArray}{v:β}{M':List (Value×V)}(h:aI4 (.string k) (f v) (rJ f m) M'):M'=rJ f (pH m k v):=by
 obtain⟨hn,⟨h1,rfl⟩ | ⟨j,y,h1,rfl⟩⟩:=h
 ·rw [aC2 fun p hp e=>h1 (.string p.1,f p.2) (List.mem_map.2 ⟨p,hp,rfl⟩) (by simp [e])];simp [rJ]
 ·have h2:∃ b,m[j]?=some (k,b):=by
   simp only [rJ,List.getElem?_map,Option.map_eq_some_iff] at h1;obtain⟨⟨a,b⟩,h3,h4⟩:=h1;simp at h4;exact⟨b,by rw [h3,h4.1]⟩
  obtain⟨b,h2⟩:=h2;rw [aDc (UK hn) h2];simp [rJ,List.map_set]
theorem aGz {β:Type}{f:β->V}{m:List (ByteArray×β)}:∀ p∈rJ f m,plain p.1=true:=by
 intro p hp;obtain⟨q,_,rfl⟩:=List.mem_map.1 hp;rfl
def OY {β:Type}(bs:List Nat)(m:List (ByteArray×β))(seen:List Nat):List (ByteArray×β):=((bs.zip m).filter fun p => !seen.contains p.1).map (·.2)
def HK {β:Type}(bs:List Nat)(m:List (ByteArray×β))(seen:List Nat)(rem:List (ByteArray×β)):Prop:=rem=OY bs m seen
theorem aGM {β:Type}{bs:List Nat}{m:List (ByteArray×β)}(h:bs.length=m.length):HK bs m [] m:=by
 unfold HK OY
 have : ((bs.zip m).filter fun p => !([]:List Nat).contains p.1)=bs.zip m:=by
  rw [List.filter_eq_self];intro a _;rfl
 rw [this,List.map_snd_zip (by omega)]
theorem aHw {β:Type}{bs:List Nat}{m:List (ByteArray×β)}{seen:List Nat}{rem:List (ByteArray×β)}{j b:Nat}{x:ByteArray×β}(hl:bs.length=m.length)(hn:bs.Nodup)(h:HK bs m seen rem)(hb:bs[j]?=some b)(hm:m[j]?=some x)(hs:b ∉ seen) :
  rem.Perm (x::OY bs m (seen++[b])):=by
 rw [h];unfold OY;have hx:(b,x)∈bs.zip m:=List.mem_of_getElem? (i:=j) (by rw [List.getElem?_zip_eq_some];exact ⟨hb,hm⟩);have:=aEE (x:=(b,x)) hs (l:=bs.zip m) (by rw [List.map_fst_zip (by omega)];exact hn) hx
 simpa using this.map (·.2)
theorem aHF {β:Type}{bs:List Nat}{m:List (ByteArray×β)}{seen:List Nat}{rem:List (ByteArray×β)}(h:HK bs m seen rem)(hs:∀ b∈bs,b∈seen):rem=[]:=by
 rw [h];unfold OY;rw [List.map_eq_nil_iff,List.filter_eq_nil_iff];intro p hp
 simpa using hs p.1 (List.of_mem_zip (a:=p.1) (b:=p.2) hp).1
theorem aFM {S β R:Type}{body:S->(ByteArray×β)->Option S}{after:S->Option R}{r:R}{s:S}{rem rest:List (ByteArray×β)}{x:ByteArray×β}(hp:rem.Perm (x::rest))(hall:∀ q,q.Perm rem->(oP body s q).bind after=some r) :
  ∃ s',body s x=some s' /\ ∀ q,q.Perm rest->(oP body s' q).bind after=some r:=by
 have h1:=hall (x::rest) hp.symm;simp only [oP] at h1
 cases hb:body s x with
 | none=>rw [hb] at h1; simp at h1
 | some s' =>
  refine⟨s',rfl,fun q hq=>?_⟩;have h2:=hall (x::q) ((List.Perm.cons x hq).trans hp.symm)
  simpa [oP,hb] using h2
section rules
variable {P:Program} {tt:TT} {N:Nat} {T:Env} {H:bA} {ops:Array Oper} {K:Env->bA->Prop} {i n:Nat} {H0:bA} {E:List Nat} {G:Gs} {L:List (Nat×Nat×List V)}
theorem aHm {β:Type} (f:β->V) {t:TypeId} (hO:aN ⟨H0,E,G⟩ H L) (h:∀ lm H',aN ⟨H0,E,(lm,lO f ([]:List (ByteArray×β)))::G⟩ H' L->RWs P tt N ops (aP (i+1) n) (T.cF (cP ops i) ([],.mp lm)) H' K)
  (hs:aP i n=i::aP (i+1) n:=by kernel_rfl) (hp:gJ N ops i=some (.makeMap t none):=by kernel_rfl):RWs P tt N ops (aP i n) T H K :=
 FY hs hp (xs:=[]) rfl (aJz aCv (h _ _ (hO.aEZ _)))
def HD (P:Program)(mty:TypeId):Bool:=match P.underlying mty with
 | some (.map kt _)=>match P.underlying kt with
  | some (.string)=>true
  | _=>false
 | _=>false
theorem EL {mty:TypeId}(h:HD P mty=true):∃ kt et,P.underlying mty=some (.map kt et)/\P.underlying kt=some aCv:=by
 unfold HD at h;split at h
 ·rename_i kt et h1
  split at h
  ·rename_i h2;exact ⟨kt,et,h1,h2⟩
  ·cases h
 ·cases h
theorem aIP {β:Type} {f:β->V} {m:List (ByteArray×β)} {mty:TypeId} {l:Nat} (hO:aN ⟨H0,E,(l,lO f m)::G⟩ H L) (h:RWs P tt N ops (aP (i+1) n) (T.cF (cP ops i) ([],eI m.length)) H K)
  (hs:aP i n=i::aP (i+1) n:=by kernel_rfl) (hd:aEg N ops T i=some (mty,l):=by kernel_rfl) (hm:HD P mty=true:=by kernel_rfl):RWs P tt N ops (aP i n) T H K:=by
 obtain⟨kt,et,h1,h2⟩:=EL hm;have hl:=(hO.gm 0 _ rfl).2;unfold aEg at hd;split at hd
 ·rename_i args tys hp
  split at hd
  ·rename_i m' mty' ea et'
   split at hd
   ·rename_i l' e1
    simp at hd;obtain ⟨rfl,rfl⟩:=hd;obtain rfl:args=#[m']:=by rw [←Array.toArray_toList (xs:=args),ea]
    obtain rfl:tys=#[mty']:=by rw [←Array.toArray_toList (xs:=tys),et']
    refine FY hs hp (xs:=[.mp l']) (by simp [Op.operands,Call.operands,jT,e1]) (aLB h1 hl ?_);have : (rJ f m).length=m.length:=by simp [rJ]
    rw [this];exact h
   ·simp at hd
  ·simp at hd
 ·simp at hd
theorem TJ {β:Type} {f:β->V} {m:List (ByteArray×β)} {mty:TypeId} {l:Nat} (hO:aN ⟨H0,E,(l,lO f m)::G⟩ H L)
  (h:∀ li bs clock H',bs.length=m.length->bs.Nodup->aN ⟨H0,E,(li,YP li l clock [])::(l,FK f m bs clock)::G⟩ H' L->RWs P tt N ops (aP (i+1) n) (T.cF (cP ops i) ([],.lp li 0 0)) H' K)
  (hs:aP i n=i::aP (i+1) n:=by kernel_rfl) (hd:aGW N ops T i=some (mty,l):=by kernel_rfl) (hm:HD P mty=true:=by kernel_rfl):RWs P tt N ops (aP i n) T H K:=by
 obtain⟨kt,et,h1,h2⟩:=EL hm;have hl:=(hO.gm 0 _ rfl).2;unfold aGW at hd;split at hd
 ·rename_i mty' m' hp
  split at hd
  ·rename_i l' e1
   simp at hd;obtain ⟨rfl,rfl⟩:=hd;refine FY hs hp (xs:=[.mp l']) (by simp [Op.operands,jT,e1]) (aMI h1 hl fun bs clock hb hn=>?_);have h3:=(hO.wV (FK f m bs clock)).aEZ (YP H.length l' clock []);have e2:(H.set l' (FK f m bs clock)).length=H.length:=by simp
   rw [e2] at h3;exact h _ bs clock _ (by simpa [rJ] using hb) hn h3
  ·simp at hd
 ·simp at hd
theorem XF {β S R:Type} {f:β->V} {m:List (ByteArray×β)} {li l clock:Nat} {bs seen:List Nat} {rem:List (ByteArray×β)} {body:S->(ByteArray×β)->Option S} {after:S->Option R} {s:S} {r:R}
  (hb:bs.length=m.length) (hn:bs.Nodup) (hleft:HK bs m seen rem) (hall:∀ q,q.Perm rem->(oP body s q).bind after=some r) (hO:aN ⟨H0,E,(li,YP li l clock seen)::(l,FK f m bs clock)::G⟩ H L)
  (h0:after s=some r->RWs P tt N ops (aP (i+1) n) (T.cF (cP ops i) ([],.tup [.lit (.bool false)])) H K)
  (h1:∀ (k:ByteArray) (v:β) (b:Nat) (rest:List (ByteArray×β)) (s':S) H',body s (k,v)=some s'->rest.length<rem.length->HK bs m (seen++[b]) rest->(∀ q,q.Perm rest->(oP body s' q).bind after=some r)->(∃ j:Nat,bs[j]?=some b/\m[j]?=some (k,v)) ->
   aN ⟨H0,E,(li,YP li l clock (seen++[b]))::(l,FK f m bs clock)::G⟩ H' L->RWs P tt N ops (aP (i+1) n) (T.cF (cP ops i) ([],.tup [.lit (.bool true),tG k,f v])) H' K)
  (hs:aP i n=i::aP (i+1) n:=by kernel_rfl) (hd:aIb N ops T i=some li:=by kernel_rfl):RWs P tt N ops (aP i n) T H K:=by
 have hi:=(hO.gm 0 _ rfl).2;have hl:=(hO.gm 1 _ rfl).2;unfold aIb at hd;split at hd
 ·rename_i m' hp
  split at hd
  ·rename_i l' e1
   simp at hd;obtain rfl:=hd;refine FY hs hp (xs:=[.lp l' 0 0]) (by simp [Op.operands,jT,e1]) (aNY hl hi aGz (fun hov=>?_) fun j b kv xv hbj hmj hns=>?_)
   ·have:=hall [] (by rw [aHF hleft hov]);exact h0 (by simpa [oP] using this)
   ·obtain⟨⟨k,v⟩,b5,hm2⟩:∃ p:ByteArray×β,m[j]?=some p/\(Value.string p.1,f p.2)=(kv,xv):=by
     simpa [rJ,List.getElem?_map,Option.map_eq_some_iff] using hmj
    simp at hm2;obtain ⟨rfl,rfl⟩:=hm2;have b6:=aHw hb hn hleft hbj b5 hns;obtain⟨s',b7,b8⟩:=aFM b6 hall;exact h1 k v b (OY bs m (seen++[b])) s' _ b7 (by rw [b6.length_eq];simp) rfl b8 ⟨j,hbj,b5⟩ (hO.wV _)
  ·simp at hd
 ·simp at hd
theorem UO {β:Type} {f:β->V} {m:List (ByteArray×β)} {li l clock b:Nat} {bs seen:List Nat} {k:ByteArray} {v:β} (hat:∃ j:Nat,bs[j]?=some b/\m[j]?=some (k,v)) (hO:aN ⟨H0,E,(li,YP li l clock (seen++[b]))::(l,FK f m bs clock)::G⟩ H L)
  (h:RWs P tt N ops (aP (i+1) n) (T.cF (cP ops i) ([],.tup [tG k,f v])) H K)
  (hs:aP i n=i::aP (i+1) n:=by kernel_rfl) (hd:aGu N ops T i=some li:=by kernel_rfl):RWs P tt N ops (aP i n) T H K:=by
 have hi:=(hO.gm 0 _ rfl).2;have hl:=(hO.gm 1 _ rfl).2;obtain⟨j,h1,h2⟩:=hat;unfold aGu at hd;split at hd
 ·rename_i m' hp
  split at hd
  ·rename_i l' e1
   simp at hd;obtain rfl:=hd;exact FY hs hp (xs:=[.lp l' 0 0]) (by simp [Op.operands,jT,e1]) (aMt (kv:=.string k) (xv:=f v) hl hi h1 (by simp [rJ,List.getElem?_map,h2]) rfl h)
  ·simp at hd
 ·simp at hd
end rules
section code
variable {P:Program} {ro:Option Nat} {N:Nat} {T:Env} {H:bA} {ds:List Nat} {Q:Exit->Env->bA->List Nat->Prop}
theorem WV {c:Code} {S β R:Type} {bs:List Nat} {m:List (ByteArray×β)} {body:S->(ByteArray×β)->Option S} {after:S->Option R} {s0:S} {r:R} (hk:c.kind=4) (Inv:S->List Nat->Env->bA->Prop) (hb:bs.length=m.length)
  (hall:BQ m (fun q=>(oP body s0 q).bind after)=some r) (h0:Inv s0 [] T H)
  (round:∀ seen rem s T H,Inv s seen T H->HK bs m seen rem->(∀ q,q.Perm rem->(oP body s q).bind after=some r) ->
   AWP P ro N c.b T H ds (AA (fun T' H' ds'=>ds'=ds /\ ∃ seen' rem' s',rem'.length<rem.length/\HK bs m seen' rem'/\(∀ q,q.Perm rem'->(oP body s' q).bind after=some r)/\Inv s' seen' T' H') Q)):AWP P ro N c T H ds Q:=by
 refine aKp hk (fun k T H ds'=>ds'=ds /\ ∃ seen rem s,k=rem.length/\HK bs m seen rem/\(∀ q,q.Perm rem->(oP body s q).bind after=some r)/\Inv s seen T H) (k:=m.length) ⟨rfl,[],m,s0,rfl,aGM hb,aJE hall,h0⟩ ?_;rintro k T H _ ⟨rfl,seen,rem,s,rfl,hl,ha,hI⟩;refine (round seen rem s T H hI hl ha).mono ?_;intro e T' H' ds' hq
 cases e with
 | normal =>
  obtain⟨rfl,seen',rem',s',h1,h2,h3,h4⟩:=hq;exact⟨rem'.length,h1,rfl,seen',rem',s',rfl,h2,h3,h4⟩
 | _=>exact hq
end code
def CS {β:Type}:List (ByteArray×β)->ByteArray->Option β
 | [],_=>none
 | p::m,k=>if p.1=k then some p.2 else CS m k
def sQ {β:Type}(m:List (ByteArray×β))(k:ByteArray):List (ByteArray×β):=m.filter fun p => !decide (p.1=k)
theorem QV {β:Type}{k:ByteArray}:∀ {m:List (ByteArray×β)},(∀ p∈m,p.1≠k)->CS m k=none
 | [],_=>rfl
 | p::m,h=>by rw [CS,if_neg (h p (by simp)),QV fun q hq=>h q (by simp [hq])]
theorem QJ {β:Type}{k:ByteArray}{y:β}:∀ {m:List (ByteArray×β)} {j:Nat},(m.map (·.1)).Nodup->m[j]?=some (k,y)->CS m k=some y
 | [],_,_,h=>by simp at h
 | p::m,0,_,h=>by simp at h; subst h; simp [CS]
 | p::m,j+1,hn,h=>by
  have hn':=List.nodup_cons.1 hn;have hj:m[j]?=some (k,y):=by simpa using h
  have : p.1≠k:=fun e=>hn'.1 (List.mem_map.2 ⟨(k,y),List.mem_of_getElem? hj,e.symm⟩);rw [CS,if_neg this,QJ hn'.2 hj]
theorem aBR {β:Type}{k:ByteArray}{m:List (ByteArray×β)}(h:∀ p∈m,p.1≠k):sQ m k=m :=
 List.filter_eq_self.2 fun p hp=>by simpa using h p hp
theorem aBU {β:Type}{k:ByteArray}{y:β}:∀ {m:List (ByteArray×β)} {j:Nat},(m.map (·.1)).Nodup->m[j]?=some (k,y)->sQ m k=m.eraseIdx j
 | [],_,_,h=>by simp at h
 | p::m,0,hn,h=>by
  simp at h;subst h;have hn':=List.nodup_cons.1 hn;have : sQ m k=m:=aBR fun q hq e=>hn'.1 (List.mem_map.2 ⟨q,hq,e⟩);unfold sQ at this ⊢;simp [this]
 | p::m,j+1,hn,h=>by
  have hn':=List.nodup_cons.1 hn;have hj:m[j]?=some (k,y):=by simpa using h
  have hp:p.1≠k:=fun e=>hn'.1 (List.mem_map.2 ⟨(k,y),List.mem_of_getElem? hj,e.symm⟩);have:=aBU hn'.2 hj;unfold sQ at this ⊢;simp [hp,this]
variable {P:Program} {H:bA} {K:V->bA->Prop}
section rules
variable {tt:TT} {N:Nat} {T:Env} {ops:Array Oper} {K:Env->bA->Prop} {i n:Nat} {H0:bA} {E:List Nat} {G:Gs} {L:List (Nat×Nat×List V)}
def WC (P:Program)(tt:TT)(mty:TypeId):Option V:=match P.underlying mty with
 | some (.map kt et)=>match P.underlying kt,tt et with
  | some (.string),some te=>some te.zero
  | _,_=>none
 | _=>none
theorem aDP {mty:TypeId}{z:V}(htt:jO P tt)(h:WC P tt mty=some z):∃ kt et,P.underlying mty=some (.map kt et)/\P.underlying kt=some aCv /\ ∀ w:World,∃ zv,(zeroValue et).run P w=.ok zv w /\ ∀ g:Gh,Rep g w z zv:=by
 unfold WC at h;split at h
 ·rename_i kt et h1
  split at h
  ·rename_i te h2 h3
   simp at h;subst h;obtain⟨⟨i,hi,_,_,zv,hz,hzv⟩,_⟩:=htt.facts h3;exact⟨kt,et,h1,h2,fun w=>⟨zv,by simp [zeroValue,typeInfo,hi,hz],fun g=>uR hzv⟩⟩
  ·cases h
 ·cases h
theorem aIU {β:Type} {f:β->V} {m:List (ByteArray×β)} {mty:TypeId} {l:Nat} (k:ByteArray) (hO:aN ⟨H0,E,(l,lO f m)::G⟩ H L) (h:∀ H',aN ⟨H0,E,(l,lO f (sQ m k))::G⟩ H' L->RWs P tt N ops (aP (i+1) n) (T.cF (cP ops i) ([],.tup [])) H' K)
  (hs:aP i n=i::aP (i+1) n:=by kernel_rfl) (hd:aEI N ops T i=some (mty,l,.string k):=by kernel_rfl) (hm:HD P mty=true:=by kernel_rfl):RWs P tt N ops (aP i n) T H K:=by
 obtain⟨kt,et,h1,h2⟩:=EL hm;have hl:=(hO.gm 0 _ rfl).2;unfold aEI at hd;split at hd
 ·rename_i args tys hp
  split at hd
  ·rename_i m' k' mty' kt' ea et'
   split at hd
   ·rename_i l' kv e1 e2
    simp at hd;obtain ⟨rfl,rfl,rfl⟩:=hd;obtain rfl:args=#[m',k']:=by rw [←Array.toArray_toList (xs:=args),ea]
    obtain rfl:tys=#[mty',kt']:=by rw [←Array.toArray_toList (xs:=tys),et']
    refine FY hs hp (xs:=[.mp l',.lit (.string k)]) (by simp [Op.operands,Call.operands,jT,e1,e2]) (aLp h1 h2 trivial hl (fun hnd hno=>?_) fun hnd j x hj=>?_)
    ·have : sQ m k=m:=aBR fun p hp' e=>hno (.string p.1,f p.2) (List.mem_map.2 ⟨p,hp',rfl⟩) (by simp [e]);rw [this] at h;exact h _ (hO.wV _)
    ·have : ∃ y,m[j]?=some (k,y):=by
      simp only [rJ,List.getElem?_map,Option.map_eq_some_iff] at hj;obtain⟨⟨a,b⟩,h3,h4⟩:=hj;simp at h4;exact⟨b,by rw [h3,h4.1]⟩
     obtain⟨y,hy⟩:=this
     have e3:(rJ f m).eraseIdx j=rJ f (sQ m k):=by
      rw [aBU (UK hnd) hy];exact aEJ _ m j
     rw [e3];exact h _ (hO.wV _)
   ·simp at hd
  ·simp at hd
 ·simp at hd
end rules
section ends
variable {fn:Func} {T:Env} {H:bA} {H0:bA} {E:List Nat} {G M:Gs} {Post:V->Gs->OL->Prop} {x:V} {L:OL}
end ends
end Go.Abs
namespace Go.Abs
open Go IntKind Go.RowKit
def aAK (P:Program)(t:TypeId)(name:String):Option FuncId:=match P.info? t with
 | some ti=>match ti.methods.find? (·.name==name) with
  | some m=>match m.func,m.path.toList,P.underlying t with
   | some (_,false),[],some (.pointer _)=>none
   | some (f,false),[],some _=>some f
   | _,_,_=>none
  | none=>none
 | none=>none
theorem aHl {P:Program}{t:TypeId}{name:String}{f:FuncId}(h:aAK P t name=some f) :
  ∃ ti m d,P.info? t=some ti/\ti.methods.find? (·.name==name)=some m/\m.func=some (f,false)/\m.path.toList=[]/\P.underlying t=some d /\ ∀ e,d ≠ .pointer e:=by
 unfold aAK at h
 cases h1:P.info? t with
 | none=>rw [h1] at h; cases h
 | some ti =>
  rw [h1] at h;simp only at h
  cases h2:ti.methods.find? (·.name==name) with
  | none=>rw [h2] at h; cases h
  | some m =>
   rw [h2] at h;simp only at h;refine⟨ti,m,?_⟩
   cases h3:m.func with
   | none=>rw [h3] at h; cases h
   | some p =>
    obtain⟨f',b⟩:=p;rw [h3] at h
    cases h4:m.path.toList with
    | cons _ _=>rw [h4] at h; cases b <;> cases h
    | nil =>
     rw [h4] at h
     cases h5:P.underlying t with
     | none=>rw [h5] at h; cases b <;> cases h
     | some d =>
      rw [h5] at h
      cases b with
      | true=>cases h
      | false =>
       refine⟨d,rfl,h2,?_,rfl,rfl,fun e he=>?_⟩
       ·cases d <;> first | (cases h; done) | (simp at h; subst h; rfl)
       ·subst he;cases h
theorem aJd {P:Program}{w:World}{t:TypeId}{name:String}{f:FuncId}(v:Value)(h:aAK P t name=some f):(method (P.types.size+Made.depth) t v name).run P w=.ok (f,v) w:=by
 obtain⟨ti,m,d,hi,hm,hf,hp,hu,hd⟩:=aHl h;obtain⟨k,hk⟩:∃ k,P.types.size+Made.depth=k+1:=⟨_,rfl⟩;rw [hk]
 have hr:∀ o,(receiverAt t (.val v) false o).run P w=.ok v w:=by
  intro o;unfold receiverAt;rw [Sem.run_bind,run_underlying hu]
  cases d <;> first | rfl | exact absurd rfl (hd _)
 unfold method;simp only [Sem.run_bind,run_typeInfo w hi,Result.andThen,hm,hp,follow,Sem.run_pure,hf,hr]
section
variable {P:Program} {tt:TT} {H:bA} {K:V->bA->Prop}
theorem aLS {recv:Operand}{name:String}{args:Array Operand}{tys:Array TypeId}{t:TypeId}{x:V}{as0:List V}{f:FuncId}(hm:aAK P t name=some f)(hc:pO P f (x::as0) H K) :
  yD P (.call ⟨.invoke recv name,args,tys⟩) (.ifc t x::as0) H K:=by
 intro ro o a g w next R ho hs hx hn;obtain⟨hlen,hx⟩:=hx;have hops:(Op.call ⟨.invoke recv name,args,tys⟩).operands=#[recv]++args:=rfl;rw [hops] at hlen hx;have r1:=hx 0 (.ifc t x) (a.eval recv) rfl (by simp [Array.getElem?_append]);obtain⟨c,e1,r1⟩:=r1.aN5;obtain⟨henter,hcalls⟩:=hc;have hd:∀ c,o.op ≠ .defer c:=by intro c e;rw [e] at ho;cases ho
 refine⟨fun _ _=>trivial,?_⟩;rw [TU hd]
 have hrun:(execOp a.eval o).run P w=.ok (.enter f (#[c]++args.map a.eval)) w:=by
  cases o
  simp only at ho;subst ho;simp only [execOp,resolve,Sem.run_bind,Sem.run_pure,Result.andThen,invoke];have e2:(#[a.eval recv]++args.map a.eval)[0]?=some (.iface t c):=by simp [e1,Array.getElem?_append]
  have e3:(#[a.eval recv]++args.map a.eval).extract 1 (#[a.eval recv]++args.map a.eval).size=args.map a.eval:=by
   apply Array.ext';simp [Array.toList_extract,List.extract,List.take_of_length_le]
  rw [e2,e3];have hp:Sem.run P program w=.ok P w:=rfl;simp only [callMethod,Sem.run_bind,hp,Result.andThen,aJd c hm,henter]
 rw [hrun];refine⟨fun h=>by simp [FR,Fence.wide] at h,ZG ?_⟩;refine (hcalls g w _ hs ?_ ?_).mono ?_
 ·simp at hlen ⊢;omega
 ·intro i y z hy hz
  cases i with
  | zero =>
   simp at hy;subst hy;simp [Array.getElem?_append] at hz;subst hz;exact r1
  | succ i =>
   refine hx (i+1) y z (by simpa using hy) ?_
   simpa [Array.getElem?_append] using hz
 ·rintro e w' ⟨v,r,g',H',rfl,hr,hs,hx,hq⟩;exact hn r H' g' w' v hq hs hr hx
theorem aL0 (htt:jO P tt) {args:Array Operand} {t t' e:TypeId} {te:TyE} (hu:P.underlying t=some (.slice e)) (hu':P.underlying t'=some .string) (hte:tt e=some te) (b5:vY te.zero te.size=true) (h1:te.size=1) {s:V} {bs:ByteArray} {es:List V} (hs:ON te.size H s=some es)
  (hb:(es.length+bs.size)*te.bytes<=140737488355328) (h63:es.length+bs.size<=9223372036854775807)
  (h:K (.msl te.size H.length 0 (es.length+bs.size)) (IT te.size H s (es++bs.data.toList.map fun b=>cD .u8 (b.toNat:Int)))):yD P (.call ⟨.builtin .append,args,#[t,t']⟩) [s,tG bs] H K:=by
 intro ro o a g w next R ho hsr hx hn;obtain⟨hlen,hx⟩:=hx;have hops:(Op.call ⟨.builtin .append,args,#[t,t']⟩).operands=args:=by simp [Op.operands,Call.operands]
 rw [hops] at hlen hx
 obtain⟨u1,u2,h2⟩:∃ u1 u2,args.map a.eval=#[u1,u2]:=by
  generalize args.map a.eval=as0 at hlen
  obtain⟨l⟩:=as0
  match l,hlen with
  | [u1,u2],_=>exact ⟨u1,u2,rfl⟩
 rw [h2] at hx;have r1:=hx 0 s u1 rfl rfl;have r2:=(hx 1 (tG bs) u2 rfl rfl).qJ;have hys:(bs.data.toList.map fun b=>cD .u8 (b.toNat:Int)).length=bs.size:=by rw [List.length_map,Array.length_toList];rfl
 obtain⟨v,w',g',hrun,hrep,hsr',hext⟩:=aAa (ty:=o.type) (e':=e) (vx:=.string bs) (ys:=bs.data.toList.map fun b=>cD .u8 (b.toNat:Int)) (news:=bs.data.toList.map fun b=>Value.int .u8 (b.toNat:Int)) htt hsr hu (.inr hu') hte b5 r1 hs
  (fun w=>by rw [hys];rfl)
  ⟨by rw [h1,List.length_map,List.length_map,Nat.mul_one],⟨fun i=>Value.int .u8 ((bs.data.toList.map fun b=>(b.toNat:Int)).getD i 0),fun i y hy=>by
   simp only [List.getElem?_map,Option.map_eq_some_iff] at hy;obtain⟨b,hb',rfl⟩:=hy;have e1:(bs.data.toList.map fun b=>(b.toNat:Int)).getD i 0=(b.toNat:Int):=by rw [List.getD_eq_getElem?_getD,List.getElem?_map,hb'];rfl
   show Rep g w (cD .u8 (b.toNat:Int)) (Value.int .u8 ((bs.data.toList.map fun b=>(b.toNat:Int)).getD i 0))/\(Value.int .u8 ((bs.data.toList.map fun b=>(b.toNat:Int)).getD i 0)).cells.size=te.size /\ ∀ (j:Nat) z,(Value.int .u8 ((bs.data.toList.map fun b=>(b.toNat:Int)).getD i 0)).cells[j]?=some z->(bs.data.toList.map fun b=>Value.int .u8 (b.toNat:Int))[i*te.size+j]?=some z;rw [e1];refine⟨.lit _ rfl,by rw [h1];rfl,fun j z hz=>?_⟩
   have hj:j=0:=by
    have:=(Array.getElem?_eq_some_iff.1 hz).1;simp [Value.cells] at this;omega
   subst hj
   have : z=Value.int .u8 (b.toNat:Int):=by
    simp [Value.cells] at hz;exact hz.symm
   subst this;rw [h1,Nat.mul_one,Nat.add_zero,List.getElem?_map,hb'];rfl⟩,fun z hz=>by
   obtain⟨b,_,rfl⟩:=List.mem_map.1 hz;rfl⟩
  (fun y hy=>by
   obtain⟨b,_,rfl⟩:=List.mem_map.1 hy;rfl)
  (fun w1 _=>by
   rw [hys];have e1:bs.extract 0 bs.size=bs:=ByteArray.extract_zero_size;simp only [Builtin.firstCells,Sem.run_pure,e1]
   congr 1
   apply Array.ext';simp)
  (by rw [hys];exact hb) (by rw [hys];exact h63)
 rw [hys] at hrep;refine fI (by rw [ho];simp) (v:=v) (w':=w') ?_ (hn _ _ g' w' v h hsr' hrep hext)
 cases o
 simp only at ho;subst ho;simp only [execOp,resolve,Sem.run_bind,Sem.run_pure,Result.andThen,invoke,builtin];rw [h2,r2,hrun]
theorem aKo {src dst e:TypeId}{x:Operand}{xs:List Int}(hs:P.underlying src=some (.slice e))(he:P.underlying e=some (.int .u8))(hd:P.underlying dst=some .string)(h:K (tG (strOfNums xs)) H):yD P (.convert src dst x) [eL (cD .u8) xs] H K:=by
 intro ro o a g w next R ho hsr hx hn;have hops:(Op.convert src dst x).operands=#[x]:=rfl;rw [hops] at hx;have r1:=hx.2 0 _ (a.eval x) rfl (by simp);obtain⟨b,cap,cs,e1,hcs,_,hrun⟩:=aC7 (P:=P) (k:=1) hsr r1 (AP fun _=>rfl)
 have e2:cs=xs.map (Value.int .u8):=by
  obtain⟨c,hc⟩:=hcs.rep;apply List.ext_getElem?;intro i;by_cases hi:i<xs.length
  ·have h1:(xs.map (cD .u8))[i]?=some (cD .u8 xs[i]):=by simp [hi]
   obtain⟨a1,a2,a3⟩:=hc i _ h1;have a4:=a1.qJ;have:=a3 0 (Value.int .u8 xs[i]) (by rw [a4];rfl);simp at this;rw [this];simp [hi]
  ·have:=hcs.len;rw [List.getElem?_eq_none (by simp at this;omega),List.getElem?_eq_none (by simpa using Nat.le_of_not_lt hi)]
 subst e2
 have hr:(execOp a.eval o).run P w=.ok (.value (.string (strOfNums xs))) w:=by
  cases o
  simp only at ho;subst ho;simp only [execOp,Sem.run_bind,Sem.run_pure];rw [e1];have h3:=hrun w (fun _=>rfl);rw [e1] at h3
  cases b with
  | none =>
   have h4:xs=[]:=by
    simp [Builtin.firstCells] at h3;exact h3
   subst h4;rw [run_convert_bytes_nil w src e hs he _ _ dst hd];rfl
  | some ad =>
   have h4:(loadCells ad (xs.map (cD .u8)).length).run P w=.ok (xs.map (Value.int .u8)).toArray w:=by
    simpa [Builtin.firstCells] using h3
   rw [run_convert_bytes_string w src dst e _ _ cap hs he hd,run_bytesToString w _ _ cap xs h4,foldl_push_bytes];simp [strOfNums,ByteArray.empty,ByteArray.emptyWithCapacity,Result.andThen];rfl
 exact fI (by rw [ho];simp) hr (hn _ _ g w _ h hsr (.lit _ rfl) (Ext.refl g w))
end
section rules
variable {P:Program} {tt:TT} {N:Nat} {T:Env} {H:bA} {ops:Array Oper} {K:Env->bA->Prop} {i n:Nat}
def aKi (N:Nat)(ops:Array Oper)(T:Env)(i:Nat):Option (String×TypeId×List V):=match gJ N ops i with
 | some (.call ⟨.invoke r name,args,_⟩)=>match jT T [] (#[r]++args).toList with
  | some (.ifc t x::as0)=>some (name,t,x::as0)
  | _=>none
 | _=>none
theorem aMh {H0:Frame} {L:List (Nat×Nat×List V)} {name:String} {t:TypeId} {fid:Nat} {as0:List V} {x:V} (hm:aAK P t name=some fid) (hc:cW P fid as0 x) (hO:aN H0 H L)
  (h:∀ H',aN H0 H' L->RWs P tt N ops (aP (i+1) n) (T.cF (cP ops i) ([],x)) H' K) (hs:aP i n=i::aP (i+1) n:=by kernel_rfl) (hd:aKi N ops T i=some (name,t,as0):=by kernel_rfl):RWs P tt N ops (aP i n) T H K:=by
 unfold aKi at hd;split at hd
 ·rename_i r nm args tys hp
  split at hd
  ·rename_i t' x' as0' hx
   simp at hd;obtain ⟨rfl,rfl,rfl⟩:=hd;exact FY hs hp hx (aLS hm ((hc H).mono fun r H' ⟨e,hx⟩=>e ▸ h H' (hO.call hx)))
  ·simp at hd
 ·simp at hd
theorem aGj {H0:Frame} {L:List (Nat×Nat×List V)} (xs:List V) (k:Nat) (hO:aN H0 H L) (h:∀ lo H',aN H0 H' (L++[(lo,k,xs)])->RWs P tt N ops (aP (i+1) n) (T.cF (cP ops i) ([],.msl k lo 0 xs.length)) H' K)
  (hs:aP i n=i::aP (i+1) n:=by kernel_rfl) (hd:RA tt N ops T i=some (xs,k):=by kernel_rfl):RWs P tt N ops (aP i n) T H K :=
 aN1 hs hd (h _ _ (hO.new k xs))
def aIk (P:Program)(tt:TT)(N:Nat)(ops:Array Oper)(T:Env)(i:Nat):Option (V×ByteArray):=match gJ N ops i with
 | some (.call ⟨.builtin .append,args,tys⟩)=>match jT T [] args.toList,tys.toList with
  | some [s,.lit (.string b)],[t,t']=>match P.underlying t,P.underlying t' with
   | some (.slice e),some .string=>match tt e with
    | some te=>match vY te.zero te.size&&Nat.beq te.size 1&&Nat.beq te.bytes 1 with
     | true=>some (s,b)
     | false=>none
    | none=>none
   | _,_=>none
  | _,_=>none
 | _=>none
end rules
end Go.Abs
