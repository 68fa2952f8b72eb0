/- What the law WindowParts stands on: the framework, the given functions as plain functions, their walks, and the plain laws; part 3. -/
import Derived.Test.YteecjdpicjpnfabGreatWindowPartsZ2
set_option linter.unusedSimpArgs false
set_option linter.unusedVariables false
noncomputable section
namespace Go.Abs
open Go Go.RowKit Go.MapKept
variable {P:Program} {H:bF} {K:V->bF->Prop}
section rules
variable {tt:TT} {N:Nat} {T:Env} {ops:Array Oper} {K:Env->bF->Prop} {i n:Nat} {H0:bF} {E:List Nat} {G:Gs} {L:List (Nat×Nat×List V)}
theorem aCz {β:Type} {f:β->V} {m:List (Int×β)} {mty:TypeId} {l:Nat} {ok:Bool} (htt:iT P tt) (k:Int) (z0:β) (hO:aL ⟨H0,E,(l,rO f m)::G⟩ H L)
    (h:RWs P tt N ops (aP (i+1) n) (T.cE (dH ops i) ([],cond ok (.tup [f ((hY m k).getD z0),aF (hY m k).isSome]) (f ((hY m k).getD z0)))) H K)
    (hs:aP i n=i::aP (i+1) n:=by kernel_rfl) (hd:ZQ N ops T i=some (mty,l,.int .i64 k,ok):=by kernel_rfl) (hm:YE P tt mty=some (f z0):=by kernel_rfl):RWs P tt N ops (aP i n) T H K:=by
  obtain⟨kt,et,h1,h2,h3⟩:=aBT htt hm;have hl:=(hO.gm 0 _ rfl).2;unfold ZQ at hd;split at hd
  · rename_i mty' m' k' ok' hp
    split at hd
    · rename_i l' kv e1 e2
      simp at hd; obtain ⟨rfl,rfl,rfl,rfl⟩:=hd;refine AO hs hp (xs:=[.mp l',.lit (.int .i64 k)]) (by simp [Op.operands,iX,e1,e2]) (aGj (kv:=.int .i64 k) (z:=f z0) h1 h2 rfl h3 hl (fun hnd hno=>?_) fun hnd j x hj=>?_)
      · have : hY m k=none:=ZI fun p hp' e=>hno (.int .i64 p.1,f p.2) (List.mem_map.2 ⟨p,hp',rfl⟩) (by simp [e]);rw [this] at h;exact h
      · have : ∃ y,m[j]?=some (k,y)/\f y=x:=by
          simp only [xQ,List.getElem?_map,Option.map_eq_some_iff] at hj;obtain⟨⟨a,b⟩,h3,h4⟩:=hj;simp at h4;exact⟨b,by rw [h3,h4.1],h4.2⟩
        obtain⟨y,hy,rfl⟩:=this;rw [YV (XA hnd) hy] at h;exact h
    · simp at hd
  · simp at hd

end rules
def aHc (P:Program)(f:FuncId)(args:List V)(M:Gs)(L:OL)(Post:V->Gs->OL->Prop):Prop :=
  ∀ (F:Frame) (H:bF),aL ⟨F.h,F.e,M++F.g⟩ H L->nN P f args H fun x H'=>∃ M' L',Post x M' L'/\aL ⟨F.h,F.e,M'++F.g⟩ H' L'

theorem aL.aI0 {H0:bF}{E:List Nat}{M G:Gs}{L R:OL}(h:aL ⟨H0,E,M++G⟩ H (L++R)):aL ⟨H0,E,M++(up R++G)⟩ H L:=by
  have h1:aL ⟨H0,E,up R++(M++G)⟩ H L:=h.part;exact h1.sA (by rw [←List.append_assoc,←List.append_assoc]; exact List.Perm.append_right _ List.perm_append_comm)

theorem aL.aIP {H0:bF}{E:List Nat}{M G:Gs}{L R:OL}(h:aL ⟨H0,E,M++(up R++G)⟩ H L):aL ⟨H0,E,M++G⟩ H (L++R):=by
  have h1:aL ⟨H0,E,up R++(M++G)⟩ H L:=h.sA (by rw [←List.append_assoc,←List.append_assoc]; exact List.Perm.append_right _ List.perm_append_comm);exact aL.glue (F:=⟨H0,E,M++G⟩) h1

theorem aI6 {tt:TT} {N:Nat} {T:Env} {ops:Array Oper} {K:Env->bF->Prop} {i n:Nat} {H0:bF} {E:List Nat} {G:Gs} {L0 L:OL} {Post:V->Gs->OL->Prop} {fid:Nat} {as0:List V} (M:Gs) (R:OL) (ix:List Nat) (hc:aHc P fid as0 M L Post) (hO:aL ⟨H0,E,M++G⟩ H L0)
    (h:∀ x M' L' H',Post x M' L'->aL ⟨H0,E,M'++G⟩ H' (L'++R)->RWs P tt N ops (aP (i+1) n) (T.cE (dH ops i) ([],x)) H' K) (hnd:ix.Nodup:=by decide) (hp:ix.map (fun i=>L0[i]?)=(L++R).map some:=by kernel_rfl)
    (hs:aP i n=i::aP (i+1) n:=by kernel_rfl) (hd:pM N ops T i=some (fid,as0):=by kernel_rfl):RWs P tt N ops (aP i n) T H K :=
  RF hs hd (hc ⟨H0,E,up R++G⟩ H (hO.pick ix hnd hp).aI0) fun _ H' ⟨M',L',hP,hO'⟩=>h _ M' L' H' hP hO'.aIP

section ends
variable {fn:Func} {T:Env} {H:bF} {H0:bF} {E:List Nat} {G M:Gs} {Post:V->Gs->OL->Prop} {x:V} {L:OL}
end ends
end Go.Abs
namespace Go.Abs
open Go Go.RowKit
variable {P:Program} {tt:TT} {g:Gh} {w:World} {H:bF}
theorem aFW {N:Nat} {c:Code} {l:List (Nat×V)} {ds:List Nat} {Q:Exit->Env->bF->List Nat->Prop} {fid:Nat} {ys cs:List V} {b0 l0:Nat} {A0:vP} {st0:LoopState} {pe0:Option Code} (h0:H[l0]?=some (.raw (iN b0 A0 st0 pe0)))
    (hk:c.kind=9) (hf:cU (Env.ofL l) [] c.cnd=some (.fn (.func fid) ys cs)) {ps:Array Tmp} (hps:c.rps=ps)
    (h:∀ b,nN P fid (ys++[yv b]++cs) (H++[.raw (iN b ⟨N,l,ps,c.asg,c.b⟩ .ready none)]) (fun _ H'=>∃ st pe,H'[H.length]?=some (.raw (iN b ⟨N,l,ps,c.asg,c.b⟩ st pe))/\st ≠ .busy /\
      (match pe with
       | none=>Cl N Q .normal (Env.ofL l) (H'.set H.length .dead) ds
       | some c'=>AWP P (some b0) N c' (Env.ofL l) (H'.set H.length .dead) ds Q))):AWP P (some b0) N c (Env.ofL l) H ds Q:=by
  cases c with
  | rangeFunc fo ps' asg body =>
    simp only [Code.rps] at hps;subst hps;simp only [Code.cnd] at hf;simp only [Code.asg,Code.b] at h;intro g w a R hg hr;refine wpIn_rangeFunc ?_;intro fn _;obtain⟨o0,p1,p2,pb,r0,rfl,_⟩:=hg.sr.raw l0 _ h0;rw [pb] at p1;obtain⟨rec,hrec⟩:∃ rec:Loop,rec={ state:=.ready,pending:=none,fn,tmps:=a.tmps,params:=ps',assign:=asg,body,defers:=r0.defers }:=⟨_,rfl⟩
    have n2:=hg.sr.KF (.loop rec) rfl (iN w.heap.size ⟨N,l,ps',asg,body⟩ .ready none) ⟨rfl,rec,rfl,by rw [hrec],by rw [hrec],by rw [hrec],by rw [hrec],by rw [hrec],by rw [hrec]; exact hg.sz,by
      have ht:rec.tmps=a.tmps:=by rw [hrec]
      rw [ht];exact hg.tr.HW ((hg.sr.KF (.loop rec) rfl ⟨fun _ _ _ _=>True,fun _ _=>trivial⟩ trivial).2.toExt0)⟩
    obtain⟨s2,e2⟩:=n2
    have henter:(Instr.enterLoop fn a.tmps ps' asg body (FR (some b0)).round).run P w=.ok (w.heap.size,[]) (w.alloc (.loop rec)):=by
      rw [hrec]; exact run_enterLoop_inner p1 fn a.tmps ps' asg body
    obtain⟨fs,cap,hfv,l1,l2,g1',g2'⟩:=(cX (hg.tr.HW e2.toExt0) (a:=a) (by intro p hp; simp at hp) hf).fnE;obtain⟨hent,hcalls⟩:=h w.heap.size;have hargs:(ys++[yv w.heap.size]++cs).length=(fs ++ #[Value.func (.yield w.heap.size) #[] #[]]++cap).size:=by simp [l1,l2]; omega
    refine⟨w.heap.size,[],w.alloc (.loop rec),⟨.fn (.func fid) cap,fs ++ #[Value.func (.yield w.heap.size) #[] #[]]⟩,w.alloc (.loop rec),fid,fs ++ #[Value.func (.yield w.heap.size) #[] #[]]++cap,w.alloc (.loop rec),henter,?_,fun _ _=>trivial,?_,fun h=>by simp [FR,Fence.wide] at h,?_⟩
    · have hm:Array.map a.eval #[Operand.const (Value.func (.yield w.heap.size) #[] #[])]=#[Value.func (.yield w.heap.size) #[] #[]]:=by
        simp [Act.eval]
      simp only [rangeCall,resolve,hfv,Deferred.ofValue,Sem.run_bind,Sem.run_pure,Result.andThen,hm]
    · simp only [invoke,hent]
    · refine OF ?_
      obtain⟨l4,g4⟩:=BU (xs:=ys) (ys:=[yv w.heap.size]) (as0:=fs) (bs := #[Value.func (.yield w.heap.size) #[] #[]]) l1 rfl g1' (fun i x y hx hy=>by
        cases i with
        | zero=>simp at hx hy; subst hx; subst hy; exact .lit _ rfl
        | succ i=>simp at hx)
      obtain⟨l5,g5⟩:=BU l4 l2 g4 g2';refine (hcalls _ _ _ s2 l5 g5).mono ?_;rintro e w3 ⟨v,r,g3,H3,rfl,_,s3,x3,st,pe,hL,hb,hq⟩;obtain⟨o3,q1,q2,qb,r3,rfl,z1,z2,z3,z4,z5,z6,z7⟩:=s3.raw _ _ hL;rw [qb] at q1;have s4:=s3.AY hL (.loop { r3 with state:=.exhausted }) rfl ⟨fun _ _ _ _=>True,fun _ _=>trivial⟩ trivial;rw [qb] at s4;obtain⟨s4,x4⟩:=s4;have s5:=s4.kill H.length;rw [List.set_set] at s5;have hxx:Ext g w g3 (w3.putObj w.heap.size (.loop { r3 with state:=.exhausted })):=(e2.trans x3).trans x4
      have hgood:Good N g3 (w3.putObj w.heap.size (.loop { r3 with state:=.exhausted })) (Env.ofL l) (H3.set H.length .dead) ds { a with defers:=[]++a.defers }:=by
        refine⟨s5,hg.tr.HW hxx.toExt0,?_,?_,hg.sz⟩
        · rw [List.nil_append,hg.df];apply List.map_congr_left;intro l' hl';simp only [mkD,hxx.blk l' (hg.dl l' hl')]
        · intro l' hl';exact Nat.lt_of_lt_of_le (hg.dl l' hl') hxx.n
      refine⟨_,_,run_endLoop q1 (by rw [z1]; exact hb),?_⟩;split
      · rename_i hp
        have hpe:pe=none:=z2.symm.trans hp;subst hpe;obtain⟨g5,T5,H5,hg5,hx5,hq5⟩:=hq _ _ _ hgood;exact hr _ _ _ _ _ _ _ hq5 hg5 (hxx.trans hx5)
      · rename_i c' hp
        have hpe:pe=some c':=z2.symm.trans hp;subst hpe;exact hq _ _ _ _ hgood fun e T' H' ds' g' w' a' hq' hg' hx'=>hr e T' H' ds' g' w' a' hq' hg' (hxx.trans hx')
  | region i o d=>cases d <;> simp [Code.kind] at hk
  | _=>simp [Code.kind] at hk

theorem aGv {σ:Type} {N:Nat} {Q:Exit->Env->bF->List Nat->Prop} {ds:List Nat} {c:Code} {l:List (Nat×V)} {fid:Nat} {ys cs:List V} {H0:bF} {E:List Nat} {G:Gs} {L:List (Nat×Nat×List V)} {b0 l0:Nat} {A0:vP} {st0:LoopState} {pe0:Option Code} (ps:Array Tmp) (I:vP->Nat->Nat->σ->Gs->Prop) (s0 s1:σ) (v:V)
    (h0:H[l0]?=some (.raw (iN b0 A0 st0 pe0)))
    (hk:c.kind=9) (hf:cU (Env.ofL l) [] c.cnd=some (.fn (.func fid) ys cs)) (hps:c.rps=ps) (hO:aL ⟨H0,E,G⟩ H L)
    (hi:∀ b lL,I ⟨N,l,ps,c.asg,c.b⟩ b lL s0 ((lL,.raw (iN b ⟨N,l,ps,c.asg,c.b⟩ .ready none))::(up L++G)))
    (hit:∀ b lL,CJ P fid (I ⟨N,l,ps,c.asg,c.b⟩ b lL) s0 (ys++[yv b]++cs) s1 v)
    (hend:∀ b lL H' G',I ⟨N,l,ps,c.asg,c.b⟩ b lL s1 G'->aL ⟨H0,E,G'⟩ H' [] -> ∃ st pe,H'[lL]?=some (.raw (iN b ⟨N,l,ps,c.asg,c.b⟩ st pe))/\st ≠ .busy /\
      (match pe with
       | none=>Cl N Q .normal (Env.ofL l) (H'.set lL .dead) ds
       | some c'=>AWP P (some b0) N c' (Env.ofL l) (H'.set lL .dead) ds Q)):AWP P (some b0) N c (Env.ofL l) H ds Q:=by
  refine aFW h0 hk hf hps fun b=>?_;have o1:=hO.NP.UN (.raw (iN b ⟨N,l,ps,c.asg,c.b⟩ .ready none));refine (hit b H.length _ _ (hi b H.length) o1.gok).mono ?_;rintro x H' ⟨_,G',hi',hst⟩;exact hend b H.length H' G' hi' (o1.WW hst)

theorem SI {H0:bF}{E:List Nat}{lL:Nat}{s:eN}{G:Gs}{L:List (Nat×Nat×List V)}(h:aL ⟨H0,E,(lL,s)::(up L++G)⟩ H []) :
    H[lL]?=some s/\aL ⟨H0,E,G⟩ (H.set lL .dead) L:=by
  refine⟨(h.gm 0 _ rfl).2,?_⟩;exact (h.qE .dead).qS.take

end Go.Abs
namespace Go.Abs
open Go Go.RowKit
theorem aIc {n:Nat}{el el':Nat->V}(h:∀ i,i<n->aQ (el i) (el' i))(hn:∀ i,i<n->gQ (el' i)=true):aQ (.sl false n el) (.sl false n el'):=by
  intro g w v hv
  cases hv with
  | sl0 z el a cap hz=>exact .sl0 _ _ _ _ (by simp)
  | sl n el b o k cap c h1 h2 h3 h4 h5 h6=>exact .sl n _ b o k cap c (fun i hi=>h i hi g w _ (h1 i hi)) h2 h3 h4 h5 hn

theorem aHO {α:Type}[Inhabited α]{e:α->V}{xs:List V}{l:List α}(h:rJ xs (l.map e))(hn:(l.map e).all gQ=true):aQ (eB xs) (eL e l):=by
  intro g w v hv;refine QH g w v ?_;have hlen:=h.len
  cases xs with
  | nil =>
    cases l with
    | nil=>exact hv
    | cons a s=>simp at hlen
  | cons x r =>
    cases l with
    | nil=>simp at hlen
    | cons a s =>
      have hl:r.length=(s.map e).length:=by simpa using hlen
      show Rep g w (.sl false ((s.map e).length+1) (fun i=>(e a::s.map e).getD i .bad)) v;rw [←hl];refine aIc (fun i hi=>?_) (fun i hi=>?_) g w v hv
      · have h1:i<(x::r).length:=by simpa using hi
        have h2:i<(e a::s.map e).length:=by simp only [List.length_cons]; omega
        have h3:(x::r).getD i .bad=(x::r)[i]:=by simp only [List.getD_eq_getElem?_getD,List.getElem?_eq_getElem h1,Option.getD_some]
        have h4:(e a::s.map e).getD i .bad=(e a::s.map e)[i]:=by simp only [List.getD_eq_getElem?_getD,List.getElem?_eq_getElem h2,Option.getD_some]
        rw [h3,h4];exact h.get i _ _ (List.getElem?_eq_getElem h1) (List.getElem?_eq_getElem h2)
      · have h2:i<(e a::s.map e).length:=by simp only [List.length_cons]; omega
        have h4:(e a::s.map e).getD i .bad=(e a::s.map e)[i]:=by simp only [List.getD_eq_getElem?_getD,List.getElem?_eq_getElem h2,Option.getD_some]
        rw [h4];exact List.all_eq_true.1 hn (e a::s.map e)[i] (List.getElem_mem h2)

def wB:Option Nat->V
  | none=>.lit (.pointer none)
  | some a=>.lp a 0 0

section bundles
variable {β:Type} (sh:Nat->Nat->β->OL)
def pmM:List (Nat×Nat)->List (Int×β)->List (Int×Option Nat)
  | q::los,p::m=>(p.1,some q.1)::pmM los m
  | _,_=>[]

def pmL:List (Nat×Nat)->List (Int×β)->OL
  | q::los,p::m=>sh q.1 q.2 p.2++pmL los m
  | _,_=>[]

def pmG (lm:Nat)(los:List (Nat×Nat))(m:List (Int×β)):Gs:=(lm,rO wB (pmM los m))::up (pmL sh los m)

variable {sh}
theorem XL:∀ {los:List (Nat×Nat)} {m:List (Int×β)},los.length=m.length->(pmM los m).length=m.length
  | [],[],_=>rfl
  | _::_,_::_,h=>by simp only [pmM,List.length_cons]; rw [XL (by simpa using h)]
  | [],_::_,h=>by simp at h
  | _::_,[],h=>by simp at h

theorem aDR {k:Int}:∀ {los:List (Nat×Nat)} {m:List (Int×β)},hY m k=none->hY (pmM los m) k=none
  | [],[],_=>rfl
  | [],_::_,_=>rfl
  | _::_,[],_=>rfl
  | q::los,p::m,h=>by
    rw [hY] at h;split at h
    · cases h
    · rename_i hk
      rw [pmM,hY,if_neg hk,aDR h]

def Put (sh:Nat->Nat->β->OL)(m:List (Int×β))(k:Int)(a:Nat)(MM:List (Int×Option Nat))(R:OL):Prop :=
  ∀ b' p',∃ los',los'.length=(fX m k p').length/\MM=pmM los' (fX m k p')/\(sh a b' p'++R).Perm (pmL sh los' (fX m k p'))

theorem aBp {k:Int}{x:β}:∀ {los:List (Nat×Nat)} {m:List (Int×β)},los.length=m.length->hY m k=some x ->
    ∃ a b R,hY (pmM los m) k=some (some a)/\(pmL sh los m).Perm (sh a b x++R)/\Put sh m k a (pmM los m) R
  | [],[],_,h=>by cases h
  | [],_::_,h,_=>by simp at h
  | _::_,[],h,_=>by simp at h
  | q::los,p::m,hl,h=>by
    rw [hY] at h;by_cases hk:p.1=k
    · rw [if_pos hk] at h
      cases h
      refine⟨q.1,q.2,pmL sh los m,by rw [pmM,hY,if_pos hk],List.Perm.refl _,fun b' p'=>⟨(q.1,b')::los,?_,?_,?_⟩⟩
      · simp only [fX,if_pos hk]; simpa using hl
      · simp only [fX,if_pos hk]; simp only [pmM,hk]
      · simp only [fX,if_pos hk,pmL]; exact List.Perm.refl _
    · rw [if_neg hk] at h;obtain⟨a,b,R,h1,h2,h3⟩:=aBp (los:=los) (m:=m) (by simpa using hl) h;refine⟨a,b,sh q.1 q.2 p.2++R,by rw [pmM,hY,if_neg hk,h1],?_,fun b' p'=>?_⟩
      · rw [pmL];refine (List.Perm.append_left _ h2).trans ?_;rw [←List.append_assoc,←List.append_assoc];exact List.Perm.append_right _ List.perm_append_comm
      · obtain⟨los',e1,e2,e3⟩:=h3 b' p';refine⟨q::los',?_,?_,?_⟩
        · simp only [fX,if_neg hk,List.length_cons,e1]
        · simp only [fX,if_neg hk,pmM,e2]
        · simp only [fX,if_neg hk,pmL];refine List.Perm.trans ?_ (List.Perm.append_left _ e3);rw [←List.append_assoc,←List.append_assoc];exact List.Perm.append_right _ List.perm_append_comm

theorem aFp {k:Int}{a:Nat}:∀ {los:List (Nat×Nat)} {m:List (Int×β)},los.length=m.length->hY m k=none->Put sh m k a (fX (pmM los m) k (some a)) (pmL sh los m)
  | [],[],_,_=>fun b' p'=>⟨[(a,b')],rfl,rfl,by simp [fX,pmL]⟩
  | [],_::_,h,_=>by simp at h
  | _::_,[],h,_=>by simp at h
  | q::los,p::m,hl,h=>by
    rw [hY] at h;split at h
    · cases h
    · rename_i hk
      intro b' p';obtain⟨los',e1,e2,e3⟩:=aFp (a:=a) (los:=los) (m:=m) (by simpa using hl) h b' p';refine⟨q::los',?_,?_,?_⟩
      · simp only [fX,if_neg hk,List.length_cons,e1]
      · simp only [pmM,fX,if_neg hk,e2]
      · simp only [fX,if_neg hk,pmL];refine List.Perm.trans ?_ (List.Perm.append_left _ e3);rw [←List.append_assoc,←List.append_assoc];exact List.Perm.append_right _ List.perm_append_comm

theorem HL (A B:OL):up (A++B)=up A++up B:=by simp [up]

theorem aL.aHj {H0:bF}{E:List Nat}{G:Gs}{H:bF}{L R:OL}(h:aL ⟨H0,E,up R++G⟩ H L):aL ⟨H0,E,G⟩ H (R++L):=by
  have h1:aL ⟨H0,E,G⟩ H (L++R):=aL.glue (F:=⟨H0,E,G⟩) h;have h2:=h1.NP;exact (h2.sA (G':=up (R++L)++G) (List.Perm.append_right _ (by rw [HL,HL]; exact List.perm_append_comm))).take

theorem aL.aHi {H0:bF}{E:List Nat}{G:Gs}{H:bF}{L R:OL}(h:aL ⟨H0,E,G⟩ H (R++L)):aL ⟨H0,E,up R++G⟩ H L:=by
  have h2:=h.NP;have h3:aL ⟨H0,E,G⟩ H (L++R):=(h2.sA (G':=up (L++R)++G) (List.Perm.append_right _ (by rw [HL,HL]; exact List.perm_append_comm))).take;exact aL.part (F:=⟨H0,E,G⟩) h3

theorem aL.aEk {H0:bF}{E:List Nat}{H:bF}{L:OL}:∀ {G:Gs},aL ⟨H0,E,G⟩ H L->aL ⟨H0,E,[]⟩ H L
  | [],h=>h
  | _::_,h=>aL.aEk h.qS

theorem aL.focus {H0:bF}{E:List Nat}{G:Gs}{H:bF}{L:OL}{lm:Nat}{los:List (Nat×Nat)}{m:List (Int×β)}{k:Int}{x:β}(h:aL ⟨H0,E,pmG sh lm los m++G⟩ H L)(hl:los.length=m.length)(hg:hY m k=some x) :
    ∃ a b R,hY (pmM los m) k=some (some a)/\Put sh m k a (pmM los m) R/\aL ⟨H0,E,(lm,rO wB (pmM los m))::(up R++G)⟩ H (sh a b x++L):=by
  obtain⟨a,b,R,h1,h2,h3⟩:=aBp (sh:=sh) hl hg;refine⟨a,b,R,h1,h3,?_⟩
  have : (pmG sh lm los m++G).Perm (up (sh a b x)++((lm,rO wB (pmM los m))::(up R++G))):=by
    unfold pmG;refine List.Perm.trans ?_ List.perm_middle.symm;refine List.Perm.cons _ ?_;rw [←List.append_assoc,←HL];exact List.Perm.append_right _ (h2.map _)
  exact (h.sA this).aHj

theorem aL.aDy {H0:bF}{E:List Nat}{G:Gs}{H:bF}{L R:OL}{lm a b:Nat}{MM:List (Int×Option Nat)}{m:List (Int×β)}{k:Int}{x:β}(h:aL ⟨H0,E,(lm,rO wB MM)::(up R++G)⟩ H (sh a b x++L))(hp:Put sh m k a MM R) :
    ∃ los',los'.length=(fX m k x).length/\aL ⟨H0,E,pmG sh lm los' (fX m k x)++G⟩ H L:=by
  obtain⟨los',e1,e2,e3⟩:=hp b x;refine⟨los',e1,?_⟩;have h1:=h.aHi;refine h1.sA ?_;unfold pmG;refine List.perm_middle.trans ?_;rw [e2];refine List.Perm.cons _ ?_;rw [←List.append_assoc,←HL];exact List.Perm.append_right _ (e3.map _)

theorem SZ {P:Program} {ro:Option Nat} {N:Nat} {c:Code} {T:Env} {ds:List Nat} {Q:Exit->Env->bF->List Nat->Prop} {α:Type} [Inhabited α] {H0:bF} {E:List Nat} (k k2 j:Nat) (cs:Nat->β->List V) (rows:β->List α) (e:α->V) (sf:β->V)
    (hsh:∀ a b p,sh a b p=[(a,k,[.agg (cs b p)]),(b,k2,(rows p).map e)]) (hj:∀ b p,(cs b p)[j]?=some (.msl k2 b 0 (rows p).length)) (hsf:∀ b p,V.agg ((cs b p).set j (eL e (rows p)))=sf p) :
    ∀ (m:List (Int×β)) (los:List (Nat×Nat)) {G:Gs} {H:bF} {L:OL},los.length=m.length->aL ⟨H0,E,up (pmL sh los m)++G⟩ H L ->
      (∀ H',aL ⟨H0,E,up (pmL (fun a _ p=>[(a,k,[sf p])]) los m)++G⟩ H' L->AWP P ro N c T H' ds Q)->AWP P ro N c T H ds Q
  | [],[],G,H,L,_,hO,h=>h H hO
  | [],_::_,_,_,_,hl,_,_=>by simp at hl
  | _::_,[],_,_,_,hl,_,_=>by simp at hl
  | p::m,q::los,G,H,L,hl,hO,h=>by
    rw [pmL,HL,List.append_assoc] at hO;have h1:=hO.aHj;rw [hsh] at h1;refine GZ (e:=e) (rows p.2) 0 1 k k2 q.1 q.2 (rows p.2).length j (cs q.2 p.2) ((q.1,k,[sf p.2])::L) h1 rfl (hj _ _) rfl rfl rfl (by rw [←hsf q.2 p.2]; rfl) fun H' hO'=>?_;have h2:=aL.aHi (R:=[(q.1,k,[sf p.2])]) (L:=L) hO'
    have h3:aL ⟨H0,E,up (pmL sh los m)++(up [(q.1,k,[sf p.2])]++G)⟩ H' L:=h2.sA (by
      rw [←List.append_assoc,←List.append_assoc]; exact List.Perm.append_right _ List.perm_append_comm)
    refine SZ k k2 j cs rows e sf hsh hj hsf m los (by simpa using hl) h3 fun H'' hO''=>h H'' ?_;refine hO''.sA ?_;rw [pmL,HL,←List.append_assoc];exact List.Perm.append_right _ List.perm_append_comm

end bundles
def aGD:V->Option Bool
  | .lit (.pointer none)=>some true
  | .lp _ _ _=>some false
  | _=>none

section nils
variable {P:Program} {tt:TT} {N:Nat} {T:Env} {H:bF} {ops:Array Oper} {K:Env->bF->Prop} {i n:Nat}
theorem aA8 {K:V->bF->Prop}{op:BinOp}{t e u:TypeId}{x y:Operand}{z:V}{b:Bool}(hop:op=.eql∨op=.neq)(hu:P.underlying t=some (.pointer e))(hz:aGD z=some b)(h:K (.lit (.bool (if op=.eql then b else !b))) H):JZ P (.binOp op t x y u) [z,.lit (.pointer none)] H K:=by
  intro ro o a g w next R ho hs hx hn;have r1:=hx.2 0 z (a.eval x) rfl (by simp [Op.operands]);have r2:=hx.2 1 (.lit (.pointer none)) (a.eval y) rfl (by simp [Op.operands]);have e2:a.eval y=.pointer none:=r2.nJ
  have e1:∃ ad,a.eval x=.pointer ad/\ad.isNone=b:=by
    unfold aGD at hz;split at hz
    · simp at hz; subst hz; exact ⟨none,r1.nJ,rfl⟩
    · simp at hz; subst hz; obtain ⟨_,h2⟩:=r1.lpE; exact ⟨_,h2,rfl⟩
    · cases hz
  obtain⟨ad,e1,e3⟩:=e1
  have hq:(Op.equal t (.pointer ad) (.pointer none)).run P w=.ok b w:=by
    unfold Op.equal Op.maxDepth;unfold Op.equalIn;simp only [Sem.run_bind,run_underlying hu,Result.andThen]
    cases ad with
    | none=>subst e3; rfl
    | some ad=>subst e3; rfl
  have hr:(execOp a.eval o).run P w=.ok (.value (.bool (if op=.eql then b else !b))) w:=by
    cases o
    simp only at ho;subst ho;rcases hop with rfl | rfl
    · have h1:(eqGuard .eql t x y (.pointer ad) (.pointer none)).run P w=.ok () w:=rfl
      have h2:(binOp .eql t (.pointer ad) (.pointer none)).run P w=.ok (.bool b) w:=by
        simp only [binOp,Sem.run_bind,hq,Result.andThen]; rfl
      simp [execOp,e1,e2,h1,h2,Result.andThen]
    · have h1:(eqGuard .neq t x y (.pointer ad) (.pointer none)).run P w=.ok () w:=rfl
      have h2:(binOp .neq t (.pointer ad) (.pointer none)).run P w=.ok (.bool (!b)) w:=by
        simp only [binOp,Sem.run_bind,hq,Result.andThen]; rfl
      simp [execOp,e1,e2,h1,h2,Result.andThen]
  exact fG (fun c e=>by rw [e] at ho; cases ho) hr (hn _ _ _ _ _ h hs (.lit _ rfl) (Ext.refl g w))

def aHh (P:Program)(t:TypeId):Bool:=match P.underlying t with
  | some (.pointer _)=>true
  | _=>false

def aEV (P:Program)(N:Nat)(ops:Array Oper)(T:Env)(i:Nat):Option Bool:=match gP N ops i with
  | some (.binOp op t x y _)=>match aHh P t,cU T [] x,cU T [] y with
    | true,some z,some (.lit (.pointer none))=>match aGD z,op with
      | some b,.eql=>some b
      | some b,.neq=>some (!b)
      | _,_=>none
    | _,_,_=>none
  | _=>none

theorem aBx (b:Bool) (h:RWs P tt N ops (aP (i+1) n) (T.cE (dH ops i) ([],.lit (.bool b))) H K)
    (hs:aP i n=i::aP (i+1) n:=by kernel_rfl) (hd:aEV P N ops T i=some b:=by kernel_rfl):RWs P tt N ops (aP i n) T H K:=by
  unfold aEV at hd;split at hd
  · rename_i op t x y u hp
    split at hd
    · rename_i z hi hx hy
      unfold aHh at hi;split at hi
      · rename_i e hu
        split at hd
        · rename_i b' hz
          simp at hd; subst hd;exact AO hs hp (xs:=[z,.lit (.pointer none)]) (by simp [Op.operands,iX,hx,hy]) (aA8 (.inl rfl) hu hz (by simpa using h))
        · rename_i b' hz
          simp at hd; subst hd;exact AO hs hp (xs:=[z,.lit (.pointer none)]) (by simp [Op.operands,iX,hx,hy]) (aA8 (.inr rfl) hu hz (by simpa using h))
        · cases hd
      · cases hi
    · cases hd
  · cases hd

end nils
theorem SR.aHR {g:Gh}{w:World}{H:bF}(h:SR g w H){l:Nat}{s s':Sp}(hl:H[l]?=some (.raw s))(hs:∀ g w b o,s.p g w b o->s'.p g w b o):SR g w (H.set l (.raw s')):=by
  have hlt:l<H.length:=(List.getElem?_eq_some_iff.1 hl).1
  have hat:∀ l' ob,(H.set l (.raw s'))[l']?=some ob->(l'=l/\ob=.raw s')∨(l'≠l/\H[l']?=some ob):=by
    intro l' ob hl';rw [List.getElem?_set] at hl';split at hl'
    · rename_i heq
      simp [heq ▸ hlt] at hl';exact .inl ⟨heq.symm,hl'.symm⟩
    · rename_i hne; exact .inr ⟨fun e=>hne e.symm,hl'⟩
  refine { len:=by simp [h.len],fxc:=h.fxc,nt:=?_,kk:=?_,vec:=?_,raw:=?_,disj:=?_,rawd:=?_ }
  · intro l' k1 es1 hl1;rcases hat _ _ hl1 with ⟨_,he⟩ | ⟨_,hl2⟩
    · cases he
    · exact h.nt l' k1 es1 hl2
  · intro l' k1 es1 hl1;rcases hat _ _ hl1 with ⟨_,he⟩ | ⟨_,hl2⟩
    · cases he
    · exact h.kk l' k1 es1 hl2
  · intro l' k1 es1 hl1;rcases hat _ _ hl1 with ⟨_,he⟩ | ⟨_,hl2⟩
    · cases he
    · exact h.vec l' k1 es1 hl2
  · intro l' s1 hl1;rcases hat _ _ hl1 with ⟨rfl,he⟩ | ⟨_,hl2⟩
    · cases he
      obtain⟨o,q1,q2,q3⟩:=h.raw l' _ hl;exact⟨o,q1,q2,hs _ _ _ _ q3⟩
    · exact h.raw l' s1 hl2
  · intro a b k1 k2 es1 es2 ha hb2 hne;rcases hat _ _ ha with ⟨_,he⟩ | ⟨_,ha2⟩
    · cases he
    · rcases hat _ _ hb2 with ⟨_,he⟩ | ⟨_,hb3⟩
      · cases he
      · exact h.disj _ _ _ _ _ _ ha2 hb3 hne
  · intro a b s1 s2 ha hb2 hne;rcases hat _ _ ha with ⟨rfl,_⟩ | ⟨_,ha2⟩ <;> rcases hat _ _ hb2 with ⟨rfl,_⟩ | ⟨_,hb3⟩
    · exact absurd rfl hne
    · exact h.rawd _ _ _ _ hl hb3 hne
    · exact h.rawd _ _ _ _ ha2 hl hne
    · exact h.rawd _ _ _ _ ha2 hb3 hne

theorem aFF {N:Nat} {Q:Exit->Env->bF->List Nat->Prop} {ds:List Nat} {e:Exit} {T:Env} {H H0:bF} {E:List Nat} {G:Gs} {L:OL} {β:Type} {f:β->V} {m:List (Int×β)} {bs:List Nat} {l clock:Nat} (hO:aL ⟨H0,E,(l,LP f m bs clock)::G⟩ H L)
    (h:∀ H',aL ⟨H0,E,(l,rO f m)::G⟩ H' L->Cl N Q e T H' ds):Cl N Q e T H ds :=
  GS (fun g w _ _ hg=>⟨g,⟨hg.sr.aHR (hO.gm 0 _ rfl).2 (s':=JV dI (xQ f m)) fun _ _ _ _ ⟨es,h1,_,h3,h4,h5⟩=>⟨es,clock,h1,h3,h4,h5⟩,hg.tr,hg.df,hg.dl,hg.sz⟩,Ext.refl g w⟩) (h _ (hO.qE _))

theorem WY {S β:Type}(g:S->Int->Option S):∀ (q:List (Int×β)) (s:S),dL (fun s (x:Int×β)=>g s x.1) s q=dL g s (q.map (·.1))
  | [],_=>rfl
  | x::q,s=>by
    simp only [dL,List.map_cons]
    cases g s x.1 with
    | none=>rfl
    | some s'=>exact WY g q s'

theorem aCp {β:Type}:∀ {los:List (Nat×Nat)} {m:List (Int×β)},los.length=m.length->(pmM los m).map (·.1)=m.map (·.1)
  | [],[],_=>rfl
  | _::_,_::_,h=>by simp only [pmM,List.map_cons]; rw [aCp (by simpa using h)]
  | [],_::_,h=>by simp at h
  | _::_,[],h=>by simp at h

theorem aH6 {S R β:Type}{g:S->Int->Option S}{after:S->Option R}{s:S}{r:R}{los:List (Nat×Nat)}{m:List (Int×β)}(hl:los.length=m.length)(h:xP (m.map (·.1)) (fun q=>(dL g s q).bind after)=some r) :
    xP (pmM los m) (fun q=>(dL (fun s (x:Int×Option Nat)=>g s x.1) s q).bind after)=some r :=
  PM fun q hq=>by
    rw [WY];exact aAs h _ (by rw [←aCp hl]; exact hq.map _)

theorem ZD {β:Type}{k:Int}{x:β}:∀ {m:List (Int×β)},hY m k=some x->fX m k x=m
  | [],h=>by cases h
  | p::m,h=>by
    rw [hY] at h;by_cases hk:p.1=k
    · rw [if_pos hk] at h; cases h;rw [fX,if_pos hk,←hk]
    · rw [if_neg hk] at h;simp only [fX,if_neg hk,ZD h]

end Go.Abs
namespace Go.Abs
open Go Go.RowKit
section
variable {P:Program} {tt:TT} {ro:Option Nat} {N:Nat} {T:Env} {H:bF} {ds:List Nat} {Q:Exit->Env->bF->List Nat->Prop} {ops:Array Oper} {K:Env->bF->Prop} {i n:Nat}
theorem aX {l:List (Nat×V)}(h:l.map (fun p=>T p.1)=l.map (fun p=>some ([],p.2)):=by kernel_rfl):Has T l:=.eq h

theorem eX {c:Code} {S R:Type} {body:S->Option (S⊕R)} {s:S} {r:R} (I:S->Env->bF->Prop) (hl:lp body s=some r) (h0:I s T H)
    (round:∀ k s out T H,I s T H->body s=some out->aEO body k r out->AWP P ro N c.b T H ds (xW (fun T' H' ds'=>ds'=ds /\ ∃ s',out=.inl s'/\I s' T' H') Q)) (hk:c.kind=4:=by kernel_rfl):AWP P ro N c T H ds Q:=aHN hk I hl h0 round

theorem kE (k:Nat)(z:V)(h:RWs P tt N ops (aP (i+1) n) (T.cE (dH ops i) ([],.rp z)) H K)(hs:aP i n=i::aP (i+1) n:=by kernel_rfl)(hd:xZ tt N ops T i=some (k,z):=by kernel_rfl):RWs P tt N ops (aP i n) T H K:=aIx k z hs hd h

theorem kH (xs:List V)(k:Nat)(h:RWs P tt N ops (aP (i+1) n) (T.cE (dH ops i) ([],eB xs)) H K)(hs:aP i n=i::aP (i+1) n:=by kernel_rfl)(hd:QD tt N ops T i=some (xs,k):=by kernel_rfl):RWs P tt N ops (aP i n) T H K:=aIX hs hd h

theorem uA {H0:Frame} {L:List (Nat×Nat×List V)} {α:Type} (e:α->V) (xs zs:List α) (q lo k bytes:Nat) (x:V) (L':Nat->List (Nat×Nat×List V)) (hO:aL H0 H L)
    (hy:vJ k H x=some (zs.map e)) (hb:(xs.length+zs.length)*bytes<=140737488355328/\xs.length+zs.length<=9223372036854775807)
    (h:∀ lo' H',aL H0 H' (L' lo')->RWs P tt N ops (aP (i+1) n) (T.cE (dH ops i) ([],.msl k lo' 0 (xs++zs).length)) H' K)
    (hs:aP i n=i::aP (i+1) n:=by kernel_rfl) (hd:IW tt N ops T i=some (.msl k lo 0 xs.length,x,k,bytes):=by kernel_rfl) (hL:L[q]?=some (lo,k,xs.map e):=by kernel_rfl) (hl:∀ lo',L' lo'=L.set q (lo',k,(xs++zs).map e):=by intro _; kernel_rfl):RWs P tt N ops (aP i n) T H K :=
  aHJ xs zs q lo k bytes x L' hs hd hO hL hy hb hl h

variable {TD:PE} {KD:PE->bF->Prop} {pl:Oper->Bool}
theorem qH {H0:Frame} {L:List (Nat×Nat×List V)} (q lo k ix:Nat) (y x:V) (es:List V) (hO:aL H0 H L) (hy:es[ix]?=some y) (h:RD P tt N pl ops (aP (i+1) n) (TD.cE (dH ops i) x) H KD)
    (hs:aP i n=i::aP (i+1) n:=by kernel_rfl) (hq:uZ pl ops i=true:=by kernel_rfl) (hd:UI tt N ops TD i y=some (lo,ix,x):=by kernel_rfl) (hL:L[q]?=some (lo,k,es):=by kernel_rfl):RD P tt N pl ops (aP i n) TD H KD:=aHM q lo k ix y x es hs hq hd hO hL hy h

end
section
variable {P:Program} {tt:TT} {N:Nat} {T:Env} {H:bF} {ops:Array Oper} {K:Env->bF->Prop} {i n:Nat}
end
section
variable {P:Program} {tt:TT} {N:Nat} {T:PE} {H:bF} {ops:Array Oper} {K:PE->bF->Prop} {i n:Nat} {pl:Oper->Bool}
end
section
variable {P:Program} {tt:TT} {N:Nat} {T:Env} {H:bF} {ds:List Nat} {Q:Exit->Env->bF->List Nat->Prop}
end
end Go.Abs
namespace Go.Abs
open Go
structure cC where
  Kind:Int
  Size:Int
  Hop:Int
  deriving Inhabited,DecidableEq

def JD (x:cC):List V:=[(dX .i64 x.Kind)]++[(dX .i64 x.Size)]++[(dX .i64 x.Hop)]

def cB (x:cC):V:=.agg (JD x)

structure aH where
  Kind:Int
  Num:Int
  Text:ByteArray
  deriving Inhabited,DecidableEq

def TB (x:aH):List V:=[(dX .i64 x.Kind)]++[(dX .i64 x.Num)]++[(GN x.Text)]

def aD (x:aH):V:=.agg (TB x)

structure aJ where
  Row:(List aH)
  At:Int
  Net:Int
  deriving Inhabited,DecidableEq

def VO (x:aJ):List V:=[(eL aD x.Row)]++[(dX .i64 x.At)]++[(dX .i64 x.Net)]

def aI (x:aJ):V:=.agg (VO x)

structure aM where
  At:Int
  Net:Int
  deriving Inhabited,DecidableEq

def aEy (x:aM):List V:=[(dX .i64 x.At)]++[(dX .i64 x.Net)]

def aR (x:aM):V:=.agg (aEy x)

inductive cA where
  | none_
  | k_number (x:Int)
  | k_words (x:ByteArray)
  deriving DecidableEq

instance : Inhabited cA:=⟨.none_⟩

def bV:cA->V
  | .none_=>.lit .nilIface
  | .k_number x=>.ifc 160 (dX .i64 x)
  | .k_words x=>.ifc 164 (GN x)

structure aU where
  From:Int
  To:Int
  deriving Inhabited,DecidableEq

def VG (x:aU):List V:=[(dX .i64 x.From)]++[(dX .i64 x.To)]

def bO (x:aU):V:=.agg (VG x)

structure bA where
  Row:(List aH)
  N:Int
  deriving Inhabited,DecidableEq

def aEN (x:bA):List V:=[(eL aD x.Row)]++[(dX .i64 x.N)]

def bB (x:bA):V:=.agg (aEN x)

structure aG where
  Span:aU
  Rows:(List bA)
  deriving Inhabited,DecidableEq

def aED (x:aG):List V:=VG x.Span++[(eL bB x.Rows)]

def aK (x:aG):V:=.agg (aED x)

structure cP where
  row:(List aH)
  jumps:(List aM)
  deriving Inhabited,DecidableEq

def aCF (x:cP):List V:=[(eL aD x.row)]++[(eL aR x.jumps)]

def cR (x:cP):V:=.agg (aCF x)

def FU (l0:(List aJ)):Option Bool :=
  some (decide (((List.length l0:Nat):Int)<=(60:Int)))

def wO (l0:(List aJ))(i3:Int):Option ((Int)⊕(Unit⊕Bool)) :=
  cond ((decide (i3<((List.length l0:Nat):Int)))&&(decide (i3<=(60:Int))))
  (bG (0<=i3/\i3<((List.length l0:Nat):Int)) <|
  cond (decide ((10:Int)<((List.getD l0 (Int.toNat i3) default).Net)))
  (some (.inr (.inr false)))
  (some (.inl (IntKind.i64.wrap (i3+(1:Int))))))
  (some (.inr (.inl ())))

def FB (l0:(List aJ))(i3:Int):Option Bool :=
  (lp (fun s=>wO l0 s) i3).bind (Sum.elim (fun rr=>FU l0) (fun rr=>some rr))

def DE (l0:(List aJ)):Option Bool :=
  FB l0 (0:Int)

def tJ (n0:Int):Option Bool :=
  some ((decide ((1:Int)<=n0))&&(decide (n0<=(1099511627776:Int))))

def mH (ok4:Bool):Option Int :=
  cond (!ok4)
  (some (2:Int))
  (some (0:Int))

def sW (w0:cC):Option Int :=
  cond (decide (w0.Kind=(1:Int)))
  (mH ((decide (w0.Size=(0:Int)))&&(decide (w0.Hop=(0:Int)))))
  (cond (decide (w0.Kind=(2:Int)))
  ((tJ w0.Size).bind fun x4 =>
  (cW x4 (tJ w0.Hop)).bind fun x7 =>
  mH (x4&&x7))
  (cond (decide (w0.Kind=(3:Int)))
  (mH (((decide ((1:Int)<=w0.Size))&&(decide (w0.Size<=(64:Int))))&&(decide (w0.Hop=(0:Int)))))
  (mH false)))

def zQ (l0:(List aJ)):Option ((List aJ)) :=
  some l0

def jB  : Option Bool :=
  some true

def gO (s10:(List aH))(s21:(List aH))(t12:Int)(t13:Int):Option ((Int)⊕(Unit⊕Bool)) :=
  cond (decide (t13<t12))
  (bG (0<=t13/\t13<((List.length s10:Nat):Int)) <|
  bG (0<=t13/\t13<((List.length s21:Nat):Int)) <|
  cond (!((decide (((List.getD s10 (Int.toNat t13) default).Kind)=((List.getD s21 (Int.toNat t13) default).Kind)))&&((decide (((List.getD s10 (Int.toNat t13) default).Num)=((List.getD s21 (Int.toNat t13) default).Num)))&&((qT ((List.getD s10 (Int.toNat t13) default).Text) ((List.getD s21 (Int.toNat t13) default).Text))&&true))))
  (some (.inr (.inr false)))
  (some (.inl (IntKind.i64.wrap (t13+(1:Int))))))
  (some (.inr (.inl ())))

def lH (s10:(List aH))(s21:(List aH))(t12:Int)(t13:Int):Option Bool :=
  (lp (fun s=>gO s10 s21 t12 s) t13).bind (Sum.elim (fun rr=>jB ) (fun rr=>some rr))

def gV (s10:(List aH))(s21:(List aH)):Option Bool :=
  cond (!decide (((List.length s10:Nat):Int)=((List.length s21:Nat):Int)))
  (some false)
  (lH s10 s21 ((List.length s10:Nat):Int) (0:Int))

def uQ (a0:(List aH))(b1:(List aH)):Option Bool :=
  (gV a0 b1).bind fun x1 =>
  some x1

def BZ (r0:(List aH)):Option (List aH) :=
  bG (0<=((List.length r0:Nat):Int)/\(32:Int)*((List.length r0:Nat):Int)<=281474976710656/\((List.length r0:Nat):Int)<=9223372036854775807) <|
  bG ((List.length ([]:List aH)+List.length r0)*32<=140737488355328/\List.length ([]:List aH)+List.length r0<=9223372036854775807) <|
  some (([]:List aH)++r0)

def tF {σ:Type}(cY:σ->(List aH)->(List aM)->Option (σ×Bool))(sg:σ)(t1:(List aJ))(i3:Int)(r4:(List aH))(f5:List aM):Option ((σ×Int)⊕(σ⊕σ)) :=
  (BZ r4).bind fun x7 =>
  (cY sg x7 f5).bind fun x10 =>
  cond (!x10.2)
  (some (.inr (.inr x10.1)))
  (some (.inl (x10.1,i3)))

def lO {σ:Type}(cY:σ->(List aH)->(List aM)->Option (σ×Bool))(t1:(List aJ))(r4:(List aH))(sg:σ)(i3:Int)(f5:List aM):Option ((σ×Int×List aM)⊕((σ×Int×List aM))) :=
  bG ((((decide (i3<((List.length t1:Nat):Int))))=true->0<=i3/\i3<((List.length t1:Nat):Int))) <|
  (cW (decide (i3<((List.length t1:Nat):Int))) (uQ ((List.getD t1 (Int.toNat i3) default).Row) r4)).bind fun x16 =>
  cond ((decide (i3<((List.length t1:Nat):Int)))&&x16)
  (bG (0<=i3/\i3<((List.length t1:Nat):Int)) <|
  bG (0<=i3/\i3<((List.length t1:Nat):Int)) <|
  bG ((List.length f5+List.length ([aM.mk ((List.getD t1 (Int.toNat i3) default).At) ((List.getD t1 (Int.toNat i3) default).Net)]))*16<=140737488355328/\List.length f5+List.length ([aM.mk ((List.getD t1 (Int.toNat i3) default).At) ((List.getD t1 (Int.toNat i3) default).Net)])<=9223372036854775807) <|
  some (.inl (sg,IntKind.i64.wrap (i3+(1:Int)),f5++([aM.mk ((List.getD t1 (Int.toNat i3) default).At) ((List.getD t1 (Int.toNat i3) default).Net)]))))
  (some (.inr (sg,i3,f5)))

def xM {σ:Type}(cY:σ->(List aH)->(List aM)->Option (σ×Bool))(sg:σ)(t1:(List aJ))(i3:Int)(r4:(List aH))(f5:List aM):Option ((σ×Int)⊕(σ⊕σ)) :=
  (lp (fun s=>lO cY t1 r4 s.1 s.2.1 s.2.2) (sg,i3,f5)).bind (fun rr=>tF cY rr.1 t1 rr.2.1 r4 rr.2.2)

def kI {σ:Type}(cY:σ->(List aH)->(List aM)->Option (σ×Bool))(t1:(List aJ))(sg:σ)(i3:Int):Option ((σ×Int)⊕(σ⊕σ)) :=
  cond (decide (i3<((List.length t1:Nat):Int)))
  (bG (0<=i3/\i3<((List.length t1:Nat):Int)) <|
  xM cY sg t1 i3 ((List.getD t1 (Int.toNat i3) default).Row) ([]:List aM))
  (some (.inr (.inl sg)))

def xN {σ:Type}(cY:σ->(List aH)->(List aM)->Option (σ×Bool))(sg:σ)(t1:(List aJ))(i3:Int):Option σ :=
  (lp (fun s=>kI cY t1 s.1 s.2) (sg,i3)).bind (Sum.elim (fun rr=>some rr) (fun rr=>some rr))

def rI {σ:Type}(cY:σ->(List aH)->(List aM)->Option (σ×Bool))(t1:(List aJ))(sg0:σ):Option σ :=
  xN cY sg0 t1 (0:Int)

def hU (f1:aH->Option Bool)  : Option Int :=
  some (-1:Int)

def jQ (f1:aH->Option Bool)(s0:(List aH))(t7:Int)(t8:Int):Option ((Int)⊕(Unit⊕Int)) :=
  cond (decide (t8<t7))
  (bG (0<=t8/\t8<((List.length s0:Nat):Int)) <|
  (f1 (List.getD s0 (Int.toNat t8) default)).bind fun x3 =>
  cond x3
  (some (.inr (.inr t8)))
  (some (.inl (IntKind.i64.wrap (t8+(1:Int))))))
  (some (.inr (.inl ())))

def jR (f1:aH->Option Bool)(s0:(List aH))(t7:Int)(t8:Int):Option Int :=
  (lp (fun s=>jQ f1 s0 t7 s) t8).bind (Sum.elim (fun rr=>hU f1 ) (fun rr=>some rr))

def kA (s0:(List aH))(f1:aH->Option Bool):Option Int :=
  jR f1 s0 ((List.length s0:Nat):Int) (0:Int)

def gK (s0:(List aH))(f1:aH->Option Bool):Option Bool :=
  (kA s0 f1).bind fun x1 =>
  some (decide ((0:Int)<=x1))

def oD (v0:aH):Option (cA×Bool) :=
  cond ((decide (v0.Kind=(1:Int)))&&(qT v0.Text (⟨#[]⟩:ByteArray)))
  (some (cA.k_number v0.Num,true))
  (cond (((decide (v0.Kind=(2:Int)))&&(decide (v0.Num=(0:Int))))&&(decide (((ByteArray.size v0.Text:Nat):Int)<=(64:Int))))
  (some (cA.k_words v0.Text,true))
  (some (cA.none_,false)))

def DG (v0:aH):Option Bool :=
  (oD v0).bind fun (x1_0,x1_1) =>
  match x1_0 with
  | .none_=>(some x1_1)
  | .k_number y4=>(some x1_1)
  | .k_words y5=>(some x1_1)

def CV (v0:aH):Option Bool :=
  (DG v0).bind fun x1 =>
  some (!x1)

def AZ (r0:(List aH)):Option Bool :=
  cond (decide ((8:Int)<((List.length r0:Nat):Int)))
  (some false)
  ((gK r0 (fun y0=>CV y0)).bind fun x2 =>
  some (!x2))

def AM (t0:(List aH)):Option ((Int×(List aH))) :=
  some ((-1:Int),t0)

def gL {σ:Type}(f1:σ->aH->Option (σ×Bool))(sg:σ):Option (σ×Int) :=
  some (sg,(-1:Int))

def dJ {σ:Type}(f1:σ->aH->Option (σ×Bool))(s0:(List aH))(t7:Int)(sg:σ)(t8:Int):Option ((σ×Int)⊕(σ⊕(σ×Int))) :=
  cond (decide (t8<t7))
  (bG (0<=t8/\t8<((List.length s0:Nat):Int)) <|
  (f1 sg (List.getD s0 (Int.toNat t8) default)).bind fun x3 =>
  cond x3.2
  (some (.inr (.inr (x3.1,t8))))
  (some (.inl (x3.1,IntKind.i64.wrap (t8+(1:Int))))))
  (some (.inr (.inl sg)))

def jK {σ:Type}(f1:σ->aH->Option (σ×Bool))(sg:σ)(s0:(List aH))(t7:Int)(t8:Int):Option (σ×Int) :=
  (lp (fun s=>dJ f1 s0 t7 s.1 s.2) (sg,t8)).bind (Sum.elim (fun rr=>gL f1 rr) (fun rr=>some (rr.1,rr.2)))

def jN {σ:Type}(s0:(List aH))(f1:σ->aH->Option (σ×Bool))(sg0:σ):Option (σ×Int) :=
  jK f1 sg0 s0 ((List.length s0:Nat):Int) (0:Int)

def mA (v0:aH)(t1:Int)(t2:(List aH)):Option (Bool×Int) :=
  bG (0<=(IntKind.i64.wrap (t1+(1:Int)))/\(IntKind.i64.wrap (t1+(1:Int)))<((List.length t2:Nat):Int)) <|
  some ((!((decide (v0.Kind=((List.getD t2 (Int.toNat (IntKind.i64.wrap (t1+(1:Int)))) default).Kind)))&&((decide (v0.Num=((List.getD t2 (Int.toNat (IntKind.i64.wrap (t1+(1:Int)))) default).Num)))&&((qT v0.Text ((List.getD t2 (Int.toNat (IntKind.i64.wrap (t1+(1:Int)))) default).Text))&&true)))),(IntKind.i64.wrap (t1+(1:Int))))

def mJ (x0:Int):Option Bool :=
  some (!decide (x0=x0))

def rW (x0:Int)(y1:Int):Option Int :=
  (mJ x0).bind fun x1 =>
  (mJ y1).bind fun x4 =>
  cond x1
  (cond x4
  (some (0:Int))
  (some (-1:Int)))
  (cond x4
  (some (1:Int))
  (cond (decide (x0<y1))
  (some (-1:Int))
  (cond (decide (y1<x0))
  (some (1:Int))
  (some (0:Int)))))

def mZ (x0:Int):Option Bool :=
  some (!decide (x0=x0))

def iJ (x0:Int)(y1:Int):Option Int :=
  (mZ x0).bind fun x1 =>
  (mZ y1).bind fun x4 =>
  cond x1
  (cond x4
  (some (0:Int))
  (some (-1:Int)))
  (cond x4
  (some (1:Int))
  (cond (decide (x0<y1))
  (some (-1:Int))
  (cond (decide (y1<x0))
  (some (1:Int))
  (some (0:Int)))))

def lM (a0:ByteArray)(b1:ByteArray):Option Int :=
  some (YP a0 b1)

def pQ (a0:ByteArray)(b1:ByteArray):Option Int :=
  (lM a0 b1).bind fun x1 =>
  some x1

def uT (a0:aH)(b1:aH):Option Int :=
  (oD a0).bind fun (x1_0,x1_1) =>
  match x1_0 with
  | .none_=>((oD b1).bind fun (x6_0,x6_1) =>
  match x6_0 with
  | .none_=>(cond ((!x1_1)||(!x6_1))
  (some (0:Int))
  (none))
  | .k_number y9=>(cond ((!x1_1)||(!x6_1))
  (some (0:Int))
  (some (1:Int)))
  | .k_words y10=>(cond ((!x1_1)||(!x6_1))
  (some (0:Int))
  (none)))
  | .k_number y4=>((oD b1).bind fun (x23_0,x23_1) =>
  match x23_0 with
  | .none_=>(cond ((!x1_1)||(!x23_1))
  (some (0:Int))
  (some (-1:Int)))
  | .k_number y26=>(cond ((!x1_1)||(!x23_1))
  (some (0:Int))
  ((iJ y4 y26).bind fun x33 =>
  some x33))
  | .k_words y27=>(cond ((!x1_1)||(!x23_1))
  (some (0:Int))
  (some (-1:Int))))
  | .k_words y5=>((oD b1).bind fun (x39_0,x39_1) =>
  match x39_0 with
  | .none_=>(cond ((!x1_1)||(!x39_1))
  (some (0:Int))
  (none))
  | .k_number y42=>(cond ((!x1_1)||(!x39_1))
  (some (0:Int))
  (some (1:Int)))
  | .k_words y43=>(cond ((!x1_1)||(!x39_1))
  (some (0:Int))
  ((pQ y5 y43).bind fun x56 =>
  some x56)))

def yH (a0:(List aH))(b1:(List aH)):Option Int :=
  (AZ a0).bind fun x1 =>
  (cW (!(!x1)) (AZ b1)).bind fun x4 =>
  cond ((!x1)||(!x4))
  (some (0:Int))
  (bG (0<=(if ((List.length b1:Nat):Int)<((List.length a0:Nat):Int) then ((List.length b1:Nat):Int) else ((List.length a0:Nat):Int))/\(if ((List.length b1:Nat):Int)<((List.length a0:Nat):Int) then ((List.length b1:Nat):Int) else ((List.length a0:Nat):Int))<=((List.length a0:Nat):Int)) <|
  (AM b1).bind fun x9 =>
  (jN (List.take (Int.toNat (if ((List.length b1:Nat):Int)<((List.length a0:Nat):Int) then ((List.length b1:Nat):Int) else ((List.length a0:Nat):Int))) a0) (fun st y0=>(mA y0 st x9.2).bind fun o=>some (o.2,o.1)) x9.1).bind fun x12 =>
  cond (decide (x12.2<(0:Int)))
  ((rW ((List.length a0:Nat):Int) ((List.length b1:Nat):Int)).bind fun x15 =>
  some x15)
  (bG (0<=x12.2/\x12.2<((List.length a0:Nat):Int)) <|
  bG (0<=x12.2/\x12.2<((List.length b1:Nat):Int)) <|
  (uT (List.getD a0 (Int.toNat x12.2) default) (List.getD b1 (Int.toNat x12.2) default)).bind fun x20 =>
  some x20))

def tK (BG:(List aM)->Option Bool)(BW:(List aJ))(t4:Bool)(rZ:(List aH))(mP:Bool)(t14:(List aH))(t15:(List aM)):Option ((Bool×(List aH)×Bool)⊕(Bool×(List aH)×Bool)) :=
  (AZ t14).bind fun x7 =>
  (cW (mP&&(!(!x7))) (yH rZ t14)).bind fun x12 =>
  (cW (!((!x7)||(mP&&(decide ((0:Int)<=x12))))) (BG t15)).bind fun x15 =>
  cond (((!x7)||(mP&&(decide ((0:Int)<=x12))))||(!x15))
  (some (.inr (false,rZ,mP)))
  (some (.inl (t4,t14,true)))

def GC (BG:(List aM)->Option Bool)(t4:Bool)(rZ:(List aH))(mP:Bool)(BW:(List aJ)):Option Bool :=
  (rI (fun st t14 t15=>rnd (fun (s:Bool×(List aH)×Bool)=>tK BG BW s.1 s.2.1 s.2.2 t14 t15) st) BW (.inl (t4,rZ,mP))).bind (Sum.elim (fun (s:Bool×(List aH)×Bool) =>
  (some true))
  (fun (s:Bool×(List aH)×Bool) =>
  (some s.1)))

def zJ (l0:(List aJ))(BG:(List aM)->Option Bool):Option Bool :=
  cond (decide ((4096:Int)<((List.length l0:Nat):Int)))
  (some false)
  ((zQ l0).bind fun x5 =>
  GC BG false ([]) false x5)

def HB (n0:Int):Option Bool :=
  some ((decide (n0<=(1048576:Int)))&&(decide ((-1048576:Int)<=n0)))

def DB  : Option Bool :=
  some true

def oW (t9:(List aM))(t10:Int)(vN:Int)(t11:Int):Option ((Int×Int)⊕(Unit⊕Bool)) :=
  cond (decide (t11<t10))
  (bG (0<=t11/\t11<((List.length t9:Nat):Int)) <|
  (cW (!(((decide (((List.getD t9 (Int.toNat t11) default).At)<=vN))||(decide ((1125899906842624:Int)<=((List.getD t9 (Int.toNat t11) default).At))))||(decide (((List.getD t9 (Int.toNat t11) default).Net)=(0:Int))))) (HB ((List.getD t9 (Int.toNat t11) default).Net))).bind fun x8 =>
  cond ((((decide (((List.getD t9 (Int.toNat t11) default).At)<=vN))||(decide ((1125899906842624:Int)<=((List.getD t9 (Int.toNat t11) default).At))))||(decide (((List.getD t9 (Int.toNat t11) default).Net)=(0:Int))))||(!x8))
  (some (.inr (.inr false)))
  (some (.inl ((List.getD t9 (Int.toNat t11) default).At,IntKind.i64.wrap (t11+(1:Int))))))
  (some (.inr (.inl ())))

def HD (vN:Int)(t9:(List aM))(t10:Int)(t11:Int):Option Bool :=
  (lp (fun s=>oW t9 t10 s.1 s.2) (vN,t11)).bind (Sum.elim (fun rr=>DB ) (fun rr=>some rr))

def sC (f0:(List aM)):Option Bool :=
  cond (decide ((1024:Int)<((List.length f0:Nat):Int)))
  (some false)
  (HD (-2:Int) f0 ((List.length f0:Nat):Int) (0:Int))

def rY (l0:(List aJ)):Option Bool :=
  (zJ l0 (fun y0=>sC y0)).bind fun x1 =>
  some x1

def yG (jP:Int):Option Int :=
  some jP

def pU (t24:(List aM))(t25:Int)(v3:Int)(jP:Int)(t26:Int):Option ((Int×Int×Int)⊕(Int)) :=
  cond (decide (t26<t25))
  (bG (0<=t26/\t26<((List.length t24:Nat):Int)) <|
  some (.inl (IntKind.i64.wrap (v3+((List.getD t24 (Int.toNat t26) default).Net)),if (IntKind.i64.wrap (v3+((List.getD t24 (Int.toNat t26) default).Net)))<jP then (IntKind.i64.wrap (v3+((List.getD t24 (Int.toNat t26) default).Net))) else jP,IntKind.i64.wrap (t26+(1:Int)))))
  (some (.inr jP))

def zE (v3:Int)(jP:Int)(t24:(List aM))(t25:Int)(t26:Int):Option Int :=
  (lp (fun s=>pU t24 t25 s.1 s.2.1 s.2.2) (v3,jP,t26)).bind (fun rr=>yG rr)

def uC (f0:(List aM))(v3:Int)(jP:Int):Option Int :=
  zE v3 jP f0 ((List.length f0:Nat):Int) (0:Int)

def BB (f0:(List aM)):Option Int :=
  (sC f0).bind fun x1 =>
  cond ((!x1)||(decide (((List.length f0:Nat):Int)=(0:Int))))
  (some (0:Int))
  (bG (0<=(0:Int)/\(0:Int)<((List.length f0:Nat):Int)) <|
  cond (decide (((List.getD f0 (Int.toNat (0:Int)) default).At)=(-1:Int)))
  (bG (0<=(0:Int)/\(0:Int)<((List.length f0:Nat):Int)) <|
  uC f0 (0:Int) ((List.getD f0 (Int.toNat (0:Int)) default).Net))
  (uC f0 (0:Int) (0:Int)))

def wF (f0:(List aM)):Option Bool :=
  (sC f0).bind fun x1 =>
  (cW x1 (BB f0)).bind fun x4 =>
  some (x1&&(decide ((0:Int)<=x4)))

def qY (l0:(List aJ)):Option Bool :=
  (zJ l0 (fun y0=>wF y0)).bind fun x1 =>
  some x1

def sP (w0:cC)(l1:(List aJ))(t2:Int):Option Int :=
  (sW w0).bind fun x1 =>
  (cW (!(!decide (x1=(0:Int)))) (rY l1)).bind fun x4 =>
  cond ((!decide (x1=(0:Int)))||(!x4))
  (some (2:Int))
  ((qY l1).bind fun x8 =>
  cond (!x8)
  (some (20:Int))
  (cond ((decide (t2<(0:Int)))||(decide ((1125899906842624:Int)<t2)))
  (some (13:Int))
  (some (0:Int))))

def EP (dM:Int)(hop1:Int):Option Bool :=
  some ((((decide ((1:Int)<=dM))&&(decide (dM<=(1099511627776:Int))))&&(decide ((1:Int)<=hop1)))&&(decide (hop1<=(1099511627776:Int))))

def yC (t0:Int):Option Bool :=
  some ((decide ((0:Int)<=t0))&&(decide (t0<=(1125899906842624:Int))))

def AT (q7:Int)(r8:Int):Option (Int×Int×Int) :=
  some (q7,r8,(0:Int))

def CW (a0:Int)(b1:Int):Option (Int×Int×Int) :=
  cond (decide (b1<(1:Int)))
  (some ((0:Int),(0:Int),(2:Int)))
  (bG (b1≠0) <|
  bG (b1≠0) <|
  cond (decide ((Int.tmod a0 b1)<(0:Int)))
  (AT (IntKind.i64.wrap ((IntKind.i64.wrap (Int.tdiv a0 b1))-(1:Int))) (IntKind.i64.wrap ((Int.tmod a0 b1)+b1)))
  (AT (IntKind.i64.wrap (Int.tdiv a0 b1)) (Int.tmod a0 b1)))

def tD (hop0:Int)(n1:Int):Option Int :=
  cond (decide (n1<(0:Int)))
  (some (0:Int))
  ((CW n1 hop0).bind fun x2 =>
  some (IntKind.i64.wrap ((IntKind.i64.wrap (x2.1+(1:Int)))*hop0)))

def FX (dM:Int)(hop1:Int)(t2:Int):Option (Int×Int) :=
  (EP dM hop1).bind fun x1 =>
  cond (!x1)
  (some ((0:Int),(2:Int)))
  ((yC t2).bind fun x5 =>
  cond (!x5)
  (some ((0:Int),(13:Int)))
  (cond (decide (t2=(1125899906842624:Int)))
  (some ((1125899906842624:Int),(0:Int)))
  ((tD hop1 (IntKind.i64.wrap (t2-dM))).bind fun x10 =>
  some (if (1125899906842624:Int)<x10 then (1125899906842624:Int) else x10,(0:Int)))))

def vV (l0:(List aJ))(n1:Int):Option Int :=
  (rY l0).bind fun x1 =>
  cond (((!x1)||(decide (n1<(1:Int))))||(decide ((64:Int)<n1)))
  (some (2:Int))
  ((qY l0).bind fun x5 =>
  cond (!x5)
  (some (20:Int))
  (some (0:Int)))

def sH (l0:(List aJ)):Option ((List aJ)) :=
  some l0

def mC {σ:Type}(cY:σ->aJ->Option (σ×Bool))(t5:(List aJ))(t6:Int)(sg:σ)(t7:Int):Option ((σ×Int)⊕(σ⊕σ)) :=
  cond (decide (t7<t6))
  (bG (0<=t7/\t7<((List.length t5:Nat):Int)) <|
  (HJ ((decide ((0:Int)<((List.getD t5 (Int.toNat t7) default).Net)))&&(decide ((-1:Int)<((List.getD t5 (Int.toNat t7) default).At)))) sg (cY sg (List.getD t5 (Int.toNat t7) default))).bind fun (x8,x9) =>
  cond (((decide ((0:Int)<((List.getD t5 (Int.toNat t7) default).Net)))&&(decide ((-1:Int)<((List.getD t5 (Int.toNat t7) default).At))))&&(!x9))
  (some (.inr (.inr x8)))
  (some (.inl (x8,IntKind.i64.wrap (t7+(1:Int))))))
  (some (.inr (.inl sg)))

def tY {σ:Type}(cY:σ->aJ->Option (σ×Bool))(sg:σ)(t5:(List aJ))(t6:Int)(t7:Int):Option σ :=
  (lp (fun s=>mC cY t5 t6 s.1 s.2) (sg,t7)).bind (Sum.elim (fun rr=>some rr) (fun rr=>some rr))

def oM {σ:Type}(cY:σ->aJ->Option (σ×Bool))(t1:(List aJ))(sg0:σ):Option σ :=
  tY cY sg0 t1 ((List.length t1:Nat):Int) (0:Int)

def oN (x0:Int)(n2:Int):Option Int :=
  bG (0<=(IntKind.u8.wrap x0)/\(IntKind.u8.wrap x0)<((ByteArray.size (⟨#[0,1,2,2,3,3,3,3,4,4,4,4,4,4,4,4,5,5,5,5,5,5,5,5,5,5,5,5,5,5,5,5,6,6,6,6,6,6,6,6,6,6,6,6,6,6,6,6,6,6,6,6,6,6,6,6,6,6,6,6,6,6,6,6,7,7,7,7,7,7,7,7,7,7,7,7,7,7,7,7,7,7,7,7,7,7,7,7,7,7,7,7,7,7,7,7,7,7,7,7,7,7,7,7,7,7,7,7,7,7,7,7,7,7,7,7,7,7,7,7,7,7,7,7,7,7,7,7,8,8,8,8,8,8,8,8,8,8,8,8,8,8,8,8,8,8,8,8,8,8,8,8,8,8,8,8,8,8,8,8,8,8,8,8,8,8,8,8,8,8,8,8,8,8,8,8,8,8,8,8,8,8,8,8,8,8,8,8,8,8,8,8,8,8,8,8,8,8,8,8,8,8,8,8,8,8,8,8,8,8,8,8,8,8,8,8,8,8,8,8,8,8,8,8,8,8,8,8,8,8,8,8,8,8,8,8,8,8,8,8,8,8,8,8,8,8,8,8,8,8,8,8,8,8,8,8]⟩:ByteArray):Nat):Int)) <|
  some (IntKind.i64.wrap (n2+(IntKind.i64.wrap (bt (⟨#[0,1,2,2,3,3,3,3,4,4,4,4,4,4,4,4,5,5,5,5,5,5,5,5,5,5,5,5,5,5,5,5,6,6,6,6,6,6,6,6,6,6,6,6,6,6,6,6,6,6,6,6,6,6,6,6,6,6,6,6,6,6,6,6,7,7,7,7,7,7,7,7,7,7,7,7,7,7,7,7,7,7,7,7,7,7,7,7,7,7,7,7,7,7,7,7,7,7,7,7,7,7,7,7,7,7,7,7,7,7,7,7,7,7,7,7,7,7,7,7,7,7,7,7,7,7,7,7,8,8,8,8,8,8,8,8,8,8,8,8,8,8,8,8,8,8,8,8,8,8,8,8,8,8,8,8,8,8,8,8,8,8,8,8,8,8,8,8,8,8,8,8,8,8,8,8,8,8,8,8,8,8,8,8,8,8,8,8,8,8,8,8,8,8,8,8,8,8,8,8,8,8,8,8,8,8,8,8,8,8,8,8,8,8,8,8,8,8,8,8,8,8,8,8,8,8,8,8,8,8,8,8,8,8,8,8,8,8,8,8,8,8,8,8,8,8,8,8,8,8,8,8,8,8,8,8]⟩:ByteArray) (IntKind.u8.wrap x0)))))

def nG (x0:Int)(n2:Int):Option Int :=
  cond (decide ((256:Int)<=x0))
  (bG (0<=(8:Int)) <|
  oN (Int.fdiv x0 (2 ^ (min (Int.toNat (8:Int)) 64))) (IntKind.i64.wrap (n2+(8:Int))))
  (oN x0 n2)

def nA (x0:Int)(n2:Int):Option Int :=
  cond (decide ((65536:Int)<=x0))
  (bG (0<=(16:Int)) <|
  nG (Int.fdiv x0 (2 ^ (min (Int.toNat (16:Int)) 64))) (IntKind.i64.wrap (n2+(16:Int))))
  (nG x0 n2)

def rU (x0:Int):Option Int :=
  cond (decide ((4294967296:Int)<=x0))
  (bG (0<=(32:Int)) <|
  nA (Int.fdiv x0 (2 ^ (min (Int.toNat (32:Int)) 64))) (32:Int))
  (nA x0 (0:Int))

def mD (x0:Int):Option Int :=
  (rU x0).bind fun x2 =>
  some x2

def eG (x0:Int)(y1:Int):Option Bool :=
  (mJ x0).bind fun x1 =>
  (cW x1 (mJ y1)).bind fun x4 =>
  some ((x1&&(!x4))||(decide (x0<y1)))

def iS (aA:List Int)(a1:Int)(b2:Int)(i6:Int):Option ((List Int×Int)⊕((List Int))) :=
  some (.inl (aA,IntKind.i64.wrap (i6+(1:Int))))

def gF (a1:Int)(b2:Int)(i6:Int)(aA:List Int)(j7:Int):Option ((List Int×Int)⊕((List Int))) :=
  bG ((((decide (a1<j7)))=true->0<=j7/\j7<((List.length aA:Nat):Int))) <|
  bG ((((decide (a1<j7)))=true->0<=(IntKind.i64.wrap (j7-(1:Int)))/\(IntKind.i64.wrap (j7-(1:Int)))<((List.length aA:Nat):Int))) <|
  (cW (decide (a1<j7)) (eG (List.getD aA (Int.toNat j7) default) (List.getD aA (Int.toNat (IntKind.i64.wrap (j7-(1:Int)))) default))).bind fun x4 =>
  cond ((decide (a1<j7))&&x4)
  (bG (0<=(IntKind.i64.wrap (j7-(1:Int)))/\(IntKind.i64.wrap (j7-(1:Int)))<((List.length aA:Nat):Int)) <|
  bG (0<=j7/\j7<((List.length aA:Nat):Int)) <|
  bG (0<=j7/\j7<((List.length aA:Nat):Int)) <|
  bG (0<=(IntKind.i64.wrap (j7-(1:Int)))/\(IntKind.i64.wrap (j7-(1:Int)))<((List.length aA:Nat):Int)) <|
  some (.inl (List.set (List.set aA (Int.toNat j7) (List.getD aA (Int.toNat (IntKind.i64.wrap (j7-(1:Int)))) default)) (Int.toNat (IntKind.i64.wrap (j7-(1:Int)))) (List.getD aA (Int.toNat j7) default),IntKind.i64.wrap (j7-(1:Int)))))
  (some (.inr aA))

def kX (aA:List Int)(a1:Int)(b2:Int)(i6:Int)(j7:Int):Option ((List Int×Int)⊕((List Int))) :=
  (lp (fun s=>gF a1 b2 i6 s.1 s.2) (aA,j7)).bind (fun rr=>iS rr a1 b2 i6)

def eS (a1:Int)(b2:Int)(aA:List Int)(i6:Int):Option ((List Int×Int)⊕((List Int))) :=
  cond (decide (i6<b2))
  (kX aA a1 b2 i6 i6)
  (some (.inr aA))

def kT (aA:List Int)(a1:Int)(b2:Int)(i6:Int):Option (List Int) :=
  (lp (fun s=>eS a1 b2 s.1 s.2) (aA,i6)).bind (fun rr=>some rr)

def jA (aA:(List Int))(a1:Int)(b2:Int):Option (List Int) :=
  kT aA a1 b2 (IntKind.i64.wrap (a1+(1:Int)))

def iW (aA:List Int)(hi2:Int)(bY:Int)(dA:Int)(fH:Int):Option ((List Int×Int)⊕((List Int)⊕(List Int))) :=
  bG (0<=(IntKind.i64.wrap (bY+dA))/\(IntKind.i64.wrap (bY+dA))<((List.length aA:Nat):Int)) <|
  bG (0<=(IntKind.i64.wrap (bY+fH))/\(IntKind.i64.wrap (bY+fH))<((List.length aA:Nat):Int)) <|
  (eG (List.getD aA (Int.toNat (IntKind.i64.wrap (bY+dA))) default) (List.getD aA (Int.toNat (IntKind.i64.wrap (bY+fH))) default)).bind fun x4 =>
  cond (!x4)
  (some (.inr (.inr aA)))
  (bG (0<=(IntKind.i64.wrap (bY+fH))/\(IntKind.i64.wrap (bY+fH))<((List.length aA:Nat):Int)) <|
  bG (0<=(IntKind.i64.wrap (bY+dA))/\(IntKind.i64.wrap (bY+dA))<((List.length aA:Nat):Int)) <|
  bG (0<=(IntKind.i64.wrap (bY+dA))/\(IntKind.i64.wrap (bY+dA))<((List.length aA:Nat):Int)) <|
  bG (0<=(IntKind.i64.wrap (bY+fH))/\(IntKind.i64.wrap (bY+fH))<((List.length aA:Nat):Int)) <|
  some (.inl (List.set (List.set aA (Int.toNat (IntKind.i64.wrap (bY+dA))) (List.getD aA (Int.toNat (IntKind.i64.wrap (bY+fH))) default)) (Int.toNat (IntKind.i64.wrap (bY+fH))) (List.getD aA (Int.toNat (IntKind.i64.wrap (bY+dA))) default),fH)))

def eO (hi2:Int)(bY:Int)(aA:List Int)(dA:Int):Option ((List Int×Int)⊕((List Int)⊕(List Int))) :=
  cond (decide (hi2<=(IntKind.i64.wrap ((IntKind.i64.wrap ((2:Int)*dA))+(1:Int)))))
  (some (.inr (.inl aA)))
  (bG ((((decide ((IntKind.i64.wrap ((IntKind.i64.wrap ((IntKind.i64.wrap ((2:Int)*dA))+(1:Int)))+(1:Int)))<hi2)))=true->0<=(IntKind.i64.wrap (bY+(IntKind.i64.wrap ((IntKind.i64.wrap ((2:Int)*dA))+(1:Int)))))/\(IntKind.i64.wrap (bY+(IntKind.i64.wrap ((IntKind.i64.wrap ((2:Int)*dA))+(1:Int)))))<((List.length aA:Nat):Int))) <|
  bG ((((decide ((IntKind.i64.wrap ((IntKind.i64.wrap ((IntKind.i64.wrap ((2:Int)*dA))+(1:Int)))+(1:Int)))<hi2)))=true->0<=(IntKind.i64.wrap ((IntKind.i64.wrap (bY+(IntKind.i64.wrap ((IntKind.i64.wrap ((2:Int)*dA))+(1:Int)))))+(1:Int)))/\(IntKind.i64.wrap ((IntKind.i64.wrap (bY+(IntKind.i64.wrap ((IntKind.i64.wrap ((2:Int)*dA))+(1:Int)))))+(1:Int)))<((List.length aA:Nat):Int))) <|
  (cW (decide ((IntKind.i64.wrap ((IntKind.i64.wrap ((IntKind.i64.wrap ((2:Int)*dA))+(1:Int)))+(1:Int)))<hi2)) (eG (List.getD aA (Int.toNat (IntKind.i64.wrap (bY+(IntKind.i64.wrap ((IntKind.i64.wrap ((2:Int)*dA))+(1:Int)))))) default) (List.getD aA (Int.toNat (IntKind.i64.wrap ((IntKind.i64.wrap (bY+(IntKind.i64.wrap ((IntKind.i64.wrap ((2:Int)*dA))+(1:Int)))))+(1:Int)))) default))).bind fun x14 =>
  cond ((decide ((IntKind.i64.wrap ((IntKind.i64.wrap ((IntKind.i64.wrap ((2:Int)*dA))+(1:Int)))+(1:Int)))<hi2))&&x14)
  (iW aA hi2 bY dA (IntKind.i64.wrap ((IntKind.i64.wrap ((IntKind.i64.wrap ((2:Int)*dA))+(1:Int)))+(1:Int))))
  (iW aA hi2 bY dA (IntKind.i64.wrap ((IntKind.i64.wrap ((2:Int)*dA))+(1:Int)))))

def mT (aA:List Int)(hi2:Int)(bY:Int)(dA:Int):Option (List Int) :=
  (lp (fun s=>eO hi2 bY s.1 s.2) (aA,dA)).bind (Sum.elim (fun rr=>some rr) (fun rr=>some rr))

def gZ (aA:(List Int))(lo1:Int)(hi2:Int)(bY:Int):Option (List Int) :=
  mT aA hi2 bY lo1

def fI (cI:Int)(lo7:Int)(aA:List Int)(i10:Int):Option ((List Int×Int)⊕((List Int))) :=
  cond (decide ((0:Int)<=i10))
  (bG (0<=(IntKind.i64.wrap (cI+i10))/\(IntKind.i64.wrap (cI+i10))<((List.length aA:Nat):Int)) <|
  bG (0<=cI/\cI<((List.length aA:Nat):Int)) <|
  bG (0<=cI/\cI<((List.length aA:Nat):Int)) <|
  bG (0<=(IntKind.i64.wrap (cI+i10))/\(IntKind.i64.wrap (cI+i10))<((List.length aA:Nat):Int)) <|
  (gZ (List.set (List.set aA (Int.toNat cI) (List.getD aA (Int.toNat (IntKind.i64.wrap (cI+i10))) default)) (Int.toNat (IntKind.i64.wrap (cI+i10))) (List.getD aA (Int.toNat cI) default)) lo7 i10 cI).bind fun x6 =>
  some (.inl (x6,IntKind.i64.wrap (i10-(1:Int)))))
  (some (.inr aA))

def mR (aA:List Int)(cI:Int)(lo7:Int)(i10:Int):Option (List Int) :=
  (lp (fun s=>fI cI lo7 s.1 s.2) (aA,i10)).bind (fun rr=>some rr)

def kR (aA:List Int)(cI:Int)(lo7:Int)(hi8:Int):Option (List Int) :=
  mR aA cI lo7 (IntKind.i64.wrap (hi8-(1:Int)))

def fJ (cI:Int)(lo7:Int)(hi8:Int)(aA:List Int)(i9:Int):Option ((List Int×Int)⊕((List Int))) :=
  cond (decide ((0:Int)<=i9))
  ((gZ aA i9 hi8 cI).bind fun x11 =>
  some (.inl (x11,IntKind.i64.wrap (i9-(1:Int)))))
  (some (.inr aA))

def mU (aA:List Int)(cI:Int)(lo7:Int)(hi8:Int)(i9:Int):Option (List Int) :=
  (lp (fun s=>fJ cI lo7 hi8 s.1 s.2) (aA,i9)).bind (fun rr=>kR rr cI lo7 hi8)

def lF (aA:(List Int))(a1:Int)(b2:Int):Option (List Int) :=
  bG ((2:Int)≠0) <|
  mU aA a1 (0:Int) (IntKind.i64.wrap (b2-a1)) (IntKind.i64.wrap (Int.tdiv (IntKind.i64.wrap ((IntKind.i64.wrap (b2-a1))-(1:Int))) (2:Int)))

def nP (MD:Int):Option Int :=
  (mD (IntKind.u64.wrap MD)).bind fun x1 =>
  bG (0<=x1) <|
  some (IntKind.u64.wrap ((1:Int)*2 ^ (min (Int.toNat x1) 64)))

def nZ (r0:Int):Option (Int×Int) :=
  bG (0<=(13:Int)) <|
  bG (0<=(7:Int)) <|
  bG (0<=(17:Int)) <|
  some (cH .xor .u64 (cH .xor .u64 (cH .xor .u64 r0 (IntKind.u64.wrap (r0*2 ^ (min (Int.toNat (13:Int)) 64)))) (Int.fdiv (cH .xor .u64 r0 (IntKind.u64.wrap (r0*2 ^ (min (Int.toNat (13:Int)) 64)))) (2 ^ (min (Int.toNat (7:Int)) 64)))) (IntKind.u64.wrap ((cH .xor .u64 (cH .xor .u64 r0 (IntKind.u64.wrap (r0*2 ^ (min (Int.toNat (13:Int)) 64)))) (Int.fdiv (cH .xor .u64 r0 (IntKind.u64.wrap (r0*2 ^ (min (Int.toNat (13:Int)) 64)))) (2 ^ (min (Int.toNat (7:Int)) 64))))*2 ^ (min (Int.toNat (17:Int)) 64))),cH .xor .u64 (cH .xor .u64 (cH .xor .u64 r0 (IntKind.u64.wrap (r0*2 ^ (min (Int.toNat (13:Int)) 64)))) (Int.fdiv (cH .xor .u64 r0 (IntKind.u64.wrap (r0*2 ^ (min (Int.toNat (13:Int)) 64)))) (2 ^ (min (Int.toNat (7:Int)) 64)))) (IntKind.u64.wrap ((cH .xor .u64 (cH .xor .u64 r0 (IntKind.u64.wrap (r0*2 ^ (min (Int.toNat (13:Int)) 64)))) (Int.fdiv (cH .xor .u64 r0 (IntKind.u64.wrap (r0*2 ^ (min (Int.toNat (13:Int)) 64)))) (2 ^ (min (Int.toNat (7:Int)) 64))))*2 ^ (min (Int.toNat (17:Int)) 64))))

def gE (aA:List Int)(a1:Int)(lY:Int)(nX:Int)(kG:Int)(idx9:Int)(iC:Int):Option ((List Int×Int×Int)⊕((List Int))) :=
  bG (0<=(IntKind.i64.wrap (a1+iC))/\(IntKind.i64.wrap (a1+iC))<((List.length aA:Nat):Int)) <|
  bG (0<=idx9/\idx9<((List.length aA:Nat):Int)) <|
  bG (0<=idx9/\idx9<((List.length aA:Nat):Int)) <|
  bG (0<=(IntKind.i64.wrap (a1+iC))/\(IntKind.i64.wrap (a1+iC))<((List.length aA:Nat):Int)) <|
  some (.inl (List.set (List.set aA (Int.toNat idx9) (List.getD aA (Int.toNat (IntKind.i64.wrap (a1+iC))) default)) (Int.toNat (IntKind.i64.wrap (a1+iC))) (List.getD aA (Int.toNat idx9) default),nX,IntKind.i64.wrap (idx9+(1:Int))))

def eJ (a1:Int)(lY:Int)(kG:Int)(aA:List Int)(nX:Int)(idx9:Int):Option ((List Int×Int×Int)⊕((List Int))) :=
  bG ((4:Int)≠0) <|
  cond (decide (idx9<=(IntKind.i64.wrap ((IntKind.i64.wrap (a1+(IntKind.i64.wrap ((IntKind.i64.wrap (Int.tdiv lY (4:Int)))*(2:Int)))))+(1:Int)))))
  ((nZ nX).bind fun x9 =>
  cond (decide (lY<=(IntKind.i64.wrap (cH .and .u64 x9.1 (IntKind.u64.wrap (kG-(1:Int)))))))
  (gE aA a1 lY x9.2 kG idx9 (IntKind.i64.wrap ((IntKind.i64.wrap (cH .and .u64 x9.1 (IntKind.u64.wrap (kG-(1:Int)))))-lY)))
  (gE aA a1 lY x9.2 kG idx9 (IntKind.i64.wrap (cH .and .u64 x9.1 (IntKind.u64.wrap (kG-(1:Int)))))))
  (some (.inr aA))

def kU (aA:List Int)(a1:Int)(lY:Int)(nX:Int)(kG:Int)(idx9:Int):Option (List Int) :=
  (lp (fun s=>eJ a1 lY kG s.1 s.2.1 s.2.2) (aA,nX,idx9)).bind (fun rr=>some rr)

def jC (aA:(List Int))(a1:Int)(b2:Int):Option (List Int) :=
  cond (decide ((8:Int)<=(IntKind.i64.wrap (b2-a1))))
  ((nP (IntKind.i64.wrap (b2-a1))).bind fun x3 =>
  bG ((4:Int)≠0) <|
  kU aA a1 (IntKind.i64.wrap (b2-a1)) (IntKind.u64.wrap (IntKind.i64.wrap (b2-a1))) x3 (IntKind.i64.wrap ((IntKind.i64.wrap (a1+(IntKind.i64.wrap ((IntKind.i64.wrap (Int.tdiv (IntKind.i64.wrap (b2-a1)) (4:Int)))*(2:Int)))))-(1:Int))))
  (some aA)

def iK (aA:(List Int))(a1:Int)(b2:Int)(yO:Int):Option ((Int×Int)×Int) :=
  bG (0<=b2/\b2<((List.length aA:Nat):Int)) <|
  bG (0<=a1/\a1<((List.length aA:Nat):Int)) <|
  (eG (List.getD aA (Int.toNat b2) default) (List.getD aA (Int.toNat a1) default)).bind fun x3 =>
  cond x3
  (some ((b2,a1),IntKind.i64.wrap (yO+(1:Int))))
  (some ((a1,b2),yO))

def jV (aA:(List Int))(a1:Int)(b2:Int)(c3:Int)(PT:Int):Option (Int×Int) :=
  (iK aA a1 b2 PT).bind fun x1 =>
  (iK aA x1.1.2 c3 x1.2).bind fun x6 =>
  (iK aA x1.1.1 x6.1.1 x6.2).bind fun x11 =>
  some (x11.1.2,x11.2)

def fE (aA:(List Int))(a1:Int)(RG:Int):Option (Int×Int) :=
  (jV aA (IntKind.i64.wrap (a1-(1:Int))) a1 (IntKind.i64.wrap (a1+(1:Int))) RG).bind fun x1 =>
  some (x1.1,x1.2)

def gX (aA:List Int)(oZ:Int)(j11:Int):Option (Int×Int) :=
  cond (decide (oZ=(0:Int)))
  (some (j11,(1:Int)))
  (cond (decide (oZ=(12:Int)))
  (some (j11,(2:Int)))
  (some (j11,(0:Int))))

def gW (aA:List Int)(oZ:Int)(i10:Int)(j11:Int)(k12:Int):Option (Int×Int) :=
  (jV aA i10 j11 k12 oZ).bind fun x8 =>
  gX aA x8.2 x8.1

def jO (aA:(List Int))(a1:Int)(b2:Int):Option (Int×Int) :=
  bG ((4:Int)≠0) <|
  bG ((4:Int)≠0) <|
  bG ((4:Int)≠0) <|
  cond (decide ((8:Int)<=(IntKind.i64.wrap (b2-a1))))
  (cond (decide ((50:Int)<=(IntKind.i64.wrap (b2-a1))))
  ((fE aA (IntKind.i64.wrap (a1+(IntKind.i64.wrap ((IntKind.i64.wrap (Int.tdiv (IntKind.i64.wrap (b2-a1)) (4:Int)))*(1:Int))))) 0).bind fun x14 =>
  (fE aA (IntKind.i64.wrap (a1+(IntKind.i64.wrap ((IntKind.i64.wrap (Int.tdiv (IntKind.i64.wrap (b2-a1)) (4:Int)))*(2:Int))))) x14.2).bind fun x19 =>
  (fE aA (IntKind.i64.wrap (a1+(IntKind.i64.wrap ((IntKind.i64.wrap (Int.tdiv (IntKind.i64.wrap (b2-a1)) (4:Int)))*(3:Int))))) x19.2).bind fun x24 =>
  gW aA x24.2 x14.1 x19.1 x24.1)
  (gW aA 0 (IntKind.i64.wrap (a1+(IntKind.i64.wrap ((IntKind.i64.wrap (Int.tdiv (IntKind.i64.wrap (b2-a1)) (4:Int)))*(1:Int))))) (IntKind.i64.wrap (a1+(IntKind.i64.wrap ((IntKind.i64.wrap (Int.tdiv (IntKind.i64.wrap (b2-a1)) (4:Int)))*(2:Int))))) (IntKind.i64.wrap (a1+(IntKind.i64.wrap ((IntKind.i64.wrap (Int.tdiv (IntKind.i64.wrap (b2-a1)) (4:Int)))*(3:Int)))))))
  (gX aA 0 (IntKind.i64.wrap (a1+(IntKind.i64.wrap ((IntKind.i64.wrap (Int.tdiv (IntKind.i64.wrap (b2-a1)) (4:Int)))*(2:Int))))))

def eZ  (aA:List Int)(i6:Int)(j7:Int):Option ((List Int×Int×Int)⊕((List Int))) :=
  cond (decide (i6<j7))
  (bG (0<=j7/\j7<((List.length aA:Nat):Int)) <|
  bG (0<=i6/\i6<((List.length aA:Nat):Int)) <|
  bG (0<=i6/\i6<((List.length aA:Nat):Int)) <|
  bG (0<=j7/\j7<((List.length aA:Nat):Int)) <|
  some (.inl (List.set (List.set aA (Int.toNat i6) (List.getD aA (Int.toNat j7) default)) (Int.toNat j7) (List.getD aA (Int.toNat i6) default),IntKind.i64.wrap (i6+(1:Int)),IntKind.i64.wrap (j7-(1:Int)))))
  (some (.inr aA))

def lG (aA:List Int)(i6:Int)(j7:Int):Option (List Int) :=
  (lp (fun s=>eZ s.1 s.2.1 s.2.2) (aA,i6,j7)).bind (fun rr=>some rr)

def jM (aA:(List Int))(a1:Int)(b2:Int):Option (List Int) :=
  lG aA a1 (IntKind.i64.wrap (b2-(1:Int)))

def fR (aA:List Int):Option (Bool×List Int) :=
  some (false,aA)

def fA (aA:List Int)(a1:Int)(b2:Int)(i7:Int)(j8:Int):Option ((List Int×Int×Int)⊕((List Int)⊕(Bool×(List Int)))) :=
  some (.inl (aA,i7,IntKind.i64.wrap (j8+(1:Int))))

def dZ (a1:Int)(b2:Int)(i7:Int)(j8:Int)(aA:List Int)(j10:Int):Option ((List Int×Int)⊕((List Int))) :=
  cond (decide (j10<b2))
  (bG (0<=j10/\j10<((List.length aA:Nat):Int)) <|
  bG (0<=(IntKind.i64.wrap (j10-(1:Int)))/\(IntKind.i64.wrap (j10-(1:Int)))<((List.length aA:Nat):Int)) <|
  (eG (List.getD aA (Int.toNat j10) default) (List.getD aA (Int.toNat (IntKind.i64.wrap (j10-(1:Int)))) default)).bind fun x12 =>
  cond (!x12)
  (some (.inr aA))
  (bG (0<=(IntKind.i64.wrap (j10-(1:Int)))/\(IntKind.i64.wrap (j10-(1:Int)))<((List.length aA:Nat):Int)) <|
  bG (0<=j10/\j10<((List.length aA:Nat):Int)) <|
  bG (0<=j10/\j10<((List.length aA:Nat):Int)) <|
  bG (0<=(IntKind.i64.wrap (j10-(1:Int)))/\(IntKind.i64.wrap (j10-(1:Int)))<((List.length aA:Nat):Int)) <|
  some (.inl (List.set (List.set aA (Int.toNat j10) (List.getD aA (Int.toNat (IntKind.i64.wrap (j10-(1:Int)))) default)) (Int.toNat (IntKind.i64.wrap (j10-(1:Int)))) (List.getD aA (Int.toNat j10) default),IntKind.i64.wrap (j10+(1:Int))))))
  (some (.inr aA))

def iP (aA:List Int)(a1:Int)(b2:Int)(i7:Int)(j8:Int)(j10:Int):Option ((List Int×Int×Int)⊕((List Int)⊕(Bool×(List Int)))) :=
  (lp (fun s=>dZ a1 b2 i7 j8 s.1 s.2) (aA,j10)).bind (fun rr=>fA rr a1 b2 i7 j8)

def dP (aA:List Int)(a1:Int)(b2:Int)(i7:Int)(j8:Int):Option ((List Int×Int×Int)⊕((List Int)⊕(Bool×(List Int)))) :=
  cond (decide ((2:Int)<=(IntKind.i64.wrap (b2-i7))))
  (iP aA a1 b2 i7 j8 (IntKind.i64.wrap (i7+(1:Int))))
  (fA aA a1 b2 i7 j8)

def dO (a1:Int)(b2:Int)(i7:Int)(j8:Int)(aA:List Int)(j9:Int):Option ((List Int×Int)⊕((List Int))) :=
  cond (decide ((1:Int)<=j9))
  (bG (0<=j9/\j9<((List.length aA:Nat):Int)) <|
  bG (0<=(IntKind.i64.wrap (j9-(1:Int)))/\(IntKind.i64.wrap (j9-(1:Int)))<((List.length aA:Nat):Int)) <|
  (eG (List.getD aA (Int.toNat j9) default) (List.getD aA (Int.toNat (IntKind.i64.wrap (j9-(1:Int)))) default)).bind fun x24 =>
  cond (!x24)
  (some (.inr aA))
  (bG (0<=(IntKind.i64.wrap (j9-(1:Int)))/\(IntKind.i64.wrap (j9-(1:Int)))<((List.length aA:Nat):Int)) <|
  bG (0<=j9/\j9<((List.length aA:Nat):Int)) <|
  bG (0<=j9/\j9<((List.length aA:Nat):Int)) <|
  bG (0<=(IntKind.i64.wrap (j9-(1:Int)))/\(IntKind.i64.wrap (j9-(1:Int)))<((List.length aA:Nat):Int)) <|
  some (.inl (List.set (List.set aA (Int.toNat j9) (List.getD aA (Int.toNat (IntKind.i64.wrap (j9-(1:Int)))) default)) (Int.toNat (IntKind.i64.wrap (j9-(1:Int)))) (List.getD aA (Int.toNat j9) default),IntKind.i64.wrap (j9-(1:Int))))))
  (some (.inr aA))

def iQ (aA:List Int)(a1:Int)(b2:Int)(i7:Int)(j8:Int)(j9:Int):Option ((List Int×Int×Int)⊕((List Int)⊕(Bool×(List Int)))) :=
  (lp (fun s=>dO a1 b2 i7 j8 s.1 s.2) (aA,j9)).bind (fun rr=>dP rr a1 b2 i7 j8)

def fQ (aA:List Int)(a1:Int)(b2:Int)(i7:Int)(j8:Int):Option ((List Int×Int×Int)⊕((List Int)⊕(Bool×(List Int)))) :=
  cond (decide (i7=b2))
  (some (.inr (.inr (true,aA))))
  (cond (decide ((IntKind.i64.wrap (b2-a1))<(50:Int)))
  (some (.inr (.inr (false,aA))))
  (bG (0<=(IntKind.i64.wrap (i7-(1:Int)))/\(IntKind.i64.wrap (i7-(1:Int)))<((List.length aA:Nat):Int)) <|
  bG (0<=i7/\i7<((List.length aA:Nat):Int)) <|
  bG (0<=i7/\i7<((List.length aA:Nat):Int)) <|
  bG (0<=(IntKind.i64.wrap (i7-(1:Int)))/\(IntKind.i64.wrap (i7-(1:Int)))<((List.length aA:Nat):Int)) <|
  cond (decide ((2:Int)<=(IntKind.i64.wrap (i7-a1))))
  (iQ (List.set (List.set aA (Int.toNat i7) (List.getD aA (Int.toNat (IntKind.i64.wrap (i7-(1:Int)))) default)) (Int.toNat (IntKind.i64.wrap (i7-(1:Int)))) (List.getD aA (Int.toNat i7) default)) a1 b2 i7 j8 (IntKind.i64.wrap (i7-(1:Int))))
  (dP (List.set (List.set aA (Int.toNat i7) (List.getD aA (Int.toNat (IntKind.i64.wrap (i7-(1:Int)))) default)) (Int.toNat (IntKind.i64.wrap (i7-(1:Int)))) (List.getD aA (Int.toNat i7) default)) a1 b2 i7 j8)))

def dY (a1:Int)(b2:Int)(j8:Int)(aA:List Int)(i7:Int):Option ((List Int×Int)⊕((List Int×Int))) :=
  bG ((((decide (i7<b2)))=true->0<=i7/\i7<((List.length aA:Nat):Int))) <|
  bG ((((decide (i7<b2)))=true->0<=(IntKind.i64.wrap (i7-(1:Int)))/\(IntKind.i64.wrap (i7-(1:Int)))<((List.length aA:Nat):Int))) <|
  (cW (decide (i7<b2)) (eG (List.getD aA (Int.toNat i7) default) (List.getD aA (Int.toNat (IntKind.i64.wrap (i7-(1:Int)))) default))).bind fun x34 =>
  cond ((decide (i7<b2))&&(!x34))
  (some (.inl (aA,IntKind.i64.wrap (i7+(1:Int)))))
  (some (.inr (aA,i7)))

def eM (aA:List Int)(a1:Int)(b2:Int)(i7:Int)(j8:Int):Option ((List Int×Int×Int)⊕((List Int)⊕(Bool×(List Int)))) :=
  (lp (fun s=>dY a1 b2 j8 s.1 s.2) (aA,i7)).bind (fun rr=>fQ rr.1 a1 b2 rr.2 j8)

def cN (a1:Int)(b2:Int)(aA:List Int)(i7:Int)(j8:Int):Option ((List Int×Int×Int)⊕((List Int)⊕(Bool×(List Int)))) :=
  cond (decide (j8<(5:Int)))
  (eM aA a1 b2 i7 j8)
  (some (.inr (.inl aA)))

def iO (aA:List Int)(a1:Int)(b2:Int)(i7:Int)(j8:Int):Option (Bool×List Int) :=
  (lp (fun s=>cN a1 b2 s.1 s.2.1 s.2.2) (aA,i7,j8)).bind (Sum.elim (fun rr=>fR rr) (fun rr=>some (rr.1,rr.2)))

def fS (aA:(List Int))(a1:Int)(b2:Int):Option (Bool×List Int) :=
  iO aA a1 b2 (IntKind.i64.wrap (a1+(1:Int))) (0:Int)

def kL (aA:List Int)(i9:Int):Option (Int×List Int) :=
  some (i9,aA)

def fD (aA:List Int)(a1:Int)(i9:Int)(j10:Int):Option ((List Int×Int×Int)⊕((List Int×Int))) :=
  cond (decide (j10<i9))
  (some (.inr (aA,i9)))
  (bG (0<=j10/\j10<((List.length aA:Nat):Int)) <|
  bG (0<=i9/\i9<((List.length aA:Nat):Int)) <|
  bG (0<=i9/\i9<((List.length aA:Nat):Int)) <|
  bG (0<=j10/\j10<((List.length aA:Nat):Int)) <|
  some (.inl (List.set (List.set aA (Int.toNat i9) (List.getD aA (Int.toNat j10) default)) (Int.toNat j10) (List.getD aA (Int.toNat i9) default),IntKind.i64.wrap (i9+(1:Int)),IntKind.i64.wrap (j10-(1:Int)))))

def fC (a1:Int)(i9:Int)(aA:List Int)(j10:Int):Option ((List Int×Int)⊕((List Int×Int))) :=
  bG ((((decide (i9<=j10)))=true->0<=a1/\a1<((List.length aA:Nat):Int))) <|
  bG ((((decide (i9<=j10)))=true->0<=j10/\j10<((List.length aA:Nat):Int))) <|
  (cW (decide (i9<=j10)) (eG (List.getD aA (Int.toNat a1) default) (List.getD aA (Int.toNat j10) default))).bind fun x12 =>
  cond ((decide (i9<=j10))&&x12)
  (some (.inl (aA,IntKind.i64.wrap (j10-(1:Int)))))
  (some (.inr (aA,j10)))

def kM (aA:List Int)(a1:Int)(i9:Int)(j10:Int):Option ((List Int×Int×Int)⊕((List Int×Int))) :=
  (lp (fun s=>fC a1 i9 s.1 s.2) (aA,j10)).bind (fun rr=>fD rr.1 a1 i9 rr.2)

def iG (aA:List Int)(a1:Int)(i9:Int)(j10:Int):Option ((List Int×Int×Int)⊕((List Int×Int))) :=
  kM aA a1 i9 j10

def fB (a1:Int)(j10:Int)(aA:List Int)(i9:Int):Option ((List Int×Int)⊕((List Int×Int))) :=
  bG ((((decide (i9<=j10)))=true->0<=a1/\a1<((List.length aA:Nat):Int))) <|
  bG ((((decide (i9<=j10)))=true->0<=i9/\i9<((List.length aA:Nat):Int))) <|
  (cW (decide (i9<=j10)) (eG (List.getD aA (Int.toNat a1) default) (List.getD aA (Int.toNat i9) default))).bind fun x18 =>
  cond ((decide (i9<=j10))&&(!x18))
  (some (.inl (aA,IntKind.i64.wrap (i9+(1:Int)))))
  (some (.inr (aA,i9)))

def kN (aA:List Int)(a1:Int)(i9:Int)(j10:Int):Option ((List Int×Int×Int)⊕((List Int×Int))) :=
  (lp (fun s=>fB a1 j10 s.1 s.2) (aA,i9)).bind (fun rr=>iG rr.1 a1 rr.2 j10)

def eD (a1:Int)(aA:List Int)(i9:Int)(j10:Int):Option ((List Int×Int×Int)⊕((List Int×Int))) :=
  kN aA a1 i9 j10

def kP (aA:List Int)(a1:Int)(i9:Int)(j10:Int):Option (Int×List Int) :=
  (lp (fun s=>eD a1 s.1 s.2.1 s.2.2) (aA,i9,j10)).bind (fun rr=>kL rr.1 rr.2)

def gG (aA:(List Int))(a1:Int)(b2:Int)(dQ:Int):Option (Int×List Int) :=
  bG (0<=dQ/\dQ<((List.length aA:Nat):Int)) <|
  bG (0<=a1/\a1<((List.length aA:Nat):Int)) <|
  bG (0<=a1/\a1<((List.length aA:Nat):Int)) <|
  bG (0<=dQ/\dQ<((List.length aA:Nat):Int)) <|
  kP (List.set (List.set aA (Int.toNat a1) (List.getD aA (Int.toNat dQ) default)) (Int.toNat dQ) (List.getD aA (Int.toNat a1) default)) a1 (IntKind.i64.wrap (a1+(1:Int))) (IntKind.i64.wrap (b2-(1:Int)))

def kC (aA:List Int)(a1:Int)(j11:Int):Option ((Int×Bool)×List Int) :=
  bG (0<=a1/\a1<((List.length aA:Nat):Int)) <|
  bG (0<=j11/\j11<((List.length aA:Nat):Int)) <|
  bG (0<=j11/\j11<((List.length aA:Nat):Int)) <|
  bG (0<=a1/\a1<((List.length aA:Nat):Int)) <|
  some ((j11,false),(List.set (List.set aA (Int.toNat j11) (List.getD aA (Int.toNat a1) default)) (Int.toNat a1) (List.getD aA (Int.toNat j11) default)))

def fW (aA:List Int)(a1:Int)(i10:Int)(j11:Int):Option ((List Int×Int×Int)⊕((List Int×Int))) :=
  cond (decide (j11<i10))
  (some (.inr (aA,j11)))
  (bG (0<=j11/\j11<((List.length aA:Nat):Int)) <|
  bG (0<=i10/\i10<((List.length aA:Nat):Int)) <|
  bG (0<=i10/\i10<((List.length aA:Nat):Int)) <|
  bG (0<=j11/\j11<((List.length aA:Nat):Int)) <|
  some (.inl (List.set (List.set aA (Int.toNat i10) (List.getD aA (Int.toNat j11) default)) (Int.toNat j11) (List.getD aA (Int.toNat i10) default),IntKind.i64.wrap (i10+(1:Int)),IntKind.i64.wrap (j11-(1:Int)))))

def fT (a1:Int)(i10:Int)(aA:List Int)(j11:Int):Option ((List Int×Int)⊕((List Int×Int))) :=
  bG ((((decide (i10<=j11)))=true->0<=j11/\j11<((List.length aA:Nat):Int))) <|
  bG ((((decide (i10<=j11)))=true->0<=a1/\a1<((List.length aA:Nat):Int))) <|
  (cW (decide (i10<=j11)) (eG (List.getD aA (Int.toNat j11) default) (List.getD aA (Int.toNat a1) default))).bind fun x25 =>
  cond ((decide (i10<=j11))&&(!x25))
  (some (.inl (aA,IntKind.i64.wrap (j11-(1:Int)))))
  (some (.inr (aA,j11)))

def mK (aA:List Int)(a1:Int)(i10:Int)(j11:Int):Option ((List Int×Int×Int)⊕((List Int×Int))) :=
  (lp (fun s=>fT a1 i10 s.1 s.2) (aA,j11)).bind (fun rr=>fW rr.1 a1 i10 rr.2)

def jZ (aA:List Int)(a1:Int)(i10:Int)(j11:Int):Option ((List Int×Int×Int)⊕((List Int×Int))) :=
  mK aA a1 i10 j11

def gC (a1:Int)(j11:Int)(aA:List Int)(i10:Int):Option ((List Int×Int)⊕((List Int×Int))) :=
  bG ((((decide (i10<=j11)))=true->0<=i10/\i10<((List.length aA:Nat):Int))) <|
  bG ((((decide (i10<=j11)))=true->0<=a1/\a1<((List.length aA:Nat):Int))) <|
  (cW (decide (i10<=j11)) (eG (List.getD aA (Int.toNat i10) default) (List.getD aA (Int.toNat a1) default))).bind fun x31 =>
  cond ((decide (i10<=j11))&&x31)
  (some (.inl (aA,IntKind.i64.wrap (i10+(1:Int)))))
  (some (.inr (aA,i10)))

def mI (aA:List Int)(a1:Int)(i10:Int)(j11:Int):Option ((List Int×Int×Int)⊕((List Int×Int))) :=
  (lp (fun s=>gC a1 j11 s.1 s.2) (aA,i10)).bind (fun rr=>jZ rr.1 a1 rr.2 j11)

def eV (a1:Int)(aA:List Int)(i10:Int)(j11:Int):Option ((List Int×Int×Int)⊕((List Int×Int))) :=
  mI aA a1 i10 j11

def mF (aA:List Int)(a1:Int)(i10:Int)(j11:Int):Option ((Int×Bool)×List Int) :=
  (lp (fun s=>eV a1 s.1 s.2.1 s.2.2) (aA,i10,j11)).bind (fun rr=>kC rr.1 a1 rr.2)

def fU (aA:List Int)(a1:Int)(i10:Int)(j11:Int):Option ((Int×Bool)×List Int) :=
  cond (decide (j11<i10))
  (bG (0<=a1/\a1<((List.length aA:Nat):Int)) <|
  bG (0<=j11/\j11<((List.length aA:Nat):Int)) <|
  bG (0<=j11/\j11<((List.length aA:Nat):Int)) <|
  bG (0<=a1/\a1<((List.length aA:Nat):Int)) <|
  some ((j11,true),(List.set (List.set aA (Int.toNat j11) (List.getD aA (Int.toNat a1) default)) (Int.toNat a1) (List.getD aA (Int.toNat j11) default))))
  (bG (0<=j11/\j11<((List.length aA:Nat):Int)) <|
  bG (0<=i10/\i10<((List.length aA:Nat):Int)) <|
  bG (0<=i10/\i10<((List.length aA:Nat):Int)) <|
  bG (0<=j11/\j11<((List.length aA:Nat):Int)) <|
  mF (List.set (List.set aA (Int.toNat i10) (List.getD aA (Int.toNat j11) default)) (Int.toNat j11) (List.getD aA (Int.toNat i10) default)) a1 (IntKind.i64.wrap (i10+(1:Int))) (IntKind.i64.wrap (j11-(1:Int))))

def fY (a1:Int)(i10:Int)(aA:List Int)(j11:Int):Option ((List Int×Int)⊕((List Int×Int))) :=
  bG ((((decide (i10<=j11)))=true->0<=j11/\j11<((List.length aA:Nat):Int))) <|
  bG ((((decide (i10<=j11)))=true->0<=a1/\a1<((List.length aA:Nat):Int))) <|
  (cW (decide (i10<=j11)) (eG (List.getD aA (Int.toNat j11) default) (List.getD aA (Int.toNat a1) default))).bind fun x37 =>
  cond ((decide (i10<=j11))&&(!x37))
  (some (.inl (aA,IntKind.i64.wrap (j11-(1:Int)))))
  (some (.inr (aA,j11)))

def mE (aA:List Int)(a1:Int)(i10:Int)(j11:Int):Option ((Int×Bool)×List Int) :=
  (lp (fun s=>fY a1 i10 s.1 s.2) (aA,j11)).bind (fun rr=>fU rr.1 a1 i10 rr.2)

def kD (aA:List Int)(a1:Int)(i10:Int)(j11:Int):Option ((Int×Bool)×List Int) :=
  mE aA a1 i10 j11

def fP (a1:Int)(j11:Int)(aA:List Int)(i10:Int):Option ((List Int×Int)⊕((List Int×Int))) :=
  bG ((((decide (i10<=j11)))=true->0<=i10/\i10<((List.length aA:Nat):Int))) <|
  bG ((((decide (i10<=j11)))=true->0<=a1/\a1<((List.length aA:Nat):Int))) <|
  (cW (decide (i10<=j11)) (eG (List.getD aA (Int.toNat i10) default) (List.getD aA (Int.toNat a1) default))).bind fun x43 =>
  cond ((decide (i10<=j11))&&x43)
  (some (.inl (aA,IntKind.i64.wrap (i10+(1:Int)))))
  (some (.inr (aA,i10)))

def iB (aA:List Int)(a1:Int)(i10:Int)(j11:Int):Option ((Int×Bool)×List Int) :=
  (lp (fun s=>fP a1 j11 s.1 s.2) (aA,i10)).bind (fun rr=>kD rr.1 a1 rr.2 j11)

def iV (aA:(List Int))(a1:Int)(b2:Int)(dQ:Int):Option ((Int×Bool)×List Int) :=
  bG (0<=dQ/\dQ<((List.length aA:Nat):Int)) <|
  bG (0<=a1/\a1<((List.length aA:Nat):Int)) <|
  bG (0<=a1/\a1<((List.length aA:Nat):Int)) <|
  bG (0<=dQ/\dQ<((List.length aA:Nat):Int)) <|
  iB (List.set (List.set aA (Int.toNat a1) (List.getD aA (Int.toNat dQ) default)) (Int.toNat dQ) (List.getD aA (Int.toNat a1) default)) a1 (IntKind.i64.wrap (a1+(1:Int))) (IntKind.i64.wrap (b2-(1:Int)))

def jJ (rec:(List Int)->Int->Int->Int->Option (List Int))(aA:List Int)(a1:Int)(b2:Int)(cS:Int)(cM:Bool)(cF:Bool)(fF:Int)(iF:Int):Option ((List Int×Int×Int×Int×Bool×Bool)⊕((List Int))) :=
  bG ((((decide ((0:Int)<a1)))=true->0<=(IntKind.i64.wrap (a1-(1:Int)))/\(IntKind.i64.wrap (a1-(1:Int)))<((List.length aA:Nat):Int))) <|
  bG ((((decide ((0:Int)<a1)))=true->0<=iF/\iF<((List.length aA:Nat):Int))) <|
  (cW (decide ((0:Int)<a1)) (eG (List.getD aA (Int.toNat (IntKind.i64.wrap (a1-(1:Int)))) default) (List.getD aA (Int.toNat iF) default))).bind fun x16 =>
  cond ((decide ((0:Int)<a1))&&(!x16))
  ((gG aA a1 b2 iF).bind fun x20 =>
  some (.inl (x20.2,x20.1,b2,cS,cM,cF)))
  ((iV aA a1 b2 iF).bind fun x23 =>
  bG ((8:Int)≠0) <|
  cond (decide ((IntKind.i64.wrap (x23.1.1-a1))<(IntKind.i64.wrap (b2-x23.1.1))))
  ((rec x23.2 a1 x23.1.1 cS).bind fun x28 =>
  some (.inl (x28,IntKind.i64.wrap (x23.1.1+(1:Int)),b2,cS,decide ((IntKind.i64.wrap (Int.tdiv fF (8:Int)))<=(IntKind.i64.wrap (x23.1.1-a1))),x23.1.2)))
  ((rec x23.2 (IntKind.i64.wrap (x23.1.1+(1:Int))) b2 cS).bind fun x31 =>
  some (.inl (x31,a1,x23.1.1,cS,decide ((IntKind.i64.wrap (Int.tdiv fF (8:Int)))<=(IntKind.i64.wrap (b2-x23.1.1))),x23.1.2))))

def jH (rec:(List Int)->Int->Int->Int->Option (List Int))(aA:List Int)(a1:Int)(b2:Int)(cS:Int)(cM:Bool)(cF:Bool)(fF:Int)(iF:Int)(MU:Int):Option ((List Int×Int×Int×Int×Bool×Bool)⊕((List Int))) :=
  cond ((cM&&cF)&&(decide (MU=(1:Int))))
  ((fS aA a1 b2).bind fun x35 =>
  cond x35.1
  (some (.inr x35.2))
  (jJ rec x35.2 a1 b2 cS cM cF fF iF))
  (jJ rec aA a1 b2 cS cM cF fF iF)

def jD (rec:(List Int)->Int->Int->Int->Option (List Int))(aA:List Int)(a1:Int)(b2:Int)(cS:Int)(cM:Bool)(cF:Bool)(fF:Int):Option ((List Int×Int×Int×Int×Bool×Bool)⊕((List Int))) :=
  (jO aA a1 b2).bind fun x9 =>
  cond (decide (x9.2=(2:Int)))
  ((jM aA a1 b2).bind fun x40 =>
  jH rec x40 a1 b2 cS cM cF fF (IntKind.i64.wrap ((IntKind.i64.wrap (b2-(1:Int)))-(IntKind.i64.wrap (x9.1-a1)))) (1:Int))
  (jH rec aA a1 b2 cS cM cF fF x9.1 x9.2)

def fM (rec:(List Int)->Int->Int->Int->Option (List Int))  (aA:List Int)(a1:Int)(b2:Int)(cS:Int)(cM:Bool)(cF:Bool):Option ((List Int×Int×Int×Int×Bool×Bool)⊕((List Int))) :=
  cond (decide ((IntKind.i64.wrap (b2-a1))<=(12:Int)))
  ((jA aA a1 b2).bind fun x2 =>
  some (.inr x2))
  (cond (decide (cS=(0:Int)))
  ((lF aA a1 b2).bind fun x6 =>
  some (.inr x6))
  (cond (!cM)
  ((jC aA a1 b2).bind fun x44 =>
  jD rec x44 a1 b2 (IntKind.i64.wrap (cS-(1:Int))) cM cF (IntKind.i64.wrap (b2-a1)))
  (jD rec aA a1 b2 cS cM cF (IntKind.i64.wrap (b2-a1)))))

def nM (rec:(List Int)->Int->Int->Int->Option (List Int))(aA:List Int)(a1:Int)(b2:Int)(cS:Int)(cM:Bool)(cF:Bool):Option (List Int) :=
  (lp (fun s=>fM rec s.1 s.2.1 s.2.2.1 s.2.2.2.1 s.2.2.2.2.1 s.2.2.2.2.2) (aA,a1,b2,cS,cM,cF)).bind (fun rr=>some rr)

def iI (rec:(List Int)->Int->Int->Int->Option (List Int))(aA:(List Int))(a1:Int)(b2:Int)(cS:Int):Option (List Int) :=
  nM rec aA a1 b2 cS true true

def eR  : Nat->(List Int)->Int->Int->Int->Option (List Int)
  | 0=>fun _ _ _ _=>none
  | k+1=>iI (eR k)

def lJ (aA:(List Int))(a1:Int)(b2:Int)(cS:Int):Option (List Int):=aBK (fun k=>eR k aA a1 b2 cS)

def iH (x0:(List Int)):Option (List Int) :=
  (mD (IntKind.u64.wrap ((List.length x0:Nat):Int))).bind fun x1 =>
  (lJ x0 (0:Int) ((List.length x0:Nat):Int) x1).bind fun x4 =>
  some x4

def mO (s0:List Int):Option (List Int) :=
  some s0

def oV (s0:List Int)(k3:Int):Option ((List Int×Int)⊕((List Int)⊕(List Int))) :=
  some (.inl (s0,IntKind.i64.wrap (k3+(1:Int))))

def mL (s0:List Int)(k3:Int):Option ((List Int×Int)⊕((List Int)⊕(List Int))) :=
  bG (0<=k3/\k3<=((List.length s0:Nat):Int)) <|
  bG (0<=k3/\k3<=((List.length (lR (0+Int.toNat k3) s0):Nat):Int)) <|
  bG (Int.toNat k3<=List.length (lR (0+Int.toNat k3) s0)) <|
  some (.inr (.inr (List.take (Int.toNat k3) (lR (0+Int.toNat k3) s0))))

def kK (s0:List Int)(k3:Int)(k25:Int)(s24o:Nat)(s24n:Nat):Option ((List Int×Int×Int)⊕((List Int×Int))) :=
  some (.inl (s0,k3,IntKind.i64.wrap (k25+(1:Int))))

def gS (s24o:Nat)(s24n:Nat)(s0:List Int)(k3:Int)(k25:Int):Option ((List Int×Int×Int)⊕((List Int×Int))) :=
  cond (decide (k25<((s24n:Nat):Int)))
  (bG (0<=k25/\k25<((s24n:Nat):Int)) <|
  bG ((s24o+Int.toNat k25)<List.length s0) <|
  bG (0<=(IntKind.i64.wrap (k25-(1:Int)))/\(IntKind.i64.wrap (k25-(1:Int)))<((s24n:Nat):Int)) <|
  bG ((s24o+Int.toNat (IntKind.i64.wrap (k25-(1:Int))))<List.length s0) <|
  cond (!decide ((List.getD s0 (s24o+Int.toNat k25) default)=(List.getD s0 (s24o+Int.toNat (IntKind.i64.wrap (k25-(1:Int)))) default)))
  (bG (0<=k25/\k25<((s24n:Nat):Int)) <|
  bG ((s24o+Int.toNat k25)<List.length s0) <|
  bG (0<=k3/\k3<((List.length s0:Nat):Int)) <|
  kK (List.set s0 (Int.toNat k3) (List.getD s0 (s24o+Int.toNat k25) default)) (IntKind.i64.wrap (k3+(1:Int))) k25 s24o s24n)
  (kK s0 k3 k25 s24o s24n))
  (some (.inr (s0,k3)))

def oS (s0:List Int)(k3:Int)(k25:Int)(s24o:Nat)(s24n:Nat):Option ((List Int×Int)⊕((List Int)⊕(List Int))) :=
  (lp (fun s=>gS s24o s24n s.1 s.2.1 s.2.2) (s0,k3,k25)).bind (fun rr=>mL rr.1 rr.2)

def iY  (s0:List Int)(k3:Int):Option ((List Int×Int)⊕((List Int)⊕(List Int))) :=
  cond (decide (k3<((List.length s0:Nat):Int)))
  (bG (0<=k3/\k3<((List.length s0:Nat):Int)) <|
  bG (0<=(IntKind.i64.wrap (k3-(1:Int)))/\(IntKind.i64.wrap (k3-(1:Int)))<((List.length s0:Nat):Int)) <|
  cond (decide ((List.getD s0 (Int.toNat k3) default)=(List.getD s0 (Int.toNat (IntKind.i64.wrap (k3-(1:Int)))) default)))
  (bG (0<=k3/\k3<=((List.length s0:Nat):Int)) <|
  oS s0 k3 (1:Int) (0+Int.toNat k3) (List.length s0-Int.toNat k3))
  (oV s0 k3))
  (some (.inr (.inl s0)))

def oT (s0:List Int)(k3:Int):Option (List Int) :=
  (lp (fun s=>iY s.1 s.2) (s0,k3)).bind (Sum.elim (fun rr=>mO rr) (fun rr=>some rr))

def lA (s0:(List Int)):Option (List Int) :=
  cond (decide (((List.length s0:Nat):Int)<(2:Int)))
  (some s0)
  (oT s0 (1:Int))

def sY (t7c0:(List aJ))(out3:List Int)(t8:aJ):Option ((List Int)⊕(List Int)) :=
  bG ((List.length out3+List.length ([t8.At]))*8<=140737488355328/\List.length out3+List.length ([t8.At])<=9223372036854775807) <|
  some (.inl (out3++([t8.At])))

def yD (out3:List Int)(t7c0:(List aJ)):Option (List Int) :=
  (oM (fun st t8=>rnd (fun (s:List Int)=>sY t7c0 s t8) st) t7c0 (.inl out3)).bind (Sum.elim (fun (s:List Int) =>
  ((iH s).bind fun x10 =>
  (lA x10).bind fun x13 =>
  some x13))
  (fun (s:List Int) =>
  (none)))

def rE (l0:(List aJ)):Option (List Int) :=
  (sH l0).bind fun x3 =>
  yD ([]:List Int) x3

def rB (x0:Int):Option Bool :=
  some (!decide (x0=x0))

def kB (x0:(List Int))(gY:Int)(n6:Int)(i7:Int):Option (Int×Bool) :=
  bG ((((decide (i7<n6)))=true->0<=i7/\i7<((List.length x0:Nat):Int))) <|
  bG ((((!(decide ((List.getD x0 (Int.toNat i7) default)=gY)))&&(decide (i7<n6)))=true->0<=i7/\i7<((List.length x0:Nat):Int))) <|
  (cW ((!(decide ((List.getD x0 (Int.toNat i7) default)=gY)))&&(decide (i7<n6))) (rB (List.getD x0 (Int.toNat i7) default))).bind fun x3 =>
  (cW (x3&&((!(decide ((List.getD x0 (Int.toNat i7) default)=gY)))&&(decide (i7<n6)))) (rB gY)).bind fun x6 =>
  some (i7,(decide (i7<n6))&&((decide ((List.getD x0 (Int.toNat i7) default)=gY))||(x3&&x6)))

def fV (x0:(List Int))(gY:Int)(n6:Int)(i7:Int)(j8:Int):Option ((Int×Int)⊕(Int)) :=
  cond (decide (i7<j8))
  (bG (0<=(1:Int)) <|
  bG (0<=(IntKind.i64.wrap (Int.fdiv (IntKind.u64.wrap (IntKind.i64.wrap (i7+j8))) (2 ^ (min (Int.toNat (1:Int)) 64))))/\(IntKind.i64.wrap (Int.fdiv (IntKind.u64.wrap (IntKind.i64.wrap (i7+j8))) (2 ^ (min (Int.toNat (1:Int)) 64))))<((List.length x0:Nat):Int)) <|
  (eG (List.getD x0 (Int.toNat (IntKind.i64.wrap (Int.fdiv (IntKind.u64.wrap (IntKind.i64.wrap (i7+j8))) (2 ^ (min (Int.toNat (1:Int)) 64))))) default) gY).bind fun x12 =>
  cond x12
  (some (.inl (IntKind.i64.wrap ((IntKind.i64.wrap (Int.fdiv (IntKind.u64.wrap (IntKind.i64.wrap (i7+j8))) (2 ^ (min (Int.toNat (1:Int)) 64))))+(1:Int)),j8)))
  (some (.inl (i7,IntKind.i64.wrap (Int.fdiv (IntKind.u64.wrap (IntKind.i64.wrap (i7+j8))) (2 ^ (min (Int.toNat (1:Int)) 64)))))))
  (some (.inr i7))

def mG (x0:(List Int))(gY:Int)(n6:Int)(i7:Int)(j8:Int):Option (Int×Bool) :=
  (lp (fun s=>fV x0 gY n6 s.1 s.2) (i7,j8)).bind (fun rr=>kB x0 gY n6 rr)

def gM (x0:(List Int))(gY:Int):Option (Int×Bool) :=
  mG x0 gY ((List.length x0:Nat):Int) (0:Int) ((List.length x0:Nat):Int)

def yN (l0:(List aJ))(n1:Int)(t2:Int):Option (Int×Int) :=
  (vV l0 n1).bind fun x1 =>
  cond (!decide (x1=(0:Int)))
  (some ((0:Int),x1))
  (cond ((decide (t2<(0:Int)))||(decide ((1125899906842624:Int)<t2)))
  (some ((0:Int),(13:Int)))
  (cond (decide (t2=(1125899906842624:Int)))
  (some (t2,(0:Int)))
  ((rE l0).bind fun x7 =>
  (gM x7 t2).bind fun x10 =>
  cond (decide ((if (IntKind.i64.wrap ((IntKind.i64.wrap (x10.1-n1))+(1:Int)))>(0:Int) then (IntKind.i64.wrap ((IntKind.i64.wrap (x10.1-n1))+(1:Int))) else (0:Int))=x10.1))
  (some (t2,(0:Int)))
  (bG (0<=(if (IntKind.i64.wrap ((IntKind.i64.wrap (x10.1-n1))+(1:Int)))>(0:Int) then (IntKind.i64.wrap ((IntKind.i64.wrap (x10.1-n1))+(1:Int))) else (0:Int))/\(if (IntKind.i64.wrap ((IntKind.i64.wrap (x10.1-n1))+(1:Int)))>(0:Int) then (IntKind.i64.wrap ((IntKind.i64.wrap (x10.1-n1))+(1:Int))) else (0:Int))<((List.length x7:Nat):Int)) <|
  some (List.getD x7 (Int.toNat (if (IntKind.i64.wrap ((IntKind.i64.wrap (x10.1-n1))+(1:Int)))>(0:Int) then (IntKind.i64.wrap ((IntKind.i64.wrap (x10.1-n1))+(1:Int))) else (0:Int))) default,(0:Int))))))

def wI (w0:cC)(l1:(List aJ))(t2:Int):Option (Int×Int) :=
  (sP w0 l1 t2).bind fun x1 =>
  cond (!decide (x1=(0:Int)))
  (some ((0:Int),x1))
  (cond (decide (w0.Kind=(2:Int)))
  ((FX w0.Size w0.Hop t2).bind fun x6 =>
  some (if t2<x6.1 then t2 else x6.1,x6.2))
  (cond (decide (w0.Kind=(3:Int)))
  ((yN l1 w0.Size t2).bind fun x10 =>
  some (x10.1,x10.2))
  (some (t2,(0:Int)))))

def AJ (t1:Int):Option Int :=
  some t1

def uS (t1:Int)(t7:(List aJ))(t8:Int)(t9:Int):Option ((Int×Int)⊕(Int)) :=
  some (.inl (t1,IntKind.i64.wrap (t9+(1:Int))))

def rH (t7:(List aJ))(t8:Int)(t1:Int)(t9:Int):Option ((Int×Int)⊕(Int)) :=
  cond (decide (t9<t8))
  (bG (0<=t9/\t9<((List.length t7:Nat):Int)) <|
  cond (decide ((0:Int)<((List.getD t7 (Int.toNat t9) default).Net)))
  (uS (if (IntKind.i64.wrap (((List.getD t7 (Int.toNat t9) default).At)+(1:Int)))>t1 then (IntKind.i64.wrap (((List.getD t7 (Int.toNat t9) default).At)+(1:Int))) else t1) t7 t8 t9)
  (uS t1 t7 t8 t9))
  (some (.inr t1))

def AH (t1:Int)(t7:(List aJ))(t8:Int)(t9:Int):Option Int :=
  (lp (fun s=>rH t7 t8 s.1 s.2) (t1,t9)).bind (fun rr=>AJ rr)

def wN (l0:(List aJ))(t1:Int):Option Int :=
  AH t1 l0 ((List.length l0:Nat):Int) (0:Int)

def uF (l0:(List aJ)):Option ((List aJ)) :=
  some l0

def mW {σ:Type}(cY:σ->(List aH)->(List aM)->Option (σ×Bool))(t9c0:(List aJ))(sg:σ)(t10:(List aH))(t11:(List aM)):Option ((σ)⊕(σ)) :=
  (cY sg t10 t11).bind fun x7 =>
  cond (!x7.2)
  (some (.inr x7.1))
  (some (.inl x7.1))

def uY {σ:Type}(cY:σ->(List aH)->(List aM)->Option (σ×Bool))(sg:σ)(t9c0:(List aJ)):Option σ :=
  (rI (fun st t10 t11=>rnd (fun (s:σ)=>mW cY t9c0 s t10 t11) st) t9c0 (.inl sg)).bind (Sum.elim (fun (s:σ) =>
  (some s))
  (fun (s:σ) =>
  (some s)))

def pN {σ:Type}(cY:σ->(List aH)->(List aM)->Option (σ×Bool))(t1:(List aJ))(sg0:σ):Option σ :=
  (rY t1).bind fun x1 =>
  cond (!x1)
  (some sg0)
  ((zQ t1).bind fun x5 =>
  uY cY sg0 x5)

def HF (f0:(List aM)):Option ((List aM)) :=
  some f0

def qC {σ:Type}(cY:σ->aU->Option (σ×Bool))(sg:σ)(n3:Int)(lT:Int):Option σ :=
  cond (decide ((0:Int)<n3))
  ((cY sg (aU.mk lT (1125899906842624:Int))).bind fun x2 =>
  some x2.1)
  (some sg)

def oH {σ:Type}(cY:σ->aU->Option (σ×Bool))(sg:σ)(n3:Int)(lT:Int)(j6:aM)(t7:(List aM))(t8:Int)(t9:Int):Option ((σ×Int×Int×Int)⊕((σ×Int×Int)⊕σ)) :=
  (HJ (decide ((IntKind.i64.wrap (n3+j6.Net))=(0:Int))) sg (cY sg (aU.mk lT j6.At))).bind fun (x10,x11) =>
  cond ((decide ((IntKind.i64.wrap (n3+j6.Net))=(0:Int)))&&(!x11))
  (some (.inr (.inr x10)))
  (some (.inl (x10,IntKind.i64.wrap (n3+j6.Net),lT,IntKind.i64.wrap (t9+(1:Int)))))

def iL {σ:Type}(cY:σ->aU->Option (σ×Bool))(t7:(List aM))(t8:Int)(sg:σ)(n3:Int)(lT:Int)(t9:Int):Option ((σ×Int×Int×Int)⊕((σ×Int×Int)⊕σ)) :=
  cond (decide (t9<t8))
  (bG (0<=t9/\t9<((List.length t7:Nat):Int)) <|
  cond (decide (n3=(0:Int)))
  (oH cY sg n3 ((List.getD t7 (Int.toNat t9) default).At) (List.getD t7 (Int.toNat t9) default) t7 t8 t9)
  (oH cY sg n3 lT (List.getD t7 (Int.toNat t9) default) t7 t8 t9))
  (some (.inr (.inl (sg,n3,lT))))

def xI {σ:Type}(cY:σ->aU->Option (σ×Bool))(sg:σ)(n3:Int)(lT:Int)(t7:(List aM))(t8:Int)(t9:Int):Option σ :=
  (lp (fun s=>iL cY t7 t8 s.1 s.2.1 s.2.2.1 s.2.2.2) (sg,n3,lT,t9)).bind (Sum.elim (fun rr=>qC cY rr.1 rr.2.1 rr.2.2) (fun rr=>some rr))

def vB {σ:Type}(cY:σ->aU->Option (σ×Bool))(t1:(List aM))(sg0:σ):Option σ :=
  xI cY sg0 (0:Int) (0:Int) t1 ((List.length t1:Nat):Int) (0:Int)

def EV (dM:Int)(hop1:Int)(s2:aU)(cD:Int)(bU:Int):Option ((Int×aU×Int×Int×Int)) :=
  some (hop1,s2,dM,cD,bU)

def kV {σ:Type}(cY:σ->Int->Option (σ×Bool))(t1:Int)(t2:aU)(t5:Int)(sg:σ)(t8:Int):Option ((σ×Int)⊕(σ⊕σ)) :=
  cond (decide (t8<(if (1125899906842624:Int)<(if t5<t2.To then t5 else t2.To) then (1125899906842624:Int) else (if t5<t2.To then t5 else t2.To))))
  ((cY sg t8).bind fun x8 =>
  cond (!x8.2)
  (some (.inr (.inr x8.1)))
  (some (.inl (x8.1,IntKind.i64.wrap (t8+t1)))))
  (some (.inr (.inl sg)))

def rV {σ:Type}(cY:σ->Int->Option (σ×Bool))(sg:σ)(t1:Int)(t2:aU)(t5:Int)(t8:Int):Option σ :=
  (lp (fun s=>kV cY t1 t2 t5 s.1 s.2) (sg,t8)).bind (Sum.elim (fun rr=>some rr) (fun rr=>some rr))

def tR {σ:Type}(cY:σ->Int->Option (σ×Bool))(t1:Int)(t2:aU)(t3:Int)(t4:Int)(t5:Int)(sg0:σ):Option σ :=
  (tD t1 (IntKind.i64.wrap (t2.From-t3))).bind fun x1 =>
  (tD t1 (IntKind.i64.wrap (t4-(1:Int)))).bind fun x4 =>
  rV cY sg0 t1 t2 t5 (if x4>x1 then x4 else x1)

def CB (v5:Int):Option Int :=
  some v5

def qR (t1:Int)(t11:(List aM))(t12:Int)(v5:Int)(t13:Int):Option ((Int×Int)⊕(Int)) :=
  cond (decide (t13<t12))
  (bG (0<=t13/\t13<((List.length t11:Nat):Int)) <|
  cond (decide (t1<((List.getD t11 (Int.toNat t13) default).At)))
  (some (.inr v5))
  (some (.inl (IntKind.i64.wrap (v5+((List.getD t11 (Int.toNat t13) default).Net)),IntKind.i64.wrap (t13+(1:Int))))))
  (some (.inr v5))

def IM (t1:Int)(v5:Int)(t11:(List aM))(t12:Int)(t13:Int):Option Int :=
  (lp (fun s=>qR t1 t11 t12 s.1 s.2) (v5,t13)).bind (fun rr=>CB rr)

def EM (f0:(List aM))(t1:Int):Option Int :=
  (sC f0).bind fun x1 =>
  cond (!x1)
  (some (0:Int))
  (IM t1 (0:Int) f0 ((List.length f0:Nat):Int) (0:Int))

def BL (n5:Int):Option Int :=
  some n5

def sK (w3:aU)(n5:Int)(t12:(List aM))(t13:Int)(t14:Int):Option ((Int×Int)⊕(Int)) :=
  some (.inl (n5,IntKind.i64.wrap (t14+(1:Int))))

def sJ (w3:aU)(t12:(List aM))(t13:Int)(n5:Int)(t14:Int):Option ((Int×Int)⊕(Int)) :=
  cond (decide (t14<t13))
  (bG (0<=t14/\t14<((List.length t12:Nat):Int)) <|
  cond ((decide (w3.From<((List.getD t12 (Int.toNat t14) default).At)))&&(decide (((List.getD t12 (Int.toNat t14) default).At)<w3.To)))
  (sK w3 (IntKind.i64.wrap (n5+(if (0:Int)>((List.getD t12 (Int.toNat t14) default).Net) then (0:Int) else ((List.getD t12 (Int.toNat t14) default).Net)))) t12 t13 t14)
  (sK w3 n5 t12 t13 t14))
  (some (.inr n5))

def BN (w3:aU)(n5:Int)(t12:(List aM))(t13:Int)(t14:Int):Option Int :=
  (lp (fun s=>sJ w3 t12 t13 s.1 s.2) (n5,t14)).bind (fun rr=>BL rr)

def zF (f0:(List aM))(w1:aU):Option Int :=
  (EM f0 w1.From).bind fun x1 =>
  BN w1 x1 f0 ((List.length f0:Nat):Int) (0:Int)

def shP (a b:Nat)(p:aG):List (Nat×Nat×List V):=[(a,3,[(.agg [(eI p.Span.From),(eI p.Span.To),(.msl 2 b 0 (List.length p.Rows))])]),(b,2,List.map bB p.Rows)]

def shF (a _b:Nat)(p:aG):List (Nat×Nat×List V):=[(a,3,[(aK p)])]

def rS (r:List aH)(f:List aM)(p:aG):Option aG :=
  bG ((!(decide ((wR ((lN p.Rows)-(1:Int)))<(0:Int))))=true->0<=(wR ((lN p.Rows)-(1:Int)))/\(wR ((lN p.Rows)-(1:Int)))<(lN p.Rows)) <|
  (cW (!(decide ((wR ((lN p.Rows)-(1:Int)))<(0:Int)))) (uQ ((gD p.Rows (wR ((lN p.Rows)-(1:Int)))).Row) r)).bind fun x1 =>
  cond ((decide ((wR ((lN p.Rows)-(1:Int)))<(0:Int)))||(!x1))
  ((BZ r).bind fun x2 =>
  (zF f p.Span).bind fun x3 =>
  bG ((List.length p.Rows+List.length ([bA.mk x2 x3]))*32<=140737488355328/\List.length p.Rows+List.length ([bA.mk x2 x3])<=9223372036854775807) <|
  some (aG.mk p.Span (p.Rows++[bA.mk x2 x3])))
  (some p)

def pX (r:List aH)(f:List aM)(size:Int)(b:Bool)(m:List (Int×aG))(t:Int):Option ((Bool×List (Int×aG))⊕(Bool×List (Int×aG))) :=
  match hY m t with
  | none=>cond (decide ((lN m)=(1024:Int)))
    (some (.inr (false,m)))
    ((rS r f (aG.mk (aU.mk t (if (1125899906842624:Int)<(wR (t+size)) then (1125899906842624:Int) else (wR (t+size)))) [])).bind fun p=>some (.inl (b,fX m t p)))
  | some p=>(rS r f p).bind fun p=>some (.inl (b,fX m t p))

def rP (r:List aH)(f:List aM)(size hop frm front:Int)(b:Bool)(m:List (Int×aG))(s:aU):Option ((Bool×List (Int×aG))⊕(Bool×List (Int×aG))) :=
  (EV size hop s frm front).bind fun x =>
  (tR (fun st t=>rnd (fun (q:Bool×List (Int×aG))=>pX r f size q.1 q.2 t) st) x.1 x.2.1 x.2.2.1 x.2.2.2.1 x.2.2.2.2 (.inl (b,m))).bind (Sum.elim (fun q=>some (.inl q)) (fun q=>some (.inr q)))

def BD (m:List (Int×aG))(r:List aH)(f:List aM)(size hop frm front:Int):Option (Bool×List (Int×aG)) :=
  (HF f).bind fun x =>
  (vB (fun st s=>rnd (fun (q:Bool×List (Int×aG))=>rP r f size hop frm front q.1 q.2 s) st) x (.inl (false,m))).bind (Sum.elim (fun q=>some (true,q.2)) (fun q=>some (q.1,q.2)))

def pH (size hop frm front:Int)(t10:List aG)(t11:Int)(m:List (Int×aG))(r:List aH)(f:List aM):Option ((List aG×Int×List (Int×aG))⊕(List aG×Int×List (Int×aG))) :=
  (BD m r f size hop frm front).bind fun x =>
  cond (!x.1)
  (some (.inr ([],(7:Int),x.2)))
  (some (.inl (t10,t11,x.2)))

def xB (m:List (Int×aG))(b:List Int)(n:Int)(out:List aG)(i:Int):Option ((List aG×Int)⊕(List aG)) :=
  cond (decide (i<n))
  (bG (0<=i/\i<(lN b)) <|
  match hY m (gD b i) with
  | none=>none
  | some p =>
    bG ((List.length out+List.length ([p]))*40<=140737488355328/\List.length out+List.length ([p])<=9223372036854775807) <|
    some (.inl (out++[p],wR (i+(1:Int)))))
  (some (.inr out))

def JI (m:List (Int×aG))(b:List Int):Option (List aG×Int) :=
  (iH b).bind fun b =>
  bG (0<=(lN b)/\(40:Int)*(lN b)<=281474976710656/\(lN b)<=9223372036854775807) <|
  (lp (fun s=>xB m b (lN b) s.1 s.2) (([]:List aG),(0:Int))).bind fun out=>some (out,(0:Int))

def wH (s:List Int)(k:Int):Option (List Int) :=
  bG ((List.length s+List.length ([k]))*8<=140737488355328/\List.length s+List.length ([k])<=9223372036854775807) <|
  some (s++[k])

def AW (m:List (Int×aG)):Option (List aG×Int) :=
  bG (0<=(lN m)/\(8:Int)*(lN m)<=281474976710656/\(lN m)<=9223372036854775807) <|
  xP (m.map (·.1)) (fun q=>(dL wH ([]:List Int) q).bind (JI m))

def JG (l:List aJ)(size hop frm front:Int)(t10:List aG)(t11:Int):Option (List aG×Int) :=
  (uF l).bind fun x =>
  (pN (fun st r f=>rnd (fun (q:List aG×Int×List (Int×aG))=>pH size hop frm front q.1 q.2.1 q.2.2 r f) st) x (.inl (t10,t11,[]))).bind (Sum.elim (fun q=>AW q.2.2) (fun q=>some (q.1,q.2.1)))

def DH (l0:(List aJ))(cG:Int)(hop2:Int)(cD:Int)(bU:Int):Option ((List aG)×Int) :=
  (EP cG hop2).bind fun x3 =>
  (cW (!(!x3)) (rY l0)).bind fun x6 =>
  cond ((!x3)||(!x6))
  (some ([],(2:Int)))
  ((qY l0).bind fun x10 =>
  cond (!x10)
  (some ([],(20:Int)))
  ((yC cD).bind fun x14 =>
  (cW (!(!x14)) (yC bU)).bind fun x17 =>
  cond ((!x14)||(!x17))
  (some ([],(13:Int)))
  (JG l0 cG hop2 cD bU ([]) 0)))

def gT (s0:(List aH)):Option (List aH) :=
  bG (List.length s0*32<=140737488355328/\List.length s0<=9223372036854775807) <|
  some s0

def qG (CG:(List aJ))(t4:aG)(p5:aG)(t22:aJ):Option ((aG×aG)⊕(aG×aG)) :=
  cond ((decide (t22.At<p5.Span.From))||(decide (p5.Span.To<=t22.At)))
  (some (.inl (t4,p5)))
  (bG ((((decide ((0:Int)<=(IntKind.i64.wrap (((List.length p5.Rows:Nat):Int)-(1:Int))))))=true->0<=(IntKind.i64.wrap (((List.length p5.Rows:Nat):Int)-(1:Int)))/\(IntKind.i64.wrap (((List.length p5.Rows:Nat):Int)-(1:Int)))<((List.length p5.Rows:Nat):Int))) <|
  (cW (decide ((0:Int)<=(IntKind.i64.wrap (((List.length p5.Rows:Nat):Int)-(1:Int))))) (gV ((List.getD p5.Rows (Int.toNat (IntKind.i64.wrap (((List.length p5.Rows:Nat):Int)-(1:Int)))) default).Row) t22.Row)).bind fun x13 =>
  cond ((decide ((0:Int)<=(IntKind.i64.wrap (((List.length p5.Rows:Nat):Int)-(1:Int)))))&&x13)
  (bG (0<=(IntKind.i64.wrap (((List.length p5.Rows:Nat):Int)-(1:Int)))/\(IntKind.i64.wrap (((List.length p5.Rows:Nat):Int)-(1:Int)))<((List.length p5.Rows:Nat):Int)) <|
  bG (0<=(IntKind.i64.wrap (((List.length p5.Rows:Nat):Int)-(1:Int)))/\(IntKind.i64.wrap (((List.length p5.Rows:Nat):Int)-(1:Int)))<((List.length p5.Rows:Nat):Int)) <|
  some (.inl (t4,aG.mk p5.Span (List.set p5.Rows (Int.toNat (IntKind.i64.wrap (((List.length p5.Rows:Nat):Int)-(1:Int)))) (bA.mk (List.getD p5.Rows (Int.toNat (IntKind.i64.wrap (((List.length p5.Rows:Nat):Int)-(1:Int)))) default).Row (IntKind.i64.wrap (((List.getD p5.Rows (Int.toNat (IntKind.i64.wrap (((List.length p5.Rows:Nat):Int)-(1:Int)))) default).N)+t22.Net)))))))
  ((gT t22.Row).bind fun x19 =>
  bG ((List.length p5.Rows+List.length ([bA.mk x19 t22.Net]))*32<=140737488355328/\List.length p5.Rows+List.length ([bA.mk x19 t22.Net])<=9223372036854775807) <|
  some (.inl (t4,aG.mk p5.Span (p5.Rows++([bA.mk x19 t22.Net]))))))

def xT (t4:aG)(p5:aG)(CG:(List aJ)):Option aG :=
  (oM (fun st t22=>rnd (fun (s:aG×aG)=>qG CG s.1 s.2 t22) st) CG (.inl (t4,p5))).bind (Sum.elim (fun (s:aG×aG) =>
  (some s.2))
  (fun (s:aG×aG) =>
  (none)))

def uU (l0:(List aJ))(run1:(List Int)):Option aG :=
  bG (0<=(0:Int)/\(0:Int)<((List.length run1:Nat):Int)) <|
  bG (0<=(IntKind.i64.wrap (((List.length run1:Nat):Int)-(1:Int)))/\(IntKind.i64.wrap (((List.length run1:Nat):Int)-(1:Int)))<((List.length run1:Nat):Int)) <|
  (sH l0).bind fun x6 =>
  xT (aG.mk (aU.mk 0 0) ([])) (aG.mk (aU.mk (List.getD run1 (Int.toNat (0:Int)) default) (IntKind.i64.wrap ((List.getD run1 (Int.toNat (IntKind.i64.wrap (((List.length run1:Nat):Int)-(1:Int)))) default)+(1:Int)))) ([])) x6

def zV (dU:List aG):Option ((List aG)×Int) :=
  some (dU,(0:Int))

def nV (l0:(List aJ))(n1:Int)(nF:(List Int))(dU:List aG):Option (((List Int)×List aG)⊕((List aG))) :=
  cond (decide (n1<=((List.length nF:Nat):Int)))
  (bG (0<=n1/\n1<=n1/\n1<=((List.length nF:Nat):Int)) <|
  (uU l0 (List.take (Int.toNat n1) nF)).bind fun x20 =>
  bG ((List.length dU+List.length ([x20]))*40<=140737488355328/\List.length dU+List.length ([x20])<=9223372036854775807) <|
  bG (0<=(1:Int)/\(1:Int)<=((List.length nF:Nat):Int)) <|
  some (.inl (List.drop (Int.toNat (1:Int)) nF,dU++([x20]))))
  (some (.inr dU))

def AE (l0:(List aJ))(n1:Int)(nF:(List Int))(dU:List aG):Option ((List aG)×Int) :=
  (lp (fun s=>nV l0 n1 s.1 s.2) (nF,dU)).bind (fun rr=>zV rr)

def wG (l0:(List aJ))(n1:Int)(bZ:Int):Option ((List aG)×Int) :=
  (vV l0 n1).bind fun x1 =>
  cond (!decide (x1=(0:Int)))
  (some ([],x1))
  (cond ((decide (bZ<(0:Int)))||(decide ((1125899906842624:Int)<bZ)))
  (some ([],(13:Int)))
  ((rE l0).bind fun x6 =>
  (gM x6 bZ).bind fun x9 =>
  bG (0<=x9.1/\x9.1<=((List.length x6:Nat):Int)/\((List.length x6:Nat):Int)<=((List.length x6:Nat):Int)/\((List.length x6:Nat):Int)<=((List.length x6:Nat):Int)) <|
  cond (decide ((1024:Int)<(IntKind.i64.wrap ((IntKind.i64.wrap (((List.length (List.drop (Int.toNat x9.1) (List.take (Int.toNat ((List.length x6:Nat):Int)) x6)):Nat):Int)-n1))+(1:Int)))))
  (some ([],(7:Int)))
  (AE l0 n1 (List.drop (Int.toNat x9.1) (List.take (Int.toNat ((List.length x6:Nat):Int)) x6)) ([]:List aG))))

def FO (out9:List Int):Option ((List Int)×Int) :=
  (iH out9).bind fun x16 =>
  some (x16,(0:Int))

def wZ (t50:(List (Int×Int)))(out9:List Int)(mk:Int)(mv:Int):Option (List Int) :=
  bG ((List.length out9+List.length ([mk]))*8<=140737488355328/\List.length out9+List.length ([mk])<=9223372036854775807) <|
  some (out9++([mk]))

def GD (t50:(List (Int×Int)))(out9:List Int):Option ((List Int)×Int) :=
  FO out9

def FC (out9:List Int)(t50:(List (Int×Int))):Option ((List Int)×Int) :=
  xP t50 (fun q=>(dL (fun (s:List Int) (x:Int×Int)=>wZ t50 s x.1 x.2) out9 q).bind (fun (s:List Int)=>GD t50 s))

def AP (mM:(List (Int×Int))):Option ((List Int)×Int) :=
  bG (0<=((List.length mM:Nat):Int)/\(8:Int)*((List.length mM:Nat):Int)<=281474976710656/\((List.length mM:Nat):Int)<=9223372036854775807) <|
  FC ([]:List Int) mM

def wK (dN:Int)(mM:(List (Int×Int)))(t32:(List aJ))(t33:Int)(t34:Int):Option (((List (Int×Int))×Int)⊕((List (Int×Int)))) :=
  some (.inl (mM,IntKind.i64.wrap (t34+(1:Int))))

def rA (dN:Int)(t32:(List aJ))(t33:Int)(mM:(List (Int×Int)))(t34:Int):Option (((List (Int×Int))×Int)⊕((List (Int×Int)))) :=
  cond (decide (t34<t33))
  (bG (0<=t34/\t34<((List.length t32:Nat):Int)) <|
  cond (decide (dN<((List.getD t32 (Int.toNat t34) default).At)))
  (wK dN (fX mM ((List.getD t32 (Int.toNat t34) default).At) (1:Int)) t32 t33 t34)
  (wK dN mM t32 t33 t34))
  (some (.inr mM))

def FD (dN:Int)(mM:(List (Int×Int)))(t32:(List aJ))(t33:Int)(t34:Int):Option ((List Int)×Int) :=
  (lp (fun s=>rA dN t32 t33 s.1 s.2) (mM,t34)).bind (fun rr=>AP rr)

def DF (l0:(List aJ))(dN:Int):Option ((List Int)×Int) :=
  (rY l0).bind fun x1 =>
  cond (!x1)
  (some ([],(2:Int)))
  ((qY l0).bind fun x5 =>
  cond (!x5)
  (some ([],(20:Int)))
  (cond ((decide (dN<(0:Int)))||(decide ((1125899906842624:Int)<dN)))
  (some ([],(13:Int)))
  (cond (decide (dN=(1125899906842624:Int)))
  (some ([],(0:Int)))
  (FD dN (fX ([]:(List (Int×Int))) dN (1:Int)) l0 ((List.length l0:Nat):Int) (0:Int)))))

def AI (out4:List bA):Option (List bA) :=
  some out4

def rL (t0:Int)(out4:List bA)(t9:(List cP))(t10:Int)(t11:Int):Option ((List bA×Int)⊕((List bA))) :=
  some (.inl (out4,IntKind.i64.wrap (t11+(1:Int))))

def oX (t0:Int)(t9:(List cP))(t10:Int)(out4:List bA)(t11:Int):Option ((List bA×Int)⊕((List bA))) :=
  cond (decide (t11<t10))
  (bG (0<=t11/\t11<((List.length t9:Nat):Int)) <|
  (EM ((List.getD t9 (Int.toNat t11) default).jumps) t0).bind fun x9 =>
  cond (decide ((0:Int)<x9))
  ((gT ((List.getD t9 (Int.toNat t11) default).row)).bind fun x16 =>
  bG ((List.length out4+List.length ([bA.mk x16 x9]))*32<=140737488355328/\List.length out4+List.length ([bA.mk x16 x9])<=9223372036854775807) <|
  rL t0 (out4++([bA.mk x16 x9])) t9 t10 t11)
  (rL t0 out4 t9 t10 t11))
  (some (.inr out4))

def zT (t0:Int)(out4:List bA)(t9:(List cP))(t10:Int)(t11:Int):Option (List bA) :=
  (lp (fun s=>oX t0 t9 t10 s.1 s.2) (out4,t11)).bind (fun rr=>AI rr)

def vY (t0:Int)(t1:(List cP)):Option (List bA) :=
  zT t0 ([]:List bA) t1 ((List.length t1:Nat):Int) (0:Int)

def pV (cQ:(List Int))(BQ:(List aJ))(all8:List cP)(t29:(List aH))(t30:(List aM)):Option ((List cP)⊕(List cP)) :=
  bG ((List.length all8+List.length ([cP.mk t29 t30]))*48<=140737488355328/\List.length all8+List.length ([cP.mk t29 t30])<=9223372036854775807) <|
  some (.inl (all8++([cP.mk t29 t30])))

def DS (bR:List aG):Option ((List aG)×Int) :=
  some (bR,(0:Int))

def yF (cQ:(List Int))(iD:(List cP))(bR:List aG)(t39:(List Int))(t40:Int)(t41:Int):Option ((List aG×Int)⊕((List aG)⊕((List aG)×Int))) :=
  some (.inl (bR,IntKind.i64.wrap (t41+(1:Int))))

def yM (cQ:(List Int))(iD:(List cP))(bR:List aG)(t14:Int)(xA:(List bA))(FQ:Int)(t39:(List Int))(t40:Int)(t41:Int):Option ((List aG×Int)⊕((List aG)⊕((List aG)×Int))) :=
  bG ((List.length bR+List.length ([aG.mk (aU.mk t14 FQ) xA]))*40<=140737488355328/\List.length bR+List.length ([aG.mk (aU.mk t14 FQ) xA])<=9223372036854775807) <|
  yF cQ iD (bR++([aG.mk (aU.mk t14 FQ) xA])) t39 t40 t41

def pY (cQ:(List Int))(iD:(List cP))(t39:(List Int))(t40:Int)(bR:List aG)(t41:Int):Option ((List aG×Int)⊕((List aG)⊕((List aG)×Int))) :=
  cond (decide (t41<t40))
  (bG (0<=t41/\t41<((List.length t39:Nat):Int)) <|
  (vY (List.getD t39 (Int.toNat t41) default) iD).bind fun x20 =>
  cond (decide (((List.length x20:Nat):Int)=(0:Int)))
  (yF cQ iD bR t39 t40 t41)
  (cond (decide (((List.length bR:Nat):Int)=(1024:Int)))
  (some (.inr (.inr ([],(7:Int)))))
  (cond (decide ((IntKind.i64.wrap (t41+(1:Int)))<((List.length cQ:Nat):Int)))
  (bG (0<=(IntKind.i64.wrap (t41+(1:Int)))/\(IntKind.i64.wrap (t41+(1:Int)))<((List.length cQ:Nat):Int)) <|
  yM cQ iD bR (List.getD t39 (Int.toNat t41) default) x20 (List.getD cQ (Int.toNat (IntKind.i64.wrap (t41+(1:Int)))) default) t39 t40 t41)
  (yM cQ iD bR (List.getD t39 (Int.toNat t41) default) x20 (1125899906842624:Int) t39 t40 t41))))
  (some (.inr (.inl bR)))

def zD (cQ:(List Int))(iD:(List cP))(bR:List aG)(t39:(List Int))(t40:Int)(t41:Int):Option ((List aG)×Int) :=
  (lp (fun s=>pY cQ iD t39 t40 s.1 s.2) (bR,t41)).bind (Sum.elim (fun rr=>DS rr) (fun rr=>some (rr.1,rr.2)))

def EB (cQ:(List Int))(all8:List cP)(BQ:(List aJ)):Option ((List aG)×Int) :=
  (pN (fun st t29 t30=>rnd (fun (s:List cP)=>pV cQ BQ s t29 t30) st) BQ (.inl all8)).bind (Sum.elim (fun (s:List cP) =>
  (zD cQ s ([]:List aG) cQ ((List.length cQ:Nat):Int) (0:Int)))
  (fun (s:List cP) =>
  (none)))

def BE (l0:(List aJ))(dN:Int):Option ((List aG)×Int) :=
  (DF l0 dN).bind fun x1 =>
  cond (!decide (x1.2=(0:Int)))
  (some ([],x1.2))
  ((uF l0).bind fun x7 =>
  EB x1.1 ([]:List cP) x7)

def sO (w0:cC)(l1:(List aJ))(bZ:Int)(t3:Int):Option ((List aG)×Int) :=
  (sP w0 l1 t3).bind fun x1 =>
  cond (!decide (x1=(0:Int)))
  (some ([],x1))
  (cond (decide (w0.Kind=(2:Int)))
  ((wN l1 t3).bind fun x6 =>
  (DH l1 w0.Size w0.Hop bZ x6).bind fun x9 =>
  some (x9.1,x9.2))
  (cond (decide (w0.Kind=(3:Int)))
  ((wG l1 w0.Size bZ).bind fun x13 =>
  some (x13.1,x13.2))
  ((BE l1 bZ).bind fun x16 =>
  some (x16.1,x16.2))))

def wQ  : Option Bool :=
  (wI (cC.mk (2:Int) (10:Int) (5:Int)) ([aJ.mk ([aH.mk (1:Int) (1:Int) ByteArray.empty]) (3:Int) (1:Int),aJ.mk ([aH.mk (1:Int) (1:Int) ByteArray.empty]) (7:Int) (-1:Int)]) (12:Int)).bind fun x2 =>
  (sO (cC.mk (2:Int) (10:Int) (5:Int)) ([aJ.mk ([aH.mk (1:Int) (1:Int) ByteArray.empty]) (3:Int) (1:Int),aJ.mk ([aH.mk (1:Int) (1:Int) ByteArray.empty]) (7:Int) (-1:Int)]) (0:Int) (2:Int)).bind fun x5 =>
  bG (((((((decide (x2.1=(5:Int)))&&(decide (x2.2=(0:Int))))&&(decide (x5.2=(0:Int))))&&(decide (((List.length x5.1:Nat):Int)=(1:Int)))))=true->0<=(0:Int)/\(0:Int)<((List.length x5.1:Nat):Int))) <|
  (cW (((((decide (x2.1=(5:Int)))&&(decide (x2.2=(0:Int))))&&(decide (x5.2=(0:Int))))&&(decide (((List.length x5.1:Nat):Int)=(1:Int))))&&((decide ((((List.getD x5.1 (Int.toNat (0:Int)) default).Span).From)=((aU.mk 0 (10:Int)).From)))&&((decide ((((List.getD x5.1 (Int.toNat (0:Int)) default).Span).To)=((aU.mk 0 (10:Int)).To)))&&true))) (sW (cC.mk 0 0 0))).bind fun x9 =>
  some ((((((decide (x2.1=(5:Int)))&&(decide (x2.2=(0:Int))))&&(decide (x5.2=(0:Int))))&&(decide (((List.length x5.1:Nat):Int)=(1:Int))))&&((decide ((((List.getD x5.1 (Int.toNat (0:Int)) default).Span).From)=((aU.mk 0 (10:Int)).From)))&&((decide ((((List.getD x5.1 (Int.toNat (0:Int)) default).Span).To)=((aU.mk 0 (10:Int)).To)))&&true)))&&(decide (x9=(2:Int))))

def qQ (dM:Int)(hop1:Int):Option Bool :=
  some ((((decide ((0:Int)<dM))&&(decide (dM<=(1099511627776:Int))))&&(decide ((0:Int)<hop1)))&&(decide (hop1<=(1099511627776:Int))))

def CT (w0:cC):Option Bool :=
  cond (decide (w0.Kind=(2:Int)))
  ((qQ w0.Size w0.Hop).bind fun x2 =>
  some x2)
  (cond (!decide (w0.Hop=(0:Int)))
  (some false)
  (some (((decide (w0.Kind=(1:Int)))&&(decide (w0.Size=(0:Int))))||(((decide (w0.Kind=(3:Int)))&&(decide ((0:Int)<w0.Size)))&&(decide (w0.Size<=(64:Int)))))))

def vK (v0:aH):Option Bool :=
  cond (decide (v0.Kind=(1:Int)))
  (some (qT v0.Text (⟨#[]⟩:ByteArray)))
  (some (((decide (v0.Kind=(2:Int)))&&(decide (v0.Num=(0:Int))))&&(decide (((ByteArray.size v0.Text:Nat):Int)<=(64:Int)))))

def vX (r0:(List aH)):Option Bool :=
  some (decide (((List.length r0:Nat):Int)<=(8:Int)))

def tM (r0:(List aH))(i3:Int):Option ((Int)⊕(Unit⊕Bool)) :=
  cond ((decide (i3<((List.length r0:Nat):Int)))&&(decide (i3<(9:Int))))
  (bG (0<=i3/\i3<((List.length r0:Nat):Int)) <|
  (vK (List.getD r0 (Int.toNat i3) default)).bind fun x3 =>
  cond (!x3)
  (some (.inr (.inr false)))
  (some (.inl (IntKind.i64.wrap (i3+(1:Int))))))
  (some (.inr (.inl ())))

def EU (r0:(List aH))(i3:Int):Option Bool :=
  (lp (fun s=>tM r0 s) i3).bind (Sum.elim (fun rr=>vX r0) (fun rr=>some rr))

def vF (r0:(List aH)):Option Bool :=
  EU r0 (0:Int)

def AN  : Option Bool :=
  some true

def nY (f0:(List aM))(i3:Int):Option ((Int)⊕(Unit⊕Bool)) :=
  cond (decide (i3<((List.length f0:Nat):Int)))
  (bG (0<=i3/\i3<((List.length f0:Nat):Int)) <|
  bG ((((!(decide (((List.getD f0 (Int.toNat i3) default).At)<(-1:Int)))))=true->0<=i3/\i3<((List.length f0:Nat):Int))) <|
  bG ((((!((decide (((List.getD f0 (Int.toNat i3) default).At)<(-1:Int)))||(decide ((1125899906842624:Int)<=((List.getD f0 (Int.toNat i3) default).At))))))=true->0<=i3/\i3<((List.length f0:Nat):Int))) <|
  bG ((((!(((decide (((List.getD f0 (Int.toNat i3) default).At)<(-1:Int)))||(decide ((1125899906842624:Int)<=((List.getD f0 (Int.toNat i3) default).At))))||(decide (((List.getD f0 (Int.toNat i3) default).Net)=(0:Int))))))=true->0<=i3/\i3<((List.length f0:Nat):Int))) <|
  bG ((((!((((decide (((List.getD f0 (Int.toNat i3) default).At)<(-1:Int)))||(decide ((1125899906842624:Int)<=((List.getD f0 (Int.toNat i3) default).At))))||(decide (((List.getD f0 (Int.toNat i3) default).Net)=(0:Int))))||(decide ((1048576:Int)<((List.getD f0 (Int.toNat i3) default).Net))))))=true->0<=i3/\i3<((List.length f0:Nat):Int))) <|
  cond (((((decide (((List.getD f0 (Int.toNat i3) default).At)<(-1:Int)))||(decide ((1125899906842624:Int)<=((List.getD f0 (Int.toNat i3) default).At))))||(decide (((List.getD f0 (Int.toNat i3) default).Net)=(0:Int))))||(decide ((1048576:Int)<((List.getD f0 (Int.toNat i3) default).Net))))||(decide (((List.getD f0 (Int.toNat i3) default).Net)<(-1048576:Int))))
  (some (.inr (.inr false)))
  (bG ((((decide ((0:Int)<i3)))=true->0<=i3/\i3<((List.length f0:Nat):Int))) <|
  bG ((((decide ((0:Int)<i3)))=true->0<=(IntKind.i64.wrap (i3-(1:Int)))/\(IntKind.i64.wrap (i3-(1:Int)))<((List.length f0:Nat):Int))) <|
  cond ((decide ((0:Int)<i3))&&(decide (((List.getD f0 (Int.toNat i3) default).At)<=((List.getD f0 (Int.toNat (IntKind.i64.wrap (i3-(1:Int)))) default).At))))
  (some (.inr (.inr false)))
  (some (.inl (IntKind.i64.wrap (i3+(1:Int)))))))
  (some (.inr (.inl ())))

def FP (f0:(List aM))(i3:Int):Option Bool :=
  (lp (fun s=>nY f0 s) i3).bind (Sum.elim (fun rr=>AN ) (fun rr=>some rr))

def vI (f0:(List aM)):Option Bool :=
  cond (decide ((1024:Int)<((List.length f0:Nat):Int)))
  (some false)
  (FP f0 (0:Int))

def tL (a2:aH)(b3:aH):Option Int :=
  cond (!decide (((ByteArray.size a2.Text:Nat):Int)=((ByteArray.size b3.Text:Nat):Int)))
  (cond (decide (((ByteArray.size a2.Text:Nat):Int)<((ByteArray.size b3.Text:Nat):Int)))
  (some (-1:Int))
  (some (1:Int)))
  (some (0:Int))

def kJ (a2:aH)(b3:aH)(i5:Int):Option ((Int)⊕(Unit⊕Int)) :=
  cond ((decide (i5<((ByteArray.size a2.Text:Nat):Int)))&&(decide (i5<((ByteArray.size b3.Text:Nat):Int))))
  (bG (0<=i5/\i5<((ByteArray.size a2.Text:Nat):Int)) <|
  bG (0<=i5/\i5<((ByteArray.size b3.Text:Nat):Int)) <|
  cond (!decide ((bt a2.Text i5)=(bt b3.Text i5)))
  (bG (0<=i5/\i5<((ByteArray.size a2.Text:Nat):Int)) <|
  bG (0<=i5/\i5<((ByteArray.size b3.Text:Nat):Int)) <|
  cond (decide ((bt a2.Text i5)<(bt b3.Text i5)))
  (some (.inr (.inr (-1:Int))))
  (some (.inr (.inr (1:Int)))))
  (some (.inl (IntKind.i64.wrap (i5+(1:Int))))))
  (some (.inr (.inl ())))

def yB (a2:aH)(b3:aH)(i5:Int):Option Int :=
  (lp (fun s=>kJ a2 b3 s) i5).bind (Sum.elim (fun rr=>tL a2 b3) (fun rr=>some rr))

def uP (a0:aH)(b1:aH):Option Int :=
  (vK a0).bind fun x1 =>
  (cW (!(!x1)) (vK b1)).bind fun x4 =>
  cond ((!x1)||(!x4))
  (some (0:Int))
  (cond (!decide (a0.Kind=b1.Kind))
  (cond (decide (a0.Kind=(1:Int)))
  (some (-1:Int))
  (some (1:Int)))
  (cond (!decide (a0.Num=b1.Num))
  (cond (decide (a0.Num<b1.Num))
  (some (-1:Int))
  (some (1:Int)))
  (yB a0 b1 (0:Int))))

def tA (a0:(List aH))(b1:(List aH)):Option Int :=
  cond (decide (((List.length a0:Nat):Int)<((List.length b1:Nat):Int)))
  (some (-1:Int))
  (cond (decide (((List.length b1:Nat):Int)<((List.length a0:Nat):Int)))
  (some (1:Int))
  (some (0:Int)))

def kF (a0:(List aH))(b1:(List aH))(i5:Int):Option ((Int)⊕(Unit⊕Int)) :=
  cond ((decide (i5<((List.length a0:Nat):Int)))&&(decide (i5<((List.length b1:Nat):Int))))
  (bG (0<=i5/\i5<((List.length a0:Nat):Int)) <|
  bG (0<=i5/\i5<((List.length b1:Nat):Int)) <|
  (uP (List.getD a0 (Int.toNat i5) default) (List.getD b1 (Int.toNat i5) default)).bind fun x13 =>
  cond (!decide (x13=(0:Int)))
  (some (.inr (.inr x13)))
  (some (.inl (IntKind.i64.wrap (i5+(1:Int))))))
  (some (.inr (.inl ())))

def xS (a0:(List aH))(b1:(List aH))(i5:Int):Option Int :=
  (lp (fun s=>kF a0 b1 s) i5).bind (Sum.elim (fun rr=>tA a0 b1) (fun rr=>some rr))

def rK (a0:(List aH))(b1:(List aH)):Option Int :=
  (vF a0).bind fun x1 =>
  (cW (!(!x1)) (vF b1)).bind fun x4 =>
  cond ((!x1)||(!x4))
  (some (0:Int))
  (xS a0 b1 (0:Int))

def yP  : Option Bool :=
  some true

def uH (a0:(List aH))(b1:(List aH))(i5:Int):Option ((Int)⊕(Unit⊕Bool)) :=
  cond (decide (i5<((List.length a0:Nat):Int)))
  (bG (0<=i5/\i5<((List.length a0:Nat):Int)) <|
  bG (0<=i5/\i5<((List.length b1:Nat):Int)) <|
  cond (!((decide (((List.getD a0 (Int.toNat i5) default).Kind)=((List.getD b1 (Int.toNat i5) default).Kind)))&&((decide (((List.getD a0 (Int.toNat i5) default).Num)=((List.getD b1 (Int.toNat i5) default).Num)))&&((qT ((List.getD a0 (Int.toNat i5) default).Text) ((List.getD b1 (Int.toNat i5) default).Text))&&true))))
  (some (.inr (.inr false)))
  (some (.inl (IntKind.i64.wrap (i5+(1:Int))))))
  (some (.inr (.inl ())))

def DX (a0:(List aH))(b1:(List aH))(i5:Int):Option Bool :=
  (lp (fun s=>uH a0 b1 s) i5).bind (Sum.elim (fun rr=>yP ) (fun rr=>some rr))

def tO (a0:(List aH))(b1:(List aH)):Option Bool :=
  cond (!decide (((List.length a0:Nat):Int)=((List.length b1:Nat):Int)))
  (some false)
  (DX a0 b1 (0:Int))

def DM (bX:List (List aH)):Option (List (List aH)) :=
  some bX

def yU (l0:(List aJ))(bX:List (List aH))(i4:Int):Option ((List (List aH)×Int)⊕((List (List aH)))) :=
  some (.inl (bX,IntKind.i64.wrap (i4+(1:Int))))

def yZ (l0:(List aJ))(bX:List (List aH))(i4:Int)(at5:Int):Option ((List (List aH)×Int)⊕((List (List aH)))) :=
  bG ((((decide (at5<((List.length bX:Nat):Int))))=true->0<=at5/\at5<((List.length bX:Nat):Int))) <|
  bG ((((decide (at5<((List.length bX:Nat):Int))))=true->0<=i4/\i4<((List.length l0:Nat):Int))) <|
  (cW (decide (at5<((List.length bX:Nat):Int))) (tO (List.getD bX (Int.toNat at5) default) ((List.getD l0 (Int.toNat i4) default).Row))).bind fun x10 =>
  cond ((decide (at5<((List.length bX:Nat):Int)))&&x10)
  (yU l0 bX i4)
  (bG (0<=at5/\at5<=((List.length bX:Nat):Int)) <|
  bG (List.length (List.take (Int.toNat at5) bX)*24<=140737488355328/\List.length (List.take (Int.toNat at5) bX)<=9223372036854775807) <|
  bG (0<=i4/\i4<((List.length l0:Nat):Int)) <|
  bG ((List.length (List.take (Int.toNat at5) bX)+List.length ([(List.getD l0 (Int.toNat i4) default).Row]))*24<=140737488355328/\List.length (List.take (Int.toNat at5) bX)+List.length ([(List.getD l0 (Int.toNat i4) default).Row])<=9223372036854775807) <|
  bG (0<=at5/\at5<=((List.length bX:Nat):Int)) <|
  bG ((List.length ((List.take (Int.toNat at5) bX)++([(List.getD l0 (Int.toNat i4) default).Row]))+List.length (List.drop (Int.toNat at5) bX))*24<=140737488355328/\List.length ((List.take (Int.toNat at5) bX)++([(List.getD l0 (Int.toNat i4) default).Row]))+List.length (List.drop (Int.toNat at5) bX)<=9223372036854775807) <|
  yU l0 (((List.take (Int.toNat at5) bX)++([(List.getD l0 (Int.toNat i4) default).Row]))++(List.drop (Int.toNat at5) bX)) i4)

def oE (l0:(List aJ))(i4:Int)(bX:List (List aH))(at5:Int):Option ((List (List aH)×Int)⊕((List (List aH)×Int))) :=
  bG ((((decide (at5<((List.length bX:Nat):Int))))=true->0<=at5/\at5<((List.length bX:Nat):Int))) <|
  bG ((((decide (at5<((List.length bX:Nat):Int))))=true->0<=i4/\i4<((List.length l0:Nat):Int))) <|
  (cW (decide (at5<((List.length bX:Nat):Int))) (rK (List.getD bX (Int.toNat at5) default) ((List.getD l0 (Int.toNat i4) default).Row))).bind fun x27 =>
  cond ((decide (at5<((List.length bX:Nat):Int)))&&(decide (x27<(0:Int))))
  (some (.inl (bX,IntKind.i64.wrap (at5+(1:Int)))))
  (some (.inr (bX,at5)))

def DP (l0:(List aJ))(bX:List (List aH))(i4:Int)(at5:Int):Option ((List (List aH)×Int)⊕((List (List aH)))) :=
  (lp (fun s=>oE l0 i4 s.1 s.2) (bX,at5)).bind (fun rr=>yZ l0 rr.1 i4 rr.2)

def pW (l0:(List aJ))(bX:List (List aH))(i4:Int):Option ((List (List aH)×Int)⊕((List (List aH)))) :=
  cond (decide (i4<((List.length l0:Nat):Int)))
  (DP l0 bX i4 (0:Int))
  (some (.inr bX))

def EA (l0:(List aJ))(bX:List (List aH))(i4:Int):Option (List (List aH)) :=
  (lp (fun s=>pW l0 s.1 s.2) (bX,i4)).bind (fun rr=>DM rr)

def pL (l0:(List aJ)):Option (List (List aH)) :=
  EA l0 ([]:List (List aH)) (0:Int)

def CM (f5:List aM):Option (List aM) :=
  some f5

def vS (l0:(List aJ))(r1:(List aH))(f5:List aM)(i6:Int):Option ((List aM×Int)⊕((List aM))) :=
  some (.inl (f5,IntKind.i64.wrap (i6+(1:Int))))

def oR (l0:(List aJ))(r1:(List aH))(f5:List aM)(i6:Int):Option ((List aM×Int)⊕((List aM))) :=
  cond (decide (i6<((List.length l0:Nat):Int)))
  (bG (0<=i6/\i6<((List.length l0:Nat):Int)) <|
  (tO ((List.getD l0 (Int.toNat i6) default).Row) r1).bind fun x8 =>
  cond x8
  (bG (0<=i6/\i6<((List.length l0:Nat):Int)) <|
  bG (0<=i6/\i6<((List.length l0:Nat):Int)) <|
  bG ((List.length f5+List.length ([aM.mk ((List.getD l0 (Int.toNat i6) default).At) ((List.getD l0 (Int.toNat i6) default).Net)]))*16<=140737488355328/\List.length f5+List.length ([aM.mk ((List.getD l0 (Int.toNat i6) default).At) ((List.getD l0 (Int.toNat i6) default).Net)])<=9223372036854775807) <|
  vS l0 r1 (f5++([aM.mk ((List.getD l0 (Int.toNat i6) default).At) ((List.getD l0 (Int.toNat i6) default).Net)])) i6)
  (vS l0 r1 f5 i6))
  (some (.inr f5))

def BY (l0:(List aJ))(r1:(List aH))(f5:List aM)(i6:Int):Option (List aM) :=
  (lp (fun s=>oR l0 r1 s.1 s.2) (f5,i6)).bind (fun rr=>CM rr)

def nH (l0:(List aJ))(r1:(List aH)):Option (List aM) :=
  BY l0 r1 ([]:List aM) (0:Int)

def FL  : Option Bool :=
  some true

def tB (l0:(List aJ))(vO:(List (List aH)))(i6:Int):Option ((Int)⊕(Unit⊕Bool)) :=
  cond (decide (i6<((List.length vO:Nat):Int)))
  (bG (0<=i6/\i6<((List.length vO:Nat):Int)) <|
  (nH l0 (List.getD vO (Int.toNat i6) default)).bind fun x7 =>
  cond (decide ((1024:Int)<((List.length x7:Nat):Int)))
  (some (.inr (.inr false)))
  (some (.inl (IntKind.i64.wrap (i6+(1:Int))))))
  (some (.inr (.inl ())))

def GG (l0:(List aJ))(vO:(List (List aH)))(i6:Int):Option Bool :=
  (lp (fun s=>tB l0 vO s) i6).bind (Sum.elim (fun rr=>FL ) (fun rr=>some rr))

def BA (l0:(List aJ)):Option Bool :=
  (pL l0).bind fun x2 =>
  GG l0 x2 (0:Int)

def vW (l0:(List aJ))(i3:Int):Option ((Int)⊕(Unit⊕Bool)) :=
  some (.inl (IntKind.i64.wrap (i3+(1:Int))))

def qZ (l0:(List aJ))(i3:Int):Option ((Int)⊕(Unit⊕Bool)) :=
  cond (decide (i3<((List.length l0:Nat):Int)))
  (bG (0<=i3/\i3<((List.length l0:Nat):Int)) <|
  (vF ((List.getD l0 (Int.toNat i3) default).Row)).bind fun x13 =>
  bG ((((!(!x13)))=true->0<=i3/\i3<((List.length l0:Nat):Int))) <|
  bG ((((!(!x13)))=true->0<=i3/\i3<((List.length l0:Nat):Int))) <|
  (cW (!(!x13)) (vI ([aM.mk ((List.getD l0 (Int.toNat i3) default).At) ((List.getD l0 (Int.toNat i3) default).Net)]))).bind fun x17 =>
  cond ((!x13)||(!x17))
  (some (.inr (.inr false)))
  (cond (decide (i3=(0:Int)))
  (vW l0 i3)
  (bG (0<=(IntKind.i64.wrap (i3-(1:Int)))/\(IntKind.i64.wrap (i3-(1:Int)))<((List.length l0:Nat):Int)) <|
  bG (0<=i3/\i3<((List.length l0:Nat):Int)) <|
  (rK ((List.getD l0 (Int.toNat (IntKind.i64.wrap (i3-(1:Int)))) default).Row) ((List.getD l0 (Int.toNat i3) default).Row)).bind fun x24 =>
  bG ((((decide (x24=(0:Int)))&&(!(decide ((0:Int)<x24))))=true->0<=(IntKind.i64.wrap (i3-(1:Int)))/\(IntKind.i64.wrap (i3-(1:Int)))<((List.length l0:Nat):Int))) <|
  bG ((((decide (x24=(0:Int)))&&(!(decide ((0:Int)<x24))))=true->0<=i3/\i3<((List.length l0:Nat):Int))) <|
  cond ((decide ((0:Int)<x24))||((decide (x24=(0:Int)))&&(decide (((List.getD l0 (Int.toNat i3) default).At)<=((List.getD l0 (Int.toNat (IntKind.i64.wrap (i3-(1:Int)))) default).At)))))
  (some (.inr (.inr false)))
  (vW l0 i3))))
  (some (.inr (.inl ())))

def FZ (l0:(List aJ))(i3:Int):Option Bool :=
  (lp (fun s=>qZ l0 s) i3).bind (Sum.elim (fun rr=>BA l0) (fun rr=>some rr))

def qU (l0:(List aJ)):Option Bool :=
  cond (decide ((4096:Int)<((List.length l0:Nat):Int)))
  (some false)
  (FZ l0 (0:Int))

def wV (v5:Int):Option Int :=
  some v5

def sV (f0:(List aM))(t1:Int)(v5:Int)(i6:Int):Option ((Int×Int)⊕(Int)) :=
  some (.inl (v5,IntKind.i64.wrap (i6+(1:Int))))

def lW (f0:(List aM))(t1:Int)(v5:Int)(i6:Int):Option ((Int×Int)⊕(Int)) :=
  cond (decide (i6<((List.length f0:Nat):Int)))
  (bG (0<=i6/\i6<((List.length f0:Nat):Int)) <|
  cond (decide (((List.getD f0 (Int.toNat i6) default).At)<=t1))
  (bG (0<=i6/\i6<((List.length f0:Nat):Int)) <|
  sV f0 t1 (IntKind.i64.wrap (v5+((List.getD f0 (Int.toNat i6) default).Net))) i6)
  (sV f0 t1 v5 i6))
  (some (.inr v5))

def BP (f0:(List aM))(t1:Int)(v5:Int)(i6:Int):Option Int :=
  (lp (fun s=>lW f0 t1 s.1 s.2) (v5,i6)).bind (fun rr=>wV rr)

def nI (f0:(List aM))(t1:Int):Option Int :=
  BP f0 t1 (0:Int) (0:Int)

def vU (m3:Int):Option Int :=
  some m3

def wS (f0:(List aM))(m3:Int)(i4:Int):Option ((Int×Int)⊕(Int)) :=
  some (.inl (m3,IntKind.i64.wrap (i4+(1:Int))))

def oK (f0:(List aM))(m3:Int)(i4:Int):Option ((Int×Int)⊕(Int)) :=
  cond (decide (i4<((List.length f0:Nat):Int)))
  (bG (0<=i4/\i4<((List.length f0:Nat):Int)) <|
  (nI f0 ((List.getD f0 (Int.toNat i4) default).At)).bind fun x10 =>
  cond (decide (x10<m3))
  (bG (0<=i4/\i4<((List.length f0:Nat):Int)) <|
  (nI f0 ((List.getD f0 (Int.toNat i4) default).At)).bind fun x15 =>
  wS f0 x15 i4)
  (wS f0 m3 i4))
  (some (.inr m3))

def BX (f0:(List aM))(m3:Int)(i4:Int):Option Int :=
  (lp (fun s=>oK f0 s.1 s.2) (m3,i4)).bind (fun rr=>vU rr)

def yX (f0:(List aM)):Option Int :=
  (vI f0).bind fun x1 =>
  cond (!x1)
  (some (0:Int))
  ((nI f0 (-1:Int)).bind fun x5 =>
  BX f0 x5 (0:Int))

def CN  : Option Bool :=
  some true

def qL (l0:(List aJ))(bX:(List (List aH)))(i4:Int):Option ((Int)⊕(Unit⊕Bool)) :=
  cond (decide (i4<((List.length bX:Nat):Int)))
  (bG (0<=i4/\i4<((List.length bX:Nat):Int)) <|
  (nH l0 (List.getD bX (Int.toNat i4) default)).bind fun x10 =>
  (yX x10).bind fun x13 =>
  cond (decide (x13<(0:Int)))
  (some (.inr (.inr false)))
  (some (.inl (IntKind.i64.wrap (i4+(1:Int))))))
  (some (.inr (.inl ())))

def CC (l0:(List aJ))(bX:(List (List aH)))(i4:Int):Option Bool :=
  (lp (fun s=>qL l0 bX s) i4).bind (Sum.elim (fun rr=>CN ) (fun rr=>some rr))

def pT (l0:(List aJ)):Option Bool :=
  (qU l0).bind fun x1 =>
  cond (!x1)
  (some false)
  ((pL l0).bind fun x5 =>
  CC l0 x5 (0:Int))

def iU (t0:Int):Option Bool :=
  some ((decide ((0:Int)<=t0))&&(decide (t0<=(1125899906842624:Int))))

def zB (w0:cC)(l1:(List aJ))(t2:Int):Option Int :=
  (CT w0).bind fun x1 =>
  (cW (!(!x1)) (qU l1)).bind fun x4 =>
  cond ((!x1)||(!x4))
  (some (2:Int))
  ((pT l1).bind fun x8 =>
  cond (!x8)
  (some (20:Int))
  ((iU t2).bind fun x12 =>
  cond (!x12)
  (some (13:Int))
  (some (0:Int))))

def uK (l0:(List aJ))(n1:Int):Option Int :=
  (qU l0).bind fun x1 =>
  cond (((!x1)||(decide (n1<(1:Int))))||(decide ((64:Int)<n1)))
  (some (2:Int))
  ((pT l0).bind fun x5 =>
  cond (!x5)
  (some (20:Int))
  (some (0:Int)))

def uE (out5:List Int):Option (List Int) :=
  some out5

def uJ (t1:Int)(out5:List Int)(put6:Bool):Option (List Int) :=
  cond (!put6)
  (bG ((List.length out5+List.length ([t1]))*8<=140737488355328/\List.length out5+List.length ([t1])<=9223372036854775807) <|
  uE (out5++([t1])))
  (uE out5)

def yQ (l0:(List Int))(t1:Int)(out5:List Int)(put6:Bool)(i7:Int):Option ((List Int×Bool×Int)⊕((List Int×Bool)⊕(List Int))) :=
  bG (0<=i7/\i7<((List.length l0:Nat):Int)) <|
  bG ((List.length out5+List.length ([List.getD l0 (Int.toNat i7) default]))*8<=140737488355328/\List.length out5+List.length ([List.getD l0 (Int.toNat i7) default])<=9223372036854775807) <|
  some (.inl (out5++([List.getD l0 (Int.toNat i7) default]),put6,IntKind.i64.wrap (i7+(1:Int))))

def kZ (l0:(List Int))(t1:Int)(out5:List Int)(put6:Bool)(i7:Int):Option ((List Int×Bool×Int)⊕((List Int×Bool)⊕(List Int))) :=
  cond (decide (i7<((List.length l0:Nat):Int)))
  (bG (0<=i7/\i7<((List.length l0:Nat):Int)) <|
  cond (decide ((List.getD l0 (Int.toNat i7) default)=t1))
  (some (.inr (.inr l0)))
  (bG (0<=i7/\i7<((List.length l0:Nat):Int)) <|
  cond ((decide (t1<(List.getD l0 (Int.toNat i7) default)))&&(!put6))
  (bG ((List.length out5+List.length ([t1]))*8<=140737488355328/\List.length out5+List.length ([t1])<=9223372036854775807) <|
  yQ l0 t1 (out5++([t1])) true i7)
  (yQ l0 t1 out5 put6 i7)))
  (some (.inr (.inl (out5,put6))))

def DT (l0:(List Int))(t1:Int)(out5:List Int)(put6:Bool)(i7:Int):Option (List Int) :=
  (lp (fun s=>kZ l0 t1 s.1 s.2.1 s.2.2) (out5,put6,i7)).bind (Sum.elim (fun rr=>uJ t1 rr.1 rr.2) (fun rr=>some rr))

def tP (l0:(List Int))(t1:Int):Option (List Int) :=
  DT l0 t1 ([]:List Int) false (0:Int)

def AD (out5:(List Int)):Option ((List Int)×Int) :=
  some (out5,(0:Int))

def rF (l0:(List aJ))(out5:(List Int))(i6:Int):Option (((List Int)×Int)⊕((List Int))) :=
  some (.inl (out5,IntKind.i64.wrap (i6+(1:Int))))

def nU (l0:(List aJ))(out5:(List Int))(i6:Int):Option (((List Int)×Int)⊕((List Int))) :=
  cond (decide (i6<((List.length l0:Nat):Int)))
  (bG (0<=i6/\i6<((List.length l0:Nat):Int)) <|
  bG ((((decide ((0:Int)<((List.getD l0 (Int.toNat i6) default).Net))))=true->0<=i6/\i6<((List.length l0:Nat):Int))) <|
  cond ((decide ((0:Int)<((List.getD l0 (Int.toNat i6) default).Net)))&&(decide ((0:Int)<=((List.getD l0 (Int.toNat i6) default).At))))
  (bG (0<=i6/\i6<((List.length l0:Nat):Int)) <|
  (tP out5 ((List.getD l0 (Int.toNat i6) default).At)).bind fun x11 =>
  rF l0 x11 i6)
  (rF l0 out5 i6))
  (some (.inr out5))

def zZ (l0:(List aJ))(out5:(List Int))(i6:Int):Option ((List Int)×Int) :=
  (lp (fun s=>nU l0 s.1 s.2) (out5,i6)).bind (fun rr=>AD rr)

def xE (l0:(List aJ)):Option ((List Int)×Int) :=
  (uK l0 (1:Int)).bind fun x1 =>
  cond (!decide (x1=(0:Int)))
  (some ([],x1))
  (zZ l0 ([]) (0:Int))

def zP (dM:Int)(t1:Int):Option Int :=
  cond (decide ((1125899906842624:Int)<(IntKind.i64.wrap (t1+dM))))
  (some (1125899906842624:Int))
  (some (IntKind.i64.wrap (t1+dM)))

def DK (out6:(List Int)):Option ((List Int)×Int) :=
  some (out6,(0:Int))

def uD (l0:(List aJ))(dN:Int)(out6:(List Int))(i7:Int):Option (((List Int)×Int)⊕((List Int))) :=
  some (.inl (out6,IntKind.i64.wrap (i7+(1:Int))))

def pS (l0:(List aJ))(dN:Int)(out6:(List Int))(i7:Int):Option (((List Int)×Int)⊕((List Int))) :=
  cond (decide (i7<((List.length l0:Nat):Int)))
  (bG (0<=i7/\i7<((List.length l0:Nat):Int)) <|
  cond (decide (dN<((List.getD l0 (Int.toNat i7) default).At)))
  (bG (0<=i7/\i7<((List.length l0:Nat):Int)) <|
  (tP out6 ((List.getD l0 (Int.toNat i7) default).At)).bind fun x18 =>
  uD l0 dN x18 i7)
  (uD l0 dN out6 i7))
  (some (.inr out6))

def DN (l0:(List aJ))(dN:Int)(out6:(List Int))(i7:Int):Option ((List Int)×Int) :=
  (lp (fun s=>pS l0 dN s.1 s.2) (out6,i7)).bind (fun rr=>DK rr)

def AS (l0:(List aJ))(dN:Int):Option ((List Int)×Int) :=
  (qU l0).bind fun x1 =>
  cond (!x1)
  (some ([],(2:Int)))
  ((pT l0).bind fun x5 =>
  cond (!x5)
  (some ([],(20:Int)))
  ((iU dN).bind fun x9 =>
  cond (!x9)
  (some ([],(13:Int)))
  (cond (decide (dN=(1125899906842624:Int)))
  (some ([],(0:Int)))
  (DN l0 dN ([dN]) (0:Int)))))

def CF (out5:List bA):Option (List bA) :=
  some out5

def sN (l0:(List aJ))(t1:Int)(out5:List bA)(mN:(List (List aH)))(i7:Int):Option ((List bA×Int)⊕((List bA))) :=
  some (.inl (out5,IntKind.i64.wrap (i7+(1:Int))))

def qJ (l0:(List aJ))(t1:Int)(mN:(List (List aH)))(out5:List bA)(i7:Int):Option ((List bA×Int)⊕((List bA))) :=
  cond (decide (i7<((List.length mN:Nat):Int)))
  (bG (0<=i7/\i7<((List.length mN:Nat):Int)) <|
  (nH l0 (List.getD mN (Int.toNat i7) default)).bind fun x11 =>
  (nI x11 t1).bind fun x14 =>
  cond (decide ((0:Int)<x14))
  (bG (0<=i7/\i7<((List.length mN:Nat):Int)) <|
  bG ((List.length out5+List.length ([bA.mk (List.getD mN (Int.toNat i7) default) x14]))*32<=140737488355328/\List.length out5+List.length ([bA.mk (List.getD mN (Int.toNat i7) default) x14])<=9223372036854775807) <|
  sN l0 t1 (out5++([bA.mk (List.getD mN (Int.toNat i7) default) x14])) mN i7)
  (sN l0 t1 out5 mN i7))
  (some (.inr out5))

def CD (l0:(List aJ))(t1:Int)(out5:List bA)(mN:(List (List aH)))(i7:Int):Option (List bA) :=
  (lp (fun s=>qJ l0 t1 mN s.1 s.2) (out5,i7)).bind (fun rr=>CF rr)

def zG (l0:(List aJ))(t1:Int):Option (List bA) :=
  (pL l0).bind fun x1 =>
  CD l0 t1 ([]:List bA) x1 (0:Int)

def vZ (out8:List aG):Option ((List aG)×Int) :=
  cond (decide ((1024:Int)<((List.length out8:Nat):Int)))
  (some ([],(7:Int)))
  (some (out8,(0:Int)))

def xD (l0:(List aJ))(cQ:(List Int))(out8:List aG)(i9:Int):Option ((List aG×Int)⊕((List aG))) :=
  some (.inl (out8,IntKind.i64.wrap (i9+(1:Int))))

def sM (l0:(List aJ))(cQ:(List Int))(out8:List aG)(i9:Int)(p10:aG):Option ((List aG×Int)⊕((List aG))) :=
  cond (decide ((0:Int)<((List.length p10.Rows:Nat):Int)))
  (bG ((List.length out8+List.length ([p10]))*40<=140737488355328/\List.length out8+List.length ([p10])<=9223372036854775807) <|
  xD l0 cQ (out8++([p10])) i9)
  (xD l0 cQ out8 i9)

def oO (l0:(List aJ))(cQ:(List Int))(out8:List aG)(i9:Int):Option ((List aG×Int)⊕((List aG))) :=
  cond (decide (i9<((List.length cQ:Nat):Int)))
  (bG (0<=i9/\i9<((List.length cQ:Nat):Int)) <|
  bG (0<=i9/\i9<((List.length cQ:Nat):Int)) <|
  (zG l0 (List.getD cQ (Int.toNat i9) default)).bind fun x14 =>
  cond (decide ((IntKind.i64.wrap (i9+(1:Int)))<((List.length cQ:Nat):Int)))
  (bG (0<=(IntKind.i64.wrap (i9+(1:Int)))/\(IntKind.i64.wrap (i9+(1:Int)))<((List.length cQ:Nat):Int)) <|
  sM l0 cQ out8 i9 (aG.mk (aU.mk ((aG.mk (aU.mk (List.getD cQ (Int.toNat i9) default) (1125899906842624:Int)) x14).Span).From (List.getD cQ (Int.toNat (IntKind.i64.wrap (i9+(1:Int)))) default)) (aG.mk (aU.mk (List.getD cQ (Int.toNat i9) default) (1125899906842624:Int)) x14).Rows))
  (sM l0 cQ out8 i9 (aG.mk (aU.mk (List.getD cQ (Int.toNat i9) default) (1125899906842624:Int)) x14)))
  (some (.inr out8))

def CE (l0:(List aJ))(cQ:(List Int))(out8:List aG)(i9:Int):Option ((List aG)×Int) :=
  (lp (fun s=>oO l0 cQ s.1 s.2) (out8,i9)).bind (fun rr=>vZ rr)

def yW (l0:(List aJ))(dN:Int):Option ((List aG)×Int) :=
  (AS l0 dN).bind fun x1 =>
  cond (!decide (x1.2=(0:Int)))
  (some ([],x1.2))
  (CE l0 x1.1 ([]:List aG) (0:Int))

def wD (bR:List aG):Option ((List aG)×Int) :=
  cond (decide ((1024:Int)<((List.length bR:Nat):Int)))
  (some ([],(7:Int)))
  (some (bR,(0:Int)))

def sI (l0:(List aJ))(n1:Int)(bZ:Int)(all9:(List Int))(dG:(List (List aH)))(bR:List aG)(i13:Int):Option ((List aG×Int)⊕((List aG))) :=
  some (.inl (bR,IntKind.i64.wrap (i13+(1:Int))))

def xF (l0:(List aJ))(n1:Int)(bZ:Int)(all9:(List Int))(dG:(List (List aH)))(bR:List aG)(i13:Int)(p14:aG):Option ((List aG×Int)⊕((List aG))) :=
  bG ((List.length bR+List.length ([p14]))*40<=140737488355328/\List.length bR+List.length ([p14])<=9223372036854775807) <|
  sI l0 n1 bZ all9 dG (bR++([p14])) i13

def wX (l0:(List aJ))(n1:Int)(bZ:Int)(all9:(List Int))(dG:(List (List aH)))(bR:List aG)(i13:Int)(p14:aG)(k15:Int):Option ((List aG×aG×Int)⊕((List aG×aG))) :=
  some (.inl (bR,p14,IntKind.i64.wrap (k15+(1:Int))))

def wJ (l0:(List aJ))(n1:Int)(bZ:Int)(all9:(List Int))(dG:(List (List aH)))(bR:List aG)(i13:Int)(p14:aG)(k15:Int)(c17:bA):Option ((List aG×aG×Int)⊕((List aG×aG))) :=
  cond (decide ((0:Int)<c17.N))
  (bG ((List.length p14.Rows+List.length ([c17]))*32<=140737488355328/\List.length p14.Rows+List.length ([c17])<=9223372036854775807) <|
  wX l0 n1 bZ all9 dG bR i13 (aG.mk p14.Span (p14.Rows++([c17]))) k15)
  (wX l0 n1 bZ all9 dG bR i13 p14 k15)

def wM (l0:(List aJ))(n1:Int)(bZ:Int)(all9:(List Int))(dG:(List (List aH)))(bR:List aG)(i13:Int)(p14:aG)(k15:Int)(f16:(List aM))(c17:bA)(j18:Int):Option ((List aG×aG×bA×Int)⊕((List aG×aG×bA))) :=
  some (.inl (bR,p14,c17,IntKind.i64.wrap (j18+(1:Int))))

def oQ (l0:(List aJ))(n1:Int)(bZ:Int)(all9:(List Int))(dG:(List (List aH)))(i13:Int)(k15:Int)(f16:(List aM))(bR:List aG)(p14:aG)(c17:bA)(j18:Int):Option ((List aG×aG×bA×Int)⊕((List aG×aG×bA))) :=
  cond (decide (j18<((List.length f16:Nat):Int)))
  (bG (0<=j18/\j18<((List.length f16:Nat):Int)) <|
  bG ((((decide ((0:Int)<((List.getD f16 (Int.toNat j18) default).Net))))=true->0<=j18/\j18<((List.length f16:Nat):Int))) <|
  bG ((((decide ((0:Int)<((List.getD f16 (Int.toNat j18) default).Net))))=true->0<=i13/\i13<((List.length all9:Nat):Int))) <|
  bG (((((decide ((0:Int)<((List.getD f16 (Int.toNat j18) default).Net)))&&(decide ((List.getD all9 (Int.toNat i13) default)<=((List.getD f16 (Int.toNat j18) default).At)))))=true->0<=j18/\j18<((List.length f16:Nat):Int))) <|
  bG (((((decide ((0:Int)<((List.getD f16 (Int.toNat j18) default).Net)))&&(decide ((List.getD all9 (Int.toNat i13) default)<=((List.getD f16 (Int.toNat j18) default).At)))))=true->0<=(IntKind.i64.wrap ((IntKind.i64.wrap (i13+n1))-(1:Int)))/\(IntKind.i64.wrap ((IntKind.i64.wrap (i13+n1))-(1:Int)))<((List.length all9:Nat):Int))) <|
  cond (((decide ((0:Int)<((List.getD f16 (Int.toNat j18) default).Net)))&&(decide ((List.getD all9 (Int.toNat i13) default)<=((List.getD f16 (Int.toNat j18) default).At))))&&(decide (((List.getD f16 (Int.toNat j18) default).At)<=(List.getD all9 (Int.toNat (IntKind.i64.wrap ((IntKind.i64.wrap (i13+n1))-(1:Int)))) default))))
  (bG (0<=j18/\j18<((List.length f16:Nat):Int)) <|
  wM l0 n1 bZ all9 dG bR i13 p14 k15 f16 (bA.mk c17.Row (IntKind.i64.wrap (c17.N+((List.getD f16 (Int.toNat j18) default).Net)))) j18)
  (wM l0 n1 bZ all9 dG bR i13 p14 k15 f16 c17 j18))
  (some (.inr (bR,p14,c17)))

def CK (l0:(List aJ))(n1:Int)(bZ:Int)(all9:(List Int))(dG:(List (List aH)))(bR:List aG)(i13:Int)(p14:aG)(k15:Int)(f16:(List aM))(c17:bA)(j18:Int):Option ((List aG×aG×Int)⊕((List aG×aG))) :=
  (lp (fun s=>oQ l0 n1 bZ all9 dG i13 k15 f16 s.1 s.2.1 s.2.2.1 s.2.2.2) (bR,p14,c17,j18)).bind (fun rr=>wJ l0 n1 bZ all9 dG rr.1 i13 rr.2.1 k15 rr.2.2)

def oJ (l0:(List aJ))(n1:Int)(bZ:Int)(all9:(List Int))(dG:(List (List aH)))(i13:Int)(bR:List aG)(p14:aG)(k15:Int):Option ((List aG×aG×Int)⊕((List aG×aG))) :=
  cond (decide (k15<((List.length dG:Nat):Int)))
  (bG (0<=k15/\k15<((List.length dG:Nat):Int)) <|
  (nH l0 (List.getD dG (Int.toNat k15) default)).bind fun x40 =>
  bG (0<=k15/\k15<((List.length dG:Nat):Int)) <|
  CK l0 n1 bZ all9 dG bR i13 p14 k15 x40 (bA.mk (List.getD dG (Int.toNat k15) default) 0) (0:Int))
  (some (.inr (bR,p14)))

def BS (l0:(List aJ))(n1:Int)(bZ:Int)(all9:(List Int))(dG:(List (List aH)))(bR:List aG)(i13:Int)(p14:aG)(k15:Int):Option ((List aG×Int)⊕((List aG))) :=
  (lp (fun s=>oJ l0 n1 bZ all9 dG i13 s.1 s.2.1 s.2.2) (bR,p14,k15)).bind (fun rr=>xF l0 n1 bZ all9 dG rr.1 i13 rr.2)

def lU (l0:(List aJ))(n1:Int)(bZ:Int)(all9:(List Int))(dG:(List (List aH)))(bR:List aG)(i13:Int):Option ((List aG×Int)⊕((List aG))) :=
  cond (decide ((IntKind.i64.wrap (i13+n1))<=((List.length all9:Nat):Int)))
  (bG (0<=i13/\i13<((List.length all9:Nat):Int)) <|
  cond (decide ((List.getD all9 (Int.toNat i13) default)<bZ))
  (sI l0 n1 bZ all9 dG bR i13)
  (bG (0<=i13/\i13<((List.length all9:Nat):Int)) <|
  bG (0<=(IntKind.i64.wrap ((IntKind.i64.wrap (i13+n1))-(1:Int)))/\(IntKind.i64.wrap ((IntKind.i64.wrap (i13+n1))-(1:Int)))<((List.length all9:Nat):Int)) <|
  BS l0 n1 bZ all9 dG bR i13 (aG.mk (aU.mk (List.getD all9 (Int.toNat i13) default) (IntKind.i64.wrap ((List.getD all9 (Int.toNat (IntKind.i64.wrap ((IntKind.i64.wrap (i13+n1))-(1:Int)))) default)+(1:Int)))) ([])) (0:Int)))
  (some (.inr bR))

def BM (l0:(List aJ))(n1:Int)(bZ:Int)(all9:(List Int))(dG:(List (List aH)))(bR:List aG)(i13:Int):Option ((List aG)×Int) :=
  (lp (fun s=>lU l0 n1 bZ all9 dG s.1 s.2) (bR,i13)).bind (fun rr=>wD rr)

def zH (l0:(List aJ))(n1:Int)(bZ:Int):Option ((List aG)×Int) :=
  (uK l0 n1).bind fun x1 =>
  cond (!decide (x1=(0:Int)))
  (some ([],x1))
  ((iU bZ).bind fun x5 =>
  cond (!x5)
  (some ([],(13:Int)))
  ((xE l0).bind fun x9 =>
  (pL l0).bind fun x12 =>
  BM l0 n1 bZ x9.1 x12 ([]:List aG) (0:Int)))

def wT (out3:List aU):Option (List aU) :=
  some out3

def sS (out3:List aU)(n4:Int)(gR:Int):Option (List aU) :=
  cond (decide ((0:Int)<n4))
  (bG ((List.length out3+List.length ([aU.mk gR (1125899906842624:Int)]))*16<=140737488355328/\List.length out3+List.length ([aU.mk gR (1125899906842624:Int)])<=9223372036854775807) <|
  wT (out3++([aU.mk gR (1125899906842624:Int)])))
  (wT out3)

def sX (f0:(List aM))(out3:List aU)(n4:Int)(gR:Int)(i6:Int):Option ((List aU×Int×Int×Int)⊕((List aU×Int×Int))) :=
  some (.inl (out3,n4,gR,IntKind.i64.wrap (i6+(1:Int))))

def qN (f0:(List aM))(out3:List aU)(n4:Int)(gR:Int)(i6:Int):Option ((List aU×Int×Int×Int)⊕((List aU×Int×Int))) :=
  bG (0<=i6/\i6<((List.length f0:Nat):Int)) <|
  cond (decide ((IntKind.i64.wrap (n4+((List.getD f0 (Int.toNat i6) default).Net)))=(0:Int)))
  (bG (0<=i6/\i6<((List.length f0:Nat):Int)) <|
  bG ((List.length out3+List.length ([aU.mk gR ((List.getD f0 (Int.toNat i6) default).At)]))*16<=140737488355328/\List.length out3+List.length ([aU.mk gR ((List.getD f0 (Int.toNat i6) default).At)])<=9223372036854775807) <|
  sX f0 (out3++([aU.mk gR ((List.getD f0 (Int.toNat i6) default).At)])) (IntKind.i64.wrap (n4+((List.getD f0 (Int.toNat i6) default).Net))) gR i6)
  (sX f0 out3 (IntKind.i64.wrap (n4+((List.getD f0 (Int.toNat i6) default).Net))) gR i6)

def jG (f0:(List aM))(out3:List aU)(n4:Int)(gR:Int)(i6:Int):Option ((List aU×Int×Int×Int)⊕((List aU×Int×Int))) :=
  cond (decide (i6<((List.length f0:Nat):Int)))
  (cond (decide (n4=(0:Int)))
  (bG (0<=i6/\i6<((List.length f0:Nat):Int)) <|
  qN f0 out3 n4 ((List.getD f0 (Int.toNat i6) default).At) i6)
  (qN f0 out3 n4 gR i6))
  (some (.inr (out3,n4,gR)))

def BO (f0:(List aM))(out3:List aU)(n4:Int)(gR:Int)(i6:Int):Option (List aU) :=
  (lp (fun s=>jG f0 s.1 s.2.1 s.2.2.1 s.2.2.2) (out3,n4,gR,i6)).bind (fun rr=>sS rr.1 rr.2.1 rr.2.2)

def zA (f0:(List aM)):Option (List aU) :=
  BO f0 ([]:List aU) (0:Int) (0:Int) (0:Int)

def uR (dU:List Int):Option ((List Int)×Int) :=
  some (dU,(0:Int))

def pJ (dM:Int)(hop1:Int)(cD:Int)(bU:Int)(s7:aU)(dU:List Int)(t14:Int):Option ((List Int×Int)⊕((List Int)⊕((List Int)×Int))) :=
  cond (decide ((1024:Int)<((List.length dU:Nat):Int)))
  (some (.inr (.inr ([],(7:Int)))))
  (some (.inl (dU,IntKind.i64.wrap (t14+hop1))))

def fL (dM:Int)(hop1:Int)(cD:Int)(bU:Int)(s7:aU)(dU:List Int)(t14:Int):Option ((List Int×Int)⊕((List Int)⊕((List Int)×Int))) :=
  cond (((decide (t14<bU))&&(decide (t14<s7.To)))&&(decide (t14<(1125899906842624:Int))))
  ((cW (decide (cD<=t14)) (zP dM t14)).bind fun x21 =>
  cond ((decide (cD<=t14))&&(decide (s7.From<x21)))
  (bG ((List.length dU+List.length ([t14]))*8<=140737488355328/\List.length dU+List.length ([t14])<=9223372036854775807) <|
  pJ dM hop1 cD bU s7 (dU++([t14])) t14)
  (pJ dM hop1 cD bU s7 dU t14))
  (some (.inr (.inl dU)))

def AA (dM:Int)(hop1:Int)(cD:Int)(bU:Int)(s7:aU)(dU:List Int)(t14:Int):Option ((List Int)×Int) :=
  (lp (fun s=>fL dM hop1 cD bU s7 s.1 s.2) (dU,t14)).bind (Sum.elim (fun rr=>uR rr) (fun rr=>some (rr.1,rr.2)))

def rM (dM:Int)(hop1:Int)(cD:Int)(bU:Int)(s7:aU)(KZ:Int):Option ((List Int)×Int) :=
  bG (hop1≠0) <|
  AA dM hop1 cD bU s7 ([]:List Int) (IntKind.i64.wrap ((IntKind.i64.wrap (Int.tdiv KZ hop1))*hop1))

def sL (dM:Int)(hop1:Int)(s2:aU)(cD:Int)(bU:Int):Option ((List Int)×Int) :=
  (qQ dM hop1).bind fun x1 =>
  cond (!x1)
  (some ([],(2:Int)))
  ((iU cD).bind fun x5 =>
  (cW (!(!x5)) (iU bU)).bind fun x8 =>
  cond ((!x5)||(!x8))
  (some ([],(13:Int)))
  (cond (((decide (s2.From<(-1:Int)))||(decide (s2.To<=s2.From)))||(decide ((1125899906842624:Int)<s2.To)))
  (some ([],(14:Int)))
  (cond (decide ((IntKind.i64.wrap (s2.From-dM))<cD))
  (rM dM hop1 cD bU s2 cD)
  (rM dM hop1 cD bU s2 (IntKind.i64.wrap (s2.From-dM))))))

def xX (n5:Int):Option Int :=
  some n5

def tS (f0:(List aM))(w3:aU)(n5:Int)(i6:Int):Option ((Int×Int)⊕(Int)) :=
  some (.inl (n5,IntKind.i64.wrap (i6+(1:Int))))

def qF (f0:(List aM))(w3:aU)(n5:Int)(i6:Int):Option ((Int×Int)⊕(Int)) :=
  cond (decide (i6<((List.length f0:Nat):Int)))
  (bG (0<=i6/\i6<((List.length f0:Nat):Int)) <|
  bG ((((decide (w3.From<((List.getD f0 (Int.toNat i6) default).At))))=true->0<=i6/\i6<((List.length f0:Nat):Int))) <|
  bG (((((decide (w3.From<((List.getD f0 (Int.toNat i6) default).At)))&&(decide (((List.getD f0 (Int.toNat i6) default).At)<w3.To))))=true->0<=i6/\i6<((List.length f0:Nat):Int))) <|
  cond (((decide (w3.From<((List.getD f0 (Int.toNat i6) default).At)))&&(decide (((List.getD f0 (Int.toNat i6) default).At)<w3.To)))&&(decide ((0:Int)<((List.getD f0 (Int.toNat i6) default).Net))))
  (bG (0<=i6/\i6<((List.length f0:Nat):Int)) <|
  tS f0 w3 (IntKind.i64.wrap (n5+((List.getD f0 (Int.toNat i6) default).Net))) i6)
  (tS f0 w3 n5 i6))
  (some (.inr n5))

def xY (f0:(List aM))(w3:aU)(n5:Int)(i6:Int):Option Int :=
  (lp (fun s=>qF f0 w3 s.1 s.2) (n5,i6)).bind (fun rr=>xX rr)

def uW (f0:(List aM))(w1:aU):Option Int :=
  (nI f0 w1.From).bind fun x1 =>
  xY f0 w1 x1 (0:Int)

def CO (dW:List aG):Option ((List aG)×Int) :=
  some (dW,(0:Int))

def BK (l0:(List aJ))(cG:Int)(bM:(List Int))(bW:(List (List aH)))(dW:List aG)(k21:Int):Option ((List aG×Int)⊕((List aG))) :=
  some (.inl (dW,IntKind.i64.wrap (k21+(1:Int))))

def wA (l0:(List aJ))(cG:Int)(bM:(List Int))(bW:(List (List aH)))(dW:List aG)(k21:Int)(p22:aG):Option ((List aG×Int)⊕((List aG))) :=
  bG ((List.length dW+List.length ([p22]))*40<=140737488355328/\List.length dW+List.length ([p22])<=9223372036854775807) <|
  BK l0 cG bM bW (dW++([p22])) k21

def sQ (l0:(List aJ))(cG:Int)(bM:(List Int))(bW:(List (List aH)))(dW:List aG)(k21:Int)(p22:aG)(i23:Int):Option ((List aG×aG×Int)⊕((List aG×aG))) :=
  some (.inl (dW,p22,IntKind.i64.wrap (i23+(1:Int))))

def oP (l0:(List aJ))(cG:Int)(bM:(List Int))(bW:(List (List aH)))(k21:Int)(dW:List aG)(p22:aG)(i23:Int):Option ((List aG×aG×Int)⊕((List aG×aG))) :=
  cond (decide (i23<((List.length bW:Nat):Int)))
  (bG (0<=i23/\i23<((List.length bW:Nat):Int)) <|
  (nH l0 (List.getD bW (Int.toNat i23) default)).bind fun x47 =>
  (uW x47 p22.Span).bind fun x50 =>
  cond (decide ((0:Int)<x50))
  (bG (0<=i23/\i23<((List.length bW:Nat):Int)) <|
  bG ((List.length p22.Rows+List.length ([bA.mk (List.getD bW (Int.toNat i23) default) x50]))*32<=140737488355328/\List.length p22.Rows+List.length ([bA.mk (List.getD bW (Int.toNat i23) default) x50])<=9223372036854775807) <|
  sQ l0 cG bM bW dW k21 (aG.mk p22.Span (p22.Rows++([bA.mk (List.getD bW (Int.toNat i23) default) x50]))) i23)
  (sQ l0 cG bM bW dW k21 p22 i23))
  (some (.inr (dW,p22)))

def BR (l0:(List aJ))(cG:Int)(bM:(List Int))(bW:(List (List aH)))(dW:List aG)(k21:Int)(p22:aG)(i23:Int):Option ((List aG×Int)⊕((List aG))) :=
  (lp (fun s=>oP l0 cG bM bW k21 s.1 s.2.1 s.2.2) (dW,p22,i23)).bind (fun rr=>wA l0 cG bM bW rr.1 k21 rr.2)

def qK (l0:(List aJ))(cG:Int)(bM:(List Int))(bW:(List (List aH)))(dW:List aG)(k21:Int):Option ((List aG×Int)⊕((List aG))) :=
  cond (decide (k21<((List.length bM:Nat):Int)))
  (bG (0<=k21/\k21<((List.length bM:Nat):Int)) <|
  bG (0<=k21/\k21<((List.length bM:Nat):Int)) <|
  (zP cG (List.getD bM (Int.toNat k21) default)).bind fun x30 =>
  BR l0 cG bM bW dW k21 (aG.mk (aU.mk (List.getD bM (Int.toNat k21) default) x30) ([])) (0:Int))
  (some (.inr dW))

def CI (l0:(List aJ))(cG:Int)(bM:(List Int))(bW:(List (List aH)))(dW:List aG)(k21:Int):Option ((List aG)×Int) :=
  (lp (fun s=>qK l0 cG bM bW s.1 s.2) (dW,k21)).bind (fun rr=>CO rr)

def wE (l0:(List aJ))(cG:Int)(bM:(List Int))(bW:(List (List aH))):Option ((List aG)×Int) :=
  CI l0 cG bM bW ([]:List aG) (0:Int)

def wP (l0:(List aJ))(cG:Int)(hop2:Int)(cD:Int)(bU:Int)(bM:(List Int))(bW:(List (List aH)))(i14:Int):Option (((List Int)×Int)⊕((List Int)⊕((List aG)×Int))) :=
  some (.inl (bM,IntKind.i64.wrap (i14+(1:Int))))

def AG (l0:(List aJ))(cG:Int)(hop2:Int)(cD:Int)(bU:Int)(bM:(List Int))(bW:(List (List aH)))(i14:Int)(s15:(List aU))(k16:Int):Option (((List Int)×Int)⊕((List Int)⊕((List aG)×Int))) :=
  some (.inl (bM,IntKind.i64.wrap (k16+(1:Int))))

def uN (l0:(List aJ))(cG:Int)(hop2:Int)(cD:Int)(bU:Int)(bM:(List Int))(bW:(List (List aH)))(i14:Int)(s15:(List aU))(k16:Int):Option (((List Int)×Int)⊕((List Int)⊕((List aG)×Int))) :=
  cond (decide ((1024:Int)<((List.length bM:Nat):Int)))
  (some (.inr (.inr ([],(7:Int)))))
  (AG l0 cG hop2 cD bU bM bW i14 s15 k16)

def rG (l0:(List aJ))(cG:Int)(hop2:Int)(cD:Int)(bU:Int)(bW:(List (List aH)))(i14:Int)(s15:(List aU))(k16:Int)(t17:(List Int))(bM:(List Int))(j19:Int):Option (((List Int)×Int)⊕((List Int))) :=
  cond (decide (j19<((List.length t17:Nat):Int)))
  (bG (0<=j19/\j19<((List.length t17:Nat):Int)) <|
  (tP bM (List.getD t17 (Int.toNat j19) default)).bind fun x77 =>
  some (.inl (x77,IntKind.i64.wrap (j19+(1:Int)))))
  (some (.inr bM))

def AF (l0:(List aJ))(cG:Int)(hop2:Int)(cD:Int)(bU:Int)(bM:(List Int))(bW:(List (List aH)))(i14:Int)(s15:(List aU))(k16:Int)(t17:(List Int))(j19:Int):Option (((List Int)×Int)⊕((List Int)⊕((List aG)×Int))) :=
  (lp (fun s=>rG l0 cG hop2 cD bU bW i14 s15 k16 t17 s.1 s.2) (bM,j19)).bind (fun rr=>uN l0 cG hop2 cD bU rr bW i14 s15 k16)

def pK (l0:(List aJ))(cG:Int)(hop2:Int)(cD:Int)(bU:Int)(bW:(List (List aH)))(i14:Int)(s15:(List aU))(bM:(List Int))(k16:Int):Option (((List Int)×Int)⊕((List Int)⊕((List aG)×Int))) :=
  cond (decide (k16<((List.length s15:Nat):Int)))
  (bG (0<=k16/\k16<((List.length s15:Nat):Int)) <|
  (sL cG hop2 (List.getD s15 (Int.toNat k16) default) cD bU).bind fun x70 =>
  cond (!decide (x70.2=(0:Int)))
  (some (.inr (.inr ([],x70.2))))
  (AF l0 cG hop2 cD bU bM bW i14 s15 k16 x70.1 (0:Int)))
  (some (.inr (.inl bM)))

def AL (l0:(List aJ))(cG:Int)(hop2:Int)(cD:Int)(bU:Int)(bM:(List Int))(bW:(List (List aH)))(i14:Int)(s15:(List aU))(k16:Int):Option (((List Int)×Int)⊕((List Int)⊕((List aG)×Int))) :=
  (lp (fun s=>pK l0 cG hop2 cD bU bW i14 s15 s.1 s.2) (bM,k16)).bind (Sum.elim (fun rr=>wP l0 cG hop2 cD bU rr bW i14) (fun rr=>some (.inr (.inr (rr.1,rr.2)))))

def qI (l0:(List aJ))(cG:Int)(hop2:Int)(cD:Int)(bU:Int)(bW:(List (List aH)))(bM:(List Int))(i14:Int):Option (((List Int)×Int)⊕((List Int)⊕((List aG)×Int))) :=
  cond (decide (i14<((List.length bW:Nat):Int)))
  (bG (0<=i14/\i14<((List.length bW:Nat):Int)) <|
  (nH l0 (List.getD bW (Int.toNat i14) default)).bind fun x62 =>
  (zA x62).bind fun x65 =>
  AL l0 cG hop2 cD bU bM bW i14 x65 (0:Int))
  (some (.inr (.inl bM)))

def CL (l0:(List aJ))(cG:Int)(hop2:Int)(cD:Int)(bU:Int)(bM:(List Int))(bW:(List (List aH)))(i14:Int):Option ((List aG)×Int) :=
  (lp (fun s=>qI l0 cG hop2 cD bU bW s.1 s.2) (bM,i14)).bind (Sum.elim (fun rr=>wE l0 cG rr bW) (fun rr=>some (rr.1,rr.2)))

def zC (l0:(List aJ))(cG:Int)(hop2:Int)(cD:Int)(bU:Int):Option ((List aG)×Int) :=
  (qQ cG hop2).bind fun x1 =>
  (cW (!(!x1)) (qU l0)).bind fun x4 =>
  cond ((!x1)||(!x4))
  (some ([],(2:Int)))
  ((pT l0).bind fun x8 =>
  cond (!x8)
  (some ([],(20:Int)))
  ((iU cD).bind fun x12 =>
  (cW (!(!x12)) (iU bU)).bind fun x15 =>
  cond ((!x12)||(!x15))
  (some ([],(13:Int)))
  ((pL l0).bind fun x19 =>
  CL l0 cG hop2 cD bU ([]) x19 (0:Int))))

def xC (l1:(List aJ))(bZ:Int)(w4:cC)(jI:Int):Option ((List aG)×Int) :=
  (zC l1 w4.Size w4.Hop bZ jI).bind fun x13 =>
  some (x13.1,x13.2)

def wC (l1:(List aJ))(bZ:Int)(w4:cC)(jI:Int)(i12:Int):Option ((Int×Int)⊕(Int)) :=
  some (.inl (jI,IntKind.i64.wrap (i12+(1:Int))))

def qD (l1:(List aJ))(bZ:Int)(w4:cC)(jI:Int)(i12:Int):Option ((Int×Int)⊕(Int)) :=
  cond (decide (i12<((List.length l1:Nat):Int)))
  (bG (0<=i12/\i12<((List.length l1:Nat):Int)) <|
  bG ((((decide ((0:Int)<((List.getD l1 (Int.toNat i12) default).Net))))=true->0<=i12/\i12<((List.length l1:Nat):Int))) <|
  cond ((decide ((0:Int)<((List.getD l1 (Int.toNat i12) default).Net)))&&(decide (jI<=((List.getD l1 (Int.toNat i12) default).At))))
  (bG (0<=i12/\i12<((List.length l1:Nat):Int)) <|
  wC l1 bZ w4 (IntKind.i64.wrap (((List.getD l1 (Int.toNat i12) default).At)+(1:Int))) i12)
  (wC l1 bZ w4 jI i12))
  (some (.inr jI))

def BV (l1:(List aJ))(bZ:Int)(w4:cC)(jI:Int)(i12:Int):Option ((List aG)×Int) :=
  (lp (fun s=>qD l1 bZ w4 s.1 s.2) (jI,i12)).bind (fun rr=>xC l1 bZ w4 rr)

def yY (w0:cC)(l1:(List aJ))(bZ:Int)(t3:Int):Option ((List aG)×Int) :=
  (zB w0 l1 t3).bind fun x1 =>
  cond (!decide (x1=(0:Int)))
  (some ([],x1))
  (cond (decide (w0.Kind=(1:Int)))
  ((yW l1 bZ).bind fun x6 =>
  some (x6.1,x6.2))
  (cond (decide (w0.Kind=(3:Int)))
  ((zH l1 w0.Size bZ).bind fun x10 =>
  some (x10.1,x10.2))
  (BV l1 bZ w0 t3 (0:Int))))

def qA  : Option Bool :=
  some true

def nW (a0:(List bA))(b1:(List bA))(i5:Int):Option ((Int)⊕(Unit⊕Bool)) :=
  cond (decide (i5<((List.length a0:Nat):Int)))
  (bG (0<=i5/\i5<((List.length a0:Nat):Int)) <|
  bG (0<=i5/\i5<((List.length b1:Nat):Int)) <|
  bG ((((!(!decide (((List.getD a0 (Int.toNat i5) default).N)=((List.getD b1 (Int.toNat i5) default).N)))))=true->0<=i5/\i5<((List.length a0:Nat):Int))) <|
  bG ((((!(!decide (((List.getD a0 (Int.toNat i5) default).N)=((List.getD b1 (Int.toNat i5) default).N)))))=true->0<=i5/\i5<((List.length b1:Nat):Int))) <|
  (cW (!(!decide (((List.getD a0 (Int.toNat i5) default).N)=((List.getD b1 (Int.toNat i5) default).N)))) (tO ((List.getD a0 (Int.toNat i5) default).Row) ((List.getD b1 (Int.toNat i5) default).Row))).bind fun x7 =>
  cond ((!decide (((List.getD a0 (Int.toNat i5) default).N)=((List.getD b1 (Int.toNat i5) default).N)))||(!x7))
  (some (.inr (.inr false)))
  (some (.inl (IntKind.i64.wrap (i5+(1:Int))))))
  (some (.inr (.inl ())))

def tT (a0:(List bA))(b1:(List bA))(i5:Int):Option Bool :=
  (lp (fun s=>nW a0 b1 s) i5).bind (Sum.elim (fun rr=>qA ) (fun rr=>some rr))

def rC (a0:(List bA))(b1:(List bA)):Option Bool :=
  cond (!decide (((List.length a0:Nat):Int)=((List.length b1:Nat):Int)))
  (some false)
  (tT a0 b1 (0:Int))

def yS  : Option Bool :=
  some true

def uL (a0:(List aG))(b1:(List aG))(i5:Int):Option ((Int)⊕(Unit⊕Bool)) :=
  cond (decide (i5<((List.length a0:Nat):Int)))
  (bG (0<=i5/\i5<((List.length a0:Nat):Int)) <|
  bG (0<=i5/\i5<((List.length b1:Nat):Int)) <|
  bG ((((!(!((decide ((((List.getD a0 (Int.toNat i5) default).Span).From)=(((List.getD b1 (Int.toNat i5) default).Span).From)))&&((decide ((((List.getD a0 (Int.toNat i5) default).Span).To)=(((List.getD b1 (Int.toNat i5) default).Span).To)))&&true)))))=true->0<=i5/\i5<((List.length a0:Nat):Int))) <|
  bG ((((!(!((decide ((((List.getD a0 (Int.toNat i5) default).Span).From)=(((List.getD b1 (Int.toNat i5) default).Span).From)))&&((decide ((((List.getD a0 (Int.toNat i5) default).Span).To)=(((List.getD b1 (Int.toNat i5) default).Span).To)))&&true)))))=true->0<=i5/\i5<((List.length b1:Nat):Int))) <|
  (cW (!(!((decide ((((List.getD a0 (Int.toNat i5) default).Span).From)=(((List.getD b1 (Int.toNat i5) default).Span).From)))&&((decide ((((List.getD a0 (Int.toNat i5) default).Span).To)=(((List.getD b1 (Int.toNat i5) default).Span).To)))&&true)))) (rC ((List.getD a0 (Int.toNat i5) default).Rows) ((List.getD b1 (Int.toNat i5) default).Rows))).bind fun x7 =>
  cond ((!((decide ((((List.getD a0 (Int.toNat i5) default).Span).From)=(((List.getD b1 (Int.toNat i5) default).Span).From)))&&((decide ((((List.getD a0 (Int.toNat i5) default).Span).To)=(((List.getD b1 (Int.toNat i5) default).Span).To)))&&true)))||(!x7))
  (some (.inr (.inr false)))
  (some (.inl (IntKind.i64.wrap (i5+(1:Int))))))
  (some (.inr (.inl ())))

def DQ (a0:(List aG))(b1:(List aG))(i5:Int):Option Bool :=
  (lp (fun s=>uL a0 b1 s) i5).bind (Sum.elim (fun rr=>yS ) (fun rr=>some rr))

def AU (a0:(List aG))(b1:(List aG)):Option Bool :=
  cond (!decide (((List.length a0:Nat):Int)=((List.length b1:Nat):Int)))
  (some false)
  (DQ a0 b1 (0:Int))

def tV (w0:cC)(l1:(List aJ))(bZ:Int)(t3:Int):Option Bool :=
  (DE l1).bind fun x1 =>
  cond (!x1)
  ((wQ ).bind fun x5 =>
  some x5)
  ((sO w0 l1 bZ t3).bind fun x8 =>
  (yY w0 l1 bZ t3).bind fun x11 =>
  (wQ ).bind fun x14 =>
  (cW (x14&&(decide (x8.2=x11.2))) (AU x8.1 x11.1)).bind fun x17 =>
  some ((x14&&(decide (x8.2=x11.2)))&&x17))

end Go.Abs
namespace Go.Abs
open Go Go.RowKit
def DZ (x:cC):Prop:=yE x.Kind/\yE x.Size/\yE x.Hop/\True

def JJ (x:aH):Prop:=yE x.Kind/\yE x.Num/\(fun s=>s.size<=maxLen) x.Text/\True

def CU (x:aJ):Prop:=(fun l=>(∀ a∈l,JJ a)/\l.length*32<=140737488351232) x.Row/\yE x.At/\yE x.Net/\True

end Go.Abs
namespace Go.Abs
open Go Go.RowKit Go.Proofs
def tt:TT:=⟨aEH Tryz.prog,aBj Tryz.prog⟩

theorem aB:iT Tryz.prog tt:=iT.of Tryz.prog

theorem aC3 (l0:(List aJ))(r:Bool)(h0:DE l0=some r):dF Tryz.prog 6 [(eL aI l0)] (aF r):=by
 intro H0;refine dB Tryz.func6 ?_;have hO:=aL.start H0;unfold DE at h0;refine aY aB 1 [] [] ?_;refine cV (fun T H=>Has T [(0,(eL aI l0))]/\aL ⟨H0,[],[]⟩ H []/\FU l0=some r) ?_ ?_
 ·clear hO h0;rintro T H ⟨hT,hO,h0⟩;refine bD hT ?_;clear hT;unfold FU at h0;refine bS aB 4 [(2,(aF (decide ((lN l0)<=(60:Int)))))] ?_;refine bL ?_;obtain rfl:=oI h0;exact aE (Q_r hO)
 refine aY aB 1 [] [(3,(eI 0))] ?_;refine bT 0 ?_;refine eC [(0,(eL aI l0)),(3,(eI 0))] ?_;refine dR (fun T H=>∃ i3:Int,Has T [(0,(eL aI l0)),(3,(eI i3))]/\aL ⟨H0,[],[]⟩ H []/\FB l0 i3=some r) ?_ ⟨(0:Int),aX,hO,h0⟩;clear hO h0;rintro T H ⟨i3,hT,hO,h0⟩;refine bD hT ?_;clear hT;unfold FB at h0;obtain⟨rr0,hl0,h0⟩:=aZ h0;refine eX (fun (s:Int) T H=>Has T [(0,(eL aI l0)),(3,(eI s))]/\aL ⟨H0,[],[]⟩ H []) hl0 ⟨aX,hO⟩ ?_;clear hO;rintro k0 s out1 T H ⟨hT,hO⟩ h1 ho0;obtain⟨i3,rfl⟩:∃ x,x=s:=⟨_,rfl⟩;replace h1:wO l0 i3=some out1:=h1;refine bD hT ?_;clear hT;unfold wO at h1;refine aN ?_;refine aY aB 8 [] [(11,(aF ((decide (i3<(lN l0)))&&(decide (i3<=(60:Int))))))] ?_;refine bJ h1 (fun h1=>?_) (fun h1=>?_)
 ·refine bK ?_;refine bH [(0,(eL aI l0)),(3,(eI i3))] ?_;refine aN ?_;refine bT 1 ?_;refine aN ?_;refine aT aB 6 ?_;obtain⟨c2,h1⟩:=bC h1;refine lP [0<=i3/\i3<(lN l0)] ⟨c2,trivial⟩ ?_;refine bP [] [(19,(aF (decide ((10:Int)<((gD l0 i3).Net)))))] ?_;refine bJ h1 (fun h1=>?_) (fun h1=>?_)
  ·refine bS aB 1 [(2,(aF false))] ?_;refine bL ?_;obtain rfl:=oI h1;obtain rfl:_=rr0:=ho0;replace h0:some false=some r:=h0;obtain rfl:=oI h0;exact aE (bI (aS (aS (bI (aS (Q_r hO))))))
  refine bK ?_;refine eA [(0,(eL aI l0)),(3,(eI i3))] ?_;refine aE (aV (aC (?_)));refine aT aB 3 ?_;refine bE ?_;exact aE (aC (⟨rfl,_,(oI h1).symm,aX,hO⟩))
 refine eH 0 ?_;obtain rfl:=oI h1;obtain rfl:_=rr0:=ho0;replace h0:FU l0=some r:=h0;exact aE (aW (aW (bQ (aC (⟨rfl,aX,hO,h0⟩)))))

theorem KK (n0:Int)(r:Bool)(h0:tJ n0=some r):dF Tryz.prog 24 [(eI n0)] (aF r):=by
 intro H0;refine dB Tryz.func24 ?_;have hO:=aL.start H0;unfold tJ at h0;refine aY aB 1 [] [] ?_;refine bS aB 7 [(2,(aF ((decide ((1:Int)<=n0))&&(decide (n0<=(1099511627776:Int))))))] ?_;refine bL ?_;obtain rfl:=oI h0;exact aE (Q_r hO)

theorem MT (w0:cC)(r:Int)(h0:sW w0=some r):dF Tryz.prog 10 [(cB w0)] (eI r):=by
 intro H0;refine dB Tryz.func10 ?_;have hO:=aL.start H0;unfold sW at h0;refine aN ?_;refine aT aB 2 ?_;refine kE 3 (cB w0) ?_;refine bE ?_;refine bH [(1,(.rp (cB w0)))] ?_;refine aY aB 1 [] [(3,(.fn (.func 24) [] []))] ?_;refine aY aB 1 [] [(4,(aF false))] ?_;refine cV (fun T H=>∃ ok4:Bool,Has T [(4,(aF ok4))]/\aL ⟨H0,[],[]⟩ H []/\mH ok4=some r) ?_ ?_
 ·clear hO h0;rintro T H ⟨ok4,hT,hO,h0⟩;refine bD hT ?_;clear hT;unfold mH at h0;refine aN ?_;refine bS aB 2 [(45,(aF (!ok4)))] ?_;refine bJ h0 (fun h0=>?_) (fun h0=>?_)
  ·refine bS aB 1 [(2,(eI 2))] ?_;refine bL ?_;obtain rfl:=oI h0;exact aE (aS (Q_r hO))
  refine bK ?_;refine bH [] ?_;refine bS aB 1 [(2,(eI 0))] ?_;refine bL ?_;obtain rfl:=oI h0;exact aE (Q_r hO)
 refine aY aB 2 [] [(6,(eI w0.Kind))] ?_;refine bT 0 ?_;refine aY aB 2 [] [(7,(aF (decide (w0.Kind=(1:Int)))))] ?_;refine bJ h0 (fun h0=>?_) (fun h0=>?_)
 ·refine aT aB 9 ?_;refine bE ?_;exact aE (aV (aC (⟨rfl,_,aX,hO,h0⟩)))
 refine bS aB 2 [(1,(.rp (cB w0))),(3,(.fn (.func 24) [] [])),(4,(aF false)),(6,(eI w0.Kind)),(17,(aF (decide (w0.Kind=(2:Int)))))] ?_;refine bJ h0 (fun h0=>?_) (fun h0=>?_)
 ·refine aT aB 11 ?_;refine bN 3 ?_;obtain⟨x4,hx5,h0⟩:=aZ h0;refine cJ (KK w0.Size _ hx5) hO ?_;intro H hO;refine bN 8 ?_;obtain⟨x7,hx8,h0⟩:=aZ h0;refine lE [(23,true)] 24 [(eI w0.Hop)] (aF x7) x4 (by kernel_rfl) (by kernel_rfl) (by kernel_rfl) (fun hb9=>(KK w0.Hop _ (fZ hx8 hb9))) hO ?_;intro H hO;refine bE ?_;exact aE (aV (aC (⟨rfl,_,aX,hO,h0⟩)))
 refine aY aB 2 [3,6,17] [(29,(aF (decide (w0.Kind=(3:Int)))))] ?_;refine bJ h0 (fun h0=>?_) (fun h0=>?_)
 ·refine aT aB 14 ?_;refine bE ?_;exact aE (aV (aC (⟨rfl,_,aX,hO,h0⟩)))
 refine bK ?_;exact aE (aV (aC (⟨rfl,_,aX,hO,h0⟩)))

theorem SN (l0:(List aJ))(r:(List aJ))(h0:zQ l0=some r):dF Tryz.prog 85 [(eL aI l0)] (.fn (.func 103) [] [(.rp (eL aI r))]):=by
 intro H0;refine dB Tryz.func85 ?_;have hO:=aL.start H0;unfold zQ at h0;refine aN ?_;refine aT aB 2 ?_;refine kE 1 (eL aI l0) ?_;refine bE ?_;refine bH [(1,(.rp (eL aI l0)))] ?_;refine bS aB 2 [(2,(.fn (.func 103) [] [(.rp (eL aI l0))]))] ?_;refine bL ?_;obtain rfl:=oI h0;exact aE (lS (x:=(.fn (.func 103) [] [(.rp (eL aI l0))])) (by kernel_rfl) (aQ.refl _) ⟨rfl,hO.out⟩)

theorem tG (s10:(List aH))(s21:(List aH))(r:Bool)(h0:gV s10 s21=some r):dF Tryz.prog 93 [(eL aD s10),(eL aD s21)] (aF r):=by
 intro H0;refine dB Tryz.func93 ?_;have hO:=aL.start H0;unfold gV at h0;refine aY aB 1 [] [] ?_;refine aN ?_;refine aY aB 5 [] [(10,(aF (!decide ((lN s10)=(lN s21)))))] ?_;refine bJ h0 (fun h0=>?_) (fun h0=>?_)
 ·refine bS aB 1 [(4,(aF false))] ?_;refine bL ?_;obtain rfl:=oI h0;exact aE (aS (Q_r hO))
 refine bK ?_;refine bH [(0,(eL aD s10)),(1,(eL aD s21))] ?_;refine cV (fun T H=>Has T []/\aL ⟨H0,[],[]⟩ H []/\jB  = some r) ?_ ?_
 ·clear hO h0;rintro T H ⟨hT,hO,h0⟩;refine bD hT ?_;clear hT;unfold jB at h0;refine bS aB 1 [(4,(aF true))] ?_;refine bL ?_;obtain rfl:=oI h0;exact aE (Q_r hO)
 refine aY aB 3 [] [(12,(eI (lN s10))),(13,(eI 0))] ?_;refine bT 0 ?_;refine eC [(0,(eL aD s10)),(1,(eL aD s21)),(12,(eI (lN s10))),(13,(eI 0))] ?_;refine dR (fun T H=>∃ t12:Int,∃ t13:Int,Has T [(0,(eL aD s10)),(1,(eL aD s21)),(12,(eI t12)),(13,(eI t13))]/\aL ⟨H0,[],[]⟩ H []/\lH s10 s21 t12 t13=some r) ?_ ⟨(lN s10),(0:Int),aX,hO,h0⟩;clear hO h0;rintro T H ⟨t12,t13,hT,hO,h0⟩;refine bD hT ?_;clear hT;unfold lH at h0;obtain⟨rr0,hl0,h0⟩:=aZ h0;refine eX (fun (s:Int) T H=>Has T [(0,(eL aD s10)),(1,(eL aD s21)),(12,(eI t12)),(13,(eI s))]/\aL ⟨H0,[],[]⟩ H []) hl0 ⟨aX,hO⟩ ?_;clear hO;rintro k0 s out1 T H ⟨hT,hO⟩ h1 ho0;obtain⟨t13,rfl⟩:∃ x,x=s:=⟨_,rfl⟩;replace h1:gO s10 s21 t12 t13=some out1:=h1;refine bD hT ?_;clear hT;unfold gO at h1;refine aY aB 1 [] [(14,(aF (decide (t13<t12))))] ?_;refine aN ?_;refine bJ h1 (fun h1=>?_) (fun h1=>?_)
 ·refine bK ?_;refine bH [(0,(eL aD s10)),(1,(eL aD s21)),(12,(eI t12)),(13,(eI t13))] ?_;refine aN ?_;refine bT 1 ?_;refine aY aB 2 [] [(5,(eI t13))] ?_;refine aN ?_;refine eU (eW [19,23]) aB 9 ?_;obtain⟨c3,h1⟩:=bC h1;obtain⟨c4,h1⟩:=bC h1;refine FK (Ds:=[0<=t13/\t13<(lN s10),0<=t13/\t13<(lN s21)]) (by kernel_rfl) ⟨c3,c4,trivial⟩ ?_;refine bP [5] [(24,(aF (!((decide (((gD s10 t13).Kind)=((gD s21 t13).Kind)))&&((decide (((gD s10 t13).Num)=((gD s21 t13).Num)))&&((qT ((gD s10 t13).Text) ((gD s21 t13).Text))&&true))))))] ?_;refine bJ h1 (fun h1=>?_) (fun h1=>?_)
  ·refine bS aB 1 [(4,(aF false))] ?_;refine bL ?_;obtain rfl:=oI h1;obtain rfl:_=rr0:=ho0;replace h0:some false=some r:=h0;obtain rfl:=oI h0;exact aE (bI (aS (aS (bI (aS (Q_r hO))))))
  refine bK ?_;refine eA [(0,(eL aD s10)),(1,(eL aD s21)),(12,(eI t12)),(13,(eI t13))] ?_;refine aE (aV (aC (?_)));refine aT aB 2 ?_;refine bE ?_;exact aE (aC (⟨rfl,_,(oI h1).symm,aX,hO⟩))
 refine eH 0 ?_;obtain rfl:=oI h1;obtain rfl:_=rr0:=ho0;replace h0:jB  = some r:=h0;exact aE (aW (aW (bQ (aC (⟨rfl,aX,hO,h0⟩)))))

theorem WM (a0:(List aH))(b1:(List aH))(r:Bool)(h0:uQ a0 b1=some r):dF Tryz.prog 88 [(eL aD a0),(eL aD b1)] (aF r):=by
 intro H0;refine dB Tryz.func88 ?_;have hO:=aL.start H0;unfold uQ at h0;refine aY aB 1 [] [] ?_;refine aN ?_;refine aT aB 4 ?_;refine bN 2 ?_;obtain⟨x1,hx2,h0⟩:=aZ h0;refine cJ (tG a0 b1 _ hx2) hO ?_;intro H hO;refine bE ?_;refine bH [(4,(aF x1))] ?_;refine bL ?_;obtain rfl:=oI h0;exact aE (Q_r hO)

theorem US (r0:(List aH))(r:(List aH))(h0:BZ r0=some r):dF Tryz.prog 89 [(eL aD r0)] (eL aD r):=by
 intro H0;refine dB Tryz.func89 ?_;have hO:=aL.start H0;unfold BZ at h0;refine aY aB 1 [] [] ?_;refine aN ?_;refine aT aB 6 ?_;refine bN 2 ?_;obtain⟨c1,h0⟩:=bC h0;refine RQ 3 32 (lN r0) (by kernel_rfl) (by kernel_rfl) c1 hO ?_;intro lo2 H hO;refine bN 4 ?_;obtain⟨c4,h0⟩:=bC h0;refine uA aD ([]:List aH) r0 0 lo2 3 32 (eL aD r0) (fun lo3=>[(lo3,3,List.map aD (([]:List aH)++r0))]) hO (aDF (fun _=>by kernel_rfl)) c4 ?_;intro lo3 H hO;refine bE ?_;refine bH [(2,(.msl 3 lo3 0 (List.length (([]:List aH)++r0))))] ?_;refine bL ?_;refine eA [(2,(.msl 3 lo3 0 (List.length (([]:List aH)++r0))))] ?_;refine lZ (en:=aD) (([]:List aH)++r0) 0 0 2 3 lo3 (List.length (([]:List aH)++r0)) hO (by kernel_rfl) (by kernel_rfl) (by kernel_rfl) (L':=[]) (by kernel_rfl) ?_;intro H5 hO;obtain rfl:=oI h0;exact aE (Q_r hO)

theorem LB {σ:Type}(I:σ->Gs->Prop)(yield0_b:Nat)(cY:σ->(List aH)->(List aM)->Option (σ×Bool))(yield0_h:∀ st a0 a1 st2 r,cY st a0 a1=some (st2,r)->GX Tryz.prog (yv yield0_b) I st [(eL aD a0),(eL aR a1)] st2 (aF r))(t1:(List aJ))(sg0:σ)(r:σ)(h0:rI cY t1 sg0=some r):CJ Tryz.prog 103 I sg0 [(yv yield0_b),(.rp (eL aI t1))] r (.tup []):=by
 intro H0 G0 hI hg;refine dB Tryz.func103 ?_;obtain⟨G,hO,hI⟩:∃ G,aL ⟨H0,List.map (fun p:Nat×eN=>p.1) G0,G⟩ H0 []/\I sg0 G:=⟨G0,aL.JM hg,hI⟩;clear hg;unfold rI at h0;refine aY aB 1 [] [(3,(eI 0))] ?_;refine bT 0 ?_;refine eC [(0,(yv yield0_b)),(1,(.rp (eL aI t1))),(3,(eI 0))] ?_;refine dR (fun T H=>∃ sg:σ,∃ i3:Int,∃ G:Gs,Has T [(0,(yv yield0_b)),(1,(.rp (eL aI t1))),(3,(eI i3))]/\aL ⟨H0,List.map (fun p:Nat×eN=>p.1) G0,G⟩ H []/\I sg G/\xN cY sg t1 i3=some r) ?_ ⟨sg0,(0:Int),G,aX,hO,hI,h0⟩;clear hO hI h0;rintro T H ⟨sg,i3,G,hT,hO,hI,h0⟩;refine bD hT ?_;clear hT;unfold xN at h0;obtain⟨rr0,hl0,h0⟩:=aZ h0;refine eX (fun (s:σ×Int) T H=>∃ G:Gs,Has T [(0,(yv yield0_b)),(1,(.rp (eL aI t1))),(3,(eI s.2))]/\aL ⟨H0,List.map (fun p:Nat×eN=>p.1) G0,G⟩ H []/\I s.1 G) hl0 ⟨G,aX,hO,hI⟩ ?_;clear hO hI;rintro k0 s out1 T H ⟨G,hT,hO,hI⟩ h1 ho0;obtain⟨sg,i3⟩:=s;replace h1:kI cY t1 sg i3=some out1:=h1
 try dsimp only at hT
 refine bD hT ?_;clear hT;unfold kI at h1;refine aN ?_;refine aY aB 4 [] [(9,(aF (decide (i3<(lN t1)))))] ?_;refine bJ h1 (fun h1=>?_) (fun h1=>?_)
 ·refine bK ?_;refine bH [(0,(yv yield0_b)),(1,(.rp (eL aI t1))),(3,(eI i3))] ?_;refine bT 1 ?_;refine aN ?_;refine aT aB 6 ?_;obtain⟨c2,h1⟩:=bC h1;refine lP [0<=i3/\i3<(lN t1)] ⟨c2,trivial⟩ ?_;refine bP [] [(4,(eL aD ((gD t1 i3).Row)))] ?_;refine aN ?_;refine aT aB 2 ?_;refine kH [] 2 ?_;refine bE ?_;refine bP [] [(5,(.sl true 0 (fun _=>.bad)))] ?_;refine cV (fun T H=>∃ sg:σ,∃ i3:Int,∃ r4:(List aH),∃ f5:List aM,∃ lo3:Nat,∃ G:Gs,Has T [(0,(yv yield0_b)),(1,(.rp (eL aI t1))),(3,(eI i3)),(4,(eL aD r4)),(5,(.msl 2 lo3 0 (List.length f5)))]/\aL ⟨H0,List.map (fun p:Nat×eN=>p.1) G0,G⟩ H [(lo3,2,List.map aR f5)]/\I sg G/\tF cY sg t1 i3 r4 f5=some out1) ?_ ?_
  ·clear hO hI h1;rintro T H ⟨sg,i3,r4,f5,lo3,G,hT,hO,hI,h1⟩;refine bD hT ?_;clear hT;unfold tF at h1;refine aN ?_;refine aT aB 6 ?_;refine YZ (e:=aR) f5 0 5 2 lo3 (List.length f5) [] (by kernel_rfl) hO (by kernel_rfl) (by kernel_rfl) (by kernel_rfl) (by kernel_rfl) ?_;intro H hO;refine bN 2 ?_;obtain⟨x7,hx8,h1⟩:=aZ h1;refine cJ (US r4 _ hx8) hO ?_;intro H hO;refine bN 4 ?_;obtain⟨x10,hx11,h1⟩:=aZ h1;refine RP (I:=I) (yv yield0_b) [(eL aD x7),(eL aR f5)] (aF x10.2) (by kernel_rfl) (by kernel_rfl) (yield0_h _ x7 f5 x10.1 x10.2 hx11) hO hI ?_;intro G H hO hI;refine bE ?_;refine bP [4,5] [(50,(aF (!x10.2)))] ?_;refine bJ h1 (fun h1=>?_) (fun h1=>?_)
   ·refine bL ?_;obtain rfl:=oI h1;obtain rfl:_=rr0:=ho0;replace h0:some x10.1=some r:=h0;obtain rfl:=oI h0;exact aE (bI (aS (bI (lS (x:=(.tup [])) (by kernel_rfl) (aQ.refl _) ⟨rfl,G,hI,hO.EL⟩))))
   refine bK ?_;exact aE (aV (aC (⟨rfl,_,(oI h1).symm,_,aX,hO,hI⟩)))
  refine bT 2 ?_;refine eC [(0,(yv yield0_b)),(1,(.rp (eL aI t1))),(3,(eI i3)),(4,(eL aD ((gD t1 i3).Row))),(5,(.sl true 0 (fun _=>.bad)))] ?_;refine wY (el:=(fun _=>.bad)) 4 5 2 hO (by kernel_rfl) ?_;intro lo24 H25 hO;refine dR (fun T H=>∃ sg:σ,∃ i3:Int,∃ r4:(List aH),∃ f5:List aM,∃ lo14:Nat,∃ G:Gs,Has T [(0,(yv yield0_b)),(1,(.rp (eL aI t1))),(3,(eI i3)),(4,(eL aD r4)),(5,(.msl 2 lo14 0 (List.length f5)))]/\aL ⟨H0,List.map (fun p:Nat×eN=>p.1) G0,G⟩ H [(lo14,2,List.map aR f5)]/\I sg G/\xM cY sg t1 i3 r4 f5=some out1) ?_ ⟨sg,i3,(gD t1 i3).Row,([]:List aM),lo24,G,aX,hO,hI,h1⟩;clear hO hI h1;rintro T H ⟨sg,i3,r4,f5,lo14,G,hT,hO,hI,h1⟩;refine bD hT ?_;clear hT;unfold xM at h1;obtain⟨rr1,hl1,h1⟩:=aZ h1;refine eX (fun (s:σ×Int×List aM) T H=>∃ lo14:Nat,∃ G:Gs,Has T [(0,(yv yield0_b)),(1,(.rp (eL aI t1))),(3,(eI s.2.1)),(4,(eL aD r4)),(5,(.msl 2 lo14 0 (List.length s.2.2)))]/\aL ⟨H0,List.map (fun p:Nat×eN=>p.1) G0,G⟩ H [(lo14,2,List.map aR s.2.2)]/\I s.1 G) hl1 ⟨lo14,G,aX,hO,hI⟩ ?_;clear hO hI;rintro k1 s out2 T H ⟨lo14,G,hT,hO,hI⟩ h2 ho1;obtain⟨sg,i3,f5⟩:=s;replace h2:lO cY t1 r4 sg i3 f5=some out2:=h2
  try dsimp only at hT
  refine bD hT ?_;clear hT;unfold lO at h2;refine aN ?_;refine aN ?_;refine aT aB 13 ?_;obtain⟨c15,h2⟩:=bC h2;refine lI 11 [(((decide (i3<(lN t1))))=true->0<=i3/\i3<(lN t1))] ⟨c15,trivial⟩ ?_;obtain⟨x16,hx17,h2⟩:=aZ h2;refine lE [(20,true)] 88 [(eL aD ((gD t1 i3).Row)),(eL aD r4)] (aF x16) (decide (i3<(lN t1))) (by kernel_rfl) (by kernel_rfl) (by kernel_rfl) (fun hb18=>(WM ((gD t1 i3).Row) r4 _ (fZ hx17 hb18))) hO ?_;intro H hO;refine bE ?_;refine bP [] [(28,(aF ((decide (i3<(lN t1)))&&x16)))] ?_;refine bJ h2 (fun h2=>?_) (fun h2=>?_)
  ·refine bK ?_;refine bH [(0,(yv yield0_b)),(1,(.rp (eL aI t1))),(3,(eI i3)),(4,(eL aD r4)),(5,(.msl 2 lo14 0 (List.length f5)))] ?_;refine aN ?_;refine bT 3 ?_;refine eU (eW [32,36,37,41,43]) aB 15 ?_;obtain⟨c20,h2⟩:=bC h2;obtain⟨c21,h2⟩:=bC h2;refine cL 12 [0<=i3/\i3<(lN t1),0<=i3/\i3<(lN t1)] ⟨c20,c21,trivial⟩ ?_;refine UU (xs:=[(aR (aM.mk ((gD t1 i3).At) ((gD t1 i3).Net)))]) (k:=2) (by kernel_rfl) (by kernel_rfl) ?_;obtain⟨c23,h2⟩:=bC h2;refine MO (e:=aR) f5 ([aM.mk ((gD t1 i3).At) ((gD t1 i3).Net)]) 0 lo14 2 16 (eB [(aR (aM.mk ((gD t1 i3).At) ((gD t1 i3).Net)))]) (fun lo22=>[(lo22,2,List.map aR (f5++([aM.mk ((gD t1 i3).At) ((gD t1 i3).Net)])))]) (by kernel_rfl) (by kernel_rfl) hO (by kernel_rfl) (by kernel_rfl) c23 (fun _=>by kernel_rfl) ?_;intro lo22 H hO;refine gH ?_;refine eA [(0,(yv yield0_b)),(1,(.rp (eL aI t1))),(3,(eI i3)),(4,(eL aD r4)),(5,(.msl 2 lo22 0 (List.length (f5++([aM.mk ((gD t1 i3).At) ((gD t1 i3).Net)])))))] ?_;refine aE (aV (aC (?_)));refine aT aB 3 ?_;refine bE ?_;exact aE (aC (⟨rfl,_,(oI h2).symm,_,_,aX,hO,hI⟩))
  refine eH 2 ?_;obtain rfl:=oI h2;obtain rfl:_=rr1:=ho1;replace h1:tF cY sg t1 i3 r4 f5=some out1:=h1;exact aE (aW (aW (bQ (aC (⟨rfl,_,_,_,_,_,_,aX,hO,hI,h1⟩)))))
 refine eH 0 ?_;obtain rfl:=oI h1;obtain rfl:_=rr0:=ho0;replace h0:some sg=some r:=h0;obtain rfl:=oI h0;exact aE (aW (aW (bQ (DO (x:=(.tup [])) (by kernel_rfl) (aQ.refl _) ⟨rfl,G,hI,hO.EL⟩))))

theorem BC (s0:(List aH))(f1_f:Nat)(f1_a f1_c:List V)(f1:aH->Option Bool)(f1_h:∀ a0 r,f1 a0=some r->dF Tryz.prog f1_f (f1_a++[(aD a0)]++f1_c) (aF r))(r:Int)(h0:kA s0 f1=some r):dF Tryz.prog 119 [(eL aD s0),(.fn (.func f1_f) f1_a f1_c)] (eI r):=by
 intro H0;refine dB Tryz.func119 ?_;have hO:=aL.start H0;unfold kA at h0;refine aY aB 1 [] [] ?_;refine cV (fun T H=>Has T []/\aL ⟨H0,[],[]⟩ H []/\hU f1  = some r) ?_ ?_
 ·clear hO h0;rintro T H ⟨hT,hO,h0⟩;refine bD hT ?_;clear hT;unfold hU at h0;refine bS aB 1 [(4,(eI (-1:Int)))] ?_;refine bL ?_;obtain rfl:=oI h0;exact aE (Q_r hO)
 refine aY aB 3 [] [(7,(eI (lN s0))),(8,(eI 0))] ?_;refine bT 0 ?_;refine eC [(0,(eL aD s0)),(1,(.fn (.func f1_f) f1_a f1_c)),(7,(eI (lN s0))),(8,(eI 0))] ?_;refine dR (fun T H=>∃ t7:Int,∃ t8:Int,Has T [(0,(eL aD s0)),(1,(.fn (.func f1_f) f1_a f1_c)),(7,(eI t7)),(8,(eI t8))]/\aL ⟨H0,[],[]⟩ H []/\jR f1 s0 t7 t8=some r) ?_ ⟨(lN s0),(0:Int),aX,hO,h0⟩;clear hO h0;rintro T H ⟨t7,t8,hT,hO,h0⟩;refine bD hT ?_;clear hT;unfold jR at h0;obtain⟨rr0,hl0,h0⟩:=aZ h0;refine eX (fun (s:Int) T H=>Has T [(0,(eL aD s0)),(1,(.fn (.func f1_f) f1_a f1_c)),(7,(eI t7)),(8,(eI s))]/\aL ⟨H0,[],[]⟩ H []) hl0 ⟨aX,hO⟩ ?_;clear hO;rintro k0 s out1 T H ⟨hT,hO⟩ h1 ho0;obtain⟨t8,rfl⟩:∃ x,x=s:=⟨_,rfl⟩;replace h1:jQ f1 s0 t7 t8=some out1:=h1;refine bD hT ?_;clear hT;unfold jQ at h1;refine aY aB 1 [] [(9,(aF (decide (t8<t7))))] ?_;refine aN ?_;refine bJ h1 (fun h1=>?_) (fun h1=>?_)
 ·refine bK ?_;refine bH [(0,(eL aD s0)),(1,(.fn (.func f1_f) f1_a f1_c)),(7,(eI t7)),(8,(eI t8))] ?_;refine aN ?_;refine bT 1 ?_;refine aY aB 2 [] [(5,(eI t8))] ?_;refine aN ?_;refine aT aB 6 ?_;obtain⟨c2,h1⟩:=bC h1;refine lI 5 [0<=t8/\t8<(lN s0)] ⟨c2,trivial⟩ ?_;obtain⟨x3,hx4,h1⟩:=aZ h1;refine cJ (f1_h (gD s0 t8) _ hx4) hO ?_;intro H hO;refine eK ?_;refine bP [] [(16,(aF x3))] ?_;refine bJ h1 (fun h1=>?_) (fun h1=>?_)
  ·refine bS aB 2 [(4,(eI t8))] ?_;refine bL ?_;obtain rfl:=oI h1;obtain rfl:_=rr0:=ho0;replace h0:some t8=some r:=h0;obtain rfl:=oI h0;exact aE (bI (aS (aS (bI (aS (Q_r hO))))))
  refine bK ?_;refine eA [(0,(eL aD s0)),(1,(.fn (.func f1_f) f1_a f1_c)),(7,(eI t7)),(8,(eI t8))] ?_;refine aE (aV (aC (?_)));refine aT aB 2 ?_;refine bE ?_;exact aE (aC (⟨rfl,_,(oI h1).symm,aX,hO⟩))
 refine eH 0 ?_;obtain rfl:=oI h1;obtain rfl:_=rr0:=ho0;replace h0:hU f1  = some r:=h0;exact aE (aW (aW (bQ (aC (⟨rfl,aX,hO,h0⟩)))))

theorem yL (s0:(List aH))(f1_f:Nat)(f1_a f1_c:List V)(f1:aH->Option Bool)(f1_h:∀ a0 r,f1 a0=some r->dF Tryz.prog f1_f (f1_a++[(aD a0)]++f1_c) (aF r))(r:Bool)(h0:gK s0 f1=some r):dF Tryz.prog 116 [(eL aD s0),(.fn (.func f1_f) f1_a f1_c)] (aF r):=by
 intro H0;refine dB Tryz.func116 ?_;have hO:=aL.start H0;unfold gK at h0;refine aY aB 1 [] [] ?_;refine aN ?_;refine aT aB 5 ?_;refine bN 2 ?_;obtain⟨x1,hx2,h0⟩:=aZ h0;refine cJ (BC s0 f1_f f1_a f1_c f1 f1_h _ hx2) hO ?_;intro H hO;refine bE ?_;refine bH [(4,(aF (decide ((0:Int)<=x1))))] ?_;refine bL ?_;obtain rfl:=oI h0;exact aE (Q_r hO)

theorem FW (v0:aH)(r:(cA×Bool))(h0:oD v0=some r):dF Tryz.prog 129 [(aD v0)] (.tup [(bV r.1),(aF r.2)]):=by
 intro H0;refine dB Tryz.func129 ?_;have hO:=aL.start H0;unfold oD at h0;refine aN ?_;refine aT aB 3 ?_;refine kE 3 (aD v0) ?_;refine bE ?_;refine bH [(1,(.rp (aD v0)))] ?_;refine aN ?_;refine bT 0 ?_;refine aY aB 9 [] [(4,(aF ((decide (v0.Kind=(1:Int)))&&(qT v0.Text (⟨#[]⟩:ByteArray)))))] ?_;refine bJ h0 (fun h0=>?_) (fun h0=>?_)
 ·refine bS aB 5 [(2,(bV (cA.k_number v0.Num))),(3,(aF true))] ?_;refine bL ?_;obtain rfl:=oI h0;exact aE (bI (aS (Q_r hO)))
 refine aY aB 15 [4] [(16,(aF (((decide (v0.Kind=(2:Int)))&&(decide (v0.Num=(0:Int))))&&(decide (((ByteArray.size v0.Text:Nat):Int)<=(64:Int))))))] ?_;refine bJ h0 (fun h0=>?_) (fun h0=>?_)
 ·refine bS aB 5 [(2,(bV (cA.k_words v0.Text))),(3,(aF true))] ?_;refine bL ?_;obtain rfl:=oI h0;exact aE (bI (aS (Q_r hO)))
 refine bK ?_;refine eA [] ?_;refine aE (aV (aC (?_)));refine bS aB 2 [(2,(bV cA.none_)),(3,(aF false))] ?_;refine bL ?_;obtain rfl:=oI h0;exact aE (Q_r hO)

theorem aDc (v0:aH)(r:Bool)(h0:DG v0=some r):dF Tryz.prog 118 [(aD v0)] (aF r):=by
 intro H0;refine dB Tryz.func118 ?_;have hO:=aL.start H0;unfold DG at h0;refine aN ?_;refine aT aB 2 ?_;refine kE 3 (aD v0) ?_;refine bE ?_;refine bH [(1,(.rp (aD v0)))] ?_;refine aN ?_;refine aT aB 7 ?_;refine bN 1 ?_;obtain⟨⟨x1_0,x1_1⟩,hx2,h0⟩:=aZ h0;refine cJ (FW v0 _ hx2) hO ?_;intro H hO;rcases x1_0 with _ | y4 | y5
 ·replace h0:(some x1_1)=some r:=h0;refine bE ?_;refine bH [(4,(aF x1_1))] ?_;refine bS aB 2 [(2,(aF x1_1))] ?_;refine bL ?_;obtain rfl:=oI h0;exact aE (Q_r hO)
 ·replace h0:(some x1_1)=some r:=h0;refine bE ?_;refine bH [(4,(aF x1_1))] ?_;refine bS aB 2 [(2,(aF x1_1))] ?_;refine bL ?_;obtain rfl:=oI h0;exact aE (Q_r hO)
 ·replace h0:(some x1_1)=some r:=h0;refine bE ?_;refine bH [(4,(aF x1_1))] ?_;refine bS aB 2 [(2,(aF x1_1))] ?_;refine bL ?_;obtain rfl:=oI h0;exact aE (Q_r hO)

theorem aDk (v0:aH)(r:Bool)(h0:CV v0=some r):dF Tryz.prog 117 [(aD v0)] (aF r):=by
 intro H0;refine dB Tryz.func117 ?_;have hO:=aL.start H0;unfold CV at h0;refine aN ?_;refine aT aB 2 ?_;refine kE 3 (aD v0) ?_;refine bE ?_;refine bH [(1,(.rp (aD v0)))] ?_;refine aN ?_;refine aT aB 4 ?_;refine bN 1 ?_;obtain⟨x1,hx2,h0⟩:=aZ h0;refine cJ (aDc v0 _ hx2) hO ?_;intro H hO;refine bE ?_;refine bH [(2,(aF (!x1)))] ?_;refine bL ?_;obtain rfl:=oI h0;exact aE (Q_r hO)

theorem QU (r0:(List aH))(r:Bool)(h0:AZ r0=some r):dF Tryz.prog 97 [(eL aD r0)] (aF r):=by
 intro H0;refine dB Tryz.func97 ?_;have hO:=aL.start H0;unfold AZ at h0;refine aY aB 1 [] [] ?_;refine aN ?_;refine aY aB 3 [] [(5,(aF (decide ((8:Int)<(lN r0)))))] ?_;refine bJ h0 (fun h0=>?_) (fun h0=>?_)
 ·refine bS aB 1 [(2,(aF false))] ?_;refine bL ?_;obtain rfl:=oI h0;exact aE (aS (Q_r hO))
 refine bK ?_;refine bH [(0,(eL aD r0))] ?_;refine aN ?_;refine aT aB 4 ?_;refine bN 1 ?_;obtain⟨x2,hx3,h0⟩:=aZ h0;refine cJ (yL r0 117 [] [] (fun y0=>CV y0) (fun y0 r h=>aDk y0 r h) _ hx3) hO ?_;intro H hO;refine bE ?_;refine bH [(2,(aF (!x2)))] ?_;refine bL ?_;obtain rfl:=oI h0;exact aE (Q_r hO)

theorem UY (t0:(List aH))(r:(Int×(List aH)))(h0:AM t0=some r):OE Tryz.prog 120 [(.rp (eL aD t0))] (fun lo=>(.fn (.func 121) [] [(.lp lo 0 0),(.rp (eL aD r.2))])) 1 [(eI r.1)]:=by
 intro H0;refine dB Tryz.func120 ?_;have hO:=aL.start H0;unfold AM at h0;refine aY aB 1 [] [] ?_;refine aN ?_;refine aT aB 2 ?_;refine nR 1 (eI 0) (by kernel_rfl) (by kernel_rfl) hO ?_;intro lo1 H hO;refine jT 0 lo1 1 0 (eI 0) (eI (-1:Int)) [(eI 0)] [(lo1,1,[(eI (-1:Int))])] hO rfl (by kernel_rfl) ?_;intro H hO;refine eK ?_;refine bP [] [(2,(.lp lo1 0 0))] ?_;refine aY aB 2 [0] [(1,(.fn (.func 121) [] [(.lp lo1 0 0),(.rp (eL aD t0))]))] ?_;refine bL ?_;obtain rfl:=oI h0;exact aE (lS (x:=(.fn (.func 121) [] [(.lp lo1 0 0),(.rp (eL aD t0))])) (by kernel_rfl) (aQ.refl _) ⟨lo1,rfl,hO⟩)

theorem zS {σ:Type}(I:σ->Gs->Prop)(s0:(List aH))(f1_v:V)(f1:σ->aH->Option (σ×Bool))(f1_h:∀ st a0 st2 r,f1 st a0=some (st2,r)->GX Tryz.prog f1_v I st [(aD a0)] st2 (aF r))(sg0:σ)(r:(σ×Int))(h0:jN s0 f1 sg0=some r):CJ Tryz.prog 119 I sg0 [(eL aD s0),f1_v] r.1 (eI r.2):=by
 intro H0 G0 hI hg;refine dB Tryz.func119 ?_;obtain⟨G,hO,hI⟩:∃ G,aL ⟨H0,List.map (fun p:Nat×eN=>p.1) G0,G⟩ H0 []/\I sg0 G:=⟨G0,aL.JM hg,hI⟩;clear hg;unfold jN at h0;refine aY aB 1 [] [] ?_;refine cV (fun T H=>∃ sg:σ,∃ G:Gs,Has T []/\aL ⟨H0,List.map (fun p:Nat×eN=>p.1) G0,G⟩ H []/\I sg G/\gL f1 sg=some r) ?_ ?_
 ·clear hO hI h0;rintro T H ⟨sg,G,hT,hO,hI,h0⟩;refine bD hT ?_;clear hT;unfold gL at h0;refine bS aB 1 [(4,(eI (-1:Int)))] ?_;refine bL ?_;obtain rfl:=oI h0;exact aE (lS (x:=(eI (-1:Int))) (by kernel_rfl) (aQ.refl _) ⟨rfl,G,hI,hO.EL⟩)
 refine aY aB 3 [] [(7,(eI (lN s0))),(8,(eI 0))] ?_;refine bT 0 ?_;refine eC [(0,(eL aD s0)),(1,f1_v),(7,(eI (lN s0))),(8,(eI 0))] ?_;refine dR (fun T H=>∃ sg:σ,∃ t7:Int,∃ t8:Int,∃ G:Gs,Has T [(0,(eL aD s0)),(1,f1_v),(7,(eI t7)),(8,(eI t8))]/\aL ⟨H0,List.map (fun p:Nat×eN=>p.1) G0,G⟩ H []/\I sg G/\jK f1 sg s0 t7 t8=some r) ?_ ⟨sg0,(lN s0),(0:Int),G,aX,hO,hI,h0⟩;clear hO hI h0;rintro T H ⟨sg,t7,t8,G,hT,hO,hI,h0⟩;refine bD hT ?_;clear hT;unfold jK at h0;obtain⟨rr0,hl0,h0⟩:=aZ h0;refine eX (fun (s:σ×Int) T H=>∃ G:Gs,Has T [(0,(eL aD s0)),(1,f1_v),(7,(eI t7)),(8,(eI s.2))]/\aL ⟨H0,List.map (fun p:Nat×eN=>p.1) G0,G⟩ H []/\I s.1 G) hl0 ⟨G,aX,hO,hI⟩ ?_;clear hO hI;rintro k0 s out1 T H ⟨G,hT,hO,hI⟩ h1 ho0;obtain⟨sg,t8⟩:=s;replace h1:dJ f1 s0 t7 sg t8=some out1:=h1
 try dsimp only at hT
 refine bD hT ?_;clear hT;unfold dJ at h1;refine aY aB 1 [] [(9,(aF (decide (t8<t7))))] ?_;refine aN ?_;refine bJ h1 (fun h1=>?_) (fun h1=>?_)
 ·refine bK ?_;refine bH [(0,(eL aD s0)),(1,f1_v),(7,(eI t7)),(8,(eI t8))] ?_;refine aN ?_;refine bT 1 ?_;refine aY aB 2 [] [(5,(eI t8))] ?_;refine aN ?_;refine aT aB 6 ?_;obtain⟨c2,h1⟩:=bC h1;refine lI 5 [0<=t8/\t8<(lN s0)] ⟨c2,trivial⟩ ?_;obtain⟨x3,hx4,h1⟩:=aZ h1;refine RP (I:=I) f1_v [(aD (gD s0 t8))] (aF x3.2) (by kernel_rfl) (by kernel_rfl) (f1_h _ (gD s0 t8) x3.1 x3.2 hx4) hO hI ?_;intro G H hO hI;refine eK ?_;refine bP [] [(16,(aF x3.2))] ?_;refine bJ h1 (fun h1=>?_) (fun h1=>?_)
  ·refine bS aB 2 [(4,(eI t8))] ?_;refine bL ?_;obtain rfl:=oI h1;obtain rfl:_=rr0:=ho0;replace h0:some (x3.1,t8)=some r:=h0;obtain rfl:=oI h0;exact aE (bI (aS (aS (bI (aS (lS (x:=(eI t8)) (by kernel_rfl) (aQ.refl _) ⟨rfl,G,hI,hO.EL⟩))))))
  refine bK ?_;refine eA [(0,(eL aD s0)),(1,f1_v),(7,(eI t7)),(8,(eI t8))] ?_;refine aE (aV (aC (?_)));refine aT aB 2 ?_;refine bE ?_;exact aE (aC (⟨rfl,_,(oI h1).symm,_,aX,hO,hI⟩))
 refine eH 0 ?_;obtain rfl:=oI h1;obtain rfl:_=rr0:=ho0;replace h0:gL f1 sg=some r:=h0;exact aE (aW (aW (bQ (aC (⟨rfl,_,_,aX,hO,hI,h0⟩)))))

theorem SB (v0:aH)(lo1p:Nat)(t1:Int)(t2:(List aH))(r:(Bool×Int))(h0:mA v0 t1 t2=some r):tU Tryz.prog 121 lo1p 1 [(eI t1)] [(eI r.2)] [(aD v0),(.lp lo1p 0 0),(.rp (eL aD t2))] (aF r.1):=by
 intro H0 hl0;refine dB Tryz.func121 ?_;have hO:=aL.yV hl0;clear hl0;unfold mA at h0;refine aN ?_;refine aT aB 2 ?_;refine kE 3 (aD v0) ?_;refine bE ?_;refine bP [0] [(3,(.rp (aD v0)))] ?_;refine aN ?_;refine aT aB 3 ?_;refine jL 0 lo1p 1 0 (eI t1) (eI t1) [(eI t1)] hO rfl ?_;refine bN 2 ?_;refine jT 0 lo1p 1 0 (eI t1) (eI (wR (t1+(1:Int)))) [(eI t1)] [(lo1p,1,[(eI (wR (t1+(1:Int))))])] hO rfl (by kernel_rfl) ?_;intro H hO;refine eK ?_;refine bP [] [] ?_;refine aN ?_;refine eU (eW [7,8,11]) aB 7 ?_;refine iE 2 ?_;refine gI 0 lo1p 1 0 (eI (wR (t1+(1:Int)))) (eI (wR (t1+(1:Int)))) [(eI (wR (t1+(1:Int))))] hO rfl ?_;obtain⟨c1,h0⟩:=bC h0;refine FK (Ds:=[0<=(wR (t1+(1:Int)))/\(wR (t1+(1:Int)))<(lN t2)]) (by kernel_rfl) ⟨c1,trivial⟩ ?_;refine bH [(1,(.lp lo1p 0 0)),(4,(aF (!((decide (v0.Kind=((gD t2 (wR (t1+(1:Int)))).Kind)))&&((decide (v0.Num=((gD t2 (wR (t1+(1:Int)))).Num)))&&((qT v0.Text ((gD t2 (wR (t1+(1:Int)))).Text))&&true))))))] ?_;refine bL ?_;obtain rfl:=oI h0;exact aE (lS (x:=(aF (!((decide (v0.Kind=((gD t2 (wR (t1+(1:Int)))).Kind)))&&((decide (v0.Num=((gD t2 (wR (t1+(1:Int)))).Num)))&&((qT v0.Text ((gD t2 (wR (t1+(1:Int)))).Text))&&true)))))) (by kernel_rfl) (aQ.refl _) ⟨rfl,hO.ext,hO.at 0 (by kernel_rfl),rfl⟩)

theorem AB (x0:Int)(r:Bool)(h0:mJ x0=some r):dF Tryz.prog 100 [(eI x0)] (aF r):=by
 intro H0;refine dB Tryz.func100 ?_;have hO:=aL.start H0;unfold mJ at h0;refine aY aB 1 [] [] ?_;refine bS aB 4 [(2,(aF (!decide (x0=x0))))] ?_;refine bL ?_;obtain rfl:=oI h0;exact aE (Q_r hO)

theorem SD (x0:Int)(y1:Int)(r:Int)(h0:rW x0 y1=some r):dF Tryz.prog 122 [(eI x0),(eI y1)] (eI r):=by
 intro H0;refine dB Tryz.func122 ?_;have hO:=aL.start H0;unfold rW at h0;refine aY aB 1 [] [] ?_;refine aN ?_;refine aT aB 3 ?_;refine bN 1 ?_;obtain⟨x1,hx2,h0⟩:=aZ h0;refine cJ (AB x0 _ hx2) hO ?_;intro H hO;refine bE ?_;refine bP [] [(5,(aF x1))] ?_;refine aN ?_;refine aT aB 3 ?_;refine bN 1 ?_;obtain⟨x4,hx5,h0⟩:=aZ h0;refine cJ (AB y1 _ hx5) hO ?_;intro H hO;refine bE ?_;refine bP [] [(6,(aF x4))] ?_;refine aN ?_;refine aY aB 1 [5] [(11,(aF x1))] ?_;refine bJ h0 (fun h0=>?_) (fun h0=>?_)
 ·refine aN ?_;refine bS aB 1 [(12,(aF x4))] ?_;refine bJ h0 (fun h0=>?_) (fun h0=>?_)
  ·refine bS aB 1 [(4,(eI 0))] ?_;refine bL ?_;obtain rfl:=oI h0;exact aE (aS (aS (Q_r hO)))
  refine bK ?_;refine bH [] ?_;refine bS aB 1 [(4,(eI (-1:Int)))] ?_;refine bL ?_;obtain rfl:=oI h0;exact aE (aS (Q_r hO))
 refine bK ?_;refine bH [(0,(eI x0)),(1,(eI y1)),(6,(aF x4))] ?_;refine aN ?_;refine aY aB 1 [6] [(13,(aF x4))] ?_;refine bJ h0 (fun h0=>?_) (fun h0=>?_)
 ·refine bS aB 1 [(4,(eI 1))] ?_;refine bL ?_;obtain rfl:=oI h0;exact aE (aS (Q_r hO))
 refine bK ?_;refine bH [(0,(eI x0)),(1,(eI y1))] ?_;refine aN ?_;refine aY aB 3 [] [(16,(aF (decide (x0<y1))))] ?_;refine bJ h0 (fun h0=>?_) (fun h0=>?_)
 ·refine bS aB 1 [(4,(eI (-1:Int)))] ?_;refine bL ?_;obtain rfl:=oI h0;exact aE (aS (Q_r hO))
 refine bK ?_;refine bH [(0,(eI x0)),(1,(eI y1))] ?_;refine aN ?_;refine bS aB 3 [(19,(aF (decide (y1<x0))))] ?_;refine bJ h0 (fun h0=>?_) (fun h0=>?_)
 ·refine bS aB 1 [(4,(eI 1))] ?_;refine bL ?_;obtain rfl:=oI h0;exact aE (aS (Q_r hO))
 refine bK ?_;refine bH [] ?_;refine bS aB 1 [(4,(eI 0))] ?_;refine bL ?_;obtain rfl:=oI h0;exact aE (Q_r hO)

theorem BH (x0:Int)(r:Bool)(h0:mZ x0=some r):dF Tryz.prog 133 [(eI x0)] (aF r):=by
 intro H0;refine dB Tryz.func133 ?_;have hO:=aL.start H0;unfold mZ at h0;refine aY aB 1 [] [] ?_;refine bS aB 4 [(2,(aF (!decide (x0=x0))))] ?_;refine bL ?_;obtain rfl:=oI h0;exact aE (Q_r hO)

theorem HU (x0:Int)(y1:Int)(r:Int)(h0:iJ x0 y1=some r):dF Tryz.prog 130 [(eI x0),(eI y1)] (eI r):=by
 intro H0;refine dB Tryz.func130 ?_;have hO:=aL.start H0;unfold iJ at h0;refine aY aB 1 [] [] ?_;refine aN ?_;refine aT aB 3 ?_;refine bN 1 ?_;obtain⟨x1,hx2,h0⟩:=aZ h0;refine cJ (BH x0 _ hx2) hO ?_;intro H hO;refine bE ?_;refine bP [] [(5,(aF x1))] ?_;refine aN ?_;refine aT aB 3 ?_;refine bN 1 ?_;obtain⟨x4,hx5,h0⟩:=aZ h0;refine cJ (BH y1 _ hx5) hO ?_;intro H hO;refine bE ?_;refine bP [] [(6,(aF x4))] ?_;refine aN ?_;refine aY aB 1 [5] [(11,(aF x1))] ?_;refine bJ h0 (fun h0=>?_) (fun h0=>?_)
 ·refine aN ?_;refine bS aB 1 [(12,(aF x4))] ?_;refine bJ h0 (fun h0=>?_) (fun h0=>?_)
  ·refine bS aB 1 [(4,(eI 0))] ?_;refine bL ?_;obtain rfl:=oI h0;exact aE (aS (aS (Q_r hO)))
  refine bK ?_;refine bH [] ?_;refine bS aB 1 [(4,(eI (-1:Int)))] ?_;refine bL ?_;obtain rfl:=oI h0;exact aE (aS (Q_r hO))
 refine bK ?_;refine bH [(0,(eI x0)),(1,(eI y1)),(6,(aF x4))] ?_;refine aN ?_;refine aY aB 1 [6] [(13,(aF x4))] ?_;refine bJ h0 (fun h0=>?_) (fun h0=>?_)
 ·refine bS aB 1 [(4,(eI 1))] ?_;refine bL ?_;obtain rfl:=oI h0;exact aE (aS (Q_r hO))
 refine bK ?_;refine bH [(0,(eI x0)),(1,(eI y1))] ?_;refine aN ?_;refine aY aB 3 [] [(16,(aF (decide (x0<y1))))] ?_;refine bJ h0 (fun h0=>?_) (fun h0=>?_)
 ·refine bS aB 1 [(4,(eI (-1:Int)))] ?_;refine bL ?_;obtain rfl:=oI h0;exact aE (aS (Q_r hO))
 refine bK ?_;refine bH [(0,(eI x0)),(1,(eI y1))] ?_;refine aN ?_;refine bS aB 3 [(19,(aF (decide (y1<x0))))] ?_;refine bJ h0 (fun h0=>?_) (fun h0=>?_)
 ·refine bS aB 1 [(4,(eI 1))] ?_;refine bL ?_;obtain rfl:=oI h0;exact aE (aS (Q_r hO))
 refine bK ?_;refine bH [] ?_;refine bS aB 1 [(4,(eI 0))] ?_;refine bL ?_;obtain rfl:=oI h0;exact aE (Q_r hO)

theorem EG (a0:ByteArray)(b1:ByteArray)(r:Int)(h0:lM a0 b1=some r):dF Tryz.prog 134 [(GN a0),(GN b1)] (eI r):=by
 intro H0;refine dB Tryz.func134 ?_;have hO:=aL.start H0;unfold lM at h0;refine aY aB 1 [] [] ?_;refine aN ?_;refine aT aB 4 ?_;refine bN 2 ?_;refine aHA 135 [(GN a0),(GN b1)] (eI (YP a0 b1)) (by kernel_rfl) (by kernel_rfl) (aGM Tryz.func135 (by kernel_rfl) (by kernel_rfl) (by kernel_rfl) (by kernel_rfl) a0 b1) hO ?_;intro H hO;refine bE ?_;refine bH [(4,(eI (YP a0 b1)))] ?_;refine bL ?_;obtain rfl:=oI h0;exact aE (Q_r hO)

theorem SA (a0:ByteArray)(b1:ByteArray)(r:Int)(h0:pQ a0 b1=some r):dF Tryz.prog 131 [(GN a0),(GN b1)] (eI r):=by
 intro H0;refine dB Tryz.func131 ?_;have hO:=aL.start H0;unfold pQ at h0;refine aY aB 1 [] [] ?_;refine aN ?_;refine aT aB 4 ?_;refine bN 2 ?_;obtain⟨x1,hx2,h0⟩:=aZ h0;refine cJ (EG a0 b1 _ hx2) hO ?_;intro H hO;refine bE ?_;refine bH [(4,(eI x1))] ?_;refine bL ?_;obtain rfl:=oI h0;exact aE (Q_r hO)

theorem WL (a0:aH)(b1:aH)(r:Int)(h0:uT a0 b1=some r):dF Tryz.prog 123 [(aD a0),(aD b1)] (eI r):=by
 intro H0;refine dB Tryz.func123 ?_;have hO:=aL.start H0;unfold uT at h0;refine aN ?_;refine aT aB 3 ?_;refine kE 3 (aD a0) ?_;refine kE 3 (aD b1) ?_;refine bE ?_;refine bH [(2,(.rp (aD a0))),(3,(.rp (aD b1)))] ?_;refine aN ?_;refine aT aB 7 ?_;refine bN 1 ?_;obtain⟨⟨x1_0,x1_1⟩,hx2,h0⟩:=aZ h0;refine cJ (FW a0 _ hx2) hO ?_;intro H hO;rcases x1_0 with _ | y4 | y5
 ·replace h0:((oD b1).bind fun (x6_0,x6_1)=>match x6_0 with | .none_=>(cond ((!x1_1)||(!x6_1)) (some (0:Int)) (none)) | .k_number y9=>(cond ((!x1_1)||(!x6_1)) (some (0:Int)) (some (1:Int))) | .k_words y10=>(cond ((!x1_1)||(!x6_1)) (some (0:Int)) (none)))=some r:=h0;refine bE ?_;refine bP [2] [(5,(bV cA.none_)),(6,(aF x1_1))] ?_;refine aN ?_;refine aT aB 7 ?_;refine bN 1 ?_;obtain⟨⟨x6_0,x6_1⟩,hx7,h0⟩:=aZ h0;refine cJ (FW b1 _ hx7) hO ?_;intro H hO;rcases x6_0 with _ | y9 | y10
  ·replace h0:(cond ((!x1_1)||(!x6_1)) (some (0:Int)) (none))=some r:=h0;refine bE ?_;refine bP [3] [(7,(bV cA.none_)),(8,(aF x6_1))] ?_;refine aN ?_;refine aY aB 6 [6,8] [(28,(aF ((!x1_1)||(!x6_1))))] ?_;refine bJ h0 (fun h0=>?_) (fun h0=>?_)
   ·refine bS aB 1 [(4,(eI 0))] ?_;refine bL ?_;obtain rfl:=oI h0;exact aE (aS (Q_r hO))
   refine bK ?_;refine bH [(5,(bV cA.none_)),(7,(bV cA.none_))] ?_;refine aY aB 7 [] [(9,(eI 0)),(10,(aF false))] ?_;refine aY aB 7 [] [(11,(eI 0)),(12,(aF false))] ?_;refine aN ?_;refine bT 0 ?_;refine aY aB 5 [] [(39,(aF false))] ?_;refine oG (false) (fun hc12=>?_) (fun hc12=>?_)
   ·cases hc12
   ·refine aY aB 2 [9,10,11,39] [(47,(aF false))] ?_;refine oG (false) (fun hc13=>?_) (fun hc13=>?_)
    ·cases hc13
    ·refine bS aB 2 [(5,(bV cA.none_)),(7,(bV cA.none_)),(49,(aF false))] ?_;refine oG (false) (fun hc14=>?_) (fun hc14=>?_)
     ·cases hc14
     ·refine bK ?_;refine eA [(5,(bV cA.none_)),(7,(bV cA.none_))] ?_;refine aE (aV (aC (?_)));refine aN ?_;refine eU (eW []) aB 6 ?_
      cases h0
  ·replace h0:(cond ((!x1_1)||(!x6_1)) (some (0:Int)) (some (1:Int)))=some r:=h0;refine bE ?_;refine bP [3] [(7,(bV (cA.k_number y9))),(8,(aF x6_1))] ?_;refine aN ?_;refine aY aB 6 [6,8] [(28,(aF ((!x1_1)||(!x6_1))))] ?_;refine bJ h0 (fun h0=>?_) (fun h0=>?_)
   ·refine bS aB 1 [(4,(eI 0))] ?_;refine bL ?_;obtain rfl:=oI h0;exact aE (aS (Q_r hO))
   refine bK ?_;refine bH [(5,(bV cA.none_)),(7,(bV (cA.k_number y9)))] ?_;refine aY aB 7 [] [(9,(eI 0)),(10,(aF false))] ?_;refine aY aB 7 [] [(11,(eI y9)),(12,(aF true))] ?_;refine aN ?_;refine bT 0 ?_;refine aY aB 5 [] [(39,(aF false))] ?_;refine oG (false) (fun hc16=>?_) (fun hc16=>?_)
   ·cases hc16
   ·refine aY aB 2 [9,10,11,39] [(47,(aF false))] ?_;refine oG (false) (fun hc17=>?_) (fun hc17=>?_)
    ·cases hc17
    ·refine bS aB 2 [(5,(bV cA.none_)),(7,(bV (cA.k_number y9))),(49,(aF true))] ?_;refine oG (true) (fun hc18=>?_) (fun hc18=>?_)
     ·refine bS aB 1 [(4,(eI 1))] ?_;refine bL ?_;obtain rfl:=oI h0;exact aE (bI (aS (Q_r hO)))
     ·cases hc18
  ·replace h0:(cond ((!x1_1)||(!x6_1)) (some (0:Int)) (none))=some r:=h0;refine bE ?_;refine bP [3] [(7,(bV (cA.k_words y10))),(8,(aF x6_1))] ?_;refine aN ?_;refine aY aB 6 [6,8] [(28,(aF ((!x1_1)||(!x6_1))))] ?_;refine bJ h0 (fun h0=>?_) (fun h0=>?_)
   ·refine bS aB 1 [(4,(eI 0))] ?_;refine bL ?_;obtain rfl:=oI h0;exact aE (aS (Q_r hO))
   refine bK ?_;refine bH [(5,(bV cA.none_)),(7,(bV (cA.k_words y10)))] ?_;refine aY aB 7 [] [(9,(eI 0)),(10,(aF false))] ?_;refine aY aB 7 [] [(11,(eI 0)),(12,(aF false))] ?_;refine aN ?_;refine bT 0 ?_;refine aY aB 5 [] [(39,(aF false))] ?_;refine oG (false) (fun hc20=>?_) (fun hc20=>?_)
   ·cases hc20
   ·refine aY aB 2 [9,10,11,39] [(47,(aF false))] ?_;refine oG (false) (fun hc21=>?_) (fun hc21=>?_)
    ·cases hc21
    ·refine bS aB 2 [(5,(bV cA.none_)),(7,(bV (cA.k_words y10))),(49,(aF false))] ?_;refine oG (false) (fun hc22=>?_) (fun hc22=>?_)
     ·cases hc22
     ·refine bK ?_;refine eA [(5,(bV cA.none_)),(7,(bV (cA.k_words y10)))] ?_;refine aE (aV (aC (?_)));refine aN ?_;refine eU (eW []) aB 6 ?_
      cases h0
 ·replace h0:((oD b1).bind fun (x23_0,x23_1)=>match x23_0 with | .none_=>(cond ((!x1_1)||(!x23_1)) (some (0:Int)) (some (-1:Int))) | .k_number y26=>(cond ((!x1_1)||(!x23_1)) (some (0:Int)) ((iJ y4 y26).bind fun x33=>some x33)) | .k_words y27=>(cond ((!x1_1)||(!x23_1)) (some (0:Int)) (some (-1:Int))))=some r:=h0;refine bE ?_;refine bP [2] [(5,(bV (cA.k_number y4))),(6,(aF x1_1))] ?_;refine aN ?_;refine aT aB 7 ?_;refine bN 1 ?_;obtain⟨⟨x23_0,x23_1⟩,hx24,h0⟩:=aZ h0;refine cJ (FW b1 _ hx24) hO ?_;intro H hO;rcases x23_0 with _ | y26 | y27
  ·replace h0:(cond ((!x1_1)||(!x23_1)) (some (0:Int)) (some (-1:Int)))=some r:=h0;refine bE ?_;refine bP [3] [(7,(bV cA.none_)),(8,(aF x23_1))] ?_;refine aN ?_;refine aY aB 6 [6,8] [(28,(aF ((!x1_1)||(!x23_1))))] ?_;refine bJ h0 (fun h0=>?_) (fun h0=>?_)
   ·refine bS aB 1 [(4,(eI 0))] ?_;refine bL ?_;obtain rfl:=oI h0;exact aE (aS (Q_r hO))
   refine bK ?_;refine bH [(5,(bV (cA.k_number y4))),(7,(bV cA.none_))] ?_;refine aY aB 7 [] [(9,(eI y4)),(10,(aF true))] ?_;refine aY aB 7 [] [(11,(eI 0)),(12,(aF false))] ?_;refine aN ?_;refine bT 0 ?_;refine aY aB 5 [] [(39,(aF false))] ?_;refine oG (false) (fun hc29=>?_) (fun hc29=>?_)
   ·cases hc29
   ·refine aY aB 2 [9,10,11,39] [(47,(aF true))] ?_;refine oG (true) (fun hc30=>?_) (fun hc30=>?_)
    ·refine bS aB 1 [(4,(eI (-1:Int)))] ?_;refine bL ?_;obtain rfl:=oI h0;exact aE (bI (aS (Q_r hO)))
    ·cases hc30
  ·replace h0:(cond ((!x1_1)||(!x23_1)) (some (0:Int)) ((iJ y4 y26).bind fun x33=>some x33))=some r:=h0;refine bE ?_;refine bP [3] [(7,(bV (cA.k_number y26))),(8,(aF x23_1))] ?_;refine aN ?_;refine aY aB 6 [6,8] [(28,(aF ((!x1_1)||(!x23_1))))] ?_;refine bJ h0 (fun h0=>?_) (fun h0=>?_)
   ·refine bS aB 1 [(4,(eI 0))] ?_;refine bL ?_;obtain rfl:=oI h0;exact aE (aS (Q_r hO))
   refine bK ?_;refine bH [(5,(bV (cA.k_number y4))),(7,(bV (cA.k_number y26)))] ?_;refine aY aB 7 [] [(9,(eI y4)),(10,(aF true))] ?_;refine aY aB 7 [] [(11,(eI y26)),(12,(aF true))] ?_;refine aN ?_;refine bT 0 ?_;refine aY aB 5 [] [(39,(aF true))] ?_;refine oG (true) (fun hc32=>?_) (fun hc32=>?_)
   ·refine aN ?_;refine aT aB 4 ?_;refine bN 2 ?_;obtain⟨x33,hx34,h0⟩:=aZ h0;refine cJ (HU y4 y26 _ hx34) hO ?_;intro H hO;refine bE ?_;refine bH [(4,(eI x33))] ?_;refine bL ?_;obtain rfl:=oI h0;exact aE (bI (aS (Q_r hO)))
   ·cases hc32
  ·replace h0:(cond ((!x1_1)||(!x23_1)) (some (0:Int)) (some (-1:Int)))=some r:=h0;refine bE ?_;refine bP [3] [(7,(bV (cA.k_words y27))),(8,(aF x23_1))] ?_;refine aN ?_;refine aY aB 6 [6,8] [(28,(aF ((!x1_1)||(!x23_1))))] ?_;refine bJ h0 (fun h0=>?_) (fun h0=>?_)
   ·refine bS aB 1 [(4,(eI 0))] ?_;refine bL ?_;obtain rfl:=oI h0;exact aE (aS (Q_r hO))
   refine bK ?_;refine bH [(5,(bV (cA.k_number y4))),(7,(bV (cA.k_words y27)))] ?_;refine aY aB 7 [] [(9,(eI y4)),(10,(aF true))] ?_;refine aY aB 7 [] [(11,(eI 0)),(12,(aF false))] ?_;refine aN ?_;refine bT 0 ?_;refine aY aB 5 [] [(39,(aF false))] ?_;refine oG (false) (fun hc37=>?_) (fun hc37=>?_)
   ·cases hc37
   ·refine aY aB 2 [9,10,11,39] [(47,(aF true))] ?_;refine oG (true) (fun hc38=>?_) (fun hc38=>?_)
    ·refine bS aB 1 [(4,(eI (-1:Int)))] ?_;refine bL ?_;obtain rfl:=oI h0;exact aE (bI (aS (Q_r hO)))
    ·cases hc38
 ·replace h0:((oD b1).bind fun (x39_0,x39_1)=>match x39_0 with | .none_=>(cond ((!x1_1)||(!x39_1)) (some (0:Int)) (none)) | .k_number y42=>(cond ((!x1_1)||(!x39_1)) (some (0:Int)) (some (1:Int))) | .k_words y43=>(cond ((!x1_1)||(!x39_1)) (some (0:Int)) ((pQ y5 y43).bind fun x56=>some x56)))=some r:=h0;refine bE ?_;refine bP [2] [(5,(bV (cA.k_words y5))),(6,(aF x1_1))] ?_;refine aN ?_;refine aT aB 7 ?_;refine bN 1 ?_;obtain⟨⟨x39_0,x39_1⟩,hx40,h0⟩:=aZ h0;refine cJ (FW b1 _ hx40) hO ?_;intro H hO;rcases x39_0 with _ | y42 | y43
  ·replace h0:(cond ((!x1_1)||(!x39_1)) (some (0:Int)) (none))=some r:=h0;refine bE ?_;refine bP [3] [(7,(bV cA.none_)),(8,(aF x39_1))] ?_;refine aN ?_;refine aY aB 6 [6,8] [(28,(aF ((!x1_1)||(!x39_1))))] ?_;refine bJ h0 (fun h0=>?_) (fun h0=>?_)
   ·refine bS aB 1 [(4,(eI 0))] ?_;refine bL ?_;obtain rfl:=oI h0;exact aE (aS (Q_r hO))
   refine bK ?_;refine bH [(5,(bV (cA.k_words y5))),(7,(bV cA.none_))] ?_;refine aY aB 7 [] [(9,(eI 0)),(10,(aF false))] ?_;refine aY aB 7 [] [(11,(eI 0)),(12,(aF false))] ?_;refine aN ?_;refine bT 0 ?_;refine aY aB 5 [] [(39,(aF false))] ?_;refine oG (false) (fun hc45=>?_) (fun hc45=>?_)
   ·cases hc45
   ·refine aY aB 2 [9,10,11,39] [(47,(aF false))] ?_;refine oG (false) (fun hc46=>?_) (fun hc46=>?_)
    ·cases hc46
    ·refine bS aB 2 [(5,(bV (cA.k_words y5))),(7,(bV cA.none_)),(49,(aF false))] ?_;refine oG (false) (fun hc47=>?_) (fun hc47=>?_)
     ·cases hc47
     ·refine bK ?_;refine eA [(5,(bV (cA.k_words y5))),(7,(bV cA.none_))] ?_;refine aE (aV (aC (?_)));refine aN ?_;refine eU (eW []) aB 6 ?_
      cases h0
  ·replace h0:(cond ((!x1_1)||(!x39_1)) (some (0:Int)) (some (1:Int)))=some r:=h0;refine bE ?_;refine bP [3] [(7,(bV (cA.k_number y42))),(8,(aF x39_1))] ?_;refine aN ?_;refine aY aB 6 [6,8] [(28,(aF ((!x1_1)||(!x39_1))))] ?_;refine bJ h0 (fun h0=>?_) (fun h0=>?_)
   ·refine bS aB 1 [(4,(eI 0))] ?_;refine bL ?_;obtain rfl:=oI h0;exact aE (aS (Q_r hO))
   refine bK ?_;refine bH [(5,(bV (cA.k_words y5))),(7,(bV (cA.k_number y42)))] ?_;refine aY aB 7 [] [(9,(eI 0)),(10,(aF false))] ?_;refine aY aB 7 [] [(11,(eI y42)),(12,(aF true))] ?_;refine aN ?_;refine bT 0 ?_;refine aY aB 5 [] [(39,(aF false))] ?_;refine oG (false) (fun hc49=>?_) (fun hc49=>?_)
   ·cases hc49
   ·refine aY aB 2 [9,10,11,39] [(47,(aF false))] ?_;refine oG (false) (fun hc50=>?_) (fun hc50=>?_)
    ·cases hc50
    ·refine bS aB 2 [(5,(bV (cA.k_words y5))),(7,(bV (cA.k_number y42))),(49,(aF true))] ?_;refine oG (true) (fun hc51=>?_) (fun hc51=>?_)
     ·refine bS aB 1 [(4,(eI 1))] ?_;refine bL ?_;obtain rfl:=oI h0;exact aE (bI (aS (Q_r hO)))
     ·cases hc51
  ·replace h0:(cond ((!x1_1)||(!x39_1)) (some (0:Int)) ((pQ y5 y43).bind fun x56=>some x56))=some r:=h0;refine bE ?_;refine bP [3] [(7,(bV (cA.k_words y43))),(8,(aF x39_1))] ?_;refine aN ?_;refine aY aB 6 [6,8] [(28,(aF ((!x1_1)||(!x39_1))))] ?_;refine bJ h0 (fun h0=>?_) (fun h0=>?_)
   ·refine bS aB 1 [(4,(eI 0))] ?_;refine bL ?_;obtain rfl:=oI h0;exact aE (aS (Q_r hO))
   refine bK ?_;refine bH [(5,(bV (cA.k_words y5))),(7,(bV (cA.k_words y43)))] ?_;refine aY aB 7 [] [(9,(eI 0)),(10,(aF false))] ?_;refine aY aB 7 [] [(11,(eI 0)),(12,(aF false))] ?_;refine aN ?_;refine bT 0 ?_;refine aY aB 5 [] [(39,(aF false))] ?_;refine oG (false) (fun hc53=>?_) (fun hc53=>?_)
   ·cases hc53
   ·refine aY aB 2 [9,10,11,39] [(47,(aF false))] ?_;refine oG (false) (fun hc54=>?_) (fun hc54=>?_)
    ·cases hc54
    ·refine bS aB 2 [(5,(bV (cA.k_words y5))),(7,(bV (cA.k_words y43))),(49,(aF false))] ?_;refine oG (false) (fun hc55=>?_) (fun hc55=>?_)
     ·cases hc55
     ·refine bK ?_;refine eA [(5,(bV (cA.k_words y5))),(7,(bV (cA.k_words y43)))] ?_;refine aE (aV (aC (?_)));refine aN ?_;refine eU (eW []) aB 6 ?_;refine iE 4 ?_;obtain⟨x56,hx57,h0⟩:=aZ h0;refine zR (SA y5 y43 _ hx57) hO ?_;intro H hO;refine gH ?_;refine bH [(4,(eI x56))] ?_;refine bL ?_;obtain rfl:=oI h0;exact aE (Q_r hO)

theorem aAu (a0:(List aH))(b1:(List aH))(r:Int)(h0:yH a0 b1=some r):dF Tryz.prog 98 [(eL aD a0),(eL aD b1)] (eI r):=by
 intro H0;refine dB Tryz.func98 ?_;have hO:=aL.start H0;unfold yH at h0;refine aN ?_;refine aT aB 2 ?_;refine kE 1 (eL aD b1) ?_;refine bE ?_;refine bP [1] [(3,(.rp (eL aD b1)))] ?_;refine aN ?_;refine aN ?_;refine aT aB 8 ?_;refine bN 1 ?_;obtain⟨x1,hx2,h0⟩:=aZ h0;refine cJ (QU a0 _ hx2) hO ?_;intro H hO;refine bN 5 ?_;obtain⟨x4,hx5,h0⟩:=aZ h0;refine lE [(10,false)] 97 [(eL aD b1)] (aF x4) (!(!x1)) (by kernel_rfl) (by kernel_rfl) (by kernel_rfl) (fun hb6=>(QU b1 _ (fZ hx5 hb6))) hO ?_;intro H hO;refine bE ?_;refine bP [] [(14,(aF ((!x1)||(!x4))))] ?_;refine bJ h0 (fun h0=>?_) (fun h0=>?_)
 ·refine bS aB 1 [(4,(eI 0))] ?_;refine bL ?_;obtain rfl:=oI h0;exact aE (aS (Q_r hO))
 refine bK ?_;refine bH [(0,(eL aD a0)),(3,(.rp (eL aD b1)))] ?_;refine aY aB 6 [] [(5,(eI (if (lN b1)<(lN a0) then (lN b1) else (lN a0))))] ?_;refine aN ?_;refine eU (eW []) aB 7 ?_;obtain⟨c8,h0⟩:=bC h0;refine cL 4 [0<=(if (lN b1)<(lN a0) then (lN b1) else (lN a0))/\(if (lN b1)<(lN a0) then (lN b1) else (lN a0))<=(lN a0)] ⟨c8,trivial⟩ ?_;obtain⟨x9,hx10,h0⟩:=aZ h0;refine aHQ (L':=fun lo11=>[(lo11,1,[(eI x9.1)])]) 1 [(eI x9.1)] 120 [(.rp (eL aD b1))] (fun lo11=>(.fn (.func 121) [] [(.lp lo11 0 0),(.rp (eL aD x9.2))])) (by kernel_rfl) (by kernel_rfl) (UY b1 _ hx10) hO (fun _=>by kernel_rfl) ?_;intro lo11 H hO;obtain⟨x12,hx13,h0⟩:=aZ h0;refine aHB (fun st G'=>G'=up [(lo11,1,[(eI st)])]++[]) [(lo11,1,[(eI x12.1)])] x9.1 x12.1 119 [(.sl false (Int.toNat (if (lN b1)<(lN a0) then (lN b1) else (lN a0))) (fun i=>aD (List.getD a0 i default))),(.fn (.func 121) [] [(.lp lo11 0 0),(.rp (eL aD x9.2))])] (eI x12.2) (by kernel_rfl) (by kernel_rfl) (CJ.sub (as0':=[(eL aD (List.take (Int.toNat (if (lN b1)<(lN a0) then (lN b1) else (lN a0))) a0)),(.fn (.func 121) [] [(.lp lo11 0 0),(.rp (eL aD x9.2))])]) (zS _ (List.take (Int.toNat (if (lN b1)<(lN a0) then (lN b1) else (lN a0))) a0) (.fn (.func 121) [] [(.lp lo11 0 0),(.rp (eL aD x9.2))]) (fun st y0=>(mA y0 st x9.2).bind fun o=>some (o.2,o.1)) (fun st y0 st2 rr hr=>(SB y0 lo11 st x9.2 _ (aI3 hr)).toV (ys:=[]) (zs:=[(aD y0)]) (cs:=[(.lp lo11 0 0),(.rp (eL aD x9.2))]) (fun Gx hG=>⟨up [],up []++[],hG,rfl⟩)) _ _ hx13) ⟨aDp (Int.toNat_le.2 (And.right c8)),aQ.refl _,trivial⟩) hO rfl (fun _ h=>h) ?_;intro H hO;refine gH ?_;replace hO:=hO.pick (L':=[]) [] (by decide) (by kernel_rfl);refine bP [5] [(6,(eI x12.2))] ?_;refine aN ?_;refine aY aB 2 [] [(27,(aF (decide (x12.2<(0:Int)))))] ?_;refine bJ h0 (fun h0=>?_) (fun h0=>?_)
 ·refine aN ?_;refine aT aB 6 ?_;refine bN 4 ?_;obtain⟨x15,hx16,h0⟩:=aZ h0;refine cJ (SD (lN a0) (lN b1) _ hx16) hO ?_;intro H hO;refine bE ?_;refine bH [(4,(eI x15))] ?_;refine bL ?_;obtain rfl:=oI h0;exact aE (aS (Q_r hO))
 refine bK ?_;refine bH [(0,(eL aD a0)),(3,(.rp (eL aD b1))),(6,(eI x12.2))] ?_;refine aN ?_;refine eU (eW [36,37,40,41]) aB 10 ?_;obtain⟨c18,h0⟩:=bC h0;obtain⟨c19,h0⟩:=bC h0;refine cL 8 [0<=x12.2/\x12.2<(lN a0),0<=x12.2/\x12.2<(lN b1)] ⟨c18,c19,trivial⟩ ?_;obtain⟨x20,hx21,h0⟩:=aZ h0;refine zR (WL (gD a0 x12.2) (gD b1 x12.2) _ hx21) hO ?_;intro H hO;refine gH ?_;refine bH [(4,(eI x20))] ?_;refine bL ?_;obtain rfl:=oI h0;exact aE (Q_r hO)

theorem TA (l0:(List aJ))(holds1_f:Nat)(holds1_a holds1_c:List V)(BG:(List aM)->Option Bool)(holds1_h:∀ a0 r,BG a0=some r->dF Tryz.prog holds1_f (holds1_a++[(eL aR a0)]++holds1_c) (aF r))(r:Bool)(h0:zJ l0 BG=some r):dF Tryz.prog 72 [(eL aI l0),(.fn (.func holds1_f) holds1_a holds1_c)] (aF r):=by
 intro H0;refine GJ aB Tryz.func72 (by kernel_rfl) (by kernel_rfl) (by kernel_rfl) ?_;have hO:=aL.start H0;unfold zJ at h0;refine aN ?_;refine aT aB 2 ?_;refine kE 1 (.fn (.func holds1_f) holds1_a holds1_c) ?_;refine nR 1 (aF false) (by kernel_rfl) (by kernel_rfl) hO ?_;intro lo1 H hO;refine eK ?_;refine bP [1] [(3,(.rp (.fn (.func holds1_f) holds1_a holds1_c))),(4,(.lp lo1 0 0))] ?_;refine aN ?_;refine aY aB 3 [] [(11,(aF (decide ((4096:Int)<(lN l0)))))] ?_;refine bJ h0 (fun h0=>?_) (fun h0=>?_)
 ·refine aN ?_;refine aT aB 1 ?_;refine jT 0 lo1 1 0 (aF false) (aF false) [(aF false)] [(lo1,1,[(aF false)])] hO rfl (by kernel_rfl) ?_;intro H hO;refine eK ?_;refine bH [(4,(.lp lo1 0 0))] ?_;refine bL ?_;obtain rfl:=oI h0;exact aE (aS (QM0 (.inr rfl) (rs:=[.cell 4 4]) (xs:=[(aF false)]) (x:=(aF false)) (by kernel_rfl) (pP (lo:=lo1) (k:=1) (y:=(aF false)) (x:=(aF false)) 0 hO (by kernel_rfl) (by kernel_rfl) (by kernel_rfl) (by kernel_rfl) pZ) (by kernel_rfl) ⟨rfl,hO.out⟩))
 refine bK ?_;refine bH [(0,(eL aI l0)),(3,(.rp (.fn (.func holds1_f) holds1_a holds1_c))),(4,(.lp lo1 0 0))] ?_;refine aN ?_;refine aT aB 1 ?_;refine rQ 1 (.sl true 0 (fun _=>.bad)) (eL aD ([])) (by kernel_rfl) (by kernel_rfl) (by kernel_rfl) (dV) (by kernel_rfl) (by kernel_rfl) hO ?_;intro lo3 H hO;refine eK ?_;refine bP [] [(5,(.lp lo3 0 0))] ?_;refine aN ?_;refine aT aB 2 ?_;refine nR 1 (aF false) (by kernel_rfl) (by kernel_rfl) hO ?_;intro lo4 H hO;refine jT 2 lo4 1 0 (aF false) (aF false) [(aF false)] [(lo1,1,[(aF false)]),(lo3,1,[(eL aD ([]))]),(lo4,1,[(aF false)])] hO rfl (by kernel_rfl) ?_;intro H hO;refine eK ?_;refine bP [] [(6,(.lp lo4 0 0))] ?_;refine aN ?_;refine aN ?_;refine aT aB 2 ?_;refine bN 1 ?_;obtain⟨x5,hx6,h0⟩:=aZ h0;refine cJ (SN l0 _ hx6) hO ?_;intro H hO;refine eK ?_;refine bP [0] [(13,(.fn (.func 103) [] [(.rp (eL aI x5))]))] ?_;refine bT 0 ?_;refine eC [(3,(.rp (.fn (.func holds1_f) holds1_a holds1_c))),(4,(.lp lo1 0 0)),(5,(.lp lo3 0 0)),(6,(.lp lo4 0 0)),(13,(.fn (.func 103) [] [(.rp (eL aI x5))]))] ?_;refine dR (fun T H=>∃ t4:Bool,∃ rZ:(List aH),∃ mP:Bool,∃ BW:(List aJ),Has T [(3,(.rp (.fn (.func holds1_f) holds1_a holds1_c))),(4,(.lp lo1 0 0)),(5,(.lp lo3 0 0)),(6,(.lp lo4 0 0)),(13,(.fn (.func 103) [] [(.rp (eL aI BW))]))]/\aL ⟨H0,[],[]⟩ H [(lo1,1,[(aF t4)]),(lo3,1,[(eL aD rZ)]),(lo4,1,[(aF mP)])]/\GC BG t4 rZ mP BW=some r) ?_ ⟨false,[],false,x5,aX,hO,h0⟩;clear hO h0;rintro T H ⟨t4,rZ,mP,BW,hT,hO,h0⟩;refine bD (l:=[(3,(.rp (.fn (.func holds1_f) holds1_a holds1_c))),(4,(.lp lo1 0 0)),(5,(.lp lo3 0 0)),(6,(.lp lo4 0 0)),(13,(.fn (.func 103) [] [(.rp (eL aI BW))]))]) hT ?_;clear hT;unfold GC at h0;obtain⟨o0,hl0,h0⟩:=aZ h0;refine EF (fid:=103) (ys:=[]) (cs:=[(.rp (eL aI BW))]) #[14,15] (fun (A:vP) (b lL:Nat) (st:(Bool×(List aH)×Bool)⊕(Bool×(List aH)×Bool)) (G':Gs)=>Sum.elim (fun (s:Bool×(List aH)×Bool)=>G'=(lL,.raw (iN b A .ready none))::(up [(lo1,1,[(aF s.1)]),(lo3,1,[(eL aD s.2.1)]),(lo4,1,[(aF s.2.2)])]++[])) (fun (s:Bool×(List aH)×Bool)=>G'=(lL,.raw (iN b A .done (some .ret)))::(up [(lo1,1,[(aF s.1)]),(lo3,1,[(eL aD s.2.1)]),(lo4,1,[(aF s.2.2)])]++[])) st) (.inl (t4,rZ,mP)) o0 (.tup []) (by kernel_rfl) (by kernel_rfl) (by kernel_rfl) hO (fun _ _=>rfl) ?_ ?_
 ·intro b lL;clear hO h0;refine LB _ b (fun st t14 t15=>rnd (fun (s:Bool×(List aH)×Bool)=>tK BG BW s.1 s.2.1 s.2.2 t14 t15) st) ?_ BW _ _ hl0;intro st t14 t15 out1 rr hr;obtain⟨s,rfl,h1,rfl⟩:=PC hr;clear hr;intro Hr Gr hi hg;obtain⟨t4,rZ,mP⟩:=s;dsimp only [Sum.elim_inl] at hi;obtain rfl:=hi;replace h1:tK BG BW t4 rZ mP t14 t15=some out1:=h1;unfold tK at h1;obtain⟨E1,hE,hO⟩:=sE hg;refine sF (AQ (hO.gm 0 _ rfl).2 (by kernel_rfl) (by kernel_rfl) ?_);refine eC [(3,(.rp (.fn (.func holds1_f) holds1_a holds1_c))),(4,(.lp lo1 0 0)),(5,(.lp lo3 0 0)),(6,(.lp lo4 0 0)),(13,(.fn (.func 103) [] [(.rp (eL aI BW))])),(14,(eL aD t14)),(15,(eL aR t15))] ?_;refine aY aB 1 [13,14] [(7,(eL aD t14))] ?_;refine aT aB 1 ?_;refine bE ?_;refine eA [(3,(.rp (.fn (.func holds1_f) holds1_a holds1_c))),(4,(.lp lo1 0 0)),(5,(.lp lo3 0 0)),(6,(.lp lo4 0 0)),(7,(eL aD t14)),(8,(eL aR t15))] ?_;refine aE (⟨rfl,rfl,(hO.gm 0 _ rfl).2,?_⟩);intro o1 ho1;replace hO:=hO.qE o1;refine bT 1 ?_;refine aN ?_;refine aN ?_;refine aT aB 18 ?_;refine bN 1 ?_;obtain⟨x7,hx8,h1⟩:=aZ h1;refine cJ (QU t14 _ hx8) hO ?_;intro H hO;refine bN 4 ?_;refine uI [(19,false)] 2 lo4 1 0 (aF mP) (aF mP) [(aF mP)] (by kernel_rfl) (by kernel_rfl) hO (by kernel_rfl) (!(!x7)) (by kernel_rfl) (fun hb10=>rfl) ?_;refine bN 6 ?_;refine uI [(21,true),(19,false)] 1 lo3 1 0 (eL aD rZ) (eL aD rZ) [(eL aD rZ)] (by kernel_rfl) (by kernel_rfl) hO (by kernel_rfl) (mP&&(!(!x7))) (by kernel_rfl) (fun hb11=>rfl) ?_;refine bN 8 ?_;obtain⟨x12,hx13,h1⟩:=aZ h1;refine lE [(21,true),(19,false)] 98 [(eL aD rZ),(eL aD t14)] (eI x12) (mP&&(!(!x7))) (by kernel_rfl) (by kernel_rfl) (by kernel_rfl) (fun hb14=>(aAu rZ t14 _ (fZ hx13 hb14))) hO ?_;intro H hO;refine bN 15 ?_;obtain⟨x15,hx16,h1⟩:=aZ h1;refine lE [(28,false)] holds1_f (holds1_a++[(eL aR t15)]++holds1_c) (aF x15) (!((!x7)||(mP&&(decide ((0:Int)<=x12))))) (by kernel_rfl) (by kernel_rfl) (by kernel_rfl) (fun hb17=>(holds1_h t15 _ (fZ hx16 hb17))) hO ?_;intro H hO;refine bE ?_;refine bP [3,8] [(33,(aF (((!x7)||(mP&&(decide ((0:Int)<=x12))))||(!x15))))] ?_;refine bJ h1 (fun h1=>?_) (fun h1=>?_)
  ·refine aN ?_;refine aT aB 1 ?_;refine jT 0 lo1 1 0 (aF t4) (aF false) [(aF t4)] [(lo1,1,[(aF false)]),(lo3,1,[(eL aD rZ)]),(lo4,1,[(aF mP)])] hO rfl (by kernel_rfl) ?_;intro H hO;refine eK ?_;refine bP [7,33] [] ?_;refine bL ?_;refine eA [(4,(.lp lo1 0 0)),(5,(.lp lo3 0 0)),(6,(.lp lo4 0 0))] ?_;obtain rfl:=oI h1;exact aE (aS (bI (⟨(eY hO hE ho1 .dead).1,rfl,_,rfl,(eY hO hE ho1 _).2⟩)))
  refine bK ?_;refine bH [(4,(.lp lo1 0 0)),(5,(.lp lo3 0 0)),(6,(.lp lo4 0 0)),(7,(eL aD t14))] ?_;refine aT aB 3 ?_;refine bN 1 ?_;refine jT 1 lo3 1 0 (eL aD rZ) (eL aD t14) [(eL aD rZ)] [(lo1,1,[(aF t4)]),(lo3,1,[(eL aD t14)]),(lo4,1,[(aF mP)])] hO rfl (by kernel_rfl) ?_;intro H hO;refine jT 2 lo4 1 0 (aF mP) (aF true) [(aF mP)] [(lo1,1,[(aF t4)]),(lo3,1,[(eL aD t14)]),(lo4,1,[(aF true)])] hO rfl (by kernel_rfl) ?_;intro H hO;refine eK ?_;refine eA [(4,(.lp lo1 0 0)),(5,(.lp lo3 0 0)),(6,(.lp lo4 0 0))] ?_;obtain rfl:=oI h1;exact aE (aV (⟨(eY hO hE ho1 .dead).1,rfl,_,rfl,(eY hO hE ho1 _).2⟩))
 ·intro b lD19 lL H' G' hi hO;rcases o0 with s | s
  ·dsimp only [Sum.elim_inl] at hi;obtain rfl:=hi;replace h0:(some true)=some r:=h0;obtain⟨hlL,hO⟩:=oY hO;refine⟨_,_,hlL,(by intro e; cases e),?_⟩;refine eA [(4,(.lp lo1 0 0))] ?_;replace hO:=hO.pick (L':=[(lo1,1,[(aF s.1)])]) [0] (by decide) (by kernel_rfl);refine aE (aV (aC (?_)));refine aN ?_;refine aT aB 1 ?_;refine jT 0 lo1 1 0 (aF s.1) (aF true) [(aF s.1)] [(lo1,1,[(aF true)])] hO rfl (by kernel_rfl) ?_;intro H hO;refine eK ?_;refine bH [(4,(.lp lo1 0 0))] ?_;refine bL ?_;obtain rfl:=oI h0;have hD:=(hO.gm 0 _ rfl).2;replace hO:=(hO.qE .dead).qS;exact aE (QM1 (.inr rfl) hD (rs:=[.cell 4 4]) (xs:=[(aF true)]) (x:=(aF true)) (by kernel_rfl) (pP (lo:=lo1) (k:=1) (y:=(aF true)) (x:=(aF true)) 0 hO (by kernel_rfl) (by kernel_rfl) (by kernel_rfl) (by kernel_rfl) pZ) (by kernel_rfl) ⟨rfl,hO.out⟩)
  ·dsimp only [Sum.elim_inr] at hi;obtain rfl:=hi;replace h0:(some s.1)=some r:=h0;obtain⟨hlL,hO⟩:=oY hO;refine⟨_,_,hlL,(by intro e; cases e),?_⟩;refine bL ?_;replace hO:=hO.pick (L':=[(lo1,1,[(aF s.1)])]) [0] (by decide) (by kernel_rfl);obtain rfl:=oI h0;have hD:=(hO.gm 0 _ rfl).2;replace hO:=(hO.qE .dead).qS;exact aE (bI (aS (QM1 (.inr rfl) hD (rs:=[.cell 4 4]) (xs:=[(aF s.1)]) (x:=(aF s.1)) (by kernel_rfl) (pP (lo:=lo1) (k:=1) (y:=(aF s.1)) (x:=(aF s.1)) 0 hO (by kernel_rfl) (by kernel_rfl) (by kernel_rfl) (by kernel_rfl) pZ) (by kernel_rfl) ⟨rfl,hO.out⟩)))

theorem aCX (n0:Int)(r:Bool)(h0:HB n0=some r):dF Tryz.prog 96 [(eI n0)] (aF r):=by
 intro H0;refine dB Tryz.func96 ?_;have hO:=aL.start H0;unfold HB at h0;refine aY aB 1 [] [] ?_;refine bS aB 7 [(2,(aF ((decide (n0<=(1048576:Int)))&&(decide ((-1048576:Int)<=n0)))))] ?_;refine bL ?_;obtain rfl:=oI h0;exact aE (Q_r hO)

end Go.Abs
end
