/- What the law WindowClocks stands on: the framework, the given functions as plain functions, their walks, and the plain laws; part 3. -/
import Derived.Test.YteecjdpicjpnfabGreatWindowClocksZ2
set_option linter.unusedSimpArgs false
set_option linter.unusedVariables false
noncomputable section
namespace Go.Abs
open Go Go.RowKit Go.MapKept
variable {P:Program} {H:aY} {K:V->aY->Prop}
section rules
variable {tt:TT} {N:Nat} {T:Env} {ops:Array Oper} {K:Env->aY->Prop} {i n:Nat} {H0:aY} {E:List Nat} {G:Gs} {L:List (Nat×Nat×List V)}
theorem YZ {β:Type} {f:β->V} {m:List (Int×β)} {mty:TypeId} {l:Nat} {ok:Bool} (htt:iE P tt) (k:Int) (z0:β) (hO:aJ ⟨H0,E,(l,qD f m)::G⟩ H L)
    (h:RWs P tt N ops (aL (i+1) n) (T.bU (cO ops i) ([],cond ok (.tup [f ((gI m k).getD z0),aC (gI m k).isSome]) (f ((gI m k).getD z0)))) H K)
    (hs:aL i n=i::aL (i+1) n:=by kernel_rfl) (hd:VO N ops T i=some (mty,l,.int .i64 k,ok):=by kernel_rfl) (hm:TV P tt mty=some (f z0):=by kernel_rfl):RWs P tt N ops (aL i n) T H K:=by
  obtain⟨kt,et,h1,h2,h3⟩:=ZW htt hm;have hl:=(hO.gm 0 _ rfl).2;unfold VO at hd;split at hd
  · rename_i mty' m' k' ok' hp
    split at hd
    · rename_i l' kv e1 e2
      simp at hd; obtain ⟨rfl,rfl,rfl,rfl⟩:=hd;refine xW hs hp (xs:=[.mp l',.lit (.int .i64 k)]) (by simp [Op.operands,iJ,e1,e2]) (aEF (kv:=.int .i64 k) (z:=f z0) h1 h2 rfl h3 hl (fun hnd hno=>?_) fun hnd j x hj=>?_)
      · have : gI m k=none:=VP fun p hp' e=>hno (.int .i64 p.1,f p.2) (List.mem_map.2 ⟨p,hp',rfl⟩) (by simp [e]);rw [this] at h;exact h
      · have : ∃ y,m[j]?=some (k,y)/\f y=x:=by
          simp only [uX,List.getElem?_map,Option.map_eq_some_iff] at hj;obtain⟨⟨a,b⟩,h3,h4⟩:=hj;simp at h4;exact⟨b,by rw [h3,h4.1],h4.2⟩
        obtain⟨y,hy,rfl⟩:=this;rw [UJ (SC hnd) hy] at h;exact h
    · simp at hd
  · simp at hd

end rules
def aE7 (P:Program)(f:FuncId)(args:List V)(M:Gs)(L:OL)(Post:V->Gs->OL->Prop):Prop :=
  ∀ (F:Frame) (H:aY),aJ ⟨F.h,F.e,M++F.g⟩ H L->mD P f args H fun x H'=>∃ M' L',Post x M' L'/\aJ ⟨F.h,F.e,M'++F.g⟩ H' L'

theorem aJ.aGO {H0:aY}{E:List Nat}{M G:Gs}{L R:OL}(h:aJ ⟨H0,E,M++G⟩ H (L++R)):aJ ⟨H0,E,M++(up R++G)⟩ H L:=by
  have h1:aJ ⟨H0,E,up R++(M++G)⟩ H L:=h.part;exact h1.qM (by rw [←List.append_assoc,←List.append_assoc]; exact List.Perm.append_right _ List.perm_append_comm)

theorem aJ.aG3 {H0:aY}{E:List Nat}{M G:Gs}{L R:OL}(h:aJ ⟨H0,E,M++(up R++G)⟩ H L):aJ ⟨H0,E,M++G⟩ H (L++R):=by
  have h1:aJ ⟨H0,E,up R++(M++G)⟩ H L:=h.qM (by rw [←List.append_assoc,←List.append_assoc]; exact List.Perm.append_right _ List.perm_append_comm);exact aJ.glue (F:=⟨H0,E,M++G⟩) h1

theorem aG4 {tt:TT} {N:Nat} {T:Env} {ops:Array Oper} {K:Env->aY->Prop} {i n:Nat} {H0:aY} {E:List Nat} {G:Gs} {L0 L:OL} {Post:V->Gs->OL->Prop} {fid:Nat} {as0:List V} (M:Gs) (R:OL) (ix:List Nat) (hc:aE7 P fid as0 M L Post) (hO:aJ ⟨H0,E,M++G⟩ H L0)
    (h:∀ x M' L' H',Post x M' L'->aJ ⟨H0,E,M'++G⟩ H' (L'++R)->RWs P tt N ops (aL (i+1) n) (T.bU (cO ops i) ([],x)) H' K) (hnd:ix.Nodup:=by decide) (hp:ix.map (fun i=>L0[i]?)=(L++R).map some:=by kernel_rfl)
    (hs:aL i n=i::aL (i+1) n:=by kernel_rfl) (hd:oC N ops T i=some (fid,as0):=by kernel_rfl):RWs P tt N ops (aL i n) T H K :=
  KJ hs hd (hc ⟨H0,E,up R++G⟩ H (hO.pick ix hnd hp).aGO) fun _ H' ⟨M',L',hP,hO'⟩=>h _ M' L' H' hP hO'.aG3

section ends
variable {fn:Func} {T:Env} {H:aY} {H0:aY} {E:List Nat} {G M:Gs} {Post:V->Gs->OL->Prop} {x:V} {L:OL}
end ends
end Go.Abs
namespace Go.Abs
open Go Go.RowKit
variable {P:Program} {tt:TT} {g:Gh} {w:World} {H:aY}
theorem aC3 {N:Nat} {c:Code} {l:List (Nat×V)} {ds:List Nat} {Q:Exit->Env->aY->List Nat->Prop} {fid:Nat} {ys cs:List V} {b0 l0:Nat} {A0:tD} {st0:LoopState} {pe0:Option Code} (h0:H[l0]?=some (.raw (iB b0 A0 st0 pe0)))
    (hk:c.kind=9) (hf:cH (Env.ofL l) [] c.cnd=some (.fn (.func fid) ys cs)) {ps:Array Tmp} (hps:c.rps=ps)
    (h:∀ b,mD P fid (ys++[yv b]++cs) (H++[.raw (iB b ⟨N,l,ps,c.asg,c.b⟩ .ready none)]) (fun _ H'=>∃ st pe,H'[H.length]?=some (.raw (iB b ⟨N,l,ps,c.asg,c.b⟩ st pe))/\st ≠ .busy /\
      (match pe with
       | none=>Cl N Q .normal (Env.ofL l) (H'.set H.length .dead) ds
       | some c'=>AWP P (some b0) N c' (Env.ofL l) (H'.set H.length .dead) ds Q))):AWP P (some b0) N c (Env.ofL l) H ds Q:=by
  cases c with
  | rangeFunc fo ps' asg body =>
    simp only [Code.rps] at hps;subst hps;simp only [Code.cnd] at hf;simp only [Code.asg,Code.b] at h;intro g w a R hg hr;refine wpIn_rangeFunc ?_;intro fn _;obtain⟨o0,p1,p2,pb,r0,rfl,_⟩:=hg.sr.raw l0 _ h0;rw [pb] at p1;obtain⟨rec,hrec⟩:∃ rec:Loop,rec={ state:=.ready,pending:=none,fn,tmps:=a.tmps,params:=ps',assign:=asg,body,defers:=r0.defers }:=⟨_,rfl⟩
    have n2:=hg.sr.EV (.loop rec) rfl (iB w.heap.size ⟨N,l,ps',asg,body⟩ .ready none) ⟨rfl,rec,rfl,by rw [hrec],by rw [hrec],by rw [hrec],by rw [hrec],by rw [hrec],by rw [hrec]; exact hg.sz,by
      have ht:rec.tmps=a.tmps:=by rw [hrec]
      rw [ht];exact hg.tr.DN ((hg.sr.EV (.loop rec) rfl ⟨fun _ _ _ _=>True,fun _ _=>trivial⟩ trivial).2.toExt0)⟩
    obtain⟨s2,e2⟩:=n2
    have henter:(Instr.enterLoop fn a.tmps ps' asg body (FR (some b0)).round).run P w=.ok (w.heap.size,[]) (w.alloc (.loop rec)):=by
      rw [hrec]; exact run_enterLoop_inner p1 fn a.tmps ps' asg body
    obtain⟨fs,cap,hfv,l1,l2,g1',g2'⟩:=(cK (hg.tr.DN e2.toExt0) (a:=a) (by intro p hp; simp at hp) hf).fnE;obtain⟨hent,hcalls⟩:=h w.heap.size;have hargs:(ys++[yv w.heap.size]++cs).length=(fs ++ #[Value.func (.yield w.heap.size) #[] #[]]++cap).size:=by simp [l1,l2]; omega
    refine⟨w.heap.size,[],w.alloc (.loop rec),⟨.fn (.func fid) cap,fs ++ #[Value.func (.yield w.heap.size) #[] #[]]⟩,w.alloc (.loop rec),fid,fs ++ #[Value.func (.yield w.heap.size) #[] #[]]++cap,w.alloc (.loop rec),henter,?_,fun _ _=>trivial,?_,fun h=>by simp [FR,Fence.wide] at h,?_⟩
    · have hm:Array.map a.eval #[Operand.const (Value.func (.yield w.heap.size) #[] #[])]=#[Value.func (.yield w.heap.size) #[] #[]]:=by
        simp [Act.eval]
      simp only [rangeCall,resolve,hfv,Deferred.ofValue,Sem.run_bind,Sem.run_pure,Result.andThen,hm]
    · simp only [invoke,hent]
    · refine JV ?_
      obtain⟨l4,g4⟩:=yL (xs:=ys) (ys:=[yv w.heap.size]) (as0:=fs) (bs := #[Value.func (.yield w.heap.size) #[] #[]]) l1 rfl g1' (fun i x y hx hy=>by
        cases i with
        | zero=>simp at hx hy; subst hx; subst hy; exact .lit _ rfl
        | succ i=>simp at hx)
      obtain⟨l5,g5⟩:=yL l4 l2 g4 g2';refine (hcalls _ _ _ s2 l5 g5).mono ?_;rintro e w3 ⟨v,r,g3,H3,rfl,_,s3,x3,st,pe,hL,hb,hq⟩;obtain⟨o3,q1,q2,qb,r3,rfl,z1,z2,z3,z4,z5,z6,z7⟩:=s3.raw _ _ hL;rw [qb] at q1;have s4:=s3.xX hL (.loop { r3 with state:=.exhausted }) rfl ⟨fun _ _ _ _=>True,fun _ _=>trivial⟩ trivial;rw [qb] at s4;obtain⟨s4,x4⟩:=s4;have s5:=s4.kill H.length;rw [List.set_set] at s5;have hxx:Ext g w g3 (w3.putObj w.heap.size (.loop { r3 with state:=.exhausted })):=(e2.trans x3).trans x4
      have hgood:Good N g3 (w3.putObj w.heap.size (.loop { r3 with state:=.exhausted })) (Env.ofL l) (H3.set H.length .dead) ds { a with defers:=[]++a.defers }:=by
        refine⟨s5,hg.tr.DN hxx.toExt0,?_,?_,hg.sz⟩
        · rw [List.nil_append,hg.df];apply List.map_congr_left;intro l' hl';simp only [mkD,hxx.blk l' (hg.dl l' hl')]
        · intro l' hl';exact Nat.lt_of_lt_of_le (hg.dl l' hl') hxx.n
      refine⟨_,_,run_endLoop q1 (by rw [z1]; exact hb),?_⟩;split
      · rename_i hp
        have hpe:pe=none:=z2.symm.trans hp;subst hpe;obtain⟨g5,T5,H5,hg5,hx5,hq5⟩:=hq _ _ _ hgood;exact hr _ _ _ _ _ _ _ hq5 hg5 (hxx.trans hx5)
      · rename_i c' hp
        have hpe:pe=some c':=z2.symm.trans hp;subst hpe;exact hq _ _ _ _ hgood fun e T' H' ds' g' w' a' hq' hg' hx'=>hr e T' H' ds' g' w' a' hq' hg' (hxx.trans hx')
  | region i o d=>cases d <;> simp [Code.kind] at hk
  | _=>simp [Code.kind] at hk

theorem aED {σ:Type} {N:Nat} {Q:Exit->Env->aY->List Nat->Prop} {ds:List Nat} {c:Code} {l:List (Nat×V)} {fid:Nat} {ys cs:List V} {H0:aY} {E:List Nat} {G:Gs} {L:List (Nat×Nat×List V)} {b0 l0:Nat} {A0:tD} {st0:LoopState} {pe0:Option Code} (ps:Array Tmp) (I:tD->Nat->Nat->σ->Gs->Prop) (s0 s1:σ) (v:V)
    (h0:H[l0]?=some (.raw (iB b0 A0 st0 pe0)))
    (hk:c.kind=9) (hf:cH (Env.ofL l) [] c.cnd=some (.fn (.func fid) ys cs)) (hps:c.rps=ps) (hO:aJ ⟨H0,E,G⟩ H L)
    (hi:∀ b lL,I ⟨N,l,ps,c.asg,c.b⟩ b lL s0 ((lL,.raw (iB b ⟨N,l,ps,c.asg,c.b⟩ .ready none))::(up L++G)))
    (hit:∀ b lL,yU P fid (I ⟨N,l,ps,c.asg,c.b⟩ b lL) s0 (ys++[yv b]++cs) s1 v)
    (hend:∀ b lL H' G',I ⟨N,l,ps,c.asg,c.b⟩ b lL s1 G'->aJ ⟨H0,E,G'⟩ H' [] -> ∃ st pe,H'[lL]?=some (.raw (iB b ⟨N,l,ps,c.asg,c.b⟩ st pe))/\st ≠ .busy /\
      (match pe with
       | none=>Cl N Q .normal (Env.ofL l) (H'.set lL .dead) ds
       | some c'=>AWP P (some b0) N c' (Env.ofL l) (H'.set lL .dead) ds Q)):AWP P (some b0) N c (Env.ofL l) H ds Q:=by
  refine aC3 h0 hk hf hps fun b=>?_;have o1:=hO.JC.PV (.raw (iB b ⟨N,l,ps,c.asg,c.b⟩ .ready none));refine (hit b H.length _ _ (hi b H.length) o1.gok).mono ?_;rintro x H' ⟨_,G',hi',hst⟩;exact hend b H.length H' G' hi' (o1.QV hst)

theorem OD {H0:aY}{E:List Nat}{lL:Nat}{s:dQ}{G:Gs}{L:List (Nat×Nat×List V)}(h:aJ ⟨H0,E,(lL,s)::(up L++G)⟩ H []) :
    H[lL]?=some s/\aJ ⟨H0,E,G⟩ (H.set lL .dead) L:=by
  refine⟨(h.gm 0 _ rfl).2,?_⟩;exact (h.oX .dead).pF.take

end Go.Abs
namespace Go.Abs
open Go Go.RowKit
theorem aGn {n:Nat}{el el':Nat->V}(h:∀ i,i<n->aR (el i) (el' i))(hn:∀ i,i<n->fU (el' i)=true):aR (.sl false n el) (.sl false n el'):=by
  intro g w v hv
  cases hv with
  | sl0 z el a cap hz=>exact .sl0 _ _ _ _ (by simp)
  | sl n el b o k cap c h1 h2 h3 h4 h5 h6=>exact .sl n _ b o k cap c (fun i hi=>h i hi g w _ (h1 i hi)) h2 h3 h4 h5 hn

theorem aFO {α:Type}[Inhabited α]{e:α->V}{xs:List V}{l:List α}(h:pR xs (l.map e))(hn:(l.map e).all fU=true):aR (eD xs) (eL e l):=by
  intro g w v hv;refine RH g w v ?_;have hlen:=h.len
  cases xs with
  | nil =>
    cases l with
    | nil=>exact hv
    | cons a s=>simp at hlen
  | cons x r =>
    cases l with
    | nil=>simp at hlen
    | cons a s =>
      have hl:r.length=(s.map e).length:=by simpa using hlen
      show Rep g w (.sl false ((s.map e).length+1) (fun i=>(e a::s.map e).getD i .bad)) v;rw [←hl];refine aGn (fun i hi=>?_) (fun i hi=>?_) g w v hv
      · have h1:i<(x::r).length:=by simpa using hi
        have h2:i<(e a::s.map e).length:=by simp only [List.length_cons]; omega
        have h3:(x::r).getD i .bad=(x::r)[i]:=by simp only [List.getD_eq_getElem?_getD,List.getElem?_eq_getElem h1,Option.getD_some]
        have h4:(e a::s.map e).getD i .bad=(e a::s.map e)[i]:=by simp only [List.getD_eq_getElem?_getD,List.getElem?_eq_getElem h2,Option.getD_some]
        rw [h3,h4];exact h.get i _ _ (List.getElem?_eq_getElem h1) (List.getElem?_eq_getElem h2)
      · have h2:i<(e a::s.map e).length:=by simp only [List.length_cons]; omega
        have h4:(e a::s.map e).getD i .bad=(e a::s.map e)[i]:=by simp only [List.getD_eq_getElem?_getD,List.getElem?_eq_getElem h2,Option.getD_some]
        rw [h4];exact List.all_eq_true.1 hn (e a::s.map e)[i] (List.getElem_mem h2)

def uD:Option Nat->V
  | none=>.lit (.pointer none)
  | some a=>.lp a 0 0

section bundles
variable {β:Type} (sh:Nat->Nat->β->OL)
def pmM:List (Nat×Nat)->List (Int×β)->List (Int×Option Nat)
  | q::los,p::m=>(p.1,some q.1)::pmM los m
  | _,_=>[]

def pmL:List (Nat×Nat)->List (Int×β)->OL
  | q::los,p::m=>sh q.1 q.2 p.2++pmL los m
  | _,_=>[]

def pmG (lm:Nat)(los:List (Nat×Nat))(m:List (Int×β)):Gs:=(lm,qD uD (pmM los m))::up (pmL sh los m)

variable {sh}
theorem SV:∀ {los:List (Nat×Nat)} {m:List (Int×β)},los.length=m.length->(pmM los m).length=m.length
  | [],[],_=>rfl
  | _::_,_::_,h=>by simp only [pmM,List.length_cons]; rw [SV (by simpa using h)]
  | [],_::_,h=>by simp at h
  | _::_,[],h=>by simp at h

theorem aBh {k:Int}:∀ {los:List (Nat×Nat)} {m:List (Int×β)},gI m k=none->gI (pmM los m) k=none
  | [],[],_=>rfl
  | [],_::_,_=>rfl
  | _::_,[],_=>rfl
  | q::los,p::m,h=>by
    rw [gI] at h;split at h
    · cases h
    · rename_i hk
      rw [pmM,gI,if_neg hk,aBh h]

def Put (sh:Nat->Nat->β->OL)(m:List (Int×β))(k:Int)(a:Nat)(MM:List (Int×Option Nat))(R:OL):Prop :=
  ∀ b' p',∃ los',los'.length=(fJ m k p').length/\MM=pmM los' (fJ m k p')/\(sh a b' p'++R).Perm (pmL sh los' (fJ m k p'))

theorem YU {k:Int}{x:β}:∀ {los:List (Nat×Nat)} {m:List (Int×β)},los.length=m.length->gI m k=some x ->
    ∃ a b R,gI (pmM los m) k=some (some a)/\(pmL sh los m).Perm (sh a b x++R)/\Put sh m k a (pmM los m) R
  | [],[],_,h=>by cases h
  | [],_::_,h,_=>by simp at h
  | _::_,[],h,_=>by simp at h
  | q::los,p::m,hl,h=>by
    rw [gI] at h;by_cases hk:p.1=k
    · rw [if_pos hk] at h
      cases h
      refine⟨q.1,q.2,pmL sh los m,by rw [pmM,gI,if_pos hk],List.Perm.refl _,fun b' p'=>⟨(q.1,b')::los,?_,?_,?_⟩⟩
      · simp only [fJ,if_pos hk]; simpa using hl
      · simp only [fJ,if_pos hk]; simp only [pmM,hk]
      · simp only [fJ,if_pos hk,pmL]; exact List.Perm.refl _
    · rw [if_neg hk] at h;obtain⟨a,b,R,h1,h2,h3⟩:=YU (los:=los) (m:=m) (by simpa using hl) h;refine⟨a,b,sh q.1 q.2 p.2++R,by rw [pmM,gI,if_neg hk,h1],?_,fun b' p'=>?_⟩
      · rw [pmL];refine (List.Perm.append_left _ h2).trans ?_;rw [←List.append_assoc,←List.append_assoc];exact List.Perm.append_right _ List.perm_append_comm
      · obtain⟨los',e1,e2,e3⟩:=h3 b' p';refine⟨q::los',?_,?_,?_⟩
        · simp only [fJ,if_neg hk,List.length_cons,e1]
        · simp only [fJ,if_neg hk,pmM,e2]
        · simp only [fJ,if_neg hk,pmL];refine List.Perm.trans ?_ (List.Perm.append_left _ e3);rw [←List.append_assoc,←List.append_assoc];exact List.Perm.append_right _ List.perm_append_comm

theorem aDq {k:Int}{a:Nat}:∀ {los:List (Nat×Nat)} {m:List (Int×β)},los.length=m.length->gI m k=none->Put sh m k a (fJ (pmM los m) k (some a)) (pmL sh los m)
  | [],[],_,_=>fun b' p'=>⟨[(a,b')],rfl,rfl,by simp [fJ,pmL]⟩
  | [],_::_,h,_=>by simp at h
  | _::_,[],h,_=>by simp at h
  | q::los,p::m,hl,h=>by
    rw [gI] at h;split at h
    · cases h
    · rename_i hk
      intro b' p';obtain⟨los',e1,e2,e3⟩:=aDq (a:=a) (los:=los) (m:=m) (by simpa using hl) h b' p';refine⟨q::los',?_,?_,?_⟩
      · simp only [fJ,if_neg hk,List.length_cons,e1]
      · simp only [pmM,fJ,if_neg hk,e2]
      · simp only [fJ,if_neg hk,pmL];refine List.Perm.trans ?_ (List.Perm.append_left _ e3);rw [←List.append_assoc,←List.append_assoc];exact List.Perm.append_right _ List.perm_append_comm

theorem DG (A B:OL):up (A++B)=up A++up B:=by simp [up]

theorem aJ.aFe {H0:aY}{E:List Nat}{G:Gs}{H:aY}{L R:OL}(h:aJ ⟨H0,E,up R++G⟩ H L):aJ ⟨H0,E,G⟩ H (R++L):=by
  have h1:aJ ⟨H0,E,G⟩ H (L++R):=aJ.glue (F:=⟨H0,E,G⟩) h;have h2:=h1.JC;exact (h2.qM (G':=up (R++L)++G) (List.Perm.append_right _ (by rw [DG,DG]; exact List.perm_append_comm))).take

theorem aJ.aFb {H0:aY}{E:List Nat}{G:Gs}{H:aY}{L R:OL}(h:aJ ⟨H0,E,G⟩ H (R++L)):aJ ⟨H0,E,up R++G⟩ H L:=by
  have h2:=h.JC;have h3:aJ ⟨H0,E,G⟩ H (L++R):=(h2.qM (G':=up (L++R)++G) (List.Perm.append_right _ (by rw [DG,DG]; exact List.perm_append_comm))).take;exact aJ.part (F:=⟨H0,E,G⟩) h3

theorem aJ.aB3 {H0:aY}{E:List Nat}{H:aY}{L:OL}:∀ {G:Gs},aJ ⟨H0,E,G⟩ H L->aJ ⟨H0,E,[]⟩ H L
  | [],h=>h
  | _::_,h=>aJ.aB3 h.pF

theorem aJ.focus {H0:aY}{E:List Nat}{G:Gs}{H:aY}{L:OL}{lm:Nat}{los:List (Nat×Nat)}{m:List (Int×β)}{k:Int}{x:β}(h:aJ ⟨H0,E,pmG sh lm los m++G⟩ H L)(hl:los.length=m.length)(hg:gI m k=some x) :
    ∃ a b R,gI (pmM los m) k=some (some a)/\Put sh m k a (pmM los m) R/\aJ ⟨H0,E,(lm,qD uD (pmM los m))::(up R++G)⟩ H (sh a b x++L):=by
  obtain⟨a,b,R,h1,h2,h3⟩:=YU (sh:=sh) hl hg;refine⟨a,b,R,h1,h3,?_⟩
  have : (pmG sh lm los m++G).Perm (up (sh a b x)++((lm,qD uD (pmM los m))::(up R++G))):=by
    unfold pmG;refine List.Perm.trans ?_ List.perm_middle.symm;refine List.Perm.cons _ ?_;rw [←List.append_assoc,←DG];exact List.Perm.append_right _ (h2.map _)
  exact (h.qM this).aFe

theorem aJ.aBK {H0:aY}{E:List Nat}{G:Gs}{H:aY}{L R:OL}{lm a b:Nat}{MM:List (Int×Option Nat)}{m:List (Int×β)}{k:Int}{x:β}(h:aJ ⟨H0,E,(lm,qD uD MM)::(up R++G)⟩ H (sh a b x++L))(hp:Put sh m k a MM R) :
    ∃ los',los'.length=(fJ m k x).length/\aJ ⟨H0,E,pmG sh lm los' (fJ m k x)++G⟩ H L:=by
  obtain⟨los',e1,e2,e3⟩:=hp b x;refine⟨los',e1,?_⟩;have h1:=h.aFb;refine h1.qM ?_;unfold pmG;refine List.perm_middle.trans ?_;rw [e2];refine List.Perm.cons _ ?_;rw [←List.append_assoc,←DG];exact List.Perm.append_right _ (e3.map _)

theorem NW {P:Program} {ro:Option Nat} {N:Nat} {c:Code} {T:Env} {ds:List Nat} {Q:Exit->Env->aY->List Nat->Prop} {α:Type} [Inhabited α] {H0:aY} {E:List Nat} (k k2 j:Nat) (cs:Nat->β->List V) (rows:β->List α) (e:α->V) (sf:β->V)
    (hsh:∀ a b p,sh a b p=[(a,k,[.agg (cs b p)]),(b,k2,(rows p).map e)]) (hj:∀ b p,(cs b p)[j]?=some (.msl k2 b 0 (rows p).length)) (hsf:∀ b p,V.agg ((cs b p).set j (eL e (rows p)))=sf p) :
    ∀ (m:List (Int×β)) (los:List (Nat×Nat)) {G:Gs} {H:aY} {L:OL},los.length=m.length->aJ ⟨H0,E,up (pmL sh los m)++G⟩ H L ->
      (∀ H',aJ ⟨H0,E,up (pmL (fun a _ p=>[(a,k,[sf p])]) los m)++G⟩ H' L->AWP P ro N c T H' ds Q)->AWP P ro N c T H ds Q
  | [],[],G,H,L,_,hO,h=>h H hO
  | [],_::_,_,_,_,hl,_,_=>by simp at hl
  | _::_,[],_,_,_,hl,_,_=>by simp at hl
  | p::m,q::los,G,H,L,hl,hO,h=>by
    rw [pmL,DG,List.append_assoc] at hO;have h1:=hO.aFe;rw [hsh] at h1;refine NV (e:=e) (rows p.2) 0 1 k k2 q.1 q.2 (rows p.2).length j (cs q.2 p.2) ((q.1,k,[sf p.2])::L) h1 rfl (hj _ _) rfl rfl rfl (by rw [←hsf q.2 p.2]; rfl) fun H' hO'=>?_;have h2:=aJ.aFb (R:=[(q.1,k,[sf p.2])]) (L:=L) hO'
    have h3:aJ ⟨H0,E,up (pmL sh los m)++(up [(q.1,k,[sf p.2])]++G)⟩ H' L:=h2.qM (by
      rw [←List.append_assoc,←List.append_assoc]; exact List.Perm.append_right _ List.perm_append_comm)
    refine NW k k2 j cs rows e sf hsh hj hsf m los (by simpa using hl) h3 fun H'' hO''=>h H'' ?_;refine hO''.qM ?_;rw [pmL,DG,←List.append_assoc];exact List.Perm.append_right _ List.perm_append_comm

end bundles
def aEt:V->Option Bool
  | .lit (.pointer none)=>some true
  | .lp _ _ _=>some false
  | _=>none

section nils
variable {P:Program} {tt:TT} {N:Nat} {T:Env} {H:aY} {ops:Array Oper} {K:Env->aY->Prop} {i n:Nat}
theorem YY {K:V->aY->Prop}{op:BinOp}{t e u:TypeId}{x y:Operand}{z:V}{b:Bool}(hop:op=.eql∨op=.neq)(hu:P.underlying t=some (.pointer e))(hz:aEt z=some b)(h:K (.lit (.bool (if op=.eql then b else !b))) H):FW P (.binOp op t x y u) [z,.lit (.pointer none)] H K:=by
  intro ro o a g w next R ho hs hx hn;have r1:=hx.2 0 z (a.eval x) rfl (by simp [Op.operands]);have r2:=hx.2 1 (.lit (.pointer none)) (a.eval y) rfl (by simp [Op.operands]);have e2:a.eval y=.pointer none:=r2.mI
  have e1:∃ ad,a.eval x=.pointer ad/\ad.isNone=b:=by
    unfold aEt at hz;split at hz
    · simp at hz; subst hz; exact ⟨none,r1.mI,rfl⟩
    · simp at hz; subst hz; obtain ⟨_,h2⟩:=r1.lpE; exact ⟨_,h2,rfl⟩
    · cases hz
  obtain⟨ad,e1,e3⟩:=e1
  have hq:(Op.equal t (.pointer ad) (.pointer none)).run P w=.ok b w:=by
    unfold Op.equal Op.maxDepth;unfold Op.equalIn;simp only [Sem.run_bind,run_underlying hu,Result.andThen]
    cases ad with
    | none=>subst e3; rfl
    | some ad=>subst e3; rfl
  have hr:(execOp a.eval o).run P w=.ok (.value (.bool (if op=.eql then b else !b))) w:=by
    cases o
    simp only at ho;subst ho;rcases hop with rfl | rfl
    · have h1:(eqGuard .eql t x y (.pointer ad) (.pointer none)).run P w=.ok () w:=rfl
      have h2:(binOp .eql t (.pointer ad) (.pointer none)).run P w=.ok (.bool b) w:=by
        simp only [binOp,Sem.run_bind,hq,Result.andThen]; rfl
      simp [execOp,e1,e2,h1,h2,Result.andThen]
    · have h1:(eqGuard .neq t x y (.pointer ad) (.pointer none)).run P w=.ok () w:=rfl
      have h2:(binOp .neq t (.pointer ad) (.pointer none)).run P w=.ok (.bool (!b)) w:=by
        simp only [binOp,Sem.run_bind,hq,Result.andThen]; rfl
      simp [execOp,e1,e2,h1,h2,Result.andThen]
  exact eN (fun c e=>by rw [e] at ho; cases ho) hr (hn _ _ _ _ _ h hs (.lit _ rfl) (Ext.refl g w))

def aE2 (P:Program)(t:TypeId):Bool:=match P.underlying t with
  | some (.pointer _)=>true
  | _=>false

def aDk (P:Program)(N:Nat)(ops:Array Oper)(T:Env)(i:Nat):Option Bool:=match fT N ops i with
  | some (.binOp op t x y _)=>match aE2 P t,cH T [] x,cH T [] y with
    | true,some z,some (.lit (.pointer none))=>match aEt z,op with
      | some b,.eql=>some b
      | some b,.neq=>some (!b)
      | _,_=>none
    | _,_,_=>none
  | _=>none

theorem ZQ (b:Bool) (h:RWs P tt N ops (aL (i+1) n) (T.bU (cO ops i) ([],.lit (.bool b))) H K)
    (hs:aL i n=i::aL (i+1) n:=by kernel_rfl) (hd:aDk P N ops T i=some b:=by kernel_rfl):RWs P tt N ops (aL i n) T H K:=by
  unfold aDk at hd;split at hd
  · rename_i op t x y u hp
    split at hd
    · rename_i z hi hx hy
      unfold aE2 at hi;split at hi
      · rename_i e hu
        split at hd
        · rename_i b' hz
          simp at hd; subst hd;exact xW hs hp (xs:=[z,.lit (.pointer none)]) (by simp [Op.operands,iJ,hx,hy]) (YY (.inl rfl) hu hz (by simpa using h))
        · rename_i b' hz
          simp at hd; subst hd;exact xW hs hp (xs:=[z,.lit (.pointer none)]) (by simp [Op.operands,iJ,hx,hy]) (YY (.inr rfl) hu hz (by simpa using h))
        · cases hd
      · cases hi
    · cases hd
  · cases hd

end nils
theorem SR.aFZ {g:Gh}{w:World}{H:aY}(h:SR g w H){l:Nat}{s s':Sp}(hl:H[l]?=some (.raw s))(hs:∀ g w b o,s.p g w b o->s'.p g w b o):SR g w (H.set l (.raw s')):=by
  have hlt:l<H.length:=(List.getElem?_eq_some_iff.1 hl).1
  have hat:∀ l' ob,(H.set l (.raw s'))[l']?=some ob->(l'=l/\ob=.raw s')∨(l'≠l/\H[l']?=some ob):=by
    intro l' ob hl';rw [List.getElem?_set] at hl';split at hl'
    · rename_i heq
      simp [heq ▸ hlt] at hl';exact .inl ⟨heq.symm,hl'.symm⟩
    · rename_i hne; exact .inr ⟨fun e=>hne e.symm,hl'⟩
  refine { len:=by simp [h.len],fxc:=h.fxc,nt:=?_,kk:=?_,vec:=?_,raw:=?_,disj:=?_,rawd:=?_ }
  · intro l' k1 es1 hl1;rcases hat _ _ hl1 with ⟨_,he⟩ | ⟨_,hl2⟩
    · cases he
    · exact h.nt l' k1 es1 hl2
  · intro l' k1 es1 hl1;rcases hat _ _ hl1 with ⟨_,he⟩ | ⟨_,hl2⟩
    · cases he
    · exact h.kk l' k1 es1 hl2
  · intro l' k1 es1 hl1;rcases hat _ _ hl1 with ⟨_,he⟩ | ⟨_,hl2⟩
    · cases he
    · exact h.vec l' k1 es1 hl2
  · intro l' s1 hl1;rcases hat _ _ hl1 with ⟨rfl,he⟩ | ⟨_,hl2⟩
    · cases he
      obtain⟨o,q1,q2,q3⟩:=h.raw l' _ hl;exact⟨o,q1,q2,hs _ _ _ _ q3⟩
    · exact h.raw l' s1 hl2
  · intro a b k1 k2 es1 es2 ha hb2 hne;rcases hat _ _ ha with ⟨_,he⟩ | ⟨_,ha2⟩
    · cases he
    · rcases hat _ _ hb2 with ⟨_,he⟩ | ⟨_,hb3⟩
      · cases he
      · exact h.disj _ _ _ _ _ _ ha2 hb3 hne
  · intro a b s1 s2 ha hb2 hne;rcases hat _ _ ha with ⟨rfl,_⟩ | ⟨_,ha2⟩ <;> rcases hat _ _ hb2 with ⟨rfl,_⟩ | ⟨_,hb3⟩
    · exact absurd rfl hne
    · exact h.rawd _ _ _ _ hl hb3 hne
    · exact h.rawd _ _ _ _ ha2 hl hne
    · exact h.rawd _ _ _ _ ha2 hb3 hne

theorem aC8 {N:Nat} {Q:Exit->Env->aY->List Nat->Prop} {ds:List Nat} {e:Exit} {T:Env} {H H0:aY} {E:List Nat} {G:Gs} {L:OL} {β:Type} {f:β->V} {m:List (Int×β)} {bs:List Nat} {l clock:Nat} (hO:aJ ⟨H0,E,(l,HK f m bs clock)::G⟩ H L)
    (h:∀ H',aJ ⟨H0,E,(l,qD f m)::G⟩ H' L->Cl N Q e T H' ds):Cl N Q e T H ds :=
  CP (fun g w _ _ hg=>⟨g,⟨hg.sr.aFZ (hO.gm 0 _ rfl).2 (s':=FD dI (uX f m)) fun _ _ _ _ ⟨es,h1,_,h3,h4,h5⟩=>⟨es,clock,h1,h3,h4,h5⟩,hg.tr,hg.df,hg.dl,hg.sz⟩,Ext.refl g w⟩) (h _ (hO.oX _))

theorem RF {S β:Type}(g:S->Int->Option S):∀ (q:List (Int×β)) (s:S),dV (fun s (x:Int×β)=>g s x.1) s q=dV g s (q.map (·.1))
  | [],_=>rfl
  | x::q,s=>by
    simp only [dV,List.map_cons]
    cases g s x.1 with
    | none=>rfl
    | some s'=>exact RF g q s'

theorem ZI {β:Type}:∀ {los:List (Nat×Nat)} {m:List (Int×β)},los.length=m.length->(pmM los m).map (·.1)=m.map (·.1)
  | [],[],_=>rfl
  | _::_,_::_,h=>by simp only [pmM,List.map_cons]; rw [ZI (by simpa using h)]
  | [],_::_,h=>by simp at h
  | _::_,[],h=>by simp at h

theorem aFI {S R β:Type}{g:S->Int->Option S}{after:S->Option R}{s:S}{r:R}{los:List (Nat×Nat)}{m:List (Int×β)}(hl:los.length=m.length)(h:uU (m.map (·.1)) (fun q=>(dV g s q).bind after)=some r) :
    uU (pmM los m) (fun q=>(dV (fun s (x:Int×Option Nat)=>g s x.1) s q).bind after)=some r :=
  MI fun q hq=>by
    rw [RF];exact VG h _ (by rw [←ZI hl]; exact hq.map _)

theorem WA {β:Type}{k:Int}{x:β}:∀ {m:List (Int×β)},gI m k=some x->fJ m k x=m
  | [],h=>by cases h
  | p::m,h=>by
    rw [gI] at h;by_cases hk:p.1=k
    · rw [if_pos hk] at h; cases h;rw [fJ,if_pos hk,←hk]
    · rw [if_neg hk] at h;simp only [fJ,if_neg hk,WA h]

end Go.Abs
namespace Go.Abs
open Go Go.RowKit
section
variable {P:Program} {tt:TT} {ro:Option Nat} {N:Nat} {T:Env} {H:aY} {ds:List Nat} {Q:Exit->Env->aY->List Nat->Prop} {ops:Array Oper} {K:Env->aY->Prop} {i n:Nat}
theorem aZ {l:List (Nat×V)}(h:l.map (fun p=>T p.1)=l.map (fun p=>some ([],p.2)):=by kernel_rfl):Has T l:=.eq h

theorem fD {c:Code} {S R:Type} {body:S->Option (S⊕R)} {s:S} {r:R} (I:S->Env->aY->Prop) (hl:lp body s=some r) (h0:I s T H)
    (round:∀ k s out T H,I s T H->body s=some out->aCq body k r out->AWP P ro N c.b T H ds (uO (fun T' H' ds'=>ds'=ds /\ ∃ s',out=.inl s'/\I s' T' H') Q)) (hk:c.kind=4:=by kernel_rfl):AWP P ro N c T H ds Q:=aF2 hk I hl h0 round

theorem kJ (k:Nat)(z:V)(h:RWs P tt N ops (aL (i+1) n) (T.bU (cO ops i) ([],.rp z)) H K)(hs:aL i n=i::aL (i+1) n:=by kernel_rfl)(hd:vE tt N ops T i=some (k,z):=by kernel_rfl):RWs P tt N ops (aL i n) T H K:=aGE k z hs hd h

theorem nU (xs:List V)(k:Nat)(h:RWs P tt N ops (aL (i+1) n) (T.bU (cO ops i) ([],eD xs)) H K)(hs:aL i n=i::aL (i+1) n:=by kernel_rfl)(hd:MC tt N ops T i=some (xs,k):=by kernel_rfl):RWs P tt N ops (aL i n) T H K:=aGR hs hd h

theorem AO {H0:Frame} {L:List (Nat×Nat×List V)} {α:Type} (e:α->V) (xs zs:List α) (q lo k bytes:Nat) (x:V) (L':Nat->List (Nat×Nat×List V)) (hO:aJ H0 H L)
    (hy:sZ k H x=some (zs.map e)) (hb:(xs.length+zs.length)*bytes<=140737488355328/\xs.length+zs.length<=9223372036854775807)
    (h:∀ lo' H',aJ H0 H' (L' lo')->RWs P tt N ops (aL (i+1) n) (T.bU (cO ops i) ([],.msl k lo' 0 (xs++zs).length)) H' K)
    (hs:aL i n=i::aL (i+1) n:=by kernel_rfl) (hd:EP tt N ops T i=some (.msl k lo 0 xs.length,x,k,bytes):=by kernel_rfl) (hL:L[q]?=some (lo,k,xs.map e):=by kernel_rfl) (hl:∀ lo',L' lo'=L.set q (lo',k,(xs++zs).map e):=by intro _; kernel_rfl):RWs P tt N ops (aL i n) T H K :=
  aFK xs zs q lo k bytes x L' hs hd hO hL hy hb hl h

variable {TD:PE} {KD:PE->aY->Prop} {pl:Oper->Bool}
theorem oR {H0:Frame} {L:List (Nat×Nat×List V)} (q lo k ix:Nat) (y x:V) (es:List V) (hO:aJ H0 H L) (hy:es[ix]?=some y) (h:RD P tt N pl ops (aL (i+1) n) (TD.bU (cO ops i) x) H KD)
    (hs:aL i n=i::aL (i+1) n:=by kernel_rfl) (hq:sN pl ops i=true:=by kernel_rfl) (hd:PF tt N ops TD i y=some (lo,ix,x):=by kernel_rfl) (hL:L[q]?=some (lo,k,es):=by kernel_rfl):RD P tt N pl ops (aL i n) TD H KD:=aFq q lo k ix y x es hs hq hd hO hL hy h

end
end Go.Abs
namespace Go.Abs
open Go
structure bW where
  Kind:Int
  Size:Int
  Hop:Int
  deriving Inhabited,DecidableEq

def FA (x:bW):List V:=[(cZ .i64 x.Kind)]++[(cZ .i64 x.Size)]++[(cZ .i64 x.Hop)]

def cA (x:bW):V:=.agg (FA x)

structure aG where
  Kind:Int
  Num:Int
  Text:ByteArray
  deriving Inhabited,DecidableEq

def OA (x:aG):List V:=[(cZ .i64 x.Kind)]++[(cZ .i64 x.Num)]++[(CH x.Text)]

def aD (x:aG):V:=.agg (OA x)

structure aK where
  Row:(List aG)
  At:Int
  Net:Int
  deriving Inhabited,DecidableEq

def SL (x:aK):List V:=[(eL aD x.Row)]++[(cZ .i64 x.At)]++[(cZ .i64 x.Net)]

def aH (x:aK):V:=.agg (SL x)

structure aI where
  At:Int
  Net:Int
  deriving Inhabited,DecidableEq

def aB4 (x:aI):List V:=[(cZ .i64 x.At)]++[(cZ .i64 x.Net)]

def aO (x:aI):V:=.agg (aB4 x)

inductive bS where
  | none_
  | k_number (x:Int)
  | k_words (x:ByteArray)
  deriving DecidableEq

instance : Inhabited bS:=⟨.none_⟩

def bO:bS->V
  | .none_=>.lit .nilIface
  | .k_number x=>.ifc 160 (cZ .i64 x)
  | .k_words x=>.ifc 164 (CH x)

structure bL where
  From:Int
  To:Int
  deriving Inhabited,DecidableEq

def RN (x:bL):List V:=[(cZ .i64 x.From)]++[(cZ .i64 x.To)]

def dG (x:bL):V:=.agg (RN x)

structure bK where
  Row:(List aG)
  N:Int
  deriving Inhabited,DecidableEq

def aCb (x:bK):List V:=[(eL aD x.Row)]++[(cZ .i64 x.N)]

def bZ (x:bK):V:=.agg (aCb x)

structure aP where
  Span:bL
  Rows:(List bK)
  deriving Inhabited,DecidableEq

def aBU (x:aP):List V:=RN x.Span++[(eL bZ x.Rows)]

def aT (x:aP):V:=.agg (aBU x)

structure cE where
  row:(List aG)
  jumps:(List aI)
  deriving Inhabited,DecidableEq

def aAJ (x:cE):List V:=[(eL aD x.row)]++[(eL aO x.jumps)]

def cF (x:cE):V:=.agg (aAJ x)

def BR (l0:(List aK)):Option Bool :=
  some (decide (((List.length l0:Nat):Int)<=(60:Int)))

def uK (l0:(List aK))(i3:Int):Option ((Int)⊕(Unit⊕Bool)) :=
  cond ((decide (i3<((List.length l0:Nat):Int)))&&(decide (i3<=(60:Int))))
  (bE (0<=i3/\i3<((List.length l0:Nat):Int)) <|
  cond (decide ((10:Int)<((List.getD l0 (Int.toNat i3) default).Net)))
  (some (.inr (.inr false)))
  (some (.inl (IntKind.i64.wrap (i3+(1:Int))))))
  (some (.inr (.inl ())))

def BX (l0:(List aK))(i3:Int):Option Bool :=
  (lp (fun s=>uK l0 s) i3).bind (Sum.elim (fun rr=>BR l0) (fun rr=>some rr))

def zP (l0:(List aK)):Option Bool :=
  BX l0 (0:Int)

def rF (n0:Int):Option Bool :=
  some ((decide ((1:Int)<=n0))&&(decide (n0<=(1099511627776:Int))))

def lI (ok4:Bool):Option Int :=
  cond (!ok4)
  (some (2:Int))
  (some (0:Int))

def oV (w0:bW):Option Int :=
  cond (decide (w0.Kind=(1:Int)))
  (lI ((decide (w0.Size=(0:Int)))&&(decide (w0.Hop=(0:Int)))))
  (cond (decide (w0.Kind=(2:Int)))
  ((rF w0.Size).bind fun x4 =>
  (cW x4 (rF w0.Hop)).bind fun x7 =>
  lI (x4&&x7))
  (cond (decide (w0.Kind=(3:Int)))
  (lI (((decide ((1:Int)<=w0.Size))&&(decide (w0.Size<=(64:Int))))&&(decide (w0.Hop=(0:Int)))))
  (lI false)))

def wS (l0:(List aK)):Option ((List aK)) :=
  some l0

def iM  : Option Bool :=
  some true

def fS (s10:(List aG))(s21:(List aG))(t12:Int)(t13:Int):Option ((Int)⊕(Unit⊕Bool)) :=
  cond (decide (t13<t12))
  (bE (0<=t13/\t13<((List.length s10:Nat):Int)) <|
  bE (0<=t13/\t13<((List.length s21:Nat):Int)) <|
  cond (!((decide (((List.getD s10 (Int.toNat t13) default).Kind)=((List.getD s21 (Int.toNat t13) default).Kind)))&&((decide (((List.getD s10 (Int.toNat t13) default).Num)=((List.getD s21 (Int.toNat t13) default).Num)))&&((pE ((List.getD s10 (Int.toNat t13) default).Text) ((List.getD s21 (Int.toNat t13) default).Text))&&true))))
  (some (.inr (.inr false)))
  (some (.inl (IntKind.i64.wrap (t13+(1:Int))))))
  (some (.inr (.inl ())))

def kM (s10:(List aG))(s21:(List aG))(t12:Int)(t13:Int):Option Bool :=
  (lp (fun s=>fS s10 s21 t12 s) t13).bind (Sum.elim (fun rr=>iM ) (fun rr=>some rr))

def gC (s10:(List aG))(s21:(List aG)):Option Bool :=
  cond (!decide (((List.length s10:Nat):Int)=((List.length s21:Nat):Int)))
  (some false)
  (kM s10 s21 ((List.length s10:Nat):Int) (0:Int))

def sR (a0:(List aG))(b1:(List aG)):Option Bool :=
  (gC a0 b1).bind fun x1 =>
  some x1

def yJ (r0:(List aG)):Option (List aG) :=
  bE (0<=((List.length r0:Nat):Int)/\(32:Int)*((List.length r0:Nat):Int)<=281474976710656/\((List.length r0:Nat):Int)<=9223372036854775807) <|
  bE ((List.length ([]:List aG)+List.length r0)*32<=140737488355328/\List.length ([]:List aG)+List.length r0<=9223372036854775807) <|
  some (([]:List aG)++r0)

def rM {σ:Type}(cL:σ->(List aG)->(List aI)->Option (σ×Bool))(sg:σ)(t1:(List aK))(i3:Int)(r4:(List aG))(f5:List aI):Option ((σ×Int)⊕(σ⊕σ)) :=
  (yJ r4).bind fun x7 =>
  (cL sg x7 f5).bind fun x10 =>
  cond (!x10.2)
  (some (.inr (.inr x10.1)))
  (some (.inl (x10.1,i3)))

def kQ {σ:Type}(cL:σ->(List aG)->(List aI)->Option (σ×Bool))(t1:(List aK))(r4:(List aG))(sg:σ)(i3:Int)(f5:List aI):Option ((σ×Int×List aI)⊕((σ×Int×List aI))) :=
  bE ((((decide (i3<((List.length t1:Nat):Int))))=true->0<=i3/\i3<((List.length t1:Nat):Int))) <|
  (cW (decide (i3<((List.length t1:Nat):Int))) (sR ((List.getD t1 (Int.toNat i3) default).Row) r4)).bind fun x16 =>
  cond ((decide (i3<((List.length t1:Nat):Int)))&&x16)
  (bE (0<=i3/\i3<((List.length t1:Nat):Int)) <|
  bE (0<=i3/\i3<((List.length t1:Nat):Int)) <|
  bE ((List.length f5+List.length ([aI.mk ((List.getD t1 (Int.toNat i3) default).At) ((List.getD t1 (Int.toNat i3) default).Net)]))*16<=140737488355328/\List.length f5+List.length ([aI.mk ((List.getD t1 (Int.toNat i3) default).At) ((List.getD t1 (Int.toNat i3) default).Net)])<=9223372036854775807) <|
  some (.inl (sg,IntKind.i64.wrap (i3+(1:Int)),f5++([aI.mk ((List.getD t1 (Int.toNat i3) default).At) ((List.getD t1 (Int.toNat i3) default).Net)]))))
  (some (.inr (sg,i3,f5)))

def vB {σ:Type}(cL:σ->(List aG)->(List aI)->Option (σ×Bool))(sg:σ)(t1:(List aK))(i3:Int)(r4:(List aG))(f5:List aI):Option ((σ×Int)⊕(σ⊕σ)) :=
  (lp (fun s=>kQ cL t1 r4 s.1 s.2.1 s.2.2) (sg,i3,f5)).bind (fun rr=>rM cL rr.1 t1 rr.2.1 r4 rr.2.2)

def jO {σ:Type}(cL:σ->(List aG)->(List aI)->Option (σ×Bool))(t1:(List aK))(sg:σ)(i3:Int):Option ((σ×Int)⊕(σ⊕σ)) :=
  cond (decide (i3<((List.length t1:Nat):Int)))
  (bE (0<=i3/\i3<((List.length t1:Nat):Int)) <|
  vB cL sg t1 i3 ((List.getD t1 (Int.toNat i3) default).Row) ([]:List aI))
  (some (.inr (.inl sg)))

def uR {σ:Type}(cL:σ->(List aG)->(List aI)->Option (σ×Bool))(sg:σ)(t1:(List aK))(i3:Int):Option σ :=
  (lp (fun s=>jO cL t1 s.1 s.2) (sg,i3)).bind (Sum.elim (fun rr=>some rr) (fun rr=>some rr))

def pV {σ:Type}(cL:σ->(List aG)->(List aI)->Option (σ×Bool))(t1:(List aK))(sg0:σ):Option σ :=
  uR cL sg0 t1 (0:Int)

def gH (f1:aG->Option Bool)  : Option Int :=
  some (-1:Int)

def jB (f1:aG->Option Bool)(s0:(List aG))(t7:Int)(t8:Int):Option ((Int)⊕(Unit⊕Int)) :=
  cond (decide (t8<t7))
  (bE (0<=t8/\t8<((List.length s0:Nat):Int)) <|
  (f1 (List.getD s0 (Int.toNat t8) default)).bind fun x3 =>
  cond x3
  (some (.inr (.inr t8)))
  (some (.inl (IntKind.i64.wrap (t8+(1:Int))))))
  (some (.inr (.inl ())))

def jC (f1:aG->Option Bool)(s0:(List aG))(t7:Int)(t8:Int):Option Int :=
  (lp (fun s=>jB f1 s0 t7 s) t8).bind (Sum.elim (fun rr=>gH f1 ) (fun rr=>some rr))

def jL (s0:(List aG))(f1:aG->Option Bool):Option Int :=
  jC f1 s0 ((List.length s0:Nat):Int) (0:Int)

def fP (s0:(List aG))(f1:aG->Option Bool):Option Bool :=
  (jL s0 f1).bind fun x1 =>
  some (decide ((0:Int)<=x1))

def mW (v0:aG):Option (bS×Bool) :=
  cond ((decide (v0.Kind=(1:Int)))&&(pE v0.Text (⟨#[]⟩:ByteArray)))
  (some (bS.k_number v0.Num,true))
  (cond (((decide (v0.Kind=(2:Int)))&&(decide (v0.Num=(0:Int))))&&(decide (((ByteArray.size v0.Text:Nat):Int)<=(64:Int))))
  (some (bS.k_words v0.Text,true))
  (some (bS.none_,false)))

def zG (v0:aG):Option Bool :=
  (mW v0).bind fun (x1_0,x1_1) =>
  match x1_0 with
  | .none_=>(some x1_1)
  | .k_number y4=>(some x1_1)
  | .k_words y5=>(some x1_1)

def zK (v0:aG):Option Bool :=
  (zG v0).bind fun x1 =>
  some (!x1)

def xR (r0:(List aG)):Option Bool :=
  cond (decide ((8:Int)<((List.length r0:Nat):Int)))
  (some false)
  ((fP r0 (fun y0=>zK y0)).bind fun x2 =>
  some (!x2))

def xF (t0:(List aG)):Option ((Int×(List aG))) :=
  some ((-1:Int),t0)

def fQ {σ:Type}(f1:σ->aG->Option (σ×Bool))(sg:σ):Option (σ×Int) :=
  some (sg,(-1:Int))

def cP {σ:Type}(f1:σ->aG->Option (σ×Bool))(s0:(List aG))(t7:Int)(sg:σ)(t8:Int):Option ((σ×Int)⊕(σ⊕(σ×Int))) :=
  cond (decide (t8<t7))
  (bE (0<=t8/\t8<((List.length s0:Nat):Int)) <|
  (f1 sg (List.getD s0 (Int.toNat t8) default)).bind fun x3 =>
  cond x3.2
  (some (.inr (.inr (x3.1,t8))))
  (some (.inl (x3.1,IntKind.i64.wrap (t8+(1:Int))))))
  (some (.inr (.inl sg)))

def iU {σ:Type}(f1:σ->aG->Option (σ×Bool))(sg:σ)(s0:(List aG))(t7:Int)(t8:Int):Option (σ×Int) :=
  (lp (fun s=>cP f1 s0 t7 s.1 s.2) (sg,t8)).bind (Sum.elim (fun rr=>fQ f1 rr) (fun rr=>some (rr.1,rr.2)))

def iW {σ:Type}(s0:(List aG))(f1:σ->aG->Option (σ×Bool))(sg0:σ):Option (σ×Int) :=
  iU f1 sg0 s0 ((List.length s0:Nat):Int) (0:Int)

def kZ (v0:aG)(t1:Int)(t2:(List aG)):Option (Bool×Int) :=
  bE (0<=(IntKind.i64.wrap (t1+(1:Int)))/\(IntKind.i64.wrap (t1+(1:Int)))<((List.length t2:Nat):Int)) <|
  some ((!((decide (v0.Kind=((List.getD t2 (Int.toNat (IntKind.i64.wrap (t1+(1:Int)))) default).Kind)))&&((decide (v0.Num=((List.getD t2 (Int.toNat (IntKind.i64.wrap (t1+(1:Int)))) default).Num)))&&((pE v0.Text ((List.getD t2 (Int.toNat (IntKind.i64.wrap (t1+(1:Int)))) default).Text))&&true)))),(IntKind.i64.wrap (t1+(1:Int))))

def lK (x0:Int):Option Bool :=
  some (!decide (x0=x0))

def qG (x0:Int)(y1:Int):Option Int :=
  (lK x0).bind fun x1 =>
  (lK y1).bind fun x4 =>
  cond x1
  (cond x4
  (some (0:Int))
  (some (-1:Int)))
  (cond x4
  (some (1:Int))
  (cond (decide (x0<y1))
  (some (-1:Int))
  (cond (decide (y1<x0))
  (some (1:Int))
  (some (0:Int)))))

def lY (x0:Int):Option Bool :=
  some (!decide (x0=x0))

def gY (x0:Int)(y1:Int):Option Int :=
  (lY x0).bind fun x1 =>
  (lY y1).bind fun x4 =>
  cond x1
  (cond x4
  (some (0:Int))
  (some (-1:Int)))
  (cond x4
  (some (1:Int))
  (cond (decide (x0<y1))
  (some (-1:Int))
  (cond (decide (y1<x0))
  (some (1:Int))
  (some (0:Int)))))

def kO (a0:ByteArray)(b1:ByteArray):Option Int :=
  some (TN a0 b1)

def oB (a0:ByteArray)(b1:ByteArray):Option Int :=
  (kO a0 b1).bind fun x1 =>
  some x1

def sI (a0:aG)(b1:aG):Option Int :=
  (mW a0).bind fun (x1_0,x1_1) =>
  match x1_0 with
  | .none_=>((mW b1).bind fun (x6_0,x6_1) =>
  match x6_0 with
  | .none_=>(cond ((!x1_1)||(!x6_1))
  (some (0:Int))
  (none))
  | .k_number y9=>(cond ((!x1_1)||(!x6_1))
  (some (0:Int))
  (some (1:Int)))
  | .k_words y10=>(cond ((!x1_1)||(!x6_1))
  (some (0:Int))
  (none)))
  | .k_number y4=>((mW b1).bind fun (x23_0,x23_1) =>
  match x23_0 with
  | .none_=>(cond ((!x1_1)||(!x23_1))
  (some (0:Int))
  (some (-1:Int)))
  | .k_number y26=>(cond ((!x1_1)||(!x23_1))
  (some (0:Int))
  ((gY y4 y26).bind fun x33 =>
  some x33))
  | .k_words y27=>(cond ((!x1_1)||(!x23_1))
  (some (0:Int))
  (some (-1:Int))))
  | .k_words y5=>((mW b1).bind fun (x39_0,x39_1) =>
  match x39_0 with
  | .none_=>(cond ((!x1_1)||(!x39_1))
  (some (0:Int))
  (none))
  | .k_number y42=>(cond ((!x1_1)||(!x39_1))
  (some (0:Int))
  (some (1:Int)))
  | .k_words y43=>(cond ((!x1_1)||(!x39_1))
  (some (0:Int))
  ((oB y5 y43).bind fun x56 =>
  some x56)))

def vU (a0:(List aG))(b1:(List aG)):Option Int :=
  (xR a0).bind fun x1 =>
  (cW (!(!x1)) (xR b1)).bind fun x4 =>
  cond ((!x1)||(!x4))
  (some (0:Int))
  (bE (0<=(if ((List.length b1:Nat):Int)<((List.length a0:Nat):Int) then ((List.length b1:Nat):Int) else ((List.length a0:Nat):Int))/\(if ((List.length b1:Nat):Int)<((List.length a0:Nat):Int) then ((List.length b1:Nat):Int) else ((List.length a0:Nat):Int))<=((List.length a0:Nat):Int)) <|
  (xF b1).bind fun x9 =>
  (iW (List.take (Int.toNat (if ((List.length b1:Nat):Int)<((List.length a0:Nat):Int) then ((List.length b1:Nat):Int) else ((List.length a0:Nat):Int))) a0) (fun st y0=>(kZ y0 st x9.2).bind fun o=>some (o.2,o.1)) x9.1).bind fun x12 =>
  cond (decide (x12.2<(0:Int)))
  ((qG ((List.length a0:Nat):Int) ((List.length b1:Nat):Int)).bind fun x15 =>
  some x15)
  (bE (0<=x12.2/\x12.2<((List.length a0:Nat):Int)) <|
  bE (0<=x12.2/\x12.2<((List.length b1:Nat):Int)) <|
  (sI (List.getD a0 (Int.toNat x12.2) default) (List.getD b1 (Int.toNat x12.2) default)).bind fun x20 =>
  some x20))

def rN (yA:(List aI)->Option Bool)(yX:(List aK))(t4:Bool)(qL:(List aG))(lM:Bool)(t14:(List aG))(t15:(List aI)):Option ((Bool×(List aG)×Bool)⊕(Bool×(List aG)×Bool)) :=
  (xR t14).bind fun x7 =>
  (cW (lM&&(!(!x7))) (vU qL t14)).bind fun x12 =>
  (cW (!((!x7)||(lM&&(decide ((0:Int)<=x12))))) (yA t15)).bind fun x15 =>
  cond (((!x7)||(lM&&(decide ((0:Int)<=x12))))||(!x15))
  (some (.inr (false,qL,lM)))
  (some (.inl (t4,t14,true)))

def BP (yA:(List aI)->Option Bool)(t4:Bool)(qL:(List aG))(lM:Bool)(yX:(List aK)):Option Bool :=
  (pV (fun st t14 t15=>rnd (fun (s:Bool×(List aG)×Bool)=>rN yA yX s.1 s.2.1 s.2.2 t14 t15) st) yX (.inl (t4,qL,lM))).bind (Sum.elim (fun (s:Bool×(List aG)×Bool) =>
  (some true))
  (fun (s:Bool×(List aG)×Bool) =>
  (some s.1)))

def wO (l0:(List aK))(yA:(List aI)->Option Bool):Option Bool :=
  cond (decide ((4096:Int)<((List.length l0:Nat):Int)))
  (some false)
  ((wS l0).bind fun x5 =>
  BP yA false ([]) false x5)

def DA (n0:Int):Option Bool :=
  some ((decide (n0<=(1048576:Int)))&&(decide ((-1048576:Int)<=n0)))

def zO  : Option Bool :=
  some true

def nM (t9:(List aI))(t10:Int)(tE:Int)(t11:Int):Option ((Int×Int)⊕(Unit⊕Bool)) :=
  cond (decide (t11<t10))
  (bE (0<=t11/\t11<((List.length t9:Nat):Int)) <|
  (cW (!(((decide (((List.getD t9 (Int.toNat t11) default).At)<=tE))||(decide ((1125899906842624:Int)<=((List.getD t9 (Int.toNat t11) default).At))))||(decide (((List.getD t9 (Int.toNat t11) default).Net)=(0:Int))))) (DA ((List.getD t9 (Int.toNat t11) default).Net))).bind fun x8 =>
  cond ((((decide (((List.getD t9 (Int.toNat t11) default).At)<=tE))||(decide ((1125899906842624:Int)<=((List.getD t9 (Int.toNat t11) default).At))))||(decide (((List.getD t9 (Int.toNat t11) default).Net)=(0:Int))))||(!x8))
  (some (.inr (.inr false)))
  (some (.inl ((List.getD t9 (Int.toNat t11) default).At,IntKind.i64.wrap (t11+(1:Int))))))
  (some (.inr (.inl ())))

def CX (tE:Int)(t9:(List aI))(t10:Int)(t11:Int):Option Bool :=
  (lp (fun s=>nM t9 t10 s.1 s.2) (tE,t11)).bind (Sum.elim (fun rr=>zO ) (fun rr=>some rr))

def qI (f0:(List aI)):Option Bool :=
  cond (decide ((1024:Int)<((List.length f0:Nat):Int)))
  (some false)
  (CX (-2:Int) f0 ((List.length f0:Nat):Int) (0:Int))

def qK (l0:(List aK)):Option Bool :=
  (wO l0 (fun y0=>qI y0)).bind fun x1 =>
  some x1

def vN (jA:Int):Option Int :=
  some jA

def oG (t24:(List aI))(t25:Int)(v3:Int)(jA:Int)(t26:Int):Option ((Int×Int×Int)⊕(Int)) :=
  cond (decide (t26<t25))
  (bE (0<=t26/\t26<((List.length t24:Nat):Int)) <|
  some (.inl (IntKind.i64.wrap (v3+((List.getD t24 (Int.toNat t26) default).Net)),if (IntKind.i64.wrap (v3+((List.getD t24 (Int.toNat t26) default).Net)))<jA then (IntKind.i64.wrap (v3+((List.getD t24 (Int.toNat t26) default).Net))) else jA,IntKind.i64.wrap (t26+(1:Int)))))
  (some (.inr jA))

def vH (v3:Int)(jA:Int)(t24:(List aI))(t25:Int)(t26:Int):Option Int :=
  (lp (fun s=>oG t24 t25 s.1 s.2.1 s.2.2) (v3,jA,t26)).bind (fun rr=>vN rr)

def sF (f0:(List aI))(v3:Int)(jA:Int):Option Int :=
  vH v3 jA f0 ((List.length f0:Nat):Int) (0:Int)

def xM (f0:(List aI)):Option Int :=
  (qI f0).bind fun x1 =>
  cond ((!x1)||(decide (((List.length f0:Nat):Int)=(0:Int))))
  (some (0:Int))
  (bE (0<=(0:Int)/\(0:Int)<((List.length f0:Nat):Int)) <|
  cond (decide (((List.getD f0 (Int.toNat (0:Int)) default).At)=(-1:Int)))
  (bE (0<=(0:Int)/\(0:Int)<((List.length f0:Nat):Int)) <|
  sF f0 (0:Int) ((List.getD f0 (Int.toNat (0:Int)) default).Net))
  (sF f0 (0:Int) (0:Int)))

def tL (f0:(List aI)):Option Bool :=
  (qI f0).bind fun x1 =>
  (cW x1 (xM f0)).bind fun x4 =>
  some (x1&&(decide ((0:Int)<=x4)))

def pO (l0:(List aK)):Option Bool :=
  (wO l0 (fun y0=>tL y0)).bind fun x1 =>
  some x1

def qW (w0:bW)(l1:(List aK))(t2:Int):Option Int :=
  (oV w0).bind fun x1 =>
  (cW (!(!decide (x1=(0:Int)))) (qK l1)).bind fun x4 =>
  cond ((!decide (x1=(0:Int)))||(!x4))
  (some (2:Int))
  ((pO l1).bind fun x8 =>
  cond (!x8)
  (some (20:Int))
  (cond ((decide (t2<(0:Int)))||(decide ((1125899906842624:Int)<t2)))
  (some (13:Int))
  (some (0:Int))))

def AV (dF:Int)(hop1:Int):Option Bool :=
  some ((((decide ((1:Int)<=dF))&&(decide (dF<=(1099511627776:Int))))&&(decide ((1:Int)<=hop1)))&&(decide (hop1<=(1099511627776:Int))))

def uS (t0:Int):Option Bool :=
  some ((decide ((0:Int)<=t0))&&(decide (t0<=(1125899906842624:Int))))

def xZ (q7:Int)(r8:Int):Option (Int×Int×Int) :=
  some (q7,r8,(0:Int))

def zS (a0:Int)(b1:Int):Option (Int×Int×Int) :=
  cond (decide (b1<(1:Int)))
  (some ((0:Int),(0:Int),(2:Int)))
  (bE (b1≠0) <|
  bE (b1≠0) <|
  cond (decide ((Int.tmod a0 b1)<(0:Int)))
  (xZ (IntKind.i64.wrap ((IntKind.i64.wrap (Int.tdiv a0 b1))-(1:Int))) (IntKind.i64.wrap ((Int.tmod a0 b1)+b1)))
  (xZ (IntKind.i64.wrap (Int.tdiv a0 b1)) (Int.tmod a0 b1)))

def rH (hop0:Int)(n1:Int):Option Int :=
  cond (decide (n1<(0:Int)))
  (some (0:Int))
  ((zS n1 hop0).bind fun x2 =>
  some (IntKind.i64.wrap ((IntKind.i64.wrap (x2.1+(1:Int)))*hop0)))

def BM (dF:Int)(hop1:Int)(t2:Int):Option (Int×Int) :=
  (AV dF hop1).bind fun x1 =>
  cond (!x1)
  (some ((0:Int),(2:Int)))
  ((uS t2).bind fun x5 =>
  cond (!x5)
  (some ((0:Int),(13:Int)))
  (cond (decide (t2=(1125899906842624:Int)))
  (some ((1125899906842624:Int),(0:Int)))
  ((rH hop1 (IntKind.i64.wrap (t2-dF))).bind fun x10 =>
  some (if (1125899906842624:Int)<x10 then (1125899906842624:Int) else x10,(0:Int)))))

def uI (l0:(List aK))(n1:Int):Option Int :=
  (qK l0).bind fun x1 =>
  cond (((!x1)||(decide (n1<(1:Int))))||(decide ((64:Int)<n1)))
  (some (2:Int))
  ((pO l0).bind fun x5 =>
  cond (!x5)
  (some (20:Int))
  (some (0:Int)))

def qU (l0:(List aK)):Option ((List aK)) :=
  some l0

def lC {σ:Type}(cL:σ->aK->Option (σ×Bool))(t5:(List aK))(t6:Int)(sg:σ)(t7:Int):Option ((σ×Int)⊕(σ⊕σ)) :=
  cond (decide (t7<t6))
  (bE (0<=t7/\t7<((List.length t5:Nat):Int)) <|
  (DE ((decide ((0:Int)<((List.getD t5 (Int.toNat t7) default).Net)))&&(decide ((-1:Int)<((List.getD t5 (Int.toNat t7) default).At)))) sg (cL sg (List.getD t5 (Int.toNat t7) default))).bind fun (x8,x9) =>
  cond (((decide ((0:Int)<((List.getD t5 (Int.toNat t7) default).Net)))&&(decide ((-1:Int)<((List.getD t5 (Int.toNat t7) default).At))))&&(!x9))
  (some (.inr (.inr x8)))
  (some (.inl (x8,IntKind.i64.wrap (t7+(1:Int))))))
  (some (.inr (.inl sg)))

def rS {σ:Type}(cL:σ->aK->Option (σ×Bool))(sg:σ)(t5:(List aK))(t6:Int)(t7:Int):Option σ :=
  (lp (fun s=>lC cL t5 t6 s.1 s.2) (sg,t7)).bind (Sum.elim (fun rr=>some rr) (fun rr=>some rr))

def nC {σ:Type}(cL:σ->aK->Option (σ×Bool))(t1:(List aK))(sg0:σ):Option σ :=
  rS cL sg0 t1 ((List.length t1:Nat):Int) (0:Int)

def nH (x0:Int)(n2:Int):Option Int :=
  bE (0<=(IntKind.u8.wrap x0)/\(IntKind.u8.wrap x0)<((ByteArray.size (⟨#[0,1,2,2,3,3,3,3,4,4,4,4,4,4,4,4,5,5,5,5,5,5,5,5,5,5,5,5,5,5,5,5,6,6,6,6,6,6,6,6,6,6,6,6,6,6,6,6,6,6,6,6,6,6,6,6,6,6,6,6,6,6,6,6,7,7,7,7,7,7,7,7,7,7,7,7,7,7,7,7,7,7,7,7,7,7,7,7,7,7,7,7,7,7,7,7,7,7,7,7,7,7,7,7,7,7,7,7,7,7,7,7,7,7,7,7,7,7,7,7,7,7,7,7,7,7,7,7,8,8,8,8,8,8,8,8,8,8,8,8,8,8,8,8,8,8,8,8,8,8,8,8,8,8,8,8,8,8,8,8,8,8,8,8,8,8,8,8,8,8,8,8,8,8,8,8,8,8,8,8,8,8,8,8,8,8,8,8,8,8,8,8,8,8,8,8,8,8,8,8,8,8,8,8,8,8,8,8,8,8,8,8,8,8,8,8,8,8,8,8,8,8,8,8,8,8,8,8,8,8,8,8,8,8,8,8,8,8,8,8,8,8,8,8,8,8,8,8,8,8,8,8,8,8,8,8]⟩:ByteArray):Nat):Int)) <|
  some (IntKind.i64.wrap (n2+(IntKind.i64.wrap (bt (⟨#[0,1,2,2,3,3,3,3,4,4,4,4,4,4,4,4,5,5,5,5,5,5,5,5,5,5,5,5,5,5,5,5,6,6,6,6,6,6,6,6,6,6,6,6,6,6,6,6,6,6,6,6,6,6,6,6,6,6,6,6,6,6,6,6,7,7,7,7,7,7,7,7,7,7,7,7,7,7,7,7,7,7,7,7,7,7,7,7,7,7,7,7,7,7,7,7,7,7,7,7,7,7,7,7,7,7,7,7,7,7,7,7,7,7,7,7,7,7,7,7,7,7,7,7,7,7,7,7,8,8,8,8,8,8,8,8,8,8,8,8,8,8,8,8,8,8,8,8,8,8,8,8,8,8,8,8,8,8,8,8,8,8,8,8,8,8,8,8,8,8,8,8,8,8,8,8,8,8,8,8,8,8,8,8,8,8,8,8,8,8,8,8,8,8,8,8,8,8,8,8,8,8,8,8,8,8,8,8,8,8,8,8,8,8,8,8,8,8,8,8,8,8,8,8,8,8,8,8,8,8,8,8,8,8,8,8,8,8,8,8,8,8,8,8,8,8,8,8,8,8,8,8,8,8,8,8]⟩:ByteArray) (IntKind.u8.wrap x0)))))

def mA (x0:Int)(n2:Int):Option Int :=
  cond (decide ((256:Int)<=x0))
  (bE (0<=(8:Int)) <|
  nH (Int.fdiv x0 (2 ^ (min (Int.toNat (8:Int)) 64))) (IntKind.i64.wrap (n2+(8:Int))))
  (nH x0 n2)

def lW (x0:Int)(n2:Int):Option Int :=
  cond (decide ((65536:Int)<=x0))
  (bE (0<=(16:Int)) <|
  mA (Int.fdiv x0 (2 ^ (min (Int.toNat (16:Int)) 64))) (IntKind.i64.wrap (n2+(16:Int))))
  (mA x0 n2)

def qE (x0:Int):Option Int :=
  cond (decide ((4294967296:Int)<=x0))
  (bE (0<=(32:Int)) <|
  lW (Int.fdiv x0 (2 ^ (min (Int.toNat (32:Int)) 64))) (32:Int))
  (lW x0 (0:Int))

def lJ (x0:Int):Option Int :=
  (qE x0).bind fun x2 =>
  some x2

def dH (x0:Int)(y1:Int):Option Bool :=
  (lK x0).bind fun x1 =>
  (cW x1 (lK y1)).bind fun x4 =>
  some ((x1&&(!x4))||(decide (x0<y1)))

def iF (aA:List Int)(a1:Int)(b2:Int)(i6:Int):Option ((List Int×Int)⊕((List Int))) :=
  some (.inl (aA,IntKind.i64.wrap (i6+(1:Int))))

def fN (a1:Int)(b2:Int)(i6:Int)(aA:List Int)(j7:Int):Option ((List Int×Int)⊕((List Int))) :=
  bE ((((decide (a1<j7)))=true->0<=j7/\j7<((List.length aA:Nat):Int))) <|
  bE ((((decide (a1<j7)))=true->0<=(IntKind.i64.wrap (j7-(1:Int)))/\(IntKind.i64.wrap (j7-(1:Int)))<((List.length aA:Nat):Int))) <|
  (cW (decide (a1<j7)) (dH (List.getD aA (Int.toNat j7) default) (List.getD aA (Int.toNat (IntKind.i64.wrap (j7-(1:Int)))) default))).bind fun x4 =>
  cond ((decide (a1<j7))&&x4)
  (bE (0<=(IntKind.i64.wrap (j7-(1:Int)))/\(IntKind.i64.wrap (j7-(1:Int)))<((List.length aA:Nat):Int)) <|
  bE (0<=j7/\j7<((List.length aA:Nat):Int)) <|
  bE (0<=j7/\j7<((List.length aA:Nat):Int)) <|
  bE (0<=(IntKind.i64.wrap (j7-(1:Int)))/\(IntKind.i64.wrap (j7-(1:Int)))<((List.length aA:Nat):Int)) <|
  some (.inl (List.set (List.set aA (Int.toNat j7) (List.getD aA (Int.toNat (IntKind.i64.wrap (j7-(1:Int)))) default)) (Int.toNat (IntKind.i64.wrap (j7-(1:Int)))) (List.getD aA (Int.toNat j7) default),IntKind.i64.wrap (j7-(1:Int)))))
  (some (.inr aA))

def kC (aA:List Int)(a1:Int)(b2:Int)(i6:Int)(j7:Int):Option ((List Int×Int)⊕((List Int))) :=
  (lp (fun s=>fN a1 b2 i6 s.1 s.2) (aA,j7)).bind (fun rr=>iF rr a1 b2 i6)

def dX (a1:Int)(b2:Int)(aA:List Int)(i6:Int):Option ((List Int×Int)⊕((List Int))) :=
  cond (decide (i6<b2))
  (kC aA a1 b2 i6 i6)
  (some (.inr aA))

def kA (aA:List Int)(a1:Int)(b2:Int)(i6:Int):Option (List Int) :=
  (lp (fun s=>dX a1 b2 s.1 s.2) (aA,i6)).bind (fun rr=>some rr)

def iL (aA:(List Int))(a1:Int)(b2:Int):Option (List Int) :=
  kA aA a1 b2 (IntKind.i64.wrap (a1+(1:Int)))

def iH (aA:List Int)(hi2:Int)(bR:Int)(cM:Int)(eO:Int):Option ((List Int×Int)⊕((List Int)⊕(List Int))) :=
  bE (0<=(IntKind.i64.wrap (bR+cM))/\(IntKind.i64.wrap (bR+cM))<((List.length aA:Nat):Int)) <|
  bE (0<=(IntKind.i64.wrap (bR+eO))/\(IntKind.i64.wrap (bR+eO))<((List.length aA:Nat):Int)) <|
  (dH (List.getD aA (Int.toNat (IntKind.i64.wrap (bR+cM))) default) (List.getD aA (Int.toNat (IntKind.i64.wrap (bR+eO))) default)).bind fun x4 =>
  cond (!x4)
  (some (.inr (.inr aA)))
  (bE (0<=(IntKind.i64.wrap (bR+eO))/\(IntKind.i64.wrap (bR+eO))<((List.length aA:Nat):Int)) <|
  bE (0<=(IntKind.i64.wrap (bR+cM))/\(IntKind.i64.wrap (bR+cM))<((List.length aA:Nat):Int)) <|
  bE (0<=(IntKind.i64.wrap (bR+cM))/\(IntKind.i64.wrap (bR+cM))<((List.length aA:Nat):Int)) <|
  bE (0<=(IntKind.i64.wrap (bR+eO))/\(IntKind.i64.wrap (bR+eO))<((List.length aA:Nat):Int)) <|
  some (.inl (List.set (List.set aA (Int.toNat (IntKind.i64.wrap (bR+cM))) (List.getD aA (Int.toNat (IntKind.i64.wrap (bR+eO))) default)) (Int.toNat (IntKind.i64.wrap (bR+eO))) (List.getD aA (Int.toNat (IntKind.i64.wrap (bR+cM))) default),eO)))

def dS (hi2:Int)(bR:Int)(aA:List Int)(cM:Int):Option ((List Int×Int)⊕((List Int)⊕(List Int))) :=
  cond (decide (hi2<=(IntKind.i64.wrap ((IntKind.i64.wrap ((2:Int)*cM))+(1:Int)))))
  (some (.inr (.inl aA)))
  (bE ((((decide ((IntKind.i64.wrap ((IntKind.i64.wrap ((IntKind.i64.wrap ((2:Int)*cM))+(1:Int)))+(1:Int)))<hi2)))=true->0<=(IntKind.i64.wrap (bR+(IntKind.i64.wrap ((IntKind.i64.wrap ((2:Int)*cM))+(1:Int)))))/\(IntKind.i64.wrap (bR+(IntKind.i64.wrap ((IntKind.i64.wrap ((2:Int)*cM))+(1:Int)))))<((List.length aA:Nat):Int))) <|
  bE ((((decide ((IntKind.i64.wrap ((IntKind.i64.wrap ((IntKind.i64.wrap ((2:Int)*cM))+(1:Int)))+(1:Int)))<hi2)))=true->0<=(IntKind.i64.wrap ((IntKind.i64.wrap (bR+(IntKind.i64.wrap ((IntKind.i64.wrap ((2:Int)*cM))+(1:Int)))))+(1:Int)))/\(IntKind.i64.wrap ((IntKind.i64.wrap (bR+(IntKind.i64.wrap ((IntKind.i64.wrap ((2:Int)*cM))+(1:Int)))))+(1:Int)))<((List.length aA:Nat):Int))) <|
  (cW (decide ((IntKind.i64.wrap ((IntKind.i64.wrap ((IntKind.i64.wrap ((2:Int)*cM))+(1:Int)))+(1:Int)))<hi2)) (dH (List.getD aA (Int.toNat (IntKind.i64.wrap (bR+(IntKind.i64.wrap ((IntKind.i64.wrap ((2:Int)*cM))+(1:Int)))))) default) (List.getD aA (Int.toNat (IntKind.i64.wrap ((IntKind.i64.wrap (bR+(IntKind.i64.wrap ((IntKind.i64.wrap ((2:Int)*cM))+(1:Int)))))+(1:Int)))) default))).bind fun x14 =>
  cond ((decide ((IntKind.i64.wrap ((IntKind.i64.wrap ((IntKind.i64.wrap ((2:Int)*cM))+(1:Int)))+(1:Int)))<hi2))&&x14)
  (iH aA hi2 bR cM (IntKind.i64.wrap ((IntKind.i64.wrap ((IntKind.i64.wrap ((2:Int)*cM))+(1:Int)))+(1:Int))))
  (iH aA hi2 bR cM (IntKind.i64.wrap ((IntKind.i64.wrap ((2:Int)*cM))+(1:Int)))))

def lS (aA:List Int)(hi2:Int)(bR:Int)(cM:Int):Option (List Int) :=
  (lp (fun s=>dS hi2 bR s.1 s.2) (aA,cM)).bind (Sum.elim (fun rr=>some rr) (fun rr=>some rr))

def gF (aA:(List Int))(lo1:Int)(hi2:Int)(bR:Int):Option (List Int) :=
  lS aA hi2 bR lo1

def eP (bY:Int)(lo7:Int)(aA:List Int)(i10:Int):Option ((List Int×Int)⊕((List Int))) :=
  cond (decide ((0:Int)<=i10))
  (bE (0<=(IntKind.i64.wrap (bY+i10))/\(IntKind.i64.wrap (bY+i10))<((List.length aA:Nat):Int)) <|
  bE (0<=bY/\bY<((List.length aA:Nat):Int)) <|
  bE (0<=bY/\bY<((List.length aA:Nat):Int)) <|
  bE (0<=(IntKind.i64.wrap (bY+i10))/\(IntKind.i64.wrap (bY+i10))<((List.length aA:Nat):Int)) <|
  (gF (List.set (List.set aA (Int.toNat bY) (List.getD aA (Int.toNat (IntKind.i64.wrap (bY+i10))) default)) (Int.toNat (IntKind.i64.wrap (bY+i10))) (List.getD aA (Int.toNat bY) default)) lo7 i10 bY).bind fun x6 =>
  some (.inl (x6,IntKind.i64.wrap (i10-(1:Int)))))
  (some (.inr aA))

def lT (aA:List Int)(bY:Int)(lo7:Int)(i10:Int):Option (List Int) :=
  (lp (fun s=>eP bY lo7 s.1 s.2) (aA,i10)).bind (fun rr=>some rr)

def jV (aA:List Int)(bY:Int)(lo7:Int)(hi8:Int):Option (List Int) :=
  lT aA bY lo7 (IntKind.i64.wrap (hi8-(1:Int)))

def eR (bY:Int)(lo7:Int)(hi8:Int)(aA:List Int)(i9:Int):Option ((List Int×Int)⊕((List Int))) :=
  cond (decide ((0:Int)<=i9))
  ((gF aA i9 hi8 bY).bind fun x11 =>
  some (.inl (x11,IntKind.i64.wrap (i9-(1:Int)))))
  (some (.inr aA))

def lU (aA:List Int)(bY:Int)(lo7:Int)(hi8:Int)(i9:Int):Option (List Int) :=
  (lp (fun s=>eR bY lo7 hi8 s.1 s.2) (aA,i9)).bind (fun rr=>jV rr bY lo7 hi8)

def kH (aA:(List Int))(a1:Int)(b2:Int):Option (List Int) :=
  bE ((2:Int)≠0) <|
  lU aA a1 (0:Int) (IntKind.i64.wrap (b2-a1)) (IntKind.i64.wrap (Int.tdiv (IntKind.i64.wrap ((IntKind.i64.wrap (b2-a1))-(1:Int))) (2:Int)))

def mJ (HZ:Int):Option Int :=
  (lJ (IntKind.u64.wrap HZ)).bind fun x1 =>
  bE (0<=x1) <|
  some (IntKind.u64.wrap ((1:Int)*2 ^ (min (Int.toNat x1) 64)))

def mS (r0:Int):Option (Int×Int) :=
  bE (0<=(13:Int)) <|
  bE (0<=(7:Int)) <|
  bE (0<=(17:Int)) <|
  some (bX .xor .u64 (bX .xor .u64 (bX .xor .u64 r0 (IntKind.u64.wrap (r0*2 ^ (min (Int.toNat (13:Int)) 64)))) (Int.fdiv (bX .xor .u64 r0 (IntKind.u64.wrap (r0*2 ^ (min (Int.toNat (13:Int)) 64)))) (2 ^ (min (Int.toNat (7:Int)) 64)))) (IntKind.u64.wrap ((bX .xor .u64 (bX .xor .u64 r0 (IntKind.u64.wrap (r0*2 ^ (min (Int.toNat (13:Int)) 64)))) (Int.fdiv (bX .xor .u64 r0 (IntKind.u64.wrap (r0*2 ^ (min (Int.toNat (13:Int)) 64)))) (2 ^ (min (Int.toNat (7:Int)) 64))))*2 ^ (min (Int.toNat (17:Int)) 64))),bX .xor .u64 (bX .xor .u64 (bX .xor .u64 r0 (IntKind.u64.wrap (r0*2 ^ (min (Int.toNat (13:Int)) 64)))) (Int.fdiv (bX .xor .u64 r0 (IntKind.u64.wrap (r0*2 ^ (min (Int.toNat (13:Int)) 64)))) (2 ^ (min (Int.toNat (7:Int)) 64)))) (IntKind.u64.wrap ((bX .xor .u64 (bX .xor .u64 r0 (IntKind.u64.wrap (r0*2 ^ (min (Int.toNat (13:Int)) 64)))) (Int.fdiv (bX .xor .u64 r0 (IntKind.u64.wrap (r0*2 ^ (min (Int.toNat (13:Int)) 64)))) (2 ^ (min (Int.toNat (7:Int)) 64))))*2 ^ (min (Int.toNat (17:Int)) 64))))

def fO (aA:List Int)(a1:Int)(kV:Int)(mR:Int)(jN:Int)(idx9:Int)(gL:Int):Option ((List Int×Int×Int)⊕((List Int))) :=
  bE (0<=(IntKind.i64.wrap (a1+gL))/\(IntKind.i64.wrap (a1+gL))<((List.length aA:Nat):Int)) <|
  bE (0<=idx9/\idx9<((List.length aA:Nat):Int)) <|
  bE (0<=idx9/\idx9<((List.length aA:Nat):Int)) <|
  bE (0<=(IntKind.i64.wrap (a1+gL))/\(IntKind.i64.wrap (a1+gL))<((List.length aA:Nat):Int)) <|
  some (.inl (List.set (List.set aA (Int.toNat idx9) (List.getD aA (Int.toNat (IntKind.i64.wrap (a1+gL))) default)) (Int.toNat (IntKind.i64.wrap (a1+gL))) (List.getD aA (Int.toNat idx9) default),mR,IntKind.i64.wrap (idx9+(1:Int))))

def dM (a1:Int)(kV:Int)(jN:Int)(aA:List Int)(mR:Int)(idx9:Int):Option ((List Int×Int×Int)⊕((List Int))) :=
  bE ((4:Int)≠0) <|
  cond (decide (idx9<=(IntKind.i64.wrap ((IntKind.i64.wrap (a1+(IntKind.i64.wrap ((IntKind.i64.wrap (Int.tdiv kV (4:Int)))*(2:Int)))))+(1:Int)))))
  ((mS mR).bind fun x9 =>
  cond (decide (kV<=(IntKind.i64.wrap (bX .and .u64 x9.1 (IntKind.u64.wrap (jN-(1:Int)))))))
  (fO aA a1 kV x9.2 jN idx9 (IntKind.i64.wrap ((IntKind.i64.wrap (bX .and .u64 x9.1 (IntKind.u64.wrap (jN-(1:Int)))))-kV)))
  (fO aA a1 kV x9.2 jN idx9 (IntKind.i64.wrap (bX .and .u64 x9.1 (IntKind.u64.wrap (jN-(1:Int)))))))
  (some (.inr aA))

def kE (aA:List Int)(a1:Int)(kV:Int)(mR:Int)(jN:Int)(idx9:Int):Option (List Int) :=
  (lp (fun s=>dM a1 kV jN s.1 s.2.1 s.2.2) (aA,mR,idx9)).bind (fun rr=>some rr)

def iO (aA:(List Int))(a1:Int)(b2:Int):Option (List Int) :=
  cond (decide ((8:Int)<=(IntKind.i64.wrap (b2-a1))))
  ((mJ (IntKind.i64.wrap (b2-a1))).bind fun x3 =>
  bE ((4:Int)≠0) <|
  kE aA a1 (IntKind.i64.wrap (b2-a1)) (IntKind.u64.wrap (IntKind.i64.wrap (b2-a1))) x3 (IntKind.i64.wrap ((IntKind.i64.wrap (a1+(IntKind.i64.wrap ((IntKind.i64.wrap (Int.tdiv (IntKind.i64.wrap (b2-a1)) (4:Int)))*(2:Int)))))-(1:Int))))
  (some aA)

def gX (aA:(List Int))(a1:Int)(b2:Int)(wH:Int):Option ((Int×Int)×Int) :=
  bE (0<=b2/\b2<((List.length aA:Nat):Int)) <|
  bE (0<=a1/\a1<((List.length aA:Nat):Int)) <|
  (dH (List.getD aA (Int.toNat b2) default) (List.getD aA (Int.toNat a1) default)).bind fun x3 =>
  cond x3
  (some ((b2,a1),IntKind.i64.wrap (wH+(1:Int))))
  (some ((a1,b2),wH))

def jG (aA:(List Int))(a1:Int)(b2:Int)(c3:Int)(KY:Int):Option (Int×Int) :=
  (gX aA a1 b2 KY).bind fun x1 =>
  (gX aA x1.1.2 c3 x1.2).bind fun x6 =>
  (gX aA x1.1.1 x6.1.1 x6.2).bind fun x11 =>
  some (x11.1.2,x11.2)

def eK (aA:(List Int))(a1:Int)(LY:Int):Option (Int×Int) :=
  (jG aA (IntKind.i64.wrap (a1-(1:Int))) a1 (IntKind.i64.wrap (a1+(1:Int))) LY).bind fun x1 =>
  some (x1.1,x1.2)

def gG (aA:List Int)(nS:Int)(j11:Int):Option (Int×Int) :=
  cond (decide (nS=(0:Int)))
  (some (j11,(1:Int)))
  (cond (decide (nS=(12:Int)))
  (some (j11,(2:Int)))
  (some (j11,(0:Int))))

def fZ (aA:List Int)(nS:Int)(i10:Int)(j11:Int)(k12:Int):Option (Int×Int) :=
  (jG aA i10 j11 k12 nS).bind fun x8 =>
  gG aA x8.2 x8.1

def iZ (aA:(List Int))(a1:Int)(b2:Int):Option (Int×Int) :=
  bE ((4:Int)≠0) <|
  bE ((4:Int)≠0) <|
  bE ((4:Int)≠0) <|
  cond (decide ((8:Int)<=(IntKind.i64.wrap (b2-a1))))
  (cond (decide ((50:Int)<=(IntKind.i64.wrap (b2-a1))))
  ((eK aA (IntKind.i64.wrap (a1+(IntKind.i64.wrap ((IntKind.i64.wrap (Int.tdiv (IntKind.i64.wrap (b2-a1)) (4:Int)))*(1:Int))))) 0).bind fun x14 =>
  (eK aA (IntKind.i64.wrap (a1+(IntKind.i64.wrap ((IntKind.i64.wrap (Int.tdiv (IntKind.i64.wrap (b2-a1)) (4:Int)))*(2:Int))))) x14.2).bind fun x19 =>
  (eK aA (IntKind.i64.wrap (a1+(IntKind.i64.wrap ((IntKind.i64.wrap (Int.tdiv (IntKind.i64.wrap (b2-a1)) (4:Int)))*(3:Int))))) x19.2).bind fun x24 =>
  fZ aA x24.2 x14.1 x19.1 x24.1)
  (fZ aA 0 (IntKind.i64.wrap (a1+(IntKind.i64.wrap ((IntKind.i64.wrap (Int.tdiv (IntKind.i64.wrap (b2-a1)) (4:Int)))*(1:Int))))) (IntKind.i64.wrap (a1+(IntKind.i64.wrap ((IntKind.i64.wrap (Int.tdiv (IntKind.i64.wrap (b2-a1)) (4:Int)))*(2:Int))))) (IntKind.i64.wrap (a1+(IntKind.i64.wrap ((IntKind.i64.wrap (Int.tdiv (IntKind.i64.wrap (b2-a1)) (4:Int)))*(3:Int)))))))
  (gG aA 0 (IntKind.i64.wrap (a1+(IntKind.i64.wrap ((IntKind.i64.wrap (Int.tdiv (IntKind.i64.wrap (b2-a1)) (4:Int)))*(2:Int))))))

def eC  (aA:List Int)(i6:Int)(j7:Int):Option ((List Int×Int×Int)⊕((List Int))) :=
  cond (decide (i6<j7))
  (bE (0<=j7/\j7<((List.length aA:Nat):Int)) <|
  bE (0<=i6/\i6<((List.length aA:Nat):Int)) <|
  bE (0<=i6/\i6<((List.length aA:Nat):Int)) <|
  bE (0<=j7/\j7<((List.length aA:Nat):Int)) <|
  some (.inl (List.set (List.set aA (Int.toNat i6) (List.getD aA (Int.toNat j7) default)) (Int.toNat j7) (List.getD aA (Int.toNat i6) default),IntKind.i64.wrap (i6+(1:Int)),IntKind.i64.wrap (j7-(1:Int)))))
  (some (.inr aA))

def kL (aA:List Int)(i6:Int)(j7:Int):Option (List Int) :=
  (lp (fun s=>eC s.1 s.2.1 s.2.2) (aA,i6,j7)).bind (fun rr=>some rr)

def iV (aA:(List Int))(a1:Int)(b2:Int):Option (List Int) :=
  kL aA a1 (IntKind.i64.wrap (b2-(1:Int)))

def fC (aA:List Int):Option (Bool×List Int) :=
  some (false,aA)

def eE (aA:List Int)(a1:Int)(b2:Int)(i7:Int)(j8:Int):Option ((List Int×Int×Int)⊕((List Int)⊕(Bool×(List Int)))) :=
  some (.inl (aA,i7,IntKind.i64.wrap (j8+(1:Int))))

def dA (a1:Int)(b2:Int)(i7:Int)(j8:Int)(aA:List Int)(j10:Int):Option ((List Int×Int)⊕((List Int))) :=
  cond (decide (j10<b2))
  (bE (0<=j10/\j10<((List.length aA:Nat):Int)) <|
  bE (0<=(IntKind.i64.wrap (j10-(1:Int)))/\(IntKind.i64.wrap (j10-(1:Int)))<((List.length aA:Nat):Int)) <|
  (dH (List.getD aA (Int.toNat j10) default) (List.getD aA (Int.toNat (IntKind.i64.wrap (j10-(1:Int)))) default)).bind fun x12 =>
  cond (!x12)
  (some (.inr aA))
  (bE (0<=(IntKind.i64.wrap (j10-(1:Int)))/\(IntKind.i64.wrap (j10-(1:Int)))<((List.length aA:Nat):Int)) <|
  bE (0<=j10/\j10<((List.length aA:Nat):Int)) <|
  bE (0<=j10/\j10<((List.length aA:Nat):Int)) <|
  bE (0<=(IntKind.i64.wrap (j10-(1:Int)))/\(IntKind.i64.wrap (j10-(1:Int)))<((List.length aA:Nat):Int)) <|
  some (.inl (List.set (List.set aA (Int.toNat j10) (List.getD aA (Int.toNat (IntKind.i64.wrap (j10-(1:Int)))) default)) (Int.toNat (IntKind.i64.wrap (j10-(1:Int)))) (List.getD aA (Int.toNat j10) default),IntKind.i64.wrap (j10+(1:Int))))))
  (some (.inr aA))

def iD (aA:List Int)(a1:Int)(b2:Int)(i7:Int)(j8:Int)(j10:Int):Option ((List Int×Int×Int)⊕((List Int)⊕(Bool×(List Int)))) :=
  (lp (fun s=>dA a1 b2 i7 j8 s.1 s.2) (aA,j10)).bind (fun rr=>eE rr a1 b2 i7 j8)

def cR (aA:List Int)(a1:Int)(b2:Int)(i7:Int)(j8:Int):Option ((List Int×Int×Int)⊕((List Int)⊕(Bool×(List Int)))) :=
  cond (decide ((2:Int)<=(IntKind.i64.wrap (b2-i7))))
  (iD aA a1 b2 i7 j8 (IntKind.i64.wrap (i7+(1:Int))))
  (eE aA a1 b2 i7 j8)

def cS (a1:Int)(b2:Int)(i7:Int)(j8:Int)(aA:List Int)(j9:Int):Option ((List Int×Int)⊕((List Int))) :=
  cond (decide ((1:Int)<=j9))
  (bE (0<=j9/\j9<((List.length aA:Nat):Int)) <|
  bE (0<=(IntKind.i64.wrap (j9-(1:Int)))/\(IntKind.i64.wrap (j9-(1:Int)))<((List.length aA:Nat):Int)) <|
  (dH (List.getD aA (Int.toNat j9) default) (List.getD aA (Int.toNat (IntKind.i64.wrap (j9-(1:Int)))) default)).bind fun x24 =>
  cond (!x24)
  (some (.inr aA))
  (bE (0<=(IntKind.i64.wrap (j9-(1:Int)))/\(IntKind.i64.wrap (j9-(1:Int)))<((List.length aA:Nat):Int)) <|
  bE (0<=j9/\j9<((List.length aA:Nat):Int)) <|
  bE (0<=j9/\j9<((List.length aA:Nat):Int)) <|
  bE (0<=(IntKind.i64.wrap (j9-(1:Int)))/\(IntKind.i64.wrap (j9-(1:Int)))<((List.length aA:Nat):Int)) <|
  some (.inl (List.set (List.set aA (Int.toNat j9) (List.getD aA (Int.toNat (IntKind.i64.wrap (j9-(1:Int)))) default)) (Int.toNat (IntKind.i64.wrap (j9-(1:Int)))) (List.getD aA (Int.toNat j9) default),IntKind.i64.wrap (j9-(1:Int))))))
  (some (.inr aA))

def iA (aA:List Int)(a1:Int)(b2:Int)(i7:Int)(j8:Int)(j9:Int):Option ((List Int×Int×Int)⊕((List Int)⊕(Bool×(List Int)))) :=
  (lp (fun s=>cS a1 b2 i7 j8 s.1 s.2) (aA,j9)).bind (fun rr=>cR rr a1 b2 i7 j8)

def fB (aA:List Int)(a1:Int)(b2:Int)(i7:Int)(j8:Int):Option ((List Int×Int×Int)⊕((List Int)⊕(Bool×(List Int)))) :=
  cond (decide (i7=b2))
  (some (.inr (.inr (true,aA))))
  (cond (decide ((IntKind.i64.wrap (b2-a1))<(50:Int)))
  (some (.inr (.inr (false,aA))))
  (bE (0<=(IntKind.i64.wrap (i7-(1:Int)))/\(IntKind.i64.wrap (i7-(1:Int)))<((List.length aA:Nat):Int)) <|
  bE (0<=i7/\i7<((List.length aA:Nat):Int)) <|
  bE (0<=i7/\i7<((List.length aA:Nat):Int)) <|
  bE (0<=(IntKind.i64.wrap (i7-(1:Int)))/\(IntKind.i64.wrap (i7-(1:Int)))<((List.length aA:Nat):Int)) <|
  cond (decide ((2:Int)<=(IntKind.i64.wrap (i7-a1))))
  (iA (List.set (List.set aA (Int.toNat i7) (List.getD aA (Int.toNat (IntKind.i64.wrap (i7-(1:Int)))) default)) (Int.toNat (IntKind.i64.wrap (i7-(1:Int)))) (List.getD aA (Int.toNat i7) default)) a1 b2 i7 j8 (IntKind.i64.wrap (i7-(1:Int))))
  (cR (List.set (List.set aA (Int.toNat i7) (List.getD aA (Int.toNat (IntKind.i64.wrap (i7-(1:Int)))) default)) (Int.toNat (IntKind.i64.wrap (i7-(1:Int)))) (List.getD aA (Int.toNat i7) default)) a1 b2 i7 j8)))

def dB (a1:Int)(b2:Int)(j8:Int)(aA:List Int)(i7:Int):Option ((List Int×Int)⊕((List Int×Int))) :=
  bE ((((decide (i7<b2)))=true->0<=i7/\i7<((List.length aA:Nat):Int))) <|
  bE ((((decide (i7<b2)))=true->0<=(IntKind.i64.wrap (i7-(1:Int)))/\(IntKind.i64.wrap (i7-(1:Int)))<((List.length aA:Nat):Int))) <|
  (cW (decide (i7<b2)) (dH (List.getD aA (Int.toNat i7) default) (List.getD aA (Int.toNat (IntKind.i64.wrap (i7-(1:Int)))) default))).bind fun x34 =>
  cond ((decide (i7<b2))&&(!x34))
  (some (.inl (aA,IntKind.i64.wrap (i7+(1:Int)))))
  (some (.inr (aA,i7)))

def dP (aA:List Int)(a1:Int)(b2:Int)(i7:Int)(j8:Int):Option ((List Int×Int×Int)⊕((List Int)⊕(Bool×(List Int)))) :=
  (lp (fun s=>dB a1 b2 j8 s.1 s.2) (aA,i7)).bind (fun rr=>fB rr.1 a1 b2 rr.2 j8)

def cD (a1:Int)(b2:Int)(aA:List Int)(i7:Int)(j8:Int):Option ((List Int×Int×Int)⊕((List Int)⊕(Bool×(List Int)))) :=
  cond (decide (j8<(5:Int)))
  (dP aA a1 b2 i7 j8)
  (some (.inr (.inl aA)))

def hY (aA:List Int)(a1:Int)(b2:Int)(i7:Int)(j8:Int):Option (Bool×List Int) :=
  (lp (fun s=>cD a1 b2 s.1 s.2.1 s.2.2) (aA,i7,j8)).bind (Sum.elim (fun rr=>fC rr) (fun rr=>some (rr.1,rr.2)))

def fE (aA:(List Int))(a1:Int)(b2:Int):Option (Bool×List Int) :=
  hY aA a1 b2 (IntKind.i64.wrap (a1+(1:Int))) (0:Int)

def jS (aA:List Int)(i9:Int):Option (Int×List Int) :=
  some (i9,aA)

def eF (aA:List Int)(a1:Int)(i9:Int)(j10:Int):Option ((List Int×Int×Int)⊕((List Int×Int))) :=
  cond (decide (j10<i9))
  (some (.inr (aA,i9)))
  (bE (0<=j10/\j10<((List.length aA:Nat):Int)) <|
  bE (0<=i9/\i9<((List.length aA:Nat):Int)) <|
  bE (0<=i9/\i9<((List.length aA:Nat):Int)) <|
  bE (0<=j10/\j10<((List.length aA:Nat):Int)) <|
  some (.inl (List.set (List.set aA (Int.toNat i9) (List.getD aA (Int.toNat j10) default)) (Int.toNat j10) (List.getD aA (Int.toNat i9) default),IntKind.i64.wrap (i9+(1:Int)),IntKind.i64.wrap (j10-(1:Int)))))

def eG (a1:Int)(i9:Int)(aA:List Int)(j10:Int):Option ((List Int×Int)⊕((List Int×Int))) :=
  bE ((((decide (i9<=j10)))=true->0<=a1/\a1<((List.length aA:Nat):Int))) <|
  bE ((((decide (i9<=j10)))=true->0<=j10/\j10<((List.length aA:Nat):Int))) <|
  (cW (decide (i9<=j10)) (dH (List.getD aA (Int.toNat a1) default) (List.getD aA (Int.toNat j10) default))).bind fun x12 =>
  cond ((decide (i9<=j10))&&x12)
  (some (.inl (aA,IntKind.i64.wrap (j10-(1:Int)))))
  (some (.inr (aA,j10)))

def jR (aA:List Int)(a1:Int)(i9:Int)(j10:Int):Option ((List Int×Int×Int)⊕((List Int×Int))) :=
  (lp (fun s=>eG a1 i9 s.1 s.2) (aA,j10)).bind (fun rr=>eF rr.1 a1 i9 rr.2)

def gS (aA:List Int)(a1:Int)(i9:Int)(j10:Int):Option ((List Int×Int×Int)⊕((List Int×Int))) :=
  jR aA a1 i9 j10

def eJ (a1:Int)(j10:Int)(aA:List Int)(i9:Int):Option ((List Int×Int)⊕((List Int×Int))) :=
  bE ((((decide (i9<=j10)))=true->0<=a1/\a1<((List.length aA:Nat):Int))) <|
  bE ((((decide (i9<=j10)))=true->0<=i9/\i9<((List.length aA:Nat):Int))) <|
  (cW (decide (i9<=j10)) (dH (List.getD aA (Int.toNat a1) default) (List.getD aA (Int.toNat i9) default))).bind fun x18 =>
  cond ((decide (i9<=j10))&&(!x18))
  (some (.inl (aA,IntKind.i64.wrap (i9+(1:Int)))))
  (some (.inr (aA,i9)))

def jQ (aA:List Int)(a1:Int)(i9:Int)(j10:Int):Option ((List Int×Int×Int)⊕((List Int×Int))) :=
  (lp (fun s=>eJ a1 j10 s.1 s.2) (aA,i9)).bind (fun rr=>gS rr.1 a1 rr.2 j10)

def dJ (a1:Int)(aA:List Int)(i9:Int)(j10:Int):Option ((List Int×Int×Int)⊕((List Int×Int))) :=
  jQ aA a1 i9 j10

def jT (aA:List Int)(a1:Int)(i9:Int)(j10:Int):Option (Int×List Int) :=
  (lp (fun s=>dJ a1 s.1 s.2.1 s.2.2) (aA,i9,j10)).bind (fun rr=>jS rr.1 rr.2)

def fM (aA:(List Int))(a1:Int)(b2:Int)(cT:Int):Option (Int×List Int) :=
  bE (0<=cT/\cT<((List.length aA:Nat):Int)) <|
  bE (0<=a1/\a1<((List.length aA:Nat):Int)) <|
  bE (0<=a1/\a1<((List.length aA:Nat):Int)) <|
  bE (0<=cT/\cT<((List.length aA:Nat):Int)) <|
  jT (List.set (List.set aA (Int.toNat a1) (List.getD aA (Int.toNat cT) default)) (Int.toNat cT) (List.getD aA (Int.toNat a1) default)) a1 (IntKind.i64.wrap (a1+(1:Int))) (IntKind.i64.wrap (b2-(1:Int)))

def jK (aA:List Int)(a1:Int)(j11:Int):Option ((Int×Bool)×List Int) :=
  bE (0<=a1/\a1<((List.length aA:Nat):Int)) <|
  bE (0<=j11/\j11<((List.length aA:Nat):Int)) <|
  bE (0<=j11/\j11<((List.length aA:Nat):Int)) <|
  bE (0<=a1/\a1<((List.length aA:Nat):Int)) <|
  some ((j11,false),(List.set (List.set aA (Int.toNat j11) (List.getD aA (Int.toNat a1) default)) (Int.toNat a1) (List.getD aA (Int.toNat j11) default)))

def fH (aA:List Int)(a1:Int)(i10:Int)(j11:Int):Option ((List Int×Int×Int)⊕((List Int×Int))) :=
  cond (decide (j11<i10))
  (some (.inr (aA,j11)))
  (bE (0<=j11/\j11<((List.length aA:Nat):Int)) <|
  bE (0<=i10/\i10<((List.length aA:Nat):Int)) <|
  bE (0<=i10/\i10<((List.length aA:Nat):Int)) <|
  bE (0<=j11/\j11<((List.length aA:Nat):Int)) <|
  some (.inl (List.set (List.set aA (Int.toNat i10) (List.getD aA (Int.toNat j11) default)) (Int.toNat j11) (List.getD aA (Int.toNat i10) default),IntKind.i64.wrap (i10+(1:Int)),IntKind.i64.wrap (j11-(1:Int)))))

def fK (a1:Int)(i10:Int)(aA:List Int)(j11:Int):Option ((List Int×Int)⊕((List Int×Int))) :=
  bE ((((decide (i10<=j11)))=true->0<=j11/\j11<((List.length aA:Nat):Int))) <|
  bE ((((decide (i10<=j11)))=true->0<=a1/\a1<((List.length aA:Nat):Int))) <|
  (cW (decide (i10<=j11)) (dH (List.getD aA (Int.toNat j11) default) (List.getD aA (Int.toNat a1) default))).bind fun x25 =>
  cond ((decide (i10<=j11))&&(!x25))
  (some (.inl (aA,IntKind.i64.wrap (j11-(1:Int)))))
  (some (.inr (aA,j11)))

def lQ (aA:List Int)(a1:Int)(i10:Int)(j11:Int):Option ((List Int×Int×Int)⊕((List Int×Int))) :=
  (lp (fun s=>fK a1 i10 s.1 s.2) (aA,j11)).bind (fun rr=>fH rr.1 a1 i10 rr.2)

def jJ (aA:List Int)(a1:Int)(i10:Int)(j11:Int):Option ((List Int×Int×Int)⊕((List Int×Int))) :=
  lQ aA a1 i10 j11

def fF (a1:Int)(j11:Int)(aA:List Int)(i10:Int):Option ((List Int×Int)⊕((List Int×Int))) :=
  bE ((((decide (i10<=j11)))=true->0<=i10/\i10<((List.length aA:Nat):Int))) <|
  bE ((((decide (i10<=j11)))=true->0<=a1/\a1<((List.length aA:Nat):Int))) <|
  (cW (decide (i10<=j11)) (dH (List.getD aA (Int.toNat i10) default) (List.getD aA (Int.toNat a1) default))).bind fun x31 =>
  cond ((decide (i10<=j11))&&x31)
  (some (.inl (aA,IntKind.i64.wrap (i10+(1:Int)))))
  (some (.inr (aA,i10)))

def lR (aA:List Int)(a1:Int)(i10:Int)(j11:Int):Option ((List Int×Int×Int)⊕((List Int×Int))) :=
  (lp (fun s=>fF a1 j11 s.1 s.2) (aA,i10)).bind (fun rr=>jJ rr.1 a1 rr.2 j11)

def eA (a1:Int)(aA:List Int)(i10:Int)(j11:Int):Option ((List Int×Int×Int)⊕((List Int×Int))) :=
  lR aA a1 i10 j11

def lP (aA:List Int)(a1:Int)(i10:Int)(j11:Int):Option ((Int×Bool)×List Int) :=
  (lp (fun s=>eA a1 s.1 s.2.1 s.2.2) (aA,i10,j11)).bind (fun rr=>jK rr.1 a1 rr.2)

def fL (aA:List Int)(a1:Int)(i10:Int)(j11:Int):Option ((Int×Bool)×List Int) :=
  cond (decide (j11<i10))
  (bE (0<=a1/\a1<((List.length aA:Nat):Int)) <|
  bE (0<=j11/\j11<((List.length aA:Nat):Int)) <|
  bE (0<=j11/\j11<((List.length aA:Nat):Int)) <|
  bE (0<=a1/\a1<((List.length aA:Nat):Int)) <|
  some ((j11,true),(List.set (List.set aA (Int.toNat j11) (List.getD aA (Int.toNat a1) default)) (Int.toNat a1) (List.getD aA (Int.toNat j11) default))))
  (bE (0<=j11/\j11<((List.length aA:Nat):Int)) <|
  bE (0<=i10/\i10<((List.length aA:Nat):Int)) <|
  bE (0<=i10/\i10<((List.length aA:Nat):Int)) <|
  bE (0<=j11/\j11<((List.length aA:Nat):Int)) <|
  lP (List.set (List.set aA (Int.toNat i10) (List.getD aA (Int.toNat j11) default)) (Int.toNat j11) (List.getD aA (Int.toNat i10) default)) a1 (IntKind.i64.wrap (i10+(1:Int))) (IntKind.i64.wrap (j11-(1:Int))))

def fG (a1:Int)(i10:Int)(aA:List Int)(j11:Int):Option ((List Int×Int)⊕((List Int×Int))) :=
  bE ((((decide (i10<=j11)))=true->0<=j11/\j11<((List.length aA:Nat):Int))) <|
  bE ((((decide (i10<=j11)))=true->0<=a1/\a1<((List.length aA:Nat):Int))) <|
  (cW (decide (i10<=j11)) (dH (List.getD aA (Int.toNat j11) default) (List.getD aA (Int.toNat a1) default))).bind fun x37 =>
  cond ((decide (i10<=j11))&&(!x37))
  (some (.inl (aA,IntKind.i64.wrap (j11-(1:Int)))))
  (some (.inr (aA,j11)))

def lO (aA:List Int)(a1:Int)(i10:Int)(j11:Int):Option ((Int×Bool)×List Int) :=
  (lp (fun s=>fG a1 i10 s.1 s.2) (aA,j11)).bind (fun rr=>fL rr.1 a1 i10 rr.2)

def jH (aA:List Int)(a1:Int)(i10:Int)(j11:Int):Option ((Int×Bool)×List Int) :=
  lO aA a1 i10 j11

def fA (a1:Int)(j11:Int)(aA:List Int)(i10:Int):Option ((List Int×Int)⊕((List Int×Int))) :=
  bE ((((decide (i10<=j11)))=true->0<=i10/\i10<((List.length aA:Nat):Int))) <|
  bE ((((decide (i10<=j11)))=true->0<=a1/\a1<((List.length aA:Nat):Int))) <|
  (cW (decide (i10<=j11)) (dH (List.getD aA (Int.toNat i10) default) (List.getD aA (Int.toNat a1) default))).bind fun x43 =>
  cond ((decide (i10<=j11))&&x43)
  (some (.inl (aA,IntKind.i64.wrap (i10+(1:Int)))))
  (some (.inr (aA,i10)))

def gM (aA:List Int)(a1:Int)(i10:Int)(j11:Int):Option ((Int×Bool)×List Int) :=
  (lp (fun s=>fA a1 j11 s.1 s.2) (aA,i10)).bind (fun rr=>jH rr.1 a1 rr.2 j11)

def iI (aA:(List Int))(a1:Int)(b2:Int)(cT:Int):Option ((Int×Bool)×List Int) :=
  bE (0<=cT/\cT<((List.length aA:Nat):Int)) <|
  bE (0<=a1/\a1<((List.length aA:Nat):Int)) <|
  bE (0<=a1/\a1<((List.length aA:Nat):Int)) <|
  bE (0<=cT/\cT<((List.length aA:Nat):Int)) <|
  gM (List.set (List.set aA (Int.toNat a1) (List.getD aA (Int.toNat cT) default)) (Int.toNat cT) (List.getD aA (Int.toNat a1) default)) a1 (IntKind.i64.wrap (a1+(1:Int))) (IntKind.i64.wrap (b2-(1:Int)))

def iQ (rec:(List Int)->Int->Int->Int->Option (List Int))(aA:List Int)(a1:Int)(b2:Int)(cG:Int)(cC:Bool)(bV:Bool)(eM:Int)(gR:Int):Option ((List Int×Int×Int×Int×Bool×Bool)⊕((List Int))) :=
  bE ((((decide ((0:Int)<a1)))=true->0<=(IntKind.i64.wrap (a1-(1:Int)))/\(IntKind.i64.wrap (a1-(1:Int)))<((List.length aA:Nat):Int))) <|
  bE ((((decide ((0:Int)<a1)))=true->0<=gR/\gR<((List.length aA:Nat):Int))) <|
  (cW (decide ((0:Int)<a1)) (dH (List.getD aA (Int.toNat (IntKind.i64.wrap (a1-(1:Int)))) default) (List.getD aA (Int.toNat gR) default))).bind fun x16 =>
  cond ((decide ((0:Int)<a1))&&(!x16))
  ((fM aA a1 b2 gR).bind fun x20 =>
  some (.inl (x20.2,x20.1,b2,cG,cC,bV)))
  ((iI aA a1 b2 gR).bind fun x23 =>
  bE ((8:Int)≠0) <|
  cond (decide ((IntKind.i64.wrap (x23.1.1-a1))<(IntKind.i64.wrap (b2-x23.1.1))))
  ((rec x23.2 a1 x23.1.1 cG).bind fun x28 =>
  some (.inl (x28,IntKind.i64.wrap (x23.1.1+(1:Int)),b2,cG,decide ((IntKind.i64.wrap (Int.tdiv eM (8:Int)))<=(IntKind.i64.wrap (x23.1.1-a1))),x23.1.2)))
  ((rec x23.2 (IntKind.i64.wrap (x23.1.1+(1:Int))) b2 cG).bind fun x31 =>
  some (.inl (x31,a1,x23.1.1,cG,decide ((IntKind.i64.wrap (Int.tdiv eM (8:Int)))<=(IntKind.i64.wrap (b2-x23.1.1))),x23.1.2))))

def iT (rec:(List Int)->Int->Int->Int->Option (List Int))(aA:List Int)(a1:Int)(b2:Int)(cG:Int)(cC:Bool)(bV:Bool)(eM:Int)(gR:Int)(HY:Int):Option ((List Int×Int×Int×Int×Bool×Bool)⊕((List Int))) :=
  cond ((cC&&bV)&&(decide (HY=(1:Int))))
  ((fE aA a1 b2).bind fun x35 =>
  cond x35.1
  (some (.inr x35.2))
  (iQ rec x35.2 a1 b2 cG cC bV eM gR))
  (iQ rec aA a1 b2 cG cC bV eM gR)

def iP (rec:(List Int)->Int->Int->Int->Option (List Int))(aA:List Int)(a1:Int)(b2:Int)(cG:Int)(cC:Bool)(bV:Bool)(eM:Int):Option ((List Int×Int×Int×Int×Bool×Bool)⊕((List Int))) :=
  (iZ aA a1 b2).bind fun x9 =>
  cond (decide (x9.2=(2:Int)))
  ((iV aA a1 b2).bind fun x40 =>
  iT rec x40 a1 b2 cG cC bV eM (IntKind.i64.wrap ((IntKind.i64.wrap (b2-(1:Int)))-(IntKind.i64.wrap (x9.1-a1)))) (1:Int))
  (iT rec aA a1 b2 cG cC bV eM x9.1 x9.2)

def eY (rec:(List Int)->Int->Int->Int->Option (List Int))  (aA:List Int)(a1:Int)(b2:Int)(cG:Int)(cC:Bool)(bV:Bool):Option ((List Int×Int×Int×Int×Bool×Bool)⊕((List Int))) :=
  cond (decide ((IntKind.i64.wrap (b2-a1))<=(12:Int)))
  ((iL aA a1 b2).bind fun x2 =>
  some (.inr x2))
  (cond (decide (cG=(0:Int)))
  ((kH aA a1 b2).bind fun x6 =>
  some (.inr x6))
  (cond (!cC)
  ((iO aA a1 b2).bind fun x44 =>
  iP rec x44 a1 b2 (IntKind.i64.wrap (cG-(1:Int))) cC bV (IntKind.i64.wrap (b2-a1)))
  (iP rec aA a1 b2 cG cC bV (IntKind.i64.wrap (b2-a1)))))

def mH (rec:(List Int)->Int->Int->Int->Option (List Int))(aA:List Int)(a1:Int)(b2:Int)(cG:Int)(cC:Bool)(bV:Bool):Option (List Int) :=
  (lp (fun s=>eY rec s.1 s.2.1 s.2.2.1 s.2.2.2.1 s.2.2.2.2.1 s.2.2.2.2.2) (aA,a1,b2,cG,cC,bV)).bind (fun rr=>some rr)

def gW (rec:(List Int)->Int->Int->Int->Option (List Int))(aA:(List Int))(a1:Int)(b2:Int)(cG:Int):Option (List Int) :=
  mH rec aA a1 b2 cG true true

def dW  : Nat->(List Int)->Int->Int->Int->Option (List Int)
  | 0=>fun _ _ _ _=>none
  | k+1=>gW (dW k)

def kN (aA:(List Int))(a1:Int)(b2:Int)(cG:Int):Option (List Int):=XV (fun k=>dW k aA a1 b2 cG)

def gT (x0:(List Int)):Option (List Int) :=
  (lJ (IntKind.u64.wrap ((List.length x0:Nat):Int))).bind fun x1 =>
  (kN x0 (0:Int) ((List.length x0:Nat):Int) x1).bind fun x4 =>
  some x4

def lG (s0:List Int):Option (List Int) :=
  some s0

def nJ (s0:List Int)(k3:Int):Option ((List Int×Int)⊕((List Int)⊕(List Int))) :=
  some (.inl (s0,IntKind.i64.wrap (k3+(1:Int))))

def lF (s0:List Int)(k3:Int):Option ((List Int×Int)⊕((List Int)⊕(List Int))) :=
  bE (0<=k3/\k3<=((List.length s0:Nat):Int)) <|
  bE (0<=k3/\k3<=((List.length (kR (0+Int.toNat k3) s0):Nat):Int)) <|
  bE (Int.toNat k3<=List.length (kR (0+Int.toNat k3) s0)) <|
  some (.inr (.inr (List.take (Int.toNat k3) (kR (0+Int.toNat k3) s0))))

def jU (s0:List Int)(k3:Int)(k25:Int)(s24o:Nat)(s24n:Nat):Option ((List Int×Int×Int)⊕((List Int×Int))) :=
  some (.inl (s0,k3,IntKind.i64.wrap (k25+(1:Int))))

def fV (s24o:Nat)(s24n:Nat)(s0:List Int)(k3:Int)(k25:Int):Option ((List Int×Int×Int)⊕((List Int×Int))) :=
  cond (decide (k25<((s24n:Nat):Int)))
  (bE (0<=k25/\k25<((s24n:Nat):Int)) <|
  bE ((s24o+Int.toNat k25)<List.length s0) <|
  bE (0<=(IntKind.i64.wrap (k25-(1:Int)))/\(IntKind.i64.wrap (k25-(1:Int)))<((s24n:Nat):Int)) <|
  bE ((s24o+Int.toNat (IntKind.i64.wrap (k25-(1:Int))))<List.length s0) <|
  cond (!decide ((List.getD s0 (s24o+Int.toNat k25) default)=(List.getD s0 (s24o+Int.toNat (IntKind.i64.wrap (k25-(1:Int)))) default)))
  (bE (0<=k25/\k25<((s24n:Nat):Int)) <|
  bE ((s24o+Int.toNat k25)<List.length s0) <|
  bE (0<=k3/\k3<((List.length s0:Nat):Int)) <|
  jU (List.set s0 (Int.toNat k3) (List.getD s0 (s24o+Int.toNat k25) default)) (IntKind.i64.wrap (k3+(1:Int))) k25 s24o s24n)
  (jU s0 k3 k25 s24o s24n))
  (some (.inr (s0,k3)))

def nL (s0:List Int)(k3:Int)(k25:Int)(s24o:Nat)(s24n:Nat):Option ((List Int×Int)⊕((List Int)⊕(List Int))) :=
  (lp (fun s=>fV s24o s24n s.1 s.2.1 s.2.2) (s0,k3,k25)).bind (fun rr=>lF rr.1 rr.2)

def iK  (s0:List Int)(k3:Int):Option ((List Int×Int)⊕((List Int)⊕(List Int))) :=
  cond (decide (k3<((List.length s0:Nat):Int)))
  (bE (0<=k3/\k3<((List.length s0:Nat):Int)) <|
  bE (0<=(IntKind.i64.wrap (k3-(1:Int)))/\(IntKind.i64.wrap (k3-(1:Int)))<((List.length s0:Nat):Int)) <|
  cond (decide ((List.getD s0 (Int.toNat k3) default)=(List.getD s0 (Int.toNat (IntKind.i64.wrap (k3-(1:Int)))) default)))
  (bE (0<=k3/\k3<=((List.length s0:Nat):Int)) <|
  nL s0 k3 (1:Int) (0+Int.toNat k3) (List.length s0-Int.toNat k3))
  (nJ s0 k3))
  (some (.inr (.inl s0)))

def nK (s0:List Int)(k3:Int):Option (List Int) :=
  (lp (fun s=>iK s.1 s.2) (s0,k3)).bind (Sum.elim (fun rr=>lG rr) (fun rr=>some rr))

def kK (s0:(List Int)):Option (List Int) :=
  cond (decide (((List.length s0:Nat):Int)<(2:Int)))
  (some s0)
  (nK s0 (1:Int))

def qZ (t7c0:(List aK))(out3:List Int)(t8:aK):Option ((List Int)⊕(List Int)) :=
  bE ((List.length out3+List.length ([t8.At]))*8<=140737488355328/\List.length out3+List.length ([t8.At])<=9223372036854775807) <|
  some (.inl (out3++([t8.At])))

def uW (out3:List Int)(t7c0:(List aK)):Option (List Int) :=
  (nC (fun st t8=>rnd (fun (s:List Int)=>qZ t7c0 s t8) st) t7c0 (.inl out3)).bind (Sum.elim (fun (s:List Int) =>
  ((gT s).bind fun x10 =>
  (kK x10).bind fun x13 =>
  some x13))
  (fun (s:List Int) =>
  (none)))

def pS (l0:(List aK)):Option (List Int) :=
  (qU l0).bind fun x3 =>
  uW ([]:List Int) x3

def pP (x0:Int):Option Bool :=
  some (!decide (x0=x0))

def jI (x0:(List Int))(fX:Int)(n6:Int)(i7:Int):Option (Int×Bool) :=
  bE ((((decide (i7<n6)))=true->0<=i7/\i7<((List.length x0:Nat):Int))) <|
  bE ((((!(decide ((List.getD x0 (Int.toNat i7) default)=fX)))&&(decide (i7<n6)))=true->0<=i7/\i7<((List.length x0:Nat):Int))) <|
  (cW ((!(decide ((List.getD x0 (Int.toNat i7) default)=fX)))&&(decide (i7<n6))) (pP (List.getD x0 (Int.toNat i7) default))).bind fun x3 =>
  (cW (x3&&((!(decide ((List.getD x0 (Int.toNat i7) default)=fX)))&&(decide (i7<n6)))) (pP fX)).bind fun x6 =>
  some (i7,(decide (i7<n6))&&((decide ((List.getD x0 (Int.toNat i7) default)=fX))||(x3&&x6)))

def fI (x0:(List Int))(fX:Int)(n6:Int)(i7:Int)(j8:Int):Option ((Int×Int)⊕(Int)) :=
  cond (decide (i7<j8))
  (bE (0<=(1:Int)) <|
  bE (0<=(IntKind.i64.wrap (Int.fdiv (IntKind.u64.wrap (IntKind.i64.wrap (i7+j8))) (2 ^ (min (Int.toNat (1:Int)) 64))))/\(IntKind.i64.wrap (Int.fdiv (IntKind.u64.wrap (IntKind.i64.wrap (i7+j8))) (2 ^ (min (Int.toNat (1:Int)) 64))))<((List.length x0:Nat):Int)) <|
  (dH (List.getD x0 (Int.toNat (IntKind.i64.wrap (Int.fdiv (IntKind.u64.wrap (IntKind.i64.wrap (i7+j8))) (2 ^ (min (Int.toNat (1:Int)) 64))))) default) fX).bind fun x12 =>
  cond x12
  (some (.inl (IntKind.i64.wrap ((IntKind.i64.wrap (Int.fdiv (IntKind.u64.wrap (IntKind.i64.wrap (i7+j8))) (2 ^ (min (Int.toNat (1:Int)) 64))))+(1:Int)),j8)))
  (some (.inl (i7,IntKind.i64.wrap (Int.fdiv (IntKind.u64.wrap (IntKind.i64.wrap (i7+j8))) (2 ^ (min (Int.toNat (1:Int)) 64)))))))
  (some (.inr i7))

def lH (x0:(List Int))(fX:Int)(n6:Int)(i7:Int)(j8:Int):Option (Int×Bool) :=
  (lp (fun s=>fI x0 fX n6 s.1 s.2) (i7,j8)).bind (fun rr=>jI x0 fX n6 rr)

def fR (x0:(List Int))(fX:Int):Option (Int×Bool) :=
  lH x0 fX ((List.length x0:Nat):Int) (0:Int) ((List.length x0:Nat):Int)

def wG (l0:(List aK))(n1:Int)(t2:Int):Option (Int×Int) :=
  (uI l0 n1).bind fun x1 =>
  cond (!decide (x1=(0:Int)))
  (some ((0:Int),x1))
  (cond ((decide (t2<(0:Int)))||(decide ((1125899906842624:Int)<t2)))
  (some ((0:Int),(13:Int)))
  (cond (decide (t2=(1125899906842624:Int)))
  (some (t2,(0:Int)))
  ((pS l0).bind fun x7 =>
  (fR x7 t2).bind fun x10 =>
  cond (decide ((if (IntKind.i64.wrap ((IntKind.i64.wrap (x10.1-n1))+(1:Int)))>(0:Int) then (IntKind.i64.wrap ((IntKind.i64.wrap (x10.1-n1))+(1:Int))) else (0:Int))=x10.1))
  (some (t2,(0:Int)))
  (bE (0<=(if (IntKind.i64.wrap ((IntKind.i64.wrap (x10.1-n1))+(1:Int)))>(0:Int) then (IntKind.i64.wrap ((IntKind.i64.wrap (x10.1-n1))+(1:Int))) else (0:Int))/\(if (IntKind.i64.wrap ((IntKind.i64.wrap (x10.1-n1))+(1:Int)))>(0:Int) then (IntKind.i64.wrap ((IntKind.i64.wrap (x10.1-n1))+(1:Int))) else (0:Int))<((List.length x7:Nat):Int)) <|
  some (List.getD x7 (Int.toNat (if (IntKind.i64.wrap ((IntKind.i64.wrap (x10.1-n1))+(1:Int)))>(0:Int) then (IntKind.i64.wrap ((IntKind.i64.wrap (x10.1-n1))+(1:Int))) else (0:Int))) default,(0:Int))))))

def qX (w0:bW)(l1:(List aK))(t2:Int):Option (Int×Int) :=
  (qW w0 l1 t2).bind fun x1 =>
  cond (!decide (x1=(0:Int)))
  (some ((0:Int),x1))
  (cond (decide (w0.Kind=(2:Int)))
  ((BM w0.Size w0.Hop t2).bind fun x6 =>
  some (if t2<x6.1 then t2 else x6.1,x6.2))
  (cond (decide (w0.Kind=(3:Int)))
  ((wG l1 w0.Size t2).bind fun x10 =>
  some (x10.1,x10.2))
  (some (t2,(0:Int)))))

def xE (t1:Int):Option Int :=
  some t1

def sP (t1:Int)(t7:(List aK))(t8:Int)(t9:Int):Option ((Int×Int)⊕(Int)) :=
  some (.inl (t1,IntKind.i64.wrap (t9+(1:Int))))

def pU (t7:(List aK))(t8:Int)(t1:Int)(t9:Int):Option ((Int×Int)⊕(Int)) :=
  cond (decide (t9<t8))
  (bE (0<=t9/\t9<((List.length t7:Nat):Int)) <|
  cond (decide ((0:Int)<((List.getD t7 (Int.toNat t9) default).Net)))
  (sP (if (IntKind.i64.wrap (((List.getD t7 (Int.toNat t9) default).At)+(1:Int)))>t1 then (IntKind.i64.wrap (((List.getD t7 (Int.toNat t9) default).At)+(1:Int))) else t1) t7 t8 t9)
  (sP t1 t7 t8 t9))
  (some (.inr t1))

def xG (t1:Int)(t7:(List aK))(t8:Int)(t9:Int):Option Int :=
  (lp (fun s=>pU t7 t8 s.1 s.2) (t1,t9)).bind (fun rr=>xE rr)

def uE (l0:(List aK))(t1:Int):Option Int :=
  xG t1 l0 ((List.length l0:Nat):Int) (0:Int)

def rZ (l0:(List aK)):Option ((List aK)) :=
  some l0

def lV {σ:Type}(cL:σ->(List aG)->(List aI)->Option (σ×Bool))(t9c0:(List aK))(sg:σ)(t10:(List aG))(t11:(List aI)):Option ((σ)⊕(σ)) :=
  (cL sg t10 t11).bind fun x7 =>
  cond (!x7.2)
  (some (.inr x7.1))
  (some (.inl x7.1))

def sJ {σ:Type}(cL:σ->(List aG)->(List aI)->Option (σ×Bool))(sg:σ)(t9c0:(List aK)):Option σ :=
  (pV (fun st t10 t11=>rnd (fun (s:σ)=>lV cL t9c0 s t10 t11) st) t9c0 (.inl sg)).bind (Sum.elim (fun (s:σ) =>
  (some s))
  (fun (s:σ) =>
  (some s)))

def nX {σ:Type}(cL:σ->(List aG)->(List aI)->Option (σ×Bool))(t1:(List aK))(sg0:σ):Option σ :=
  (qK t1).bind fun x1 =>
  cond (!x1)
  (some sg0)
  ((wS t1).bind fun x5 =>
  sJ cL sg0 x5)

def CZ (f0:(List aI)):Option ((List aI)) :=
  some f0

def oS {σ:Type}(cL:σ->bL->Option (σ×Bool))(sg:σ)(n3:Int)(kT:Int):Option σ :=
  cond (decide ((0:Int)<n3))
  ((cL sg (bL.mk kT (1125899906842624:Int))).bind fun x2 =>
  some x2.1)
  (some sg)

def nA {σ:Type}(cL:σ->bL->Option (σ×Bool))(sg:σ)(n3:Int)(kT:Int)(j6:aI)(t7:(List aI))(t8:Int)(t9:Int):Option ((σ×Int×Int×Int)⊕((σ×Int×Int)⊕σ)) :=
  (DE (decide ((IntKind.i64.wrap (n3+j6.Net))=(0:Int))) sg (cL sg (bL.mk kT j6.At))).bind fun (x10,x11) =>
  cond ((decide ((IntKind.i64.wrap (n3+j6.Net))=(0:Int)))&&(!x11))
  (some (.inr (.inr x10)))
  (some (.inl (x10,IntKind.i64.wrap (n3+j6.Net),kT,IntKind.i64.wrap (t9+(1:Int)))))

def gZ {σ:Type}(cL:σ->bL->Option (σ×Bool))(t7:(List aI))(t8:Int)(sg:σ)(n3:Int)(kT:Int)(t9:Int):Option ((σ×Int×Int×Int)⊕((σ×Int×Int)⊕σ)) :=
  cond (decide (t9<t8))
  (bE (0<=t9/\t9<((List.length t7:Nat):Int)) <|
  cond (decide (n3=(0:Int)))
  (nA cL sg n3 ((List.getD t7 (Int.toNat t9) default).At) (List.getD t7 (Int.toNat t9) default) t7 t8 t9)
  (nA cL sg n3 kT (List.getD t7 (Int.toNat t9) default) t7 t8 t9))
  (some (.inr (.inl (sg,n3,kT))))

def uT {σ:Type}(cL:σ->bL->Option (σ×Bool))(sg:σ)(n3:Int)(kT:Int)(t7:(List aI))(t8:Int)(t9:Int):Option σ :=
  (lp (fun s=>gZ cL t7 t8 s.1 s.2.1 s.2.2.1 s.2.2.2) (sg,n3,kT,t9)).bind (Sum.elim (fun rr=>oS cL rr.1 rr.2.1 rr.2.2) (fun rr=>some rr))

def sO {σ:Type}(cL:σ->bL->Option (σ×Bool))(t1:(List aI))(sg0:σ):Option σ :=
  uT cL sg0 (0:Int) (0:Int) t1 ((List.length t1:Nat):Int) (0:Int)

def BW (dF:Int)(hop1:Int)(s2:bL)(mP:Int)(kI:Int):Option ((Int×bL×Int×Int×Int)) :=
  some (hop1,s2,dF,mP,kI)

def kB {σ:Type}(cL:σ->Int->Option (σ×Bool))(t1:Int)(t2:bL)(t5:Int)(sg:σ)(t8:Int):Option ((σ×Int)⊕(σ⊕σ)) :=
  cond (decide (t8<(if (1125899906842624:Int)<(if t5<t2.To then t5 else t2.To) then (1125899906842624:Int) else (if t5<t2.To then t5 else t2.To))))
  ((cL sg t8).bind fun x8 =>
  cond (!x8.2)
  (some (.inr (.inr x8.1)))
  (some (.inl (x8.1,IntKind.i64.wrap (t8+t1)))))
  (some (.inr (.inl sg)))

def qF {σ:Type}(cL:σ->Int->Option (σ×Bool))(sg:σ)(t1:Int)(t2:bL)(t5:Int)(t8:Int):Option σ :=
  (lp (fun s=>kB cL t1 t2 t5 s.1 s.2) (sg,t8)).bind (Sum.elim (fun rr=>some rr) (fun rr=>some rr))

def rG {σ:Type}(cL:σ->Int->Option (σ×Bool))(t1:Int)(t2:bL)(t3:Int)(t4:Int)(t5:Int)(sg0:σ):Option σ :=
  (rH t1 (IntKind.i64.wrap (t2.From-t3))).bind fun x1 =>
  (rH t1 (IntKind.i64.wrap (t4-(1:Int)))).bind fun x4 =>
  qF cL sg0 t1 t2 t5 (if x4>x1 then x4 else x1)

def yV (v5:Int):Option Int :=
  some v5

def pI (t1:Int)(t11:(List aI))(t12:Int)(v5:Int)(t13:Int):Option ((Int×Int)⊕(Int)) :=
  cond (decide (t13<t12))
  (bE (0<=t13/\t13<((List.length t11:Nat):Int)) <|
  cond (decide (t1<((List.getD t11 (Int.toNat t13) default).At)))
  (some (.inr v5))
  (some (.inl (IntKind.i64.wrap (v5+((List.getD t11 (Int.toNat t13) default).Net)),IntKind.i64.wrap (t13+(1:Int))))))
  (some (.inr v5))

def EB (t1:Int)(v5:Int)(t11:(List aI))(t12:Int)(t13:Int):Option Int :=
  (lp (fun s=>pI t1 t11 t12 s.1 s.2) (v5,t13)).bind (fun rr=>yV rr)

def AW (f0:(List aI))(t1:Int):Option Int :=
  (qI f0).bind fun x1 =>
  cond (!x1)
  (some (0:Int))
  (EB t1 (0:Int) f0 ((List.length f0:Nat):Int) (0:Int))

def yP (n5:Int):Option Int :=
  some n5

def qY (w3:bL)(n5:Int)(t12:(List aI))(t13:Int)(t14:Int):Option ((Int×Int)⊕(Int)) :=
  some (.inl (n5,IntKind.i64.wrap (t14+(1:Int))))

def qV (w3:bL)(t12:(List aI))(t13:Int)(n5:Int)(t14:Int):Option ((Int×Int)⊕(Int)) :=
  cond (decide (t14<t13))
  (bE (0<=t14/\t14<((List.length t12:Nat):Int)) <|
  cond ((decide (w3.From<((List.getD t12 (Int.toNat t14) default).At)))&&(decide (((List.getD t12 (Int.toNat t14) default).At)<w3.To)))
  (qY w3 (IntKind.i64.wrap (n5+(if (0:Int)>((List.getD t12 (Int.toNat t14) default).Net) then (0:Int) else ((List.getD t12 (Int.toNat t14) default).Net)))) t12 t13 t14)
  (qY w3 n5 t12 t13 t14))
  (some (.inr n5))

def yM (w3:bL)(n5:Int)(t12:(List aI))(t13:Int)(t14:Int):Option Int :=
  (lp (fun s=>qV w3 t12 t13 s.1 s.2) (n5,t14)).bind (fun rr=>yP rr)

def vT (f0:(List aI))(w1:bL):Option Int :=
  (AW f0 w1.From).bind fun x1 =>
  yM w1 x1 f0 ((List.length f0:Nat):Int) (0:Int)

def shP (a b:Nat)(p:aP):List (Nat×Nat×List V):=[(a,3,[(.agg [(eI p.Span.From),(eI p.Span.To),(.msl 2 b 0 (List.length p.Rows))])]),(b,2,List.map bZ p.Rows)]

def shF (a _b:Nat)(p:aP):List (Nat×Nat×List V):=[(a,3,[(aT p)])]

def qC (r:List aG)(f:List aI)(p:aP):Option aP :=
  bE ((!(decide ((wR ((lN p.Rows)-(1:Int)))<(0:Int))))=true->0<=(wR ((lN p.Rows)-(1:Int)))/\(wR ((lN p.Rows)-(1:Int)))<(lN p.Rows)) <|
  (cW (!(decide ((wR ((lN p.Rows)-(1:Int)))<(0:Int)))) (sR ((gD p.Rows (wR ((lN p.Rows)-(1:Int)))).Row) r)).bind fun x1 =>
  cond ((decide ((wR ((lN p.Rows)-(1:Int)))<(0:Int)))||(!x1))
  ((yJ r).bind fun x2 =>
  (vT f p.Span).bind fun x3 =>
  bE ((List.length p.Rows+List.length ([bK.mk x2 x3]))*32<=140737488355328/\List.length p.Rows+List.length ([bK.mk x2 x3])<=9223372036854775807) <|
  some (aP.mk p.Span (p.Rows++[bK.mk x2 x3])))
  (some p)

def oJ (r:List aG)(f:List aI)(size:Int)(b:Bool)(m:List (Int×aP))(t:Int):Option ((Bool×List (Int×aP))⊕(Bool×List (Int×aP))) :=
  match gI m t with
  | none=>cond (decide ((lN m)=(1024:Int)))
    (some (.inr (false,m)))
    ((qC r f (aP.mk (bL.mk t (if (1125899906842624:Int)<(wR (t+size)) then (1125899906842624:Int) else (wR (t+size)))) [])).bind fun p=>some (.inl (b,fJ m t p)))
  | some p=>(qC r f p).bind fun p=>some (.inl (b,fJ m t p))

def pY (r:List aG)(f:List aI)(size hop frm front:Int)(b:Bool)(m:List (Int×aP))(s:bL):Option ((Bool×List (Int×aP))⊕(Bool×List (Int×aP))) :=
  (BW size hop s frm front).bind fun x =>
  (rG (fun st t=>rnd (fun (q:Bool×List (Int×aP))=>oJ r f size q.1 q.2 t) st) x.1 x.2.1 x.2.2.1 x.2.2.2.1 x.2.2.2.2 (.inl (b,m))).bind (Sum.elim (fun q=>some (.inl q)) (fun q=>some (.inr q)))

def yG (m:List (Int×aP))(r:List aG)(f:List aI)(size hop frm front:Int):Option (Bool×List (Int×aP)) :=
  (CZ f).bind fun x =>
  (sO (fun st s=>rnd (fun (q:Bool×List (Int×aP))=>pY r f size hop frm front q.1 q.2 s) st) x (.inl (false,m))).bind (Sum.elim (fun q=>some (true,q.2)) (fun q=>some (q.1,q.2)))

def nO (size hop frm front:Int)(t10:List aP)(t11:Int)(m:List (Int×aP))(r:List aG)(f:List aI):Option ((List aP×Int×List (Int×aP))⊕(List aP×Int×List (Int×aP))) :=
  (yG m r f size hop frm front).bind fun x =>
  cond (!x.1)
  (some (.inr ([],(7:Int),x.2)))
  (some (.inl (t10,t11,x.2)))

def tX (m:List (Int×aP))(b:List Int)(n:Int)(out:List aP)(i:Int):Option ((List aP×Int)⊕(List aP)) :=
  cond (decide (i<n))
  (bE (0<=i/\i<(lN b)) <|
  match gI m (gD b i) with
  | none=>none
  | some p =>
    bE ((List.length out+List.length ([p]))*40<=140737488355328/\List.length out+List.length ([p])<=9223372036854775807) <|
    some (.inl (out++[p],wR (i+(1:Int)))))
  (some (.inr out))

def FE (m:List (Int×aP))(b:List Int):Option (List aP×Int) :=
  (gT b).bind fun b =>
  bE (0<=(lN b)/\(40:Int)*(lN b)<=281474976710656/\(lN b)<=9223372036854775807) <|
  (lp (fun s=>tX m b (lN b) s.1 s.2) (([]:List aP),(0:Int))).bind fun out=>some (out,(0:Int))

def tN (s:List Int)(k:Int):Option (List Int) :=
  bE ((List.length s+List.length ([k]))*8<=140737488355328/\List.length s+List.length ([k])<=9223372036854775807) <|
  some (s++[k])

def yD (m:List (Int×aP)):Option (List aP×Int) :=
  bE (0<=(lN m)/\(8:Int)*(lN m)<=281474976710656/\(lN m)<=9223372036854775807) <|
  uU (m.map (·.1)) (fun q=>(dV tN ([]:List Int) q).bind (FE m))

def FG (l:List aK)(size hop frm front:Int)(t10:List aP)(t11:Int):Option (List aP×Int) :=
  (rZ l).bind fun x =>
  (nX (fun st r f=>rnd (fun (q:List aP×Int×List (Int×aP))=>nO size hop frm front q.1 q.2.1 q.2.2 r f) st) x (.inl (t10,t11,[]))).bind (Sum.elim (fun q=>yD q.2.2) (fun q=>some (q.1,q.2.1)))

def zE (l0:(List aK))(sS:Int)(hop2:Int)(mP:Int)(kI:Int):Option ((List aP)×Int) :=
  (AV sS hop2).bind fun x3 =>
  (cW (!(!x3)) (qK l0)).bind fun x6 =>
  cond ((!x3)||(!x6))
  (some ([],(2:Int)))
  ((pO l0).bind fun x10 =>
  cond (!x10)
  (some ([],(20:Int)))
  ((uS mP).bind fun x14 =>
  (cW (!(!x14)) (uS kI)).bind fun x17 =>
  cond ((!x14)||(!x17))
  (some ([],(13:Int)))
  (FG l0 sS hop2 mP kI ([]) 0)))

def gE (s0:(List aG)):Option (List aG) :=
  bE (List.length s0*32<=140737488355328/\List.length s0<=9223372036854775807) <|
  some s0

def oT (yO:(List aK))(t4:aP)(p5:aP)(t22:aK):Option ((aP×aP)⊕(aP×aP)) :=
  cond ((decide (t22.At<p5.Span.From))||(decide (p5.Span.To<=t22.At)))
  (some (.inl (t4,p5)))
  (bE ((((decide ((0:Int)<=(IntKind.i64.wrap (((List.length p5.Rows:Nat):Int)-(1:Int))))))=true->0<=(IntKind.i64.wrap (((List.length p5.Rows:Nat):Int)-(1:Int)))/\(IntKind.i64.wrap (((List.length p5.Rows:Nat):Int)-(1:Int)))<((List.length p5.Rows:Nat):Int))) <|
  (cW (decide ((0:Int)<=(IntKind.i64.wrap (((List.length p5.Rows:Nat):Int)-(1:Int))))) (gC ((List.getD p5.Rows (Int.toNat (IntKind.i64.wrap (((List.length p5.Rows:Nat):Int)-(1:Int)))) default).Row) t22.Row)).bind fun x13 =>
  cond ((decide ((0:Int)<=(IntKind.i64.wrap (((List.length p5.Rows:Nat):Int)-(1:Int)))))&&x13)
  (bE (0<=(IntKind.i64.wrap (((List.length p5.Rows:Nat):Int)-(1:Int)))/\(IntKind.i64.wrap (((List.length p5.Rows:Nat):Int)-(1:Int)))<((List.length p5.Rows:Nat):Int)) <|
  bE (0<=(IntKind.i64.wrap (((List.length p5.Rows:Nat):Int)-(1:Int)))/\(IntKind.i64.wrap (((List.length p5.Rows:Nat):Int)-(1:Int)))<((List.length p5.Rows:Nat):Int)) <|
  some (.inl (t4,aP.mk p5.Span (List.set p5.Rows (Int.toNat (IntKind.i64.wrap (((List.length p5.Rows:Nat):Int)-(1:Int)))) (bK.mk (List.getD p5.Rows (Int.toNat (IntKind.i64.wrap (((List.length p5.Rows:Nat):Int)-(1:Int)))) default).Row (IntKind.i64.wrap (((List.getD p5.Rows (Int.toNat (IntKind.i64.wrap (((List.length p5.Rows:Nat):Int)-(1:Int)))) default).N)+t22.Net)))))))
  ((gE t22.Row).bind fun x19 =>
  bE ((List.length p5.Rows+List.length ([bK.mk x19 t22.Net]))*32<=140737488355328/\List.length p5.Rows+List.length ([bK.mk x19 t22.Net])<=9223372036854775807) <|
  some (.inl (t4,aP.mk p5.Span (p5.Rows++([bK.mk x19 t22.Net]))))))

def uY (t4:aP)(p5:aP)(yO:(List aK)):Option aP :=
  (nC (fun st t22=>rnd (fun (s:aP×aP)=>oT yO s.1 s.2 t22) st) yO (.inl (t4,p5))).bind (Sum.elim (fun (s:aP×aP) =>
  (some s.2))
  (fun (s:aP×aP) =>
  (none)))

def sM (l0:(List aK))(run1:(List Int)):Option aP :=
  bE (0<=(0:Int)/\(0:Int)<((List.length run1:Nat):Int)) <|
  bE (0<=(IntKind.i64.wrap (((List.length run1:Nat):Int)-(1:Int)))/\(IntKind.i64.wrap (((List.length run1:Nat):Int)-(1:Int)))<((List.length run1:Nat):Int)) <|
  (qU l0).bind fun x6 =>
  uY (aP.mk (bL.mk 0 0) ([])) (aP.mk (bL.mk (List.getD run1 (Int.toNat (0:Int)) default) (IntKind.i64.wrap ((List.getD run1 (Int.toNat (IntKind.i64.wrap (((List.length run1:Nat):Int)-(1:Int)))) default)+(1:Int)))) ([])) x6

def xC (kP:List aP):Option ((List aP)×Int) :=
  some (kP,(0:Int))

def mQ (l0:(List aK))(n1:Int)(lX:(List Int))(kP:List aP):Option (((List Int)×List aP)⊕((List aP))) :=
  cond (decide (n1<=((List.length lX:Nat):Int)))
  (bE (0<=n1/\n1<=n1/\n1<=((List.length lX:Nat):Int)) <|
  (sM l0 (List.take (Int.toNat n1) lX)).bind fun x20 =>
  bE ((List.length kP+List.length ([x20]))*40<=140737488355328/\List.length kP+List.length ([x20])<=9223372036854775807) <|
  bE (0<=(1:Int)/\(1:Int)<=((List.length lX:Nat):Int)) <|
  some (.inl (List.drop (Int.toNat (1:Int)) lX,kP++([x20]))))
  (some (.inr kP))

def xK (l0:(List aK))(n1:Int)(lX:(List Int))(kP:List aP):Option ((List aP)×Int) :=
  (lp (fun s=>mQ l0 n1 s.1 s.2) (lX,kP)).bind (fun rr=>xC rr)

def tV (l0:(List aK))(n1:Int)(nP:Int):Option ((List aP)×Int) :=
  (uI l0 n1).bind fun x1 =>
  cond (!decide (x1=(0:Int)))
  (some ([],x1))
  (cond ((decide (nP<(0:Int)))||(decide ((1125899906842624:Int)<nP)))
  (some ([],(13:Int)))
  ((pS l0).bind fun x6 =>
  (fR x6 nP).bind fun x9 =>
  bE (0<=x9.1/\x9.1<=((List.length x6:Nat):Int)/\((List.length x6:Nat):Int)<=((List.length x6:Nat):Int)/\((List.length x6:Nat):Int)<=((List.length x6:Nat):Int)) <|
  cond (decide ((1024:Int)<(IntKind.i64.wrap ((IntKind.i64.wrap (((List.length (List.drop (Int.toNat x9.1) (List.take (Int.toNat ((List.length x6:Nat):Int)) x6)):Nat):Int)-n1))+(1:Int)))))
  (some ([],(7:Int)))
  (xK l0 n1 (List.drop (Int.toNat x9.1) (List.take (Int.toNat ((List.length x6:Nat):Int)) x6)) ([]:List aP))))

def BU (out9:List Int):Option ((List Int)×Int) :=
  (gT out9).bind fun x16 =>
  some (x16,(0:Int))

def uG (t50:(List (Int×Int)))(out9:List Int)(mk:Int)(mv:Int):Option (List Int) :=
  bE ((List.length out9+List.length ([mk]))*8<=140737488355328/\List.length out9+List.length ([mk])<=9223372036854775807) <|
  some (out9++([mk]))

def BV (t50:(List (Int×Int)))(out9:List Int):Option ((List Int)×Int) :=
  BU out9

def BT (out9:List Int)(t50:(List (Int×Int))):Option ((List Int)×Int) :=
  uU t50 (fun q=>(dV (fun (s:List Int) (x:Int×Int)=>uG t50 s x.1 x.2) out9 q).bind (fun (s:List Int)=>BV t50 s))

def xT (lE:(List (Int×Int))):Option ((List Int)×Int) :=
  bE (0<=((List.length lE:Nat):Int)/\(8:Int)*((List.length lE:Nat):Int)<=281474976710656/\((List.length lE:Nat):Int)<=9223372036854775807) <|
  BT ([]:List Int) lE

def uL (iY:Int)(lE:(List (Int×Int)))(t32:(List aK))(t33:Int)(t34:Int):Option (((List (Int×Int))×Int)⊕((List (Int×Int)))) :=
  some (.inl (lE,IntKind.i64.wrap (t34+(1:Int))))

def pJ (iY:Int)(t32:(List aK))(t33:Int)(lE:(List (Int×Int)))(t34:Int):Option (((List (Int×Int))×Int)⊕((List (Int×Int)))) :=
  cond (decide (t34<t33))
  (bE (0<=t34/\t34<((List.length t32:Nat):Int)) <|
  cond (decide (iY<((List.getD t32 (Int.toNat t34) default).At)))
  (uL iY (fJ lE ((List.getD t32 (Int.toNat t34) default).At) (1:Int)) t32 t33 t34)
  (uL iY lE t32 t33 t34))
  (some (.inr lE))

def BK (iY:Int)(lE:(List (Int×Int)))(t32:(List aK))(t33:Int)(t34:Int):Option ((List Int)×Int) :=
  (lp (fun s=>pJ iY t32 t33 s.1 s.2) (lE,t34)).bind (fun rr=>xT rr)

def zM (l0:(List aK))(iY:Int):Option ((List Int)×Int) :=
  (qK l0).bind fun x1 =>
  cond (!x1)
  (some ([],(2:Int)))
  ((pO l0).bind fun x5 =>
  cond (!x5)
  (some ([],(20:Int)))
  (cond ((decide (iY<(0:Int)))||(decide ((1125899906842624:Int)<iY)))
  (some ([],(13:Int)))
  (cond (decide (iY=(1125899906842624:Int)))
  (some ([],(0:Int)))
  (BK iY (fJ ([]:(List (Int×Int))) iY (1:Int)) l0 ((List.length l0:Nat):Int) (0:Int)))))

def wW (out4:List bK):Option (List bK) :=
  some out4

def pT (t0:Int)(out4:List bK)(t9:(List cE))(t10:Int)(t11:Int):Option ((List bK×Int)⊕((List bK))) :=
  some (.inl (out4,IntKind.i64.wrap (t11+(1:Int))))

def nQ (t0:Int)(t9:(List cE))(t10:Int)(out4:List bK)(t11:Int):Option ((List bK×Int)⊕((List bK))) :=
  cond (decide (t11<t10))
  (bE (0<=t11/\t11<((List.length t9:Nat):Int)) <|
  (AW ((List.getD t9 (Int.toNat t11) default).jumps) t0).bind fun x9 =>
  cond (decide ((0:Int)<x9))
  ((gE ((List.getD t9 (Int.toNat t11) default).row)).bind fun x16 =>
  bE ((List.length out4+List.length ([bK.mk x16 x9]))*32<=140737488355328/\List.length out4+List.length ([bK.mk x16 x9])<=9223372036854775807) <|
  pT t0 (out4++([bK.mk x16 x9])) t9 t10 t11)
  (pT t0 out4 t9 t10 t11))
  (some (.inr out4))

def xA (t0:Int)(out4:List bK)(t9:(List cE))(t10:Int)(t11:Int):Option (List bK) :=
  (lp (fun s=>nQ t0 t9 t10 s.1 s.2) (out4,t11)).bind (fun rr=>wW rr)

def tI (t0:Int)(t1:(List cE)):Option (List bK) :=
  xA t0 ([]:List bK) t1 ((List.length t1:Nat):Int) (0:Int)

def oK (eX:(List Int))(yZ:(List aK))(all8:List cE)(t29:(List aG))(t30:(List aI)):Option ((List cE)⊕(List cE)) :=
  bE ((List.length all8+List.length ([cE.mk t29 t30]))*48<=140737488355328/\List.length all8+List.length ([cE.mk t29 t30])<=9223372036854775807) <|
  some (.inl (all8++([cE.mk t29 t30])))

def AG (eU:List aP):Option ((List aP)×Int) :=
  some (eU,(0:Int))

def vY (eX:(List Int))(gO:(List cE))(eU:List aP)(t39:(List Int))(t40:Int)(t41:Int):Option ((List aP×Int)⊕((List aP)⊕((List aP)×Int))) :=
  some (.inl (eU,IntKind.i64.wrap (t41+(1:Int))))

def vM (eX:(List Int))(gO:(List cE))(eU:List aP)(t14:Int)(uF:(List bK))(BB:Int)(t39:(List Int))(t40:Int)(t41:Int):Option ((List aP×Int)⊕((List aP)⊕((List aP)×Int))) :=
  bE ((List.length eU+List.length ([aP.mk (bL.mk t14 BB) uF]))*40<=140737488355328/\List.length eU+List.length ([aP.mk (bL.mk t14 BB) uF])<=9223372036854775807) <|
  vY eX gO (eU++([aP.mk (bL.mk t14 BB) uF])) t39 t40 t41

def oF (eX:(List Int))(gO:(List cE))(t39:(List Int))(t40:Int)(eU:List aP)(t41:Int):Option ((List aP×Int)⊕((List aP)⊕((List aP)×Int))) :=
  cond (decide (t41<t40))
  (bE (0<=t41/\t41<((List.length t39:Nat):Int)) <|
  (tI (List.getD t39 (Int.toNat t41) default) gO).bind fun x20 =>
  cond (decide (((List.length x20:Nat):Int)=(0:Int)))
  (vY eX gO eU t39 t40 t41)
  (cond (decide (((List.length eU:Nat):Int)=(1024:Int)))
  (some (.inr (.inr ([],(7:Int)))))
  (cond (decide ((IntKind.i64.wrap (t41+(1:Int)))<((List.length eX:Nat):Int)))
  (bE (0<=(IntKind.i64.wrap (t41+(1:Int)))/\(IntKind.i64.wrap (t41+(1:Int)))<((List.length eX:Nat):Int)) <|
  vM eX gO eU (List.getD t39 (Int.toNat t41) default) x20 (List.getD eX (Int.toNat (IntKind.i64.wrap (t41+(1:Int)))) default) t39 t40 t41)
  (vM eX gO eU (List.getD t39 (Int.toNat t41) default) x20 (1125899906842624:Int) t39 t40 t41))))
  (some (.inr (.inl eU)))

def wD (eX:(List Int))(gO:(List cE))(eU:List aP)(t39:(List Int))(t40:Int)(t41:Int):Option ((List aP)×Int) :=
  (lp (fun s=>oF eX gO t39 t40 s.1 s.2) (eU,t41)).bind (Sum.elim (fun rr=>AG rr) (fun rr=>some (rr.1,rr.2)))

def zW (eX:(List Int))(all8:List cE)(yZ:(List aK)):Option ((List aP)×Int) :=
  (nX (fun st t29 t30=>rnd (fun (s:List cE)=>oK eX yZ s t29 t30) st) yZ (.inl all8)).bind (Sum.elim (fun (s:List cE) =>
  (wD eX s ([]:List aP) eX ((List.length eX:Nat):Int) (0:Int)))
  (fun (s:List cE) =>
  (none)))

def yH (l0:(List aK))(iY:Int):Option ((List aP)×Int) :=
  (zM l0 iY).bind fun x1 =>
  cond (!decide (x1.2=(0:Int)))
  (some ([],x1.2))
  ((rZ l0).bind fun x7 =>
  zW x1.1 ([]:List cE) x7)

def uH (w0:bW)(l1:(List aK))(nP:Int)(t3:Int):Option ((List aP)×Int) :=
  (qW w0 l1 t3).bind fun x1 =>
  cond (!decide (x1=(0:Int)))
  (some ([],x1))
  (cond (decide (w0.Kind=(2:Int)))
  ((uE l1 t3).bind fun x6 =>
  (zE l1 w0.Size w0.Hop nP x6).bind fun x9 =>
  some (x9.1,x9.2))
  (cond (decide (w0.Kind=(3:Int)))
  ((tV l1 w0.Size nP).bind fun x13 =>
  some (x13.1,x13.2))
  ((yH l1 nP).bind fun x16 =>
  some (x16.1,x16.2))))

def tP  : Option Bool :=
  (qX (bW.mk (2:Int) (10:Int) (5:Int)) ([aK.mk ([aG.mk (1:Int) (1:Int) ByteArray.empty]) (3:Int) (1:Int),aK.mk ([aG.mk (1:Int) (1:Int) ByteArray.empty]) (7:Int) (-1:Int)]) (12:Int)).bind fun x2 =>
  (uH (bW.mk (2:Int) (10:Int) (5:Int)) ([aK.mk ([aG.mk (1:Int) (1:Int) ByteArray.empty]) (3:Int) (1:Int),aK.mk ([aG.mk (1:Int) (1:Int) ByteArray.empty]) (7:Int) (-1:Int)]) (0:Int) (2:Int)).bind fun x5 =>
  bE (((((((decide (x2.1=(5:Int)))&&(decide (x2.2=(0:Int))))&&(decide (x5.2=(0:Int))))&&(decide (((List.length x5.1:Nat):Int)=(1:Int)))))=true->0<=(0:Int)/\(0:Int)<((List.length x5.1:Nat):Int))) <|
  (cW (((((decide (x2.1=(5:Int)))&&(decide (x2.2=(0:Int))))&&(decide (x5.2=(0:Int))))&&(decide (((List.length x5.1:Nat):Int)=(1:Int))))&&((decide ((((List.getD x5.1 (Int.toNat (0:Int)) default).Span).From)=((bL.mk 0 (10:Int)).From)))&&((decide ((((List.getD x5.1 (Int.toNat (0:Int)) default).Span).To)=((bL.mk 0 (10:Int)).To)))&&true))) (oV (bW.mk 0 0 0))).bind fun x9 =>
  some ((((((decide (x2.1=(5:Int)))&&(decide (x2.2=(0:Int))))&&(decide (x5.2=(0:Int))))&&(decide (((List.length x5.1:Nat):Int)=(1:Int))))&&((decide ((((List.getD x5.1 (Int.toNat (0:Int)) default).Span).From)=((bL.mk 0 (10:Int)).From)))&&((decide ((((List.getD x5.1 (Int.toNat (0:Int)) default).Span).To)=((bL.mk 0 (10:Int)).To)))&&true)))&&(decide (x9=(2:Int))))

def qO (dF:Int)(hop1:Int):Option Bool :=
  some ((((decide ((0:Int)<dF))&&(decide (dF<=(1099511627776:Int))))&&(decide ((0:Int)<hop1)))&&(decide (hop1<=(1099511627776:Int))))

def wL (w0:bW):Option Bool :=
  cond (decide (w0.Kind=(2:Int)))
  ((qO w0.Size w0.Hop).bind fun x2 =>
  some x2)
  (cond (!decide (w0.Hop=(0:Int)))
  (some false)
  (some (((decide (w0.Kind=(1:Int)))&&(decide (w0.Size=(0:Int))))||(((decide (w0.Kind=(3:Int)))&&(decide ((0:Int)<w0.Size)))&&(decide (w0.Size<=(64:Int)))))))

def sU (v0:aG):Option Bool :=
  cond (decide (v0.Kind=(1:Int)))
  (some (pE v0.Text (⟨#[]⟩:ByteArray)))
  (some (((decide (v0.Kind=(2:Int)))&&(decide (v0.Num=(0:Int))))&&(decide (((ByteArray.size v0.Text:Nat):Int)<=(64:Int)))))

def uA (r0:(List aG)):Option Bool :=
  some (decide (((List.length r0:Nat):Int)<=(8:Int)))

def rO (r0:(List aG))(i3:Int):Option ((Int)⊕(Unit⊕Bool)) :=
  cond ((decide (i3<((List.length r0:Nat):Int)))&&(decide (i3<(9:Int))))
  (bE (0<=i3/\i3<((List.length r0:Nat):Int)) <|
  (sU (List.getD r0 (Int.toNat i3) default)).bind fun x3 =>
  cond (!x3)
  (some (.inr (.inr false)))
  (some (.inl (IntKind.i64.wrap (i3+(1:Int))))))
  (some (.inr (.inl ())))

def BS (r0:(List aG))(i3:Int):Option Bool :=
  (lp (fun s=>rO r0 s) i3).bind (Sum.elim (fun rr=>uA r0) (fun rr=>some rr))

def sW (r0:(List aG)):Option Bool :=
  BS r0 (0:Int)

def xV  : Option Bool :=
  some true

def mT (f0:(List aI))(i3:Int):Option ((Int)⊕(Unit⊕Bool)) :=
  cond (decide (i3<((List.length f0:Nat):Int)))
  (bE (0<=i3/\i3<((List.length f0:Nat):Int)) <|
  bE ((((!(decide (((List.getD f0 (Int.toNat i3) default).At)<(-1:Int)))))=true->0<=i3/\i3<((List.length f0:Nat):Int))) <|
  bE ((((!((decide (((List.getD f0 (Int.toNat i3) default).At)<(-1:Int)))||(decide ((1125899906842624:Int)<=((List.getD f0 (Int.toNat i3) default).At))))))=true->0<=i3/\i3<((List.length f0:Nat):Int))) <|
  bE ((((!(((decide (((List.getD f0 (Int.toNat i3) default).At)<(-1:Int)))||(decide ((1125899906842624:Int)<=((List.getD f0 (Int.toNat i3) default).At))))||(decide (((List.getD f0 (Int.toNat i3) default).Net)=(0:Int))))))=true->0<=i3/\i3<((List.length f0:Nat):Int))) <|
  bE ((((!((((decide (((List.getD f0 (Int.toNat i3) default).At)<(-1:Int)))||(decide ((1125899906842624:Int)<=((List.getD f0 (Int.toNat i3) default).At))))||(decide (((List.getD f0 (Int.toNat i3) default).Net)=(0:Int))))||(decide ((1048576:Int)<((List.getD f0 (Int.toNat i3) default).Net))))))=true->0<=i3/\i3<((List.length f0:Nat):Int))) <|
  cond (((((decide (((List.getD f0 (Int.toNat i3) default).At)<(-1:Int)))||(decide ((1125899906842624:Int)<=((List.getD f0 (Int.toNat i3) default).At))))||(decide (((List.getD f0 (Int.toNat i3) default).Net)=(0:Int))))||(decide ((1048576:Int)<((List.getD f0 (Int.toNat i3) default).Net))))||(decide (((List.getD f0 (Int.toNat i3) default).Net)<(-1048576:Int))))
  (some (.inr (.inr false)))
  (bE ((((decide ((0:Int)<i3)))=true->0<=i3/\i3<((List.length f0:Nat):Int))) <|
  bE ((((decide ((0:Int)<i3)))=true->0<=(IntKind.i64.wrap (i3-(1:Int)))/\(IntKind.i64.wrap (i3-(1:Int)))<((List.length f0:Nat):Int))) <|
  cond ((decide ((0:Int)<i3))&&(decide (((List.getD f0 (Int.toNat i3) default).At)<=((List.getD f0 (Int.toNat (IntKind.i64.wrap (i3-(1:Int)))) default).At))))
  (some (.inr (.inr false)))
  (some (.inl (IntKind.i64.wrap (i3+(1:Int)))))))
  (some (.inr (.inl ())))

def BH (f0:(List aI))(i3:Int):Option Bool :=
  (lp (fun s=>mT f0 s) i3).bind (Sum.elim (fun rr=>xV ) (fun rr=>some rr))

def tA (f0:(List aI)):Option Bool :=
  cond (decide ((1024:Int)<((List.length f0:Nat):Int)))
  (some false)
  (BH f0 (0:Int))

def rI (a2:aG)(b3:aG):Option Int :=
  cond (!decide (((ByteArray.size a2.Text:Nat):Int)=((ByteArray.size b3.Text:Nat):Int)))
  (cond (decide (((ByteArray.size a2.Text:Nat):Int)<((ByteArray.size b3.Text:Nat):Int)))
  (some (-1:Int))
  (some (1:Int)))
  (some (0:Int))

def jM (a2:aG)(b3:aG)(i5:Int):Option ((Int)⊕(Unit⊕Int)) :=
  cond ((decide (i5<((ByteArray.size a2.Text:Nat):Int)))&&(decide (i5<((ByteArray.size b3.Text:Nat):Int))))
  (bE (0<=i5/\i5<((ByteArray.size a2.Text:Nat):Int)) <|
  bE (0<=i5/\i5<((ByteArray.size b3.Text:Nat):Int)) <|
  cond (!decide ((bt a2.Text i5)=(bt b3.Text i5)))
  (bE (0<=i5/\i5<((ByteArray.size a2.Text:Nat):Int)) <|
  bE (0<=i5/\i5<((ByteArray.size b3.Text:Nat):Int)) <|
  cond (decide ((bt a2.Text i5)<(bt b3.Text i5)))
  (some (.inr (.inr (-1:Int))))
  (some (.inr (.inr (1:Int)))))
  (some (.inl (IntKind.i64.wrap (i5+(1:Int))))))
  (some (.inr (.inl ())))

def uV (a2:aG)(b3:aG)(i5:Int):Option Int :=
  (lp (fun s=>jM a2 b3 s) i5).bind (Sum.elim (fun rr=>rI a2 b3) (fun rr=>some rr))

def sQ (a0:aG)(b1:aG):Option Int :=
  (sU a0).bind fun x1 =>
  (cW (!(!x1)) (sU b1)).bind fun x4 =>
  cond ((!x1)||(!x4))
  (some (0:Int))
  (cond (!decide (a0.Kind=b1.Kind))
  (cond (decide (a0.Kind=(1:Int)))
  (some (-1:Int))
  (some (1:Int)))
  (cond (!decide (a0.Num=b1.Num))
  (cond (decide (a0.Num<b1.Num))
  (some (-1:Int))
  (some (1:Int)))
  (uV a0 b1 (0:Int))))

def rA (a0:(List aG))(b1:(List aG)):Option Int :=
  cond (decide (((List.length a0:Nat):Int)<((List.length b1:Nat):Int)))
  (some (-1:Int))
  (cond (decide (((List.length b1:Nat):Int)<((List.length a0:Nat):Int)))
  (some (1:Int))
  (some (0:Int)))

def jP (a0:(List aG))(b1:(List aG))(i5:Int):Option ((Int)⊕(Unit⊕Int)) :=
  cond ((decide (i5<((List.length a0:Nat):Int)))&&(decide (i5<((List.length b1:Nat):Int))))
  (bE (0<=i5/\i5<((List.length a0:Nat):Int)) <|
  bE (0<=i5/\i5<((List.length b1:Nat):Int)) <|
  (sQ (List.getD a0 (Int.toNat i5) default) (List.getD b1 (Int.toNat i5) default)).bind fun x13 =>
  cond (!decide (x13=(0:Int)))
  (some (.inr (.inr x13)))
  (some (.inl (IntKind.i64.wrap (i5+(1:Int))))))
  (some (.inr (.inl ())))

def vG (a0:(List aG))(b1:(List aG))(i5:Int):Option Int :=
  (lp (fun s=>jP a0 b1 s) i5).bind (Sum.elim (fun rr=>rA a0 b1) (fun rr=>some rr))

def pW (a0:(List aG))(b1:(List aG)):Option Int :=
  (sW a0).bind fun x1 =>
  (cW (!(!x1)) (sW b1)).bind fun x4 =>
  cond ((!x1)||(!x4))
  (some (0:Int))
  (vG a0 b1 (0:Int))

def vZ  : Option Bool :=
  some true

def rW (a0:(List aG))(b1:(List aG))(i5:Int):Option ((Int)⊕(Unit⊕Bool)) :=
  cond (decide (i5<((List.length a0:Nat):Int)))
  (bE (0<=i5/\i5<((List.length a0:Nat):Int)) <|
  bE (0<=i5/\i5<((List.length b1:Nat):Int)) <|
  cond (!((decide (((List.getD a0 (Int.toNat i5) default).Kind)=((List.getD b1 (Int.toNat i5) default).Kind)))&&((decide (((List.getD a0 (Int.toNat i5) default).Num)=((List.getD b1 (Int.toNat i5) default).Num)))&&((pE ((List.getD a0 (Int.toNat i5) default).Text) ((List.getD b1 (Int.toNat i5) default).Text))&&true))))
  (some (.inr (.inr false)))
  (some (.inl (IntKind.i64.wrap (i5+(1:Int))))))
  (some (.inr (.inl ())))

def AA (a0:(List aG))(b1:(List aG))(i5:Int):Option Bool :=
  (lp (fun s=>rW a0 b1 s) i5).bind (Sum.elim (fun rr=>vZ ) (fun rr=>some rr))

def tK (a0:(List aG))(b1:(List aG)):Option Bool :=
  cond (!decide (((List.length a0:Nat):Int)=((List.length b1:Nat):Int)))
  (some false)
  (AA a0 b1 (0:Int))

def AF (bQ:List (List aG)):Option (List (List aG)) :=
  some bQ

def wB (l0:(List aK))(bQ:List (List aG))(i4:Int):Option ((List (List aG)×Int)⊕((List (List aG)))) :=
  some (.inl (bQ,IntKind.i64.wrap (i4+(1:Int))))

def vQ (l0:(List aK))(bQ:List (List aG))(i4:Int)(at5:Int):Option ((List (List aG)×Int)⊕((List (List aG)))) :=
  bE ((((decide (at5<((List.length bQ:Nat):Int))))=true->0<=at5/\at5<((List.length bQ:Nat):Int))) <|
  bE ((((decide (at5<((List.length bQ:Nat):Int))))=true->0<=i4/\i4<((List.length l0:Nat):Int))) <|
  (cW (decide (at5<((List.length bQ:Nat):Int))) (tK (List.getD bQ (Int.toNat at5) default) ((List.getD l0 (Int.toNat i4) default).Row))).bind fun x10 =>
  cond ((decide (at5<((List.length bQ:Nat):Int)))&&x10)
  (wB l0 bQ i4)
  (bE (0<=at5/\at5<=((List.length bQ:Nat):Int)) <|
  bE (List.length (List.take (Int.toNat at5) bQ)*24<=140737488355328/\List.length (List.take (Int.toNat at5) bQ)<=9223372036854775807) <|
  bE (0<=i4/\i4<((List.length l0:Nat):Int)) <|
  bE ((List.length (List.take (Int.toNat at5) bQ)+List.length ([(List.getD l0 (Int.toNat i4) default).Row]))*24<=140737488355328/\List.length (List.take (Int.toNat at5) bQ)+List.length ([(List.getD l0 (Int.toNat i4) default).Row])<=9223372036854775807) <|
  bE (0<=at5/\at5<=((List.length bQ:Nat):Int)) <|
  bE ((List.length ((List.take (Int.toNat at5) bQ)++([(List.getD l0 (Int.toNat i4) default).Row]))+List.length (List.drop (Int.toNat at5) bQ))*24<=140737488355328/\List.length ((List.take (Int.toNat at5) bQ)++([(List.getD l0 (Int.toNat i4) default).Row]))+List.length (List.drop (Int.toNat at5) bQ)<=9223372036854775807) <|
  wB l0 (((List.take (Int.toNat at5) bQ)++([(List.getD l0 (Int.toNat i4) default).Row]))++(List.drop (Int.toNat at5) bQ)) i4)

def mX (l0:(List aK))(i4:Int)(bQ:List (List aG))(at5:Int):Option ((List (List aG)×Int)⊕((List (List aG)×Int))) :=
  bE ((((decide (at5<((List.length bQ:Nat):Int))))=true->0<=at5/\at5<((List.length bQ:Nat):Int))) <|
  bE ((((decide (at5<((List.length bQ:Nat):Int))))=true->0<=i4/\i4<((List.length l0:Nat):Int))) <|
  (cW (decide (at5<((List.length bQ:Nat):Int))) (pW (List.getD bQ (Int.toNat at5) default) ((List.getD l0 (Int.toNat i4) default).Row))).bind fun x27 =>
  cond ((decide (at5<((List.length bQ:Nat):Int)))&&(decide (x27<(0:Int))))
  (some (.inl (bQ,IntKind.i64.wrap (at5+(1:Int)))))
  (some (.inr (bQ,at5)))

def zY (l0:(List aK))(bQ:List (List aG))(i4:Int)(at5:Int):Option ((List (List aG)×Int)⊕((List (List aG)))) :=
  (lp (fun s=>mX l0 i4 s.1 s.2) (bQ,at5)).bind (fun rr=>vQ l0 rr.1 i4 rr.2)

def oM (l0:(List aK))(bQ:List (List aG))(i4:Int):Option ((List (List aG)×Int)⊕((List (List aG)))) :=
  cond (decide (i4<((List.length l0:Nat):Int)))
  (zY l0 bQ i4 (0:Int))
  (some (.inr bQ))

def AE (l0:(List aK))(bQ:List (List aG))(i4:Int):Option (List (List aG)) :=
  (lp (fun s=>oM l0 s.1 s.2) (bQ,i4)).bind (fun rr=>AF rr)

def uB (l0:(List aK)):Option (List (List aG)) :=
  AE l0 ([]:List (List aG)) (0:Int)

def yW (f5:List aI):Option (List aI) :=
  some f5

def uJ (l0:(List aK))(r1:(List aG))(f5:List aI)(i6:Int):Option ((List aI×Int)⊕((List aI))) :=
  some (.inl (f5,IntKind.i64.wrap (i6+(1:Int))))

def nG (l0:(List aK))(r1:(List aG))(f5:List aI)(i6:Int):Option ((List aI×Int)⊕((List aI))) :=
  cond (decide (i6<((List.length l0:Nat):Int)))
  (bE (0<=i6/\i6<((List.length l0:Nat):Int)) <|
  (tK ((List.getD l0 (Int.toNat i6) default).Row) r1).bind fun x8 =>
  cond x8
  (bE (0<=i6/\i6<((List.length l0:Nat):Int)) <|
  bE (0<=i6/\i6<((List.length l0:Nat):Int)) <|
  bE ((List.length f5+List.length ([aI.mk ((List.getD l0 (Int.toNat i6) default).At) ((List.getD l0 (Int.toNat i6) default).Net)]))*16<=140737488355328/\List.length f5+List.length ([aI.mk ((List.getD l0 (Int.toNat i6) default).At) ((List.getD l0 (Int.toNat i6) default).Net)])<=9223372036854775807) <|
  uJ l0 r1 (f5++([aI.mk ((List.getD l0 (Int.toNat i6) default).At) ((List.getD l0 (Int.toNat i6) default).Net)])) i6)
  (uJ l0 r1 f5 i6))
  (some (.inr f5))

def yK (l0:(List aK))(r1:(List aG))(f5:List aI)(i6:Int):Option (List aI) :=
  (lp (fun s=>nG l0 r1 s.1 s.2) (f5,i6)).bind (fun rr=>yW rr)

def sE (l0:(List aK))(r1:(List aG)):Option (List aI) :=
  yK l0 r1 ([]:List aI) (0:Int)

def BI  : Option Bool :=
  some true

def rL (l0:(List aK))(tG:(List (List aG)))(i6:Int):Option ((Int)⊕(Unit⊕Bool)) :=
  cond (decide (i6<((List.length tG:Nat):Int)))
  (bE (0<=i6/\i6<((List.length tG:Nat):Int)) <|
  (sE l0 (List.getD tG (Int.toNat i6) default)).bind fun x7 =>
  cond (decide ((1024:Int)<((List.length x7:Nat):Int)))
  (some (.inr (.inr false)))
  (some (.inl (IntKind.i64.wrap (i6+(1:Int))))))
  (some (.inr (.inl ())))

def BD (l0:(List aK))(tG:(List (List aG)))(i6:Int):Option Bool :=
  (lp (fun s=>rL l0 tG s) i6).bind (Sum.elim (fun rr=>BI ) (fun rr=>some rr))

def yI (l0:(List aK)):Option Bool :=
  (uB l0).bind fun x2 =>
  BD l0 x2 (0:Int)

def tO (l0:(List aK))(i3:Int):Option ((Int)⊕(Unit⊕Bool)) :=
  some (.inl (IntKind.i64.wrap (i3+(1:Int))))

def pM (l0:(List aK))(i3:Int):Option ((Int)⊕(Unit⊕Bool)) :=
  cond (decide (i3<((List.length l0:Nat):Int)))
  (bE (0<=i3/\i3<((List.length l0:Nat):Int)) <|
  (sW ((List.getD l0 (Int.toNat i3) default).Row)).bind fun x13 =>
  bE ((((!(!x13)))=true->0<=i3/\i3<((List.length l0:Nat):Int))) <|
  bE ((((!(!x13)))=true->0<=i3/\i3<((List.length l0:Nat):Int))) <|
  (cW (!(!x13)) (tA ([aI.mk ((List.getD l0 (Int.toNat i3) default).At) ((List.getD l0 (Int.toNat i3) default).Net)]))).bind fun x17 =>
  cond ((!x13)||(!x17))
  (some (.inr (.inr false)))
  (cond (decide (i3=(0:Int)))
  (tO l0 i3)
  (bE (0<=(IntKind.i64.wrap (i3-(1:Int)))/\(IntKind.i64.wrap (i3-(1:Int)))<((List.length l0:Nat):Int)) <|
  bE (0<=i3/\i3<((List.length l0:Nat):Int)) <|
  (pW ((List.getD l0 (Int.toNat (IntKind.i64.wrap (i3-(1:Int)))) default).Row) ((List.getD l0 (Int.toNat i3) default).Row)).bind fun x24 =>
  bE ((((decide (x24=(0:Int)))&&(!(decide ((0:Int)<x24))))=true->0<=(IntKind.i64.wrap (i3-(1:Int)))/\(IntKind.i64.wrap (i3-(1:Int)))<((List.length l0:Nat):Int))) <|
  bE ((((decide (x24=(0:Int)))&&(!(decide ((0:Int)<x24))))=true->0<=i3/\i3<((List.length l0:Nat):Int))) <|
  cond ((decide ((0:Int)<x24))||((decide (x24=(0:Int)))&&(decide (((List.getD l0 (Int.toNat i3) default).At)<=((List.getD l0 (Int.toNat (IntKind.i64.wrap (i3-(1:Int)))) default).At)))))
  (some (.inr (.inr false)))
  (tO l0 i3))))
  (some (.inr (.inl ())))

def CB (l0:(List aK))(i3:Int):Option Bool :=
  (lp (fun s=>pM l0 s) i3).bind (Sum.elim (fun rr=>yI l0) (fun rr=>some rr))

def sX (l0:(List aK)):Option Bool :=
  cond (decide ((4096:Int)<((List.length l0:Nat):Int)))
  (some false)
  (CB l0 (0:Int))

def tR (v5:Int):Option Int :=
  some v5

def qS (f0:(List aI))(t1:Int)(v5:Int)(i6:Int):Option ((Int×Int)⊕(Int)) :=
  some (.inl (v5,IntKind.i64.wrap (i6+(1:Int))))

def kX (f0:(List aI))(t1:Int)(v5:Int)(i6:Int):Option ((Int×Int)⊕(Int)) :=
  cond (decide (i6<((List.length f0:Nat):Int)))
  (bE (0<=i6/\i6<((List.length f0:Nat):Int)) <|
  cond (decide (((List.getD f0 (Int.toNat i6) default).At)<=t1))
  (bE (0<=i6/\i6<((List.length f0:Nat):Int)) <|
  qS f0 t1 (IntKind.i64.wrap (v5+((List.getD f0 (Int.toNat i6) default).Net))) i6)
  (qS f0 t1 v5 i6))
  (some (.inr v5))

def yQ (f0:(List aI))(t1:Int)(v5:Int)(i6:Int):Option Int :=
  (lp (fun s=>kX f0 t1 s.1 s.2) (v5,i6)).bind (fun rr=>tR rr)

def oL (f0:(List aI))(t1:Int):Option Int :=
  yQ f0 t1 (0:Int) (0:Int)

def tY (m3:Int):Option Int :=
  some m3

def tT (f0:(List aI))(m3:Int)(i4:Int):Option ((Int×Int)⊕(Int)) :=
  some (.inl (m3,IntKind.i64.wrap (i4+(1:Int))))

def nF (f0:(List aI))(m3:Int)(i4:Int):Option ((Int×Int)⊕(Int)) :=
  cond (decide (i4<((List.length f0:Nat):Int)))
  (bE (0<=i4/\i4<((List.length f0:Nat):Int)) <|
  (oL f0 ((List.getD f0 (Int.toNat i4) default).At)).bind fun x10 =>
  cond (decide (x10<m3))
  (bE (0<=i4/\i4<((List.length f0:Nat):Int)) <|
  (oL f0 ((List.getD f0 (Int.toNat i4) default).At)).bind fun x15 =>
  tT f0 x15 i4)
  (tT f0 m3 i4))
  (some (.inr m3))

def yS (f0:(List aI))(m3:Int)(i4:Int):Option Int :=
  (lp (fun s=>nF f0 s.1 s.2) (m3,i4)).bind (fun rr=>tY rr)

def vS (f0:(List aI)):Option Int :=
  (tA f0).bind fun x1 =>
  cond (!x1)
  (some (0:Int))
  ((oL f0 (-1:Int)).bind fun x5 =>
  yS f0 x5 (0:Int))

def yY  : Option Bool :=
  some true

def oW (l0:(List aK))(bQ:(List (List aG)))(i4:Int):Option ((Int)⊕(Unit⊕Bool)) :=
  cond (decide (i4<((List.length bQ:Nat):Int)))
  (bE (0<=i4/\i4<((List.length bQ:Nat):Int)) <|
  (sE l0 (List.getD bQ (Int.toNat i4) default)).bind fun x10 =>
  (vS x10).bind fun x13 =>
  cond (decide (x13<(0:Int)))
  (some (.inr (.inr false)))
  (some (.inl (IntKind.i64.wrap (i4+(1:Int))))))
  (some (.inr (.inl ())))

def yN (l0:(List aK))(bQ:(List (List aG)))(i4:Int):Option Bool :=
  (lp (fun s=>oW l0 bQ s) i4).bind (Sum.elim (fun rr=>yY ) (fun rr=>some rr))

def rX (l0:(List aK)):Option Bool :=
  (sX l0).bind fun x1 =>
  cond (!x1)
  (some false)
  ((uB l0).bind fun x5 =>
  yN l0 x5 (0:Int))

def pK (t0:Int):Option Bool :=
  some ((decide ((0:Int)<=t0))&&(decide (t0<=(1125899906842624:Int))))

def wA (w0:bW)(l1:(List aK))(t2:Int):Option Int :=
  (wL w0).bind fun x1 =>
  (cW (!(!x1)) (sX l1)).bind fun x4 =>
  cond ((!x1)||(!x4))
  (some (2:Int))
  ((rX l1).bind fun x8 =>
  cond (!x8)
  (some (20:Int))
  ((pK t2).bind fun x12 =>
  cond (!x12)
  (some (13:Int))
  (some (0:Int))))

def sH (l0:(List aK))(n1:Int):Option Int :=
  (sX l0).bind fun x1 =>
  cond (((!x1)||(decide (n1<(1:Int))))||(decide ((64:Int)<n1)))
  (some (2:Int))
  ((rX l0).bind fun x5 =>
  cond (!x5)
  (some (20:Int))
  (some (0:Int)))

def sG (out5:List Int):Option (List Int) :=
  some out5

def sC (t1:Int)(out5:List Int)(put6:Bool):Option (List Int) :=
  cond (!put6)
  (bE ((List.length out5+List.length ([t1]))*8<=140737488355328/\List.length out5+List.length ([t1])<=9223372036854775807) <|
  sG (out5++([t1])))
  (sG out5)

def vX (l0:(List Int))(t1:Int)(out5:List Int)(put6:Bool)(i7:Int):Option ((List Int×Bool×Int)⊕((List Int×Bool)⊕(List Int))) :=
  bE (0<=i7/\i7<((List.length l0:Nat):Int)) <|
  bE ((List.length out5+List.length ([List.getD l0 (Int.toNat i7) default]))*8<=140737488355328/\List.length out5+List.length ([List.getD l0 (Int.toNat i7) default])<=9223372036854775807) <|
  some (.inl (out5++([List.getD l0 (Int.toNat i7) default]),put6,IntKind.i64.wrap (i7+(1:Int))))

def kF (l0:(List Int))(t1:Int)(out5:List Int)(put6:Bool)(i7:Int):Option ((List Int×Bool×Int)⊕((List Int×Bool)⊕(List Int))) :=
  cond (decide (i7<((List.length l0:Nat):Int)))
  (bE (0<=i7/\i7<((List.length l0:Nat):Int)) <|
  cond (decide ((List.getD l0 (Int.toNat i7) default)=t1))
  (some (.inr (.inr l0)))
  (bE (0<=i7/\i7<((List.length l0:Nat):Int)) <|
  cond ((decide (t1<(List.getD l0 (Int.toNat i7) default)))&&(!put6))
  (bE ((List.length out5+List.length ([t1]))*8<=140737488355328/\List.length out5+List.length ([t1])<=9223372036854775807) <|
  vX l0 t1 (out5++([t1])) true i7)
  (vX l0 t1 out5 put6 i7)))
  (some (.inr (.inl (out5,put6))))

def AI (l0:(List Int))(t1:Int)(out5:List Int)(put6:Bool)(i7:Int):Option (List Int) :=
  (lp (fun s=>kF l0 t1 s.1 s.2.1 s.2.2) (out5,put6,i7)).bind (Sum.elim (fun rr=>sC t1 rr.1 rr.2) (fun rr=>some rr))

def xL (l0:(List Int))(t1:Int):Option (List Int) :=
  AI l0 t1 ([]:List Int) false (0:Int)

def xI (out5:(List Int)):Option ((List Int)×Int) :=
  some (out5,(0:Int))

def pX (l0:(List aK))(out5:(List Int))(i6:Int):Option (((List Int)×Int)⊕((List Int))) :=
  some (.inl (out5,IntKind.i64.wrap (i6+(1:Int))))

def mO (l0:(List aK))(out5:(List Int))(i6:Int):Option (((List Int)×Int)⊕((List Int))) :=
  cond (decide (i6<((List.length l0:Nat):Int)))
  (bE (0<=i6/\i6<((List.length l0:Nat):Int)) <|
  bE ((((decide ((0:Int)<((List.getD l0 (Int.toNat i6) default).Net))))=true->0<=i6/\i6<((List.length l0:Nat):Int))) <|
  cond ((decide ((0:Int)<((List.getD l0 (Int.toNat i6) default).Net)))&&(decide ((0:Int)<=((List.getD l0 (Int.toNat i6) default).At))))
  (bE (0<=i6/\i6<((List.length l0:Nat):Int)) <|
  (xL out5 ((List.getD l0 (Int.toNat i6) default).At)).bind fun x11 =>
  pX l0 x11 i6)
  (pX l0 out5 i6))
  (some (.inr out5))

def wZ (l0:(List aK))(out5:(List Int))(i6:Int):Option ((List Int)×Int) :=
  (lp (fun s=>mO l0 s.1 s.2) (out5,i6)).bind (fun rr=>xI rr)

def uC (l0:(List aK)):Option ((List Int)×Int) :=
  (sH l0 (1:Int)).bind fun x1 =>
  cond (!decide (x1=(0:Int)))
  (some ([],x1))
  (wZ l0 ([]) (0:Int))

def wC (n1:Int)(t2:Int)(dD:List Int):Option (Int×Int) :=
  cond (((decide (t2=(1125899906842624:Int)))||(decide (((List.length dD:Nat):Int)=(0:Int))))||(decide (n1=(1:Int))))
  (some (t2,(0:Int)))
  (cond (decide ((IntKind.i64.wrap (n1-(1:Int)))<=((List.length dD:Nat):Int)))
  (bE (0<=(IntKind.i64.wrap (((List.length dD:Nat):Int)-(IntKind.i64.wrap (n1-(1:Int)))))/\(IntKind.i64.wrap (((List.length dD:Nat):Int)-(IntKind.i64.wrap (n1-(1:Int)))))<((List.length dD:Nat):Int)) <|
  some (List.getD dD (Int.toNat (IntKind.i64.wrap (((List.length dD:Nat):Int)-(IntKind.i64.wrap (n1-(1:Int)))))) default,(0:Int)))
  (bE (0<=(0:Int)/\(0:Int)<((List.length dD:Nat):Int)) <|
  some (List.getD dD (Int.toNat (0:Int)) default,(0:Int))))

def rY (n1:Int)(t2:Int)(all9:(List Int))(dD:List Int)(i12:Int):Option ((List Int×Int)⊕((List Int))) :=
  some (.inl (dD,IntKind.i64.wrap (i12+(1:Int))))

def oH (n1:Int)(t2:Int)(all9:(List Int))(dD:List Int)(i12:Int):Option ((List Int×Int)⊕((List Int))) :=
  cond (decide (i12<((List.length all9:Nat):Int)))
  (bE (0<=i12/\i12<((List.length all9:Nat):Int)) <|
  cond (decide ((List.getD all9 (Int.toNat i12) default)<t2))
  (bE (0<=i12/\i12<((List.length all9:Nat):Int)) <|
  bE ((List.length dD+List.length ([List.getD all9 (Int.toNat i12) default]))*8<=140737488355328/\List.length dD+List.length ([List.getD all9 (Int.toNat i12) default])<=9223372036854775807) <|
  rY n1 t2 all9 (dD++([List.getD all9 (Int.toNat i12) default])) i12)
  (rY n1 t2 all9 dD i12))
  (some (.inr dD))

def AJ (n1:Int)(t2:Int)(all9:(List Int))(dD:List Int)(i12:Int):Option (Int×Int) :=
  (lp (fun s=>oH n1 t2 all9 s.1 s.2) (dD,i12)).bind (fun rr=>wC n1 t2 rr)

def xQ (l0:(List aK))(n1:Int)(t2:Int):Option (Int×Int) :=
  (sH l0 n1).bind fun x1 =>
  cond (!decide (x1=(0:Int)))
  (some ((0:Int),x1))
  ((pK t2).bind fun x5 =>
  cond (!x5)
  (some ((0:Int),(13:Int)))
  ((uC l0).bind fun x9 =>
  AJ n1 t2 x9.1 ([]:List Int) (0:Int)))

def wQ (dF:Int)(t1:Int):Option Int :=
  cond (decide ((1125899906842624:Int)<(IntKind.i64.wrap (t1+dF))))
  (some (1125899906842624:Int))
  (some (IntKind.i64.wrap (t1+dF)))

def sD (hop1:Int)(k8:Int):Option (Int×Int) :=
  cond (decide ((1125899906842624:Int)<=(IntKind.i64.wrap (k8*hop1))))
  (some ((1125899906842624:Int),(0:Int)))
  (some (IntKind.i64.wrap (k8*hop1),(0:Int)))

def mC (dF:Int)(hop1:Int)(t2:Int)(k8:Int):Option ((Int)⊕(Int)) :=
  (wQ dF (IntKind.i64.wrap (k8*hop1))).bind fun x12 =>
  cond ((decide (x12<=t2))&&(decide ((IntKind.i64.wrap (k8*hop1))<(1125899906842624:Int))))
  (some (.inl (IntKind.i64.wrap (k8+(1:Int)))))
  (some (.inr k8))

def DT (dF:Int)(hop1:Int)(t2:Int)(k8:Int):Option (Int×Int) :=
  (lp (fun s=>mC dF hop1 t2 s) k8).bind (fun rr=>sD hop1 rr)

def zZ (dF:Int)(hop1:Int)(t2:Int)(k8:Int):Option (Int×Int) :=
  DT dF hop1 t2 k8

def xS (dF:Int)(hop1:Int)(t2:Int):Option (Int×Int) :=
  (qO dF hop1).bind fun x1 =>
  cond (!x1)
  (some ((0:Int),(2:Int)))
  ((pK t2).bind fun x5 =>
  cond (!x5)
  (some ((0:Int),(13:Int)))
  (cond (decide (t2=(1125899906842624:Int)))
  (some ((1125899906842624:Int),(0:Int)))
  (bE (hop1≠0) <|
  cond (decide ((IntKind.i64.wrap (Int.tdiv (IntKind.i64.wrap (t2-dF)) hop1))<(0:Int)))
  (zZ dF hop1 t2 (0:Int))
  (zZ dF hop1 t2 (IntKind.i64.wrap (Int.tdiv (IntKind.i64.wrap (t2-dF)) hop1))))))

def tU (t2:Int):Option (Int×Int) :=
  some (t2,(0:Int))

def vV (w0:bW)(l1:(List aK))(t2:Int):Option (Int×Int) :=
  (wA w0 l1 t2).bind fun x1 =>
  cond (!decide (x1=(0:Int)))
  (some ((0:Int),x1))
  (cond (decide (w0.Kind=(3:Int)))
  ((xQ l1 w0.Size t2).bind fun x6 =>
  some (x6.1,x6.2))
  (cond (decide (w0.Kind=(2:Int)))
  ((xS w0.Size w0.Hop t2).bind fun x10 =>
  cond (decide (x10.1<t2))
  (some (x10.1,(0:Int)))
  (tU t2))
  (tU t2)))

def qJ (w0:bW)(l1:(List aK))(t2:Int):Option Bool :=
  (zP l1).bind fun x1 =>
  cond (!x1)
  ((tP ).bind fun x5 =>
  some x5)
  ((qX w0 l1 t2).bind fun x8 =>
  (vV w0 l1 t2).bind fun x11 =>
  (tP ).bind fun x14 =>
  (cW ((x14&&(decide (x8.1=x11.1)))&&(decide (x8.2=x11.2))) (oV w0)).bind fun x16 =>
  (cW ((x14&&(decide (x8.1=x11.1)))&&(decide (x8.2=x11.2))) (wL w0)).bind fun x18 =>
  some ((((x14&&(decide (x8.1=x11.1)))&&(decide (x8.2=x11.2)))&&((decide (x16=(0:Int)))==x18))&&((!decide (x8.2=(0:Int)))||(decide (x8.1<=t2)))))

end Go.Abs
namespace Go.Abs
open Go Go.RowKit
def zX (x:bW):Prop:=wT x.Kind/\wT x.Size/\wT x.Hop/\True

def FQ (x:aG):Prop:=wT x.Kind/\wT x.Num/\(fun s=>s.size<=maxLen) x.Text/\True

def zU (x:aK):Prop:=(fun l=>(∀ a∈l,FQ a)/\l.length*32<=140737488351232) x.Row/\wT x.At/\wT x.Net/\True

end Go.Abs
namespace Go.Abs
open Go Go.RowKit Go.Proofs
def tt:TT:=⟨aBZ Tryz.prog,XY Tryz.prog⟩

theorem aB:iE Tryz.prog tt:=iE.of Tryz.prog

theorem aAF (l0:(List aK))(r:Bool)(h0:zP l0=some r):cU Tryz.prog 6 [(eL aH l0)] (aC r):=by
 intro H0;refine cQ Tryz.func6 ?_;have hO:=aJ.start H0;unfold zP at h0;refine aV aB 1 [] [] ?_;refine dN (fun T H=>Has T [(0,(eL aH l0))]/\aJ ⟨H0,[],[]⟩ H []/\BR l0=some r) ?_ ?_
 ·clear hO h0;rintro T H ⟨hT,hO,h0⟩;refine bC hT ?_;clear hT;unfold BR at h0;refine bM aB 4 [(2,(aC (decide ((lN l0)<=(60:Int)))))] ?_;refine bG ?_;obtain rfl:=oI h0;exact aF (Q_r hO)
 refine aV aB 1 [] [(3,(eI 0))] ?_;refine bT 0 ?_;refine dZ [(0,(eL aH l0)),(3,(eI 0))] ?_;refine dR (fun T H=>∃ i3:Int,Has T [(0,(eL aH l0)),(3,(eI i3))]/\aJ ⟨H0,[],[]⟩ H []/\BX l0 i3=some r) ?_ ⟨(0:Int),aZ,hO,h0⟩;clear hO h0;rintro T H ⟨i3,hT,hO,h0⟩;refine bC hT ?_;clear hT;unfold BX at h0;obtain⟨rr0,hl0,h0⟩:=aW h0;refine fD (fun (s:Int) T H=>Has T [(0,(eL aH l0)),(3,(eI s))]/\aJ ⟨H0,[],[]⟩ H []) hl0 ⟨aZ,hO⟩ ?_;clear hO;rintro k0 s out1 T H ⟨hT,hO⟩ h1 ho0;obtain⟨i3,rfl⟩:∃ x,x=s:=⟨_,rfl⟩;replace h1:uK l0 i3=some out1:=h1;refine bC hT ?_;clear hT;unfold uK at h1;refine aM ?_;refine aV aB 8 [] [(11,(aC ((decide (i3<(lN l0)))&&(decide (i3<=(60:Int))))))] ?_;refine bH h1 (fun h1=>?_) (fun h1=>?_)
 ·refine bI ?_;refine bD [(0,(eL aH l0)),(3,(eI i3))] ?_;refine aM ?_;refine bT 1 ?_;refine aM ?_;refine aS aB 6 ?_;obtain⟨c2,h1⟩:=bA h1;refine mU [0<=i3/\i3<(lN l0)] ⟨c2,trivial⟩ ?_;refine bN [] [(19,(aC (decide ((10:Int)<((gD l0 i3).Net)))))] ?_;refine bH h1 (fun h1=>?_) (fun h1=>?_)
  ·refine bM aB 1 [(2,(aC false))] ?_;refine bG ?_;obtain rfl:=oI h1;obtain rfl:_=rr0:=ho0;replace h0:some false=some r:=h0;obtain rfl:=oI h0;exact aF (bF (aQ (aQ (bF (aQ (Q_r hO))))))
  refine bI ?_;refine dO [(0,(eL aH l0)),(3,(eI i3))] ?_;refine aF (aU (aE (?_)));refine aS aB 3 ?_;refine bB ?_;exact aF (aE (⟨rfl,_,(oI h1).symm,aZ,hO⟩))
 refine eH 0 ?_;obtain rfl:=oI h1;obtain rfl:_=rr0:=ho0;replace h0:BR l0=some r:=h0;exact aF (aX (aX (bP (aE (⟨rfl,aZ,hO,h0⟩)))))

theorem FK (n0:Int)(r:Bool)(h0:rF n0=some r):cU Tryz.prog 24 [(eI n0)] (aC r):=by
 intro H0;refine cQ Tryz.func24 ?_;have hO:=aJ.start H0;unfold rF at h0;refine aV aB 1 [] [] ?_;refine bM aB 7 [(2,(aC ((decide ((1:Int)<=n0))&&(decide (n0<=(1099511627776:Int))))))] ?_;refine bG ?_;obtain rfl:=oI h0;exact aF (Q_r hO)

theorem CR (w0:bW)(r:Int)(h0:oV w0=some r):cU Tryz.prog 10 [(cA w0)] (eI r):=by
 intro H0;refine cQ Tryz.func10 ?_;have hO:=aJ.start H0;unfold oV at h0;refine aM ?_;refine aS aB 2 ?_;refine kJ 3 (cA w0) ?_;refine bB ?_;refine bD [(1,(.rp (cA w0)))] ?_;refine aV aB 1 [] [(3,(.fn (.func 24) [] []))] ?_;refine aV aB 1 [] [(4,(aC false))] ?_;refine dN (fun T H=>∃ ok4:Bool,Has T [(4,(aC ok4))]/\aJ ⟨H0,[],[]⟩ H []/\lI ok4=some r) ?_ ?_
 ·clear hO h0;rintro T H ⟨ok4,hT,hO,h0⟩;refine bC hT ?_;clear hT;unfold lI at h0;refine aM ?_;refine bM aB 2 [(45,(aC (!ok4)))] ?_;refine bH h0 (fun h0=>?_) (fun h0=>?_)
  ·refine bM aB 1 [(2,(eI 2))] ?_;refine bG ?_;obtain rfl:=oI h0;exact aF (aQ (Q_r hO))
  refine bI ?_;refine bD [] ?_;refine bM aB 1 [(2,(eI 0))] ?_;refine bG ?_;obtain rfl:=oI h0;exact aF (Q_r hO)
 refine aV aB 2 [] [(6,(eI w0.Kind))] ?_;refine bT 0 ?_;refine aV aB 2 [] [(7,(aC (decide (w0.Kind=(1:Int)))))] ?_;refine bH h0 (fun h0=>?_) (fun h0=>?_)
 ·refine aS aB 9 ?_;refine bB ?_;exact aF (aU (aE (⟨rfl,_,aZ,hO,h0⟩)))
 refine bM aB 2 [(1,(.rp (cA w0))),(3,(.fn (.func 24) [] [])),(4,(aC false)),(6,(eI w0.Kind)),(17,(aC (decide (w0.Kind=(2:Int)))))] ?_;refine bH h0 (fun h0=>?_) (fun h0=>?_)
 ·refine aS aB 11 ?_;refine bJ 3 ?_;obtain⟨x4,hx5,h0⟩:=aW h0;refine cN (FK w0.Size _ hx5) hO ?_;intro H hO;refine bJ 8 ?_;obtain⟨x7,hx8,h0⟩:=aW h0;refine mG [(23,true)] 24 [(eI w0.Hop)] (aC x7) x4 (by kernel_rfl) (by kernel_rfl) (by kernel_rfl) (fun hb9=>(FK w0.Hop _ (gV hx8 hb9))) hO ?_;intro H hO;refine bB ?_;exact aF (aU (aE (⟨rfl,_,aZ,hO,h0⟩)))
 refine aV aB 2 [3,6,17] [(29,(aC (decide (w0.Kind=(3:Int)))))] ?_;refine bH h0 (fun h0=>?_) (fun h0=>?_)
 ·refine aS aB 14 ?_;refine bB ?_;exact aF (aU (aE (⟨rfl,_,aZ,hO,h0⟩)))
 refine bI ?_;exact aF (aU (aE (⟨rfl,_,aZ,hO,h0⟩)))

theorem OE (l0:(List aK))(r:(List aK))(h0:wS l0=some r):cU Tryz.prog 85 [(eL aH l0)] (.fn (.func 103) [] [(.rp (eL aH r))]):=by
 intro H0;refine cQ Tryz.func85 ?_;have hO:=aJ.start H0;unfold wS at h0;refine aM ?_;refine aS aB 2 ?_;refine kJ 1 (eL aH l0) ?_;refine bB ?_;refine bD [(1,(.rp (eL aH l0)))] ?_;refine bM aB 2 [(2,(.fn (.func 103) [] [(.rp (eL aH l0))]))] ?_;refine bG ?_;obtain rfl:=oI h0;exact aF (kU (x:=(.fn (.func 103) [] [(.rp (eL aH l0))])) (by kernel_rfl) (aR.refl _) ⟨rfl,hO.out⟩)

theorem rJ (s10:(List aG))(s21:(List aG))(r:Bool)(h0:gC s10 s21=some r):cU Tryz.prog 93 [(eL aD s10),(eL aD s21)] (aC r):=by
 intro H0;refine cQ Tryz.func93 ?_;have hO:=aJ.start H0;unfold gC at h0;refine aV aB 1 [] [] ?_;refine aM ?_;refine aV aB 5 [] [(10,(aC (!decide ((lN s10)=(lN s21)))))] ?_;refine bH h0 (fun h0=>?_) (fun h0=>?_)
 ·refine bM aB 1 [(4,(aC false))] ?_;refine bG ?_;obtain rfl:=oI h0;exact aF (aQ (Q_r hO))
 refine bI ?_;refine bD [(0,(eL aD s10)),(1,(eL aD s21))] ?_;refine dN (fun T H=>Has T []/\aJ ⟨H0,[],[]⟩ H []/\iM  = some r) ?_ ?_
 ·clear hO h0;rintro T H ⟨hT,hO,h0⟩;refine bC hT ?_;clear hT;unfold iM at h0;refine bM aB 1 [(4,(aC true))] ?_;refine bG ?_;obtain rfl:=oI h0;exact aF (Q_r hO)
 refine aV aB 3 [] [(12,(eI (lN s10))),(13,(eI 0))] ?_;refine bT 0 ?_;refine dZ [(0,(eL aD s10)),(1,(eL aD s21)),(12,(eI (lN s10))),(13,(eI 0))] ?_;refine dR (fun T H=>∃ t12:Int,∃ t13:Int,Has T [(0,(eL aD s10)),(1,(eL aD s21)),(12,(eI t12)),(13,(eI t13))]/\aJ ⟨H0,[],[]⟩ H []/\kM s10 s21 t12 t13=some r) ?_ ⟨(lN s10),(0:Int),aZ,hO,h0⟩;clear hO h0;rintro T H ⟨t12,t13,hT,hO,h0⟩;refine bC hT ?_;clear hT;unfold kM at h0;obtain⟨rr0,hl0,h0⟩:=aW h0;refine fD (fun (s:Int) T H=>Has T [(0,(eL aD s10)),(1,(eL aD s21)),(12,(eI t12)),(13,(eI s))]/\aJ ⟨H0,[],[]⟩ H []) hl0 ⟨aZ,hO⟩ ?_;clear hO;rintro k0 s out1 T H ⟨hT,hO⟩ h1 ho0;obtain⟨t13,rfl⟩:∃ x,x=s:=⟨_,rfl⟩;replace h1:fS s10 s21 t12 t13=some out1:=h1;refine bC hT ?_;clear hT;unfold fS at h1;refine aV aB 1 [] [(14,(aC (decide (t13<t12))))] ?_;refine aM ?_;refine bH h1 (fun h1=>?_) (fun h1=>?_)
 ·refine bI ?_;refine bD [(0,(eL aD s10)),(1,(eL aD s21)),(12,(eI t12)),(13,(eI t13))] ?_;refine aM ?_;refine bT 1 ?_;refine aV aB 2 [] [(5,(eI t13))] ?_;refine aM ?_;refine eV (eT [19,23]) aB 9 ?_;obtain⟨c3,h1⟩:=bA h1;obtain⟨c4,h1⟩:=bA h1;refine EH (Ds:=[0<=t13/\t13<(lN s10),0<=t13/\t13<(lN s21)]) (by kernel_rfl) ⟨c3,c4,trivial⟩ ?_;refine bN [5] [(24,(aC (!((decide (((gD s10 t13).Kind)=((gD s21 t13).Kind)))&&((decide (((gD s10 t13).Num)=((gD s21 t13).Num)))&&((pE ((gD s10 t13).Text) ((gD s21 t13).Text))&&true))))))] ?_;refine bH h1 (fun h1=>?_) (fun h1=>?_)
  ·refine bM aB 1 [(4,(aC false))] ?_;refine bG ?_;obtain rfl:=oI h1;obtain rfl:_=rr0:=ho0;replace h0:some false=some r:=h0;obtain rfl:=oI h0;exact aF (bF (aQ (aQ (bF (aQ (Q_r hO))))))
  refine bI ?_;refine dO [(0,(eL aD s10)),(1,(eL aD s21)),(12,(eI t12)),(13,(eI t13))] ?_;refine aF (aU (aE (?_)));refine aS aB 2 ?_;refine bB ?_;exact aF (aE (⟨rfl,_,(oI h1).symm,aZ,hO⟩))
 refine eH 0 ?_;obtain rfl:=oI h1;obtain rfl:_=rr0:=ho0;replace h0:iM  = some r:=h0;exact aF (aX (aX (bP (aE (⟨rfl,aZ,hO,h0⟩)))))

theorem QX (a0:(List aG))(b1:(List aG))(r:Bool)(h0:sR a0 b1=some r):cU Tryz.prog 88 [(eL aD a0),(eL aD b1)] (aC r):=by
 intro H0;refine cQ Tryz.func88 ?_;have hO:=aJ.start H0;unfold sR at h0;refine aV aB 1 [] [] ?_;refine aM ?_;refine aS aB 4 ?_;refine bJ 2 ?_;obtain⟨x1,hx2,h0⟩:=aW h0;refine cN (rJ a0 b1 _ hx2) hO ?_;intro H hO;refine bB ?_;refine bD [(4,(aC x1))] ?_;refine bG ?_;obtain rfl:=oI h0;exact aF (Q_r hO)

theorem QK (r0:(List aG))(r:(List aG))(h0:yJ r0=some r):cU Tryz.prog 89 [(eL aD r0)] (eL aD r):=by
 intro H0;refine cQ Tryz.func89 ?_;have hO:=aJ.start H0;unfold yJ at h0;refine aV aB 1 [] [] ?_;refine aM ?_;refine aS aB 6 ?_;refine bJ 2 ?_;obtain⟨c1,h0⟩:=bA h0;refine MR 3 32 (lN r0) (by kernel_rfl) (by kernel_rfl) c1 hO ?_;intro lo2 H hO;refine bJ 4 ?_;obtain⟨c4,h0⟩:=bA h0;refine AO aD ([]:List aG) r0 0 lo2 3 32 (eL aD r0) (fun lo3=>[(lo3,3,List.map aD (([]:List aG)++r0))]) hO (aBv (fun _=>by kernel_rfl)) c4 ?_;intro lo3 H hO;refine bB ?_;refine bD [(2,(.msl 3 lo3 0 (List.length (([]:List aG)++r0))))] ?_;refine bG ?_;refine dO [(2,(.msl 3 lo3 0 (List.length (([]:List aG)++r0))))] ?_;refine qR (en:=aD) (([]:List aG)++r0) 0 0 2 3 lo3 (List.length (([]:List aG)++r0)) hO (by kernel_rfl) (by kernel_rfl) (by kernel_rfl) (L':=[]) (by kernel_rfl) ?_;intro H5 hO;obtain rfl:=oI h0;exact aF (Q_r hO)

theorem HF {σ:Type}(I:σ->Gs->Prop)(yield0_b:Nat)(cL:σ->(List aG)->(List aI)->Option (σ×Bool))(yield0_h:∀ st a0 a1 st2 r,cL st a0 a1=some (st2,r)->CT Tryz.prog (yv yield0_b) I st [(eL aD a0),(eL aO a1)] st2 (aC r))(t1:(List aK))(sg0:σ)(r:σ)(h0:pV cL t1 sg0=some r):yU Tryz.prog 103 I sg0 [(yv yield0_b),(.rp (eL aH t1))] r (.tup []):=by
 intro H0 G0 hI hg;refine cQ Tryz.func103 ?_;obtain⟨G,hO,hI⟩:∃ G,aJ ⟨H0,List.map (fun p:Nat×dQ=>p.1) G0,G⟩ H0 []/\I sg0 G:=⟨G0,aJ.EU hg,hI⟩;clear hg;unfold pV at h0;refine aV aB 1 [] [(3,(eI 0))] ?_;refine bT 0 ?_;refine dZ [(0,(yv yield0_b)),(1,(.rp (eL aH t1))),(3,(eI 0))] ?_;refine dR (fun T H=>∃ sg:σ,∃ i3:Int,∃ G:Gs,Has T [(0,(yv yield0_b)),(1,(.rp (eL aH t1))),(3,(eI i3))]/\aJ ⟨H0,List.map (fun p:Nat×dQ=>p.1) G0,G⟩ H []/\I sg G/\uR cL sg t1 i3=some r) ?_ ⟨sg0,(0:Int),G,aZ,hO,hI,h0⟩;clear hO hI h0;rintro T H ⟨sg,i3,G,hT,hO,hI,h0⟩;refine bC hT ?_;clear hT;unfold uR at h0;obtain⟨rr0,hl0,h0⟩:=aW h0;refine fD (fun (s:σ×Int) T H=>∃ G:Gs,Has T [(0,(yv yield0_b)),(1,(.rp (eL aH t1))),(3,(eI s.2))]/\aJ ⟨H0,List.map (fun p:Nat×dQ=>p.1) G0,G⟩ H []/\I s.1 G) hl0 ⟨G,aZ,hO,hI⟩ ?_;clear hO hI;rintro k0 s out1 T H ⟨G,hT,hO,hI⟩ h1 ho0;obtain⟨sg,i3⟩:=s;replace h1:jO cL t1 sg i3=some out1:=h1
 try dsimp only at hT
 refine bC hT ?_;clear hT;unfold jO at h1;refine aM ?_;refine aV aB 4 [] [(9,(aC (decide (i3<(lN t1)))))] ?_;refine bH h1 (fun h1=>?_) (fun h1=>?_)
 ·refine bI ?_;refine bD [(0,(yv yield0_b)),(1,(.rp (eL aH t1))),(3,(eI i3))] ?_;refine bT 1 ?_;refine aM ?_;refine aS aB 6 ?_;obtain⟨c2,h1⟩:=bA h1;refine mU [0<=i3/\i3<(lN t1)] ⟨c2,trivial⟩ ?_;refine bN [] [(4,(eL aD ((gD t1 i3).Row)))] ?_;refine aM ?_;refine aS aB 2 ?_;refine nU [] 2 ?_;refine bB ?_;refine bN [] [(5,(.sl true 0 (fun _=>.bad)))] ?_;refine dN (fun T H=>∃ sg:σ,∃ i3:Int,∃ r4:(List aG),∃ f5:List aI,∃ lo3:Nat,∃ G:Gs,Has T [(0,(yv yield0_b)),(1,(.rp (eL aH t1))),(3,(eI i3)),(4,(eL aD r4)),(5,(.msl 2 lo3 0 (List.length f5)))]/\aJ ⟨H0,List.map (fun p:Nat×dQ=>p.1) G0,G⟩ H [(lo3,2,List.map aO f5)]/\I sg G/\rM cL sg t1 i3 r4 f5=some out1) ?_ ?_
  ·clear hO hI h1;rintro T H ⟨sg,i3,r4,f5,lo3,G,hT,hO,hI,h1⟩;refine bC hT ?_;clear hT;unfold rM at h1;refine aM ?_;refine aS aB 6 ?_;refine UX (e:=aO) f5 0 5 2 lo3 (List.length f5) [] (by kernel_rfl) hO (by kernel_rfl) (by kernel_rfl) (by kernel_rfl) (by kernel_rfl) ?_;intro H hO;refine bJ 2 ?_;obtain⟨x7,hx8,h1⟩:=aW h1;refine cN (QK r4 _ hx8) hO ?_;intro H hO;refine bJ 4 ?_;obtain⟨x10,hx11,h1⟩:=aW h1;refine MW (I:=I) (yv yield0_b) [(eL aD x7),(eL aO f5)] (aC x10.2) (by kernel_rfl) (by kernel_rfl) (yield0_h _ x7 f5 x10.1 x10.2 hx11) hO hI ?_;intro G H hO hI;refine bB ?_;refine bN [4,5] [(50,(aC (!x10.2)))] ?_;refine bH h1 (fun h1=>?_) (fun h1=>?_)
   ·refine bG ?_;obtain rfl:=oI h1;obtain rfl:_=rr0:=ho0;replace h0:some x10.1=some r:=h0;obtain rfl:=oI h0;exact aF (bF (aQ (bF (kU (x:=(.tup [])) (by kernel_rfl) (aR.refl _) ⟨rfl,G,hI,hO.AS⟩))))
   refine bI ?_;exact aF (aU (aE (⟨rfl,_,(oI h1).symm,_,aZ,hO,hI⟩)))
  refine bT 2 ?_;refine dZ [(0,(yv yield0_b)),(1,(.rp (eL aH t1))),(3,(eI i3)),(4,(eL aD ((gD t1 i3).Row))),(5,(.sl true 0 (fun _=>.bad)))] ?_;refine DM (el:=(fun _=>.bad)) 4 5 2 hO (by kernel_rfl) ?_;intro lo24 H25 hO;refine dR (fun T H=>∃ sg:σ,∃ i3:Int,∃ r4:(List aG),∃ f5:List aI,∃ lo14:Nat,∃ G:Gs,Has T [(0,(yv yield0_b)),(1,(.rp (eL aH t1))),(3,(eI i3)),(4,(eL aD r4)),(5,(.msl 2 lo14 0 (List.length f5)))]/\aJ ⟨H0,List.map (fun p:Nat×dQ=>p.1) G0,G⟩ H [(lo14,2,List.map aO f5)]/\I sg G/\vB cL sg t1 i3 r4 f5=some out1) ?_ ⟨sg,i3,(gD t1 i3).Row,([]:List aI),lo24,G,aZ,hO,hI,h1⟩;clear hO hI h1;rintro T H ⟨sg,i3,r4,f5,lo14,G,hT,hO,hI,h1⟩;refine bC hT ?_;clear hT;unfold vB at h1;obtain⟨rr1,hl1,h1⟩:=aW h1;refine fD (fun (s:σ×Int×List aI) T H=>∃ lo14:Nat,∃ G:Gs,Has T [(0,(yv yield0_b)),(1,(.rp (eL aH t1))),(3,(eI s.2.1)),(4,(eL aD r4)),(5,(.msl 2 lo14 0 (List.length s.2.2)))]/\aJ ⟨H0,List.map (fun p:Nat×dQ=>p.1) G0,G⟩ H [(lo14,2,List.map aO s.2.2)]/\I s.1 G) hl1 ⟨lo14,G,aZ,hO,hI⟩ ?_;clear hO hI;rintro k1 s out2 T H ⟨lo14,G,hT,hO,hI⟩ h2 ho1;obtain⟨sg,i3,f5⟩:=s;replace h2:kQ cL t1 r4 sg i3 f5=some out2:=h2
  try dsimp only at hT
  refine bC hT ?_;clear hT;unfold kQ at h2;refine aM ?_;refine aM ?_;refine aS aB 13 ?_;obtain⟨c15,h2⟩:=bA h2;refine mM 11 [(((decide (i3<(lN t1))))=true->0<=i3/\i3<(lN t1))] ⟨c15,trivial⟩ ?_;obtain⟨x16,hx17,h2⟩:=aW h2;refine mG [(20,true)] 88 [(eL aD ((gD t1 i3).Row)),(eL aD r4)] (aC x16) (decide (i3<(lN t1))) (by kernel_rfl) (by kernel_rfl) (by kernel_rfl) (fun hb18=>(QX ((gD t1 i3).Row) r4 _ (gV hx17 hb18))) hO ?_;intro H hO;refine bB ?_;refine bN [] [(28,(aC ((decide (i3<(lN t1)))&&x16)))] ?_;refine bH h2 (fun h2=>?_) (fun h2=>?_)
  ·refine bI ?_;refine bD [(0,(yv yield0_b)),(1,(.rp (eL aH t1))),(3,(eI i3)),(4,(eL aD r4)),(5,(.msl 2 lo14 0 (List.length f5)))] ?_;refine aM ?_;refine bT 3 ?_;refine eV (eT [32,36,37,41,43]) aB 15 ?_;obtain⟨c20,h2⟩:=bA h2;obtain⟨c21,h2⟩:=bA h2;refine cJ 12 [0<=i3/\i3<(lN t1),0<=i3/\i3<(lN t1)] ⟨c20,c21,trivial⟩ ?_;refine WY (xs:=[(aO (aI.mk ((gD t1 i3).At) ((gD t1 i3).Net)))]) (k:=2) (by kernel_rfl) (by kernel_rfl) ?_;obtain⟨c23,h2⟩:=bA h2;refine MU (e:=aO) f5 ([aI.mk ((gD t1 i3).At) ((gD t1 i3).Net)]) 0 lo14 2 16 (eD [(aO (aI.mk ((gD t1 i3).At) ((gD t1 i3).Net)))]) (fun lo22=>[(lo22,2,List.map aO (f5++([aI.mk ((gD t1 i3).At) ((gD t1 i3).Net)])))]) (by kernel_rfl) (by kernel_rfl) hO (by kernel_rfl) (by kernel_rfl) c23 (fun _=>by kernel_rfl) ?_;intro lo22 H hO;refine gP ?_;refine dO [(0,(yv yield0_b)),(1,(.rp (eL aH t1))),(3,(eI i3)),(4,(eL aD r4)),(5,(.msl 2 lo22 0 (List.length (f5++([aI.mk ((gD t1 i3).At) ((gD t1 i3).Net)])))))] ?_;refine aF (aU (aE (?_)));refine aS aB 3 ?_;refine bB ?_;exact aF (aE (⟨rfl,_,(oI h2).symm,_,_,aZ,hO,hI⟩))
  refine eH 2 ?_;obtain rfl:=oI h2;obtain rfl:_=rr1:=ho1;replace h1:rM cL sg t1 i3 r4 f5=some out1:=h1;exact aF (aX (aX (bP (aE (⟨rfl,_,_,_,_,_,_,aZ,hO,hI,h1⟩)))))
 refine eH 0 ?_;obtain rfl:=oI h1;obtain rfl:_=rr0:=ho0;replace h0:some sg=some r:=h0;obtain rfl:=oI h0;exact aF (aX (aX (bP (AH (x:=(.tup [])) (by kernel_rfl) (aR.refl _) ⟨rfl,G,hI,hO.AS⟩))))

theorem yB (s0:(List aG))(f1_f:Nat)(f1_a f1_c:List V)(f1:aG->Option Bool)(f1_h:∀ a0 r,f1 a0=some r->cU Tryz.prog f1_f (f1_a++[(aD a0)]++f1_c) (aC r))(r:Int)(h0:jL s0 f1=some r):cU Tryz.prog 119 [(eL aD s0),(.fn (.func f1_f) f1_a f1_c)] (eI r):=by
 intro H0;refine cQ Tryz.func119 ?_;have hO:=aJ.start H0;unfold jL at h0;refine aV aB 1 [] [] ?_;refine dN (fun T H=>Has T []/\aJ ⟨H0,[],[]⟩ H []/\gH f1  = some r) ?_ ?_
 ·clear hO h0;rintro T H ⟨hT,hO,h0⟩;refine bC hT ?_;clear hT;unfold gH at h0;refine bM aB 1 [(4,(eI (-1:Int)))] ?_;refine bG ?_;obtain rfl:=oI h0;exact aF (Q_r hO)
 refine aV aB 3 [] [(7,(eI (lN s0))),(8,(eI 0))] ?_;refine bT 0 ?_;refine dZ [(0,(eL aD s0)),(1,(.fn (.func f1_f) f1_a f1_c)),(7,(eI (lN s0))),(8,(eI 0))] ?_;refine dR (fun T H=>∃ t7:Int,∃ t8:Int,Has T [(0,(eL aD s0)),(1,(.fn (.func f1_f) f1_a f1_c)),(7,(eI t7)),(8,(eI t8))]/\aJ ⟨H0,[],[]⟩ H []/\jC f1 s0 t7 t8=some r) ?_ ⟨(lN s0),(0:Int),aZ,hO,h0⟩;clear hO h0;rintro T H ⟨t7,t8,hT,hO,h0⟩;refine bC hT ?_;clear hT;unfold jC at h0;obtain⟨rr0,hl0,h0⟩:=aW h0;refine fD (fun (s:Int) T H=>Has T [(0,(eL aD s0)),(1,(.fn (.func f1_f) f1_a f1_c)),(7,(eI t7)),(8,(eI s))]/\aJ ⟨H0,[],[]⟩ H []) hl0 ⟨aZ,hO⟩ ?_;clear hO;rintro k0 s out1 T H ⟨hT,hO⟩ h1 ho0;obtain⟨t8,rfl⟩:∃ x,x=s:=⟨_,rfl⟩;replace h1:jB f1 s0 t7 t8=some out1:=h1;refine bC hT ?_;clear hT;unfold jB at h1;refine aV aB 1 [] [(9,(aC (decide (t8<t7))))] ?_;refine aM ?_;refine bH h1 (fun h1=>?_) (fun h1=>?_)
 ·refine bI ?_;refine bD [(0,(eL aD s0)),(1,(.fn (.func f1_f) f1_a f1_c)),(7,(eI t7)),(8,(eI t8))] ?_;refine aM ?_;refine bT 1 ?_;refine aV aB 2 [] [(5,(eI t8))] ?_;refine aM ?_;refine aS aB 6 ?_;obtain⟨c2,h1⟩:=bA h1;refine mM 5 [0<=t8/\t8<(lN s0)] ⟨c2,trivial⟩ ?_;obtain⟨x3,hx4,h1⟩:=aW h1;refine cN (f1_h (gD s0 t8) _ hx4) hO ?_;intro H hO;refine dU ?_;refine bN [] [(16,(aC x3))] ?_;refine bH h1 (fun h1=>?_) (fun h1=>?_)
  ·refine bM aB 2 [(4,(eI t8))] ?_;refine bG ?_;obtain rfl:=oI h1;obtain rfl:_=rr0:=ho0;replace h0:some t8=some r:=h0;obtain rfl:=oI h0;exact aF (bF (aQ (aQ (bF (aQ (Q_r hO))))))
  refine bI ?_;refine dO [(0,(eL aD s0)),(1,(.fn (.func f1_f) f1_a f1_c)),(7,(eI t7)),(8,(eI t8))] ?_;refine aF (aU (aE (?_)));refine aS aB 2 ?_;refine bB ?_;exact aF (aE (⟨rfl,_,(oI h1).symm,aZ,hO⟩))
 refine eH 0 ?_;obtain rfl:=oI h1;obtain rfl:_=rr0:=ho0;replace h0:gH f1  = some r:=h0;exact aF (aX (aX (bP (aE (⟨rfl,aZ,hO,h0⟩)))))

theorem wI (s0:(List aG))(f1_f:Nat)(f1_a f1_c:List V)(f1:aG->Option Bool)(f1_h:∀ a0 r,f1 a0=some r->cU Tryz.prog f1_f (f1_a++[(aD a0)]++f1_c) (aC r))(r:Bool)(h0:fP s0 f1=some r):cU Tryz.prog 116 [(eL aD s0),(.fn (.func f1_f) f1_a f1_c)] (aC r):=by
 intro H0;refine cQ Tryz.func116 ?_;have hO:=aJ.start H0;unfold fP at h0;refine aV aB 1 [] [] ?_;refine aM ?_;refine aS aB 5 ?_;refine bJ 2 ?_;obtain⟨x1,hx2,h0⟩:=aW h0;refine cN (yB s0 f1_f f1_a f1_c f1 f1_h _ hx2) hO ?_;intro H hO;refine bB ?_;refine bD [(4,(aC (decide ((0:Int)<=x1))))] ?_;refine bG ?_;obtain rfl:=oI h0;exact aF (Q_r hO)

theorem BE (v0:aG)(r:(bS×Bool))(h0:mW v0=some r):cU Tryz.prog 129 [(aD v0)] (.tup [(bO r.1),(aC r.2)]):=by
 intro H0;refine cQ Tryz.func129 ?_;have hO:=aJ.start H0;unfold mW at h0;refine aM ?_;refine aS aB 3 ?_;refine kJ 3 (aD v0) ?_;refine bB ?_;refine bD [(1,(.rp (aD v0)))] ?_;refine aM ?_;refine bT 0 ?_;refine aV aB 9 [] [(4,(aC ((decide (v0.Kind=(1:Int)))&&(pE v0.Text (⟨#[]⟩:ByteArray)))))] ?_;refine bH h0 (fun h0=>?_) (fun h0=>?_)
 ·refine bM aB 5 [(2,(bO (bS.k_number v0.Num))),(3,(aC true))] ?_;refine bG ?_;obtain rfl:=oI h0;exact aF (bF (aQ (Q_r hO)))
 refine aV aB 15 [4] [(16,(aC (((decide (v0.Kind=(2:Int)))&&(decide (v0.Num=(0:Int))))&&(decide (((ByteArray.size v0.Text:Nat):Int)<=(64:Int))))))] ?_;refine bH h0 (fun h0=>?_) (fun h0=>?_)
 ·refine bM aB 5 [(2,(bO (bS.k_words v0.Text))),(3,(aC true))] ?_;refine bG ?_;obtain rfl:=oI h0;exact aF (bF (aQ (Q_r hO)))
 refine bI ?_;refine dO [] ?_;refine aF (aU (aE (?_)));refine bM aB 2 [(2,(bO bS.none_)),(3,(aC false))] ?_;refine bG ?_;obtain rfl:=oI h0;exact aF (Q_r hO)

theorem aBe (v0:aG)(r:Bool)(h0:zG v0=some r):cU Tryz.prog 118 [(aD v0)] (aC r):=by
 intro H0;refine cQ Tryz.func118 ?_;have hO:=aJ.start H0;unfold zG at h0;refine aM ?_;refine aS aB 2 ?_;refine kJ 3 (aD v0) ?_;refine bB ?_;refine bD [(1,(.rp (aD v0)))] ?_;refine aM ?_;refine aS aB 7 ?_;refine bJ 1 ?_;obtain⟨⟨x1_0,x1_1⟩,hx2,h0⟩:=aW h0;refine cN (BE v0 _ hx2) hO ?_;intro H hO;rcases x1_0 with _ | y4 | y5
 ·replace h0:(some x1_1)=some r:=h0;refine bB ?_;refine bD [(4,(aC x1_1))] ?_;refine bM aB 2 [(2,(aC x1_1))] ?_;refine bG ?_;obtain rfl:=oI h0;exact aF (Q_r hO)
 ·replace h0:(some x1_1)=some r:=h0;refine bB ?_;refine bD [(4,(aC x1_1))] ?_;refine bM aB 2 [(2,(aC x1_1))] ?_;refine bG ?_;obtain rfl:=oI h0;exact aF (Q_r hO)
 ·replace h0:(some x1_1)=some r:=h0;refine bB ?_;refine bD [(4,(aC x1_1))] ?_;refine bM aB 2 [(2,(aC x1_1))] ?_;refine bG ?_;obtain rfl:=oI h0;exact aF (Q_r hO)

theorem aAY (v0:aG)(r:Bool)(h0:zK v0=some r):cU Tryz.prog 117 [(aD v0)] (aC r):=by
 intro H0;refine cQ Tryz.func117 ?_;have hO:=aJ.start H0;unfold zK at h0;refine aM ?_;refine aS aB 2 ?_;refine kJ 3 (aD v0) ?_;refine bB ?_;refine bD [(1,(.rp (aD v0)))] ?_;refine aM ?_;refine aS aB 4 ?_;refine bJ 1 ?_;obtain⟨x1,hx2,h0⟩:=aW h0;refine cN (aBe v0 _ hx2) hO ?_;intro H hO;refine bB ?_;refine bD [(2,(aC (!x1)))] ?_;refine bG ?_;obtain rfl:=oI h0;exact aF (Q_r hO)

theorem LO (r0:(List aG))(r:Bool)(h0:xR r0=some r):cU Tryz.prog 97 [(eL aD r0)] (aC r):=by
 intro H0;refine cQ Tryz.func97 ?_;have hO:=aJ.start H0;unfold xR at h0;refine aV aB 1 [] [] ?_;refine aM ?_;refine aV aB 3 [] [(5,(aC (decide ((8:Int)<(lN r0)))))] ?_;refine bH h0 (fun h0=>?_) (fun h0=>?_)
 ·refine bM aB 1 [(2,(aC false))] ?_;refine bG ?_;obtain rfl:=oI h0;exact aF (aQ (Q_r hO))
 refine bI ?_;refine bD [(0,(eL aD r0))] ?_;refine aM ?_;refine aS aB 4 ?_;refine bJ 1 ?_;obtain⟨x2,hx3,h0⟩:=aW h0;refine cN (wI r0 117 [] [] (fun y0=>zK y0) (fun y0 r h=>aAY y0 r h) _ hx3) hO ?_;intro H hO;refine bB ?_;refine bD [(2,(aC (!x2)))] ?_;refine bG ?_;obtain rfl:=oI h0;exact aF (Q_r hO)

theorem SP (t0:(List aG))(r:(Int×(List aG)))(h0:xF t0=some r):IV Tryz.prog 120 [(.rp (eL aD t0))] (fun lo=>(.fn (.func 121) [] [(.lp lo 0 0),(.rp (eL aD r.2))])) 1 [(eI r.1)]:=by
 intro H0;refine cQ Tryz.func120 ?_;have hO:=aJ.start H0;unfold xF at h0;refine aV aB 1 [] [] ?_;refine aM ?_;refine aS aB 2 ?_;refine mN 1 (eI 0) (by kernel_rfl) (by kernel_rfl) hO ?_;intro lo1 H hO;refine jX 0 lo1 1 0 (eI 0) (eI (-1:Int)) [(eI 0)] [(lo1,1,[(eI (-1:Int))])] hO rfl (by kernel_rfl) ?_;intro H hO;refine dU ?_;refine bN [] [(2,(.lp lo1 0 0))] ?_;refine aV aB 2 [0] [(1,(.fn (.func 121) [] [(.lp lo1 0 0),(.rp (eL aD t0))]))] ?_;refine bG ?_;obtain rfl:=oI h0;exact aF (kU (x:=(.fn (.func 121) [] [(.lp lo1 0 0),(.rp (eL aD t0))])) (by kernel_rfl) (aR.refl _) ⟨lo1,rfl,hO⟩)

theorem wU {σ:Type}(I:σ->Gs->Prop)(s0:(List aG))(f1_v:V)(f1:σ->aG->Option (σ×Bool))(f1_h:∀ st a0 st2 r,f1 st a0=some (st2,r)->CT Tryz.prog f1_v I st [(aD a0)] st2 (aC r))(sg0:σ)(r:(σ×Int))(h0:iW s0 f1 sg0=some r):yU Tryz.prog 119 I sg0 [(eL aD s0),f1_v] r.1 (eI r.2):=by
 intro H0 G0 hI hg;refine cQ Tryz.func119 ?_;obtain⟨G,hO,hI⟩:∃ G,aJ ⟨H0,List.map (fun p:Nat×dQ=>p.1) G0,G⟩ H0 []/\I sg0 G:=⟨G0,aJ.EU hg,hI⟩;clear hg;unfold iW at h0;refine aV aB 1 [] [] ?_;refine dN (fun T H=>∃ sg:σ,∃ G:Gs,Has T []/\aJ ⟨H0,List.map (fun p:Nat×dQ=>p.1) G0,G⟩ H []/\I sg G/\fQ f1 sg=some r) ?_ ?_
 ·clear hO hI h0;rintro T H ⟨sg,G,hT,hO,hI,h0⟩;refine bC hT ?_;clear hT;unfold fQ at h0;refine bM aB 1 [(4,(eI (-1:Int)))] ?_;refine bG ?_;obtain rfl:=oI h0;exact aF (kU (x:=(eI (-1:Int))) (by kernel_rfl) (aR.refl _) ⟨rfl,G,hI,hO.AS⟩)
 refine aV aB 3 [] [(7,(eI (lN s0))),(8,(eI 0))] ?_;refine bT 0 ?_;refine dZ [(0,(eL aD s0)),(1,f1_v),(7,(eI (lN s0))),(8,(eI 0))] ?_;refine dR (fun T H=>∃ sg:σ,∃ t7:Int,∃ t8:Int,∃ G:Gs,Has T [(0,(eL aD s0)),(1,f1_v),(7,(eI t7)),(8,(eI t8))]/\aJ ⟨H0,List.map (fun p:Nat×dQ=>p.1) G0,G⟩ H []/\I sg G/\iU f1 sg s0 t7 t8=some r) ?_ ⟨sg0,(lN s0),(0:Int),G,aZ,hO,hI,h0⟩;clear hO hI h0;rintro T H ⟨sg,t7,t8,G,hT,hO,hI,h0⟩;refine bC hT ?_;clear hT;unfold iU at h0;obtain⟨rr0,hl0,h0⟩:=aW h0;refine fD (fun (s:σ×Int) T H=>∃ G:Gs,Has T [(0,(eL aD s0)),(1,f1_v),(7,(eI t7)),(8,(eI s.2))]/\aJ ⟨H0,List.map (fun p:Nat×dQ=>p.1) G0,G⟩ H []/\I s.1 G) hl0 ⟨G,aZ,hO,hI⟩ ?_;clear hO hI;rintro k0 s out1 T H ⟨G,hT,hO,hI⟩ h1 ho0;obtain⟨sg,t8⟩:=s;replace h1:cP f1 s0 t7 sg t8=some out1:=h1
 try dsimp only at hT
 refine bC hT ?_;clear hT;unfold cP at h1;refine aV aB 1 [] [(9,(aC (decide (t8<t7))))] ?_;refine aM ?_;refine bH h1 (fun h1=>?_) (fun h1=>?_)
 ·refine bI ?_;refine bD [(0,(eL aD s0)),(1,f1_v),(7,(eI t7)),(8,(eI t8))] ?_;refine aM ?_;refine bT 1 ?_;refine aV aB 2 [] [(5,(eI t8))] ?_;refine aM ?_;refine aS aB 6 ?_;obtain⟨c2,h1⟩:=bA h1;refine mM 5 [0<=t8/\t8<(lN s0)] ⟨c2,trivial⟩ ?_;obtain⟨x3,hx4,h1⟩:=aW h1;refine MW (I:=I) f1_v [(aD (gD s0 t8))] (aC x3.2) (by kernel_rfl) (by kernel_rfl) (f1_h _ (gD s0 t8) x3.1 x3.2 hx4) hO hI ?_;intro G H hO hI;refine dU ?_;refine bN [] [(16,(aC x3.2))] ?_;refine bH h1 (fun h1=>?_) (fun h1=>?_)
  ·refine bM aB 2 [(4,(eI t8))] ?_;refine bG ?_;obtain rfl:=oI h1;obtain rfl:_=rr0:=ho0;replace h0:some (x3.1,t8)=some r:=h0;obtain rfl:=oI h0;exact aF (bF (aQ (aQ (bF (aQ (kU (x:=(eI t8)) (by kernel_rfl) (aR.refl _) ⟨rfl,G,hI,hO.AS⟩))))))
  refine bI ?_;refine dO [(0,(eL aD s0)),(1,f1_v),(7,(eI t7)),(8,(eI t8))] ?_;refine aF (aU (aE (?_)));refine aS aB 2 ?_;refine bB ?_;exact aF (aE (⟨rfl,_,(oI h1).symm,_,aZ,hO,hI⟩))
 refine eH 0 ?_;obtain rfl:=oI h1;obtain rfl:_=rr0:=ho0;replace h0:fQ f1 sg=some r:=h0;exact aF (aX (aX (bP (aE (⟨rfl,_,_,aZ,hO,hI,h0⟩)))))

theorem NF (v0:aG)(lo1p:Nat)(t1:Int)(t2:(List aG))(r:(Bool×Int))(h0:kZ v0 t1 t2=some r):rP Tryz.prog 121 lo1p 1 [(eI t1)] [(eI r.2)] [(aD v0),(.lp lo1p 0 0),(.rp (eL aD t2))] (aC r.1):=by
 intro H0 hl0;refine cQ Tryz.func121 ?_;have hO:=aJ.vP hl0;clear hl0;unfold kZ at h0;refine aM ?_;refine aS aB 2 ?_;refine kJ 3 (aD v0) ?_;refine bB ?_;refine bN [0] [(3,(.rp (aD v0)))] ?_;refine aM ?_;refine aS aB 3 ?_;refine jY 0 lo1p 1 0 (eI t1) (eI t1) [(eI t1)] hO rfl ?_;refine bJ 2 ?_;refine jX 0 lo1p 1 0 (eI t1) (eI (wR (t1+(1:Int)))) [(eI t1)] [(lo1p,1,[(eI (wR (t1+(1:Int))))])] hO rfl (by kernel_rfl) ?_;intro H hO;refine dU ?_;refine bN [] [] ?_;refine aM ?_;refine eV (eT [7,8,11]) aB 7 ?_;refine hU 2 ?_;refine fW 0 lo1p 1 0 (eI (wR (t1+(1:Int)))) (eI (wR (t1+(1:Int)))) [(eI (wR (t1+(1:Int))))] hO rfl ?_;obtain⟨c1,h0⟩:=bA h0;refine EH (Ds:=[0<=(wR (t1+(1:Int)))/\(wR (t1+(1:Int)))<(lN t2)]) (by kernel_rfl) ⟨c1,trivial⟩ ?_;refine bD [(1,(.lp lo1p 0 0)),(4,(aC (!((decide (v0.Kind=((gD t2 (wR (t1+(1:Int)))).Kind)))&&((decide (v0.Num=((gD t2 (wR (t1+(1:Int)))).Num)))&&((pE v0.Text ((gD t2 (wR (t1+(1:Int)))).Text))&&true))))))] ?_;refine bG ?_;obtain rfl:=oI h0;exact aF (kU (x:=(aC (!((decide (v0.Kind=((gD t2 (wR (t1+(1:Int)))).Kind)))&&((decide (v0.Num=((gD t2 (wR (t1+(1:Int)))).Num)))&&((pE v0.Text ((gD t2 (wR (t1+(1:Int)))).Text))&&true)))))) (by kernel_rfl) (aR.refl _) ⟨rfl,hO.ext,hO.at 0 (by kernel_rfl),rfl⟩)

theorem xJ (x0:Int)(r:Bool)(h0:lK x0=some r):cU Tryz.prog 100 [(eI x0)] (aC r):=by
 intro H0;refine cQ Tryz.func100 ?_;have hO:=aJ.start H0;unfold lK at h0;refine aV aB 1 [] [] ?_;refine bM aB 4 [(2,(aC (!decide (x0=x0))))] ?_;refine bG ?_;obtain rfl:=oI h0;exact aF (Q_r hO)

theorem NG (x0:Int)(y1:Int)(r:Int)(h0:qG x0 y1=some r):cU Tryz.prog 122 [(eI x0),(eI y1)] (eI r):=by
 intro H0;refine cQ Tryz.func122 ?_;have hO:=aJ.start H0;unfold qG at h0;refine aV aB 1 [] [] ?_;refine aM ?_;refine aS aB 3 ?_;refine bJ 1 ?_;obtain⟨x1,hx2,h0⟩:=aW h0;refine cN (xJ x0 _ hx2) hO ?_;intro H hO;refine bB ?_;refine bN [] [(5,(aC x1))] ?_;refine aM ?_;refine aS aB 3 ?_;refine bJ 1 ?_;obtain⟨x4,hx5,h0⟩:=aW h0;refine cN (xJ y1 _ hx5) hO ?_;intro H hO;refine bB ?_;refine bN [] [(6,(aC x4))] ?_;refine aM ?_;refine aV aB 1 [5] [(11,(aC x1))] ?_;refine bH h0 (fun h0=>?_) (fun h0=>?_)
 ·refine aM ?_;refine bM aB 1 [(12,(aC x4))] ?_;refine bH h0 (fun h0=>?_) (fun h0=>?_)
  ·refine bM aB 1 [(4,(eI 0))] ?_;refine bG ?_;obtain rfl:=oI h0;exact aF (aQ (aQ (Q_r hO)))
  refine bI ?_;refine bD [] ?_;refine bM aB 1 [(4,(eI (-1:Int)))] ?_;refine bG ?_;obtain rfl:=oI h0;exact aF (aQ (Q_r hO))
 refine bI ?_;refine bD [(0,(eI x0)),(1,(eI y1)),(6,(aC x4))] ?_;refine aM ?_;refine aV aB 1 [6] [(13,(aC x4))] ?_;refine bH h0 (fun h0=>?_) (fun h0=>?_)
 ·refine bM aB 1 [(4,(eI 1))] ?_;refine bG ?_;obtain rfl:=oI h0;exact aF (aQ (Q_r hO))
 refine bI ?_;refine bD [(0,(eI x0)),(1,(eI y1))] ?_;refine aM ?_;refine aV aB 3 [] [(16,(aC (decide (x0<y1))))] ?_;refine bH h0 (fun h0=>?_) (fun h0=>?_)
 ·refine bM aB 1 [(4,(eI (-1:Int)))] ?_;refine bG ?_;obtain rfl:=oI h0;exact aF (aQ (Q_r hO))
 refine bI ?_;refine bD [(0,(eI x0)),(1,(eI y1))] ?_;refine aM ?_;refine bM aB 3 [(19,(aC (decide (y1<x0))))] ?_;refine bH h0 (fun h0=>?_) (fun h0=>?_)
 ·refine bM aB 1 [(4,(eI 1))] ?_;refine bG ?_;obtain rfl:=oI h0;exact aF (aQ (Q_r hO))
 refine bI ?_;refine bD [] ?_;refine bM aB 1 [(4,(eI 0))] ?_;refine bG ?_;obtain rfl:=oI h0;exact aF (Q_r hO)

theorem xY (x0:Int)(r:Bool)(h0:lY x0=some r):cU Tryz.prog 133 [(eI x0)] (aC r):=by
 intro H0;refine cQ Tryz.func133 ?_;have hO:=aJ.start H0;unfold lY at h0;refine aV aB 1 [] [] ?_;refine bM aB 4 [(2,(aC (!decide (x0=x0))))] ?_;refine bG ?_;obtain rfl:=oI h0;exact aF (Q_r hO)

theorem DP (x0:Int)(y1:Int)(r:Int)(h0:gY x0 y1=some r):cU Tryz.prog 130 [(eI x0),(eI y1)] (eI r):=by
 intro H0;refine cQ Tryz.func130 ?_;have hO:=aJ.start H0;unfold gY at h0;refine aV aB 1 [] [] ?_;refine aM ?_;refine aS aB 3 ?_;refine bJ 1 ?_;obtain⟨x1,hx2,h0⟩:=aW h0;refine cN (xY x0 _ hx2) hO ?_;intro H hO;refine bB ?_;refine bN [] [(5,(aC x1))] ?_;refine aM ?_;refine aS aB 3 ?_;refine bJ 1 ?_;obtain⟨x4,hx5,h0⟩:=aW h0;refine cN (xY y1 _ hx5) hO ?_;intro H hO;refine bB ?_;refine bN [] [(6,(aC x4))] ?_;refine aM ?_;refine aV aB 1 [5] [(11,(aC x1))] ?_;refine bH h0 (fun h0=>?_) (fun h0=>?_)
 ·refine aM ?_;refine bM aB 1 [(12,(aC x4))] ?_;refine bH h0 (fun h0=>?_) (fun h0=>?_)
  ·refine bM aB 1 [(4,(eI 0))] ?_;refine bG ?_;obtain rfl:=oI h0;exact aF (aQ (aQ (Q_r hO)))
  refine bI ?_;refine bD [] ?_;refine bM aB 1 [(4,(eI (-1:Int)))] ?_;refine bG ?_;obtain rfl:=oI h0;exact aF (aQ (Q_r hO))
 refine bI ?_;refine bD [(0,(eI x0)),(1,(eI y1)),(6,(aC x4))] ?_;refine aM ?_;refine aV aB 1 [6] [(13,(aC x4))] ?_;refine bH h0 (fun h0=>?_) (fun h0=>?_)
 ·refine bM aB 1 [(4,(eI 1))] ?_;refine bG ?_;obtain rfl:=oI h0;exact aF (aQ (Q_r hO))
 refine bI ?_;refine bD [(0,(eI x0)),(1,(eI y1))] ?_;refine aM ?_;refine aV aB 3 [] [(16,(aC (decide (x0<y1))))] ?_;refine bH h0 (fun h0=>?_) (fun h0=>?_)
 ·refine bM aB 1 [(4,(eI (-1:Int)))] ?_;refine bG ?_;obtain rfl:=oI h0;exact aF (aQ (Q_r hO))
 refine bI ?_;refine bD [(0,(eI x0)),(1,(eI y1))] ?_;refine aM ?_;refine bM aB 3 [(19,(aC (decide (y1<x0))))] ?_;refine bH h0 (fun h0=>?_) (fun h0=>?_)
 ·refine bM aB 1 [(4,(eI 1))] ?_;refine bG ?_;obtain rfl:=oI h0;exact aF (aQ (Q_r hO))
 refine bI ?_;refine bD [] ?_;refine bM aB 1 [(4,(eI 0))] ?_;refine bG ?_;obtain rfl:=oI h0;exact aF (Q_r hO)

theorem AR (a0:ByteArray)(b1:ByteArray)(r:Int)(h0:kO a0 b1=some r):cU Tryz.prog 134 [(CH a0),(CH b1)] (eI r):=by
 intro H0;refine cQ Tryz.func134 ?_;have hO:=aJ.start H0;unfold kO at h0;refine aV aB 1 [] [] ?_;refine aM ?_;refine aS aB 4 ?_;refine bJ 2 ?_;refine aFl 135 [(CH a0),(CH b1)] (eI (TN a0 b1)) (by kernel_rfl) (by kernel_rfl) (aD9 Tryz.func135 (by kernel_rfl) (by kernel_rfl) (by kernel_rfl) (by kernel_rfl) a0 b1) hO ?_;intro H hO;refine bB ?_;refine bD [(4,(eI (TN a0 b1)))] ?_;refine bG ?_;obtain rfl:=oI h0;exact aF (Q_r hO)

theorem ND (a0:ByteArray)(b1:ByteArray)(r:Int)(h0:oB a0 b1=some r):cU Tryz.prog 131 [(CH a0),(CH b1)] (eI r):=by
 intro H0;refine cQ Tryz.func131 ?_;have hO:=aJ.start H0;unfold oB at h0;refine aV aB 1 [] [] ?_;refine aM ?_;refine aS aB 4 ?_;refine bJ 2 ?_;obtain⟨x1,hx2,h0⟩:=aW h0;refine cN (AR a0 b1 _ hx2) hO ?_;intro H hO;refine bB ?_;refine bD [(4,(eI x1))] ?_;refine bG ?_;obtain rfl:=oI h0;exact aF (Q_r hO)

theorem QT (a0:aG)(b1:aG)(r:Int)(h0:sI a0 b1=some r):cU Tryz.prog 123 [(aD a0),(aD b1)] (eI r):=by
 intro H0;refine cQ Tryz.func123 ?_;have hO:=aJ.start H0;unfold sI at h0;refine aM ?_;refine aS aB 3 ?_;refine kJ 3 (aD a0) ?_;refine kJ 3 (aD b1) ?_;refine bB ?_;refine bD [(2,(.rp (aD a0))),(3,(.rp (aD b1)))] ?_;refine aM ?_;refine aS aB 7 ?_;refine bJ 1 ?_;obtain⟨⟨x1_0,x1_1⟩,hx2,h0⟩:=aW h0;refine cN (BE a0 _ hx2) hO ?_;intro H hO;rcases x1_0 with _ | y4 | y5
 ·replace h0:((mW b1).bind fun (x6_0,x6_1)=>match x6_0 with | .none_=>(cond ((!x1_1)||(!x6_1)) (some (0:Int)) (none)) | .k_number y9=>(cond ((!x1_1)||(!x6_1)) (some (0:Int)) (some (1:Int))) | .k_words y10=>(cond ((!x1_1)||(!x6_1)) (some (0:Int)) (none)))=some r:=h0;refine bB ?_;refine bN [2] [(5,(bO bS.none_)),(6,(aC x1_1))] ?_;refine aM ?_;refine aS aB 7 ?_;refine bJ 1 ?_;obtain⟨⟨x6_0,x6_1⟩,hx7,h0⟩:=aW h0;refine cN (BE b1 _ hx7) hO ?_;intro H hO;rcases x6_0 with _ | y9 | y10
  ·replace h0:(cond ((!x1_1)||(!x6_1)) (some (0:Int)) (none))=some r:=h0;refine bB ?_;refine bN [3] [(7,(bO bS.none_)),(8,(aC x6_1))] ?_;refine aM ?_;refine aV aB 6 [6,8] [(28,(aC ((!x1_1)||(!x6_1))))] ?_;refine bH h0 (fun h0=>?_) (fun h0=>?_)
   ·refine bM aB 1 [(4,(eI 0))] ?_;refine bG ?_;obtain rfl:=oI h0;exact aF (aQ (Q_r hO))
   refine bI ?_;refine bD [(5,(bO bS.none_)),(7,(bO bS.none_))] ?_;refine aV aB 7 [] [(9,(eI 0)),(10,(aC false))] ?_;refine aV aB 7 [] [(11,(eI 0)),(12,(aC false))] ?_;refine aM ?_;refine bT 0 ?_;refine aV aB 5 [] [(39,(aC false))] ?_;refine nB (false) (fun hc12=>?_) (fun hc12=>?_)
   ·cases hc12
   ·refine aV aB 2 [9,10,11,39] [(47,(aC false))] ?_;refine nB (false) (fun hc13=>?_) (fun hc13=>?_)
    ·cases hc13
    ·refine bM aB 2 [(5,(bO bS.none_)),(7,(bO bS.none_)),(49,(aC false))] ?_;refine nB (false) (fun hc14=>?_) (fun hc14=>?_)
     ·cases hc14
     ·refine bI ?_;refine dO [(5,(bO bS.none_)),(7,(bO bS.none_))] ?_;refine aF (aU (aE (?_)));refine aM ?_;refine eV (eT []) aB 6 ?_
      cases h0
  ·replace h0:(cond ((!x1_1)||(!x6_1)) (some (0:Int)) (some (1:Int)))=some r:=h0;refine bB ?_;refine bN [3] [(7,(bO (bS.k_number y9))),(8,(aC x6_1))] ?_;refine aM ?_;refine aV aB 6 [6,8] [(28,(aC ((!x1_1)||(!x6_1))))] ?_;refine bH h0 (fun h0=>?_) (fun h0=>?_)
   ·refine bM aB 1 [(4,(eI 0))] ?_;refine bG ?_;obtain rfl:=oI h0;exact aF (aQ (Q_r hO))
   refine bI ?_;refine bD [(5,(bO bS.none_)),(7,(bO (bS.k_number y9)))] ?_;refine aV aB 7 [] [(9,(eI 0)),(10,(aC false))] ?_;refine aV aB 7 [] [(11,(eI y9)),(12,(aC true))] ?_;refine aM ?_;refine bT 0 ?_;refine aV aB 5 [] [(39,(aC false))] ?_;refine nB (false) (fun hc16=>?_) (fun hc16=>?_)
   ·cases hc16
   ·refine aV aB 2 [9,10,11,39] [(47,(aC false))] ?_;refine nB (false) (fun hc17=>?_) (fun hc17=>?_)
    ·cases hc17
    ·refine bM aB 2 [(5,(bO bS.none_)),(7,(bO (bS.k_number y9))),(49,(aC true))] ?_;refine nB (true) (fun hc18=>?_) (fun hc18=>?_)
     ·refine bM aB 1 [(4,(eI 1))] ?_;refine bG ?_;obtain rfl:=oI h0;exact aF (bF (aQ (Q_r hO)))
     ·cases hc18
  ·replace h0:(cond ((!x1_1)||(!x6_1)) (some (0:Int)) (none))=some r:=h0;refine bB ?_;refine bN [3] [(7,(bO (bS.k_words y10))),(8,(aC x6_1))] ?_;refine aM ?_;refine aV aB 6 [6,8] [(28,(aC ((!x1_1)||(!x6_1))))] ?_;refine bH h0 (fun h0=>?_) (fun h0=>?_)
   ·refine bM aB 1 [(4,(eI 0))] ?_;refine bG ?_;obtain rfl:=oI h0;exact aF (aQ (Q_r hO))
   refine bI ?_;refine bD [(5,(bO bS.none_)),(7,(bO (bS.k_words y10)))] ?_;refine aV aB 7 [] [(9,(eI 0)),(10,(aC false))] ?_;refine aV aB 7 [] [(11,(eI 0)),(12,(aC false))] ?_;refine aM ?_;refine bT 0 ?_;refine aV aB 5 [] [(39,(aC false))] ?_;refine nB (false) (fun hc20=>?_) (fun hc20=>?_)
   ·cases hc20
   ·refine aV aB 2 [9,10,11,39] [(47,(aC false))] ?_;refine nB (false) (fun hc21=>?_) (fun hc21=>?_)
    ·cases hc21
    ·refine bM aB 2 [(5,(bO bS.none_)),(7,(bO (bS.k_words y10))),(49,(aC false))] ?_;refine nB (false) (fun hc22=>?_) (fun hc22=>?_)
     ·cases hc22
     ·refine bI ?_;refine dO [(5,(bO bS.none_)),(7,(bO (bS.k_words y10)))] ?_;refine aF (aU (aE (?_)));refine aM ?_;refine eV (eT []) aB 6 ?_
      cases h0
 ·replace h0:((mW b1).bind fun (x23_0,x23_1)=>match x23_0 with | .none_=>(cond ((!x1_1)||(!x23_1)) (some (0:Int)) (some (-1:Int))) | .k_number y26=>(cond ((!x1_1)||(!x23_1)) (some (0:Int)) ((gY y4 y26).bind fun x33=>some x33)) | .k_words y27=>(cond ((!x1_1)||(!x23_1)) (some (0:Int)) (some (-1:Int))))=some r:=h0;refine bB ?_;refine bN [2] [(5,(bO (bS.k_number y4))),(6,(aC x1_1))] ?_;refine aM ?_;refine aS aB 7 ?_;refine bJ 1 ?_;obtain⟨⟨x23_0,x23_1⟩,hx24,h0⟩:=aW h0;refine cN (BE b1 _ hx24) hO ?_;intro H hO;rcases x23_0 with _ | y26 | y27
  ·replace h0:(cond ((!x1_1)||(!x23_1)) (some (0:Int)) (some (-1:Int)))=some r:=h0;refine bB ?_;refine bN [3] [(7,(bO bS.none_)),(8,(aC x23_1))] ?_;refine aM ?_;refine aV aB 6 [6,8] [(28,(aC ((!x1_1)||(!x23_1))))] ?_;refine bH h0 (fun h0=>?_) (fun h0=>?_)
   ·refine bM aB 1 [(4,(eI 0))] ?_;refine bG ?_;obtain rfl:=oI h0;exact aF (aQ (Q_r hO))
   refine bI ?_;refine bD [(5,(bO (bS.k_number y4))),(7,(bO bS.none_))] ?_;refine aV aB 7 [] [(9,(eI y4)),(10,(aC true))] ?_;refine aV aB 7 [] [(11,(eI 0)),(12,(aC false))] ?_;refine aM ?_;refine bT 0 ?_;refine aV aB 5 [] [(39,(aC false))] ?_;refine nB (false) (fun hc29=>?_) (fun hc29=>?_)
   ·cases hc29
   ·refine aV aB 2 [9,10,11,39] [(47,(aC true))] ?_;refine nB (true) (fun hc30=>?_) (fun hc30=>?_)
    ·refine bM aB 1 [(4,(eI (-1:Int)))] ?_;refine bG ?_;obtain rfl:=oI h0;exact aF (bF (aQ (Q_r hO)))
    ·cases hc30
  ·replace h0:(cond ((!x1_1)||(!x23_1)) (some (0:Int)) ((gY y4 y26).bind fun x33=>some x33))=some r:=h0;refine bB ?_;refine bN [3] [(7,(bO (bS.k_number y26))),(8,(aC x23_1))] ?_;refine aM ?_;refine aV aB 6 [6,8] [(28,(aC ((!x1_1)||(!x23_1))))] ?_;refine bH h0 (fun h0=>?_) (fun h0=>?_)
   ·refine bM aB 1 [(4,(eI 0))] ?_;refine bG ?_;obtain rfl:=oI h0;exact aF (aQ (Q_r hO))
   refine bI ?_;refine bD [(5,(bO (bS.k_number y4))),(7,(bO (bS.k_number y26)))] ?_;refine aV aB 7 [] [(9,(eI y4)),(10,(aC true))] ?_;refine aV aB 7 [] [(11,(eI y26)),(12,(aC true))] ?_;refine aM ?_;refine bT 0 ?_;refine aV aB 5 [] [(39,(aC true))] ?_;refine nB (true) (fun hc32=>?_) (fun hc32=>?_)
   ·refine aM ?_;refine aS aB 4 ?_;refine bJ 2 ?_;obtain⟨x33,hx34,h0⟩:=aW h0;refine cN (DP y4 y26 _ hx34) hO ?_;intro H hO;refine bB ?_;refine bD [(4,(eI x33))] ?_;refine bG ?_;obtain rfl:=oI h0;exact aF (bF (aQ (Q_r hO)))
   ·cases hc32
  ·replace h0:(cond ((!x1_1)||(!x23_1)) (some (0:Int)) (some (-1:Int)))=some r:=h0;refine bB ?_;refine bN [3] [(7,(bO (bS.k_words y27))),(8,(aC x23_1))] ?_;refine aM ?_;refine aV aB 6 [6,8] [(28,(aC ((!x1_1)||(!x23_1))))] ?_;refine bH h0 (fun h0=>?_) (fun h0=>?_)
   ·refine bM aB 1 [(4,(eI 0))] ?_;refine bG ?_;obtain rfl:=oI h0;exact aF (aQ (Q_r hO))
   refine bI ?_;refine bD [(5,(bO (bS.k_number y4))),(7,(bO (bS.k_words y27)))] ?_;refine aV aB 7 [] [(9,(eI y4)),(10,(aC true))] ?_;refine aV aB 7 [] [(11,(eI 0)),(12,(aC false))] ?_;refine aM ?_;refine bT 0 ?_;refine aV aB 5 [] [(39,(aC false))] ?_;refine nB (false) (fun hc37=>?_) (fun hc37=>?_)
   ·cases hc37
   ·refine aV aB 2 [9,10,11,39] [(47,(aC true))] ?_;refine nB (true) (fun hc38=>?_) (fun hc38=>?_)
    ·refine bM aB 1 [(4,(eI (-1:Int)))] ?_;refine bG ?_;obtain rfl:=oI h0;exact aF (bF (aQ (Q_r hO)))
    ·cases hc38
 ·replace h0:((mW b1).bind fun (x39_0,x39_1)=>match x39_0 with | .none_=>(cond ((!x1_1)||(!x39_1)) (some (0:Int)) (none)) | .k_number y42=>(cond ((!x1_1)||(!x39_1)) (some (0:Int)) (some (1:Int))) | .k_words y43=>(cond ((!x1_1)||(!x39_1)) (some (0:Int)) ((oB y5 y43).bind fun x56=>some x56)))=some r:=h0;refine bB ?_;refine bN [2] [(5,(bO (bS.k_words y5))),(6,(aC x1_1))] ?_;refine aM ?_;refine aS aB 7 ?_;refine bJ 1 ?_;obtain⟨⟨x39_0,x39_1⟩,hx40,h0⟩:=aW h0;refine cN (BE b1 _ hx40) hO ?_;intro H hO;rcases x39_0 with _ | y42 | y43
  ·replace h0:(cond ((!x1_1)||(!x39_1)) (some (0:Int)) (none))=some r:=h0;refine bB ?_;refine bN [3] [(7,(bO bS.none_)),(8,(aC x39_1))] ?_;refine aM ?_;refine aV aB 6 [6,8] [(28,(aC ((!x1_1)||(!x39_1))))] ?_;refine bH h0 (fun h0=>?_) (fun h0=>?_)
   ·refine bM aB 1 [(4,(eI 0))] ?_;refine bG ?_;obtain rfl:=oI h0;exact aF (aQ (Q_r hO))
   refine bI ?_;refine bD [(5,(bO (bS.k_words y5))),(7,(bO bS.none_))] ?_;refine aV aB 7 [] [(9,(eI 0)),(10,(aC false))] ?_;refine aV aB 7 [] [(11,(eI 0)),(12,(aC false))] ?_;refine aM ?_;refine bT 0 ?_;refine aV aB 5 [] [(39,(aC false))] ?_;refine nB (false) (fun hc45=>?_) (fun hc45=>?_)
   ·cases hc45
   ·refine aV aB 2 [9,10,11,39] [(47,(aC false))] ?_;refine nB (false) (fun hc46=>?_) (fun hc46=>?_)
    ·cases hc46
    ·refine bM aB 2 [(5,(bO (bS.k_words y5))),(7,(bO bS.none_)),(49,(aC false))] ?_;refine nB (false) (fun hc47=>?_) (fun hc47=>?_)
     ·cases hc47
     ·refine bI ?_;refine dO [(5,(bO (bS.k_words y5))),(7,(bO bS.none_))] ?_;refine aF (aU (aE (?_)));refine aM ?_;refine eV (eT []) aB 6 ?_
      cases h0
  ·replace h0:(cond ((!x1_1)||(!x39_1)) (some (0:Int)) (some (1:Int)))=some r:=h0;refine bB ?_;refine bN [3] [(7,(bO (bS.k_number y42))),(8,(aC x39_1))] ?_;refine aM ?_;refine aV aB 6 [6,8] [(28,(aC ((!x1_1)||(!x39_1))))] ?_;refine bH h0 (fun h0=>?_) (fun h0=>?_)
   ·refine bM aB 1 [(4,(eI 0))] ?_;refine bG ?_;obtain rfl:=oI h0;exact aF (aQ (Q_r hO))
   refine bI ?_;refine bD [(5,(bO (bS.k_words y5))),(7,(bO (bS.k_number y42)))] ?_;refine aV aB 7 [] [(9,(eI 0)),(10,(aC false))] ?_;refine aV aB 7 [] [(11,(eI y42)),(12,(aC true))] ?_;refine aM ?_;refine bT 0 ?_;refine aV aB 5 [] [(39,(aC false))] ?_;refine nB (false) (fun hc49=>?_) (fun hc49=>?_)
   ·cases hc49
   ·refine aV aB 2 [9,10,11,39] [(47,(aC false))] ?_;refine nB (false) (fun hc50=>?_) (fun hc50=>?_)
    ·cases hc50
    ·refine bM aB 2 [(5,(bO (bS.k_words y5))),(7,(bO (bS.k_number y42))),(49,(aC true))] ?_;refine nB (true) (fun hc51=>?_) (fun hc51=>?_)
     ·refine bM aB 1 [(4,(eI 1))] ?_;refine bG ?_;obtain rfl:=oI h0;exact aF (bF (aQ (Q_r hO)))
     ·cases hc51
  ·replace h0:(cond ((!x1_1)||(!x39_1)) (some (0:Int)) ((oB y5 y43).bind fun x56=>some x56))=some r:=h0;refine bB ?_;refine bN [3] [(7,(bO (bS.k_words y43))),(8,(aC x39_1))] ?_;refine aM ?_;refine aV aB 6 [6,8] [(28,(aC ((!x1_1)||(!x39_1))))] ?_;refine bH h0 (fun h0=>?_) (fun h0=>?_)
   ·refine bM aB 1 [(4,(eI 0))] ?_;refine bG ?_;obtain rfl:=oI h0;exact aF (aQ (Q_r hO))
   refine bI ?_;refine bD [(5,(bO (bS.k_words y5))),(7,(bO (bS.k_words y43)))] ?_;refine aV aB 7 [] [(9,(eI 0)),(10,(aC false))] ?_;refine aV aB 7 [] [(11,(eI 0)),(12,(aC false))] ?_;refine aM ?_;refine bT 0 ?_;refine aV aB 5 [] [(39,(aC false))] ?_;refine nB (false) (fun hc53=>?_) (fun hc53=>?_)
   ·cases hc53
   ·refine aV aB 2 [9,10,11,39] [(47,(aC false))] ?_;refine nB (false) (fun hc54=>?_) (fun hc54=>?_)
    ·cases hc54
    ·refine bM aB 2 [(5,(bO (bS.k_words y5))),(7,(bO (bS.k_words y43))),(49,(aC false))] ?_;refine nB (false) (fun hc55=>?_) (fun hc55=>?_)
     ·cases hc55
     ·refine bI ?_;refine dO [(5,(bO (bS.k_words y5))),(7,(bO (bS.k_words y43)))] ?_;refine aF (aU (aE (?_)));refine aM ?_;refine eV (eT []) aB 6 ?_;refine hU 4 ?_;obtain⟨x56,hx57,h0⟩:=aW h0;refine BF (ND y5 y43 _ hx57) hO ?_;intro H hO;refine gP ?_;refine bD [(4,(eI x56))] ?_;refine bG ?_;obtain rfl:=oI h0;exact aF (Q_r hO)

theorem WO (a0:(List aG))(b1:(List aG))(r:Int)(h0:vU a0 b1=some r):cU Tryz.prog 98 [(eL aD a0),(eL aD b1)] (eI r):=by
 intro H0;refine cQ Tryz.func98 ?_;have hO:=aJ.start H0;unfold vU at h0;refine aM ?_;refine aS aB 2 ?_;refine kJ 1 (eL aD b1) ?_;refine bB ?_;refine bN [1] [(3,(.rp (eL aD b1)))] ?_;refine aM ?_;refine aM ?_;refine aS aB 8 ?_;refine bJ 1 ?_;obtain⟨x1,hx2,h0⟩:=aW h0;refine cN (LO a0 _ hx2) hO ?_;intro H hO;refine bJ 5 ?_;obtain⟨x4,hx5,h0⟩:=aW h0;refine mG [(10,false)] 97 [(eL aD b1)] (aC x4) (!(!x1)) (by kernel_rfl) (by kernel_rfl) (by kernel_rfl) (fun hb6=>(LO b1 _ (gV hx5 hb6))) hO ?_;intro H hO;refine bB ?_;refine bN [] [(14,(aC ((!x1)||(!x4))))] ?_;refine bH h0 (fun h0=>?_) (fun h0=>?_)
 ·refine bM aB 1 [(4,(eI 0))] ?_;refine bG ?_;obtain rfl:=oI h0;exact aF (aQ (Q_r hO))
 refine bI ?_;refine bD [(0,(eL aD a0)),(3,(.rp (eL aD b1)))] ?_;refine aV aB 6 [] [(5,(eI (if (lN b1)<(lN a0) then (lN b1) else (lN a0))))] ?_;refine aM ?_;refine eV (eT []) aB 7 ?_;obtain⟨c8,h0⟩:=bA h0;refine cJ 4 [0<=(if (lN b1)<(lN a0) then (lN b1) else (lN a0))/\(if (lN b1)<(lN a0) then (lN b1) else (lN a0))<=(lN a0)] ⟨c8,trivial⟩ ?_;obtain⟨x9,hx10,h0⟩:=aW h0;refine aFU (L':=fun lo11=>[(lo11,1,[(eI x9.1)])]) 1 [(eI x9.1)] 120 [(.rp (eL aD b1))] (fun lo11=>(.fn (.func 121) [] [(.lp lo11 0 0),(.rp (eL aD x9.2))])) (by kernel_rfl) (by kernel_rfl) (SP b1 _ hx10) hO (fun _=>by kernel_rfl) ?_;intro lo11 H hO;obtain⟨x12,hx13,h0⟩:=aW h0;refine aFC (fun st G'=>G'=up [(lo11,1,[(eI st)])]++[]) [(lo11,1,[(eI x12.1)])] x9.1 x12.1 119 [(.sl false (Int.toNat (if (lN b1)<(lN a0) then (lN b1) else (lN a0))) (fun i=>aD (List.getD a0 i default))),(.fn (.func 121) [] [(.lp lo11 0 0),(.rp (eL aD x9.2))])] (eI x12.2) (by kernel_rfl) (by kernel_rfl) (yU.sub (as0':=[(eL aD (List.take (Int.toNat (if (lN b1)<(lN a0) then (lN b1) else (lN a0))) a0)),(.fn (.func 121) [] [(.lp lo11 0 0),(.rp (eL aD x9.2))])]) (wU _ (List.take (Int.toNat (if (lN b1)<(lN a0) then (lN b1) else (lN a0))) a0) (.fn (.func 121) [] [(.lp lo11 0 0),(.rp (eL aD x9.2))]) (fun st y0=>(kZ y0 st x9.2).bind fun o=>some (o.2,o.1)) (fun st y0 st2 rr hr=>(NF y0 lo11 st x9.2 _ (aGK hr)).toV (ys:=[]) (zs:=[(aD y0)]) (cs:=[(.lp lo11 0 0),(.rp (eL aD x9.2))]) (fun Gx hG=>⟨up [],up []++[],hG,rfl⟩)) _ _ hx13) ⟨aBB (Int.toNat_le.2 (And.right c8)),aR.refl _,trivial⟩) hO rfl (fun _ h=>h) ?_;intro H hO;refine gP ?_;replace hO:=hO.pick (L':=[]) [] (by decide) (by kernel_rfl);refine bN [5] [(6,(eI x12.2))] ?_;refine aM ?_;refine aV aB 2 [] [(27,(aC (decide (x12.2<(0:Int)))))] ?_;refine bH h0 (fun h0=>?_) (fun h0=>?_)
 ·refine aM ?_;refine aS aB 6 ?_;refine bJ 4 ?_;obtain⟨x15,hx16,h0⟩:=aW h0;refine cN (NG (lN a0) (lN b1) _ hx16) hO ?_;intro H hO;refine bB ?_;refine bD [(4,(eI x15))] ?_;refine bG ?_;obtain rfl:=oI h0;exact aF (aQ (Q_r hO))
 refine bI ?_;refine bD [(0,(eL aD a0)),(3,(.rp (eL aD b1))),(6,(eI x12.2))] ?_;refine aM ?_;refine eV (eT [36,37,40,41]) aB 10 ?_;obtain⟨c18,h0⟩:=bA h0;obtain⟨c19,h0⟩:=bA h0;refine cJ 8 [0<=x12.2/\x12.2<(lN a0),0<=x12.2/\x12.2<(lN b1)] ⟨c18,c19,trivial⟩ ?_;obtain⟨x20,hx21,h0⟩:=aW h0;refine BF (QT (gD a0 x12.2) (gD b1 x12.2) _ hx21) hO ?_;intro H hO;refine gP ?_;refine bD [(4,(eI x20))] ?_;refine bG ?_;obtain rfl:=oI h0;exact aF (Q_r hO)

theorem OG (l0:(List aK))(holds1_f:Nat)(holds1_a holds1_c:List V)(yA:(List aI)->Option Bool)(holds1_h:∀ a0 r,yA a0=some r->cU Tryz.prog holds1_f (holds1_a++[(eL aO a0)]++holds1_c) (aC r))(r:Bool)(h0:wO l0 yA=some r):cU Tryz.prog 72 [(eL aH l0),(.fn (.func holds1_f) holds1_a holds1_c)] (aC r):=by
 intro H0;refine CG aB Tryz.func72 (by kernel_rfl) (by kernel_rfl) (by kernel_rfl) ?_;have hO:=aJ.start H0;unfold wO at h0;refine aM ?_;refine aS aB 2 ?_;refine kJ 1 (.fn (.func holds1_f) holds1_a holds1_c) ?_;refine mN 1 (aC false) (by kernel_rfl) (by kernel_rfl) hO ?_;intro lo1 H hO;refine dU ?_;refine bN [1] [(3,(.rp (.fn (.func holds1_f) holds1_a holds1_c))),(4,(.lp lo1 0 0))] ?_;refine aM ?_;refine aV aB 3 [] [(11,(aC (decide ((4096:Int)<(lN l0)))))] ?_;refine bH h0 (fun h0=>?_) (fun h0=>?_)
 ·refine aM ?_;refine aS aB 1 ?_;refine jX 0 lo1 1 0 (aC false) (aC false) [(aC false)] [(lo1,1,[(aC false)])] hO rfl (by kernel_rfl) ?_;intro H hO;refine dU ?_;refine bD [(4,(.lp lo1 0 0))] ?_;refine bG ?_;obtain rfl:=oI h0;exact aF (aQ (QM0 (.inr rfl) (rs:=[.cell 4 4]) (xs:=[(aC false)]) (x:=(aC false)) (by kernel_rfl) (nZ (lo:=lo1) (k:=1) (y:=(aC false)) (x:=(aC false)) 0 hO (by kernel_rfl) (by kernel_rfl) (by kernel_rfl) (by kernel_rfl) oP) (by kernel_rfl) ⟨rfl,hO.out⟩))
 refine bI ?_;refine bD [(0,(eL aH l0)),(3,(.rp (.fn (.func holds1_f) holds1_a holds1_c))),(4,(.lp lo1 0 0))] ?_;refine aM ?_;refine aS aB 1 ?_;refine rK 1 (.sl true 0 (fun _=>.bad)) (eL aD ([])) (by kernel_rfl) (by kernel_rfl) (by kernel_rfl) (gQ) (by kernel_rfl) (by kernel_rfl) hO ?_;intro lo3 H hO;refine dU ?_;refine bN [] [(5,(.lp lo3 0 0))] ?_;refine aM ?_;refine aS aB 2 ?_;refine mN 1 (aC false) (by kernel_rfl) (by kernel_rfl) hO ?_;intro lo4 H hO;refine jX 2 lo4 1 0 (aC false) (aC false) [(aC false)] [(lo1,1,[(aC false)]),(lo3,1,[(eL aD ([]))]),(lo4,1,[(aC false)])] hO rfl (by kernel_rfl) ?_;intro H hO;refine dU ?_;refine bN [] [(6,(.lp lo4 0 0))] ?_;refine aM ?_;refine aM ?_;refine aS aB 2 ?_;refine bJ 1 ?_;obtain⟨x5,hx6,h0⟩:=aW h0;refine cN (OE l0 _ hx6) hO ?_;intro H hO;refine dU ?_;refine bN [0] [(13,(.fn (.func 103) [] [(.rp (eL aH x5))]))] ?_;refine bT 0 ?_;refine dZ [(3,(.rp (.fn (.func holds1_f) holds1_a holds1_c))),(4,(.lp lo1 0 0)),(5,(.lp lo3 0 0)),(6,(.lp lo4 0 0)),(13,(.fn (.func 103) [] [(.rp (eL aH x5))]))] ?_;refine dR (fun T H=>∃ t4:Bool,∃ qL:(List aG),∃ lM:Bool,∃ yX:(List aK),Has T [(3,(.rp (.fn (.func holds1_f) holds1_a holds1_c))),(4,(.lp lo1 0 0)),(5,(.lp lo3 0 0)),(6,(.lp lo4 0 0)),(13,(.fn (.func 103) [] [(.rp (eL aH yX))]))]/\aJ ⟨H0,[],[]⟩ H [(lo1,1,[(aC t4)]),(lo3,1,[(eL aD qL)]),(lo4,1,[(aC lM)])]/\BP yA t4 qL lM yX=some r) ?_ ⟨false,[],false,x5,aZ,hO,h0⟩;clear hO h0;rintro T H ⟨t4,qL,lM,yX,hT,hO,h0⟩;refine bC (l:=[(3,(.rp (.fn (.func holds1_f) holds1_a holds1_c))),(4,(.lp lo1 0 0)),(5,(.lp lo3 0 0)),(6,(.lp lo4 0 0)),(13,(.fn (.func 103) [] [(.rp (eL aH yX))]))]) hT ?_;clear hT;unfold BP at h0;obtain⟨o0,hl0,h0⟩:=aW h0;refine AQ (fid:=103) (ys:=[]) (cs:=[(.rp (eL aH yX))]) #[14,15] (fun (A:tD) (b lL:Nat) (st:(Bool×(List aG)×Bool)⊕(Bool×(List aG)×Bool)) (G':Gs)=>Sum.elim (fun (s:Bool×(List aG)×Bool)=>G'=(lL,.raw (iB b A .ready none))::(up [(lo1,1,[(aC s.1)]),(lo3,1,[(eL aD s.2.1)]),(lo4,1,[(aC s.2.2)])]++[])) (fun (s:Bool×(List aG)×Bool)=>G'=(lL,.raw (iB b A .done (some .ret)))::(up [(lo1,1,[(aC s.1)]),(lo3,1,[(eL aD s.2.1)]),(lo4,1,[(aC s.2.2)])]++[])) st) (.inl (t4,qL,lM)) o0 (.tup []) (by kernel_rfl) (by kernel_rfl) (by kernel_rfl) hO (fun _ _=>rfl) ?_ ?_
 ·intro b lL;clear hO h0;refine HF _ b (fun st t14 t15=>rnd (fun (s:Bool×(List aG)×Bool)=>rN yA yX s.1 s.2.1 s.2.2 t14 t15) st) ?_ yX _ _ hl0;intro st t14 t15 out1 rr hr;obtain⟨s,rfl,h1,rfl⟩:=LU hr;clear hr;intro Hr Gr hi hg;obtain⟨t4,qL,lM⟩:=s;dsimp only [Sum.elim_inl] at hi;obtain rfl:=hi;replace h1:rN yA yX t4 qL lM t14 t15=some out1:=h1;unfold rN at h1;obtain⟨E1,hE,hO⟩:=qP hg;refine qQ (yE (hO.gm 0 _ rfl).2 (by kernel_rfl) (by kernel_rfl) ?_);refine dZ [(3,(.rp (.fn (.func holds1_f) holds1_a holds1_c))),(4,(.lp lo1 0 0)),(5,(.lp lo3 0 0)),(6,(.lp lo4 0 0)),(13,(.fn (.func 103) [] [(.rp (eL aH yX))])),(14,(eL aD t14)),(15,(eL aO t15))] ?_;refine aV aB 1 [13,14] [(7,(eL aD t14))] ?_;refine aS aB 1 ?_;refine bB ?_;refine dO [(3,(.rp (.fn (.func holds1_f) holds1_a holds1_c))),(4,(.lp lo1 0 0)),(5,(.lp lo3 0 0)),(6,(.lp lo4 0 0)),(7,(eL aD t14)),(8,(eL aO t15))] ?_;refine aF (⟨rfl,rfl,(hO.gm 0 _ rfl).2,?_⟩);intro o1 ho1;replace hO:=hO.oX o1;refine bT 1 ?_;refine aM ?_;refine aM ?_;refine aS aB 18 ?_;refine bJ 1 ?_;obtain⟨x7,hx8,h1⟩:=aW h1;refine cN (LO t14 _ hx8) hO ?_;intro H hO;refine bJ 4 ?_;refine sA [(19,false)] 2 lo4 1 0 (aC lM) (aC lM) [(aC lM)] (by kernel_rfl) (by kernel_rfl) hO (by kernel_rfl) (!(!x7)) (by kernel_rfl) (fun hb10=>rfl) ?_;refine bJ 6 ?_;refine sA [(21,true),(19,false)] 1 lo3 1 0 (eL aD qL) (eL aD qL) [(eL aD qL)] (by kernel_rfl) (by kernel_rfl) hO (by kernel_rfl) (lM&&(!(!x7))) (by kernel_rfl) (fun hb11=>rfl) ?_;refine bJ 8 ?_;obtain⟨x12,hx13,h1⟩:=aW h1;refine mG [(21,true),(19,false)] 98 [(eL aD qL),(eL aD t14)] (eI x12) (lM&&(!(!x7))) (by kernel_rfl) (by kernel_rfl) (by kernel_rfl) (fun hb14=>(WO qL t14 _ (gV hx13 hb14))) hO ?_;intro H hO;refine bJ 15 ?_;obtain⟨x15,hx16,h1⟩:=aW h1;refine mG [(28,false)] holds1_f (holds1_a++[(eL aO t15)]++holds1_c) (aC x15) (!((!x7)||(lM&&(decide ((0:Int)<=x12))))) (by kernel_rfl) (by kernel_rfl) (by kernel_rfl) (fun hb17=>(holds1_h t15 _ (gV hx16 hb17))) hO ?_;intro H hO;refine bB ?_;refine bN [3,8] [(33,(aC (((!x7)||(lM&&(decide ((0:Int)<=x12))))||(!x15))))] ?_;refine bH h1 (fun h1=>?_) (fun h1=>?_)
  ·refine aM ?_;refine aS aB 1 ?_;refine jX 0 lo1 1 0 (aC t4) (aC false) [(aC t4)] [(lo1,1,[(aC false)]),(lo3,1,[(eL aD qL)]),(lo4,1,[(aC lM)])] hO rfl (by kernel_rfl) ?_;intro H hO;refine dU ?_;refine bN [7,33] [] ?_;refine bG ?_;refine dO [(4,(.lp lo1 0 0)),(5,(.lp lo3 0 0)),(6,(.lp lo4 0 0))] ?_;obtain rfl:=oI h1;exact aF (aQ (bF (⟨(eB hO hE ho1 .dead).1,rfl,_,rfl,(eB hO hE ho1 _).2⟩)))
  refine bI ?_;refine bD [(4,(.lp lo1 0 0)),(5,(.lp lo3 0 0)),(6,(.lp lo4 0 0)),(7,(eL aD t14))] ?_;refine aS aB 3 ?_;refine bJ 1 ?_;refine jX 1 lo3 1 0 (eL aD qL) (eL aD t14) [(eL aD qL)] [(lo1,1,[(aC t4)]),(lo3,1,[(eL aD t14)]),(lo4,1,[(aC lM)])] hO rfl (by kernel_rfl) ?_;intro H hO;refine jX 2 lo4 1 0 (aC lM) (aC true) [(aC lM)] [(lo1,1,[(aC t4)]),(lo3,1,[(eL aD t14)]),(lo4,1,[(aC true)])] hO rfl (by kernel_rfl) ?_;intro H hO;refine dU ?_;refine dO [(4,(.lp lo1 0 0)),(5,(.lp lo3 0 0)),(6,(.lp lo4 0 0))] ?_;obtain rfl:=oI h1;exact aF (aU (⟨(eB hO hE ho1 .dead).1,rfl,_,rfl,(eB hO hE ho1 _).2⟩))
 ·intro b lD19 lL H' G' hi hO;rcases o0 with s | s
  ·dsimp only [Sum.elim_inl] at hi;obtain rfl:=hi;replace h0:(some true)=some r:=h0;obtain⟨hlL,hO⟩:=nR hO;refine⟨_,_,hlL,(by intro e; cases e),?_⟩;refine dO [(4,(.lp lo1 0 0))] ?_;replace hO:=hO.pick (L':=[(lo1,1,[(aC s.1)])]) [0] (by decide) (by kernel_rfl);refine aF (aU (aE (?_)));refine aM ?_;refine aS aB 1 ?_;refine jX 0 lo1 1 0 (aC s.1) (aC true) [(aC s.1)] [(lo1,1,[(aC true)])] hO rfl (by kernel_rfl) ?_;intro H hO;refine dU ?_;refine bD [(4,(.lp lo1 0 0))] ?_;refine bG ?_;obtain rfl:=oI h0;have hD:=(hO.gm 0 _ rfl).2;replace hO:=(hO.oX .dead).pF;exact aF (QM1 (.inr rfl) hD (rs:=[.cell 4 4]) (xs:=[(aC true)]) (x:=(aC true)) (by kernel_rfl) (nZ (lo:=lo1) (k:=1) (y:=(aC true)) (x:=(aC true)) 0 hO (by kernel_rfl) (by kernel_rfl) (by kernel_rfl) (by kernel_rfl) oP) (by kernel_rfl) ⟨rfl,hO.out⟩)
  ·dsimp only [Sum.elim_inr] at hi;obtain rfl:=hi;replace h0:(some s.1)=some r:=h0;obtain⟨hlL,hO⟩:=nR hO;refine⟨_,_,hlL,(by intro e; cases e),?_⟩;refine bG ?_;replace hO:=hO.pick (L':=[(lo1,1,[(aC s.1)])]) [0] (by decide) (by kernel_rfl);obtain rfl:=oI h0;have hD:=(hO.gm 0 _ rfl).2;replace hO:=(hO.oX .dead).pF;exact aF (bF (aQ (QM1 (.inr rfl) hD (rs:=[.cell 4 4]) (xs:=[(aC s.1)]) (x:=(aC s.1)) (by kernel_rfl) (nZ (lo:=lo1) (k:=1) (y:=(aC s.1)) (x:=(aC s.1)) 0 hO (by kernel_rfl) (by kernel_rfl) (by kernel_rfl) (by kernel_rfl) oP) (by kernel_rfl) ⟨rfl,hO.out⟩)))

theorem aAI (n0:Int)(r:Bool)(h0:DA n0=some r):cU Tryz.prog 96 [(eI n0)] (aC r):=by
 intro H0;refine cQ Tryz.func96 ?_;have hO:=aJ.start H0;unfold DA at h0;refine aV aB 1 [] [] ?_;refine bM aB 7 [(2,(aC ((decide (n0<=(1048576:Int)))&&(decide ((-1048576:Int)<=n0)))))] ?_;refine bG ?_;obtain rfl:=oI h0;exact aF (Q_r hO)

theorem DZ (f0:(List aI))(r:Bool)(h0:qI f0=some r):cU Tryz.prog 69 [(eL aO f0)] (aC r):=by
 intro H0;refine cQ Tryz.func69 ?_;have hO:=aJ.start H0;unfold qI at h0;refine aV aB 1 [] [] ?_;refine aM ?_;refine aV aB 3 [] [(8,(aC (decide ((1024:Int)<(lN f0)))))] ?_;refine bH h0 (fun h0=>?_) (fun h0=>?_)
 ·refine bM aB 1 [(2,(aC false))] ?_;refine bG ?_;obtain rfl:=oI h0;exact aF (aQ (Q_r hO))
 refine bI ?_;refine bD [(0,(eL aO f0))] ?_;refine aV aB 1 [] [(3,(eI (-2:Int)))] ?_;refine dN (fun T H=>Has T []/\aJ ⟨H0,[],[]⟩ H []/\zO  = some r) ?_ ?_
 ·clear hO h0;rintro T H ⟨hT,hO,h0⟩;refine bC hT ?_;clear hT;unfold zO at h0;refine bM aB 1 [(2,(aC true))] ?_;refine bG ?_;obtain rfl:=oI h0;exact aF (Q_r hO)
 refine aV aB 3 [0] [(9,(eL aO f0)),(10,(eI (lN f0))),(11,(eI 0))] ?_;refine bT 0 ?_;refine dZ [(3,(eI (-2:Int))),(9,(eL aO f0)),(10,(eI (lN f0))),(11,(eI 0))] ?_;refine dR (fun T H=>∃ tE:Int,∃ t9:(List aI),∃ t10:Int,∃ t11:Int,Has T [(3,(eI tE)),(9,(eL aO t9)),(10,(eI t10)),(11,(eI t11))]/\aJ ⟨H0,[],[]⟩ H []/\CX tE t9 t10 t11=some r) ?_ ⟨(-2:Int),f0,(lN f0),(0:Int),aZ,hO,h0⟩;clear hO h0;rintro T H ⟨tE,t9,t10,t11,hT,hO,h0⟩;refine bC hT ?_;clear hT;unfold CX at h0;obtain⟨rr0,hl0,h0⟩:=aW h0;refine fD (fun (s:Int×Int) T H=>Has T [(3,(eI s.1)),(9,(eL aO t9)),(10,(eI t10)),(11,(eI s.2))]/\aJ ⟨H0,[],[]⟩ H []) hl0 ⟨aZ,hO⟩ ?_;clear hO;rintro k0 s out1 T H ⟨hT,hO⟩ h1 ho0;obtain⟨tE,t11⟩:=s;replace h1:nM t9 t10 tE t11=some out1:=h1
 try dsimp only at hT
 refine bC hT ?_;clear hT;unfold nM at h1;refine aV aB 1 [] [(12,(aC (decide (t11<t10))))] ?_;refine aM ?_;refine bH h1 (fun h1=>?_) (fun h1=>?_)
 ·refine bI ?_;refine bD [(3,(eI tE)),(9,(eL aO t9)),(10,(eI t10)),(11,(eI t11))] ?_;refine aM ?_;refine bT 1 ?_;refine aM ?_;refine aS aB 4 ?_;obtain⟨c3,h1⟩:=bA h1;refine mM 2 [0<=t11/\t11<(lN t9)] ⟨c3,trivial⟩ ?_;refine mN 2 (aO (aI.mk 0 0)) (by kernel_rfl) (by kernel_rfl) hO ?_;intro lo4 H hO;refine jX 0 lo4 2 0 (aO (aI.mk 0 0)) (aO (gD t9 t11)) [(aO (aI.mk 0 0))] [(lo4,2,[(aO (gD t9 t11))])] hO rfl (by kernel_rfl) ?_;intro H hO;refine dU ?_;refine bN [] [(5,(.lp lo4 0 0))] ?_;refine aM ?_;refine aM ?_;refine aS aB 20 ?_;refine bJ 1 ?_;refine jY 0 lo4 2 0 (aO (gD t9 t11)) (eI ((gD t9 t11).At)) [(aO (gD t9 t11))] hO rfl ?_;refine bJ 6 ?_;refine sA [(19,false)] 0 lo4 2 0 (aO (gD t9 t11)) (eI ((gD t9 t11).At)) [(aO (gD t9 t11))] (by kernel_rfl) (by kernel_rfl) hO (by kernel_rfl) (!(decide (((gD t9 t11).At)<=tE))) (by kernel_rfl) (fun hb5=>rfl) ?_;refine bJ 11 ?_;refine sA [(24,false)] 0 lo4 2 0 (aO (gD t9 t11)) (eI ((gD t9 t11).Net)) [(aO (gD t9 t11))] (by kernel_rfl) (by kernel_rfl) hO (by kernel_rfl) (!((decide (((gD t9 t11).At)<=tE))||(decide ((1125899906842624:Int)<=((gD t9 t11).At))))) (by kernel_rfl) (fun hb6=>rfl) ?_;refine bJ 16 ?_;refine sA [(29,false)] 0 lo4 2 0 (aO (gD t9 t11)) (eI ((gD t9 t11).Net)) [(aO (gD t9 t11))] (by kernel_rfl) (by kernel_rfl) hO (by kernel_rfl) (!(((decide (((gD t9 t11).At)<=tE))||(decide ((1125899906842624:Int)<=((gD t9 t11).At))))||(decide (((gD t9 t11).Net)=(0:Int))))) (by kernel_rfl) (fun hb7=>rfl) ?_;obtain⟨x8,hx9,h1⟩:=aW h1;refine mG [(29,false)] 96 [(eI ((gD t9 t11).Net))] (aC x8) (!(((decide (((gD t9 t11).At)<=tE))||(decide ((1125899906842624:Int)<=((gD t9 t11).At))))||(decide (((gD t9 t11).Net)=(0:Int))))) (by kernel_rfl) (by kernel_rfl) (by kernel_rfl) (fun hb10=>(aAI ((gD t9 t11).Net) _ (gV hx9 hb10))) hO ?_;intro H hO;refine bB ?_;refine bN [3] [(34,(aC ((((decide (((gD t9 t11).At)<=tE))||(decide ((1125899906842624:Int)<=((gD t9 t11).At))))||(decide (((gD t9 t11).Net)=(0:Int))))||(!x8))))] ?_;refine bH h1 (fun h1=>?_) (fun h1=>?_)
  ·refine aM ?_;refine aS aB 1 ?_;refine bB ?_;refine dO [(2,(aC false))] ?_;replace hO:=hO.pick (L':=[]) [] (by decide) (by kernel_rfl);refine aF (aE (?_));refine bG ?_;obtain rfl:=oI h1;obtain rfl:_=rr0:=ho0;replace h0:some false=some r:=h0;obtain rfl:=oI h0;exact aF (aQ (bF (aQ (aQ (bF (aQ (Q_r hO)))))))
  refine bI ?_;refine bD [(5,(.lp lo4 0 0)),(9,(eL aO t9)),(10,(eI t10)),(11,(eI t11))] ?_;refine aS aB 3 ?_;refine bJ 1 ?_;refine jY 0 lo4 2 0 (aO (gD t9 t11)) (eI ((gD t9 t11).At)) [(aO (gD t9 t11))] hO rfl ?_;refine bB ?_;refine dO [(3,(eI ((gD t9 t11).At))),(9,(eL aO t9)),(10,(eI t10)),(11,(eI t11))] ?_;replace hO:=hO.pick (L':=[]) [] (by decide) (by kernel_rfl);refine aF (aU (aE (?_)));refine aS aB 2 ?_;refine bB ?_;exact aF (aE (⟨rfl,_,(oI h1).symm,aZ,hO⟩))
 refine eH 0 ?_;obtain rfl:=oI h1;obtain rfl:_=rr0:=ho0;replace h0:zO  = some r:=h0;exact aF (aX (aX (bP (aE (⟨rfl,aZ,hO,h0⟩)))))

theorem BL (l0:(List aK))(r:Bool)(h0:qK l0=some r):cU Tryz.prog 38 [(eL aH l0)] (aC r):=by
 intro H0;refine cQ Tryz.func38 ?_;have hO:=aJ.start H0;unfold qK at h0;refine aV aB 1 [] [] ?_;refine aM ?_;refine aS aB 3 ?_;refine bJ 1 ?_;obtain⟨x1,hx2,h0⟩:=aW h0;refine cN (OG l0 69 [] [] (fun y0=>qI y0) (fun y0 r h=>DZ y0 r h) _ hx2) hO ?_;intro H hO;refine bB ?_;refine bD [(2,(aC x1))] ?_;refine bG ?_;obtain rfl:=oI h0;exact aF (Q_r hO)

theorem aAh (f0:(List aI))(r:Int)(h0:xM f0=some r):cU Tryz.prog 74 [(eL aO f0)] (eI r):=by
 intro H0;refine cQ Tryz.func74 ?_;have hO:=aJ.start H0;unfold xM at h0;refine aV aB 1 [] [] ?_;refine aM ?_;refine aM ?_;refine aS aB 8 ?_;refine bJ 1 ?_;obtain⟨x1,hx2,h0⟩:=aW h0;refine cN (DZ f0 _ hx2) hO ?_;intro H hO;refine bB ?_;refine bN [] [(14,(aC ((!x1)||(decide ((lN f0)=(0:Int))))))] ?_;refine bH h0 (fun h0=>?_) (fun h0=>?_)
 ·refine bM aB 1 [(2,(eI 0))] ?_;refine bG ?_;obtain rfl:=oI h0;exact aF (aQ (Q_r hO))
 refine bI ?_;refine bD [(0,(eL aO f0))] ?_;refine aV aB 2 [] [(3,(eI 0)),(4,(eI 0))] ?_;refine dN (fun T H=>∃ v3:Int,∃ jA:Int,Has T [(0,(eL aO f0)),(3,(eI v3)),(4,(eI jA))]/\aJ ⟨H0,[],[]⟩ H []/\sF f0 v3 jA=some r) ?_ ?_
 ·clear hO h0;rintro T H ⟨v3,jA,hT,hO,h0⟩;refine bC hT ?_;clear hT;unfold sF at h0;refine dN (fun T H=>∃ jA:Int,Has T [(4,(eI jA))]/\aJ ⟨H0,[],[]⟩ H []/\vN jA=some r) ?_ ?_
  ·clear hO h0;rintro T H ⟨jA,hT,hO,h0⟩;refine bC hT ?_;clear hT;unfold vN at h0;refine bM aB 2 [(2,(eI jA))] ?_;refine bG ?_;obtain rfl:=oI h0;exact aF (Q_r hO)
  refine aV aB 3 [0] [(24,(eL aO f0)),(25,(eI (lN f0))),(26,(eI 0))] ?_;refine bT 0 ?_;refine dZ [(3,(eI v3)),(4,(eI jA)),(24,(eL aO f0)),(25,(eI (lN f0))),(26,(eI 0))] ?_;refine dR (fun T H=>∃ v3:Int,∃ jA:Int,∃ t24:(List aI),∃ t25:Int,∃ t26:Int,Has T [(3,(eI v3)),(4,(eI jA)),(24,(eL aO t24)),(25,(eI t25)),(26,(eI t26))]/\aJ ⟨H0,[],[]⟩ H []/\vH v3 jA t24 t25 t26=some r) ?_ ⟨v3,jA,f0,(lN f0),(0:Int),aZ,hO,h0⟩;clear hO h0;rintro T H ⟨v3,jA,t24,t25,t26,hT,hO,h0⟩;refine bC hT ?_;clear hT;unfold vH at h0;obtain⟨rr0,hl0,h0⟩:=aW h0;refine fD (fun (s:Int×Int×Int) T H=>Has T [(3,(eI s.1)),(4,(eI s.2.1)),(24,(eL aO t24)),(25,(eI t25)),(26,(eI s.2.2))]/\aJ ⟨H0,[],[]⟩ H []) hl0 ⟨aZ,hO⟩ ?_;clear hO;rintro k0 s out1 T H ⟨hT,hO⟩ h1 ho0;obtain⟨v3,jA,t26⟩:=s;replace h1:oG t24 t25 v3 jA t26=some out1:=h1
  try dsimp only at hT
  refine bC hT ?_;clear hT;unfold oG at h1;refine aV aB 1 [] [(27,(aC (decide (t26<t25))))] ?_;refine aM ?_;refine bH h1 (fun h1=>?_) (fun h1=>?_)
  ·refine bI ?_;refine bD [(3,(eI v3)),(4,(eI jA)),(24,(eL aO t24)),(25,(eI t25)),(26,(eI t26))] ?_;refine aM ?_;refine bT 1 ?_;refine aM ?_;refine aS aB 4 ?_;obtain⟨c6,h1⟩:=bA h1;refine mM 2 [0<=t26/\t26<(lN t24)] ⟨c6,trivial⟩ ?_;refine mN 2 (aO (aI.mk 0 0)) (by kernel_rfl) (by kernel_rfl) hO ?_;intro lo7 H hO;refine jX 0 lo7 2 0 (aO (aI.mk 0 0)) (aO (gD t24 t26)) [(aO (aI.mk 0 0))] [(lo7,2,[(aO (gD t24 t26))])] hO rfl (by kernel_rfl) ?_;intro H hO;refine dU ?_;refine bN [] [(6,(.lp lo7 0 0))] ?_;refine aM ?_;refine aS aB 5 ?_;refine bJ 2 ?_;refine jY 0 lo7 2 0 (aO (gD t24 t26)) (eI ((gD t24 t26).Net)) [(aO (gD t24 t26))] hO rfl ?_;refine bB ?_;replace hO:=hO.pick (L':=[]) [] (by decide) (by kernel_rfl);refine bN [3,6] [(3,(eI (wR (v3+((gD t24 t26).Net)))))] ?_;refine aS aB 4 ?_;refine bB ?_;refine dO [(3,(eI (wR (v3+((gD t24 t26).Net))))),(4,(eI (if (wR (v3+((gD t24 t26).Net)))<jA then (wR (v3+((gD t24 t26).Net))) else jA))),(24,(eL aO t24)),(25,(eI t25)),(26,(eI t26))] ?_;refine aF (aU (aE (?_)));refine aS aB 2 ?_;refine bB ?_;exact aF (aE (⟨rfl,_,(oI h1).symm,aZ,hO⟩))
  refine eH 0 ?_;obtain rfl:=oI h1;obtain rfl:_=rr0:=ho0;replace h0:vN jA=some r:=h0;exact aF (aX (aX (bP (aE (⟨rfl,_,aZ,hO,h0⟩)))))
 refine aM ?_;refine aS aB 5 ?_;obtain⟨c8,h0⟩:=bA h0;refine mU [0<=(0:Int)/\(0:Int)<(lN f0)] ⟨c8,trivial⟩ ?_;refine bN [] [(19,(aC (decide (((gD f0 (0:Int)).At)=(-1:Int)))))] ?_;refine bH h0 (fun h0=>?_) (fun h0=>?_)
 ·refine aS aB 5 ?_;obtain⟨c10,h0⟩:=bA h0;refine mU [0<=(0:Int)/\(0:Int)<(lN f0)] ⟨c10,trivial⟩ ?_;exact aF (aE (⟨rfl,_,_,aZ,hO,h0⟩))
 refine bI ?_;exact aF (aE (⟨rfl,_,_,aZ,hO,h0⟩))

theorem TH (f0:(List aI))(r:Bool)(h0:tL f0=some r):cU Tryz.prog 73 [(eL aO f0)] (aC r):=by
 intro H0;refine cQ Tryz.func73 ?_;have hO:=aJ.start H0;unfold tL at h0;refine aV aB 1 [] [] ?_;refine aM ?_;refine aS aB 8 ?_;refine bJ 1 ?_;obtain⟨x1,hx2,h0⟩:=aW h0;refine cN (DZ f0 _ hx2) hO ?_;intro H hO;refine bJ 4 ?_;obtain⟨x4,hx5,h0⟩:=aW h0;refine mG [(5,true)] 74 [(eL aO f0)] (eI x4) x1 (by kernel_rfl) (by kernel_rfl) (by kernel_rfl) (fun hb6=>(aAh f0 _ (gV hx5 hb6))) hO ?_;intro H hO;refine bB ?_;refine bD [(2,(aC (x1&&(decide ((0:Int)<=x4)))))] ?_;refine bG ?_;obtain rfl:=oI h0;exact aF (Q_r hO)

theorem CA (l0:(List aK))(r:Bool)(h0:pO l0=some r):cU Tryz.prog 39 [(eL aH l0)] (aC r):=by
 intro H0;refine cQ Tryz.func39 ?_;have hO:=aJ.start H0;unfold pO at h0;refine aV aB 1 [] [] ?_;refine aM ?_;refine aS aB 3 ?_;refine bJ 1 ?_;obtain⟨x1,hx2,h0⟩:=aW h0;refine cN (OG l0 73 [] [] (fun y0=>tL y0) (fun y0 r h=>TH y0 r h) _ hx2) hO ?_;intro H hO;refine bB ?_;refine bD [(2,(aC x1))] ?_;refine bG ?_;obtain rfl:=oI h0;exact aF (Q_r hO)

theorem IF (w0:bW)(l1:(List aK))(t2:Int)(r:Int)(h0:qW w0 l1 t2=some r):cU Tryz.prog 18 [(cA w0),(eL aH l1),(eI t2)] (eI r):=by
 intro H0;refine cQ Tryz.func18 ?_;have hO:=aJ.start H0;unfold qW at h0;refine aM ?_;refine aS aB 2 ?_;refine kJ 3 (cA w0) ?_;refine bB ?_;refine bN [0] [(3,(.rp (cA w0)))] ?_;refine aM ?_;refine bT 0 ?_;refine aM ?_;refine aS aB 9 ?_;refine bJ 1 ?_;obtain⟨x1,hx2,h0⟩:=aW h0;refine cN (CR w0 _ hx2) hO ?_;intro H hO;refine bJ 5 ?_;obtain⟨x4,hx5,h0⟩:=aW h0;refine mG [(11,false)] 38 [(eL aH l1)] (aC x4) (!(!decide (x1=(0:Int)))) (by kernel_rfl) (by kernel_rfl) (by kernel_rfl) (fun hb6=>(BL l1 _ (gV hx5 hb6))) hO ?_;intro H hO;refine bB ?_;refine bN [3] [(7,(aC ((!decide (x1=(0:Int)))||(!x4))))] ?_;refine bH h0 (fun h0=>?_) (fun h0=>?_)
 ·refine bM aB 1 [(6,(eI 2))] ?_;refine bG ?_;obtain rfl:=oI h0;exact aF (bF (aQ (Q_r hO)))
 refine aM ?_;refine aS aB 4 ?_;refine bJ 1 ?_;obtain⟨x8,hx9,h0⟩:=aW h0;refine cN (CA l1 _ hx9) hO ?_;intro H hO;refine bB ?_;refine bD [(2,(eI t2)),(16,(aC (!x8)))] ?_;refine bH h0 (fun h0=>?_) (fun h0=>?_)
 ·refine bM aB 1 [(6,(eI 20))] ?_;refine bG ?_;obtain rfl:=oI h0;exact aF (bF (aQ (Q_r hO)))
 refine bM aB 7 [(20,(aC ((decide (t2<(0:Int)))||(decide ((1125899906842624:Int)<t2)))))] ?_;refine bH h0 (fun h0=>?_) (fun h0=>?_)
 ·refine bM aB 1 [(6,(eI 13))] ?_;refine bG ?_;obtain rfl:=oI h0;exact aF (bF (aQ (Q_r hO)))
 refine bI ?_;refine dO [] ?_;refine aF (aU (aE (?_)));refine bM aB 1 [(6,(eI 0))] ?_;refine bG ?_;obtain rfl:=oI h0;exact aF (Q_r hO)

theorem WB (dF:Int)(hop1:Int)(r:Bool)(h0:AV dF hop1=some r):cU Tryz.prog 40 [(eI dF),(eI hop1)] (aC r):=by
 intro H0;refine cQ Tryz.func40 ?_;have hO:=aJ.start H0;unfold AV at h0;refine aV aB 1 [] [] ?_;refine bM aB 15 [(4,(aC ((((decide ((1:Int)<=dF))&&(decide (dF<=(1099511627776:Int))))&&(decide ((1:Int)<=hop1)))&&(decide (hop1<=(1099511627776:Int))))))] ?_;refine bG ?_;obtain rfl:=oI h0;exact aF (Q_r hO)

theorem JU (t0:Int)(r:Bool)(h0:uS t0=some r):cU Tryz.prog 41 [(eI t0)] (aC r):=by
 intro H0;refine cQ Tryz.func41 ?_;have hO:=aJ.start H0;unfold uS at h0;refine aV aB 1 [] [] ?_;refine bM aB 7 [(2,(aC ((decide ((0:Int)<=t0))&&(decide (t0<=(1125899906842624:Int))))))] ?_;refine bG ?_;obtain rfl:=oI h0;exact aF (Q_r hO)

theorem aBb (a0:Int)(b1:Int)(r:(Int×Int×Int))(h0:zS a0 b1=some r):cU Tryz.prog 75 [(eI a0),(eI b1)] (.tup [(eI r.1),(eI r.2.1),(eI r.2.2)]):=by
 intro H0;refine cQ Tryz.func75 ?_;have hO:=aJ.start H0;unfold zS at h0;refine aV aB 3 [] [] ?_;refine aM ?_;refine aV aB 2 [] [(10,(aC (decide (b1<(1:Int)))))] ?_;refine bH h0 (fun h0=>?_) (fun h0=>?_)
 ·refine bM aB 3 [(4,(eI 0)),(5,(eI 0)),(6,(eI 2))] ?_;refine bG ?_;obtain rfl:=oI h0;exact aF (aQ (Q_r hO))
 refine bI ?_;refine bD [(0,(eI a0)),(1,(eI b1))] ?_;refine aM ?_;refine eV (eT []) aB 8 ?_;obtain⟨c2,h0⟩:=bA h0;obtain⟨c3,h0⟩:=bA h0;refine EH (Ds:=[b1≠0,b1≠0]) (by kernel_rfl) ⟨c2,c3,trivial⟩ ?_;refine bN [0] [(7,(eI (wR (Int.tdiv a0 b1)))),(8,(eI (Int.tmod a0 b1)))] ?_;refine dN (fun T H=>∃ q7:Int,∃ r8:Int,Has T [(7,(eI q7)),(8,(eI r8))]/\aJ ⟨H0,[],[]⟩ H []/\xZ q7 r8=some r) ?_ ?_
 ·clear hO h0;rintro T H ⟨q7,r8,hT,hO,h0⟩;refine bC hT ?_;clear hT;unfold xZ at h0;refine bM aB 5 [(4,(eI q7)),(5,(eI r8)),(6,(eI 0))] ?_;refine bG ?_;obtain rfl:=oI h0;exact aF (Q_r hO)
 refine aV aB 2 [] [(18,(aC (decide ((Int.tmod a0 b1)<(0:Int)))))] ?_;refine bH h0 (fun h0=>?_) (fun h0=>?_)
 ·refine aS aB 7 ?_;refine bB ?_;exact aF (aE (⟨rfl,_,_,aZ,hO,h0⟩))
 refine bI ?_;exact aF (aE (⟨rfl,_,_,aZ,hO,h0⟩))

theorem GG (hop0:Int)(n1:Int)(r:Int)(h0:rH hop0 n1=some r):cU Tryz.prog 42 [(eI hop0),(eI n1)] (eI r):=by
 intro H0;refine cQ Tryz.func42 ?_;have hO:=aJ.start H0;unfold rH at h0;refine aV aB 1 [] [] ?_;refine aM ?_;refine aV aB 2 [] [(9,(aC (decide (n1<(0:Int)))))] ?_;refine bH h0 (fun h0=>?_) (fun h0=>?_)
 ·refine bM aB 1 [(4,(eI 0))] ?_;refine bG ?_;obtain rfl:=oI h0;exact aF (aQ (Q_r hO))
 refine bI ?_;refine bD [(0,(eI hop0)),(1,(eI n1))] ?_;refine aM ?_;refine aS aB 10 ?_;refine bJ 2 ?_;obtain⟨x2,hx3,h0⟩:=aW h0;refine cN (aBb n1 hop0 _ hx3) hO ?_;intro H hO;refine bB ?_;refine bN [1] [(5,(eI x2.1))] ?_;refine bM aB 5 [(4,(eI (wR ((wR (x2.1+(1:Int)))*hop0))))] ?_;refine bG ?_;obtain rfl:=oI h0;exact aF (Q_r hO)

theorem aBV (dF:Int)(hop1:Int)(t2:Int)(r:(Int×Int))(h0:BM dF hop1 t2=some r):cU Tryz.prog 19 [(eI dF),(eI hop1),(eI t2)] (.tup [(eI r.1),(eI r.2)]):=by
 intro H0;refine cQ Tryz.func19 ?_;have hO:=aJ.start H0;unfold BM at h0;refine aV aB 2 [] [] ?_;refine aM ?_;refine bT 0 ?_;refine aM ?_;refine aS aB 5 ?_;refine bJ 2 ?_;obtain⟨x1,hx2,h0⟩:=aW h0;refine cN (WB dF hop1 _ hx2) hO ?_;intro H hO;refine bB ?_;refine bN [] [(8,(aC (!x1)))] ?_;refine bH h0 (fun h0=>?_) (fun h0=>?_)
 ·refine bM aB 2 [(6,(eI 0)),(7,(eI 2))] ?_;refine bG ?_;obtain rfl:=oI h0;exact aF (bF (aQ (Q_r hO)))
 refine aM ?_;refine aS aB 4 ?_;refine bJ 1 ?_;obtain⟨x5,hx6,h0⟩:=aW h0;refine cN (JU t2 _ hx6) hO ?_;intro H hO;refine bB ?_;refine bN [8] [(13,(aC (!x5)))] ?_;refine bH h0 (fun h0=>?_) (fun h0=>?_)
 ·refine bM aB 2 [(6,(eI 0)),(7,(eI 13))] ?_;refine bG ?_;obtain rfl:=oI h0;exact aF (bF (aQ (Q_r hO)))
 refine aV aB 3 [13] [(17,(aC (decide (t2=(1125899906842624:Int)))))] ?_;refine bH h0 (fun h0=>?_) (fun h0=>?_)
 ·refine bM aB 2 [(6,(eI 1125899906842624)),(7,(eI 0))] ?_;refine bG ?_;obtain rfl:=oI h0;exact aF (bF (aQ (Q_r hO)))
 refine bI ?_;refine dO [(0,(eI dF)),(1,(eI hop1)),(2,(eI t2))] ?_;refine aF (aU (aE (?_)));refine aM ?_;refine aS aB 8 ?_;refine bJ 4 ?_;obtain⟨x10,hx11,h0⟩:=aW h0;refine cN (GG hop1 (wR (t2-dF)) _ hx11) hO ?_;intro H hO;refine bB ?_;refine bD [(6,(eI (if (1125899906842624:Int)<x10 then (1125899906842624:Int) else x10))),(7,(eI 0))] ?_;refine bG ?_;obtain rfl:=oI h0;exact aF (Q_r hO)

theorem ME (l0:(List aK))(n1:Int)(r:Int)(h0:uI l0 n1=some r):cU Tryz.prog 43 [(eL aH l0),(eI n1)] (eI r):=by
 intro H0;refine cQ Tryz.func43 ?_;have hO:=aJ.start H0;unfold uI at h0;refine aV aB 1 [] [] ?_;refine aM ?_;refine bT 0 ?_;refine aM ?_;refine aS aB 12 ?_;refine bJ 1 ?_;obtain⟨x1,hx2,h0⟩:=aW h0;refine cN (BL l0 _ hx2) hO ?_;intro H hO;refine bB ?_;refine bN [1] [(5,(aC (((!x1)||(decide (n1<(1:Int))))||(decide ((64:Int)<n1)))))] ?_;refine bH h0 (fun h0=>?_) (fun h0=>?_)
 ·refine bM aB 1 [(4,(eI 2))] ?_;refine bG ?_;obtain rfl:=oI h0;exact aF (bF (aQ (Q_r hO)))
 refine aM ?_;refine aS aB 4 ?_;refine bJ 1 ?_;obtain⟨x5,hx6,h0⟩:=aW h0;refine cN (CA l0 _ hx6) hO ?_;intro H hO;refine bB ?_;refine bD [(17,(aC (!x5)))] ?_;refine bH h0 (fun h0=>?_) (fun h0=>?_)
 ·refine bM aB 1 [(4,(eI 20))] ?_;refine bG ?_;obtain rfl:=oI h0;exact aF (bF (aQ (Q_r hO)))
 refine bI ?_;refine dO [] ?_;refine aF (aU (aE (?_)));refine bM aB 1 [(4,(eI 0))] ?_;refine bG ?_;obtain rfl:=oI h0;exact aF (Q_r hO)

theorem IB (l0:(List aK))(r:(List aK))(h0:qU l0=some r):cU Tryz.prog 76 [(eL aH l0)] (.fn (.func 99) [] [(.rp (eL aH r))]):=by
 intro H0;refine cQ Tryz.func76 ?_;have hO:=aJ.start H0;unfold qU at h0;refine aM ?_;refine aS aB 2 ?_;refine kJ 1 (eL aH l0) ?_;refine bB ?_;refine bD [(1,(.rp (eL aH l0)))] ?_;refine bM aB 2 [(2,(.fn (.func 99) [] [(.rp (eL aH l0))]))] ?_;refine bG ?_;obtain rfl:=oI h0;exact aF (kU (x:=(.fn (.func 99) [] [(.rp (eL aH l0))])) (by kernel_rfl) (aR.refl _) ⟨rfl,hO.out⟩)

theorem DI {σ:Type}(I:σ->Gs->Prop)(yield0_b:Nat)(cL:σ->aK->Option (σ×Bool))(yield0_h:∀ st a0 st2 r,cL st a0=some (st2,r)->CT Tryz.prog (yv yield0_b) I st [(aH a0)] st2 (aC r))(t1:(List aK))(sg0:σ)(r:σ)(h0:nC cL t1 sg0=some r):yU Tryz.prog 99 I sg0 [(yv yield0_b),(.rp (eL aH t1))] r (.tup []):=by
 intro H0 G0 hI hg;refine cQ Tryz.func99 ?_;obtain⟨G,hO,hI⟩:∃ G,aJ ⟨H0,List.map (fun p:Nat×dQ=>p.1) G0,G⟩ H0 []/\I sg0 G:=⟨G0,aJ.EU hg,hI⟩;clear hg;unfold nC at h0;refine aV aB 3 [1] [(5,(eL aH t1)),(6,(eI (lN t1))),(7,(eI 0))] ?_;refine bT 0 ?_;refine dZ [(0,(yv yield0_b)),(5,(eL aH t1)),(6,(eI (lN t1))),(7,(eI 0))] ?_;refine dR (fun T H=>∃ sg:σ,∃ t5:(List aK),∃ t6:Int,∃ t7:Int,∃ G:Gs,Has T [(0,(yv yield0_b)),(5,(eL aH t5)),(6,(eI t6)),(7,(eI t7))]/\aJ ⟨H0,List.map (fun p:Nat×dQ=>p.1) G0,G⟩ H []/\I sg G/\rS cL sg t5 t6 t7=some r) ?_ ⟨sg0,t1,(lN t1),(0:Int),G,aZ,hO,hI,h0⟩;clear hO hI h0;rintro T H ⟨sg,t5,t6,t7,G,hT,hO,hI,h0⟩;refine bC hT ?_;clear hT;unfold rS at h0;obtain⟨rr0,hl0,h0⟩:=aW h0;refine fD (fun (s:σ×Int) T H=>∃ G:Gs,Has T [(0,(yv yield0_b)),(5,(eL aH t5)),(6,(eI t6)),(7,(eI s.2))]/\aJ ⟨H0,List.map (fun p:Nat×dQ=>p.1) G0,G⟩ H []/\I s.1 G) hl0 ⟨G,aZ,hO,hI⟩ ?_;clear hO hI;rintro k0 s out1 T H ⟨G,hT,hO,hI⟩ h1 ho0;obtain⟨sg,t7⟩:=s;replace h1:lC cL t5 t6 sg t7=some out1:=h1
 try dsimp only at hT
 refine bC hT ?_;clear hT;unfold lC at h1;refine aV aB 1 [] [(8,(aC (decide (t7<t6))))] ?_;refine aM ?_;refine bH h1 (fun h1=>?_) (fun h1=>?_)
 ·refine bI ?_;refine bD [(0,(yv yield0_b)),(5,(eL aH t5)),(6,(eI t6)),(7,(eI t7))] ?_;refine aM ?_;refine bT 1 ?_;refine aM ?_;refine aS aB 4 ?_;obtain⟨c2,h1⟩:=bA h1;refine mM 2 [0<=t7/\t7<(lN t5)] ⟨c2,trivial⟩ ?_;refine rK 3 (.agg [(.sl true 0 (fun _=>.bad)),(eI 0),(eI 0)]) (aH (aK.mk ([]) 0 0)) (by kernel_rfl) (by kernel_rfl) (by kernel_rfl) (zQ (xs:=[(.sl true 0 (fun _=>.bad)),(eI 0),(eI 0)]) (ys:=[(eL aD ([])),(eI 0),(eI 0)]) ⟨gQ,aR.refl _,aR.refl _,trivial⟩) (by kernel_rfl) (by kernel_rfl) hO ?_;intro lo3 H hO;refine jX 0 lo3 3 0 (aH (aK.mk ([]) 0 0)) (aH (gD t5 t7)) [(aH (aK.mk ([]) 0 0))] [(lo3,3,[(aH (gD t5 t7))])] hO rfl (by kernel_rfl) ?_;intro H hO;refine dU ?_;refine bN [] [(4,(.lp lo3 0 0))] ?_;refine aM ?_;refine aS aB 14 ?_;refine bJ 1 ?_;refine jY 0 lo3 3 0 (aH (gD t5 t7)) (eI ((gD t5 t7).Net)) [(aH (gD t5 t7))] hO rfl ?_;refine bJ 5 ?_;refine sA [(14,true)] 0 lo3 3 0 (aH (gD t5 t7)) (eI ((gD t5 t7).At)) [(aH (gD t5 t7))] (by kernel_rfl) (by kernel_rfl) hO (by kernel_rfl) (decide ((0:Int)<((gD t5 t7).Net))) (by kernel_rfl) (fun hb4=>rfl) ?_;refine bJ 10 ?_;refine sA [(19,true)] 0 lo3 3 0 (aH (gD t5 t7)) (aH (gD t5 t7)) [(aH (gD t5 t7))] (by kernel_rfl) (by kernel_rfl) hO (by kernel_rfl) ((decide ((0:Int)<((gD t5 t7).Net)))&&(decide ((-1:Int)<((gD t5 t7).At)))) (by kernel_rfl) (fun hb5=>rfl) ?_;obtain⟨⟨x8,x9⟩,hx7,h1⟩:=aW h1;replace hx7:=aBl hx7;refine aAw (I:=I) [(19,true)] ((decide ((0:Int)<((gD t5 t7).Net)))&&(decide ((-1:Int)<((gD t5 t7).At)))) (yv yield0_b) [(aH (gD t5 t7))] (aC x9) ⟨fun hb=>yield0_h _ (gD t5 t7) x8 x9 (hx7.1 hb),hx7.2⟩ hO hI ?_;intro G H hO hI;refine bB ?_;replace hO:=hO.pick (L':=[]) [] (by decide) (by kernel_rfl);refine bN [4] [(24,(aC (((decide ((0:Int)<((gD t5 t7).Net)))&&(decide ((-1:Int)<((gD t5 t7).At))))&&(!x9))))] ?_;refine bH h1 (fun h1=>?_) (fun h1=>?_)
  ·refine bG ?_;obtain rfl:=oI h1;obtain rfl:_=rr0:=ho0;replace h0:some x8=some r:=h0;obtain rfl:=oI h0;exact aF (bF (aQ (aQ (bF (kU (x:=(.tup [])) (by kernel_rfl) (aR.refl _) ⟨rfl,G,hI,hO.AS⟩)))))
  refine bI ?_;refine dO [(0,(yv yield0_b)),(5,(eL aH t5)),(6,(eI t6)),(7,(eI t7))] ?_;refine aF (aU (aE (?_)));refine aS aB 2 ?_;refine bB ?_;exact aF (aE (⟨rfl,_,(oI h1).symm,_,aZ,hO,hI⟩))
 refine eH 0 ?_;obtain rfl:=oI h1;obtain rfl:_=rr0:=ho0;replace h0:some sg=some r:=h0;obtain rfl:=oI h0;exact aF (aX (aX (bP (AH (x:=(.tup [])) (by kernel_rfl) (aR.refl _) ⟨rfl,G,hI,hO.AS⟩))))

theorem NH (x0:Int)(r:Int)(h0:qE x0=some r):cU Tryz.prog 115 [(cZ .u64 x0)] (eI r):=by
 intro H0;refine cQ Tryz.func115 ?_;have hO:=aJ.start H0;unfold qE at h0;refine aV aB 1 [] [(2,(eI 0))] ?_;refine dN (fun T H=>∃ x0:Int,∃ n2:Int,Has T [(0,(cZ .u64 x0)),(2,(eI n2))]/\aJ ⟨H0,[],[]⟩ H []/\lW x0 n2=some r) ?_ ?_
 ·clear hO h0;rintro T H ⟨x0,n2,hT,hO,h0⟩;refine bC hT ?_;clear hT;unfold lW at h0;refine dN (fun T H=>∃ x0:Int,∃ n2:Int,Has T [(0,(cZ .u64 x0)),(2,(eI n2))]/\aJ ⟨H0,[],[]⟩ H []/\mA x0 n2=some r) ?_ ?_
  ·clear hO h0;rintro T H ⟨x0,n2,hT,hO,h0⟩;refine bC hT ?_;clear hT;unfold mA at h0;refine dN (fun T H=>∃ x0:Int,∃ n2:Int,Has T [(0,(cZ .u64 x0)),(2,(eI n2))]/\aJ ⟨H0,[],[]⟩ H []/\nH x0 n2=some r) ?_ ?_
   ·clear hO h0;rintro T H ⟨x0,n2,hT,hO,h0⟩;refine bC hT ?_;clear hT;unfold nH at h0;refine aM ?_;refine aS aB 7 ?_;obtain⟨c1,h0⟩:=bA h0;refine mU [0<=(IntKind.u8.wrap x0)/\(IntKind.u8.wrap x0)<((ByteArray.size (⟨#[0,1,2,2,3,3,3,3,4,4,4,4,4,4,4,4,5,5,5,5,5,5,5,5,5,5,5,5,5,5,5,5,6,6,6,6,6,6,6,6,6,6,6,6,6,6,6,6,6,6,6,6,6,6,6,6,6,6,6,6,6,6,6,6,7,7,7,7,7,7,7,7,7,7,7,7,7,7,7,7,7,7,7,7,7,7,7,7,7,7,7,7,7,7,7,7,7,7,7,7,7,7,7,7,7,7,7,7,7,7,7,7,7,7,7,7,7,7,7,7,7,7,7,7,7,7,7,7,8,8,8,8,8,8,8,8,8,8,8,8,8,8,8,8,8,8,8,8,8,8,8,8,8,8,8,8,8,8,8,8,8,8,8,8,8,8,8,8,8,8,8,8,8,8,8,8,8,8,8,8,8,8,8,8,8,8,8,8,8,8,8,8,8,8,8,8,8,8,8,8,8,8,8,8,8,8,8,8,8,8,8,8,8,8,8,8,8,8,8,8,8,8,8,8,8,8,8,8,8,8,8,8,8,8,8,8,8,8,8,8,8,8,8,8,8,8,8,8,8,8,8,8,8,8,8,8]⟩:ByteArray):Nat):Int)] ⟨c1,trivial⟩ ?_;refine bD [(2,(eI (wR (n2+(wR (bt (⟨#[0,1,2,2,3,3,3,3,4,4,4,4,4,4,4,4,5,5,5,5,5,5,5,5,5,5,5,5,5,5,5,5,6,6,6,6,6,6,6,6,6,6,6,6,6,6,6,6,6,6,6,6,6,6,6,6,6,6,6,6,6,6,6,6,7,7,7,7,7,7,7,7,7,7,7,7,7,7,7,7,7,7,7,7,7,7,7,7,7,7,7,7,7,7,7,7,7,7,7,7,7,7,7,7,7,7,7,7,7,7,7,7,7,7,7,7,7,7,7,7,7,7,7,7,7,7,7,7,8,8,8,8,8,8,8,8,8,8,8,8,8,8,8,8,8,8,8,8,8,8,8,8,8,8,8,8,8,8,8,8,8,8,8,8,8,8,8,8,8,8,8,8,8,8,8,8,8,8,8,8,8,8,8,8,8,8,8,8,8,8,8,8,8,8,8,8,8,8,8,8,8,8,8,8,8,8,8,8,8,8,8,8,8,8,8,8,8,8,8,8,8,8,8,8,8,8,8,8,8,8,8,8,8,8,8,8,8,8,8,8,8,8,8,8,8,8,8,8,8,8,8,8,8,8,8,8]⟩:ByteArray) (IntKind.u8.wrap x0)))))))] ?_;refine bG ?_;obtain rfl:=oI h0;exact aF (Q_r hO)
   refine aV aB 2 [] [(14,(aC (decide ((256:Int)<=x0))))] ?_;refine bH h0 (fun h0=>?_) (fun h0=>?_)
   ·refine aM ?_;refine aS aB 3 ?_;obtain⟨c3,h0⟩:=bA h0;refine mU [0<=(8:Int)] ⟨c3,trivial⟩ ?_;refine bD [(0,(cZ .u64 (Int.fdiv x0 (2 ^ (min (Int.toNat (8:Int)) 64))))),(2,(eI n2))] ?_;refine aS aB 3 ?_;refine bB ?_;exact aF (aE (⟨rfl,_,_,aZ,hO,h0⟩))
   refine bI ?_;exact aF (aE (⟨rfl,_,_,aZ,hO,h0⟩))
  refine aV aB 2 [] [(8,(aC (decide ((65536:Int)<=x0))))] ?_;refine bH h0 (fun h0=>?_) (fun h0=>?_)
  ·refine aM ?_;refine aS aB 3 ?_;obtain⟨c5,h0⟩:=bA h0;refine mU [0<=(16:Int)] ⟨c5,trivial⟩ ?_;refine bD [(0,(cZ .u64 (Int.fdiv x0 (2 ^ (min (Int.toNat (16:Int)) 64))))),(2,(eI n2))] ?_;refine aS aB 3 ?_;refine bB ?_;exact aF (aE (⟨rfl,_,_,aZ,hO,h0⟩))
  refine bI ?_;exact aF (aE (⟨rfl,_,_,aZ,hO,h0⟩))
 refine aV aB 2 [] [(4,(aC (decide ((4294967296:Int)<=x0))))] ?_;refine bH h0 (fun h0=>?_) (fun h0=>?_)
 ·refine aM ?_;refine aS aB 3 ?_;obtain⟨c7,h0⟩:=bA h0;refine mU [0<=(32:Int)] ⟨c7,trivial⟩ ?_;refine bD [(0,(cZ .u64 (Int.fdiv x0 (2 ^ (min (Int.toNat (32:Int)) 64)))))] ?_;refine aS aB 1 ?_;refine bB ?_;exact aF (aE (⟨rfl,_,_,aZ,hO,h0⟩))
 refine bI ?_;exact aF (aE (⟨rfl,_,_,aZ,hO,h0⟩))

theorem GL (x0:Int)(r:Int)(h0:lJ x0=some r):cU Tryz.prog 92 [(cZ .u64 x0)] (eI r):=by
 intro H0;refine cQ Tryz.func92 ?_;have hO:=aJ.start H0;unfold lJ at h0;refine aV aB 1 [] [] ?_;refine aM ?_;refine nB (false) (fun hc1=>?_) (fun hc1=>?_)
 ·cases hc1
 ·refine bI ?_;refine aF (aE ?_);refine aM ?_;refine aS aB 3 ?_;refine bJ 1 ?_;obtain⟨x2,hx3,h0⟩:=aW h0;refine cN (NH x0 _ hx3) hO ?_;intro H hO;refine bB ?_;refine bD [(2,(eI x2))] ?_;refine bG ?_;obtain rfl:=oI h0;exact aF (Q_r hO)

theorem fY (x0:Int)(y1:Int)(r:Bool)(h0:dH x0 y1=some r):cU Tryz.prog 78 [(eI x0),(eI y1)] (aC r):=by
 intro H0;refine cQ Tryz.func78 ?_;have hO:=aJ.start H0;unfold dH at h0;refine aV aB 1 [] [] ?_;refine aM ?_;refine aS aB 13 ?_;refine bJ 1 ?_;obtain⟨x1,hx2,h0⟩:=aW h0;refine cN (xJ x0 _ hx2) hO ?_;intro H hO;refine bJ 4 ?_;obtain⟨x4,hx5,h0⟩:=aW h0;refine mG [(7,true)] 100 [(eI y1)] (aC x4) x1 (by kernel_rfl) (by kernel_rfl) (by kernel_rfl) (fun hb6=>(xJ y1 _ (gV hx5 hb6))) hO ?_;intro H hO;refine bB ?_;refine bD [(4,(aC ((x1&&(!x4))||(decide (x0<y1)))))] ?_;refine bG ?_;obtain rfl:=oI h0;exact aF (Q_r hO)

end Go.Abs
end
