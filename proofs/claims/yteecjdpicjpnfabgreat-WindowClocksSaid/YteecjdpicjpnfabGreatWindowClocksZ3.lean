/- What the law WindowClocks stands on: the framework, the given functions as plain functions, their walks, and the plain laws; part 3. -/
import Derived.Test.YteecjdpicjpnfabGreatWindowClocksZ2
set_option linter.unusedSimpArgs false
set_option linter.unusedVariables false
noncomputable section
namespace Go.Abs
open Go Go.RowKit Go.MapKept
variable {P:Program} {H:aY} {K:V->aY->Prop}
section rules
variable {tt:TT} {N:Nat} {T:Env} {ops:Array Oper} {K:Env->aY->Prop} {i n:Nat} {H0:aY} {E:List Nat} {G:Gs} {L:List (Nat×Nat×List V)}
theorem aAp {β:Type} {f:β->V} {m:List (Int×β)} {mty:TypeId} {l:Nat} {ok:Bool} (htt:iE P tt) (k:Int) (z0:β) (hO:aJ ⟨H0,E,(l,qC f m)::G⟩ H L)
    (h:RWs P tt N ops (aL (i+1) n) (T.bU (cO ops i) ([],cond ok (.tup [f ((gI m k).getD z0),aC (gI m k).isSome]) (f ((gI m k).getD z0)))) H K)
    (hs:aL i n=i::aL (i+1) n:=by kernel_rfl) (hd:VH N ops T i=some (mty,l,.int .i64 k,ok):=by kernel_rfl) (hm:TK P tt mty=some (f z0):=by kernel_rfl):RWs P tt N ops (aL i n) T H K:=by
  obtain⟨kt,et,h1,h2,h3⟩:=YC htt hm;have hl:=(hO.gm 0 _ rfl).2;unfold VH at hd;split at hd
  · rename_i mty' m' k' ok' hp
    split at hd
    · rename_i l' kv e1 e2
      simp at hd; obtain ⟨rfl,rfl,rfl,rfl⟩:=hd;refine yC hs hp (xs:=[.mp l',.lit (.int .i64 k)]) (by simp [Op.operands,iJ,e1,e2]) (aEH (kv:=.int .i64 k) (z:=f z0) h1 h2 rfl h3 hl (fun hnd hno=>?_) fun hnd j x hj=>?_)
      · have : gI m k=none:=VW fun p hp' e=>hno (.int .i64 p.1,f p.2) (List.mem_map.2 ⟨p,hp',rfl⟩) (by simp [e]);rw [this] at h;exact h
      · have : ∃ y,m[j]? = some (k,y)/\f y=x:=by
          simp only [uY,List.getElem?_map,Option.map_eq_some_iff] at hj;obtain⟨⟨a,b⟩,h3,h4⟩:=hj;simp at h4;exact⟨b,by rw [h3,h4.1],h4.2⟩
        obtain⟨y,hy,rfl⟩:=this;rw [WA (RB hnd) hy] at h;exact h
    · simp at hd
  · simp at hd

end rules
def aE1 (P:Program)(f:FuncId)(args:List V)(M:Gs)(L:OL)(Post:V->Gs->OL->Prop):Prop :=
  ∀ (F:Frame) (H:aY),aJ ⟨F.h,F.e,M++F.g⟩ H L->mH P f args H fun x H'=>∃ M' L',Post x M' L'/\aJ ⟨F.h,F.e,M'++F.g⟩ H' L'

theorem aJ.aGP {H0:aY}{E:List Nat}{M G:Gs}{L R:OL}(h:aJ ⟨H0,E,M++G⟩ H (L++R)):aJ ⟨H0,E,M++(up R++G)⟩ H L:=by
  have h1:aJ ⟨H0,E,up R++(M++G)⟩ H L:=h.part;exact h1.qJ (by rw [←List.append_assoc,←List.append_assoc]; exact List.Perm.append_right _ List.perm_append_comm)

theorem aJ.aGL {H0:aY}{E:List Nat}{M G:Gs}{L R:OL}(h:aJ ⟨H0,E,M++(up R++G)⟩ H L):aJ ⟨H0,E,M++G⟩ H (L++R):=by
  have h1:aJ ⟨H0,E,up R++(M++G)⟩ H L:=h.qJ (by rw [←List.append_assoc,←List.append_assoc]; exact List.Perm.append_right _ List.perm_append_comm);exact aJ.glue (F:=⟨H0,E,M++G⟩) h1

theorem aG4 {tt:TT} {N:Nat} {T:Env} {ops:Array Oper} {K:Env->aY->Prop} {i n:Nat} {H0:aY} {E:List Nat} {G:Gs} {L0 L:OL} {Post:V->Gs->OL->Prop} {fid:Nat} {as0:List V} (M:Gs) (R:OL) (ix:List Nat) (hc:aE1 P fid as0 M L Post) (hO:aJ ⟨H0,E,M++G⟩ H L0)
    (h:∀ x M' L' H',Post x M' L'->aJ ⟨H0,E,M'++G⟩ H' (L'++R)->RWs P tt N ops (aL (i+1) n) (T.bU (cO ops i) ([],x)) H' K) (hnd:ix.Nodup:=by decide) (hp:ix.map (fun i=>L0[i]?)=(L++R).map some:=by kernel_rfl)
    (hs:aL i n=i::aL (i+1) n:=by kernel_rfl) (hd:nX N ops T i=some (fid,as0):=by kernel_rfl):RWs P tt N ops (aL i n) T H K :=
  MC hs hd (hc ⟨H0,E,up R++G⟩ H (hO.pick ix hnd hp).aGP) fun _ H' ⟨M',L',hP,hO'⟩=>h _ M' L' H' hP hO'.aGL

section ends
variable {fn:Func} {T:Env} {H:aY} {H0:aY} {E:List Nat} {G M:Gs} {Post:V->Gs->OL->Prop} {x:V} {L:OL}
end ends
end Go.Abs
namespace Go.Abs
open Go Go.RowKit
variable {P:Program} {tt:TT} {g:Gh} {w:World} {H:aY}
theorem aDK {N:Nat} {c:Code} {l:List (Nat×V)} {ds:List Nat} {Q:Exit->Env->aY->List Nat->Prop} {fid:Nat} {ys cs:List V} {b0 l0:Nat} {A0:tG} {st0:LoopState} {pe0:Option Code} (h0:H[l0]? = some (.raw (iD b0 A0 st0 pe0)))
    (hk:c.kind=9) (hf:cH (Env.ofL l) [] c.cnd=some (.fn (.func fid) ys cs)) {ps:Array Tmp} (hps:c.rps=ps)
    (h:∀ b,mH P fid (ys++[yv b]++cs) (H++[.raw (iD b ⟨N,l,ps,c.asg,c.b⟩ .ready none)]) (fun _ H'=>∃ st pe,H'[H.length]? = some (.raw (iD b ⟨N,l,ps,c.asg,c.b⟩ st pe))/\st ≠ .busy /\
      (match pe with
       | none=>Cl N Q .normal (Env.ofL l) (H'.set H.length .dead) ds
       | some c'=>AWP P (some b0) N c' (Env.ofL l) (H'.set H.length .dead) ds Q))):AWP P (some b0) N c (Env.ofL l) H ds Q:=by
  cases c with
  | rangeFunc fo ps' asg body =>
    simp only [Code.rps] at hps;subst hps;simp only [Code.cnd] at hf;simp only [Code.asg,Code.b] at h;intro g w a R hg hr;refine wpIn_rangeFunc ?_;intro fn _;obtain⟨o0,p1,p2,pb,r0,rfl,_⟩:=hg.sr.raw l0 _ h0;rw [pb] at p1;obtain⟨rec,hrec⟩:∃ rec:Loop,rec={ state:=.ready,pending:=none,fn,tmps:=a.tmps,params:=ps',assign:=asg,body,defers:=r0.defers }:=⟨_,rfl⟩
    have n2:=hg.sr.FI (.loop rec) rfl (iD w.heap.size ⟨N,l,ps',asg,body⟩ .ready none) ⟨rfl,rec,rfl,by rw [hrec],by rw [hrec],by rw [hrec],by rw [hrec],by rw [hrec],by rw [hrec]; exact hg.sz,by
      have ht:rec.tmps=a.tmps:=by rw [hrec]
      rw [ht];exact hg.tr.DV ((hg.sr.FI (.loop rec) rfl ⟨fun _ _ _ _=>True,fun _ _=>trivial⟩ trivial).2.toExt0)⟩
    obtain⟨s2,e2⟩:=n2
    have henter:(Instr.enterLoop fn a.tmps ps' asg body (FR (some b0)).round).run P w = .ok (w.heap.size,[]) (w.alloc (.loop rec)):=by
      rw [hrec]; exact run_enterLoop_inner p1 fn a.tmps ps' asg body
    obtain⟨fs,cap,hfv,l1,l2,g1',g2'⟩:=(cK (hg.tr.DV e2.toExt0) (a:=a) (by intro p hp; simp at hp) hf).fnE;obtain⟨hent,hcalls⟩:=h w.heap.size;have hargs:(ys++[yv w.heap.size]++cs).length=(fs ++ #[Value.func (.yield w.heap.size) #[] #[]]++cap).size:=by simp [l1,l2]; omega
    refine⟨w.heap.size,[],w.alloc (.loop rec),⟨.fn (.func fid) cap,fs ++ #[Value.func (.yield w.heap.size) #[] #[]]⟩,w.alloc (.loop rec),fid,fs ++ #[Value.func (.yield w.heap.size) #[] #[]]++cap,w.alloc (.loop rec),henter,?_,fun _ _=>trivial,?_,fun h=>by simp [FR,Fence.wide] at h,?_⟩
    · have hm:Array.map a.eval #[Operand.const (Value.func (.yield w.heap.size) #[] #[])] = #[Value.func (.yield w.heap.size) #[] #[]]:=by
        simp [Act.eval]
      simp only [rangeCall,resolve,hfv,Deferred.ofValue,Sem.run_bind,Sem.run_pure,Result.andThen,hm]
    · simp only [invoke,hent]
    · refine JL ?_
      obtain⟨l4,g4⟩:=yV (xs:=ys) (ys:=[yv w.heap.size]) (as0:=fs) (bs := #[Value.func (.yield w.heap.size) #[] #[]]) l1 rfl g1' (fun i x y hx hy=>by
        cases i with
        | zero=>simp at hx hy; subst hx; subst hy; exact .lit _ rfl
        | succ i=>simp at hx)
      obtain⟨l5,g5⟩:=yV l4 l2 g4 g2';refine (hcalls _ _ _ s2 l5 g5).mono ?_;rintro e w3 ⟨v,r,g3,H3,rfl,_,s3,x3,st,pe,hL,hb,hq⟩;obtain⟨o3,q1,q2,qb,r3,rfl,z1,z2,z3,z4,z5,z6,z7⟩:=s3.raw _ _ hL;rw [qb] at q1;have s4:=s3.xS hL (.loop { r3 with state:=.exhausted }) rfl ⟨fun _ _ _ _=>True,fun _ _=>trivial⟩ trivial;rw [qb] at s4;obtain⟨s4,x4⟩:=s4;have s5:=s4.kill H.length;rw [List.set_set] at s5;have hxx:Ext g w g3 (w3.putObj w.heap.size (.loop { r3 with state:=.exhausted })):=(e2.trans x3).trans x4
      have hgood:Good N g3 (w3.putObj w.heap.size (.loop { r3 with state:=.exhausted })) (Env.ofL l) (H3.set H.length .dead) ds { a with defers:=[]++a.defers }:=by
        refine⟨s5,hg.tr.DV hxx.toExt0,?_,?_,hg.sz⟩
        · rw [List.nil_append,hg.df];apply List.map_congr_left;intro l' hl';simp only [mkD,hxx.blk l' (hg.dl l' hl')]
        · intro l' hl';exact Nat.lt_of_lt_of_le (hg.dl l' hl') hxx.n
      refine⟨_,_,run_endLoop q1 (by rw [z1]; exact hb),?_⟩;split
      · rename_i hp
        have hpe:pe=none:=z2.symm.trans hp;subst hpe;obtain⟨g5,T5,H5,hg5,hx5,hq5⟩:=hq _ _ _ hgood;exact hr _ _ _ _ _ _ _ hq5 hg5 (hxx.trans hx5)
      · rename_i c' hp
        have hpe:pe=some c':=z2.symm.trans hp;subst hpe;exact hq _ _ _ _ hgood fun e T' H' ds' g' w' a' hq' hg' hx'=>hr e T' H' ds' g' w' a' hq' hg' (hxx.trans hx')
  | region i o d=>cases d <;> simp [Code.kind] at hk
  | _=>simp [Code.kind] at hk

theorem aEc {σ:Type} {N:Nat} {Q:Exit->Env->aY->List Nat->Prop} {ds:List Nat} {c:Code} {l:List (Nat×V)} {fid:Nat} {ys cs:List V} {H0:aY} {E:List Nat} {G:Gs} {L:List (Nat×Nat×List V)} {b0 l0:Nat} {A0:tG} {st0:LoopState} {pe0:Option Code} (ps:Array Tmp) (I:tG->Nat->Nat->σ->Gs->Prop) (s0 s1:σ) (v:V)
    (h0:H[l0]? = some (.raw (iD b0 A0 st0 pe0)))
    (hk:c.kind=9) (hf:cH (Env.ofL l) [] c.cnd=some (.fn (.func fid) ys cs)) (hps:c.rps=ps) (hO:aJ ⟨H0,E,G⟩ H L)
    (hi:∀ b lL,I ⟨N,l,ps,c.asg,c.b⟩ b lL s0 ((lL,.raw (iD b ⟨N,l,ps,c.asg,c.b⟩ .ready none))::(up L++G)))
    (hit:∀ b lL,yQ P fid (I ⟨N,l,ps,c.asg,c.b⟩ b lL) s0 (ys++[yv b]++cs) s1 v)
    (hend:∀ b lL H' G',I ⟨N,l,ps,c.asg,c.b⟩ b lL s1 G'->aJ ⟨H0,E,G'⟩ H' [] -> ∃ st pe,H'[lL]? = some (.raw (iD b ⟨N,l,ps,c.asg,c.b⟩ st pe))/\st ≠ .busy /\
      (match pe with
       | none=>Cl N Q .normal (Env.ofL l) (H'.set lL .dead) ds
       | some c'=>AWP P (some b0) N c' (Env.ofL l) (H'.set lL .dead) ds Q)):AWP P (some b0) N c (Env.ofL l) H ds Q:=by
  refine aDK h0 hk hf hps fun b=>?_;have o1:=hO.JT.QL (.raw (iD b ⟨N,l,ps,c.asg,c.b⟩ .ready none));refine (hit b H.length _ _ (hi b H.length) o1.gok).mono ?_;rintro x H' ⟨_,G',hi',hst⟩;exact hend b H.length H' G' hi' (o1.QV hst)

theorem OA {H0:aY}{E:List Nat}{lL:Nat}{s:dQ}{G:Gs}{L:List (Nat×Nat×List V)}(h:aJ ⟨H0,E,(lL,s)::(up L++G)⟩ H []) :
    H[lL]? = some s/\aJ ⟨H0,E,G⟩ (H.set lL .dead) L:=by
  refine⟨(h.gm 0 _ rfl).2,?_⟩;exact (h.oX .dead).pH.take

end Go.Abs
namespace Go.Abs
open Go Go.RowKit
theorem aGa {n:Nat}{el el':Nat->V}(h:∀ i,i<n->aR (el i) (el' i))(hn:∀ i,i<n->fU (el' i)=true):aR (.sl false n el) (.sl false n el'):=by
  intro g w v hv
  cases hv with
  | sl0 z el a cap hz=>exact .sl0 _ _ _ _ (by simp)
  | sl n el b o k cap c h1 h2 h3 h4 h5 h6=>exact .sl n _ b o k cap c (fun i hi=>h i hi g w _ (h1 i hi)) h2 h3 h4 h5 hn

theorem aFH {α:Type}[Inhabited α]{e:α->V}{xs:List V}{l:List α}(h:pU xs (l.map e))(hn:(l.map e).all fU=true):aR (eD xs) (eL e l):=by
  intro g w v hv;refine QN g w v ?_;have hlen:=h.len
  cases xs with
  | nil =>
    cases l with
    | nil=>exact hv
    | cons a s=>simp at hlen
  | cons x r =>
    cases l with
    | nil=>simp at hlen
    | cons a s =>
      have hl:r.length=(s.map e).length:=by simpa using hlen
      show Rep g w (.sl false ((s.map e).length+1) (fun i=>(e a::s.map e).getD i .bad)) v;rw [←hl];refine aGa (fun i hi=>?_) (fun i hi=>?_) g w v hv
      · have h1:i<(x::r).length:=by simpa using hi
        have h2:i<(e a::s.map e).length:=by simp only [List.length_cons]; omega
        have h3:(x::r).getD i .bad=(x::r)[i]:=by simp only [List.getD_eq_getElem?_getD,List.getElem?_eq_getElem h1,Option.getD_some]
        have h4:(e a::s.map e).getD i .bad=(e a::s.map e)[i]:=by simp only [List.getD_eq_getElem?_getD,List.getElem?_eq_getElem h2,Option.getD_some]
        rw [h3,h4];exact h.get i _ _ (List.getElem?_eq_getElem h1) (List.getElem?_eq_getElem h2)
      · have h2:i<(e a::s.map e).length:=by simp only [List.length_cons]; omega
        have h4:(e a::s.map e).getD i .bad=(e a::s.map e)[i]:=by simp only [List.getD_eq_getElem?_getD,List.getElem?_eq_getElem h2,Option.getD_some]
        rw [h4];exact List.all_eq_true.1 hn (e a::s.map e)[i] (List.getElem_mem h2)

def tK:Option Nat->V
  | none => .lit (.pointer none)
  | some a => .lp a 0 0

section bundles
variable {β:Type} (sh:Nat->Nat->β->OL)
def pmM:List (Nat×Nat)->List (Int×β)->List (Int×Option Nat)
  | q::los,p::m=>(p.1,some q.1)::pmM los m
  | _,_=>[]

def pmL:List (Nat×Nat)->List (Int×β)->OL
  | q::los,p::m=>sh q.1 q.2 p.2++pmL los m
  | _,_=>[]

def pmG (lm:Nat)(los:List (Nat×Nat))(m:List (Int×β)):Gs:=(lm,qC tK (pmM los m))::up (pmL sh los m)

variable {sh}
theorem TA:∀ {los:List (Nat×Nat)} {m:List (Int×β)},los.length=m.length->(pmM los m).length=m.length
  | [],[],_=>rfl
  | _::_,_::_,h=>by simp only [pmM,List.length_cons]; rw [TA (by simpa using h)]
  | [],_::_,h=>by simp at h
  | _::_,[],h=>by simp at h

theorem aBM {k:Int}:∀ {los:List (Nat×Nat)} {m:List (Int×β)},gI m k=none->gI (pmM los m) k=none
  | [],[],_=>rfl
  | [],_::_,_=>rfl
  | _::_,[],_=>rfl
  | q::los,p::m,h=>by
    rw [gI] at h;split at h
    · cases h
    · rename_i hk
      rw [pmM,gI,if_neg hk,aBM h]

def Put (sh:Nat->Nat->β->OL)(m:List (Int×β))(k:Int)(a:Nat)(MM:List (Int×Option Nat))(R:OL):Prop :=
  ∀ b' p',∃ los',los'.length=(fD m k p').length/\MM=pmM los' (fD m k p')/\(sh a b' p'++R).Perm (pmL sh los' (fD m k p'))

theorem ZW {k:Int}{x:β}:∀ {los:List (Nat×Nat)} {m:List (Int×β)},los.length=m.length->gI m k=some x ->
    ∃ a b R,gI (pmM los m) k=some (some a)/\(pmL sh los m).Perm (sh a b x++R)/\Put sh m k a (pmM los m) R
  | [],[],_,h=>by cases h
  | [],_::_,h,_=>by simp at h
  | _::_,[],h,_=>by simp at h
  | q::los,p::m,hl,h=>by
    rw [gI] at h;by_cases hk:p.1=k
    · rw [if_pos hk] at h
      cases h
      refine⟨q.1,q.2,pmL sh los m,by rw [pmM,gI,if_pos hk],List.Perm.refl _,fun b' p'=>⟨(q.1,b')::los,?_,?_,?_⟩⟩
      · simp only [fD,if_pos hk]; simpa using hl
      · simp only [fD,if_pos hk]; simp only [pmM,hk]
      · simp only [fD,if_pos hk,pmL]; exact List.Perm.refl _
    · rw [if_neg hk] at h;obtain⟨a,b,R,h1,h2,h3⟩:=ZW (los:=los) (m:=m) (by simpa using hl) h;refine⟨a,b,sh q.1 q.2 p.2++R,by rw [pmM,gI,if_neg hk,h1],?_,fun b' p'=>?_⟩
      · rw [pmL];refine (List.Perm.append_left _ h2).trans ?_;rw [←List.append_assoc,←List.append_assoc];exact List.Perm.append_right _ List.perm_append_comm
      · obtain⟨los',e1,e2,e3⟩:=h3 b' p';refine⟨q::los',?_,?_,?_⟩
        · simp only [fD,if_neg hk,List.length_cons,e1]
        · simp only [fD,if_neg hk,pmM,e2]
        · simp only [fD,if_neg hk,pmL];refine List.Perm.trans ?_ (List.Perm.append_left _ e3);rw [←List.append_assoc,←List.append_assoc];exact List.Perm.append_right _ List.perm_append_comm

theorem aDU {k:Int}{a:Nat}:∀ {los:List (Nat×Nat)} {m:List (Int×β)},los.length=m.length->gI m k=none->Put sh m k a (fD (pmM los m) k (some a)) (pmL sh los m)
  | [],[],_,_=>fun b' p'=>⟨[(a,b')],rfl,rfl,by simp [fD,pmL]⟩
  | [],_::_,h,_=>by simp at h
  | _::_,[],h,_=>by simp at h
  | q::los,p::m,hl,h=>by
    rw [gI] at h;split at h
    · cases h
    · rename_i hk
      intro b' p';obtain⟨los',e1,e2,e3⟩:=aDU (a:=a) (los:=los) (m:=m) (by simpa using hl) h b' p';refine⟨q::los',?_,?_,?_⟩
      · simp only [fD,if_neg hk,List.length_cons,e1]
      · simp only [pmM,fD,if_neg hk,e2]
      · simp only [fD,if_neg hk,pmL];refine List.Perm.trans ?_ (List.Perm.append_left _ e3);rw [←List.append_assoc,←List.append_assoc];exact List.Perm.append_right _ List.perm_append_comm

theorem DG (A B:OL):up (A++B)=up A++up B:=by simp [up]

theorem aJ.aE3 {H0:aY}{E:List Nat}{G:Gs}{H:aY}{L R:OL}(h:aJ ⟨H0,E,up R++G⟩ H L):aJ ⟨H0,E,G⟩ H (R++L):=by
  have h1:aJ ⟨H0,E,G⟩ H (L++R):=aJ.glue (F:=⟨H0,E,G⟩) h;have h2:=h1.JT;exact (h2.qJ (G':=up (R++L)++G) (List.Perm.append_right _ (by rw [DG,DG]; exact List.perm_append_comm))).take

theorem aJ.aE2 {H0:aY}{E:List Nat}{G:Gs}{H:aY}{L R:OL}(h:aJ ⟨H0,E,G⟩ H (R++L)):aJ ⟨H0,E,up R++G⟩ H L:=by
  have h2:=h.JT;have h3:aJ ⟨H0,E,G⟩ H (L++R):=(h2.qJ (G':=up (L++R)++G) (List.Perm.append_right _ (by rw [DG,DG]; exact List.perm_append_comm))).take;exact aJ.part (F:=⟨H0,E,G⟩) h3

theorem aJ.aCa {H0:aY}{E:List Nat}{H:aY}{L:OL}:∀ {G:Gs},aJ ⟨H0,E,G⟩ H L->aJ ⟨H0,E,[]⟩ H L
  | [],h=>h
  | _::_,h=>aJ.aCa h.pH

theorem aJ.focus {H0:aY}{E:List Nat}{G:Gs}{H:aY}{L:OL}{lm:Nat}{los:List (Nat×Nat)}{m:List (Int×β)}{k:Int}{x:β}(h:aJ ⟨H0,E,pmG sh lm los m++G⟩ H L)(hl:los.length=m.length)(hg:gI m k=some x) :
    ∃ a b R,gI (pmM los m) k=some (some a)/\Put sh m k a (pmM los m) R/\aJ ⟨H0,E,(lm,qC tK (pmM los m))::(up R++G)⟩ H (sh a b x++L):=by
  obtain⟨a,b,R,h1,h2,h3⟩:=ZW (sh:=sh) hl hg;refine⟨a,b,R,h1,h3,?_⟩
  have : (pmG sh lm los m++G).Perm (up (sh a b x)++((lm,qC tK (pmM los m))::(up R++G))):=by
    unfold pmG;refine List.Perm.trans ?_ List.perm_middle.symm;refine List.Perm.cons _ ?_;rw [←List.append_assoc,←DG];exact List.Perm.append_right _ (h2.map _)
  exact (h.qJ this).aE3

theorem aJ.aBq {H0:aY}{E:List Nat}{G:Gs}{H:aY}{L R:OL}{lm a b:Nat}{MM:List (Int×Option Nat)}{m:List (Int×β)}{k:Int}{x:β}(h:aJ ⟨H0,E,(lm,qC tK MM)::(up R++G)⟩ H (sh a b x++L))(hp:Put sh m k a MM R) :
    ∃ los',los'.length=(fD m k x).length/\aJ ⟨H0,E,pmG sh lm los' (fD m k x)++G⟩ H L:=by
  obtain⟨los',e1,e2,e3⟩:=hp b x;refine⟨los',e1,?_⟩;have h1:=h.aE2;refine h1.qJ ?_;unfold pmG;refine List.perm_middle.trans ?_;rw [e2];refine List.Perm.cons _ ?_;rw [←List.append_assoc,←DG];exact List.Perm.append_right _ (e3.map _)

theorem NT {P:Program} {ro:Option Nat} {N:Nat} {c:Code} {T:Env} {ds:List Nat} {Q:Exit->Env->aY->List Nat->Prop} {α:Type} [Inhabited α] {H0:aY} {E:List Nat} (k k2 j:Nat) (cs:Nat->β->List V) (rows:β->List α) (e:α->V) (sf:β->V)
    (hsh:∀ a b p,sh a b p=[(a,k,[.agg (cs b p)]),(b,k2,(rows p).map e)]) (hj:∀ b p,(cs b p)[j]? = some (.msl k2 b 0 (rows p).length)) (hsf:∀ b p,V.agg ((cs b p).set j (eL e (rows p)))=sf p) :
    ∀ (m:List (Int×β)) (los:List (Nat×Nat)) {G:Gs} {H:aY} {L:OL},los.length=m.length->aJ ⟨H0,E,up (pmL sh los m)++G⟩ H L ->
      (∀ H',aJ ⟨H0,E,up (pmL (fun a _ p=>[(a,k,[sf p])]) los m)++G⟩ H' L->AWP P ro N c T H' ds Q)->AWP P ro N c T H ds Q
  | [],[],G,H,L,_,hO,h=>h H hO
  | [],_::_,_,_,_,hl,_,_=>by simp at hl
  | _::_,[],_,_,_,hl,_,_=>by simp at hl
  | p::m,q::los,G,H,L,hl,hO,h=>by
    rw [pmL,DG,List.append_assoc] at hO;have h1:=hO.aE3;rw [hsh] at h1;refine OH (e:=e) (rows p.2) 0 1 k k2 q.1 q.2 (rows p.2).length j (cs q.2 p.2) ((q.1,k,[sf p.2])::L) h1 rfl (hj _ _) rfl rfl rfl (by rw [←hsf q.2 p.2]; rfl) fun H' hO'=>?_;have h2:=aJ.aE2 (R:=[(q.1,k,[sf p.2])]) (L:=L) hO'
    have h3:aJ ⟨H0,E,up (pmL sh los m)++(up [(q.1,k,[sf p.2])]++G)⟩ H' L:=h2.qJ (by
      rw [←List.append_assoc,←List.append_assoc]; exact List.Perm.append_right _ List.perm_append_comm)
    refine NT k k2 j cs rows e sf hsh hj hsf m los (by simpa using hl) h3 fun H'' hO''=>h H'' ?_;refine hO''.qJ ?_;rw [pmL,DG,←List.append_assoc];exact List.Perm.append_right _ List.perm_append_comm

end bundles
def aEJ:V->Option Bool
  | .lit (.pointer none)=>some true
  | .lp _ _ _=>some false
  | _=>none

section nils
variable {P:Program} {tt:TT} {N:Nat} {T:Env} {H:aY} {ops:Array Oper} {K:Env->aY->Prop} {i n:Nat}
theorem YE {K:V->aY->Prop}{op:BinOp}{t e u:TypeId}{x y:Operand}{z:V}{b:Bool}(hop:op = .eql∨op = .neq)(hu:P.underlying t=some (.pointer e))(hz:aEJ z=some b)(h:K (.lit (.bool (if op = .eql then b else !b))) H):GG P (.binOp op t x y u) [z,.lit (.pointer none)] H K:=by
  intro ro o a g w next R ho hs hx hn;have r1:=hx.2 0 z (a.eval x) rfl (by simp [Op.operands]);have r2:=hx.2 1 (.lit (.pointer none)) (a.eval y) rfl (by simp [Op.operands]);have e2:a.eval y = .pointer none:=r2.mE
  have e1:∃ ad,a.eval x = .pointer ad/\ad.isNone=b:=by
    unfold aEJ at hz;split at hz
    · simp at hz; subst hz; exact ⟨none,r1.mE,rfl⟩
    · simp at hz; subst hz; obtain ⟨_,h2⟩:=r1.lpE; exact ⟨_,h2,rfl⟩
    · cases hz
  obtain⟨ad,e1,e3⟩:=e1
  have hq:(Op.equal t (.pointer ad) (.pointer none)).run P w = .ok b w:=by
    unfold Op.equal Op.maxDepth;unfold Op.equalIn;simp only [Sem.run_bind,run_underlying hu,Result.andThen]
    cases ad with
    | none=>subst e3; rfl
    | some ad=>subst e3; rfl
  have hr:(execOp a.eval o).run P w = .ok (.value (.bool (if op = .eql then b else !b))) w:=by
    cases o
    simp only at ho;subst ho;rcases hop with rfl | rfl
    · have h1:(eqGuard .eql t x y (.pointer ad) (.pointer none)).run P w = .ok () w:=rfl
      have h2:(binOp .eql t (.pointer ad) (.pointer none)).run P w = .ok (.bool b) w:=by
        simp only [binOp,Sem.run_bind,hq,Result.andThen]; rfl
      simp [execOp,e1,e2,h1,h2,Result.andThen]
    · have h1:(eqGuard .neq t x y (.pointer ad) (.pointer none)).run P w = .ok () w:=rfl
      have h2:(binOp .neq t (.pointer ad) (.pointer none)).run P w = .ok (.bool (!b)) w:=by
        simp only [binOp,Sem.run_bind,hq,Result.andThen]; rfl
      simp [execOp,e1,e2,h1,h2,Result.andThen]
  exact eN (fun c e=>by rw [e] at ho; cases ho) hr (hn _ _ _ _ _ h hs (.lit _ rfl) (Ext.refl g w))

def aFa (P:Program)(t:TypeId):Bool:=match P.underlying t with
  | some (.pointer _)=>true
  | _=>false

def aDg (P:Program)(N:Nat)(ops:Array Oper)(T:Env)(i:Nat):Option Bool:=match fT N ops i with
  | some (.binOp op t x y _)=>match aFa P t,cH T [] x,cH T [] y with
    | true,some z,some (.lit (.pointer none))=>match aEJ z,op with
      | some b,.eql=>some b
      | some b,.neq=>some (!b)
      | _,_=>none
    | _,_,_=>none
  | _=>none

theorem aAA (b:Bool) (h:RWs P tt N ops (aL (i+1) n) (T.bU (cO ops i) ([],.lit (.bool b))) H K)
    (hs:aL i n=i::aL (i+1) n:=by kernel_rfl) (hd:aDg P N ops T i=some b:=by kernel_rfl):RWs P tt N ops (aL i n) T H K:=by
  unfold aDg at hd;split at hd
  · rename_i op t x y u hp
    split at hd
    · rename_i z hi hx hy
      unfold aFa at hi;split at hi
      · rename_i e hu
        split at hd
        · rename_i b' hz
          simp at hd; subst hd;exact yC hs hp (xs:=[z,.lit (.pointer none)]) (by simp [Op.operands,iJ,hx,hy]) (YE (.inl rfl) hu hz (by simpa using h))
        · rename_i b' hz
          simp at hd; subst hd;exact yC hs hp (xs:=[z,.lit (.pointer none)]) (by simp [Op.operands,iJ,hx,hy]) (YE (.inr rfl) hu hz (by simpa using h))
        · cases hd
      · cases hi
    · cases hd
  · cases hd

end nils
theorem SR.aFO {g:Gh}{w:World}{H:aY}(h:SR g w H){l:Nat}{s s':Sp}(hl:H[l]? = some (.raw s))(hs:∀ g w b o,s.p g w b o->s'.p g w b o):SR g w (H.set l (.raw s')):=by
  have hlt:l<H.length:=(List.getElem?_eq_some_iff.1 hl).1
  have hat:∀ l' ob,(H.set l (.raw s'))[l']? = some ob->(l'=l/\ob = .raw s')∨(l'≠l/\H[l']? = some ob):=by
    intro l' ob hl';rw [List.getElem?_set] at hl';split at hl'
    · rename_i heq
      simp [heq ▸ hlt] at hl';exact .inl ⟨heq.symm,hl'.symm⟩
    · rename_i hne; exact .inr ⟨fun e=>hne e.symm,hl'⟩
  refine { len:=by simp [h.len],fxc:=h.fxc,nt:=?_,kk:=?_,vec:=?_,raw:=?_,disj:=?_,rawd:=?_ }
  · intro l' k1 es1 hl1;rcases hat _ _ hl1 with ⟨_,he⟩ | ⟨_,hl2⟩
    · cases he
    · exact h.nt l' k1 es1 hl2
  · intro l' k1 es1 hl1;rcases hat _ _ hl1 with ⟨_,he⟩ | ⟨_,hl2⟩
    · cases he
    · exact h.kk l' k1 es1 hl2
  · intro l' k1 es1 hl1;rcases hat _ _ hl1 with ⟨_,he⟩ | ⟨_,hl2⟩
    · cases he
    · exact h.vec l' k1 es1 hl2
  · intro l' s1 hl1;rcases hat _ _ hl1 with ⟨rfl,he⟩ | ⟨_,hl2⟩
    · cases he
      obtain⟨o,q1,q2,q3⟩:=h.raw l' _ hl;exact⟨o,q1,q2,hs _ _ _ _ q3⟩
    · exact h.raw l' s1 hl2
  · intro a b k1 k2 es1 es2 ha hb2 hne;rcases hat _ _ ha with ⟨_,he⟩ | ⟨_,ha2⟩
    · cases he
    · rcases hat _ _ hb2 with ⟨_,he⟩ | ⟨_,hb3⟩
      · cases he
      · exact h.disj _ _ _ _ _ _ ha2 hb3 hne
  · intro a b s1 s2 ha hb2 hne;rcases hat _ _ ha with ⟨rfl,_⟩ | ⟨_,ha2⟩ <;> rcases hat _ _ hb2 with ⟨rfl,_⟩ | ⟨_,hb3⟩
    · exact absurd rfl hne
    · exact h.rawd _ _ _ _ hl hb3 hne
    · exact h.rawd _ _ _ _ ha2 hl hne
    · exact h.rawd _ _ _ _ ha2 hb3 hne

theorem aC9 {N:Nat} {Q:Exit->Env->aY->List Nat->Prop} {ds:List Nat} {e:Exit} {T:Env} {H H0:aY} {E:List Nat} {G:Gs} {L:OL} {β:Type} {f:β->V} {m:List (Int×β)} {bs:List Nat} {l clock:Nat} (hO:aJ ⟨H0,E,(l,HM f m bs clock)::G⟩ H L)
    (h:∀ H',aJ ⟨H0,E,(l,qC f m)::G⟩ H' L->Cl N Q e T H' ds):Cl N Q e T H ds :=
  CR (fun g w _ _ hg=>⟨g,⟨hg.sr.aFO (hO.gm 0 _ rfl).2 (s':=FJ dI (uY f m)) fun _ _ _ _ ⟨es,h1,_,h3,h4,h5⟩=>⟨es,clock,h1,h3,h4,h5⟩,hg.tr,hg.df,hg.dl,hg.sz⟩,Ext.refl g w⟩) (h _ (hO.oX _))

theorem SP {S β:Type}(g:S->Int->Option S):∀ (q:List (Int×β)) (s:S),dV (fun s (x:Int×β)=>g s x.1) s q=dV g s (q.map (·.1))
  | [],_=>rfl
  | x::q,s=>by
    simp only [dV,List.map_cons]
    cases g s x.1 with
    | none=>rfl
    | some s'=>exact SP g q s'

theorem aAw {β:Type}:∀ {los:List (Nat×Nat)} {m:List (Int×β)},los.length=m.length->(pmM los m).map (·.1)=m.map (·.1)
  | [],[],_=>rfl
  | _::_,_::_,h=>by simp only [pmM,List.map_cons]; rw [aAw (by simpa using h)]
  | [],_::_,h=>by simp at h
  | _::_,[],h=>by simp at h

theorem aFz {S R β:Type}{g:S->Int->Option S}{after:S->Option R}{s:S}{r:R}{los:List (Nat×Nat)}{m:List (Int×β)}(hl:los.length=m.length)(h:uP (m.map (·.1)) (fun q=>(dV g s q).bind after)=some r) :
    uP (pmM los m) (fun q=>(dV (fun s (x:Int×Option Nat)=>g s x.1) s q).bind after)=some r :=
  LO fun q hq=>by
    rw [SP];exact VE h _ (by rw [←aAw hl]; exact hq.map _)

theorem VA {β:Type}{k:Int}{x:β}:∀ {m:List (Int×β)},gI m k=some x->fD m k x=m
  | [],h=>by cases h
  | p::m,h=>by
    rw [gI] at h;by_cases hk:p.1=k
    · rw [if_pos hk] at h; cases h;rw [fD,if_pos hk,←hk]
    · rw [if_neg hk] at h;simp only [fD,if_neg hk,VA h]

end Go.Abs
namespace Go.Abs
open Go Go.RowKit
section
variable {P:Program} {tt:TT} {ro:Option Nat} {N:Nat} {T:Env} {H:aY} {ds:List Nat} {Q:Exit->Env->aY->List Nat->Prop} {ops:Array Oper} {K:Env->aY->Prop} {i n:Nat}
theorem aZ {l:List (Nat×V)}(h:l.map (fun p=>T p.1)=l.map (fun p=>some ([],p.2)):=by kernel_rfl):Has T l:=.eq h

theorem fL {c:Code} {S R:Type} {body:S->Option (S⊕R)} {s:S} {r:R} (I:S->Env->aY->Prop) (hl:lp body s=some r) (h0:I s T H)
    (round:∀ k s out T H,I s T H->body s=some out->aB1 body k r out->AWP P ro N c.b T H ds (vF (fun T' H' ds'=>ds'=ds /\ ∃ s',out = .inl s'/\I s' T' H') Q)) (hk:c.kind=4:=by kernel_rfl):AWP P ro N c T H ds Q:=aF2 hk I hl h0 round

theorem kI (k:Nat)(z:V)(h:RWs P tt N ops (aL (i+1) n) (T.bU (cO ops i) ([],.rp z)) H K)(hs:aL i n=i::aL (i+1) n:=by kernel_rfl)(hd:uS tt N ops T i=some (k,z):=by kernel_rfl):RWs P tt N ops (aL i n) T H K:=aGc k z hs hd h

theorem nP (xs:List V)(k:Nat)(h:RWs P tt N ops (aL (i+1) n) (T.bU (cO ops i) ([],eD xs)) H K)(hs:aL i n=i::aL (i+1) n:=by kernel_rfl)(hd:MB tt N ops T i=some (xs,k):=by kernel_rfl):RWs P tt N ops (aL i n) T H K:=aGR hs hd h

theorem AS {H0:Frame} {L:List (Nat×Nat×List V)} {α:Type} (e:α->V) (xs zs:List α) (q lo k bytes:Nat) (x:V) (L':Nat->List (Nat×Nat×List V)) (hO:aJ H0 H L)
    (hy:sW k H x=some (zs.map e)) (hb:(xs.length+zs.length)*bytes<=140737488355328/\xs.length+zs.length<=9223372036854775807)
    (h:∀ lo' H',aJ H0 H' (L' lo')->RWs P tt N ops (aL (i+1) n) (T.bU (cO ops i) ([],.msl k lo' 0 (xs++zs).length)) H' K)
    (hs:aL i n=i::aL (i+1) n:=by kernel_rfl) (hd:ER tt N ops T i=some (.msl k lo 0 xs.length,x,k,bytes):=by kernel_rfl) (hL:L[q]? = some (lo,k,xs.map e):=by kernel_rfl) (hl:∀ lo',L' lo'=L.set q (lo',k,(xs++zs).map e):=fun _=>by kernel_rfl):RWs P tt N ops (aL i n) T H K :=
  aFW xs zs q lo k bytes x L' hs hd hO hL hy hb hl h

variable {TD:PE} {KD:PE->aY->Prop} {pl:Oper->Bool}
theorem oR {H0:Frame} {L:List (Nat×Nat×List V)} (q lo k ix:Nat) (y x:V) (es:List V) (hO:aJ H0 H L) (hy:es[ix]? = some y) (h:RD P tt N pl ops (aL (i+1) n) (TD.bU (cO ops i) x) H KD)
    (hs:aL i n=i::aL (i+1) n:=by kernel_rfl) (hq:sP pl ops i=true:=by kernel_rfl) (hd:OQ tt N ops TD i y=some (lo,ix,x):=by kernel_rfl) (hL:L[q]? = some (lo,k,es):=by kernel_rfl):RD P tt N pl ops (aL i n) TD H KD:=aF3 q lo k ix y x es hs hq hd hO hL hy h

end
end Go.Abs
namespace Go.Abs
open Go
structure bW where
  Kind:Int
  Size:Int
  Hop:Int
  deriving Inhabited,DecidableEq

def FA (x:bW):List V:=[(cZ .i64 x.Kind)]++[(cZ .i64 x.Size)]++[(cZ .i64 x.Hop)]

def cA (x:bW):V:=.agg (FA x)

structure aG where
  Kind:Int
  Num:Int
  Text:ByteArray
  deriving Inhabited,DecidableEq

def NP (x:aG):List V:=[(cZ .i64 x.Kind)]++[(cZ .i64 x.Num)]++[(CH x.Text)]

def aD (x:aG):V:=.agg (NP x)

structure aK where
  Row:(List aG)
  At:Int
  Net:Int
  deriving Inhabited,DecidableEq

def QX (x:aK):List V:=[(eL aD x.Row)]++[(cZ .i64 x.At)]++[(cZ .i64 x.Net)]

def aH (x:aK):V:=.agg (QX x)

structure aI where
  At:Int
  Net:Int
  deriving Inhabited,DecidableEq

def aCA (x:aI):List V:=[(cZ .i64 x.At)]++[(cZ .i64 x.Net)]

def aO (x:aI):V:=.agg (aCA x)

inductive bS where
  | none_
  | k_number (x:Int)
  | k_words (x:ByteArray)
  deriving DecidableEq

instance : Inhabited bS:=⟨.none_⟩

def bO:bS->V
  | .none_ => .lit .nilIface
  | .k_number x => .ifc 160 (cZ .i64 x)
  | .k_words x => .ifc 164 (CH x)

structure bL where
  From:Int
  To:Int
  deriving Inhabited,DecidableEq

def RW (x:bL):List V:=[(cZ .i64 x.From)]++[(cZ .i64 x.To)]

def dG (x:bL):V:=.agg (RW x)

structure bK where
  Row:(List aG)
  N:Int
  deriving Inhabited,DecidableEq

def aCB (x:bK):List V:=[(eL aD x.Row)]++[(cZ .i64 x.N)]

def bZ (x:bK):V:=.agg (aCB x)

structure aP where
  Span:bL
  Rows:(List bK)
  deriving Inhabited,DecidableEq

def aCl (x:aP):List V:=RW x.Span++[(eL bZ x.Rows)]

def aT (x:aP):V:=.agg (aCl x)

structure cE where
  row:(List aG)
  jumps:(List aI)
  deriving Inhabited,DecidableEq

def aAU (x:cE):List V:=[(eL aD x.row)]++[(eL aO x.jumps)]

def cF (x:cE):V:=.agg (aAU x)

def BY (l0:(List aK)):Option Bool :=
  some (decide (((List.length l0:Nat):Int)<=(60:Int)))

def uE (l0:(List aK))(i3:Int):Option ((Int)⊕(Unit⊕Bool)) :=
  cond ((decide (i3<((List.length l0:Nat):Int)))&&(decide (i3<=(60:Int))))
  (bE (0<=i3/\i3<((List.length l0:Nat):Int)) <|
  cond (decide ((10:Int)<((List.getD l0 (Int.toNat i3) default).Net)))
  (some (.inr (.inr false)))
  (some (.inl (IntKind.i64.wrap (i3+(1:Int))))))
  (some (.inr (.inl ())))

def BP (l0:(List aK))(i3:Int):Option Bool :=
  (lp (fun s=>uE l0 s) i3).bind (Sum.elim (fun rr=>BY l0) (fun rr=>some rr))

def zT (l0:(List aK)):Option Bool :=
  BP l0 (0:Int)

def rK (n0:Int):Option Bool :=
  some ((decide ((1:Int)<=n0))&&(decide (n0<=(1099511627776:Int))))

def lM (ok4:Bool):Option Int :=
  cond (!ok4)
  (some (2:Int))
  (some (0:Int))

def oW (w0:bW):Option Int :=
  cond (decide (w0.Kind=(1:Int)))
  (lM ((decide (w0.Size=(0:Int)))&&(decide (w0.Hop=(0:Int)))))
  (cond (decide (w0.Kind=(2:Int)))
  ((rK w0.Size).bind fun x4 =>
  (cW x4 (rK w0.Hop)).bind fun x7 =>
  lM (x4&&x7))
  (cond (decide (w0.Kind=(3:Int)))
  (lM (((decide ((1:Int)<=w0.Size))&&(decide (w0.Size<=(64:Int))))&&(decide (w0.Hop=(0:Int)))))
  (lM false)))

def wM (l0:(List aK)):Option ((List aK)) :=
  some l0

def iM  : Option Bool :=
  some true

def fS (s10:(List aG))(s21:(List aG))(t12:Int)(t13:Int):Option ((Int)⊕(Unit⊕Bool)) :=
  cond (decide (t13<t12))
  (bE (0<=t13/\t13<((List.length s10:Nat):Int)) <|
  bE (0<=t13/\t13<((List.length s21:Nat):Int)) <|
  cond (!((decide (((List.getD s10 (Int.toNat t13) default).Kind)=((List.getD s21 (Int.toNat t13) default).Kind)))&&((decide (((List.getD s10 (Int.toNat t13) default).Num)=((List.getD s21 (Int.toNat t13) default).Num)))&&((oY ((List.getD s10 (Int.toNat t13) default).Text) ((List.getD s21 (Int.toNat t13) default).Text))&&true))))
  (some (.inr (.inr false)))
  (some (.inl (IntKind.i64.wrap (t13+(1:Int))))))
  (some (.inr (.inl ())))

def kM (s10:(List aG))(s21:(List aG))(t12:Int)(t13:Int):Option Bool :=
  (lp (fun s=>fS s10 s21 t12 s) t13).bind (Sum.elim (fun rr=>iM ) (fun rr=>some rr))

def fY (s10:(List aG))(s21:(List aG)):Option Bool :=
  cond (!decide (((List.length s10:Nat):Int)=((List.length s21:Nat):Int)))
  (some false)
  (kM s10 s21 ((List.length s10:Nat):Int) (0:Int))

def sK (a0:(List aG))(b1:(List aG)):Option Bool :=
  (fY a0 b1).bind fun x1 =>
  some x1

def yU (r0:(List aG)):Option (List aG) :=
  bE (0<=((List.length r0:Nat):Int)/\(32:Int)*((List.length r0:Nat):Int)<=281474976710656/\((List.length r0:Nat):Int)<=9223372036854775807) <|
  bE ((List.length ([]:List aG)+List.length r0)*32<=140737488355328/\List.length ([]:List aG)+List.length r0<=9223372036854775807) <|
  some (([]:List aG)++r0)

def rJ {σ:Type}(cL:σ->(List aG)->(List aI)->Option (σ×Bool))(sg:σ)(t1:(List aK))(i3:Int)(r4:(List aG))(f5:List aI):Option ((σ×Int)⊕(σ⊕σ)) :=
  (yU r4).bind fun x7 =>
  (cL sg x7 f5).bind fun x10 =>
  cond (!x10.2)
  (some (.inr (.inr x10.1)))
  (some (.inl (x10.1,i3)))

def kP {σ:Type}(cL:σ->(List aG)->(List aI)->Option (σ×Bool))(t1:(List aK))(r4:(List aG))(sg:σ)(i3:Int)(f5:List aI):Option ((σ×Int×List aI)⊕((σ×Int×List aI))) :=
  bE ((((decide (i3<((List.length t1:Nat):Int))))=true->0<=i3/\i3<((List.length t1:Nat):Int))) <|
  (cW (decide (i3<((List.length t1:Nat):Int))) (sK ((List.getD t1 (Int.toNat i3) default).Row) r4)).bind fun x16 =>
  cond ((decide (i3<((List.length t1:Nat):Int)))&&x16)
  (bE (0<=i3/\i3<((List.length t1:Nat):Int)) <|
  bE (0<=i3/\i3<((List.length t1:Nat):Int)) <|
  bE ((List.length f5+List.length ([aI.mk ((List.getD t1 (Int.toNat i3) default).At) ((List.getD t1 (Int.toNat i3) default).Net)]))*16<=140737488355328/\List.length f5+List.length ([aI.mk ((List.getD t1 (Int.toNat i3) default).At) ((List.getD t1 (Int.toNat i3) default).Net)])<=9223372036854775807) <|
  some (.inl (sg,IntKind.i64.wrap (i3+(1:Int)),f5++([aI.mk ((List.getD t1 (Int.toNat i3) default).At) ((List.getD t1 (Int.toNat i3) default).Net)]))))
  (some (.inr (sg,i3,f5)))

def uZ {σ:Type}(cL:σ->(List aG)->(List aI)->Option (σ×Bool))(sg:σ)(t1:(List aK))(i3:Int)(r4:(List aG))(f5:List aI):Option ((σ×Int)⊕(σ⊕σ)) :=
  (lp (fun s=>kP cL t1 r4 s.1 s.2.1 s.2.2) (sg,i3,f5)).bind (fun rr=>rJ cL rr.1 t1 rr.2.1 r4 rr.2.2)

def jN {σ:Type}(cL:σ->(List aG)->(List aI)->Option (σ×Bool))(t1:(List aK))(sg:σ)(i3:Int):Option ((σ×Int)⊕(σ⊕σ)) :=
  cond (decide (i3<((List.length t1:Nat):Int)))
  (bE (0<=i3/\i3<((List.length t1:Nat):Int)) <|
  uZ cL sg t1 i3 ((List.getD t1 (Int.toNat i3) default).Row) ([]:List aI))
  (some (.inr (.inl sg)))

def uQ {σ:Type}(cL:σ->(List aG)->(List aI)->Option (σ×Bool))(sg:σ)(t1:(List aK))(i3:Int):Option σ :=
  (lp (fun s=>jN cL t1 s.1 s.2) (sg,i3)).bind (Sum.elim (fun rr=>some rr) (fun rr=>some rr))

def pR {σ:Type}(cL:σ->(List aG)->(List aI)->Option (σ×Bool))(t1:(List aK))(sg0:σ):Option σ :=
  uQ cL sg0 t1 (0:Int)

def gH (f1:aG->Option Bool)  : Option Int :=
  some (-1:Int)

def jC (f1:aG->Option Bool)(s0:(List aG))(t7:Int)(t8:Int):Option ((Int)⊕(Unit⊕Int)) :=
  cond (decide (t8<t7))
  (bE (0<=t8/\t8<((List.length s0:Nat):Int)) <|
  (f1 (List.getD s0 (Int.toNat t8) default)).bind fun x3 =>
  cond x3
  (some (.inr (.inr t8)))
  (some (.inl (IntKind.i64.wrap (t8+(1:Int))))))
  (some (.inr (.inl ())))

def jB (f1:aG->Option Bool)(s0:(List aG))(t7:Int)(t8:Int):Option Int :=
  (lp (fun s=>jC f1 s0 t7 s) t8).bind (Sum.elim (fun rr=>gH f1 ) (fun rr=>some rr))

def jJ (s0:(List aG))(f1:aG->Option Bool):Option Int :=
  jB f1 s0 ((List.length s0:Nat):Int) (0:Int)

def fP (s0:(List aG))(f1:aG->Option Bool):Option Bool :=
  (jJ s0 f1).bind fun x1 =>
  some (decide ((0:Int)<=x1))

def mY (v0:aG):Option (bS×Bool) :=
  cond ((decide (v0.Kind=(1:Int)))&&(oY v0.Text (⟨#[]⟩:ByteArray)))
  (some (bS.k_number v0.Num,true))
  (cond (((decide (v0.Kind=(2:Int)))&&(decide (v0.Num=(0:Int))))&&(decide (((ByteArray.size v0.Text:Nat):Int)<=(64:Int))))
  (some (bS.k_words v0.Text,true))
  (some (bS.none_,false)))

def zF (v0:aG):Option Bool :=
  (mY v0).bind fun (x1_0,x1_1) =>
  match x1_0 with
  | .none_=>(some x1_1)
  | .k_number y4=>(some x1_1)
  | .k_words y5=>(some x1_1)

def zI (v0:aG):Option Bool :=
  (zF v0).bind fun x1 =>
  some (!x1)

def yH (r0:(List aG)):Option Bool :=
  cond (decide ((8:Int)<((List.length r0:Nat):Int)))
  (some false)
  ((fP r0 (fun y0=>zI y0)).bind fun x2 =>
  some (!x2))

def xJ (t0:(List aG)):Option ((Int×(List aG))) :=
  some ((-1:Int),t0)

def fQ {σ:Type}(f1:σ->aG->Option (σ×Bool))(sg:σ):Option (σ×Int) :=
  some (sg,(-1:Int))

def cP {σ:Type}(f1:σ->aG->Option (σ×Bool))(s0:(List aG))(t7:Int)(sg:σ)(t8:Int):Option ((σ×Int)⊕(σ⊕(σ×Int))) :=
  cond (decide (t8<t7))
  (bE (0<=t8/\t8<((List.length s0:Nat):Int)) <|
  (f1 sg (List.getD s0 (Int.toNat t8) default)).bind fun x3 =>
  cond x3.2
  (some (.inr (.inr (x3.1,t8))))
  (some (.inl (x3.1,IntKind.i64.wrap (t8+(1:Int))))))
  (some (.inr (.inl sg)))

def iU {σ:Type}(f1:σ->aG->Option (σ×Bool))(sg:σ)(s0:(List aG))(t7:Int)(t8:Int):Option (σ×Int) :=
  (lp (fun s=>cP f1 s0 t7 s.1 s.2) (sg,t8)).bind (Sum.elim (fun rr=>fQ f1 rr) (fun rr=>some (rr.1,rr.2)))

def iY {σ:Type}(s0:(List aG))(f1:σ->aG->Option (σ×Bool))(sg0:σ):Option (σ×Int) :=
  iU f1 sg0 s0 ((List.length s0:Nat):Int) (0:Int)

def kZ (v0:aG)(t1:Int)(t2:(List aG)):Option (Bool×Int) :=
  bE (0<=(IntKind.i64.wrap (t1+(1:Int)))/\(IntKind.i64.wrap (t1+(1:Int)))<((List.length t2:Nat):Int)) <|
  some ((!((decide (v0.Kind=((List.getD t2 (Int.toNat (IntKind.i64.wrap (t1+(1:Int)))) default).Kind)))&&((decide (v0.Num=((List.getD t2 (Int.toNat (IntKind.i64.wrap (t1+(1:Int)))) default).Num)))&&((oY v0.Text ((List.getD t2 (Int.toNat (IntKind.i64.wrap (t1+(1:Int)))) default).Text))&&true)))),(IntKind.i64.wrap (t1+(1:Int))))

def lP (x0:Int):Option Bool :=
  some (!decide (x0=x0))

def qH (x0:Int)(y1:Int):Option Int :=
  (lP x0).bind fun x1 =>
  (lP y1).bind fun x4 =>
  cond x1
  (cond x4
  (some (0:Int))
  (some (-1:Int)))
  (cond x4
  (some (1:Int))
  (cond (decide (x0<y1))
  (some (-1:Int))
  (cond (decide (y1<x0))
  (some (1:Int))
  (some (0:Int)))))

def mA (x0:Int):Option Bool :=
  some (!decide (x0=x0))

def gY (x0:Int)(y1:Int):Option Int :=
  (mA x0).bind fun x1 =>
  (mA y1).bind fun x4 =>
  cond x1
  (cond x4
  (some (0:Int))
  (some (-1:Int)))
  (cond x4
  (some (1:Int))
  (cond (decide (x0<y1))
  (some (-1:Int))
  (cond (decide (y1<x0))
  (some (1:Int))
  (some (0:Int)))))

def kQ (a0:ByteArray)(b1:ByteArray):Option Int :=
  some (TC a0 b1)

def nW (a0:ByteArray)(b1:ByteArray):Option Int :=
  (kQ a0 b1).bind fun x1 =>
  some x1

def sQ (a0:aG)(b1:aG):Option Int :=
  (mY a0).bind fun (x1_0,x1_1) =>
  match x1_0 with
  | .none_=>((mY b1).bind fun (x6_0,x6_1) =>
  match x6_0 with
  | .none_=>(cond ((!x1_1)||(!x6_1))
  (some (0:Int))
  (none))
  | .k_number y9=>(cond ((!x1_1)||(!x6_1))
  (some (0:Int))
  (some (1:Int)))
  | .k_words y10=>(cond ((!x1_1)||(!x6_1))
  (some (0:Int))
  (none)))
  | .k_number y4=>((mY b1).bind fun (x23_0,x23_1) =>
  match x23_0 with
  | .none_=>(cond ((!x1_1)||(!x23_1))
  (some (0:Int))
  (some (-1:Int)))
  | .k_number y26=>(cond ((!x1_1)||(!x23_1))
  (some (0:Int))
  ((gY y4 y26).bind fun x33 =>
  some x33))
  | .k_words y27=>(cond ((!x1_1)||(!x23_1))
  (some (0:Int))
  (some (-1:Int))))
  | .k_words y5=>((mY b1).bind fun (x39_0,x39_1) =>
  match x39_0 with
  | .none_=>(cond ((!x1_1)||(!x39_1))
  (some (0:Int))
  (none))
  | .k_number y42=>(cond ((!x1_1)||(!x39_1))
  (some (0:Int))
  (some (1:Int)))
  | .k_words y43=>(cond ((!x1_1)||(!x39_1))
  (some (0:Int))
  ((nW y5 y43).bind fun x56 =>
  some x56)))

def vT (a0:(List aG))(b1:(List aG)):Option Int :=
  (yH a0).bind fun x1 =>
  (cW (!(!x1)) (yH b1)).bind fun x4 =>
  cond ((!x1)||(!x4))
  (some (0:Int))
  (bE (0<=(if ((List.length b1:Nat):Int)<((List.length a0:Nat):Int) then ((List.length b1:Nat):Int) else ((List.length a0:Nat):Int))/\(if ((List.length b1:Nat):Int)<((List.length a0:Nat):Int) then ((List.length b1:Nat):Int) else ((List.length a0:Nat):Int))<=((List.length a0:Nat):Int)) <|
  (xJ b1).bind fun x9 =>
  (iY (List.take (Int.toNat (if ((List.length b1:Nat):Int)<((List.length a0:Nat):Int) then ((List.length b1:Nat):Int) else ((List.length a0:Nat):Int))) a0) (fun st y0=>(kZ y0 st x9.2).bind fun o=>some (o.2,o.1)) x9.1).bind fun x12 =>
  cond (decide (x12.2<(0:Int)))
  ((qH ((List.length a0:Nat):Int) ((List.length b1:Nat):Int)).bind fun x15 =>
  some x15)
  (bE (0<=x12.2/\x12.2<((List.length a0:Nat):Int)) <|
  bE (0<=x12.2/\x12.2<((List.length b1:Nat):Int)) <|
  (sQ (List.getD a0 (Int.toNat x12.2) default) (List.getD b1 (Int.toNat x12.2) default)).bind fun x20 =>
  some x20))

def rE (yI:(List aI)->Option Bool)(yX:(List aK))(t4:Bool)(qK:(List aG))(lO:Bool)(t14:(List aG))(t15:(List aI)):Option ((Bool×(List aG)×Bool)⊕(Bool×(List aG)×Bool)) :=
  (yH t14).bind fun x7 =>
  (cW (lO&&(!(!x7))) (vT qK t14)).bind fun x12 =>
  (cW (!((!x7)||(lO&&(decide ((0:Int)<=x12))))) (yI t15)).bind fun x15 =>
  cond (((!x7)||(lO&&(decide ((0:Int)<=x12))))||(!x15))
  (some (.inr (false,qK,lO)))
  (some (.inl (t4,t14,true)))

def BJ (yI:(List aI)->Option Bool)(t4:Bool)(qK:(List aG))(lO:Bool)(yX:(List aK)):Option Bool :=
  (pR (fun st t14 t15=>rnd (fun (s:Bool×(List aG)×Bool)=>rE yI yX s.1 s.2.1 s.2.2 t14 t15) st) yX (.inl (t4,qK,lO))).bind (Sum.elim (fun (s:Bool×(List aG)×Bool) =>
  (some true))
  (fun (s:Bool×(List aG)×Bool) =>
  (some s.1)))

def wQ (l0:(List aK))(yI:(List aI)->Option Bool):Option Bool :=
  cond (decide ((4096:Int)<((List.length l0:Nat):Int)))
  (some false)
  ((wM l0).bind fun x5 =>
  BJ yI false ([]) false x5)

def CY (n0:Int):Option Bool :=
  some ((decide (n0<=(1048576:Int)))&&(decide ((-1048576:Int)<=n0)))

def zE  : Option Bool :=
  some true

def nM (t9:(List aI))(t10:Int)(tC:Int)(t11:Int):Option ((Int×Int)⊕(Unit⊕Bool)) :=
  cond (decide (t11<t10))
  (bE (0<=t11/\t11<((List.length t9:Nat):Int)) <|
  (cW (!(((decide (((List.getD t9 (Int.toNat t11) default).At)<=tC))||(decide ((1125899906842624:Int)<=((List.getD t9 (Int.toNat t11) default).At))))||(decide (((List.getD t9 (Int.toNat t11) default).Net)=(0:Int))))) (CY ((List.getD t9 (Int.toNat t11) default).Net))).bind fun x8 =>
  cond ((((decide (((List.getD t9 (Int.toNat t11) default).At)<=tC))||(decide ((1125899906842624:Int)<=((List.getD t9 (Int.toNat t11) default).At))))||(decide (((List.getD t9 (Int.toNat t11) default).Net)=(0:Int))))||(!x8))
  (some (.inr (.inr false)))
  (some (.inl ((List.getD t9 (Int.toNat t11) default).At,IntKind.i64.wrap (t11+(1:Int))))))
  (some (.inr (.inl ())))

def CX (tC:Int)(t9:(List aI))(t10:Int)(t11:Int):Option Bool :=
  (lp (fun s=>nM t9 t10 s.1 s.2) (tC,t11)).bind (Sum.elim (fun rr=>zE ) (fun rr=>some rr))

def qI (f0:(List aI)):Option Bool :=
  cond (decide ((1024:Int)<((List.length f0:Nat):Int)))
  (some false)
  (CX (-2:Int) f0 ((List.length f0:Nat):Int) (0:Int))

def qN (l0:(List aK)):Option Bool :=
  (wQ l0 (fun y0=>qI y0)).bind fun x1 =>
  some x1

def vH (iZ:Int):Option Int :=
  some iZ

def oG (t24:(List aI))(t25:Int)(v3:Int)(iZ:Int)(t26:Int):Option ((Int×Int×Int)⊕(Int)) :=
  cond (decide (t26<t25))
  (bE (0<=t26/\t26<((List.length t24:Nat):Int)) <|
  some (.inl (IntKind.i64.wrap (v3+((List.getD t24 (Int.toNat t26) default).Net)),if (IntKind.i64.wrap (v3+((List.getD t24 (Int.toNat t26) default).Net)))<iZ then (IntKind.i64.wrap (v3+((List.getD t24 (Int.toNat t26) default).Net))) else iZ,IntKind.i64.wrap (t26+(1:Int)))))
  (some (.inr iZ))

def wC (v3:Int)(iZ:Int)(t24:(List aI))(t25:Int)(t26:Int):Option Int :=
  (lp (fun s=>oG t24 t25 s.1 s.2.1 s.2.2) (v3,iZ,t26)).bind (fun rr=>vH rr)

def sC (f0:(List aI))(v3:Int)(iZ:Int):Option Int :=
  wC v3 iZ f0 ((List.length f0:Nat):Int) (0:Int)

def xN (f0:(List aI)):Option Int :=
  (qI f0).bind fun x1 =>
  cond ((!x1)||(decide (((List.length f0:Nat):Int)=(0:Int))))
  (some (0:Int))
  (bE (0<=(0:Int)/\(0:Int)<((List.length f0:Nat):Int)) <|
  cond (decide (((List.getD f0 (Int.toNat (0:Int)) default).At)=(-1:Int)))
  (bE (0<=(0:Int)/\(0:Int)<((List.length f0:Nat):Int)) <|
  sC f0 (0:Int) ((List.getD f0 (Int.toNat (0:Int)) default).Net))
  (sC f0 (0:Int) (0:Int)))

def uK (f0:(List aI)):Option Bool :=
  (qI f0).bind fun x1 =>
  (cW x1 (xN f0)).bind fun x4 =>
  some (x1&&(decide ((0:Int)<=x4)))

def pN (l0:(List aK)):Option Bool :=
  (wQ l0 (fun y0=>uK y0)).bind fun x1 =>
  some x1

def qY (w0:bW)(l1:(List aK))(t2:Int):Option Int :=
  (oW w0).bind fun x1 =>
  (cW (!(!decide (x1=(0:Int)))) (qN l1)).bind fun x4 =>
  cond ((!decide (x1=(0:Int)))||(!x4))
  (some (2:Int))
  ((pN l1).bind fun x8 =>
  cond (!x8)
  (some (20:Int))
  (cond ((decide (t2<(0:Int)))||(decide ((1125899906842624:Int)<t2)))
  (some (13:Int))
  (some (0:Int))))

def AX (dF:Int)(hop1:Int):Option Bool :=
  some ((((decide ((1:Int)<=dF))&&(decide (dF<=(1099511627776:Int))))&&(decide ((1:Int)<=hop1)))&&(decide (hop1<=(1099511627776:Int))))

def vD (t0:Int):Option Bool :=
  some ((decide ((0:Int)<=t0))&&(decide (t0<=(1125899906842624:Int))))

def yA (q7:Int)(r8:Int):Option (Int×Int×Int) :=
  some (q7,r8,(0:Int))

def zO (a0:Int)(b1:Int):Option (Int×Int×Int) :=
  cond (decide (b1<(1:Int)))
  (some ((0:Int),(0:Int),(2:Int)))
  (bE (b1≠0) <|
  bE (b1≠0) <|
  cond (decide ((Int.tmod a0 b1)<(0:Int)))
  (yA (IntKind.i64.wrap ((IntKind.i64.wrap (Int.tdiv a0 b1))-(1:Int))) (IntKind.i64.wrap ((Int.tmod a0 b1)+b1)))
  (yA (IntKind.i64.wrap (Int.tdiv a0 b1)) (Int.tmod a0 b1)))

def rA (hop0:Int)(n1:Int):Option Int :=
  cond (decide (n1<(0:Int)))
  (some (0:Int))
  ((zO n1 hop0).bind fun x2 =>
  some (IntKind.i64.wrap ((IntKind.i64.wrap (x2.1+(1:Int)))*hop0)))

def CE (dF:Int)(hop1:Int)(t2:Int):Option (Int×Int) :=
  (AX dF hop1).bind fun x1 =>
  cond (!x1)
  (some ((0:Int),(2:Int)))
  ((vD t2).bind fun x5 =>
  cond (!x5)
  (some ((0:Int),(13:Int)))
  (cond (decide (t2=(1125899906842624:Int)))
  (some ((1125899906842624:Int),(0:Int)))
  ((rA hop1 (IntKind.i64.wrap (t2-dF))).bind fun x10 =>
  some (if (1125899906842624:Int)<x10 then (1125899906842624:Int) else x10,(0:Int)))))

def uI (l0:(List aK))(n1:Int):Option Int :=
  (qN l0).bind fun x1 =>
  cond (((!x1)||(decide (n1<(1:Int))))||(decide ((64:Int)<n1)))
  (some (2:Int))
  ((pN l0).bind fun x5 =>
  cond (!x5)
  (some (20:Int))
  (some (0:Int)))

def qT (l0:(List aK)):Option ((List aK)) :=
  some l0

def lC {σ:Type}(cL:σ->aK->Option (σ×Bool))(t5:(List aK))(t6:Int)(sg:σ)(t7:Int):Option ((σ×Int)⊕(σ⊕σ)) :=
  cond (decide (t7<t6))
  (bE (0<=t7/\t7<((List.length t5:Nat):Int)) <|
  (DK ((decide ((0:Int)<((List.getD t5 (Int.toNat t7) default).Net)))&&(decide ((-1:Int)<((List.getD t5 (Int.toNat t7) default).At)))) sg (cL sg (List.getD t5 (Int.toNat t7) default))).bind fun (x8,x9) =>
  cond (((decide ((0:Int)<((List.getD t5 (Int.toNat t7) default).Net)))&&(decide ((-1:Int)<((List.getD t5 (Int.toNat t7) default).At))))&&(!x9))
  (some (.inr (.inr x8)))
  (some (.inl (x8,IntKind.i64.wrap (t7+(1:Int))))))
  (some (.inr (.inl sg)))

def rP {σ:Type}(cL:σ->aK->Option (σ×Bool))(sg:σ)(t5:(List aK))(t6:Int)(t7:Int):Option σ :=
  (lp (fun s=>lC cL t5 t6 s.1 s.2) (sg,t7)).bind (Sum.elim (fun rr=>some rr) (fun rr=>some rr))

def nH {σ:Type}(cL:σ->aK->Option (σ×Bool))(t1:(List aK))(sg0:σ):Option σ :=
  rP cL sg0 t1 ((List.length t1:Nat):Int) (0:Int)

def nD (x0:Int)(n2:Int):Option Int :=
  bE (0<=(IntKind.u8.wrap x0)/\(IntKind.u8.wrap x0)<((ByteArray.size (⟨#[0,1,2,2,3,3,3,3,4,4,4,4,4,4,4,4,5,5,5,5,5,5,5,5,5,5,5,5,5,5,5,5,6,6,6,6,6,6,6,6,6,6,6,6,6,6,6,6,6,6,6,6,6,6,6,6,6,6,6,6,6,6,6,6,7,7,7,7,7,7,7,7,7,7,7,7,7,7,7,7,7,7,7,7,7,7,7,7,7,7,7,7,7,7,7,7,7,7,7,7,7,7,7,7,7,7,7,7,7,7,7,7,7,7,7,7,7,7,7,7,7,7,7,7,7,7,7,7,8,8,8,8,8,8,8,8,8,8,8,8,8,8,8,8,8,8,8,8,8,8,8,8,8,8,8,8,8,8,8,8,8,8,8,8,8,8,8,8,8,8,8,8,8,8,8,8,8,8,8,8,8,8,8,8,8,8,8,8,8,8,8,8,8,8,8,8,8,8,8,8,8,8,8,8,8,8,8,8,8,8,8,8,8,8,8,8,8,8,8,8,8,8,8,8,8,8,8,8,8,8,8,8,8,8,8,8,8,8,8,8,8,8,8,8,8,8,8,8,8,8,8,8,8,8,8,8]⟩:ByteArray):Nat):Int)) <|
  some (IntKind.i64.wrap (n2+(IntKind.i64.wrap (bt (⟨#[0,1,2,2,3,3,3,3,4,4,4,4,4,4,4,4,5,5,5,5,5,5,5,5,5,5,5,5,5,5,5,5,6,6,6,6,6,6,6,6,6,6,6,6,6,6,6,6,6,6,6,6,6,6,6,6,6,6,6,6,6,6,6,6,7,7,7,7,7,7,7,7,7,7,7,7,7,7,7,7,7,7,7,7,7,7,7,7,7,7,7,7,7,7,7,7,7,7,7,7,7,7,7,7,7,7,7,7,7,7,7,7,7,7,7,7,7,7,7,7,7,7,7,7,7,7,7,7,8,8,8,8,8,8,8,8,8,8,8,8,8,8,8,8,8,8,8,8,8,8,8,8,8,8,8,8,8,8,8,8,8,8,8,8,8,8,8,8,8,8,8,8,8,8,8,8,8,8,8,8,8,8,8,8,8,8,8,8,8,8,8,8,8,8,8,8,8,8,8,8,8,8,8,8,8,8,8,8,8,8,8,8,8,8,8,8,8,8,8,8,8,8,8,8,8,8,8,8,8,8,8,8,8,8,8,8,8,8,8,8,8,8,8,8,8,8,8,8,8,8,8,8,8,8,8,8]⟩:ByteArray) (IntKind.u8.wrap x0)))))

def lW (x0:Int)(n2:Int):Option Int :=
  cond (decide ((256:Int)<=x0))
  (bE (0<=(8:Int)) <|
  nD (Int.fdiv x0 (2 ^ (min (Int.toNat (8:Int)) 64))) (IntKind.i64.wrap (n2+(8:Int))))
  (nD x0 n2)

def lY (x0:Int)(n2:Int):Option Int :=
  cond (decide ((65536:Int)<=x0))
  (bE (0<=(16:Int)) <|
  lW (Int.fdiv x0 (2 ^ (min (Int.toNat (16:Int)) 64))) (IntKind.i64.wrap (n2+(16:Int))))
  (lW x0 n2)

def qF (x0:Int):Option Int :=
  cond (decide ((4294967296:Int)<=x0))
  (bE (0<=(32:Int)) <|
  lY (Int.fdiv x0 (2 ^ (min (Int.toNat (32:Int)) 64))) (32:Int))
  (lY x0 (0:Int))

def lR (x0:Int):Option Int :=
  (qF x0).bind fun x2 =>
  some x2

def dH (x0:Int)(y1:Int):Option Bool :=
  (lP x0).bind fun x1 =>
  (cW x1 (lP y1)).bind fun x4 =>
  some ((x1&&(!x4))||(decide (x0<y1)))

def iG (aA:List Int)(a1:Int)(b2:Int)(i6:Int):Option ((List Int×Int)⊕((List Int))) :=
  some (.inl (aA,IntKind.i64.wrap (i6+(1:Int))))

def fM (a1:Int)(b2:Int)(i6:Int)(aA:List Int)(j7:Int):Option ((List Int×Int)⊕((List Int))) :=
  bE ((((decide (a1<j7)))=true->0<=j7/\j7<((List.length aA:Nat):Int))) <|
  bE ((((decide (a1<j7)))=true->0<=(IntKind.i64.wrap (j7-(1:Int)))/\(IntKind.i64.wrap (j7-(1:Int)))<((List.length aA:Nat):Int))) <|
  (cW (decide (a1<j7)) (dH (List.getD aA (Int.toNat j7) default) (List.getD aA (Int.toNat (IntKind.i64.wrap (j7-(1:Int)))) default))).bind fun x4 =>
  cond ((decide (a1<j7))&&x4)
  (bE (0<=(IntKind.i64.wrap (j7-(1:Int)))/\(IntKind.i64.wrap (j7-(1:Int)))<((List.length aA:Nat):Int)) <|
  bE (0<=j7/\j7<((List.length aA:Nat):Int)) <|
  bE (0<=j7/\j7<((List.length aA:Nat):Int)) <|
  bE (0<=(IntKind.i64.wrap (j7-(1:Int)))/\(IntKind.i64.wrap (j7-(1:Int)))<((List.length aA:Nat):Int)) <|
  some (.inl (List.set (List.set aA (Int.toNat j7) (List.getD aA (Int.toNat (IntKind.i64.wrap (j7-(1:Int)))) default)) (Int.toNat (IntKind.i64.wrap (j7-(1:Int)))) (List.getD aA (Int.toNat j7) default),IntKind.i64.wrap (j7-(1:Int)))))
  (some (.inr aA))

def kB (aA:List Int)(a1:Int)(b2:Int)(i6:Int)(j7:Int):Option ((List Int×Int)⊕((List Int))) :=
  (lp (fun s=>fM a1 b2 i6 s.1 s.2) (aA,j7)).bind (fun rr=>iG rr a1 b2 i6)

def dX (a1:Int)(b2:Int)(aA:List Int)(i6:Int):Option ((List Int×Int)⊕((List Int))) :=
  cond (decide (i6<b2))
  (kB aA a1 b2 i6 i6)
  (some (.inr aA))

def kE (aA:List Int)(a1:Int)(b2:Int)(i6:Int):Option (List Int) :=
  (lp (fun s=>dX a1 b2 s.1 s.2) (aA,i6)).bind (fun rr=>some rr)

def iO (aA:(List Int))(a1:Int)(b2:Int):Option (List Int) :=
  kE aA a1 b2 (IntKind.i64.wrap (a1+(1:Int)))

def iI (aA:List Int)(hi2:Int)(bR:Int)(cM:Int)(eO:Int):Option ((List Int×Int)⊕((List Int)⊕(List Int))) :=
  bE (0<=(IntKind.i64.wrap (bR+cM))/\(IntKind.i64.wrap (bR+cM))<((List.length aA:Nat):Int)) <|
  bE (0<=(IntKind.i64.wrap (bR+eO))/\(IntKind.i64.wrap (bR+eO))<((List.length aA:Nat):Int)) <|
  (dH (List.getD aA (Int.toNat (IntKind.i64.wrap (bR+cM))) default) (List.getD aA (Int.toNat (IntKind.i64.wrap (bR+eO))) default)).bind fun x4 =>
  cond (!x4)
  (some (.inr (.inr aA)))
  (bE (0<=(IntKind.i64.wrap (bR+eO))/\(IntKind.i64.wrap (bR+eO))<((List.length aA:Nat):Int)) <|
  bE (0<=(IntKind.i64.wrap (bR+cM))/\(IntKind.i64.wrap (bR+cM))<((List.length aA:Nat):Int)) <|
  bE (0<=(IntKind.i64.wrap (bR+cM))/\(IntKind.i64.wrap (bR+cM))<((List.length aA:Nat):Int)) <|
  bE (0<=(IntKind.i64.wrap (bR+eO))/\(IntKind.i64.wrap (bR+eO))<((List.length aA:Nat):Int)) <|
  some (.inl (List.set (List.set aA (Int.toNat (IntKind.i64.wrap (bR+cM))) (List.getD aA (Int.toNat (IntKind.i64.wrap (bR+eO))) default)) (Int.toNat (IntKind.i64.wrap (bR+eO))) (List.getD aA (Int.toNat (IntKind.i64.wrap (bR+cM))) default),eO)))

def dS (hi2:Int)(bR:Int)(aA:List Int)(cM:Int):Option ((List Int×Int)⊕((List Int)⊕(List Int))) :=
  cond (decide (hi2<=(IntKind.i64.wrap ((IntKind.i64.wrap ((2:Int)*cM))+(1:Int)))))
  (some (.inr (.inl aA)))
  (bE ((((decide ((IntKind.i64.wrap ((IntKind.i64.wrap ((IntKind.i64.wrap ((2:Int)*cM))+(1:Int)))+(1:Int)))<hi2)))=true->0<=(IntKind.i64.wrap (bR+(IntKind.i64.wrap ((IntKind.i64.wrap ((2:Int)*cM))+(1:Int)))))/\(IntKind.i64.wrap (bR+(IntKind.i64.wrap ((IntKind.i64.wrap ((2:Int)*cM))+(1:Int)))))<((List.length aA:Nat):Int))) <|
  bE ((((decide ((IntKind.i64.wrap ((IntKind.i64.wrap ((IntKind.i64.wrap ((2:Int)*cM))+(1:Int)))+(1:Int)))<hi2)))=true->0<=(IntKind.i64.wrap ((IntKind.i64.wrap (bR+(IntKind.i64.wrap ((IntKind.i64.wrap ((2:Int)*cM))+(1:Int)))))+(1:Int)))/\(IntKind.i64.wrap ((IntKind.i64.wrap (bR+(IntKind.i64.wrap ((IntKind.i64.wrap ((2:Int)*cM))+(1:Int)))))+(1:Int)))<((List.length aA:Nat):Int))) <|
  (cW (decide ((IntKind.i64.wrap ((IntKind.i64.wrap ((IntKind.i64.wrap ((2:Int)*cM))+(1:Int)))+(1:Int)))<hi2)) (dH (List.getD aA (Int.toNat (IntKind.i64.wrap (bR+(IntKind.i64.wrap ((IntKind.i64.wrap ((2:Int)*cM))+(1:Int)))))) default) (List.getD aA (Int.toNat (IntKind.i64.wrap ((IntKind.i64.wrap (bR+(IntKind.i64.wrap ((IntKind.i64.wrap ((2:Int)*cM))+(1:Int)))))+(1:Int)))) default))).bind fun x14 =>
  cond ((decide ((IntKind.i64.wrap ((IntKind.i64.wrap ((IntKind.i64.wrap ((2:Int)*cM))+(1:Int)))+(1:Int)))<hi2))&&x14)
  (iI aA hi2 bR cM (IntKind.i64.wrap ((IntKind.i64.wrap ((IntKind.i64.wrap ((2:Int)*cM))+(1:Int)))+(1:Int))))
  (iI aA hi2 bR cM (IntKind.i64.wrap ((IntKind.i64.wrap ((2:Int)*cM))+(1:Int)))))

def lU (aA:List Int)(hi2:Int)(bR:Int)(cM:Int):Option (List Int) :=
  (lp (fun s=>dS hi2 bR s.1 s.2) (aA,cM)).bind (Sum.elim (fun rr=>some rr) (fun rr=>some rr))

def gG (aA:(List Int))(lo1:Int)(hi2:Int)(bR:Int):Option (List Int) :=
  lU aA hi2 bR lo1

def eP (bY:Int)(lo7:Int)(aA:List Int)(i10:Int):Option ((List Int×Int)⊕((List Int))) :=
  cond (decide ((0:Int)<=i10))
  (bE (0<=(IntKind.i64.wrap (bY+i10))/\(IntKind.i64.wrap (bY+i10))<((List.length aA:Nat):Int)) <|
  bE (0<=bY/\bY<((List.length aA:Nat):Int)) <|
  bE (0<=bY/\bY<((List.length aA:Nat):Int)) <|
  bE (0<=(IntKind.i64.wrap (bY+i10))/\(IntKind.i64.wrap (bY+i10))<((List.length aA:Nat):Int)) <|
  (gG (List.set (List.set aA (Int.toNat bY) (List.getD aA (Int.toNat (IntKind.i64.wrap (bY+i10))) default)) (Int.toNat (IntKind.i64.wrap (bY+i10))) (List.getD aA (Int.toNat bY) default)) lo7 i10 bY).bind fun x6 =>
  some (.inl (x6,IntKind.i64.wrap (i10-(1:Int)))))
  (some (.inr aA))

def lS (aA:List Int)(bY:Int)(lo7:Int)(i10:Int):Option (List Int) :=
  (lp (fun s=>eP bY lo7 s.1 s.2) (aA,i10)).bind (fun rr=>some rr)

def jW (aA:List Int)(bY:Int)(lo7:Int)(hi8:Int):Option (List Int) :=
  lS aA bY lo7 (IntKind.i64.wrap (hi8-(1:Int)))

def eR (bY:Int)(lo7:Int)(hi8:Int)(aA:List Int)(i9:Int):Option ((List Int×Int)⊕((List Int))) :=
  cond (decide ((0:Int)<=i9))
  ((gG aA i9 hi8 bY).bind fun x11 =>
  some (.inl (x11,IntKind.i64.wrap (i9-(1:Int)))))
  (some (.inr aA))

def lT (aA:List Int)(bY:Int)(lo7:Int)(hi8:Int)(i9:Int):Option (List Int) :=
  (lp (fun s=>eR bY lo7 hi8 s.1 s.2) (aA,i9)).bind (fun rr=>jW rr bY lo7 hi8)

def kG (aA:(List Int))(a1:Int)(b2:Int):Option (List Int) :=
  bE ((2:Int)≠0) <|
  lT aA a1 (0:Int) (IntKind.i64.wrap (b2-a1)) (IntKind.i64.wrap (Int.tdiv (IntKind.i64.wrap ((IntKind.i64.wrap (b2-a1))-(1:Int))) (2:Int)))

def mJ (IC:Int):Option Int :=
  (lR (IntKind.u64.wrap IC)).bind fun x1 =>
  bE (0<=x1) <|
  some (IntKind.u64.wrap ((1:Int)*2 ^ (min (Int.toNat x1) 64)))

def mT (r0:Int):Option (Int×Int) :=
  bE (0<=(13:Int)) <|
  bE (0<=(7:Int)) <|
  bE (0<=(17:Int)) <|
  some (bX .xor .u64 (bX .xor .u64 (bX .xor .u64 r0 (IntKind.u64.wrap (r0*2 ^ (min (Int.toNat (13:Int)) 64)))) (Int.fdiv (bX .xor .u64 r0 (IntKind.u64.wrap (r0*2 ^ (min (Int.toNat (13:Int)) 64)))) (2 ^ (min (Int.toNat (7:Int)) 64)))) (IntKind.u64.wrap ((bX .xor .u64 (bX .xor .u64 r0 (IntKind.u64.wrap (r0*2 ^ (min (Int.toNat (13:Int)) 64)))) (Int.fdiv (bX .xor .u64 r0 (IntKind.u64.wrap (r0*2 ^ (min (Int.toNat (13:Int)) 64)))) (2 ^ (min (Int.toNat (7:Int)) 64))))*2 ^ (min (Int.toNat (17:Int)) 64))),bX .xor .u64 (bX .xor .u64 (bX .xor .u64 r0 (IntKind.u64.wrap (r0*2 ^ (min (Int.toNat (13:Int)) 64)))) (Int.fdiv (bX .xor .u64 r0 (IntKind.u64.wrap (r0*2 ^ (min (Int.toNat (13:Int)) 64)))) (2 ^ (min (Int.toNat (7:Int)) 64)))) (IntKind.u64.wrap ((bX .xor .u64 (bX .xor .u64 r0 (IntKind.u64.wrap (r0*2 ^ (min (Int.toNat (13:Int)) 64)))) (Int.fdiv (bX .xor .u64 r0 (IntKind.u64.wrap (r0*2 ^ (min (Int.toNat (13:Int)) 64)))) (2 ^ (min (Int.toNat (7:Int)) 64))))*2 ^ (min (Int.toNat (17:Int)) 64))))

def fN (aA:List Int)(a1:Int)(kW:Int)(mR:Int)(jO:Int)(idx9:Int)(gK:Int):Option ((List Int×Int×Int)⊕((List Int))) :=
  bE (0<=(IntKind.i64.wrap (a1+gK))/\(IntKind.i64.wrap (a1+gK))<((List.length aA:Nat):Int)) <|
  bE (0<=idx9/\idx9<((List.length aA:Nat):Int)) <|
  bE (0<=idx9/\idx9<((List.length aA:Nat):Int)) <|
  bE (0<=(IntKind.i64.wrap (a1+gK))/\(IntKind.i64.wrap (a1+gK))<((List.length aA:Nat):Int)) <|
  some (.inl (List.set (List.set aA (Int.toNat idx9) (List.getD aA (Int.toNat (IntKind.i64.wrap (a1+gK))) default)) (Int.toNat (IntKind.i64.wrap (a1+gK))) (List.getD aA (Int.toNat idx9) default),mR,IntKind.i64.wrap (idx9+(1:Int))))

def dM (a1:Int)(kW:Int)(jO:Int)(aA:List Int)(mR:Int)(idx9:Int):Option ((List Int×Int×Int)⊕((List Int))) :=
  bE ((4:Int)≠0) <|
  cond (decide (idx9<=(IntKind.i64.wrap ((IntKind.i64.wrap (a1+(IntKind.i64.wrap ((IntKind.i64.wrap (Int.tdiv kW (4:Int)))*(2:Int)))))+(1:Int)))))
  ((mT mR).bind fun x9 =>
  cond (decide (kW<=(IntKind.i64.wrap (bX .and .u64 x9.1 (IntKind.u64.wrap (jO-(1:Int)))))))
  (fN aA a1 kW x9.2 jO idx9 (IntKind.i64.wrap ((IntKind.i64.wrap (bX .and .u64 x9.1 (IntKind.u64.wrap (jO-(1:Int)))))-kW)))
  (fN aA a1 kW x9.2 jO idx9 (IntKind.i64.wrap (bX .and .u64 x9.1 (IntKind.u64.wrap (jO-(1:Int)))))))
  (some (.inr aA))

def kC (aA:List Int)(a1:Int)(kW:Int)(mR:Int)(jO:Int)(idx9:Int):Option (List Int) :=
  (lp (fun s=>dM a1 kW jO s.1 s.2.1 s.2.2) (aA,mR,idx9)).bind (fun rr=>some rr)

def iN (aA:(List Int))(a1:Int)(b2:Int):Option (List Int) :=
  cond (decide ((8:Int)<=(IntKind.i64.wrap (b2-a1))))
  ((mJ (IntKind.i64.wrap (b2-a1))).bind fun x3 =>
  bE ((4:Int)≠0) <|
  kC aA a1 (IntKind.i64.wrap (b2-a1)) (IntKind.u64.wrap (IntKind.i64.wrap (b2-a1))) x3 (IntKind.i64.wrap ((IntKind.i64.wrap (a1+(IntKind.i64.wrap ((IntKind.i64.wrap (Int.tdiv (IntKind.i64.wrap (b2-a1)) (4:Int)))*(2:Int)))))-(1:Int))))
  (some aA)

def gZ (aA:(List Int))(a1:Int)(b2:Int)(vN:Int):Option ((Int×Int)×Int) :=
  bE (0<=b2/\b2<((List.length aA:Nat):Int)) <|
  bE (0<=a1/\a1<((List.length aA:Nat):Int)) <|
  (dH (List.getD aA (Int.toNat b2) default) (List.getD aA (Int.toNat a1) default)).bind fun x3 =>
  cond x3
  (some ((b2,a1),IntKind.i64.wrap (vN+(1:Int))))
  (some ((a1,b2),vN))

def jF (aA:(List Int))(a1:Int)(b2:Int)(c3:Int)(MI:Int):Option (Int×Int) :=
  (gZ aA a1 b2 MI).bind fun x1 =>
  (gZ aA x1.1.2 c3 x1.2).bind fun x6 =>
  (gZ aA x1.1.1 x6.1.1 x6.2).bind fun x11 =>
  some (x11.1.2,x11.2)

def eM (aA:(List Int))(a1:Int)(LA:Int):Option (Int×Int) :=
  (jF aA (IntKind.i64.wrap (a1-(1:Int))) a1 (IntKind.i64.wrap (a1+(1:Int))) LA).bind fun x1 =>
  some (x1.1,x1.2)

def gE (aA:List Int)(nQ:Int)(j11:Int):Option (Int×Int) :=
  cond (decide (nQ=(0:Int)))
  (some (j11,(1:Int)))
  (cond (decide (nQ=(12:Int)))
  (some (j11,(2:Int)))
  (some (j11,(0:Int))))

def fX (aA:List Int)(nQ:Int)(i10:Int)(j11:Int)(k12:Int):Option (Int×Int) :=
  (jF aA i10 j11 k12 nQ).bind fun x8 =>
  gE aA x8.2 x8.1

def jA (aA:(List Int))(a1:Int)(b2:Int):Option (Int×Int) :=
  bE ((4:Int)≠0) <|
  bE ((4:Int)≠0) <|
  bE ((4:Int)≠0) <|
  cond (decide ((8:Int)<=(IntKind.i64.wrap (b2-a1))))
  (cond (decide ((50:Int)<=(IntKind.i64.wrap (b2-a1))))
  ((eM aA (IntKind.i64.wrap (a1+(IntKind.i64.wrap ((IntKind.i64.wrap (Int.tdiv (IntKind.i64.wrap (b2-a1)) (4:Int)))*(1:Int))))) 0).bind fun x14 =>
  (eM aA (IntKind.i64.wrap (a1+(IntKind.i64.wrap ((IntKind.i64.wrap (Int.tdiv (IntKind.i64.wrap (b2-a1)) (4:Int)))*(2:Int))))) x14.2).bind fun x19 =>
  (eM aA (IntKind.i64.wrap (a1+(IntKind.i64.wrap ((IntKind.i64.wrap (Int.tdiv (IntKind.i64.wrap (b2-a1)) (4:Int)))*(3:Int))))) x19.2).bind fun x24 =>
  fX aA x24.2 x14.1 x19.1 x24.1)
  (fX aA 0 (IntKind.i64.wrap (a1+(IntKind.i64.wrap ((IntKind.i64.wrap (Int.tdiv (IntKind.i64.wrap (b2-a1)) (4:Int)))*(1:Int))))) (IntKind.i64.wrap (a1+(IntKind.i64.wrap ((IntKind.i64.wrap (Int.tdiv (IntKind.i64.wrap (b2-a1)) (4:Int)))*(2:Int))))) (IntKind.i64.wrap (a1+(IntKind.i64.wrap ((IntKind.i64.wrap (Int.tdiv (IntKind.i64.wrap (b2-a1)) (4:Int)))*(3:Int)))))))
  (gE aA 0 (IntKind.i64.wrap (a1+(IntKind.i64.wrap ((IntKind.i64.wrap (Int.tdiv (IntKind.i64.wrap (b2-a1)) (4:Int)))*(2:Int))))))

def eC  (aA:List Int)(i6:Int)(j7:Int):Option ((List Int×Int×Int)⊕((List Int))) :=
  cond (decide (i6<j7))
  (bE (0<=j7/\j7<((List.length aA:Nat):Int)) <|
  bE (0<=i6/\i6<((List.length aA:Nat):Int)) <|
  bE (0<=i6/\i6<((List.length aA:Nat):Int)) <|
  bE (0<=j7/\j7<((List.length aA:Nat):Int)) <|
  some (.inl (List.set (List.set aA (Int.toNat i6) (List.getD aA (Int.toNat j7) default)) (Int.toNat j7) (List.getD aA (Int.toNat i6) default),IntKind.i64.wrap (i6+(1:Int)),IntKind.i64.wrap (j7-(1:Int)))))
  (some (.inr aA))

def kL (aA:List Int)(i6:Int)(j7:Int):Option (List Int) :=
  (lp (fun s=>eC s.1 s.2.1 s.2.2) (aA,i6,j7)).bind (fun rr=>some rr)

def iV (aA:(List Int))(a1:Int)(b2:Int):Option (List Int) :=
  kL aA a1 (IntKind.i64.wrap (b2-(1:Int)))

def fC (aA:List Int):Option (Bool×List Int) :=
  some (false,aA)

def eE (aA:List Int)(a1:Int)(b2:Int)(i7:Int)(j8:Int):Option ((List Int×Int×Int)⊕((List Int)⊕(Bool×(List Int)))) :=
  some (.inl (aA,i7,IntKind.i64.wrap (j8+(1:Int))))

def dA (a1:Int)(b2:Int)(i7:Int)(j8:Int)(aA:List Int)(j10:Int):Option ((List Int×Int)⊕((List Int))) :=
  cond (decide (j10<b2))
  (bE (0<=j10/\j10<((List.length aA:Nat):Int)) <|
  bE (0<=(IntKind.i64.wrap (j10-(1:Int)))/\(IntKind.i64.wrap (j10-(1:Int)))<((List.length aA:Nat):Int)) <|
  (dH (List.getD aA (Int.toNat j10) default) (List.getD aA (Int.toNat (IntKind.i64.wrap (j10-(1:Int)))) default)).bind fun x12 =>
  cond (!x12)
  (some (.inr aA))
  (bE (0<=(IntKind.i64.wrap (j10-(1:Int)))/\(IntKind.i64.wrap (j10-(1:Int)))<((List.length aA:Nat):Int)) <|
  bE (0<=j10/\j10<((List.length aA:Nat):Int)) <|
  bE (0<=j10/\j10<((List.length aA:Nat):Int)) <|
  bE (0<=(IntKind.i64.wrap (j10-(1:Int)))/\(IntKind.i64.wrap (j10-(1:Int)))<((List.length aA:Nat):Int)) <|
  some (.inl (List.set (List.set aA (Int.toNat j10) (List.getD aA (Int.toNat (IntKind.i64.wrap (j10-(1:Int)))) default)) (Int.toNat (IntKind.i64.wrap (j10-(1:Int)))) (List.getD aA (Int.toNat j10) default),IntKind.i64.wrap (j10+(1:Int))))))
  (some (.inr aA))

def iB (aA:List Int)(a1:Int)(b2:Int)(i7:Int)(j8:Int)(j10:Int):Option ((List Int×Int×Int)⊕((List Int)⊕(Bool×(List Int)))) :=
  (lp (fun s=>dA a1 b2 i7 j8 s.1 s.2) (aA,j10)).bind (fun rr=>eE rr a1 b2 i7 j8)

def cS (aA:List Int)(a1:Int)(b2:Int)(i7:Int)(j8:Int):Option ((List Int×Int×Int)⊕((List Int)⊕(Bool×(List Int)))) :=
  cond (decide ((2:Int)<=(IntKind.i64.wrap (b2-i7))))
  (iB aA a1 b2 i7 j8 (IntKind.i64.wrap (i7+(1:Int))))
  (eE aA a1 b2 i7 j8)

def cR (a1:Int)(b2:Int)(i7:Int)(j8:Int)(aA:List Int)(j9:Int):Option ((List Int×Int)⊕((List Int))) :=
  cond (decide ((1:Int)<=j9))
  (bE (0<=j9/\j9<((List.length aA:Nat):Int)) <|
  bE (0<=(IntKind.i64.wrap (j9-(1:Int)))/\(IntKind.i64.wrap (j9-(1:Int)))<((List.length aA:Nat):Int)) <|
  (dH (List.getD aA (Int.toNat j9) default) (List.getD aA (Int.toNat (IntKind.i64.wrap (j9-(1:Int)))) default)).bind fun x24 =>
  cond (!x24)
  (some (.inr aA))
  (bE (0<=(IntKind.i64.wrap (j9-(1:Int)))/\(IntKind.i64.wrap (j9-(1:Int)))<((List.length aA:Nat):Int)) <|
  bE (0<=j9/\j9<((List.length aA:Nat):Int)) <|
  bE (0<=j9/\j9<((List.length aA:Nat):Int)) <|
  bE (0<=(IntKind.i64.wrap (j9-(1:Int)))/\(IntKind.i64.wrap (j9-(1:Int)))<((List.length aA:Nat):Int)) <|
  some (.inl (List.set (List.set aA (Int.toNat j9) (List.getD aA (Int.toNat (IntKind.i64.wrap (j9-(1:Int)))) default)) (Int.toNat (IntKind.i64.wrap (j9-(1:Int)))) (List.getD aA (Int.toNat j9) default),IntKind.i64.wrap (j9-(1:Int))))))
  (some (.inr aA))

def hY (aA:List Int)(a1:Int)(b2:Int)(i7:Int)(j8:Int)(j9:Int):Option ((List Int×Int×Int)⊕((List Int)⊕(Bool×(List Int)))) :=
  (lp (fun s=>cR a1 b2 i7 j8 s.1 s.2) (aA,j9)).bind (fun rr=>cS rr a1 b2 i7 j8)

def fB (aA:List Int)(a1:Int)(b2:Int)(i7:Int)(j8:Int):Option ((List Int×Int×Int)⊕((List Int)⊕(Bool×(List Int)))) :=
  cond (decide (i7=b2))
  (some (.inr (.inr (true,aA))))
  (cond (decide ((IntKind.i64.wrap (b2-a1))<(50:Int)))
  (some (.inr (.inr (false,aA))))
  (bE (0<=(IntKind.i64.wrap (i7-(1:Int)))/\(IntKind.i64.wrap (i7-(1:Int)))<((List.length aA:Nat):Int)) <|
  bE (0<=i7/\i7<((List.length aA:Nat):Int)) <|
  bE (0<=i7/\i7<((List.length aA:Nat):Int)) <|
  bE (0<=(IntKind.i64.wrap (i7-(1:Int)))/\(IntKind.i64.wrap (i7-(1:Int)))<((List.length aA:Nat):Int)) <|
  cond (decide ((2:Int)<=(IntKind.i64.wrap (i7-a1))))
  (hY (List.set (List.set aA (Int.toNat i7) (List.getD aA (Int.toNat (IntKind.i64.wrap (i7-(1:Int)))) default)) (Int.toNat (IntKind.i64.wrap (i7-(1:Int)))) (List.getD aA (Int.toNat i7) default)) a1 b2 i7 j8 (IntKind.i64.wrap (i7-(1:Int))))
  (cS (List.set (List.set aA (Int.toNat i7) (List.getD aA (Int.toNat (IntKind.i64.wrap (i7-(1:Int)))) default)) (Int.toNat (IntKind.i64.wrap (i7-(1:Int)))) (List.getD aA (Int.toNat i7) default)) a1 b2 i7 j8)))

def dB (a1:Int)(b2:Int)(j8:Int)(aA:List Int)(i7:Int):Option ((List Int×Int)⊕((List Int×Int))) :=
  bE ((((decide (i7<b2)))=true->0<=i7/\i7<((List.length aA:Nat):Int))) <|
  bE ((((decide (i7<b2)))=true->0<=(IntKind.i64.wrap (i7-(1:Int)))/\(IntKind.i64.wrap (i7-(1:Int)))<((List.length aA:Nat):Int))) <|
  (cW (decide (i7<b2)) (dH (List.getD aA (Int.toNat i7) default) (List.getD aA (Int.toNat (IntKind.i64.wrap (i7-(1:Int)))) default))).bind fun x34 =>
  cond ((decide (i7<b2))&&(!x34))
  (some (.inl (aA,IntKind.i64.wrap (i7+(1:Int)))))
  (some (.inr (aA,i7)))

def dO (aA:List Int)(a1:Int)(b2:Int)(i7:Int)(j8:Int):Option ((List Int×Int×Int)⊕((List Int)⊕(Bool×(List Int)))) :=
  (lp (fun s=>dB a1 b2 j8 s.1 s.2) (aA,i7)).bind (fun rr=>fB rr.1 a1 b2 rr.2 j8)

def cD (a1:Int)(b2:Int)(aA:List Int)(i7:Int)(j8:Int):Option ((List Int×Int×Int)⊕((List Int)⊕(Bool×(List Int)))) :=
  cond (decide (j8<(5:Int)))
  (dO aA a1 b2 i7 j8)
  (some (.inr (.inl aA)))

def iC (aA:List Int)(a1:Int)(b2:Int)(i7:Int)(j8:Int):Option (Bool×List Int) :=
  (lp (fun s=>cD a1 b2 s.1 s.2.1 s.2.2) (aA,i7,j8)).bind (Sum.elim (fun rr=>fC rr) (fun rr=>some (rr.1,rr.2)))

def fK (aA:(List Int))(a1:Int)(b2:Int):Option (Bool×List Int) :=
  iC aA a1 b2 (IntKind.i64.wrap (a1+(1:Int))) (0:Int)

def jQ (aA:List Int)(i9:Int):Option (Int×List Int) :=
  some (i9,aA)

def eJ (aA:List Int)(a1:Int)(i9:Int)(j10:Int):Option ((List Int×Int×Int)⊕((List Int×Int))) :=
  cond (decide (j10<i9))
  (some (.inr (aA,i9)))
  (bE (0<=j10/\j10<((List.length aA:Nat):Int)) <|
  bE (0<=i9/\i9<((List.length aA:Nat):Int)) <|
  bE (0<=i9/\i9<((List.length aA:Nat):Int)) <|
  bE (0<=j10/\j10<((List.length aA:Nat):Int)) <|
  some (.inl (List.set (List.set aA (Int.toNat i9) (List.getD aA (Int.toNat j10) default)) (Int.toNat j10) (List.getD aA (Int.toNat i9) default),IntKind.i64.wrap (i9+(1:Int)),IntKind.i64.wrap (j10-(1:Int)))))

def eG (a1:Int)(i9:Int)(aA:List Int)(j10:Int):Option ((List Int×Int)⊕((List Int×Int))) :=
  bE ((((decide (i9<=j10)))=true->0<=a1/\a1<((List.length aA:Nat):Int))) <|
  bE ((((decide (i9<=j10)))=true->0<=j10/\j10<((List.length aA:Nat):Int))) <|
  (cW (decide (i9<=j10)) (dH (List.getD aA (Int.toNat a1) default) (List.getD aA (Int.toNat j10) default))).bind fun x12 =>
  cond ((decide (i9<=j10))&&x12)
  (some (.inl (aA,IntKind.i64.wrap (j10-(1:Int)))))
  (some (.inr (aA,j10)))

def jU (aA:List Int)(a1:Int)(i9:Int)(j10:Int):Option ((List Int×Int×Int)⊕((List Int×Int))) :=
  (lp (fun s=>eG a1 i9 s.1 s.2) (aA,j10)).bind (fun rr=>eJ rr.1 a1 i9 rr.2)

def gW (aA:List Int)(a1:Int)(i9:Int)(j10:Int):Option ((List Int×Int×Int)⊕((List Int×Int))) :=
  jU aA a1 i9 j10

def eH (a1:Int)(j10:Int)(aA:List Int)(i9:Int):Option ((List Int×Int)⊕((List Int×Int))) :=
  bE ((((decide (i9<=j10)))=true->0<=a1/\a1<((List.length aA:Nat):Int))) <|
  bE ((((decide (i9<=j10)))=true->0<=i9/\i9<((List.length aA:Nat):Int))) <|
  (cW (decide (i9<=j10)) (dH (List.getD aA (Int.toNat a1) default) (List.getD aA (Int.toNat i9) default))).bind fun x18 =>
  cond ((decide (i9<=j10))&&(!x18))
  (some (.inl (aA,IntKind.i64.wrap (i9+(1:Int)))))
  (some (.inr (aA,i9)))

def jT (aA:List Int)(a1:Int)(i9:Int)(j10:Int):Option ((List Int×Int×Int)⊕((List Int×Int))) :=
  (lp (fun s=>eH a1 j10 s.1 s.2) (aA,i9)).bind (fun rr=>gW rr.1 a1 rr.2 j10)

def dK (a1:Int)(aA:List Int)(i9:Int)(j10:Int):Option ((List Int×Int×Int)⊕((List Int×Int))) :=
  jT aA a1 i9 j10

def jS (aA:List Int)(a1:Int)(i9:Int)(j10:Int):Option (Int×List Int) :=
  (lp (fun s=>dK a1 s.1 s.2.1 s.2.2) (aA,i9,j10)).bind (fun rr=>jQ rr.1 rr.2)

def fO (aA:(List Int))(a1:Int)(b2:Int)(cT:Int):Option (Int×List Int) :=
  bE (0<=cT/\cT<((List.length aA:Nat):Int)) <|
  bE (0<=a1/\a1<((List.length aA:Nat):Int)) <|
  bE (0<=a1/\a1<((List.length aA:Nat):Int)) <|
  bE (0<=cT/\cT<((List.length aA:Nat):Int)) <|
  jS (List.set (List.set aA (Int.toNat a1) (List.getD aA (Int.toNat cT) default)) (Int.toNat cT) (List.getD aA (Int.toNat a1) default)) a1 (IntKind.i64.wrap (a1+(1:Int))) (IntKind.i64.wrap (b2-(1:Int)))

def jK (aA:List Int)(a1:Int)(j11:Int):Option ((Int×Bool)×List Int) :=
  bE (0<=a1/\a1<((List.length aA:Nat):Int)) <|
  bE (0<=j11/\j11<((List.length aA:Nat):Int)) <|
  bE (0<=j11/\j11<((List.length aA:Nat):Int)) <|
  bE (0<=a1/\a1<((List.length aA:Nat):Int)) <|
  some ((j11,false),(List.set (List.set aA (Int.toNat j11) (List.getD aA (Int.toNat a1) default)) (Int.toNat a1) (List.getD aA (Int.toNat j11) default)))

def fH (aA:List Int)(a1:Int)(i10:Int)(j11:Int):Option ((List Int×Int×Int)⊕((List Int×Int))) :=
  cond (decide (j11<i10))
  (some (.inr (aA,j11)))
  (bE (0<=j11/\j11<((List.length aA:Nat):Int)) <|
  bE (0<=i10/\i10<((List.length aA:Nat):Int)) <|
  bE (0<=i10/\i10<((List.length aA:Nat):Int)) <|
  bE (0<=j11/\j11<((List.length aA:Nat):Int)) <|
  some (.inl (List.set (List.set aA (Int.toNat i10) (List.getD aA (Int.toNat j11) default)) (Int.toNat j11) (List.getD aA (Int.toNat i10) default),IntKind.i64.wrap (i10+(1:Int)),IntKind.i64.wrap (j11-(1:Int)))))

def fF (a1:Int)(i10:Int)(aA:List Int)(j11:Int):Option ((List Int×Int)⊕((List Int×Int))) :=
  bE ((((decide (i10<=j11)))=true->0<=j11/\j11<((List.length aA:Nat):Int))) <|
  bE ((((decide (i10<=j11)))=true->0<=a1/\a1<((List.length aA:Nat):Int))) <|
  (cW (decide (i10<=j11)) (dH (List.getD aA (Int.toNat j11) default) (List.getD aA (Int.toNat a1) default))).bind fun x25 =>
  cond ((decide (i10<=j11))&&(!x25))
  (some (.inl (aA,IntKind.i64.wrap (j11-(1:Int)))))
  (some (.inr (aA,j11)))

def lJ (aA:List Int)(a1:Int)(i10:Int)(j11:Int):Option ((List Int×Int×Int)⊕((List Int×Int))) :=
  (lp (fun s=>fF a1 i10 s.1 s.2) (aA,j11)).bind (fun rr=>fH rr.1 a1 i10 rr.2)

def jL (aA:List Int)(a1:Int)(i10:Int)(j11:Int):Option ((List Int×Int×Int)⊕((List Int×Int))) :=
  lJ aA a1 i10 j11

def fJ (a1:Int)(j11:Int)(aA:List Int)(i10:Int):Option ((List Int×Int)⊕((List Int×Int))) :=
  bE ((((decide (i10<=j11)))=true->0<=i10/\i10<((List.length aA:Nat):Int))) <|
  bE ((((decide (i10<=j11)))=true->0<=a1/\a1<((List.length aA:Nat):Int))) <|
  (cW (decide (i10<=j11)) (dH (List.getD aA (Int.toNat i10) default) (List.getD aA (Int.toNat a1) default))).bind fun x31 =>
  cond ((decide (i10<=j11))&&x31)
  (some (.inl (aA,IntKind.i64.wrap (i10+(1:Int)))))
  (some (.inr (aA,i10)))

def lE (aA:List Int)(a1:Int)(i10:Int)(j11:Int):Option ((List Int×Int×Int)⊕((List Int×Int))) :=
  (lp (fun s=>fJ a1 j11 s.1 s.2) (aA,i10)).bind (fun rr=>jL rr.1 a1 rr.2 j11)

def eA (a1:Int)(aA:List Int)(i10:Int)(j11:Int):Option ((List Int×Int×Int)⊕((List Int×Int))) :=
  lE aA a1 i10 j11

def lG (aA:List Int)(a1:Int)(i10:Int)(j11:Int):Option ((Int×Bool)×List Int) :=
  (lp (fun s=>eA a1 s.1 s.2.1 s.2.2) (aA,i10,j11)).bind (fun rr=>jK rr.1 a1 rr.2)

def fG (aA:List Int)(a1:Int)(i10:Int)(j11:Int):Option ((Int×Bool)×List Int) :=
  cond (decide (j11<i10))
  (bE (0<=a1/\a1<((List.length aA:Nat):Int)) <|
  bE (0<=j11/\j11<((List.length aA:Nat):Int)) <|
  bE (0<=j11/\j11<((List.length aA:Nat):Int)) <|
  bE (0<=a1/\a1<((List.length aA:Nat):Int)) <|
  some ((j11,true),(List.set (List.set aA (Int.toNat j11) (List.getD aA (Int.toNat a1) default)) (Int.toNat a1) (List.getD aA (Int.toNat j11) default))))
  (bE (0<=j11/\j11<((List.length aA:Nat):Int)) <|
  bE (0<=i10/\i10<((List.length aA:Nat):Int)) <|
  bE (0<=i10/\i10<((List.length aA:Nat):Int)) <|
  bE (0<=j11/\j11<((List.length aA:Nat):Int)) <|
  lG (List.set (List.set aA (Int.toNat i10) (List.getD aA (Int.toNat j11) default)) (Int.toNat j11) (List.getD aA (Int.toNat i10) default)) a1 (IntKind.i64.wrap (i10+(1:Int))) (IntKind.i64.wrap (j11-(1:Int))))

def fI (a1:Int)(i10:Int)(aA:List Int)(j11:Int):Option ((List Int×Int)⊕((List Int×Int))) :=
  bE ((((decide (i10<=j11)))=true->0<=j11/\j11<((List.length aA:Nat):Int))) <|
  bE ((((decide (i10<=j11)))=true->0<=a1/\a1<((List.length aA:Nat):Int))) <|
  (cW (decide (i10<=j11)) (dH (List.getD aA (Int.toNat j11) default) (List.getD aA (Int.toNat a1) default))).bind fun x37 =>
  cond ((decide (i10<=j11))&&(!x37))
  (some (.inl (aA,IntKind.i64.wrap (j11-(1:Int)))))
  (some (.inr (aA,j11)))

def lH (aA:List Int)(a1:Int)(i10:Int)(j11:Int):Option ((Int×Bool)×List Int) :=
  (lp (fun s=>fI a1 i10 s.1 s.2) (aA,j11)).bind (fun rr=>fG rr.1 a1 i10 rr.2)

def jI (aA:List Int)(a1:Int)(i10:Int)(j11:Int):Option ((Int×Bool)×List Int) :=
  lH aA a1 i10 j11

def fA (a1:Int)(j11:Int)(aA:List Int)(i10:Int):Option ((List Int×Int)⊕((List Int×Int))) :=
  bE ((((decide (i10<=j11)))=true->0<=i10/\i10<((List.length aA:Nat):Int))) <|
  bE ((((decide (i10<=j11)))=true->0<=a1/\a1<((List.length aA:Nat):Int))) <|
  (cW (decide (i10<=j11)) (dH (List.getD aA (Int.toNat i10) default) (List.getD aA (Int.toNat a1) default))).bind fun x43 =>
  cond ((decide (i10<=j11))&&x43)
  (some (.inl (aA,IntKind.i64.wrap (i10+(1:Int)))))
  (some (.inr (aA,i10)))

def gM (aA:List Int)(a1:Int)(i10:Int)(j11:Int):Option ((Int×Bool)×List Int) :=
  (lp (fun s=>fA a1 j11 s.1 s.2) (aA,i10)).bind (fun rr=>jI rr.1 a1 rr.2 j11)

def iH (aA:(List Int))(a1:Int)(b2:Int)(cT:Int):Option ((Int×Bool)×List Int) :=
  bE (0<=cT/\cT<((List.length aA:Nat):Int)) <|
  bE (0<=a1/\a1<((List.length aA:Nat):Int)) <|
  bE (0<=a1/\a1<((List.length aA:Nat):Int)) <|
  bE (0<=cT/\cT<((List.length aA:Nat):Int)) <|
  gM (List.set (List.set aA (Int.toNat a1) (List.getD aA (Int.toNat cT) default)) (Int.toNat cT) (List.getD aA (Int.toNat a1) default)) a1 (IntKind.i64.wrap (a1+(1:Int))) (IntKind.i64.wrap (b2-(1:Int)))

def iP (rec:(List Int)->Int->Int->Int->Option (List Int))(aA:List Int)(a1:Int)(b2:Int)(cG:Int)(cC:Bool)(bV:Bool)(eK:Int)(gT:Int):Option ((List Int×Int×Int×Int×Bool×Bool)⊕((List Int))) :=
  bE ((((decide ((0:Int)<a1)))=true->0<=(IntKind.i64.wrap (a1-(1:Int)))/\(IntKind.i64.wrap (a1-(1:Int)))<((List.length aA:Nat):Int))) <|
  bE ((((decide ((0:Int)<a1)))=true->0<=gT/\gT<((List.length aA:Nat):Int))) <|
  (cW (decide ((0:Int)<a1)) (dH (List.getD aA (Int.toNat (IntKind.i64.wrap (a1-(1:Int)))) default) (List.getD aA (Int.toNat gT) default))).bind fun x16 =>
  cond ((decide ((0:Int)<a1))&&(!x16))
  ((fO aA a1 b2 gT).bind fun x20 =>
  some (.inl (x20.2,x20.1,b2,cG,cC,bV)))
  ((iH aA a1 b2 gT).bind fun x23 =>
  bE ((8:Int)≠0) <|
  cond (decide ((IntKind.i64.wrap (x23.1.1-a1))<(IntKind.i64.wrap (b2-x23.1.1))))
  ((rec x23.2 a1 x23.1.1 cG).bind fun x28 =>
  some (.inl (x28,IntKind.i64.wrap (x23.1.1+(1:Int)),b2,cG,decide ((IntKind.i64.wrap (Int.tdiv eK (8:Int)))<=(IntKind.i64.wrap (x23.1.1-a1))),x23.1.2)))
  ((rec x23.2 (IntKind.i64.wrap (x23.1.1+(1:Int))) b2 cG).bind fun x31 =>
  some (.inl (x31,a1,x23.1.1,cG,decide ((IntKind.i64.wrap (Int.tdiv eK (8:Int)))<=(IntKind.i64.wrap (b2-x23.1.1))),x23.1.2))))

def iR (rec:(List Int)->Int->Int->Int->Option (List Int))(aA:List Int)(a1:Int)(b2:Int)(cG:Int)(cC:Bool)(bV:Bool)(eK:Int)(gT:Int)(HV:Int):Option ((List Int×Int×Int×Int×Bool×Bool)⊕((List Int))) :=
  cond ((cC&&bV)&&(decide (HV=(1:Int))))
  ((fK aA a1 b2).bind fun x35 =>
  cond x35.1
  (some (.inr x35.2))
  (iP rec x35.2 a1 b2 cG cC bV eK gT))
  (iP rec aA a1 b2 cG cC bV eK gT)

def iS (rec:(List Int)->Int->Int->Int->Option (List Int))(aA:List Int)(a1:Int)(b2:Int)(cG:Int)(cC:Bool)(bV:Bool)(eK:Int):Option ((List Int×Int×Int×Int×Bool×Bool)⊕((List Int))) :=
  (jA aA a1 b2).bind fun x9 =>
  cond (decide (x9.2=(2:Int)))
  ((iV aA a1 b2).bind fun x40 =>
  iR rec x40 a1 b2 cG cC bV eK (IntKind.i64.wrap ((IntKind.i64.wrap (b2-(1:Int)))-(IntKind.i64.wrap (x9.1-a1)))) (1:Int))
  (iR rec aA a1 b2 cG cC bV eK x9.1 x9.2)

def eY (rec:(List Int)->Int->Int->Int->Option (List Int))  (aA:List Int)(a1:Int)(b2:Int)(cG:Int)(cC:Bool)(bV:Bool):Option ((List Int×Int×Int×Int×Bool×Bool)⊕((List Int))) :=
  cond (decide ((IntKind.i64.wrap (b2-a1))<=(12:Int)))
  ((iO aA a1 b2).bind fun x2 =>
  some (.inr x2))
  (cond (decide (cG=(0:Int)))
  ((kG aA a1 b2).bind fun x6 =>
  some (.inr x6))
  (cond (!cC)
  ((iN aA a1 b2).bind fun x44 =>
  iS rec x44 a1 b2 (IntKind.i64.wrap (cG-(1:Int))) cC bV (IntKind.i64.wrap (b2-a1)))
  (iS rec aA a1 b2 cG cC bV (IntKind.i64.wrap (b2-a1)))))

def mD (rec:(List Int)->Int->Int->Int->Option (List Int))(aA:List Int)(a1:Int)(b2:Int)(cG:Int)(cC:Bool)(bV:Bool):Option (List Int) :=
  (lp (fun s=>eY rec s.1 s.2.1 s.2.2.1 s.2.2.2.1 s.2.2.2.2.1 s.2.2.2.2.2) (aA,a1,b2,cG,cC,bV)).bind (fun rr=>some rr)

def gU (rec:(List Int)->Int->Int->Int->Option (List Int))(aA:(List Int))(a1:Int)(b2:Int)(cG:Int):Option (List Int) :=
  mD rec aA a1 b2 cG true true

def dW  : Nat->(List Int)->Int->Int->Int->Option (List Int)
  | 0=>fun _ _ _ _=>none
  | k+1=>gU (dW k)

def kN (aA:(List Int))(a1:Int)(b2:Int)(cG:Int):Option (List Int):=aAh (fun k=>dW k aA a1 b2 cG)

def gV (x0:(List Int)):Option (List Int) :=
  (lR (IntKind.u64.wrap ((List.length x0:Nat):Int))).bind fun x1 =>
  (kN x0 (0:Int) ((List.length x0:Nat):Int) x1).bind fun x4 =>
  some x4

def lI (s0:List Int):Option (List Int) :=
  some s0

def nJ (s0:List Int)(k3:Int):Option ((List Int×Int)⊕((List Int)⊕(List Int))) :=
  some (.inl (s0,IntKind.i64.wrap (k3+(1:Int))))

def lQ (s0:List Int)(k3:Int):Option ((List Int×Int)⊕((List Int)⊕(List Int))) :=
  bE (0<=k3/\k3<=((List.length s0:Nat):Int)) <|
  bE (0<=k3/\k3<=((List.length (kS (0+Int.toNat k3) s0):Nat):Int)) <|
  bE (Int.toNat k3<=List.length (kS (0+Int.toNat k3) s0)) <|
  some (.inr (.inr (List.take (Int.toNat k3) (kS (0+Int.toNat k3) s0))))

def jR (s0:List Int)(k3:Int)(k25:Int)(s24o:Nat)(s24n:Nat):Option ((List Int×Int×Int)⊕((List Int×Int))) :=
  some (.inl (s0,k3,IntKind.i64.wrap (k25+(1:Int))))

def fV (s24o:Nat)(s24n:Nat)(s0:List Int)(k3:Int)(k25:Int):Option ((List Int×Int×Int)⊕((List Int×Int))) :=
  cond (decide (k25<((s24n:Nat):Int)))
  (bE (0<=k25/\k25<((s24n:Nat):Int)) <|
  bE ((s24o+Int.toNat k25)<List.length s0) <|
  bE (0<=(IntKind.i64.wrap (k25-(1:Int)))/\(IntKind.i64.wrap (k25-(1:Int)))<((s24n:Nat):Int)) <|
  bE ((s24o+Int.toNat (IntKind.i64.wrap (k25-(1:Int))))<List.length s0) <|
  cond (!decide ((List.getD s0 (s24o+Int.toNat k25) default)=(List.getD s0 (s24o+Int.toNat (IntKind.i64.wrap (k25-(1:Int)))) default)))
  (bE (0<=k25/\k25<((s24n:Nat):Int)) <|
  bE ((s24o+Int.toNat k25)<List.length s0) <|
  bE (0<=k3/\k3<((List.length s0:Nat):Int)) <|
  jR (List.set s0 (Int.toNat k3) (List.getD s0 (s24o+Int.toNat k25) default)) (IntKind.i64.wrap (k3+(1:Int))) k25 s24o s24n)
  (jR s0 k3 k25 s24o s24n))
  (some (.inr (s0,k3)))

def nI (s0:List Int)(k3:Int)(k25:Int)(s24o:Nat)(s24n:Nat):Option ((List Int×Int)⊕((List Int)⊕(List Int))) :=
  (lp (fun s=>fV s24o s24n s.1 s.2.1 s.2.2) (s0,k3,k25)).bind (fun rr=>lQ rr.1 rr.2)

def iK  (s0:List Int)(k3:Int):Option ((List Int×Int)⊕((List Int)⊕(List Int))) :=
  cond (decide (k3<((List.length s0:Nat):Int)))
  (bE (0<=k3/\k3<((List.length s0:Nat):Int)) <|
  bE (0<=(IntKind.i64.wrap (k3-(1:Int)))/\(IntKind.i64.wrap (k3-(1:Int)))<((List.length s0:Nat):Int)) <|
  cond (decide ((List.getD s0 (Int.toNat k3) default)=(List.getD s0 (Int.toNat (IntKind.i64.wrap (k3-(1:Int)))) default)))
  (bE (0<=k3/\k3<=((List.length s0:Nat):Int)) <|
  nI s0 k3 (1:Int) (0+Int.toNat k3) (List.length s0-Int.toNat k3))
  (nJ s0 k3))
  (some (.inr (.inl s0)))

def nK (s0:List Int)(k3:Int):Option (List Int) :=
  (lp (fun s=>iK s.1 s.2) (s0,k3)).bind (Sum.elim (fun rr=>lI rr) (fun rr=>some rr))

def kH (s0:(List Int)):Option (List Int) :=
  cond (decide (((List.length s0:Nat):Int)<(2:Int)))
  (some s0)
  (nK s0 (1:Int))

def rN (t7c0:(List aK))(out3:List Int)(t8:aK):Option ((List Int)⊕(List Int)) :=
  bE ((List.length out3+List.length ([t8.At]))*8<=140737488355328/\List.length out3+List.length ([t8.At])<=9223372036854775807) <|
  some (.inl (out3++([t8.At])))

def uT (out3:List Int)(t7c0:(List aK)):Option (List Int) :=
  (nH (fun st t8=>rnd (fun (s:List Int)=>rN t7c0 s t8) st) t7c0 (.inl out3)).bind (Sum.elim (fun (s:List Int) =>
  ((gV s).bind fun x10 =>
  (kH x10).bind fun x13 =>
  some x13))
  (fun (s:List Int) =>
  (none)))

def pW (l0:(List aK)):Option (List Int) :=
  (qT l0).bind fun x3 =>
  uT ([]:List Int) x3

def pJ (x0:Int):Option Bool :=
  some (!decide (x0=x0))

def jH (x0:(List Int))(fZ:Int)(n6:Int)(i7:Int):Option (Int×Bool) :=
  bE ((((decide (i7<n6)))=true->0<=i7/\i7<((List.length x0:Nat):Int))) <|
  bE ((((!(decide ((List.getD x0 (Int.toNat i7) default)=fZ)))&&(decide (i7<n6)))=true->0<=i7/\i7<((List.length x0:Nat):Int))) <|
  (cW ((!(decide ((List.getD x0 (Int.toNat i7) default)=fZ)))&&(decide (i7<n6))) (pJ (List.getD x0 (Int.toNat i7) default))).bind fun x3 =>
  (cW (x3&&((!(decide ((List.getD x0 (Int.toNat i7) default)=fZ)))&&(decide (i7<n6)))) (pJ fZ)).bind fun x6 =>
  some (i7,(decide (i7<n6))&&((decide ((List.getD x0 (Int.toNat i7) default)=fZ))||(x3&&x6)))

def fE (x0:(List Int))(fZ:Int)(n6:Int)(i7:Int)(j8:Int):Option ((Int×Int)⊕(Int)) :=
  cond (decide (i7<j8))
  (bE (0<=(1:Int)) <|
  bE (0<=(IntKind.i64.wrap (Int.fdiv (IntKind.u64.wrap (IntKind.i64.wrap (i7+j8))) (2 ^ (min (Int.toNat (1:Int)) 64))))/\(IntKind.i64.wrap (Int.fdiv (IntKind.u64.wrap (IntKind.i64.wrap (i7+j8))) (2 ^ (min (Int.toNat (1:Int)) 64))))<((List.length x0:Nat):Int)) <|
  (dH (List.getD x0 (Int.toNat (IntKind.i64.wrap (Int.fdiv (IntKind.u64.wrap (IntKind.i64.wrap (i7+j8))) (2 ^ (min (Int.toNat (1:Int)) 64))))) default) fZ).bind fun x12 =>
  cond x12
  (some (.inl (IntKind.i64.wrap ((IntKind.i64.wrap (Int.fdiv (IntKind.u64.wrap (IntKind.i64.wrap (i7+j8))) (2 ^ (min (Int.toNat (1:Int)) 64))))+(1:Int)),j8)))
  (some (.inl (i7,IntKind.i64.wrap (Int.fdiv (IntKind.u64.wrap (IntKind.i64.wrap (i7+j8))) (2 ^ (min (Int.toNat (1:Int)) 64)))))))
  (some (.inr i7))

def lF (x0:(List Int))(fZ:Int)(n6:Int)(i7:Int)(j8:Int):Option (Int×Bool) :=
  (lp (fun s=>fE x0 fZ n6 s.1 s.2) (i7,j8)).bind (fun rr=>jH x0 fZ n6 rr)

def fR (x0:(List Int))(fZ:Int):Option (Int×Bool) :=
  lF x0 fZ ((List.length x0:Nat):Int) (0:Int) ((List.length x0:Nat):Int)

def vQ (l0:(List aK))(n1:Int)(t2:Int):Option (Int×Int) :=
  (uI l0 n1).bind fun x1 =>
  cond (!decide (x1=(0:Int)))
  (some ((0:Int),x1))
  (cond ((decide (t2<(0:Int)))||(decide ((1125899906842624:Int)<t2)))
  (some ((0:Int),(13:Int)))
  (cond (decide (t2=(1125899906842624:Int)))
  (some (t2,(0:Int)))
  ((pW l0).bind fun x7 =>
  (fR x7 t2).bind fun x10 =>
  cond (decide ((if (IntKind.i64.wrap ((IntKind.i64.wrap (x10.1-n1))+(1:Int)))>(0:Int) then (IntKind.i64.wrap ((IntKind.i64.wrap (x10.1-n1))+(1:Int))) else (0:Int))=x10.1))
  (some (t2,(0:Int)))
  (bE (0<=(if (IntKind.i64.wrap ((IntKind.i64.wrap (x10.1-n1))+(1:Int)))>(0:Int) then (IntKind.i64.wrap ((IntKind.i64.wrap (x10.1-n1))+(1:Int))) else (0:Int))/\(if (IntKind.i64.wrap ((IntKind.i64.wrap (x10.1-n1))+(1:Int)))>(0:Int) then (IntKind.i64.wrap ((IntKind.i64.wrap (x10.1-n1))+(1:Int))) else (0:Int))<((List.length x7:Nat):Int)) <|
  some (List.getD x7 (Int.toNat (if (IntKind.i64.wrap ((IntKind.i64.wrap (x10.1-n1))+(1:Int)))>(0:Int) then (IntKind.i64.wrap ((IntKind.i64.wrap (x10.1-n1))+(1:Int))) else (0:Int))) default,(0:Int))))))

def qU (w0:bW)(l1:(List aK))(t2:Int):Option (Int×Int) :=
  (qY w0 l1 t2).bind fun x1 =>
  cond (!decide (x1=(0:Int)))
  (some ((0:Int),x1))
  (cond (decide (w0.Kind=(2:Int)))
  ((CE w0.Size w0.Hop t2).bind fun x6 =>
  some (if t2<x6.1 then t2 else x6.1,x6.2))
  (cond (decide (w0.Kind=(3:Int)))
  ((vQ l1 w0.Size t2).bind fun x10 =>
  some (x10.1,x10.2))
  (some (t2,(0:Int)))))

def xK (t1:Int):Option Int :=
  some t1

def sR (t1:Int)(t7:(List aK))(t8:Int)(t9:Int):Option ((Int×Int)⊕(Int)) :=
  some (.inl (t1,IntKind.i64.wrap (t9+(1:Int))))

def pV (t7:(List aK))(t8:Int)(t1:Int)(t9:Int):Option ((Int×Int)⊕(Int)) :=
  cond (decide (t9<t8))
  (bE (0<=t9/\t9<((List.length t7:Nat):Int)) <|
  cond (decide ((0:Int)<((List.getD t7 (Int.toNat t9) default).Net)))
  (sR (if (IntKind.i64.wrap (((List.getD t7 (Int.toNat t9) default).At)+(1:Int)))>t1 then (IntKind.i64.wrap (((List.getD t7 (Int.toNat t9) default).At)+(1:Int))) else t1) t7 t8 t9)
  (sR t1 t7 t8 t9))
  (some (.inr t1))

def xA (t1:Int)(t7:(List aK))(t8:Int)(t9:Int):Option Int :=
  (lp (fun s=>pV t7 t8 s.1 s.2) (t1,t9)).bind (fun rr=>xK rr)

def tS (l0:(List aK))(t1:Int):Option Int :=
  xA t1 l0 ((List.length l0:Nat):Int) (0:Int)

def sB (l0:(List aK)):Option ((List aK)) :=
  some l0

def lV {σ:Type}(cL:σ->(List aG)->(List aI)->Option (σ×Bool))(t9c0:(List aK))(sg:σ)(t10:(List aG))(t11:(List aI)):Option ((σ)⊕(σ)) :=
  (cL sg t10 t11).bind fun x7 =>
  cond (!x7.2)
  (some (.inr x7.1))
  (some (.inl x7.1))

def sM {σ:Type}(cL:σ->(List aG)->(List aI)->Option (σ×Bool))(sg:σ)(t9c0:(List aK)):Option σ :=
  (pR (fun st t10 t11=>rnd (fun (s:σ)=>lV cL t9c0 s t10 t11) st) t9c0 (.inl sg)).bind (Sum.elim (fun (s:σ) =>
  (some s))
  (fun (s:σ) =>
  (some s)))

def oA {σ:Type}(cL:σ->(List aG)->(List aI)->Option (σ×Bool))(t1:(List aK))(sg0:σ):Option σ :=
  (qN t1).bind fun x1 =>
  cond (!x1)
  (some sg0)
  ((wM t1).bind fun x5 =>
  sM cL sg0 x5)

def CT (f0:(List aI)):Option ((List aI)) :=
  some f0

def oU {σ:Type}(cL:σ->bL->Option (σ×Bool))(sg:σ)(n3:Int)(kU:Int):Option σ :=
  cond (decide ((0:Int)<n3))
  ((cL sg (bL.mk kU (1125899906842624:Int))).bind fun x2 =>
  some x2.1)
  (some sg)

def nB {σ:Type}(cL:σ->bL->Option (σ×Bool))(sg:σ)(n3:Int)(kU:Int)(j6:aI)(t7:(List aI))(t8:Int)(t9:Int):Option ((σ×Int×Int×Int)⊕((σ×Int×Int)⊕σ)) :=
  (DK (decide ((IntKind.i64.wrap (n3+j6.Net))=(0:Int))) sg (cL sg (bL.mk kU j6.At))).bind fun (x10,x11) =>
  cond ((decide ((IntKind.i64.wrap (n3+j6.Net))=(0:Int)))&&(!x11))
  (some (.inr (.inr x10)))
  (some (.inl (x10,IntKind.i64.wrap (n3+j6.Net),kU,IntKind.i64.wrap (t9+(1:Int)))))

def gX {σ:Type}(cL:σ->bL->Option (σ×Bool))(t7:(List aI))(t8:Int)(sg:σ)(n3:Int)(kU:Int)(t9:Int):Option ((σ×Int×Int×Int)⊕((σ×Int×Int)⊕σ)) :=
  cond (decide (t9<t8))
  (bE (0<=t9/\t9<((List.length t7:Nat):Int)) <|
  cond (decide (n3=(0:Int)))
  (nB cL sg n3 ((List.getD t7 (Int.toNat t9) default).At) (List.getD t7 (Int.toNat t9) default) t7 t8 t9)
  (nB cL sg n3 kU (List.getD t7 (Int.toNat t9) default) t7 t8 t9))
  (some (.inr (.inl (sg,n3,kU))))

def uW {σ:Type}(cL:σ->bL->Option (σ×Bool))(sg:σ)(n3:Int)(kU:Int)(t7:(List aI))(t8:Int)(t9:Int):Option σ :=
  (lp (fun s=>gX cL t7 t8 s.1 s.2.1 s.2.2.1 s.2.2.2) (sg,n3,kU,t9)).bind (Sum.elim (fun rr=>oU cL rr.1 rr.2.1 rr.2.2) (fun rr=>some rr))

def sS {σ:Type}(cL:σ->bL->Option (σ×Bool))(t1:(List aI))(sg0:σ):Option σ :=
  uW cL sg0 (0:Int) (0:Int) t1 ((List.length t1:Nat):Int) (0:Int)

def BM (dF:Int)(hop1:Int)(s2:bL)(mQ:Int)(kK:Int):Option ((Int×bL×Int×Int×Int)) :=
  some (hop1,s2,dF,mQ,kK)

def kA {σ:Type}(cL:σ->Int->Option (σ×Bool))(t1:Int)(t2:bL)(t5:Int)(sg:σ)(t8:Int):Option ((σ×Int)⊕(σ⊕σ)) :=
  cond (decide (t8<(if (1125899906842624:Int)<(if t5<t2.To then t5 else t2.To) then (1125899906842624:Int) else (if t5<t2.To then t5 else t2.To))))
  ((cL sg t8).bind fun x8 =>
  cond (!x8.2)
  (some (.inr (.inr x8.1)))
  (some (.inl (x8.1,IntKind.i64.wrap (t8+t1)))))
  (some (.inr (.inl sg)))

def qG {σ:Type}(cL:σ->Int->Option (σ×Bool))(sg:σ)(t1:Int)(t2:bL)(t5:Int)(t8:Int):Option σ :=
  (lp (fun s=>kA cL t1 t2 t5 s.1 s.2) (sg,t8)).bind (Sum.elim (fun rr=>some rr) (fun rr=>some rr))

def rL {σ:Type}(cL:σ->Int->Option (σ×Bool))(t1:Int)(t2:bL)(t3:Int)(t4:Int)(t5:Int)(sg0:σ):Option σ :=
  (rA t1 (IntKind.i64.wrap (t2.From-t3))).bind fun x1 =>
  (rA t1 (IntKind.i64.wrap (t4-(1:Int)))).bind fun x4 =>
  qG cL sg0 t1 t2 t5 (if x4>x1 then x4 else x1)

def yL (v5:Int):Option Int :=
  some v5

def pG (t1:Int)(t11:(List aI))(t12:Int)(v5:Int)(t13:Int):Option ((Int×Int)⊕(Int)) :=
  cond (decide (t13<t12))
  (bE (0<=t13/\t13<((List.length t11:Nat):Int)) <|
  cond (decide (t1<((List.getD t11 (Int.toNat t13) default).At)))
  (some (.inr v5))
  (some (.inl (IntKind.i64.wrap (v5+((List.getD t11 (Int.toNat t13) default).Net)),IntKind.i64.wrap (t13+(1:Int))))))
  (some (.inr v5))

def EG (t1:Int)(v5:Int)(t11:(List aI))(t12:Int)(t13:Int):Option Int :=
  (lp (fun s=>pG t1 t11 t12 s.1 s.2) (v5,t13)).bind (fun rr=>yL rr)

def AW (f0:(List aI))(t1:Int):Option Int :=
  (qI f0).bind fun x1 =>
  cond (!x1)
  (some (0:Int))
  (EG t1 (0:Int) f0 ((List.length f0:Nat):Int) (0:Int))

def yT (n5:Int):Option Int :=
  some n5

def qW (w3:bL)(n5:Int)(t12:(List aI))(t13:Int)(t14:Int):Option ((Int×Int)⊕(Int)) :=
  some (.inl (n5,IntKind.i64.wrap (t14+(1:Int))))

def qS (w3:bL)(t12:(List aI))(t13:Int)(n5:Int)(t14:Int):Option ((Int×Int)⊕(Int)) :=
  cond (decide (t14<t13))
  (bE (0<=t14/\t14<((List.length t12:Nat):Int)) <|
  cond ((decide (w3.From<((List.getD t12 (Int.toNat t14) default).At)))&&(decide (((List.getD t12 (Int.toNat t14) default).At)<w3.To)))
  (qW w3 (IntKind.i64.wrap (n5+(if (0:Int)>((List.getD t12 (Int.toNat t14) default).Net) then (0:Int) else ((List.getD t12 (Int.toNat t14) default).Net)))) t12 t13 t14)
  (qW w3 n5 t12 t13 t14))
  (some (.inr n5))

def yZ (w3:bL)(n5:Int)(t12:(List aI))(t13:Int)(t14:Int):Option Int :=
  (lp (fun s=>qS w3 t12 t13 s.1 s.2) (n5,t14)).bind (fun rr=>yT rr)

def vK (f0:(List aI))(w1:bL):Option Int :=
  (AW f0 w1.From).bind fun x1 =>
  yZ w1 x1 f0 ((List.length f0:Nat):Int) (0:Int)

def shP (a b:Nat)(p:aP):List (Nat×Nat×List V):=[(a,3,[(.agg [(eI p.Span.From),(eI p.Span.To),(.msl 2 b 0 (List.length p.Rows))])]),(b,2,List.map bZ p.Rows)]

def shF (a _b:Nat)(p:aP):List (Nat×Nat×List V):=[(a,3,[(aT p)])]

def qD (r:List aG)(f:List aI)(p:aP):Option aP :=
  bE ((!(decide ((wR ((lN p.Rows)-(1:Int)))<(0:Int))))=true->0<=(wR ((lN p.Rows)-(1:Int)))/\(wR ((lN p.Rows)-(1:Int)))<(lN p.Rows)) <|
  (cW (!(decide ((wR ((lN p.Rows)-(1:Int)))<(0:Int)))) (sK ((gD p.Rows (wR ((lN p.Rows)-(1:Int)))).Row) r)).bind fun x1 =>
  cond ((decide ((wR ((lN p.Rows)-(1:Int)))<(0:Int)))||(!x1))
  ((yU r).bind fun x2 =>
  (vK f p.Span).bind fun x3 =>
  bE ((List.length p.Rows+List.length ([bK.mk x2 x3]))*32<=140737488355328/\List.length p.Rows+List.length ([bK.mk x2 x3])<=9223372036854775807) <|
  some (aP.mk p.Span (p.Rows++[bK.mk x2 x3])))
  (some p)

def oL (r:List aG)(f:List aI)(size:Int)(b:Bool)(m:List (Int×aP))(t:Int):Option ((Bool×List (Int×aP))⊕(Bool×List (Int×aP))) :=
  match gI m t with
  | none=>cond (decide ((lN m)=(1024:Int)))
    (some (.inr (false,m)))
    ((qD r f (aP.mk (bL.mk t (if (1125899906842624:Int)<(wR (t+size)) then (1125899906842624:Int) else (wR (t+size)))) [])).bind fun p=>some (.inl (b,fD m t p)))
  | some p=>(qD r f p).bind fun p=>some (.inl (b,fD m t p))

def qA (r:List aG)(f:List aI)(size hop frm front:Int)(b:Bool)(m:List (Int×aP))(s:bL):Option ((Bool×List (Int×aP))⊕(Bool×List (Int×aP))) :=
  (BM size hop s frm front).bind fun x =>
  (rL (fun st t=>rnd (fun (q:Bool×List (Int×aP))=>oL r f size q.1 q.2 t) st) x.1 x.2.1 x.2.2.1 x.2.2.2.1 x.2.2.2.2 (.inl (b,m))).bind (Sum.elim (fun q=>some (.inl q)) (fun q=>some (.inr q)))

def xY (m:List (Int×aP))(r:List aG)(f:List aI)(size hop frm front:Int):Option (Bool×List (Int×aP)) :=
  (CT f).bind fun x =>
  (sS (fun st s=>rnd (fun (q:Bool×List (Int×aP))=>qA r f size hop frm front q.1 q.2 s) st) x (.inl (false,m))).bind (Sum.elim (fun q=>some (true,q.2)) (fun q=>some (q.1,q.2)))

def nT (size hop frm front:Int)(t10:List aP)(t11:Int)(m:List (Int×aP))(r:List aG)(f:List aI):Option ((List aP×Int×List (Int×aP))⊕(List aP×Int×List (Int×aP))) :=
  (xY m r f size hop frm front).bind fun x =>
  cond (!x.1)
  (some (.inr ([],(7:Int),x.2)))
  (some (.inl (t10,t11,x.2)))

def tZ (m:List (Int×aP))(b:List Int)(n:Int)(out:List aP)(i:Int):Option ((List aP×Int)⊕(List aP)) :=
  cond (decide (i<n))
  (bE (0<=i/\i<(lN b)) <|
  match gI m (gD b i) with
  | none=>none
  | some p =>
    bE ((List.length out+List.length ([p]))*40<=140737488355328/\List.length out+List.length ([p])<=9223372036854775807) <|
    some (.inl (out++[p],wR (i+(1:Int)))))
  (some (.inr out))

def FW (m:List (Int×aP))(b:List Int):Option (List aP×Int) :=
  (gV b).bind fun b =>
  bE (0<=(lN b)/\(40:Int)*(lN b)<=281474976710656/\(lN b)<=9223372036854775807) <|
  (lp (fun s=>tZ m b (lN b) s.1 s.2) (([]:List aP),(0:Int))).bind fun out=>some (out,(0:Int))

def tX (s:List Int)(k:Int):Option (List Int) :=
  bE ((List.length s+List.length ([k]))*8<=140737488355328/\List.length s+List.length ([k])<=9223372036854775807) <|
  some (s++[k])

def xO (m:List (Int×aP)):Option (List aP×Int) :=
  bE (0<=(lN m)/\(8:Int)*(lN m)<=281474976710656/\(lN m)<=9223372036854775807) <|
  uP (m.map (·.1)) (fun q=>(dV tX ([]:List Int) q).bind (FW m))

def FK (l:List aK)(size hop frm front:Int)(t10:List aP)(t11:Int):Option (List aP×Int) :=
  (sB l).bind fun x =>
  (oA (fun st r f=>rnd (fun (q:List aP×Int×List (Int×aP))=>nT size hop frm front q.1 q.2.1 q.2.2 r f) st) x (.inl (t10,t11,[]))).bind (Sum.elim (fun q=>xO q.2.2) (fun q=>some (q.1,q.2.1)))

def zP (l0:(List aK))(sL:Int)(hop2:Int)(mQ:Int)(kK:Int):Option ((List aP)×Int) :=
  (AX sL hop2).bind fun x3 =>
  (cW (!(!x3)) (qN l0)).bind fun x6 =>
  cond ((!x3)||(!x6))
  (some ([],(2:Int)))
  ((pN l0).bind fun x10 =>
  cond (!x10)
  (some ([],(20:Int)))
  ((vD mQ).bind fun x14 =>
  (cW (!(!x14)) (vD kK)).bind fun x17 =>
  cond ((!x14)||(!x17))
  (some ([],(13:Int)))
  (FK l0 sL hop2 mQ kK ([]) 0)))

def gF (s0:(List aG)):Option (List aG) :=
  bE (List.length s0*32<=140737488355328/\List.length s0<=9223372036854775807) <|
  some s0

def oS (yW:(List aK))(t4:aP)(p5:aP)(t22:aK):Option ((aP×aP)⊕(aP×aP)) :=
  cond ((decide (t22.At<p5.Span.From))||(decide (p5.Span.To<=t22.At)))
  (some (.inl (t4,p5)))
  (bE ((((decide ((0:Int)<=(IntKind.i64.wrap (((List.length p5.Rows:Nat):Int)-(1:Int))))))=true->0<=(IntKind.i64.wrap (((List.length p5.Rows:Nat):Int)-(1:Int)))/\(IntKind.i64.wrap (((List.length p5.Rows:Nat):Int)-(1:Int)))<((List.length p5.Rows:Nat):Int))) <|
  (cW (decide ((0:Int)<=(IntKind.i64.wrap (((List.length p5.Rows:Nat):Int)-(1:Int))))) (fY ((List.getD p5.Rows (Int.toNat (IntKind.i64.wrap (((List.length p5.Rows:Nat):Int)-(1:Int)))) default).Row) t22.Row)).bind fun x13 =>
  cond ((decide ((0:Int)<=(IntKind.i64.wrap (((List.length p5.Rows:Nat):Int)-(1:Int)))))&&x13)
  (bE (0<=(IntKind.i64.wrap (((List.length p5.Rows:Nat):Int)-(1:Int)))/\(IntKind.i64.wrap (((List.length p5.Rows:Nat):Int)-(1:Int)))<((List.length p5.Rows:Nat):Int)) <|
  bE (0<=(IntKind.i64.wrap (((List.length p5.Rows:Nat):Int)-(1:Int)))/\(IntKind.i64.wrap (((List.length p5.Rows:Nat):Int)-(1:Int)))<((List.length p5.Rows:Nat):Int)) <|
  some (.inl (t4,aP.mk p5.Span (List.set p5.Rows (Int.toNat (IntKind.i64.wrap (((List.length p5.Rows:Nat):Int)-(1:Int)))) (bK.mk (List.getD p5.Rows (Int.toNat (IntKind.i64.wrap (((List.length p5.Rows:Nat):Int)-(1:Int)))) default).Row (IntKind.i64.wrap (((List.getD p5.Rows (Int.toNat (IntKind.i64.wrap (((List.length p5.Rows:Nat):Int)-(1:Int)))) default).N)+t22.Net)))))))
  ((gF t22.Row).bind fun x19 =>
  bE ((List.length p5.Rows+List.length ([bK.mk x19 t22.Net]))*32<=140737488355328/\List.length p5.Rows+List.length ([bK.mk x19 t22.Net])<=9223372036854775807) <|
  some (.inl (t4,aP.mk p5.Span (p5.Rows++([bK.mk x19 t22.Net]))))))

def uR (t4:aP)(p5:aP)(yW:(List aK)):Option aP :=
  (nH (fun st t22=>rnd (fun (s:aP×aP)=>oS yW s.1 s.2 t22) st) yW (.inl (t4,p5))).bind (Sum.elim (fun (s:aP×aP) =>
  (some s.2))
  (fun (s:aP×aP) =>
  (none)))

def sN (l0:(List aK))(run1:(List Int)):Option aP :=
  bE (0<=(0:Int)/\(0:Int)<((List.length run1:Nat):Int)) <|
  bE (0<=(IntKind.i64.wrap (((List.length run1:Nat):Int)-(1:Int)))/\(IntKind.i64.wrap (((List.length run1:Nat):Int)-(1:Int)))<((List.length run1:Nat):Int)) <|
  (qT l0).bind fun x6 =>
  uR (aP.mk (bL.mk 0 0) ([])) (aP.mk (bL.mk (List.getD run1 (Int.toNat (0:Int)) default) (IntKind.i64.wrap ((List.getD run1 (Int.toNat (IntKind.i64.wrap (((List.length run1:Nat):Int)-(1:Int)))) default)+(1:Int)))) ([])) x6

def wW (kO:List aP):Option ((List aP)×Int) :=
  some (kO,(0:Int))

def mP (l0:(List aK))(n1:Int)(lZ:(List Int))(kO:List aP):Option (((List Int)×List aP)⊕((List aP))) :=
  cond (decide (n1<=((List.length lZ:Nat):Int)))
  (bE (0<=n1/\n1<=n1/\n1<=((List.length lZ:Nat):Int)) <|
  (sN l0 (List.take (Int.toNat n1) lZ)).bind fun x20 =>
  bE ((List.length kO+List.length ([x20]))*40<=140737488355328/\List.length kO+List.length ([x20])<=9223372036854775807) <|
  bE (0<=(1:Int)/\(1:Int)<=((List.length lZ:Nat):Int)) <|
  some (.inl (List.drop (Int.toNat (1:Int)) lZ,kO++([x20]))))
  (some (.inr kO))

def wZ (l0:(List aK))(n1:Int)(lZ:(List Int))(kO:List aP):Option ((List aP)×Int) :=
  (lp (fun s=>mP l0 n1 s.1 s.2) (lZ,kO)).bind (fun rr=>wW rr)

def uG (l0:(List aK))(n1:Int)(nO:Int):Option ((List aP)×Int) :=
  (uI l0 n1).bind fun x1 =>
  cond (!decide (x1=(0:Int)))
  (some ([],x1))
  (cond ((decide (nO<(0:Int)))||(decide ((1125899906842624:Int)<nO)))
  (some ([],(13:Int)))
  ((pW l0).bind fun x6 =>
  (fR x6 nO).bind fun x9 =>
  bE (0<=x9.1/\x9.1<=((List.length x6:Nat):Int)/\((List.length x6:Nat):Int)<=((List.length x6:Nat):Int)/\((List.length x6:Nat):Int)<=((List.length x6:Nat):Int)) <|
  cond (decide ((1024:Int)<(IntKind.i64.wrap ((IntKind.i64.wrap (((List.length (List.drop (Int.toNat x9.1) (List.take (Int.toNat ((List.length x6:Nat):Int)) x6)):Nat):Int)-n1))+(1:Int)))))
  (some ([],(7:Int)))
  (wZ l0 n1 (List.drop (Int.toNat x9.1) (List.take (Int.toNat ((List.length x6:Nat):Int)) x6)) ([]:List aP))))

def BN (out9:List Int):Option ((List Int)×Int) :=
  (gV out9).bind fun x16 =>
  some (x16,(0:Int))

def tN (t50:(List (Int×Int)))(out9:List Int)(mk:Int)(mv:Int):Option (List Int) :=
  bE ((List.length out9+List.length ([mk]))*8<=140737488355328/\List.length out9+List.length ([mk])<=9223372036854775807) <|
  some (out9++([mk]))

def BU (t50:(List (Int×Int)))(out9:List Int):Option ((List Int)×Int) :=
  BN out9

def BG (out9:List Int)(t50:(List (Int×Int))):Option ((List Int)×Int) :=
  uP t50 (fun q=>(dV (fun (s:List Int) (x:Int×Int)=>tN t50 s x.1 x.2) out9 q).bind (fun (s:List Int)=>BU t50 s))

def xL (lK:(List (Int×Int))):Option ((List Int)×Int) :=
  bE (0<=((List.length lK:Nat):Int)/\(8:Int)*((List.length lK:Nat):Int)<=281474976710656/\((List.length lK:Nat):Int)<=9223372036854775807) <|
  BG ([]:List Int) lK

def uC (iX:Int)(lK:(List (Int×Int)))(t32:(List aK))(t33:Int)(t34:Int):Option (((List (Int×Int))×Int)⊕((List (Int×Int)))) :=
  some (.inl (lK,IntKind.i64.wrap (t34+(1:Int))))

def pM (iX:Int)(t32:(List aK))(t33:Int)(lK:(List (Int×Int)))(t34:Int):Option (((List (Int×Int))×Int)⊕((List (Int×Int)))) :=
  cond (decide (t34<t33))
  (bE (0<=t34/\t34<((List.length t32:Nat):Int)) <|
  cond (decide (iX<((List.getD t32 (Int.toNat t34) default).At)))
  (uC iX (fD lK ((List.getD t32 (Int.toNat t34) default).At) (1:Int)) t32 t33 t34)
  (uC iX lK t32 t33 t34))
  (some (.inr lK))

def BT (iX:Int)(lK:(List (Int×Int)))(t32:(List aK))(t33:Int)(t34:Int):Option ((List Int)×Int) :=
  (lp (fun s=>pM iX t32 t33 s.1 s.2) (lK,t34)).bind (fun rr=>xL rr)

def zJ (l0:(List aK))(iX:Int):Option ((List Int)×Int) :=
  (qN l0).bind fun x1 =>
  cond (!x1)
  (some ([],(2:Int)))
  ((pN l0).bind fun x5 =>
  cond (!x5)
  (some ([],(20:Int)))
  (cond ((decide (iX<(0:Int)))||(decide ((1125899906842624:Int)<iX)))
  (some ([],(13:Int)))
  (cond (decide (iX=(1125899906842624:Int)))
  (some ([],(0:Int)))
  (BT iX (fD ([]:(List (Int×Int))) iX (1:Int)) l0 ((List.length l0:Nat):Int) (0:Int)))))

def xB (out4:List bK):Option (List bK) :=
  some out4

def pS (t0:Int)(out4:List bK)(t9:(List cE))(t10:Int)(t11:Int):Option ((List bK×Int)⊕((List bK))) :=
  some (.inl (out4,IntKind.i64.wrap (t11+(1:Int))))

def nU (t0:Int)(t9:(List cE))(t10:Int)(out4:List bK)(t11:Int):Option ((List bK×Int)⊕((List bK))) :=
  cond (decide (t11<t10))
  (bE (0<=t11/\t11<((List.length t9:Nat):Int)) <|
  (AW ((List.getD t9 (Int.toNat t11) default).jumps) t0).bind fun x9 =>
  cond (decide ((0:Int)<x9))
  ((gF ((List.getD t9 (Int.toNat t11) default).row)).bind fun x16 =>
  bE ((List.length out4+List.length ([bK.mk x16 x9]))*32<=140737488355328/\List.length out4+List.length ([bK.mk x16 x9])<=9223372036854775807) <|
  pS t0 (out4++([bK.mk x16 x9])) t9 t10 t11)
  (pS t0 out4 t9 t10 t11))
  (some (.inr out4))

def xF (t0:Int)(out4:List bK)(t9:(List cE))(t10:Int)(t11:Int):Option (List bK) :=
  (lp (fun s=>nU t0 t9 t10 s.1 s.2) (out4,t11)).bind (fun rr=>xB rr)

def tY (t0:Int)(t1:(List cE)):Option (List bK) :=
  xF t0 ([]:List bK) t1 ((List.length t1:Nat):Int) (0:Int)

def oM (eX:(List Int))(yN:(List aK))(all8:List cE)(t29:(List aG))(t30:(List aI)):Option ((List cE)⊕(List cE)) :=
  bE ((List.length all8+List.length ([cE.mk t29 t30]))*48<=140737488355328/\List.length all8+List.length ([cE.mk t29 t30])<=9223372036854775807) <|
  some (.inl (all8++([cE.mk t29 t30])))

def AD (eS:List aP):Option ((List aP)×Int) :=
  some (eS,(0:Int))

def wD (eX:(List Int))(gO:(List cE))(eS:List aP)(t39:(List Int))(t40:Int)(t41:Int):Option ((List aP×Int)⊕((List aP)⊕((List aP)×Int))) :=
  some (.inl (eS,IntKind.i64.wrap (t41+(1:Int))))

def vS (eX:(List Int))(gO:(List cE))(eS:List aP)(t14:Int)(tW:(List bK))(CA:Int)(t39:(List Int))(t40:Int)(t41:Int):Option ((List aP×Int)⊕((List aP)⊕((List aP)×Int))) :=
  bE ((List.length eS+List.length ([aP.mk (bL.mk t14 CA) tW]))*40<=140737488355328/\List.length eS+List.length ([aP.mk (bL.mk t14 CA) tW])<=9223372036854775807) <|
  wD eX gO (eS++([aP.mk (bL.mk t14 CA) tW])) t39 t40 t41

def oK (eX:(List Int))(gO:(List cE))(t39:(List Int))(t40:Int)(eS:List aP)(t41:Int):Option ((List aP×Int)⊕((List aP)⊕((List aP)×Int))) :=
  cond (decide (t41<t40))
  (bE (0<=t41/\t41<((List.length t39:Nat):Int)) <|
  (tY (List.getD t39 (Int.toNat t41) default) gO).bind fun x20 =>
  cond (decide (((List.length x20:Nat):Int)=(0:Int)))
  (wD eX gO eS t39 t40 t41)
  (cond (decide (((List.length eS:Nat):Int)=(1024:Int)))
  (some (.inr (.inr ([],(7:Int)))))
  (cond (decide ((IntKind.i64.wrap (t41+(1:Int)))<((List.length eX:Nat):Int)))
  (bE (0<=(IntKind.i64.wrap (t41+(1:Int)))/\(IntKind.i64.wrap (t41+(1:Int)))<((List.length eX:Nat):Int)) <|
  vS eX gO eS (List.getD t39 (Int.toNat t41) default) x20 (List.getD eX (Int.toNat (IntKind.i64.wrap (t41+(1:Int)))) default) t39 t40 t41)
  (vS eX gO eS (List.getD t39 (Int.toNat t41) default) x20 (1125899906842624:Int) t39 t40 t41))))
  (some (.inr (.inl eS)))

def vY (eX:(List Int))(gO:(List cE))(eS:List aP)(t39:(List Int))(t40:Int)(t41:Int):Option ((List aP)×Int) :=
  (lp (fun s=>oK eX gO t39 t40 s.1 s.2) (eS,t41)).bind (Sum.elim (fun rr=>AD rr) (fun rr=>some (rr.1,rr.2)))

def zW (eX:(List Int))(all8:List cE)(yN:(List aK)):Option ((List aP)×Int) :=
  (oA (fun st t29 t30=>rnd (fun (s:List cE)=>oM eX yN s t29 t30) st) yN (.inl all8)).bind (Sum.elim (fun (s:List cE) =>
  (vY eX s ([]:List aP) eX ((List.length eX:Nat):Int) (0:Int)))
  (fun (s:List cE) =>
  (none)))

def xT (l0:(List aK))(iX:Int):Option ((List aP)×Int) :=
  (zJ l0 iX).bind fun x1 =>
  cond (!decide (x1.2=(0:Int)))
  (some ([],x1.2))
  ((sB l0).bind fun x7 =>
  zW x1.1 ([]:List cE) x7)

def uD (w0:bW)(l1:(List aK))(nO:Int)(t3:Int):Option ((List aP)×Int) :=
  (qY w0 l1 t3).bind fun x1 =>
  cond (!decide (x1=(0:Int)))
  (some ([],x1))
  (cond (decide (w0.Kind=(2:Int)))
  ((tS l1 t3).bind fun x6 =>
  (zP l1 w0.Size w0.Hop nO x6).bind fun x9 =>
  some (x9.1,x9.2))
  (cond (decide (w0.Kind=(3:Int)))
  ((uG l1 w0.Size nO).bind fun x13 =>
  some (x13.1,x13.2))
  ((xT l1 nO).bind fun x16 =>
  some (x16.1,x16.2))))

def tI  : Option Bool :=
  (qU (bW.mk (2:Int) (10:Int) (5:Int)) ([aK.mk ([aG.mk (1:Int) (1:Int) ByteArray.empty]) (3:Int) (1:Int),aK.mk ([aG.mk (1:Int) (1:Int) ByteArray.empty]) (7:Int) (-1:Int)]) (12:Int)).bind fun x2 =>
  (uD (bW.mk (2:Int) (10:Int) (5:Int)) ([aK.mk ([aG.mk (1:Int) (1:Int) ByteArray.empty]) (3:Int) (1:Int),aK.mk ([aG.mk (1:Int) (1:Int) ByteArray.empty]) (7:Int) (-1:Int)]) (0:Int) (2:Int)).bind fun x5 =>
  bE (((((((decide (x2.1=(5:Int)))&&(decide (x2.2=(0:Int))))&&(decide (x5.2=(0:Int))))&&(decide (((List.length x5.1:Nat):Int)=(1:Int)))))=true->0<=(0:Int)/\(0:Int)<((List.length x5.1:Nat):Int))) <|
  (cW (((((decide (x2.1=(5:Int)))&&(decide (x2.2=(0:Int))))&&(decide (x5.2=(0:Int))))&&(decide (((List.length x5.1:Nat):Int)=(1:Int))))&&((decide ((((List.getD x5.1 (Int.toNat (0:Int)) default).Span).From)=((bL.mk 0 (10:Int)).From)))&&((decide ((((List.getD x5.1 (Int.toNat (0:Int)) default).Span).To)=((bL.mk 0 (10:Int)).To)))&&true))) (oW (bW.mk 0 0 0))).bind fun x9 =>
  some ((((((decide (x2.1=(5:Int)))&&(decide (x2.2=(0:Int))))&&(decide (x5.2=(0:Int))))&&(decide (((List.length x5.1:Nat):Int)=(1:Int))))&&((decide ((((List.getD x5.1 (Int.toNat (0:Int)) default).Span).From)=((bL.mk 0 (10:Int)).From)))&&((decide ((((List.getD x5.1 (Int.toNat (0:Int)) default).Span).To)=((bL.mk 0 (10:Int)).To)))&&true)))&&(decide (x9=(2:Int))))

def qR (dF:Int)(hop1:Int):Option Bool :=
  some ((((decide ((0:Int)<dF))&&(decide (dF<=(1099511627776:Int))))&&(decide ((0:Int)<hop1)))&&(decide (hop1<=(1099511627776:Int))))

def wN (w0:bW):Option Bool :=
  cond (decide (w0.Kind=(2:Int)))
  ((qR w0.Size w0.Hop).bind fun x2 =>
  some x2)
  (cond (!decide (w0.Hop=(0:Int)))
  (some false)
  (some (((decide (w0.Kind=(1:Int)))&&(decide (w0.Size=(0:Int))))||(((decide (w0.Kind=(3:Int)))&&(decide ((0:Int)<w0.Size)))&&(decide (w0.Size<=(64:Int)))))))

def sX (v0:aG):Option Bool :=
  cond (decide (v0.Kind=(1:Int)))
  (some (oY v0.Text (⟨#[]⟩:ByteArray)))
  (some (((decide (v0.Kind=(2:Int)))&&(decide (v0.Num=(0:Int))))&&(decide (((ByteArray.size v0.Text:Nat):Int)<=(64:Int)))))

def tO (r0:(List aG)):Option Bool :=
  some (decide (((List.length r0:Nat):Int)<=(8:Int)))

def rC (r0:(List aG))(i3:Int):Option ((Int)⊕(Unit⊕Bool)) :=
  cond ((decide (i3<((List.length r0:Nat):Int)))&&(decide (i3<(9:Int))))
  (bE (0<=i3/\i3<((List.length r0:Nat):Int)) <|
  (sX (List.getD r0 (Int.toNat i3) default)).bind fun x3 =>
  cond (!x3)
  (some (.inr (.inr false)))
  (some (.inl (IntKind.i64.wrap (i3+(1:Int))))))
  (some (.inr (.inl ())))

def BK (r0:(List aG))(i3:Int):Option Bool :=
  (lp (fun s=>rC r0 s) i3).bind (Sum.elim (fun rr=>tO r0) (fun rr=>some rr))

def sV (r0:(List aG)):Option Bool :=
  BK r0 (0:Int)

def xP  : Option Bool :=
  some true

def mS (f0:(List aI))(i3:Int):Option ((Int)⊕(Unit⊕Bool)) :=
  cond (decide (i3<((List.length f0:Nat):Int)))
  (bE (0<=i3/\i3<((List.length f0:Nat):Int)) <|
  bE ((((!(decide (((List.getD f0 (Int.toNat i3) default).At)<(-1:Int)))))=true->0<=i3/\i3<((List.length f0:Nat):Int))) <|
  bE ((((!((decide (((List.getD f0 (Int.toNat i3) default).At)<(-1:Int)))||(decide ((1125899906842624:Int)<=((List.getD f0 (Int.toNat i3) default).At))))))=true->0<=i3/\i3<((List.length f0:Nat):Int))) <|
  bE ((((!(((decide (((List.getD f0 (Int.toNat i3) default).At)<(-1:Int)))||(decide ((1125899906842624:Int)<=((List.getD f0 (Int.toNat i3) default).At))))||(decide (((List.getD f0 (Int.toNat i3) default).Net)=(0:Int))))))=true->0<=i3/\i3<((List.length f0:Nat):Int))) <|
  bE ((((!((((decide (((List.getD f0 (Int.toNat i3) default).At)<(-1:Int)))||(decide ((1125899906842624:Int)<=((List.getD f0 (Int.toNat i3) default).At))))||(decide (((List.getD f0 (Int.toNat i3) default).Net)=(0:Int))))||(decide ((1048576:Int)<((List.getD f0 (Int.toNat i3) default).Net))))))=true->0<=i3/\i3<((List.length f0:Nat):Int))) <|
  cond (((((decide (((List.getD f0 (Int.toNat i3) default).At)<(-1:Int)))||(decide ((1125899906842624:Int)<=((List.getD f0 (Int.toNat i3) default).At))))||(decide (((List.getD f0 (Int.toNat i3) default).Net)=(0:Int))))||(decide ((1048576:Int)<((List.getD f0 (Int.toNat i3) default).Net))))||(decide (((List.getD f0 (Int.toNat i3) default).Net)<(-1048576:Int))))
  (some (.inr (.inr false)))
  (bE ((((decide ((0:Int)<i3)))=true->0<=i3/\i3<((List.length f0:Nat):Int))) <|
  bE ((((decide ((0:Int)<i3)))=true->0<=(IntKind.i64.wrap (i3-(1:Int)))/\(IntKind.i64.wrap (i3-(1:Int)))<((List.length f0:Nat):Int))) <|
  cond ((decide ((0:Int)<i3))&&(decide (((List.getD f0 (Int.toNat i3) default).At)<=((List.getD f0 (Int.toNat (IntKind.i64.wrap (i3-(1:Int)))) default).At))))
  (some (.inr (.inr false)))
  (some (.inl (IntKind.i64.wrap (i3+(1:Int)))))))
  (some (.inr (.inl ())))

def BR (f0:(List aI))(i3:Int):Option Bool :=
  (lp (fun s=>mS f0 s) i3).bind (Sum.elim (fun rr=>xP ) (fun rr=>some rr))

def sU (f0:(List aI)):Option Bool :=
  cond (decide ((1024:Int)<((List.length f0:Nat):Int)))
  (some false)
  (BR f0 (0:Int))

def rM (a2:aG)(b3:aG):Option Int :=
  cond (!decide (((ByteArray.size a2.Text:Nat):Int)=((ByteArray.size b3.Text:Nat):Int)))
  (cond (decide (((ByteArray.size a2.Text:Nat):Int)<((ByteArray.size b3.Text:Nat):Int)))
  (some (-1:Int))
  (some (1:Int)))
  (some (0:Int))

def jP (a2:aG)(b3:aG)(i5:Int):Option ((Int)⊕(Unit⊕Int)) :=
  cond ((decide (i5<((ByteArray.size a2.Text:Nat):Int)))&&(decide (i5<((ByteArray.size b3.Text:Nat):Int))))
  (bE (0<=i5/\i5<((ByteArray.size a2.Text:Nat):Int)) <|
  bE (0<=i5/\i5<((ByteArray.size b3.Text:Nat):Int)) <|
  cond (!decide ((bt a2.Text i5)=(bt b3.Text i5)))
  (bE (0<=i5/\i5<((ByteArray.size a2.Text:Nat):Int)) <|
  bE (0<=i5/\i5<((ByteArray.size b3.Text:Nat):Int)) <|
  cond (decide ((bt a2.Text i5)<(bt b3.Text i5)))
  (some (.inr (.inr (-1:Int))))
  (some (.inr (.inr (1:Int)))))
  (some (.inl (IntKind.i64.wrap (i5+(1:Int))))))
  (some (.inr (.inl ())))

def vE (a2:aG)(b3:aG)(i5:Int):Option Int :=
  (lp (fun s=>jP a2 b3 s) i5).bind (Sum.elim (fun rr=>rM a2 b3) (fun rr=>some rr))

def sO (a0:aG)(b1:aG):Option Int :=
  (sX a0).bind fun x1 =>
  (cW (!(!x1)) (sX b1)).bind fun x4 =>
  cond ((!x1)||(!x4))
  (some (0:Int))
  (cond (!decide (a0.Kind=b1.Kind))
  (cond (decide (a0.Kind=(1:Int)))
  (some (-1:Int))
  (some (1:Int)))
  (cond (!decide (a0.Num=b1.Num))
  (cond (decide (a0.Num<b1.Num))
  (some (-1:Int))
  (some (1:Int)))
  (vE a0 b1 (0:Int))))

def rH (a0:(List aG))(b1:(List aG)):Option Int :=
  cond (decide (((List.length a0:Nat):Int)<((List.length b1:Nat):Int)))
  (some (-1:Int))
  (cond (decide (((List.length b1:Nat):Int)<((List.length a0:Nat):Int)))
  (some (1:Int))
  (some (0:Int)))

def jM (a0:(List aG))(b1:(List aG))(i5:Int):Option ((Int)⊕(Unit⊕Int)) :=
  cond ((decide (i5<((List.length a0:Nat):Int)))&&(decide (i5<((List.length b1:Nat):Int))))
  (bE (0<=i5/\i5<((List.length a0:Nat):Int)) <|
  bE (0<=i5/\i5<((List.length b1:Nat):Int)) <|
  (sO (List.getD a0 (Int.toNat i5) default) (List.getD b1 (Int.toNat i5) default)).bind fun x13 =>
  cond (!decide (x13=(0:Int)))
  (some (.inr (.inr x13)))
  (some (.inl (IntKind.i64.wrap (i5+(1:Int))))))
  (some (.inr (.inl ())))

def uO (a0:(List aG))(b1:(List aG))(i5:Int):Option Int :=
  (lp (fun s=>jM a0 b1 s) i5).bind (Sum.elim (fun rr=>rH a0 b1) (fun rr=>some rr))

def pX (a0:(List aG))(b1:(List aG)):Option Int :=
  (sV a0).bind fun x1 =>
  (cW (!(!x1)) (sV b1)).bind fun x4 =>
  cond ((!x1)||(!x4))
  (some (0:Int))
  (uO a0 b1 (0:Int))

def wG  : Option Bool :=
  some true

def sE (a0:(List aG))(b1:(List aG))(i5:Int):Option ((Int)⊕(Unit⊕Bool)) :=
  cond (decide (i5<((List.length a0:Nat):Int)))
  (bE (0<=i5/\i5<((List.length a0:Nat):Int)) <|
  bE (0<=i5/\i5<((List.length b1:Nat):Int)) <|
  cond (!((decide (((List.getD a0 (Int.toNat i5) default).Kind)=((List.getD b1 (Int.toNat i5) default).Kind)))&&((decide (((List.getD a0 (Int.toNat i5) default).Num)=((List.getD b1 (Int.toNat i5) default).Num)))&&((oY ((List.getD a0 (Int.toNat i5) default).Text) ((List.getD b1 (Int.toNat i5) default).Text))&&true))))
  (some (.inr (.inr false)))
  (some (.inl (IntKind.i64.wrap (i5+(1:Int))))))
  (some (.inr (.inl ())))

def AA (a0:(List aG))(b1:(List aG))(i5:Int):Option Bool :=
  (lp (fun s=>sE a0 b1 s) i5).bind (Sum.elim (fun rr=>wG ) (fun rr=>some rr))

def uL (a0:(List aG))(b1:(List aG)):Option Bool :=
  cond (!decide (((List.length a0:Nat):Int)=((List.length b1:Nat):Int)))
  (some false)
  (AA a0 b1 (0:Int))

def AG (bQ:List (List aG)):Option (List (List aG)) :=
  some bQ

def wB (l0:(List aK))(bQ:List (List aG))(i4:Int):Option ((List (List aG)×Int)⊕((List (List aG)))) :=
  some (.inl (bQ,IntKind.i64.wrap (i4+(1:Int))))

def vU (l0:(List aK))(bQ:List (List aG))(i4:Int)(at5:Int):Option ((List (List aG)×Int)⊕((List (List aG)))) :=
  bE ((((decide (at5<((List.length bQ:Nat):Int))))=true->0<=at5/\at5<((List.length bQ:Nat):Int))) <|
  bE ((((decide (at5<((List.length bQ:Nat):Int))))=true->0<=i4/\i4<((List.length l0:Nat):Int))) <|
  (cW (decide (at5<((List.length bQ:Nat):Int))) (uL (List.getD bQ (Int.toNat at5) default) ((List.getD l0 (Int.toNat i4) default).Row))).bind fun x10 =>
  cond ((decide (at5<((List.length bQ:Nat):Int)))&&x10)
  (wB l0 bQ i4)
  (bE (0<=at5/\at5<=((List.length bQ:Nat):Int)) <|
  bE (List.length (List.take (Int.toNat at5) bQ)*24<=140737488355328/\List.length (List.take (Int.toNat at5) bQ)<=9223372036854775807) <|
  bE (0<=i4/\i4<((List.length l0:Nat):Int)) <|
  bE ((List.length (List.take (Int.toNat at5) bQ)+List.length ([(List.getD l0 (Int.toNat i4) default).Row]))*24<=140737488355328/\List.length (List.take (Int.toNat at5) bQ)+List.length ([(List.getD l0 (Int.toNat i4) default).Row])<=9223372036854775807) <|
  bE (0<=at5/\at5<=((List.length bQ:Nat):Int)) <|
  bE ((List.length ((List.take (Int.toNat at5) bQ)++([(List.getD l0 (Int.toNat i4) default).Row]))+List.length (List.drop (Int.toNat at5) bQ))*24<=140737488355328/\List.length ((List.take (Int.toNat at5) bQ)++([(List.getD l0 (Int.toNat i4) default).Row]))+List.length (List.drop (Int.toNat at5) bQ)<=9223372036854775807) <|
  wB l0 (((List.take (Int.toNat at5) bQ)++([(List.getD l0 (Int.toNat i4) default).Row]))++(List.drop (Int.toNat at5) bQ)) i4)

def mW (l0:(List aK))(i4:Int)(bQ:List (List aG))(at5:Int):Option ((List (List aG)×Int)⊕((List (List aG)×Int))) :=
  bE ((((decide (at5<((List.length bQ:Nat):Int))))=true->0<=at5/\at5<((List.length bQ:Nat):Int))) <|
  bE ((((decide (at5<((List.length bQ:Nat):Int))))=true->0<=i4/\i4<((List.length l0:Nat):Int))) <|
  (cW (decide (at5<((List.length bQ:Nat):Int))) (pX (List.getD bQ (Int.toNat at5) default) ((List.getD l0 (Int.toNat i4) default).Row))).bind fun x27 =>
  cond ((decide (at5<((List.length bQ:Nat):Int)))&&(decide (x27<(0:Int))))
  (some (.inl (bQ,IntKind.i64.wrap (at5+(1:Int)))))
  (some (.inr (bQ,at5)))

def AJ (l0:(List aK))(bQ:List (List aG))(i4:Int)(at5:Int):Option ((List (List aG)×Int)⊕((List (List aG)))) :=
  (lp (fun s=>mW l0 i4 s.1 s.2) (bQ,at5)).bind (fun rr=>vU l0 rr.1 i4 rr.2)

def oJ (l0:(List aK))(bQ:List (List aG))(i4:Int):Option ((List (List aG)×Int)⊕((List (List aG)))) :=
  cond (decide (i4<((List.length l0:Nat):Int)))
  (AJ l0 bQ i4 (0:Int))
  (some (.inr bQ))

def AK (l0:(List aK))(bQ:List (List aG))(i4:Int):Option (List (List aG)) :=
  (lp (fun s=>oJ l0 s.1 s.2) (bQ,i4)).bind (fun rr=>AG rr)

def tL (l0:(List aK)):Option (List (List aG)) :=
  AK l0 ([]:List (List aG)) (0:Int)

def yK (f5:List aI):Option (List aI) :=
  some f5

def tQ (l0:(List aK))(r1:(List aG))(f5:List aI)(i6:Int):Option ((List aI×Int)⊕((List aI))) :=
  some (.inl (f5,IntKind.i64.wrap (i6+(1:Int))))

def nC (l0:(List aK))(r1:(List aG))(f5:List aI)(i6:Int):Option ((List aI×Int)⊕((List aI))) :=
  cond (decide (i6<((List.length l0:Nat):Int)))
  (bE (0<=i6/\i6<((List.length l0:Nat):Int)) <|
  (uL ((List.getD l0 (Int.toNat i6) default).Row) r1).bind fun x8 =>
  cond x8
  (bE (0<=i6/\i6<((List.length l0:Nat):Int)) <|
  bE (0<=i6/\i6<((List.length l0:Nat):Int)) <|
  bE ((List.length f5+List.length ([aI.mk ((List.getD l0 (Int.toNat i6) default).At) ((List.getD l0 (Int.toNat i6) default).Net)]))*16<=140737488355328/\List.length f5+List.length ([aI.mk ((List.getD l0 (Int.toNat i6) default).At) ((List.getD l0 (Int.toNat i6) default).Net)])<=9223372036854775807) <|
  tQ l0 r1 (f5++([aI.mk ((List.getD l0 (Int.toNat i6) default).At) ((List.getD l0 (Int.toNat i6) default).Net)])) i6)
  (tQ l0 r1 f5 i6))
  (some (.inr f5))

def yR (l0:(List aK))(r1:(List aG))(f5:List aI)(i6:Int):Option (List aI) :=
  (lp (fun s=>nC l0 r1 s.1 s.2) (f5,i6)).bind (fun rr=>yK rr)

def sF (l0:(List aK))(r1:(List aG)):Option (List aI) :=
  yR l0 r1 ([]:List aI) (0:Int)

def CB  : Option Bool :=
  some true

def rO (l0:(List aK))(tH:(List (List aG)))(i6:Int):Option ((Int)⊕(Unit⊕Bool)) :=
  cond (decide (i6<((List.length tH:Nat):Int)))
  (bE (0<=i6/\i6<((List.length tH:Nat):Int)) <|
  (sF l0 (List.getD tH (Int.toNat i6) default)).bind fun x7 =>
  cond (decide ((1024:Int)<((List.length x7:Nat):Int)))
  (some (.inr (.inr false)))
  (some (.inl (IntKind.i64.wrap (i6+(1:Int))))))
  (some (.inr (.inl ())))

def BF (l0:(List aK))(tH:(List (List aG)))(i6:Int):Option Bool :=
  (lp (fun s=>rO l0 tH s) i6).bind (Sum.elim (fun rr=>CB ) (fun rr=>some rr))

def xV (l0:(List aK)):Option Bool :=
  (tL l0).bind fun x2 =>
  BF l0 x2 (0:Int)

def uB (l0:(List aK))(i3:Int):Option ((Int)⊕(Unit⊕Bool)) :=
  some (.inl (IntKind.i64.wrap (i3+(1:Int))))

def pQ (l0:(List aK))(i3:Int):Option ((Int)⊕(Unit⊕Bool)) :=
  cond (decide (i3<((List.length l0:Nat):Int)))
  (bE (0<=i3/\i3<((List.length l0:Nat):Int)) <|
  (sV ((List.getD l0 (Int.toNat i3) default).Row)).bind fun x13 =>
  bE ((((!(!x13)))=true->0<=i3/\i3<((List.length l0:Nat):Int))) <|
  bE ((((!(!x13)))=true->0<=i3/\i3<((List.length l0:Nat):Int))) <|
  (cW (!(!x13)) (sU ([aI.mk ((List.getD l0 (Int.toNat i3) default).At) ((List.getD l0 (Int.toNat i3) default).Net)]))).bind fun x17 =>
  cond ((!x13)||(!x17))
  (some (.inr (.inr false)))
  (cond (decide (i3=(0:Int)))
  (uB l0 i3)
  (bE (0<=(IntKind.i64.wrap (i3-(1:Int)))/\(IntKind.i64.wrap (i3-(1:Int)))<((List.length l0:Nat):Int)) <|
  bE (0<=i3/\i3<((List.length l0:Nat):Int)) <|
  (pX ((List.getD l0 (Int.toNat (IntKind.i64.wrap (i3-(1:Int)))) default).Row) ((List.getD l0 (Int.toNat i3) default).Row)).bind fun x24 =>
  bE ((((decide (x24=(0:Int)))&&(!(decide ((0:Int)<x24))))=true->0<=(IntKind.i64.wrap (i3-(1:Int)))/\(IntKind.i64.wrap (i3-(1:Int)))<((List.length l0:Nat):Int))) <|
  bE ((((decide (x24=(0:Int)))&&(!(decide ((0:Int)<x24))))=true->0<=i3/\i3<((List.length l0:Nat):Int))) <|
  cond ((decide ((0:Int)<x24))||((decide (x24=(0:Int)))&&(decide (((List.getD l0 (Int.toNat i3) default).At)<=((List.getD l0 (Int.toNat (IntKind.i64.wrap (i3-(1:Int)))) default).At)))))
  (some (.inr (.inr false)))
  (uB l0 i3))))
  (some (.inr (.inl ())))

def CC (l0:(List aK))(i3:Int):Option Bool :=
  (lp (fun s=>pQ l0 s) i3).bind (Sum.elim (fun rr=>xV l0) (fun rr=>some rr))

def sZ (l0:(List aK)):Option Bool :=
  cond (decide ((4096:Int)<((List.length l0:Nat):Int)))
  (some false)
  (CC l0 (0:Int))

def uF (v5:Int):Option Int :=
  some v5

def qV (f0:(List aI))(t1:Int)(v5:Int)(i6:Int):Option ((Int×Int)⊕(Int)) :=
  some (.inl (v5,IntKind.i64.wrap (i6+(1:Int))))

def kX (f0:(List aI))(t1:Int)(v5:Int)(i6:Int):Option ((Int×Int)⊕(Int)) :=
  cond (decide (i6<((List.length f0:Nat):Int)))
  (bE (0<=i6/\i6<((List.length f0:Nat):Int)) <|
  cond (decide (((List.getD f0 (Int.toNat i6) default).At)<=t1))
  (bE (0<=i6/\i6<((List.length f0:Nat):Int)) <|
  qV f0 t1 (IntKind.i64.wrap (v5+((List.getD f0 (Int.toNat i6) default).Net))) i6)
  (qV f0 t1 v5 i6))
  (some (.inr v5))

def yM (f0:(List aI))(t1:Int)(v5:Int)(i6:Int):Option Int :=
  (lp (fun s=>kX f0 t1 s.1 s.2) (v5,i6)).bind (fun rr=>uF rr)

def oH (f0:(List aI))(t1:Int):Option Int :=
  yM f0 t1 (0:Int) (0:Int)

def tT (m3:Int):Option Int :=
  some m3

def tR (f0:(List aI))(m3:Int)(i4:Int):Option ((Int×Int)⊕(Int)) :=
  some (.inl (m3,IntKind.i64.wrap (i4+(1:Int))))

def nF (f0:(List aI))(m3:Int)(i4:Int):Option ((Int×Int)⊕(Int)) :=
  cond (decide (i4<((List.length f0:Nat):Int)))
  (bE (0<=i4/\i4<((List.length f0:Nat):Int)) <|
  (oH f0 ((List.getD f0 (Int.toNat i4) default).At)).bind fun x10 =>
  cond (decide (x10<m3))
  (bE (0<=i4/\i4<((List.length f0:Nat):Int)) <|
  (oH f0 ((List.getD f0 (Int.toNat i4) default).At)).bind fun x15 =>
  tR f0 x15 i4)
  (tR f0 m3 i4))
  (some (.inr m3))

def yY (f0:(List aI))(m3:Int)(i4:Int):Option Int :=
  (lp (fun s=>nF f0 s.1 s.2) (m3,i4)).bind (fun rr=>tT rr)

def vV (f0:(List aI)):Option Int :=
  (sU f0).bind fun x1 =>
  cond (!x1)
  (some (0:Int))
  ((oH f0 (-1:Int)).bind fun x5 =>
  yY f0 x5 (0:Int))

def yP  : Option Bool :=
  some true

def oV (l0:(List aK))(bQ:(List (List aG)))(i4:Int):Option ((Int)⊕(Unit⊕Bool)) :=
  cond (decide (i4<((List.length bQ:Nat):Int)))
  (bE (0<=i4/\i4<((List.length bQ:Nat):Int)) <|
  (sF l0 (List.getD bQ (Int.toNat i4) default)).bind fun x10 =>
  (vV x10).bind fun x13 =>
  cond (decide (x13<(0:Int)))
  (some (.inr (.inr false)))
  (some (.inl (IntKind.i64.wrap (i4+(1:Int))))))
  (some (.inr (.inl ())))

def yO (l0:(List aK))(bQ:(List (List aG)))(i4:Int):Option Bool :=
  (lp (fun s=>oV l0 bQ s) i4).bind (Sum.elim (fun rr=>yP ) (fun rr=>some rr))

def rY (l0:(List aK)):Option Bool :=
  (sZ l0).bind fun x1 =>
  cond (!x1)
  (some false)
  ((tL l0).bind fun x5 =>
  yO l0 x5 (0:Int))

def pL (t0:Int):Option Bool :=
  some ((decide ((0:Int)<=t0))&&(decide (t0<=(1125899906842624:Int))))

def wA (w0:bW)(l1:(List aK))(t2:Int):Option Int :=
  (wN w0).bind fun x1 =>
  (cW (!(!x1)) (sZ l1)).bind fun x4 =>
  cond ((!x1)||(!x4))
  (some (2:Int))
  ((rY l1).bind fun x8 =>
  cond (!x8)
  (some (20:Int))
  ((pL t2).bind fun x12 =>
  cond (!x12)
  (some (13:Int))
  (some (0:Int))))

def rZ (l0:(List aK))(n1:Int):Option Int :=
  (sZ l0).bind fun x1 =>
  cond (((!x1)||(decide (n1<(1:Int))))||(decide ((64:Int)<n1)))
  (some (2:Int))
  ((rY l0).bind fun x5 =>
  cond (!x5)
  (some (20:Int))
  (some (0:Int)))

def rW (out5:List Int):Option (List Int) :=
  some out5

def sA (t1:Int)(out5:List Int)(put6:Bool):Option (List Int) :=
  cond (!put6)
  (bE ((List.length out5+List.length ([t1]))*8<=140737488355328/\List.length out5+List.length ([t1])<=9223372036854775807) <|
  rW (out5++([t1])))
  (rW out5)

def wE (l0:(List Int))(t1:Int)(out5:List Int)(put6:Bool)(i7:Int):Option ((List Int×Bool×Int)⊕((List Int×Bool)⊕(List Int))) :=
  bE (0<=i7/\i7<((List.length l0:Nat):Int)) <|
  bE ((List.length out5+List.length ([List.getD l0 (Int.toNat i7) default]))*8<=140737488355328/\List.length out5+List.length ([List.getD l0 (Int.toNat i7) default])<=9223372036854775807) <|
  some (.inl (out5++([List.getD l0 (Int.toNat i7) default]),put6,IntKind.i64.wrap (i7+(1:Int))))

def kF (l0:(List Int))(t1:Int)(out5:List Int)(put6:Bool)(i7:Int):Option ((List Int×Bool×Int)⊕((List Int×Bool)⊕(List Int))) :=
  cond (decide (i7<((List.length l0:Nat):Int)))
  (bE (0<=i7/\i7<((List.length l0:Nat):Int)) <|
  cond (decide ((List.getD l0 (Int.toNat i7) default)=t1))
  (some (.inr (.inr l0)))
  (bE (0<=i7/\i7<((List.length l0:Nat):Int)) <|
  cond ((decide (t1<(List.getD l0 (Int.toNat i7) default)))&&(!put6))
  (bE ((List.length out5+List.length ([t1]))*8<=140737488355328/\List.length out5+List.length ([t1])<=9223372036854775807) <|
  wE l0 t1 (out5++([t1])) true i7)
  (wE l0 t1 out5 put6 i7)))
  (some (.inr (.inl (out5,put6))))

def zZ (l0:(List Int))(t1:Int)(out5:List Int)(put6:Bool)(i7:Int):Option (List Int) :=
  (lp (fun s=>kF l0 t1 s.1 s.2.1 s.2.2) (out5,put6,i7)).bind (Sum.elim (fun rr=>sA t1 rr.1 rr.2) (fun rr=>some rr))

def xU (l0:(List Int))(t1:Int):Option (List Int) :=
  zZ l0 t1 ([]:List Int) false (0:Int)

def wX (out5:(List Int)):Option ((List Int)×Int) :=
  some (out5,(0:Int))

def pT (l0:(List aK))(out5:(List Int))(i6:Int):Option (((List Int)×Int)⊕((List Int))) :=
  some (.inl (out5,IntKind.i64.wrap (i6+(1:Int))))

def mO (l0:(List aK))(out5:(List Int))(i6:Int):Option (((List Int)×Int)⊕((List Int))) :=
  cond (decide (i6<((List.length l0:Nat):Int)))
  (bE (0<=i6/\i6<((List.length l0:Nat):Int)) <|
  bE ((((decide ((0:Int)<((List.getD l0 (Int.toNat i6) default).Net))))=true->0<=i6/\i6<((List.length l0:Nat):Int))) <|
  cond ((decide ((0:Int)<((List.getD l0 (Int.toNat i6) default).Net)))&&(decide ((0:Int)<=((List.getD l0 (Int.toNat i6) default).At))))
  (bE (0<=i6/\i6<((List.length l0:Nat):Int)) <|
  (xU out5 ((List.getD l0 (Int.toNat i6) default).At)).bind fun x11 =>
  pT l0 x11 i6)
  (pT l0 out5 i6))
  (some (.inr out5))

def xD (l0:(List aK))(out5:(List Int))(i6:Int):Option ((List Int)×Int) :=
  (lp (fun s=>mO l0 s.1 s.2) (out5,i6)).bind (fun rr=>wX rr)

def uA (l0:(List aK)):Option ((List Int)×Int) :=
  (rZ l0 (1:Int)).bind fun x1 =>
  cond (!decide (x1=(0:Int)))
  (some ([],x1))
  (xD l0 ([]) (0:Int))

def vW (n1:Int)(t2:Int)(dD:List Int):Option (Int×Int) :=
  cond (((decide (t2=(1125899906842624:Int)))||(decide (((List.length dD:Nat):Int)=(0:Int))))||(decide (n1=(1:Int))))
  (some (t2,(0:Int)))
  (cond (decide ((IntKind.i64.wrap (n1-(1:Int)))<=((List.length dD:Nat):Int)))
  (bE (0<=(IntKind.i64.wrap (((List.length dD:Nat):Int)-(IntKind.i64.wrap (n1-(1:Int)))))/\(IntKind.i64.wrap (((List.length dD:Nat):Int)-(IntKind.i64.wrap (n1-(1:Int)))))<((List.length dD:Nat):Int)) <|
  some (List.getD dD (Int.toNat (IntKind.i64.wrap (((List.length dD:Nat):Int)-(IntKind.i64.wrap (n1-(1:Int)))))) default,(0:Int)))
  (bE (0<=(0:Int)/\(0:Int)<((List.length dD:Nat):Int)) <|
  some (List.getD dD (Int.toNat (0:Int)) default,(0:Int))))

def sG (n1:Int)(t2:Int)(all9:(List Int))(dD:List Int)(i12:Int):Option ((List Int×Int)⊕((List Int))) :=
  some (.inl (dD,IntKind.i64.wrap (i12+(1:Int))))

def oF (n1:Int)(t2:Int)(all9:(List Int))(dD:List Int)(i12:Int):Option ((List Int×Int)⊕((List Int))) :=
  cond (decide (i12<((List.length all9:Nat):Int)))
  (bE (0<=i12/\i12<((List.length all9:Nat):Int)) <|
  cond (decide ((List.getD all9 (Int.toNat i12) default)<t2))
  (bE (0<=i12/\i12<((List.length all9:Nat):Int)) <|
  bE ((List.length dD+List.length ([List.getD all9 (Int.toNat i12) default]))*8<=140737488355328/\List.length dD+List.length ([List.getD all9 (Int.toNat i12) default])<=9223372036854775807) <|
  sG n1 t2 all9 (dD++([List.getD all9 (Int.toNat i12) default])) i12)
  (sG n1 t2 all9 dD i12))
  (some (.inr dD))

def AI (n1:Int)(t2:Int)(all9:(List Int))(dD:List Int)(i12:Int):Option (Int×Int) :=
  (lp (fun s=>oF n1 t2 all9 s.1 s.2) (dD,i12)).bind (fun rr=>vW n1 t2 rr)

def xW (l0:(List aK))(n1:Int)(t2:Int):Option (Int×Int) :=
  (rZ l0 n1).bind fun x1 =>
  cond (!decide (x1=(0:Int)))
  (some ((0:Int),x1))
  ((pL t2).bind fun x5 =>
  cond (!x5)
  (some ((0:Int),(13:Int)))
  ((uA l0).bind fun x9 =>
  AI n1 t2 x9.1 ([]:List Int) (0:Int)))

def wP (dF:Int)(t1:Int):Option Int :=
  cond (decide ((1125899906842624:Int)<(IntKind.i64.wrap (t1+dF))))
  (some (1125899906842624:Int))
  (some (IntKind.i64.wrap (t1+dF)))

def rX (hop1:Int)(k8:Int):Option (Int×Int) :=
  cond (decide ((1125899906842624:Int)<=(IntKind.i64.wrap (k8*hop1))))
  (some ((1125899906842624:Int),(0:Int)))
  (some (IntKind.i64.wrap (k8*hop1),(0:Int)))

def mC (dF:Int)(hop1:Int)(t2:Int)(k8:Int):Option ((Int)⊕(Int)) :=
  (wP dF (IntKind.i64.wrap (k8*hop1))).bind fun x12 =>
  cond ((decide (x12<=t2))&&(decide ((IntKind.i64.wrap (k8*hop1))<(1125899906842624:Int))))
  (some (.inl (IntKind.i64.wrap (k8+(1:Int)))))
  (some (.inr k8))

def DQ (dF:Int)(hop1:Int)(t2:Int)(k8:Int):Option (Int×Int) :=
  (lp (fun s=>mC dF hop1 t2 s) k8).bind (fun rr=>rX hop1 rr)

def AB (dF:Int)(hop1:Int)(t2:Int)(k8:Int):Option (Int×Int) :=
  DQ dF hop1 t2 k8

def xM (dF:Int)(hop1:Int)(t2:Int):Option (Int×Int) :=
  (qR dF hop1).bind fun x1 =>
  cond (!x1)
  (some ((0:Int),(2:Int)))
  ((pL t2).bind fun x5 =>
  cond (!x5)
  (some ((0:Int),(13:Int)))
  (cond (decide (t2=(1125899906842624:Int)))
  (some ((1125899906842624:Int),(0:Int)))
  (bE (hop1≠0) <|
  cond (decide ((IntKind.i64.wrap (Int.tdiv (IntKind.i64.wrap (t2-dF)) hop1))<(0:Int)))
  (AB dF hop1 t2 (0:Int))
  (AB dF hop1 t2 (IntKind.i64.wrap (Int.tdiv (IntKind.i64.wrap (t2-dF)) hop1))))))

def tU (t2:Int):Option (Int×Int) :=
  some (t2,(0:Int))

def vJ (w0:bW)(l1:(List aK))(t2:Int):Option (Int×Int) :=
  (wA w0 l1 t2).bind fun x1 =>
  cond (!decide (x1=(0:Int)))
  (some ((0:Int),x1))
  (cond (decide (w0.Kind=(3:Int)))
  ((xW l1 w0.Size t2).bind fun x6 =>
  some (x6.1,x6.2))
  (cond (decide (w0.Kind=(2:Int)))
  ((xM w0.Size w0.Hop t2).bind fun x10 =>
  cond (decide (x10.1<t2))
  (some (x10.1,(0:Int)))
  (tU t2))
  (tU t2)))

def qL (w0:bW)(l1:(List aK))(t2:Int):Option Bool :=
  (zT l1).bind fun x1 =>
  cond (!x1)
  ((tI ).bind fun x5 =>
  some x5)
  ((qU w0 l1 t2).bind fun x8 =>
  (vJ w0 l1 t2).bind fun x11 =>
  (tI ).bind fun x14 =>
  (cW ((x14&&(decide (x8.1=x11.1)))&&(decide (x8.2=x11.2))) (oW w0)).bind fun x16 =>
  (cW ((x14&&(decide (x8.1=x11.1)))&&(decide (x8.2=x11.2))) (wN w0)).bind fun x18 =>
  some ((((x14&&(decide (x8.1=x11.1)))&&(decide (x8.2=x11.2)))&&((decide (x16=(0:Int)))==x18))&&((!decide (x8.2=(0:Int)))||(decide (x8.1<=t2)))))

end Go.Abs
namespace Go.Abs
open Go Go.RowKit
def AF (x:bW):Prop:=wT x.Kind/\wT x.Size/\wT x.Hop/\True

def FT (x:aG):Prop:=wT x.Kind/\wT x.Num/\(fun s=>s.size<=maxLen) x.Text/\True

def zL (x:aK):Prop:=(fun l=>(∀ a∈l,FT a)/\l.length*32<=140737488351232) x.Row/\wT x.At/\wT x.Net/\True

end Go.Abs
namespace Go.Abs
open Go Go.RowKit Go.Proofs
def tt:TT:=⟨aCd Tryz.prog,YG Tryz.prog⟩

theorem aB:iE Tryz.prog tt:=iE.of Tryz.prog

theorem aAP (l0:(List aK))(r:Bool)(h0:zT l0=some r):cU Tryz.prog 6 [(eL aH l0)] (aC r):=by
 intro H0;refine cQ Tryz.func6 ?_;have hO:=aJ.start H0;unfold zT at h0;refine aV aB 1 [] [] ?_;refine dN (fun T H=>Has T [(0,(eL aH l0))]/\aJ ⟨H0,[],[]⟩ H []/\BY l0=some r) ?_ ?_
 ·clear hO h0;rintro T H ⟨hT,hO,h0⟩;refine bC hT ?_;clear hT;unfold BY at h0;refine bM aB 4 [(2,(aC (decide ((lN l0)<=(60:Int)))))] ?_;refine bG ?_;obtain rfl:=oI h0;exact aF (Q_r hO)
 refine aV aB 1 [] [(3,(eI (0:Int)))] ?_;refine bT 0 ?_;refine dZ [(0,(eL aH l0)),(3,(eI (0:Int)))] ?_;refine dR (fun T H=>∃ i3:Int,Has T [(0,(eL aH l0)),(3,(eI i3))]/\aJ ⟨H0,[],[]⟩ H []/\BP l0 i3=some r) ?_ ⟨(0:Int),aZ,hO,h0⟩;clear hO h0;rintro T H ⟨i3,hT,hO,h0⟩;refine bC hT ?_;clear hT;unfold BP at h0;obtain⟨rr0,hl0,h0⟩:=aX h0;refine fL (fun (s:Int) T H=>Has T [(0,(eL aH l0)),(3,(eI s))]/\aJ ⟨H0,[],[]⟩ H []) hl0 ⟨aZ,hO⟩ ?_;clear hO;rintro k0 s out1 T H ⟨hT,hO⟩ h1 ho0;obtain⟨i3,rfl⟩:∃ x,x=s:=⟨_,rfl⟩;replace h1:uE l0 i3=some out1:=h1;refine bC hT ?_;clear hT;unfold uE at h1;refine aM ?_;refine aV aB 8 [] [(11,(aC ((decide (i3<(lN l0)))&&(decide (i3<=(60:Int))))))] ?_;refine bH h1 (fun h1=>?_) (fun h1=>?_)
 ·refine bI ?_;refine bD [(0,(eL aH l0)),(3,(eI i3))] ?_;refine aM ?_;refine bT 1 ?_;refine aM ?_;refine aS aB 6 ?_;obtain⟨c2,h1⟩:=bA h1;refine mU [0<=i3/\i3<(lN l0)] ⟨c2,trivial⟩ ?_;refine bN [] [(19,(aC (decide ((10:Int)<((gD l0 i3).Net)))))] ?_;refine bH h1 (fun h1=>?_) (fun h1=>?_)
  ·refine bM aB 1 [(2,(aC false))] ?_;refine bG ?_;obtain rfl:=oI h1;obtain rfl:_=rr0:=ho0;replace h0:some false=some r:=h0;obtain rfl:=oI h0;exact aF (bF (aQ (aQ (bF (aQ (Q_r hO))))))
  refine bI ?_;refine dP [(0,(eL aH l0)),(3,(eI i3))] ?_;refine aF (aU (aE (?_)));refine aS aB 3 ?_;refine bB ?_;exact aF (aE (⟨rfl,_,(oI h1).symm,aZ,hO⟩))
 refine eF 0 ?_;obtain rfl:=oI h1;obtain rfl:_=rr0:=ho0;replace h0:BY l0=some r:=h0;exact aF (aW (aW (bP (aE (⟨rfl,aZ,hO,h0⟩)))))

theorem FH (n0:Int)(r:Bool)(h0:rK n0=some r):cU Tryz.prog 24 [(eI n0)] (aC r):=by
 intro H0;refine cQ Tryz.func24 ?_;have hO:=aJ.start H0;unfold rK at h0;refine aV aB 1 [] [] ?_;refine bM aB 7 [(2,(aC ((decide ((1:Int)<=n0))&&(decide (n0<=(1099511627776:Int))))))] ?_;refine bG ?_;obtain rfl:=oI h0;exact aF (Q_r hO)

theorem CG (w0:bW)(r:Int)(h0:oW w0=some r):cU Tryz.prog 10 [(cA w0)] (eI r):=by
 intro H0;refine cQ Tryz.func10 ?_;have hO:=aJ.start H0;unfold oW at h0;refine aM ?_;refine aS aB 2 ?_;refine kI 3 (cA w0) ?_;refine bB ?_;refine bD [(1,(.rp (cA w0)))] ?_;refine aV aB 1 [] [(3,(.fn (.func 24) [] []))] ?_;refine aV aB 1 [] [(4,(aC false))] ?_;refine dN (fun T H=>∃ ok4:Bool,Has T [(4,(aC ok4))]/\aJ ⟨H0,[],[]⟩ H []/\lM ok4=some r) ?_ ?_
 ·clear hO h0;rintro T H ⟨ok4,hT,hO,h0⟩;refine bC hT ?_;clear hT;unfold lM at h0;refine aM ?_;refine bM aB 2 [(45,(aC (!ok4)))] ?_;refine bH h0 (fun h0=>?_) (fun h0=>?_)
  ·refine bM aB 1 [(2,(eI (2:Int)))] ?_;refine bG ?_;obtain rfl:=oI h0;exact aF (aQ (Q_r hO))
  refine bI ?_;refine bD [] ?_;refine bM aB 1 [(2,(eI (0:Int)))] ?_;refine bG ?_;obtain rfl:=oI h0;exact aF (Q_r hO)
 refine aV aB 2 [] [(6,(eI w0.Kind))] ?_;refine bT 0 ?_;refine aV aB 2 [] [(7,(aC (decide (w0.Kind=(1:Int)))))] ?_;refine bH h0 (fun h0=>?_) (fun h0=>?_)
 ·refine aS aB 9 ?_;refine bB ?_;exact aF (aU (aE (⟨rfl,_,aZ,hO,h0⟩)))
 refine bM aB 2 [(1,(.rp (cA w0))),(3,(.fn (.func 24) [] [])),(4,(aC false)),(6,(eI w0.Kind)),(17,(aC (decide (w0.Kind=(2:Int)))))] ?_;refine bH h0 (fun h0=>?_) (fun h0=>?_)
 ·refine aS aB 11 ?_;refine bJ 3 ?_;obtain⟨x4,hx5,h0⟩:=aX h0;refine cN (FH w0.Size _ hx5) hO ?_;intro H hO;refine bJ 8 ?_;obtain⟨x7,hx8,h0⟩:=aX h0;refine mI [(23,true)] 24 [(eI w0.Hop)] (aC x7) x4 (by kernel_rfl) (by kernel_rfl) (by kernel_rfl) (fun hb9=>(FH w0.Hop _ (gQ hx8 hb9))) hO ?_;intro H hO;refine bB ?_;exact aF (aU (aE (⟨rfl,_,aZ,hO,h0⟩)))
 refine aV aB 2 [3,6,17] [(29,(aC (decide (w0.Kind=(3:Int)))))] ?_;refine bH h0 (fun h0=>?_) (fun h0=>?_)
 ·refine aS aB 14 ?_;refine bB ?_;exact aF (aU (aE (⟨rfl,_,aZ,hO,h0⟩)))
 refine bI ?_;exact aF (aU (aE (⟨rfl,_,aZ,hO,h0⟩)))

theorem NW (l0:(List aK))(r:(List aK))(h0:wM l0=some r):cU Tryz.prog 85 [(eL aH l0)] (.fn (.func 103) [] [(.rp (eL aH r))]):=by
 intro H0;refine cQ Tryz.func85 ?_;have hO:=aJ.start H0;unfold wM at h0;refine aM ?_;refine aS aB 2 ?_;refine kI 1 (eL aH l0) ?_;refine bB ?_;refine bD [(1,(.rp (eL aH l0)))] ?_;refine bM aB 2 [(2,(.fn (.func 103) [] [(.rp (eL aH l0))]))] ?_;refine bG ?_;obtain rfl:=oI h0;exact aF (kT (x:=(.fn (.func 103) [] [(.rp (eL aH l0))])) (by kernel_rfl) (aR.refl _) ⟨rfl,hO.out⟩)

theorem qZ (s10:(List aG))(s21:(List aG))(r:Bool)(h0:fY s10 s21=some r):cU Tryz.prog 93 [(eL aD s10),(eL aD s21)] (aC r):=by
 intro H0;refine cQ Tryz.func93 ?_;have hO:=aJ.start H0;unfold fY at h0;refine aV aB 1 [] [] ?_;refine aM ?_;refine aV aB 5 [] [(10,(aC (!decide ((lN s10)=(lN s21)))))] ?_;refine bH h0 (fun h0=>?_) (fun h0=>?_)
 ·refine bM aB 1 [(4,(aC false))] ?_;refine bG ?_;obtain rfl:=oI h0;exact aF (aQ (Q_r hO))
 refine bI ?_;refine bD [(0,(eL aD s10)),(1,(eL aD s21))] ?_;refine dN (fun T H=>Has T []/\aJ ⟨H0,[],[]⟩ H []/\iM  = some r) ?_ ?_
 ·clear hO h0;rintro T H ⟨hT,hO,h0⟩;refine bC hT ?_;clear hT;unfold iM at h0;refine bM aB 1 [(4,(aC true))] ?_;refine bG ?_;obtain rfl:=oI h0;exact aF (Q_r hO)
 refine aV aB 3 [] [(12,(eI (lN s10))),(13,(eI (0:Int)))] ?_;refine bT 0 ?_;refine dZ [(0,(eL aD s10)),(1,(eL aD s21)),(12,(eI (lN s10))),(13,(eI (0:Int)))] ?_;refine dR (fun T H=>∃ t12:Int,∃ t13:Int,Has T [(0,(eL aD s10)),(1,(eL aD s21)),(12,(eI t12)),(13,(eI t13))]/\aJ ⟨H0,[],[]⟩ H []/\kM s10 s21 t12 t13=some r) ?_ ⟨(lN s10),(0:Int),aZ,hO,h0⟩;clear hO h0;rintro T H ⟨t12,t13,hT,hO,h0⟩;refine bC hT ?_;clear hT;unfold kM at h0;obtain⟨rr0,hl0,h0⟩:=aX h0;refine fL (fun (s:Int) T H=>Has T [(0,(eL aD s10)),(1,(eL aD s21)),(12,(eI t12)),(13,(eI s))]/\aJ ⟨H0,[],[]⟩ H []) hl0 ⟨aZ,hO⟩ ?_;clear hO;rintro k0 s out1 T H ⟨hT,hO⟩ h1 ho0;obtain⟨t13,rfl⟩:∃ x,x=s:=⟨_,rfl⟩;replace h1:fS s10 s21 t12 t13=some out1:=h1;refine bC hT ?_;clear hT;unfold fS at h1;refine aV aB 1 [] [(14,(aC (decide (t13<t12))))] ?_;refine aM ?_;refine bH h1 (fun h1=>?_) (fun h1=>?_)
 ·refine bI ?_;refine bD [(0,(eL aD s10)),(1,(eL aD s21)),(12,(eI t12)),(13,(eI t13))] ?_;refine aM ?_;refine bT 1 ?_;refine aV aB 2 [] [(5,(eI t13))] ?_;refine aM ?_;refine eU (eT [19,23]) aB 9 ?_;obtain⟨c3,h1⟩:=bA h1;obtain⟨c4,h1⟩:=bA h1;refine DX (Ds:=[0<=t13/\t13<(lN s10),0<=t13/\t13<(lN s21)]) (by kernel_rfl) ⟨c3,c4,trivial⟩ ?_;refine bN [5] [(24,(aC (!((decide (((gD s10 t13).Kind)=((gD s21 t13).Kind)))&&((decide (((gD s10 t13).Num)=((gD s21 t13).Num)))&&((oY ((gD s10 t13).Text) ((gD s21 t13).Text))&&true))))))] ?_;refine bH h1 (fun h1=>?_) (fun h1=>?_)
  ·refine bM aB 1 [(4,(aC false))] ?_;refine bG ?_;obtain rfl:=oI h1;obtain rfl:_=rr0:=ho0;replace h0:some false=some r:=h0;obtain rfl:=oI h0;exact aF (bF (aQ (aQ (bF (aQ (Q_r hO))))))
  refine bI ?_;refine dP [(0,(eL aD s10)),(1,(eL aD s21)),(12,(eI t12)),(13,(eI t13))] ?_;refine aF (aU (aE (?_)));refine aS aB 2 ?_;refine bB ?_;exact aF (aE (⟨rfl,_,(oI h1).symm,aZ,hO⟩))
 refine eF 0 ?_;obtain rfl:=oI h1;obtain rfl:_=rr0:=ho0;replace h0:iM  = some r:=h0;exact aF (aW (aW (bP (aE (⟨rfl,aZ,hO,h0⟩)))))

theorem SJ (a0:(List aG))(b1:(List aG))(r:Bool)(h0:sK a0 b1=some r):cU Tryz.prog 88 [(eL aD a0),(eL aD b1)] (aC r):=by
 intro H0;refine cQ Tryz.func88 ?_;have hO:=aJ.start H0;unfold sK at h0;refine aV aB 1 [] [] ?_;refine aM ?_;refine aS aB 4 ?_;refine bJ 2 ?_;obtain⟨x1,hx2,h0⟩:=aX h0;refine cN (qZ a0 b1 _ hx2) hO ?_;intro H hO;refine bB ?_;refine bD [(4,(aC x1))] ?_;refine bG ?_;obtain rfl:=oI h0;exact aF (Q_r hO)

theorem QE (r0:(List aG))(r:(List aG))(h0:yU r0=some r):cU Tryz.prog 89 [(eL aD r0)] (eL aD r):=by
 intro H0;refine cQ Tryz.func89 ?_;have hO:=aJ.start H0;unfold yU at h0;refine aV aB 1 [] [] ?_;refine aM ?_;refine aS aB 6 ?_;refine bJ 2 ?_;obtain⟨c1,h0⟩:=bA h0;refine MR 3 32 (lN r0) (by kernel_rfl) (by kernel_rfl) c1 hO ?_;intro lo2 H hO;refine bJ 4 ?_;obtain⟨c4,h0⟩:=bA h0;refine AS aD ([]:List aG) r0 0 lo2 3 32 (eL aD r0) (fun lo3=>[(lo3,3,List.map aD (([]:List aG)++r0))]) hO (aBm (fun _=>by kernel_rfl)) c4 ?_;intro lo3 H hO;refine bB ?_;refine bD [(2,(.msl 3 lo3 0 (List.length (([]:List aG)++r0))))] ?_;refine bG ?_;refine dP [(2,(.msl 3 lo3 0 (List.length (([]:List aG)++r0))))] ?_;refine qQ (en:=aD) (([]:List aG)++r0) 0 0 2 3 lo3 (List.length (([]:List aG)++r0)) hO (by kernel_rfl) (by kernel_rfl) (by kernel_rfl) (L':=[]) (by kernel_rfl) ?_;intro H5 hO;obtain rfl:=oI h0;exact aF (Q_r hO)

theorem HG {σ:Type}(I:σ->Gs->Prop)(yield0_b:Nat)(cL:σ->(List aG)->(List aI)->Option (σ×Bool))(yield0_h:∀ st a0 a1 st2 r,cL st a0 a1=some (st2,r)->CW Tryz.prog (yv yield0_b) I st [(eL aD a0),(eL aO a1)] st2 (aC r))(t1:(List aK))(sg0:σ)(r:σ)(h0:pR cL t1 sg0=some r):yQ Tryz.prog 103 I sg0 [(yv yield0_b),(.rp (eL aH t1))] r (.tup []):=by
 intro H0 G0 hI hg;refine cQ Tryz.func103 ?_;obtain⟨G,hO,hI⟩:∃ G,aJ ⟨H0,List.map (fun p:Nat×dQ=>p.1) G0,G⟩ H0 []/\I sg0 G:=⟨G0,aJ.FZ hg,hI⟩;clear hg;unfold pR at h0;refine aV aB 1 [] [(3,(eI (0:Int)))] ?_;refine bT 0 ?_;refine dZ [(0,(yv yield0_b)),(1,(.rp (eL aH t1))),(3,(eI (0:Int)))] ?_;refine dR (fun T H=>∃ sg:σ,∃ i3:Int,∃ G:Gs,Has T [(0,(yv yield0_b)),(1,(.rp (eL aH t1))),(3,(eI i3))]/\aJ ⟨H0,List.map (fun p:Nat×dQ=>p.1) G0,G⟩ H []/\I sg G/\uQ cL sg t1 i3=some r) ?_ ⟨sg0,(0:Int),G,aZ,hO,hI,h0⟩;clear hO hI h0;rintro T H ⟨sg,i3,G,hT,hO,hI,h0⟩;refine bC hT ?_;clear hT;unfold uQ at h0;obtain⟨rr0,hl0,h0⟩:=aX h0;refine fL (fun (s:σ×Int) T H=>∃ G:Gs,Has T [(0,(yv yield0_b)),(1,(.rp (eL aH t1))),(3,(eI s.2))]/\aJ ⟨H0,List.map (fun p:Nat×dQ=>p.1) G0,G⟩ H []/\I s.1 G) hl0 ⟨G,aZ,hO,hI⟩ ?_;clear hO hI;rintro k0 s out1 T H ⟨G,hT,hO,hI⟩ h1 ho0;obtain⟨sg,i3⟩:=s;replace h1:jN cL t1 sg i3=some out1:=h1
 try dsimp only at hT
 refine bC hT ?_;clear hT;unfold jN at h1;refine aM ?_;refine aV aB 4 [] [(9,(aC (decide (i3<(lN t1)))))] ?_;refine bH h1 (fun h1=>?_) (fun h1=>?_)
 ·refine bI ?_;refine bD [(0,(yv yield0_b)),(1,(.rp (eL aH t1))),(3,(eI i3))] ?_;refine bT 1 ?_;refine aM ?_;refine aS aB 6 ?_;obtain⟨c2,h1⟩:=bA h1;refine mU [0<=i3/\i3<(lN t1)] ⟨c2,trivial⟩ ?_;refine bN [] [(4,(eL aD ((gD t1 i3).Row)))] ?_;refine aM ?_;refine aS aB 2 ?_;refine nP [] 2 ?_;refine bB ?_;refine bN [] [(5,(.sl true 0 (fun _ => .bad)))] ?_;refine dN (fun T H=>∃ sg:σ,∃ i3:Int,∃ r4:(List aG),∃ f5:List aI,∃ lo3:Nat,∃ G:Gs,Has T [(0,(yv yield0_b)),(1,(.rp (eL aH t1))),(3,(eI i3)),(4,(eL aD r4)),(5,(.msl 2 lo3 0 (List.length f5)))]/\aJ ⟨H0,List.map (fun p:Nat×dQ=>p.1) G0,G⟩ H [(lo3,2,List.map aO f5)]/\I sg G/\rJ cL sg t1 i3 r4 f5=some out1) ?_ ?_
  ·clear hO hI h1;rintro T H ⟨sg,i3,r4,f5,lo3,G,hT,hO,hI,h1⟩;refine bC hT ?_;clear hT;unfold rJ at h1;refine aM ?_;refine aS aB 6 ?_;refine UG (e:=aO) f5 0 5 2 lo3 (List.length f5) [] (by kernel_rfl) hO (by kernel_rfl) (by kernel_rfl) (by kernel_rfl) (by kernel_rfl) ?_;intro H hO;refine bJ 2 ?_;obtain⟨x7,hx8,h1⟩:=aX h1;refine cN (QE r4 _ hx8) hO ?_;intro H hO;refine bJ 4 ?_;obtain⟨x10,hx11,h1⟩:=aX h1;refine NA (I:=I) (yv yield0_b) [(eL aD x7),(eL aO f5)] (aC x10.2) (by kernel_rfl) (by kernel_rfl) (yield0_h _ x7 f5 x10.1 x10.2 hx11) hO hI ?_;intro G H hO hI;refine bB ?_;refine bN [4,5] [(50,(aC (!x10.2)))] ?_;refine bH h1 (fun h1=>?_) (fun h1=>?_)
   ·refine bG ?_;obtain rfl:=oI h1;obtain rfl:_=rr0:=ho0;replace h0:some x10.1=some r:=h0;obtain rfl:=oI h0;exact aF (bF (aQ (bF (kT (x:=(.tup [])) (by kernel_rfl) (aR.refl _) ⟨rfl,G,hI,hO.AL⟩))))
   refine bI ?_;exact aF (aU (aE (⟨rfl,_,(oI h1).symm,_,aZ,hO,hI⟩)))
  refine bT 2 ?_;refine dZ [(0,(yv yield0_b)),(1,(.rp (eL aH t1))),(3,(eI i3)),(4,(eL aD ((gD t1 i3).Row))),(5,(.sl true 0 (fun _ => .bad)))] ?_;refine DF (el:=(fun _ => .bad)) 4 5 2 hO (by kernel_rfl) ?_;intro lo24 H25 hO;refine dR (fun T H=>∃ sg:σ,∃ i3:Int,∃ r4:(List aG),∃ f5:List aI,∃ lo14:Nat,∃ G:Gs,Has T [(0,(yv yield0_b)),(1,(.rp (eL aH t1))),(3,(eI i3)),(4,(eL aD r4)),(5,(.msl 2 lo14 0 (List.length f5)))]/\aJ ⟨H0,List.map (fun p:Nat×dQ=>p.1) G0,G⟩ H [(lo14,2,List.map aO f5)]/\I sg G/\uZ cL sg t1 i3 r4 f5=some out1) ?_ ⟨sg,i3,(gD t1 i3).Row,([]:List aI),lo24,G,aZ,hO,hI,h1⟩;clear hO hI h1;rintro T H ⟨sg,i3,r4,f5,lo14,G,hT,hO,hI,h1⟩;refine bC hT ?_;clear hT;unfold uZ at h1;obtain⟨rr1,hl1,h1⟩:=aX h1;refine fL (fun (s:σ×Int×List aI) T H=>∃ lo14:Nat,∃ G:Gs,Has T [(0,(yv yield0_b)),(1,(.rp (eL aH t1))),(3,(eI s.2.1)),(4,(eL aD r4)),(5,(.msl 2 lo14 0 (List.length s.2.2)))]/\aJ ⟨H0,List.map (fun p:Nat×dQ=>p.1) G0,G⟩ H [(lo14,2,List.map aO s.2.2)]/\I s.1 G) hl1 ⟨lo14,G,aZ,hO,hI⟩ ?_;clear hO hI;rintro k1 s out2 T H ⟨lo14,G,hT,hO,hI⟩ h2 ho1;obtain⟨sg,i3,f5⟩:=s;replace h2:kP cL t1 r4 sg i3 f5=some out2:=h2
  try dsimp only at hT
  refine bC hT ?_;clear hT;unfold kP at h2;refine aM ?_;refine aM ?_;refine aS aB 13 ?_;obtain⟨c15,h2⟩:=bA h2;refine mL 11 [(((decide (i3<(lN t1))))=true->0<=i3/\i3<(lN t1))] ⟨c15,trivial⟩ ?_;obtain⟨x16,hx17,h2⟩:=aX h2;refine mI [(20,true)] 88 [(eL aD ((gD t1 i3).Row)),(eL aD r4)] (aC x16) (decide (i3<(lN t1))) (by kernel_rfl) (by kernel_rfl) (by kernel_rfl) (fun hb18=>(SJ ((gD t1 i3).Row) r4 _ (gQ hx17 hb18))) hO ?_;intro H hO;refine bB ?_;refine bN [] [(28,(aC ((decide (i3<(lN t1)))&&x16)))] ?_;refine bH h2 (fun h2=>?_) (fun h2=>?_)
  ·refine bI ?_;refine bD [(0,(yv yield0_b)),(1,(.rp (eL aH t1))),(3,(eI i3)),(4,(eL aD r4)),(5,(.msl 2 lo14 0 (List.length f5)))] ?_;refine aM ?_;refine bT 3 ?_;refine eU (eT [32,36,37,41,43]) aB 15 ?_;obtain⟨c20,h2⟩:=bA h2;obtain⟨c21,h2⟩:=bA h2;refine cJ 12 [0<=i3/\i3<(lN t1),0<=i3/\i3<(lN t1)] ⟨c20,c21,trivial⟩ ?_;refine XI (xs:=[(aO (aI.mk ((gD t1 i3).At) ((gD t1 i3).Net)))]) (k:=2) (by kernel_rfl) (by kernel_rfl) ?_;obtain⟨c23,h2⟩:=bA h2;refine MW (e:=aO) f5 ([aI.mk ((gD t1 i3).At) ((gD t1 i3).Net)]) 0 lo14 2 16 (eD [(aO (aI.mk ((gD t1 i3).At) ((gD t1 i3).Net)))]) (fun lo22=>[(lo22,2,List.map aO (f5++([aI.mk ((gD t1 i3).At) ((gD t1 i3).Net)])))]) (by kernel_rfl) (by kernel_rfl) hO (by kernel_rfl) (by kernel_rfl) c23 (fun _=>by kernel_rfl) ?_;intro lo22 H hO;refine gP ?_;refine dP [(0,(yv yield0_b)),(1,(.rp (eL aH t1))),(3,(eI i3)),(4,(eL aD r4)),(5,(.msl 2 lo22 0 (List.length (f5++([aI.mk ((gD t1 i3).At) ((gD t1 i3).Net)])))))] ?_;refine aF (aU (aE (?_)));refine aS aB 3 ?_;refine bB ?_;exact aF (aE (⟨rfl,_,(oI h2).symm,_,_,aZ,hO,hI⟩))
  refine eF 2 ?_;obtain rfl:=oI h2;obtain rfl:_=rr1:=ho1;replace h1:rJ cL sg t1 i3 r4 f5=some out1:=h1;exact aF (aW (aW (bP (aE (⟨rfl,_,_,_,_,_,_,aZ,hO,hI,h1⟩)))))
 refine eF 0 ?_;obtain rfl:=oI h1;obtain rfl:_=rr0:=ho0;replace h0:some sg=some r:=h0;obtain rfl:=oI h0;exact aF (aW (aW (bP (zY (x:=(.tup [])) (by kernel_rfl) (aR.refl _) ⟨rfl,G,hI,hO.AL⟩))))

theorem xZ (s0:(List aG))(f1_f:Nat)(f1_a f1_c:List V)(f1:aG->Option Bool)(f1_h:∀ a0 r,f1 a0=some r->cU Tryz.prog f1_f (f1_a++[(aD a0)]++f1_c) (aC r))(r:Int)(h0:jJ s0 f1=some r):cU Tryz.prog 119 [(eL aD s0),(.fn (.func f1_f) f1_a f1_c)] (eI r):=by
 intro H0;refine cQ Tryz.func119 ?_;have hO:=aJ.start H0;unfold jJ at h0;refine aV aB 1 [] [] ?_;refine dN (fun T H=>Has T []/\aJ ⟨H0,[],[]⟩ H []/\gH f1  = some r) ?_ ?_
 ·clear hO h0;rintro T H ⟨hT,hO,h0⟩;refine bC hT ?_;clear hT;unfold gH at h0;refine bM aB 1 [(4,(eI (-1:Int)))] ?_;refine bG ?_;obtain rfl:=oI h0;exact aF (Q_r hO)
 refine aV aB 3 [] [(7,(eI (lN s0))),(8,(eI (0:Int)))] ?_;refine bT 0 ?_;refine dZ [(0,(eL aD s0)),(1,(.fn (.func f1_f) f1_a f1_c)),(7,(eI (lN s0))),(8,(eI (0:Int)))] ?_;refine dR (fun T H=>∃ t7:Int,∃ t8:Int,Has T [(0,(eL aD s0)),(1,(.fn (.func f1_f) f1_a f1_c)),(7,(eI t7)),(8,(eI t8))]/\aJ ⟨H0,[],[]⟩ H []/\jB f1 s0 t7 t8=some r) ?_ ⟨(lN s0),(0:Int),aZ,hO,h0⟩;clear hO h0;rintro T H ⟨t7,t8,hT,hO,h0⟩;refine bC hT ?_;clear hT;unfold jB at h0;obtain⟨rr0,hl0,h0⟩:=aX h0;refine fL (fun (s:Int) T H=>Has T [(0,(eL aD s0)),(1,(.fn (.func f1_f) f1_a f1_c)),(7,(eI t7)),(8,(eI s))]/\aJ ⟨H0,[],[]⟩ H []) hl0 ⟨aZ,hO⟩ ?_;clear hO;rintro k0 s out1 T H ⟨hT,hO⟩ h1 ho0;obtain⟨t8,rfl⟩:∃ x,x=s:=⟨_,rfl⟩;replace h1:jC f1 s0 t7 t8=some out1:=h1;refine bC hT ?_;clear hT;unfold jC at h1;refine aV aB 1 [] [(9,(aC (decide (t8<t7))))] ?_;refine aM ?_;refine bH h1 (fun h1=>?_) (fun h1=>?_)
 ·refine bI ?_;refine bD [(0,(eL aD s0)),(1,(.fn (.func f1_f) f1_a f1_c)),(7,(eI t7)),(8,(eI t8))] ?_;refine aM ?_;refine bT 1 ?_;refine aV aB 2 [] [(5,(eI t8))] ?_;refine aM ?_;refine aS aB 6 ?_;obtain⟨c2,h1⟩:=bA h1;refine mL 5 [0<=t8/\t8<(lN s0)] ⟨c2,trivial⟩ ?_;obtain⟨x3,hx4,h1⟩:=aX h1;refine cN (f1_h (gD s0 t8) _ hx4) hO ?_;intro H hO;refine dU ?_;refine bN [] [(16,(aC x3))] ?_;refine bH h1 (fun h1=>?_) (fun h1=>?_)
  ·refine bM aB 2 [(4,(eI t8))] ?_;refine bG ?_;obtain rfl:=oI h1;obtain rfl:_=rr0:=ho0;replace h0:some t8=some r:=h0;obtain rfl:=oI h0;exact aF (bF (aQ (aQ (bF (aQ (Q_r hO))))))
  refine bI ?_;refine dP [(0,(eL aD s0)),(1,(.fn (.func f1_f) f1_a f1_c)),(7,(eI t7)),(8,(eI t8))] ?_;refine aF (aU (aE (?_)));refine aS aB 2 ?_;refine bB ?_;exact aF (aE (⟨rfl,_,(oI h1).symm,aZ,hO⟩))
 refine eF 0 ?_;obtain rfl:=oI h1;obtain rfl:_=rr0:=ho0;replace h0:gH f1  = some r:=h0;exact aF (aW (aW (bP (aE (⟨rfl,aZ,hO,h0⟩)))))

theorem wF (s0:(List aG))(f1_f:Nat)(f1_a f1_c:List V)(f1:aG->Option Bool)(f1_h:∀ a0 r,f1 a0=some r->cU Tryz.prog f1_f (f1_a++[(aD a0)]++f1_c) (aC r))(r:Bool)(h0:fP s0 f1=some r):cU Tryz.prog 116 [(eL aD s0),(.fn (.func f1_f) f1_a f1_c)] (aC r):=by
 intro H0;refine cQ Tryz.func116 ?_;have hO:=aJ.start H0;unfold fP at h0;refine aV aB 1 [] [] ?_;refine aM ?_;refine aS aB 5 ?_;refine bJ 2 ?_;obtain⟨x1,hx2,h0⟩:=aX h0;refine cN (xZ s0 f1_f f1_a f1_c f1 f1_h _ hx2) hO ?_;intro H hO;refine bB ?_;refine bD [(4,(aC (decide ((0:Int)<=x1))))] ?_;refine bG ?_;obtain rfl:=oI h0;exact aF (Q_r hO)

theorem BO (v0:aG)(r:(bS×Bool))(h0:mY v0=some r):cU Tryz.prog 129 [(aD v0)] (.tup [(bO r.1),(aC r.2)]):=by
 intro H0;refine cQ Tryz.func129 ?_;have hO:=aJ.start H0;unfold mY at h0;refine aM ?_;refine aS aB 3 ?_;refine kI 3 (aD v0) ?_;refine bB ?_;refine bD [(1,(.rp (aD v0)))] ?_;refine aM ?_;refine bT 0 ?_;refine aV aB 9 [] [(4,(aC ((decide (v0.Kind=(1:Int)))&&(oY v0.Text (⟨#[]⟩:ByteArray)))))] ?_;refine bH h0 (fun h0=>?_) (fun h0=>?_)
 ·refine bM aB 5 [(2,(bO (bS.k_number v0.Num))),(3,(aC true))] ?_;refine bG ?_;obtain rfl:=oI h0;exact aF (bF (aQ (Q_r hO)))
 refine aV aB 15 [4] [(16,(aC (((decide (v0.Kind=(2:Int)))&&(decide (v0.Num=(0:Int))))&&(decide (((ByteArray.size v0.Text:Nat):Int)<=(64:Int))))))] ?_;refine bH h0 (fun h0=>?_) (fun h0=>?_)
 ·refine bM aB 5 [(2,(bO (bS.k_words v0.Text))),(3,(aC true))] ?_;refine bG ?_;obtain rfl:=oI h0;exact aF (bF (aQ (Q_r hO)))
 refine bI ?_;refine dP [] ?_;refine aF (aU (aE (?_)));refine bM aB 2 [(2,(bO bS.none_)),(3,(aC false))] ?_;refine bG ?_;obtain rfl:=oI h0;exact aF (Q_r hO)

theorem aAZ (v0:aG)(r:Bool)(h0:zF v0=some r):cU Tryz.prog 118 [(aD v0)] (aC r):=by
 intro H0;refine cQ Tryz.func118 ?_;have hO:=aJ.start H0;unfold zF at h0;refine aM ?_;refine aS aB 2 ?_;refine kI 3 (aD v0) ?_;refine bB ?_;refine bD [(1,(.rp (aD v0)))] ?_;refine aM ?_;refine aS aB 7 ?_;refine bJ 1 ?_;obtain⟨⟨x1_0,x1_1⟩,hx2,h0⟩:=aX h0;refine cN (BO v0 _ hx2) hO ?_;intro H hO;rcases x1_0 with _ | y4 | y5
 ·replace h0:(some x1_1)=some r:=h0;refine bB ?_;refine bD [(4,(aC x1_1))] ?_;refine bM aB 2 [(2,(aC x1_1))] ?_;refine bG ?_;obtain rfl:=oI h0;exact aF (Q_r hO)
 ·replace h0:(some x1_1)=some r:=h0;refine bB ?_;refine bD [(4,(aC x1_1))] ?_;refine bM aB 2 [(2,(aC x1_1))] ?_;refine bG ?_;obtain rfl:=oI h0;exact aF (Q_r hO)
 ·replace h0:(some x1_1)=some r:=h0;refine bB ?_;refine bD [(4,(aC x1_1))] ?_;refine bM aB 2 [(2,(aC x1_1))] ?_;refine bG ?_;obtain rfl:=oI h0;exact aF (Q_r hO)

theorem aAF (v0:aG)(r:Bool)(h0:zI v0=some r):cU Tryz.prog 117 [(aD v0)] (aC r):=by
 intro H0;refine cQ Tryz.func117 ?_;have hO:=aJ.start H0;unfold zI at h0;refine aM ?_;refine aS aB 2 ?_;refine kI 3 (aD v0) ?_;refine bB ?_;refine bD [(1,(.rp (aD v0)))] ?_;refine aM ?_;refine aS aB 4 ?_;refine bJ 1 ?_;obtain⟨x1,hx2,h0⟩:=aX h0;refine cN (aAZ v0 _ hx2) hO ?_;intro H hO;refine bB ?_;refine bD [(2,(aC (!x1)))] ?_;refine bG ?_;obtain rfl:=oI h0;exact aF (Q_r hO)

theorem KO (r0:(List aG))(r:Bool)(h0:yH r0=some r):cU Tryz.prog 97 [(eL aD r0)] (aC r):=by
 intro H0;refine cQ Tryz.func97 ?_;have hO:=aJ.start H0;unfold yH at h0;refine aV aB 1 [] [] ?_;refine aM ?_;refine aV aB 3 [] [(5,(aC (decide ((8:Int)<(lN r0)))))] ?_;refine bH h0 (fun h0=>?_) (fun h0=>?_)
 ·refine bM aB 1 [(2,(aC false))] ?_;refine bG ?_;obtain rfl:=oI h0;exact aF (aQ (Q_r hO))
 refine bI ?_;refine bD [(0,(eL aD r0))] ?_;refine aM ?_;refine aS aB 4 ?_;refine bJ 1 ?_;obtain⟨x2,hx3,h0⟩:=aX h0;refine cN (wF r0 117 [] [] (fun y0=>zI y0) (fun y0 r h=>aAF y0 r h) _ hx3) hO ?_;intro H hO;refine bB ?_;refine bD [(2,(aC (!x2)))] ?_;refine bG ?_;obtain rfl:=oI h0;exact aF (Q_r hO)

theorem RS (t0:(List aG))(r:(Int×(List aG)))(h0:xJ t0=some r):IL Tryz.prog 120 [(.rp (eL aD t0))] (fun lo=>(.fn (.func 121) [] [(.lp lo 0 0),(.rp (eL aD r.2))])) 1 [(eI r.1)]:=by
 intro H0;refine cQ Tryz.func120 ?_;have hO:=aJ.start H0;unfold xJ at h0;refine aV aB 1 [] [] ?_;refine aM ?_;refine aS aB 2 ?_;refine mK 1 (eI 0) (by kernel_rfl) (by kernel_rfl) hO ?_;intro lo1 H hO;refine jY 0 lo1 1 0 (eI 0) (eI (-1:Int)) [(eI 0)] [(lo1,1,[(eI (-1:Int))])] hO rfl (by kernel_rfl) ?_;intro H hO;refine dU ?_;refine bN [] [(2,(.lp lo1 0 0))] ?_;refine aV aB 2 [0] [(1,(.fn (.func 121) [] [(.lp lo1 0 0),(.rp (eL aD t0))]))] ?_;refine bG ?_;obtain rfl:=oI h0;exact aF (kT (x:=(.fn (.func 121) [] [(.lp lo1 0 0),(.rp (eL aD t0))])) (by kernel_rfl) (aR.refl _) ⟨lo1,rfl,hO⟩)

theorem wU {σ:Type}(I:σ->Gs->Prop)(s0:(List aG))(f1_v:V)(f1:σ->aG->Option (σ×Bool))(f1_h:∀ st a0 st2 r,f1 st a0=some (st2,r)->CW Tryz.prog f1_v I st [(aD a0)] st2 (aC r))(sg0:σ)(r:(σ×Int))(h0:iY s0 f1 sg0=some r):yQ Tryz.prog 119 I sg0 [(eL aD s0),f1_v] r.1 (eI r.2):=by
 intro H0 G0 hI hg;refine cQ Tryz.func119 ?_;obtain⟨G,hO,hI⟩:∃ G,aJ ⟨H0,List.map (fun p:Nat×dQ=>p.1) G0,G⟩ H0 []/\I sg0 G:=⟨G0,aJ.FZ hg,hI⟩;clear hg;unfold iY at h0;refine aV aB 1 [] [] ?_;refine dN (fun T H=>∃ sg:σ,∃ G:Gs,Has T []/\aJ ⟨H0,List.map (fun p:Nat×dQ=>p.1) G0,G⟩ H []/\I sg G/\fQ f1 sg=some r) ?_ ?_
 ·clear hO hI h0;rintro T H ⟨sg,G,hT,hO,hI,h0⟩;refine bC hT ?_;clear hT;unfold fQ at h0;refine bM aB 1 [(4,(eI (-1:Int)))] ?_;refine bG ?_;obtain rfl:=oI h0;exact aF (kT (x:=(eI (-1:Int))) (by kernel_rfl) (aR.refl _) ⟨rfl,G,hI,hO.AL⟩)
 refine aV aB 3 [] [(7,(eI (lN s0))),(8,(eI (0:Int)))] ?_;refine bT 0 ?_;refine dZ [(0,(eL aD s0)),(1,f1_v),(7,(eI (lN s0))),(8,(eI (0:Int)))] ?_;refine dR (fun T H=>∃ sg:σ,∃ t7:Int,∃ t8:Int,∃ G:Gs,Has T [(0,(eL aD s0)),(1,f1_v),(7,(eI t7)),(8,(eI t8))]/\aJ ⟨H0,List.map (fun p:Nat×dQ=>p.1) G0,G⟩ H []/\I sg G/\iU f1 sg s0 t7 t8=some r) ?_ ⟨sg0,(lN s0),(0:Int),G,aZ,hO,hI,h0⟩;clear hO hI h0;rintro T H ⟨sg,t7,t8,G,hT,hO,hI,h0⟩;refine bC hT ?_;clear hT;unfold iU at h0;obtain⟨rr0,hl0,h0⟩:=aX h0;refine fL (fun (s:σ×Int) T H=>∃ G:Gs,Has T [(0,(eL aD s0)),(1,f1_v),(7,(eI t7)),(8,(eI s.2))]/\aJ ⟨H0,List.map (fun p:Nat×dQ=>p.1) G0,G⟩ H []/\I s.1 G) hl0 ⟨G,aZ,hO,hI⟩ ?_;clear hO hI;rintro k0 s out1 T H ⟨G,hT,hO,hI⟩ h1 ho0;obtain⟨sg,t8⟩:=s;replace h1:cP f1 s0 t7 sg t8=some out1:=h1
 try dsimp only at hT
 refine bC hT ?_;clear hT;unfold cP at h1;refine aV aB 1 [] [(9,(aC (decide (t8<t7))))] ?_;refine aM ?_;refine bH h1 (fun h1=>?_) (fun h1=>?_)
 ·refine bI ?_;refine bD [(0,(eL aD s0)),(1,f1_v),(7,(eI t7)),(8,(eI t8))] ?_;refine aM ?_;refine bT 1 ?_;refine aV aB 2 [] [(5,(eI t8))] ?_;refine aM ?_;refine aS aB 6 ?_;obtain⟨c2,h1⟩:=bA h1;refine mL 5 [0<=t8/\t8<(lN s0)] ⟨c2,trivial⟩ ?_;obtain⟨x3,hx4,h1⟩:=aX h1;refine NA (I:=I) f1_v [(aD (gD s0 t8))] (aC x3.2) (by kernel_rfl) (by kernel_rfl) (f1_h _ (gD s0 t8) x3.1 x3.2 hx4) hO hI ?_;intro G H hO hI;refine dU ?_;refine bN [] [(16,(aC x3.2))] ?_;refine bH h1 (fun h1=>?_) (fun h1=>?_)
  ·refine bM aB 2 [(4,(eI t8))] ?_;refine bG ?_;obtain rfl:=oI h1;obtain rfl:_=rr0:=ho0;replace h0:some (x3.1,t8)=some r:=h0;obtain rfl:=oI h0;exact aF (bF (aQ (aQ (bF (aQ (kT (x:=(eI t8)) (by kernel_rfl) (aR.refl _) ⟨rfl,G,hI,hO.AL⟩))))))
  refine bI ?_;refine dP [(0,(eL aD s0)),(1,f1_v),(7,(eI t7)),(8,(eI t8))] ?_;refine aF (aU (aE (?_)));refine aS aB 2 ?_;refine bB ?_;exact aF (aE (⟨rfl,_,(oI h1).symm,_,aZ,hO,hI⟩))
 refine eF 0 ?_;obtain rfl:=oI h1;obtain rfl:_=rr0:=ho0;replace h0:fQ f1 sg=some r:=h0;exact aF (aW (aW (bP (aE (⟨rfl,_,_,aZ,hO,hI,h0⟩)))))

theorem NI (v0:aG)(lo1p:Nat)(t1:Int)(t2:(List aG))(r:(Bool×Int))(h0:kZ v0 t1 t2=some r):rR Tryz.prog 121 lo1p 1 [(eI t1)] [(eI r.2)] [(aD v0),(.lp lo1p 0 0),(.rp (eL aD t2))] (aC r.1):=by
 intro H0 hl0;refine cQ Tryz.func121 ?_;have hO:=aJ.vM hl0;clear hl0;unfold kZ at h0;refine aM ?_;refine aS aB 2 ?_;refine kI 3 (aD v0) ?_;refine bB ?_;refine bN [0] [(3,(.rp (aD v0)))] ?_;refine aM ?_;refine aS aB 3 ?_;refine jX 0 lo1p 1 0 (eI t1) (eI t1) [(eI t1)] hO rfl ?_;refine bJ 2 ?_;refine jY 0 lo1p 1 0 (eI t1) (eI (wR (t1+(1:Int)))) [(eI t1)] [(lo1p,1,[(eI (wR (t1+(1:Int))))])] hO rfl (by kernel_rfl) ?_;intro H hO;refine dU ?_;refine bN [] [] ?_;refine aM ?_;refine eU (eT [7,8,11]) aB 7 ?_;refine hU 2 ?_;refine fW 0 lo1p 1 0 (eI (wR (t1+(1:Int)))) (eI (wR (t1+(1:Int)))) [(eI (wR (t1+(1:Int))))] hO rfl ?_;obtain⟨c1,h0⟩:=bA h0;refine DX (Ds:=[0<=(wR (t1+(1:Int)))/\(wR (t1+(1:Int)))<(lN t2)]) (by kernel_rfl) ⟨c1,trivial⟩ ?_;refine bD [(1,(.lp lo1p 0 0)),(4,(aC (!((decide (v0.Kind=((gD t2 (wR (t1+(1:Int)))).Kind)))&&((decide (v0.Num=((gD t2 (wR (t1+(1:Int)))).Num)))&&((oY v0.Text ((gD t2 (wR (t1+(1:Int)))).Text))&&true))))))] ?_;refine bG ?_;obtain rfl:=oI h0;exact aF (kT (x:=(aC (!((decide (v0.Kind=((gD t2 (wR (t1+(1:Int)))).Kind)))&&((decide (v0.Num=((gD t2 (wR (t1+(1:Int)))).Num)))&&((oY v0.Text ((gD t2 (wR (t1+(1:Int)))).Text))&&true)))))) (by kernel_rfl) (aR.refl _) ⟨rfl,hO.ext,hO.at 0 (by kernel_rfl),rfl⟩)

theorem xH (x0:Int)(r:Bool)(h0:lP x0=some r):cU Tryz.prog 100 [(eI x0)] (aC r):=by
 intro H0;refine cQ Tryz.func100 ?_;have hO:=aJ.start H0;unfold lP at h0;refine aV aB 1 [] [] ?_;refine bM aB 4 [(2,(aC (!decide (x0=x0))))] ?_;refine bG ?_;obtain rfl:=oI h0;exact aF (Q_r hO)

theorem ND (x0:Int)(y1:Int)(r:Int)(h0:qH x0 y1=some r):cU Tryz.prog 122 [(eI x0),(eI y1)] (eI r):=by
 intro H0;refine cQ Tryz.func122 ?_;have hO:=aJ.start H0;unfold qH at h0;refine aV aB 1 [] [] ?_;refine aM ?_;refine aS aB 3 ?_;refine bJ 1 ?_;obtain⟨x1,hx2,h0⟩:=aX h0;refine cN (xH x0 _ hx2) hO ?_;intro H hO;refine bB ?_;refine bN [] [(5,(aC x1))] ?_;refine aM ?_;refine aS aB 3 ?_;refine bJ 1 ?_;obtain⟨x4,hx5,h0⟩:=aX h0;refine cN (xH y1 _ hx5) hO ?_;intro H hO;refine bB ?_;refine bN [] [(6,(aC x4))] ?_;refine aM ?_;refine aV aB 1 [5] [(11,(aC x1))] ?_;refine bH h0 (fun h0=>?_) (fun h0=>?_)
 ·refine aM ?_;refine bM aB 1 [(12,(aC x4))] ?_;refine bH h0 (fun h0=>?_) (fun h0=>?_)
  ·refine bM aB 1 [(4,(eI (0:Int)))] ?_;refine bG ?_;obtain rfl:=oI h0;exact aF (aQ (aQ (Q_r hO)))
  refine bI ?_;refine bD [] ?_;refine bM aB 1 [(4,(eI (-1:Int)))] ?_;refine bG ?_;obtain rfl:=oI h0;exact aF (aQ (Q_r hO))
 refine bI ?_;refine bD [(0,(eI x0)),(1,(eI y1)),(6,(aC x4))] ?_;refine aM ?_;refine aV aB 1 [6] [(13,(aC x4))] ?_;refine bH h0 (fun h0=>?_) (fun h0=>?_)
 ·refine bM aB 1 [(4,(eI (1:Int)))] ?_;refine bG ?_;obtain rfl:=oI h0;exact aF (aQ (Q_r hO))
 refine bI ?_;refine bD [(0,(eI x0)),(1,(eI y1))] ?_;refine aM ?_;refine aV aB 3 [] [(16,(aC (decide (x0<y1))))] ?_;refine bH h0 (fun h0=>?_) (fun h0=>?_)
 ·refine bM aB 1 [(4,(eI (-1:Int)))] ?_;refine bG ?_;obtain rfl:=oI h0;exact aF (aQ (Q_r hO))
 refine bI ?_;refine bD [(0,(eI x0)),(1,(eI y1))] ?_;refine aM ?_;refine bM aB 3 [(19,(aC (decide (y1<x0))))] ?_;refine bH h0 (fun h0=>?_) (fun h0=>?_)
 ·refine bM aB 1 [(4,(eI (1:Int)))] ?_;refine bG ?_;obtain rfl:=oI h0;exact aF (aQ (Q_r hO))
 refine bI ?_;refine bD [] ?_;refine bM aB 1 [(4,(eI (0:Int)))] ?_;refine bG ?_;obtain rfl:=oI h0;exact aF (Q_r hO)

theorem yB (x0:Int)(r:Bool)(h0:mA x0=some r):cU Tryz.prog 133 [(eI x0)] (aC r):=by
 intro H0;refine cQ Tryz.func133 ?_;have hO:=aJ.start H0;unfold mA at h0;refine aV aB 1 [] [] ?_;refine bM aB 4 [(2,(aC (!decide (x0=x0))))] ?_;refine bG ?_;obtain rfl:=oI h0;exact aF (Q_r hO)

theorem DU (x0:Int)(y1:Int)(r:Int)(h0:gY x0 y1=some r):cU Tryz.prog 130 [(eI x0),(eI y1)] (eI r):=by
 intro H0;refine cQ Tryz.func130 ?_;have hO:=aJ.start H0;unfold gY at h0;refine aV aB 1 [] [] ?_;refine aM ?_;refine aS aB 3 ?_;refine bJ 1 ?_;obtain⟨x1,hx2,h0⟩:=aX h0;refine cN (yB x0 _ hx2) hO ?_;intro H hO;refine bB ?_;refine bN [] [(5,(aC x1))] ?_;refine aM ?_;refine aS aB 3 ?_;refine bJ 1 ?_;obtain⟨x4,hx5,h0⟩:=aX h0;refine cN (yB y1 _ hx5) hO ?_;intro H hO;refine bB ?_;refine bN [] [(6,(aC x4))] ?_;refine aM ?_;refine aV aB 1 [5] [(11,(aC x1))] ?_;refine bH h0 (fun h0=>?_) (fun h0=>?_)
 ·refine aM ?_;refine bM aB 1 [(12,(aC x4))] ?_;refine bH h0 (fun h0=>?_) (fun h0=>?_)
  ·refine bM aB 1 [(4,(eI (0:Int)))] ?_;refine bG ?_;obtain rfl:=oI h0;exact aF (aQ (aQ (Q_r hO)))
  refine bI ?_;refine bD [] ?_;refine bM aB 1 [(4,(eI (-1:Int)))] ?_;refine bG ?_;obtain rfl:=oI h0;exact aF (aQ (Q_r hO))
 refine bI ?_;refine bD [(0,(eI x0)),(1,(eI y1)),(6,(aC x4))] ?_;refine aM ?_;refine aV aB 1 [6] [(13,(aC x4))] ?_;refine bH h0 (fun h0=>?_) (fun h0=>?_)
 ·refine bM aB 1 [(4,(eI (1:Int)))] ?_;refine bG ?_;obtain rfl:=oI h0;exact aF (aQ (Q_r hO))
 refine bI ?_;refine bD [(0,(eI x0)),(1,(eI y1))] ?_;refine aM ?_;refine aV aB 3 [] [(16,(aC (decide (x0<y1))))] ?_;refine bH h0 (fun h0=>?_) (fun h0=>?_)
 ·refine bM aB 1 [(4,(eI (-1:Int)))] ?_;refine bG ?_;obtain rfl:=oI h0;exact aF (aQ (Q_r hO))
 refine bI ?_;refine bD [(0,(eI x0)),(1,(eI y1))] ?_;refine aM ?_;refine bM aB 3 [(19,(aC (decide (y1<x0))))] ?_;refine bH h0 (fun h0=>?_) (fun h0=>?_)
 ·refine bM aB 1 [(4,(eI (1:Int)))] ?_;refine bG ?_;obtain rfl:=oI h0;exact aF (aQ (Q_r hO))
 refine bI ?_;refine bD [] ?_;refine bM aB 1 [(4,(eI (0:Int)))] ?_;refine bG ?_;obtain rfl:=oI h0;exact aF (Q_r hO)

theorem AQ (a0:ByteArray)(b1:ByteArray)(r:Int)(h0:kQ a0 b1=some r):cU Tryz.prog 134 [(CH a0),(CH b1)] (eI r):=by
 intro H0;refine cQ Tryz.func134 ?_;have hO:=aJ.start H0;unfold kQ at h0;refine aV aB 1 [] [] ?_;refine aM ?_;refine aS aB 4 ?_;refine bJ 2 ?_;refine aFK 135 [(CH a0),(CH b1)] (eI (TC a0 b1)) (by kernel_rfl) (by kernel_rfl) (aED Tryz.func135 (by kernel_rfl) (by kernel_rfl) (by kernel_rfl) (by kernel_rfl) a0 b1) hO ?_;intro H hO;refine bB ?_;refine bD [(4,(eI (TC a0 b1)))] ?_;refine bG ?_;obtain rfl:=oI h0;exact aF (Q_r hO)

theorem NC (a0:ByteArray)(b1:ByteArray)(r:Int)(h0:nW a0 b1=some r):cU Tryz.prog 131 [(CH a0),(CH b1)] (eI r):=by
 intro H0;refine cQ Tryz.func131 ?_;have hO:=aJ.start H0;unfold nW at h0;refine aV aB 1 [] [] ?_;refine aM ?_;refine aS aB 4 ?_;refine bJ 2 ?_;obtain⟨x1,hx2,h0⟩:=aX h0;refine cN (AQ a0 b1 _ hx2) hO ?_;intro H hO;refine bB ?_;refine bD [(4,(eI x1))] ?_;refine bG ?_;obtain rfl:=oI h0;exact aF (Q_r hO)

theorem RF (a0:aG)(b1:aG)(r:Int)(h0:sQ a0 b1=some r):cU Tryz.prog 123 [(aD a0),(aD b1)] (eI r):=by
 intro H0;refine cQ Tryz.func123 ?_;have hO:=aJ.start H0;unfold sQ at h0;refine aM ?_;refine aS aB 3 ?_;refine kI 3 (aD a0) ?_;refine kI 3 (aD b1) ?_;refine bB ?_;refine bD [(2,(.rp (aD a0))),(3,(.rp (aD b1)))] ?_;refine aM ?_;refine aS aB 7 ?_;refine bJ 1 ?_;obtain⟨⟨x1_0,x1_1⟩,hx2,h0⟩:=aX h0;refine cN (BO a0 _ hx2) hO ?_;intro H hO;rcases x1_0 with _ | y4 | y5
 ·replace h0:((mY b1).bind fun (x6_0,x6_1)=>match x6_0 with | .none_=>(cond ((!x1_1)||(!x6_1)) (some (0:Int)) (none)) | .k_number y9=>(cond ((!x1_1)||(!x6_1)) (some (0:Int)) (some (1:Int))) | .k_words y10=>(cond ((!x1_1)||(!x6_1)) (some (0:Int)) (none)))=some r:=h0;refine bB ?_;refine bN [2] [(5,(bO bS.none_)),(6,(aC x1_1))] ?_;refine aM ?_;refine aS aB 7 ?_;refine bJ 1 ?_;obtain⟨⟨x6_0,x6_1⟩,hx7,h0⟩:=aX h0;refine cN (BO b1 _ hx7) hO ?_;intro H hO;rcases x6_0 with _ | y9 | y10
  ·replace h0:(cond ((!x1_1)||(!x6_1)) (some (0:Int)) (none))=some r:=h0;refine bB ?_;refine bN [3] [(7,(bO bS.none_)),(8,(aC x6_1))] ?_;refine aM ?_;refine aV aB 6 [6,8] [(28,(aC ((!x1_1)||(!x6_1))))] ?_;refine bH h0 (fun h0=>?_) (fun h0=>?_)
   ·refine bM aB 1 [(4,(eI (0:Int)))] ?_;refine bG ?_;obtain rfl:=oI h0;exact aF (aQ (Q_r hO))
   refine bI ?_;refine bD [(5,(bO bS.none_)),(7,(bO bS.none_))] ?_;refine aV aB 7 [] [(9,(eI 0)),(10,(aC false))] ?_;refine aV aB 7 [] [(11,(eI 0)),(12,(aC false))] ?_;refine aM ?_;refine bT 0 ?_;refine aV aB 5 [] [(39,(aC false))] ?_;refine nA (false) (fun hc12=>?_) (fun hc12=>?_)
   ·cases hc12
   ·refine aV aB 2 [9,10,11,39] [(47,(aC false))] ?_;refine nA (false) (fun hc13=>?_) (fun hc13=>?_)
    ·cases hc13
    ·refine bM aB 2 [(5,(bO bS.none_)),(7,(bO bS.none_)),(49,(aC false))] ?_;refine nA (false) (fun hc14=>?_) (fun hc14=>?_)
     ·cases hc14
     ·refine bI ?_;refine dP [(5,(bO bS.none_)),(7,(bO bS.none_))] ?_;refine aF (aU (aE (?_)));refine aM ?_;refine eU (eT []) aB 6 ?_
      cases h0
  ·replace h0:(cond ((!x1_1)||(!x6_1)) (some (0:Int)) (some (1:Int)))=some r:=h0;refine bB ?_;refine bN [3] [(7,(bO (bS.k_number y9))),(8,(aC x6_1))] ?_;refine aM ?_;refine aV aB 6 [6,8] [(28,(aC ((!x1_1)||(!x6_1))))] ?_;refine bH h0 (fun h0=>?_) (fun h0=>?_)
   ·refine bM aB 1 [(4,(eI (0:Int)))] ?_;refine bG ?_;obtain rfl:=oI h0;exact aF (aQ (Q_r hO))
   refine bI ?_;refine bD [(5,(bO bS.none_)),(7,(bO (bS.k_number y9)))] ?_;refine aV aB 7 [] [(9,(eI 0)),(10,(aC false))] ?_;refine aV aB 7 [] [(11,(eI y9)),(12,(aC true))] ?_;refine aM ?_;refine bT 0 ?_;refine aV aB 5 [] [(39,(aC false))] ?_;refine nA (false) (fun hc16=>?_) (fun hc16=>?_)
   ·cases hc16
   ·refine aV aB 2 [9,10,11,39] [(47,(aC false))] ?_;refine nA (false) (fun hc17=>?_) (fun hc17=>?_)
    ·cases hc17
    ·refine bM aB 2 [(5,(bO bS.none_)),(7,(bO (bS.k_number y9))),(49,(aC true))] ?_;refine nA (true) (fun hc18=>?_) (fun hc18=>?_)
     ·refine bM aB 1 [(4,(eI (1:Int)))] ?_;refine bG ?_;obtain rfl:=oI h0;exact aF (bF (aQ (Q_r hO)))
     ·cases hc18
  ·replace h0:(cond ((!x1_1)||(!x6_1)) (some (0:Int)) (none))=some r:=h0;refine bB ?_;refine bN [3] [(7,(bO (bS.k_words y10))),(8,(aC x6_1))] ?_;refine aM ?_;refine aV aB 6 [6,8] [(28,(aC ((!x1_1)||(!x6_1))))] ?_;refine bH h0 (fun h0=>?_) (fun h0=>?_)
   ·refine bM aB 1 [(4,(eI (0:Int)))] ?_;refine bG ?_;obtain rfl:=oI h0;exact aF (aQ (Q_r hO))
   refine bI ?_;refine bD [(5,(bO bS.none_)),(7,(bO (bS.k_words y10)))] ?_;refine aV aB 7 [] [(9,(eI 0)),(10,(aC false))] ?_;refine aV aB 7 [] [(11,(eI 0)),(12,(aC false))] ?_;refine aM ?_;refine bT 0 ?_;refine aV aB 5 [] [(39,(aC false))] ?_;refine nA (false) (fun hc20=>?_) (fun hc20=>?_)
   ·cases hc20
   ·refine aV aB 2 [9,10,11,39] [(47,(aC false))] ?_;refine nA (false) (fun hc21=>?_) (fun hc21=>?_)
    ·cases hc21
    ·refine bM aB 2 [(5,(bO bS.none_)),(7,(bO (bS.k_words y10))),(49,(aC false))] ?_;refine nA (false) (fun hc22=>?_) (fun hc22=>?_)
     ·cases hc22
     ·refine bI ?_;refine dP [(5,(bO bS.none_)),(7,(bO (bS.k_words y10)))] ?_;refine aF (aU (aE (?_)));refine aM ?_;refine eU (eT []) aB 6 ?_
      cases h0
 ·replace h0:((mY b1).bind fun (x23_0,x23_1)=>match x23_0 with | .none_=>(cond ((!x1_1)||(!x23_1)) (some (0:Int)) (some (-1:Int))) | .k_number y26=>(cond ((!x1_1)||(!x23_1)) (some (0:Int)) ((gY y4 y26).bind fun x33=>some x33)) | .k_words y27=>(cond ((!x1_1)||(!x23_1)) (some (0:Int)) (some (-1:Int))))=some r:=h0;refine bB ?_;refine bN [2] [(5,(bO (bS.k_number y4))),(6,(aC x1_1))] ?_;refine aM ?_;refine aS aB 7 ?_;refine bJ 1 ?_;obtain⟨⟨x23_0,x23_1⟩,hx24,h0⟩:=aX h0;refine cN (BO b1 _ hx24) hO ?_;intro H hO;rcases x23_0 with _ | y26 | y27
  ·replace h0:(cond ((!x1_1)||(!x23_1)) (some (0:Int)) (some (-1:Int)))=some r:=h0;refine bB ?_;refine bN [3] [(7,(bO bS.none_)),(8,(aC x23_1))] ?_;refine aM ?_;refine aV aB 6 [6,8] [(28,(aC ((!x1_1)||(!x23_1))))] ?_;refine bH h0 (fun h0=>?_) (fun h0=>?_)
   ·refine bM aB 1 [(4,(eI (0:Int)))] ?_;refine bG ?_;obtain rfl:=oI h0;exact aF (aQ (Q_r hO))
   refine bI ?_;refine bD [(5,(bO (bS.k_number y4))),(7,(bO bS.none_))] ?_;refine aV aB 7 [] [(9,(eI y4)),(10,(aC true))] ?_;refine aV aB 7 [] [(11,(eI 0)),(12,(aC false))] ?_;refine aM ?_;refine bT 0 ?_;refine aV aB 5 [] [(39,(aC false))] ?_;refine nA (false) (fun hc29=>?_) (fun hc29=>?_)
   ·cases hc29
   ·refine aV aB 2 [9,10,11,39] [(47,(aC true))] ?_;refine nA (true) (fun hc30=>?_) (fun hc30=>?_)
    ·refine bM aB 1 [(4,(eI (-1:Int)))] ?_;refine bG ?_;obtain rfl:=oI h0;exact aF (bF (aQ (Q_r hO)))
    ·cases hc30
  ·replace h0:(cond ((!x1_1)||(!x23_1)) (some (0:Int)) ((gY y4 y26).bind fun x33=>some x33))=some r:=h0;refine bB ?_;refine bN [3] [(7,(bO (bS.k_number y26))),(8,(aC x23_1))] ?_;refine aM ?_;refine aV aB 6 [6,8] [(28,(aC ((!x1_1)||(!x23_1))))] ?_;refine bH h0 (fun h0=>?_) (fun h0=>?_)
   ·refine bM aB 1 [(4,(eI (0:Int)))] ?_;refine bG ?_;obtain rfl:=oI h0;exact aF (aQ (Q_r hO))
   refine bI ?_;refine bD [(5,(bO (bS.k_number y4))),(7,(bO (bS.k_number y26)))] ?_;refine aV aB 7 [] [(9,(eI y4)),(10,(aC true))] ?_;refine aV aB 7 [] [(11,(eI y26)),(12,(aC true))] ?_;refine aM ?_;refine bT 0 ?_;refine aV aB 5 [] [(39,(aC true))] ?_;refine nA (true) (fun hc32=>?_) (fun hc32=>?_)
   ·refine aM ?_;refine aS aB 4 ?_;refine bJ 2 ?_;obtain⟨x33,hx34,h0⟩:=aX h0;refine cN (DU y4 y26 _ hx34) hO ?_;intro H hO;refine bB ?_;refine bD [(4,(eI x33))] ?_;refine bG ?_;obtain rfl:=oI h0;exact aF (bF (aQ (Q_r hO)))
   ·cases hc32
  ·replace h0:(cond ((!x1_1)||(!x23_1)) (some (0:Int)) (some (-1:Int)))=some r:=h0;refine bB ?_;refine bN [3] [(7,(bO (bS.k_words y27))),(8,(aC x23_1))] ?_;refine aM ?_;refine aV aB 6 [6,8] [(28,(aC ((!x1_1)||(!x23_1))))] ?_;refine bH h0 (fun h0=>?_) (fun h0=>?_)
   ·refine bM aB 1 [(4,(eI (0:Int)))] ?_;refine bG ?_;obtain rfl:=oI h0;exact aF (aQ (Q_r hO))
   refine bI ?_;refine bD [(5,(bO (bS.k_number y4))),(7,(bO (bS.k_words y27)))] ?_;refine aV aB 7 [] [(9,(eI y4)),(10,(aC true))] ?_;refine aV aB 7 [] [(11,(eI 0)),(12,(aC false))] ?_;refine aM ?_;refine bT 0 ?_;refine aV aB 5 [] [(39,(aC false))] ?_;refine nA (false) (fun hc37=>?_) (fun hc37=>?_)
   ·cases hc37
   ·refine aV aB 2 [9,10,11,39] [(47,(aC true))] ?_;refine nA (true) (fun hc38=>?_) (fun hc38=>?_)
    ·refine bM aB 1 [(4,(eI (-1:Int)))] ?_;refine bG ?_;obtain rfl:=oI h0;exact aF (bF (aQ (Q_r hO)))
    ·cases hc38
 ·replace h0:((mY b1).bind fun (x39_0,x39_1)=>match x39_0 with | .none_=>(cond ((!x1_1)||(!x39_1)) (some (0:Int)) (none)) | .k_number y42=>(cond ((!x1_1)||(!x39_1)) (some (0:Int)) (some (1:Int))) | .k_words y43=>(cond ((!x1_1)||(!x39_1)) (some (0:Int)) ((nW y5 y43).bind fun x56=>some x56)))=some r:=h0;refine bB ?_;refine bN [2] [(5,(bO (bS.k_words y5))),(6,(aC x1_1))] ?_;refine aM ?_;refine aS aB 7 ?_;refine bJ 1 ?_;obtain⟨⟨x39_0,x39_1⟩,hx40,h0⟩:=aX h0;refine cN (BO b1 _ hx40) hO ?_;intro H hO;rcases x39_0 with _ | y42 | y43
  ·replace h0:(cond ((!x1_1)||(!x39_1)) (some (0:Int)) (none))=some r:=h0;refine bB ?_;refine bN [3] [(7,(bO bS.none_)),(8,(aC x39_1))] ?_;refine aM ?_;refine aV aB 6 [6,8] [(28,(aC ((!x1_1)||(!x39_1))))] ?_;refine bH h0 (fun h0=>?_) (fun h0=>?_)
   ·refine bM aB 1 [(4,(eI (0:Int)))] ?_;refine bG ?_;obtain rfl:=oI h0;exact aF (aQ (Q_r hO))
   refine bI ?_;refine bD [(5,(bO (bS.k_words y5))),(7,(bO bS.none_))] ?_;refine aV aB 7 [] [(9,(eI 0)),(10,(aC false))] ?_;refine aV aB 7 [] [(11,(eI 0)),(12,(aC false))] ?_;refine aM ?_;refine bT 0 ?_;refine aV aB 5 [] [(39,(aC false))] ?_;refine nA (false) (fun hc45=>?_) (fun hc45=>?_)
   ·cases hc45
   ·refine aV aB 2 [9,10,11,39] [(47,(aC false))] ?_;refine nA (false) (fun hc46=>?_) (fun hc46=>?_)
    ·cases hc46
    ·refine bM aB 2 [(5,(bO (bS.k_words y5))),(7,(bO bS.none_)),(49,(aC false))] ?_;refine nA (false) (fun hc47=>?_) (fun hc47=>?_)
     ·cases hc47
     ·refine bI ?_;refine dP [(5,(bO (bS.k_words y5))),(7,(bO bS.none_))] ?_;refine aF (aU (aE (?_)));refine aM ?_;refine eU (eT []) aB 6 ?_
      cases h0
  ·replace h0:(cond ((!x1_1)||(!x39_1)) (some (0:Int)) (some (1:Int)))=some r:=h0;refine bB ?_;refine bN [3] [(7,(bO (bS.k_number y42))),(8,(aC x39_1))] ?_;refine aM ?_;refine aV aB 6 [6,8] [(28,(aC ((!x1_1)||(!x39_1))))] ?_;refine bH h0 (fun h0=>?_) (fun h0=>?_)
   ·refine bM aB 1 [(4,(eI (0:Int)))] ?_;refine bG ?_;obtain rfl:=oI h0;exact aF (aQ (Q_r hO))
   refine bI ?_;refine bD [(5,(bO (bS.k_words y5))),(7,(bO (bS.k_number y42)))] ?_;refine aV aB 7 [] [(9,(eI 0)),(10,(aC false))] ?_;refine aV aB 7 [] [(11,(eI y42)),(12,(aC true))] ?_;refine aM ?_;refine bT 0 ?_;refine aV aB 5 [] [(39,(aC false))] ?_;refine nA (false) (fun hc49=>?_) (fun hc49=>?_)
   ·cases hc49
   ·refine aV aB 2 [9,10,11,39] [(47,(aC false))] ?_;refine nA (false) (fun hc50=>?_) (fun hc50=>?_)
    ·cases hc50
    ·refine bM aB 2 [(5,(bO (bS.k_words y5))),(7,(bO (bS.k_number y42))),(49,(aC true))] ?_;refine nA (true) (fun hc51=>?_) (fun hc51=>?_)
     ·refine bM aB 1 [(4,(eI (1:Int)))] ?_;refine bG ?_;obtain rfl:=oI h0;exact aF (bF (aQ (Q_r hO)))
     ·cases hc51
  ·replace h0:(cond ((!x1_1)||(!x39_1)) (some (0:Int)) ((nW y5 y43).bind fun x56=>some x56))=some r:=h0;refine bB ?_;refine bN [3] [(7,(bO (bS.k_words y43))),(8,(aC x39_1))] ?_;refine aM ?_;refine aV aB 6 [6,8] [(28,(aC ((!x1_1)||(!x39_1))))] ?_;refine bH h0 (fun h0=>?_) (fun h0=>?_)
   ·refine bM aB 1 [(4,(eI (0:Int)))] ?_;refine bG ?_;obtain rfl:=oI h0;exact aF (aQ (Q_r hO))
   refine bI ?_;refine bD [(5,(bO (bS.k_words y5))),(7,(bO (bS.k_words y43)))] ?_;refine aV aB 7 [] [(9,(eI 0)),(10,(aC false))] ?_;refine aV aB 7 [] [(11,(eI 0)),(12,(aC false))] ?_;refine aM ?_;refine bT 0 ?_;refine aV aB 5 [] [(39,(aC false))] ?_;refine nA (false) (fun hc53=>?_) (fun hc53=>?_)
   ·cases hc53
   ·refine aV aB 2 [9,10,11,39] [(47,(aC false))] ?_;refine nA (false) (fun hc54=>?_) (fun hc54=>?_)
    ·cases hc54
    ·refine bM aB 2 [(5,(bO (bS.k_words y5))),(7,(bO (bS.k_words y43))),(49,(aC false))] ?_;refine nA (false) (fun hc55=>?_) (fun hc55=>?_)
     ·cases hc55
     ·refine bI ?_;refine dP [(5,(bO (bS.k_words y5))),(7,(bO (bS.k_words y43)))] ?_;refine aF (aU (aE (?_)));refine aM ?_;refine eU (eT []) aB 6 ?_;refine hU 4 ?_;obtain⟨x56,hx57,h0⟩:=aX h0;refine BD (NC y5 y43 _ hx57) hO ?_;intro H hO;refine gP ?_;refine bD [(4,(eI x56))] ?_;refine bG ?_;obtain rfl:=oI h0;exact aF (Q_r hO)

theorem WQ (a0:(List aG))(b1:(List aG))(r:Int)(h0:vT a0 b1=some r):cU Tryz.prog 98 [(eL aD a0),(eL aD b1)] (eI r):=by
 intro H0;refine cQ Tryz.func98 ?_;have hO:=aJ.start H0;unfold vT at h0;refine aM ?_;refine aS aB 2 ?_;refine kI 1 (eL aD b1) ?_;refine bB ?_;refine bN [1] [(3,(.rp (eL aD b1)))] ?_;refine aM ?_;refine aM ?_;refine aS aB 8 ?_;refine bJ 1 ?_;obtain⟨x1,hx2,h0⟩:=aX h0;refine cN (KO a0 _ hx2) hO ?_;intro H hO;refine bJ 5 ?_;obtain⟨x4,hx5,h0⟩:=aX h0;refine mI [(10,false)] 97 [(eL aD b1)] (aC x4) (!(!x1)) (by kernel_rfl) (by kernel_rfl) (by kernel_rfl) (fun hb6=>(KO b1 _ (gQ hx5 hb6))) hO ?_;intro H hO;refine bB ?_;refine bN [] [(14,(aC ((!x1)||(!x4))))] ?_;refine bH h0 (fun h0=>?_) (fun h0=>?_)
 ·refine bM aB 1 [(4,(eI (0:Int)))] ?_;refine bG ?_;obtain rfl:=oI h0;exact aF (aQ (Q_r hO))
 refine bI ?_;refine bD [(0,(eL aD a0)),(3,(.rp (eL aD b1)))] ?_;refine aV aB 6 [] [(5,(eI (if (lN b1)<(lN a0) then (lN b1) else (lN a0))))] ?_;refine aM ?_;refine eU (eT []) aB 7 ?_;obtain⟨c8,h0⟩:=bA h0;refine cJ 4 [0<=(if (lN b1)<(lN a0) then (lN b1) else (lN a0))/\(if (lN b1)<(lN a0) then (lN b1) else (lN a0))<=(lN a0)] ⟨c8,trivial⟩ ?_;obtain⟨x9,hx10,h0⟩:=aX h0;refine aFL (L':=fun lo11=>[(lo11,1,[(eI x9.1)])]) 1 [(eI x9.1)] 120 [(.rp (eL aD b1))] (fun lo11=>(.fn (.func 121) [] [(.lp lo11 0 0),(.rp (eL aD x9.2))])) (by kernel_rfl) (by kernel_rfl) (RS b1 _ hx10) hO (fun _=>by kernel_rfl) ?_;intro lo11 H hO;obtain⟨x12,hx13,h0⟩:=aX h0;refine aFp (fun st G'=>G'=up [(lo11,1,[(eI st)])]++[]) [(lo11,1,[(eI x12.1)])] x9.1 x12.1 119 [(.sl false (Int.toNat (if (lN b1)<(lN a0) then (lN b1) else (lN a0))) (fun i=>aD (List.getD a0 i default))),(.fn (.func 121) [] [(.lp lo11 0 0),(.rp (eL aD x9.2))])] (eI x12.2) (by kernel_rfl) (by kernel_rfl) (yQ.sub (as0':=[(eL aD (List.take (Int.toNat (if (lN b1)<(lN a0) then (lN b1) else (lN a0))) a0)),(.fn (.func 121) [] [(.lp lo11 0 0),(.rp (eL aD x9.2))])]) (wU _ (List.take (Int.toNat (if (lN b1)<(lN a0) then (lN b1) else (lN a0))) a0) (.fn (.func 121) [] [(.lp lo11 0 0),(.rp (eL aD x9.2))]) (fun st y0=>(kZ y0 st x9.2).bind fun o=>some (o.2,o.1)) (fun st y0 st2 rr hr=>(NI y0 lo11 st x9.2 _ (aG3 hr)).toV (ys:=[]) (zs:=[(aD y0)]) (cs:=[(.lp lo11 0 0),(.rp (eL aD x9.2))]) (fun Gx hG=>⟨up [],up []++[],hG,rfl⟩)) _ _ hx13) ⟨aBu (Int.toNat_le.2 (And.right c8)),aR.refl _,trivial⟩) hO rfl (fun _ h=>h) ?_;intro H hO;refine gP ?_;replace hO:=hO.pick (L':=[]) [] (by decide) (by kernel_rfl);refine bN [5] [(6,(eI x12.2))] ?_;refine aM ?_;refine aV aB 2 [] [(27,(aC (decide (x12.2<(0:Int)))))] ?_;refine bH h0 (fun h0=>?_) (fun h0=>?_)
 ·refine aM ?_;refine aS aB 6 ?_;refine bJ 4 ?_;obtain⟨x15,hx16,h0⟩:=aX h0;refine cN (ND (lN a0) (lN b1) _ hx16) hO ?_;intro H hO;refine bB ?_;refine bD [(4,(eI x15))] ?_;refine bG ?_;obtain rfl:=oI h0;exact aF (aQ (Q_r hO))
 refine bI ?_;refine bD [(0,(eL aD a0)),(3,(.rp (eL aD b1))),(6,(eI x12.2))] ?_;refine aM ?_;refine eU (eT [36,37,40,41]) aB 10 ?_;obtain⟨c18,h0⟩:=bA h0;obtain⟨c19,h0⟩:=bA h0;refine cJ 8 [0<=x12.2/\x12.2<(lN a0),0<=x12.2/\x12.2<(lN b1)] ⟨c18,c19,trivial⟩ ?_;obtain⟨x20,hx21,h0⟩:=aX h0;refine BD (RF (gD a0 x12.2) (gD b1 x12.2) _ hx21) hO ?_;intro H hO;refine gP ?_;refine bD [(4,(eI x20))] ?_;refine bG ?_;obtain rfl:=oI h0;exact aF (Q_r hO)

theorem NS (l0:(List aK))(holds1_f:Nat)(holds1_a holds1_c:List V)(yI:(List aI)->Option Bool)(holds1_h:∀ a0 r,yI a0=some r->cU Tryz.prog holds1_f (holds1_a++[(eL aO a0)]++holds1_c) (aC r))(r:Bool)(h0:wQ l0 yI=some r):cU Tryz.prog 72 [(eL aH l0),(.fn (.func holds1_f) holds1_a holds1_c)] (aC r):=by
 intro H0;refine CQ aB Tryz.func72 (by kernel_rfl) (by kernel_rfl) (by kernel_rfl) ?_;have hO:=aJ.start H0;unfold wQ at h0;refine aM ?_;refine aS aB 2 ?_;refine kI 1 (.fn (.func holds1_f) holds1_a holds1_c) ?_;refine mK 1 (aC false) (by kernel_rfl) (by kernel_rfl) hO ?_;intro lo1 H hO;refine dU ?_;refine bN [1] [(3,(.rp (.fn (.func holds1_f) holds1_a holds1_c))),(4,(.lp lo1 0 0))] ?_;refine aM ?_;refine aV aB 3 [] [(11,(aC (decide ((4096:Int)<(lN l0)))))] ?_;refine bH h0 (fun h0=>?_) (fun h0=>?_)
 ·refine aM ?_;refine aS aB 1 ?_;refine jY 0 lo1 1 0 (aC false) (aC false) [(aC false)] [(lo1,1,[(aC false)])] hO rfl (by kernel_rfl) ?_;intro H hO;refine dU ?_;refine bD [(4,(.lp lo1 0 0))] ?_;refine bG ?_;obtain rfl:=oI h0;exact aF (aQ (QM0 (.inr rfl) (rs:=[.cell 4 4]) (xs:=[(aC false)]) (x:=(aC false)) (by kernel_rfl) (nY (lo:=lo1) (k:=1) (y:=(aC false)) (x:=(aC false)) 0 hO (by kernel_rfl) (by kernel_rfl) (by kernel_rfl) (by kernel_rfl) oP) (by kernel_rfl) ⟨rfl,hO.out⟩))
 refine bI ?_;refine bD [(0,(eL aH l0)),(3,(.rp (.fn (.func holds1_f) holds1_a holds1_c))),(4,(.lp lo1 0 0))] ?_;refine aM ?_;refine aS aB 1 ?_;refine rF 1 (.sl true 0 (fun _ => .bad)) (eL aD ([])) (by kernel_rfl) (by kernel_rfl) (by kernel_rfl) (gS) (by kernel_rfl) (by kernel_rfl) hO ?_;intro lo3 H hO;refine dU ?_;refine bN [] [(5,(.lp lo3 0 0))] ?_;refine aM ?_;refine aS aB 2 ?_;refine mK 1 (aC false) (by kernel_rfl) (by kernel_rfl) hO ?_;intro lo4 H hO;refine jY 2 lo4 1 0 (aC false) (aC false) [(aC false)] [(lo1,1,[(aC false)]),(lo3,1,[(eL aD ([]))]),(lo4,1,[(aC false)])] hO rfl (by kernel_rfl) ?_;intro H hO;refine dU ?_;refine bN [] [(6,(.lp lo4 0 0))] ?_;refine aM ?_;refine aM ?_;refine aS aB 2 ?_;refine bJ 1 ?_;obtain⟨x5,hx6,h0⟩:=aX h0;refine cN (NW l0 _ hx6) hO ?_;intro H hO;refine dU ?_;refine bN [0] [(13,(.fn (.func 103) [] [(.rp (eL aH x5))]))] ?_;refine bT 0 ?_;refine dZ [(3,(.rp (.fn (.func holds1_f) holds1_a holds1_c))),(4,(.lp lo1 0 0)),(5,(.lp lo3 0 0)),(6,(.lp lo4 0 0)),(13,(.fn (.func 103) [] [(.rp (eL aH x5))]))] ?_;refine dR (fun T H=>∃ t4:Bool,∃ qK:(List aG),∃ lO:Bool,∃ yX:(List aK),Has T [(3,(.rp (.fn (.func holds1_f) holds1_a holds1_c))),(4,(.lp lo1 0 0)),(5,(.lp lo3 0 0)),(6,(.lp lo4 0 0)),(13,(.fn (.func 103) [] [(.rp (eL aH yX))]))]/\aJ ⟨H0,[],[]⟩ H [(lo1,1,[(aC t4)]),(lo3,1,[(eL aD qK)]),(lo4,1,[(aC lO)])]/\BJ yI t4 qK lO yX=some r) ?_ ⟨false,[],false,x5,aZ,hO,h0⟩;clear hO h0;rintro T H ⟨t4,qK,lO,yX,hT,hO,h0⟩;refine bC (l:=[(3,(.rp (.fn (.func holds1_f) holds1_a holds1_c))),(4,(.lp lo1 0 0)),(5,(.lp lo3 0 0)),(6,(.lp lo4 0 0)),(13,(.fn (.func 103) [] [(.rp (eL aH yX))]))]) hT ?_;clear hT;unfold BJ at h0;obtain⟨o0,hl0,h0⟩:=aX h0;refine AO (fid:=103) (ys:=[]) (cs:=[(.rp (eL aH yX))]) #[14,15] (fun (A:tG) (b lL:Nat) (st:(Bool×(List aG)×Bool)⊕(Bool×(List aG)×Bool)) (G':Gs)=>Sum.elim (fun (s:Bool×(List aG)×Bool)=>G'=(lL,.raw (iD b A .ready none))::(up [(lo1,1,[(aC s.1)]),(lo3,1,[(eL aD s.2.1)]),(lo4,1,[(aC s.2.2)])]++[])) (fun (s:Bool×(List aG)×Bool)=>G'=(lL,.raw (iD b A .done (some .ret)))::(up [(lo1,1,[(aC s.1)]),(lo3,1,[(eL aD s.2.1)]),(lo4,1,[(aC s.2.2)])]++[])) st) (.inl (t4,qK,lO)) o0 (.tup []) (by kernel_rfl) (by kernel_rfl) (by kernel_rfl) hO (fun _ _=>rfl) ?_ ?_
 ·intro b lL;clear hO h0;refine HG _ b (fun st t14 t15=>rnd (fun (s:Bool×(List aG)×Bool)=>rE yI yX s.1 s.2.1 s.2.2 t14 t15) st) ?_ yX _ _ hl0;intro st t14 t15 out1 rr hr;obtain⟨s,rfl,h1,rfl⟩:=MO hr;clear hr;intro Hr Gr hi hg;obtain⟨t4,qK,lO⟩:=s;dsimp only [Sum.elim_inl] at hi;obtain rfl:=hi;replace h1:rE yI yX t4 qK lO t14 t15=some out1:=h1;unfold rE at h1;obtain⟨E1,hE,hO⟩:=qP hg;refine qO (yG (hO.gm 0 _ rfl).2 (by kernel_rfl) (by kernel_rfl) ?_);refine dZ [(3,(.rp (.fn (.func holds1_f) holds1_a holds1_c))),(4,(.lp lo1 0 0)),(5,(.lp lo3 0 0)),(6,(.lp lo4 0 0)),(13,(.fn (.func 103) [] [(.rp (eL aH yX))])),(14,(eL aD t14)),(15,(eL aO t15))] ?_;refine aV aB 1 [13,14] [(7,(eL aD t14))] ?_;refine aS aB 1 ?_;refine bB ?_;refine dP [(3,(.rp (.fn (.func holds1_f) holds1_a holds1_c))),(4,(.lp lo1 0 0)),(5,(.lp lo3 0 0)),(6,(.lp lo4 0 0)),(7,(eL aD t14)),(8,(eL aO t15))] ?_;refine aF (⟨rfl,rfl,(hO.gm 0 _ rfl).2,?_⟩);intro o1 ho1;replace hO:=hO.oX o1;refine bT 1 ?_;refine aM ?_;refine aM ?_;refine aS aB 18 ?_;refine bJ 1 ?_;obtain⟨x7,hx8,h1⟩:=aX h1;refine cN (KO t14 _ hx8) hO ?_;intro H hO;refine bJ 4 ?_;refine sH [(19,false)] 2 lo4 1 0 (aC lO) (aC lO) [(aC lO)] (by kernel_rfl) (by kernel_rfl) hO (by kernel_rfl) (!(!x7)) (by kernel_rfl) (fun hb10=>rfl) ?_;refine bJ 6 ?_;refine sH [(21,true),(19,false)] 1 lo3 1 0 (eL aD qK) (eL aD qK) [(eL aD qK)] (by kernel_rfl) (by kernel_rfl) hO (by kernel_rfl) (lO&&(!(!x7))) (by kernel_rfl) (fun hb11=>rfl) ?_;refine bJ 8 ?_;obtain⟨x12,hx13,h1⟩:=aX h1;refine mI [(21,true),(19,false)] 98 [(eL aD qK),(eL aD t14)] (eI x12) (lO&&(!(!x7))) (by kernel_rfl) (by kernel_rfl) (by kernel_rfl) (fun hb14=>(WQ qK t14 _ (gQ hx13 hb14))) hO ?_;intro H hO;refine bJ 15 ?_;obtain⟨x15,hx16,h1⟩:=aX h1;refine mI [(28,false)] holds1_f (holds1_a++[(eL aO t15)]++holds1_c) (aC x15) (!((!x7)||(lO&&(decide ((0:Int)<=x12))))) (by kernel_rfl) (by kernel_rfl) (by kernel_rfl) (fun hb17=>(holds1_h t15 _ (gQ hx16 hb17))) hO ?_;intro H hO;refine bB ?_;refine bN [3,8] [(33,(aC (((!x7)||(lO&&(decide ((0:Int)<=x12))))||(!x15))))] ?_;refine bH h1 (fun h1=>?_) (fun h1=>?_)
  ·refine aM ?_;refine aS aB 1 ?_;refine jY 0 lo1 1 0 (aC t4) (aC false) [(aC t4)] [(lo1,1,[(aC false)]),(lo3,1,[(eL aD qK)]),(lo4,1,[(aC lO)])] hO rfl (by kernel_rfl) ?_;intro H hO;refine dU ?_;refine bN [7,33] [] ?_;refine bG ?_;refine dP [(4,(.lp lo1 0 0)),(5,(.lp lo3 0 0)),(6,(.lp lo4 0 0))] ?_;obtain rfl:=oI h1;exact aF (aQ (bF (⟨(eB hO hE ho1 .dead).1,rfl,_,rfl,(eB hO hE ho1 _).2⟩)))
  refine bI ?_;refine bD [(4,(.lp lo1 0 0)),(5,(.lp lo3 0 0)),(6,(.lp lo4 0 0)),(7,(eL aD t14))] ?_;refine aS aB 3 ?_;refine bJ 1 ?_;refine jY 1 lo3 1 0 (eL aD qK) (eL aD t14) [(eL aD qK)] [(lo1,1,[(aC t4)]),(lo3,1,[(eL aD t14)]),(lo4,1,[(aC lO)])] hO rfl (by kernel_rfl) ?_;intro H hO;refine jY 2 lo4 1 0 (aC lO) (aC true) [(aC lO)] [(lo1,1,[(aC t4)]),(lo3,1,[(eL aD t14)]),(lo4,1,[(aC true)])] hO rfl (by kernel_rfl) ?_;intro H hO;refine dU ?_;refine dP [(4,(.lp lo1 0 0)),(5,(.lp lo3 0 0)),(6,(.lp lo4 0 0))] ?_;obtain rfl:=oI h1;exact aF (aU (⟨(eB hO hE ho1 .dead).1,rfl,_,rfl,(eB hO hE ho1 _).2⟩))
 ·intro b lD19 lL H' G' hi hO;rcases o0 with s | s
  ·dsimp only [Sum.elim_inl] at hi;obtain rfl:=hi;replace h0:(some true)=some r:=h0;obtain⟨hlL,hO⟩:=nN hO;refine⟨_,_,hlL,(by intro e; cases e),?_⟩;refine dP [(4,(.lp lo1 0 0))] ?_;replace hO:=hO.pick (L':=[(lo1,1,[(aC s.1)])]) [0] (by decide) (by kernel_rfl);refine aF (aU (aE (?_)));refine aM ?_;refine aS aB 1 ?_;refine jY 0 lo1 1 0 (aC s.1) (aC true) [(aC s.1)] [(lo1,1,[(aC true)])] hO rfl (by kernel_rfl) ?_;intro H hO;refine dU ?_;refine bD [(4,(.lp lo1 0 0))] ?_;refine bG ?_;obtain rfl:=oI h0;have hD:=(hO.gm 0 _ rfl).2;replace hO:=(hO.oX .dead).pH;exact aF (QM1 (.inr rfl) hD (rs:=[.cell 4 4]) (xs:=[(aC true)]) (x:=(aC true)) (by kernel_rfl) (nY (lo:=lo1) (k:=1) (y:=(aC true)) (x:=(aC true)) 0 hO (by kernel_rfl) (by kernel_rfl) (by kernel_rfl) (by kernel_rfl) oP) (by kernel_rfl) ⟨rfl,hO.out⟩)
  ·dsimp only [Sum.elim_inr] at hi;obtain rfl:=hi;replace h0:(some s.1)=some r:=h0;obtain⟨hlL,hO⟩:=nN hO;refine⟨_,_,hlL,(by intro e; cases e),?_⟩;refine bG ?_;replace hO:=hO.pick (L':=[(lo1,1,[(aC s.1)])]) [0] (by decide) (by kernel_rfl);obtain rfl:=oI h0;have hD:=(hO.gm 0 _ rfl).2;replace hO:=(hO.oX .dead).pH;exact aF (bF (aQ (QM1 (.inr rfl) hD (rs:=[.cell 4 4]) (xs:=[(aC s.1)]) (x:=(aC s.1)) (by kernel_rfl) (nY (lo:=lo1) (k:=1) (y:=(aC s.1)) (x:=(aC s.1)) 0 hO (by kernel_rfl) (by kernel_rfl) (by kernel_rfl) (by kernel_rfl) oP) (by kernel_rfl) ⟨rfl,hO.out⟩)))

theorem aA4 (n0:Int)(r:Bool)(h0:CY n0=some r):cU Tryz.prog 96 [(eI n0)] (aC r):=by
 intro H0;refine cQ Tryz.func96 ?_;have hO:=aJ.start H0;unfold CY at h0;refine aV aB 1 [] [] ?_;refine bM aB 7 [(2,(aC ((decide (n0<=(1048576:Int)))&&(decide ((-1048576:Int)<=n0)))))] ?_;refine bG ?_;obtain rfl:=oI h0;exact aF (Q_r hO)

theorem EL (f0:(List aI))(r:Bool)(h0:qI f0=some r):cU Tryz.prog 69 [(eL aO f0)] (aC r):=by
 intro H0;refine cQ Tryz.func69 ?_;have hO:=aJ.start H0;unfold qI at h0;refine aV aB 1 [] [] ?_;refine aM ?_;refine aV aB 3 [] [(8,(aC (decide ((1024:Int)<(lN f0)))))] ?_;refine bH h0 (fun h0=>?_) (fun h0=>?_)
 ·refine bM aB 1 [(2,(aC false))] ?_;refine bG ?_;obtain rfl:=oI h0;exact aF (aQ (Q_r hO))
 refine bI ?_;refine bD [(0,(eL aO f0))] ?_;refine aV aB 1 [] [(3,(eI (-2:Int)))] ?_;refine dN (fun T H=>Has T []/\aJ ⟨H0,[],[]⟩ H []/\zE  = some r) ?_ ?_
 ·clear hO h0;rintro T H ⟨hT,hO,h0⟩;refine bC hT ?_;clear hT;unfold zE at h0;refine bM aB 1 [(2,(aC true))] ?_;refine bG ?_;obtain rfl:=oI h0;exact aF (Q_r hO)
 refine aV aB 3 [0] [(9,(eL aO f0)),(10,(eI (lN f0))),(11,(eI (0:Int)))] ?_;refine bT 0 ?_;refine dZ [(3,(eI (-2:Int))),(9,(eL aO f0)),(10,(eI (lN f0))),(11,(eI (0:Int)))] ?_;refine dR (fun T H=>∃ tC:Int,∃ t9:(List aI),∃ t10:Int,∃ t11:Int,Has T [(3,(eI tC)),(9,(eL aO t9)),(10,(eI t10)),(11,(eI t11))]/\aJ ⟨H0,[],[]⟩ H []/\CX tC t9 t10 t11=some r) ?_ ⟨(-2:Int),f0,(lN f0),(0:Int),aZ,hO,h0⟩;clear hO h0;rintro T H ⟨tC,t9,t10,t11,hT,hO,h0⟩;refine bC hT ?_;clear hT;unfold CX at h0;obtain⟨rr0,hl0,h0⟩:=aX h0;refine fL (fun (s:Int×Int) T H=>Has T [(3,(eI s.1)),(9,(eL aO t9)),(10,(eI t10)),(11,(eI s.2))]/\aJ ⟨H0,[],[]⟩ H []) hl0 ⟨aZ,hO⟩ ?_;clear hO;rintro k0 s out1 T H ⟨hT,hO⟩ h1 ho0;obtain⟨tC,t11⟩:=s;replace h1:nM t9 t10 tC t11=some out1:=h1
 try dsimp only at hT
 refine bC hT ?_;clear hT;unfold nM at h1;refine aV aB 1 [] [(12,(aC (decide (t11<t10))))] ?_;refine aM ?_;refine bH h1 (fun h1=>?_) (fun h1=>?_)
 ·refine bI ?_;refine bD [(3,(eI tC)),(9,(eL aO t9)),(10,(eI t10)),(11,(eI t11))] ?_;refine aM ?_;refine bT 1 ?_;refine aM ?_;refine aS aB 4 ?_;obtain⟨c3,h1⟩:=bA h1;refine mL 2 [0<=t11/\t11<(lN t9)] ⟨c3,trivial⟩ ?_;refine mK 2 (aO (aI.mk 0 0)) (by kernel_rfl) (by kernel_rfl) hO ?_;intro lo4 H hO;refine jY 0 lo4 2 0 (aO (aI.mk 0 0)) (aO (gD t9 t11)) [(aO (aI.mk 0 0))] [(lo4,2,[(aO (gD t9 t11))])] hO rfl (by kernel_rfl) ?_;intro H hO;refine dU ?_;refine bN [] [(5,(.lp lo4 0 0))] ?_;refine aM ?_;refine aM ?_;refine aS aB 20 ?_;refine bJ 1 ?_;refine jX 0 lo4 2 0 (aO (gD t9 t11)) (eI ((gD t9 t11).At)) [(aO (gD t9 t11))] hO rfl ?_;refine bJ 6 ?_;refine sH [(19,false)] 0 lo4 2 0 (aO (gD t9 t11)) (eI ((gD t9 t11).At)) [(aO (gD t9 t11))] (by kernel_rfl) (by kernel_rfl) hO (by kernel_rfl) (!(decide (((gD t9 t11).At)<=tC))) (by kernel_rfl) (fun hb5=>rfl) ?_;refine bJ 11 ?_;refine sH [(24,false)] 0 lo4 2 0 (aO (gD t9 t11)) (eI ((gD t9 t11).Net)) [(aO (gD t9 t11))] (by kernel_rfl) (by kernel_rfl) hO (by kernel_rfl) (!((decide (((gD t9 t11).At)<=tC))||(decide ((1125899906842624:Int)<=((gD t9 t11).At))))) (by kernel_rfl) (fun hb6=>rfl) ?_;refine bJ 16 ?_;refine sH [(29,false)] 0 lo4 2 0 (aO (gD t9 t11)) (eI ((gD t9 t11).Net)) [(aO (gD t9 t11))] (by kernel_rfl) (by kernel_rfl) hO (by kernel_rfl) (!(((decide (((gD t9 t11).At)<=tC))||(decide ((1125899906842624:Int)<=((gD t9 t11).At))))||(decide (((gD t9 t11).Net)=(0:Int))))) (by kernel_rfl) (fun hb7=>rfl) ?_;obtain⟨x8,hx9,h1⟩:=aX h1;refine mI [(29,false)] 96 [(eI ((gD t9 t11).Net))] (aC x8) (!(((decide (((gD t9 t11).At)<=tC))||(decide ((1125899906842624:Int)<=((gD t9 t11).At))))||(decide (((gD t9 t11).Net)=(0:Int))))) (by kernel_rfl) (by kernel_rfl) (by kernel_rfl) (fun hb10=>(aA4 ((gD t9 t11).Net) _ (gQ hx9 hb10))) hO ?_;intro H hO;refine bB ?_;refine bN [3] [(34,(aC ((((decide (((gD t9 t11).At)<=tC))||(decide ((1125899906842624:Int)<=((gD t9 t11).At))))||(decide (((gD t9 t11).Net)=(0:Int))))||(!x8))))] ?_;refine bH h1 (fun h1=>?_) (fun h1=>?_)
  ·refine aM ?_;refine aS aB 1 ?_;refine bB ?_;refine dP [(2,(aC false))] ?_;replace hO:=hO.pick (L':=[]) [] (by decide) (by kernel_rfl);refine aF (aE (?_));refine bG ?_;obtain rfl:=oI h1;obtain rfl:_=rr0:=ho0;replace h0:some false=some r:=h0;obtain rfl:=oI h0;exact aF (aQ (bF (aQ (aQ (bF (aQ (Q_r hO)))))))
  refine bI ?_;refine bD [(5,(.lp lo4 0 0)),(9,(eL aO t9)),(10,(eI t10)),(11,(eI t11))] ?_;refine aS aB 3 ?_;refine bJ 1 ?_;refine jX 0 lo4 2 0 (aO (gD t9 t11)) (eI ((gD t9 t11).At)) [(aO (gD t9 t11))] hO rfl ?_;refine bB ?_;refine dP [(3,(eI ((gD t9 t11).At))),(9,(eL aO t9)),(10,(eI t10)),(11,(eI t11))] ?_;replace hO:=hO.pick (L':=[]) [] (by decide) (by kernel_rfl);refine aF (aU (aE (?_)));refine aS aB 2 ?_;refine bB ?_;exact aF (aE (⟨rfl,_,(oI h1).symm,aZ,hO⟩))
 refine eF 0 ?_;obtain rfl:=oI h1;obtain rfl:_=rr0:=ho0;replace h0:zE  = some r:=h0;exact aF (aW (aW (bP (aE (⟨rfl,aZ,hO,h0⟩)))))

theorem BW (l0:(List aK))(r:Bool)(h0:qN l0=some r):cU Tryz.prog 38 [(eL aH l0)] (aC r):=by
 intro H0;refine cQ Tryz.func38 ?_;have hO:=aJ.start H0;unfold qN at h0;refine aV aB 1 [] [] ?_;refine aM ?_;refine aS aB 3 ?_;refine bJ 1 ?_;obtain⟨x1,hx2,h0⟩:=aX h0;refine cN (NS l0 69 [] [] (fun y0=>qI y0) (fun y0 r h=>EL y0 r h) _ hx2) hO ?_;intro H hO;refine bB ?_;refine bD [(2,(aC x1))] ?_;refine bG ?_;obtain rfl:=oI h0;exact aF (Q_r hO)

theorem ZJ (f0:(List aI))(r:Int)(h0:xN f0=some r):cU Tryz.prog 74 [(eL aO f0)] (eI r):=by
 intro H0;refine cQ Tryz.func74 ?_;have hO:=aJ.start H0;unfold xN at h0;refine aV aB 1 [] [] ?_;refine aM ?_;refine aM ?_;refine aS aB 8 ?_;refine bJ 1 ?_;obtain⟨x1,hx2,h0⟩:=aX h0;refine cN (EL f0 _ hx2) hO ?_;intro H hO;refine bB ?_;refine bN [] [(14,(aC ((!x1)||(decide ((lN f0)=(0:Int))))))] ?_;refine bH h0 (fun h0=>?_) (fun h0=>?_)
 ·refine bM aB 1 [(2,(eI (0:Int)))] ?_;refine bG ?_;obtain rfl:=oI h0;exact aF (aQ (Q_r hO))
 refine bI ?_;refine bD [(0,(eL aO f0))] ?_;refine aV aB 2 [] [(3,(eI (0:Int))),(4,(eI (0:Int)))] ?_;refine dN (fun T H=>∃ v3:Int,∃ iZ:Int,Has T [(0,(eL aO f0)),(3,(eI v3)),(4,(eI iZ))]/\aJ ⟨H0,[],[]⟩ H []/\sC f0 v3 iZ=some r) ?_ ?_
 ·clear hO h0;rintro T H ⟨v3,iZ,hT,hO,h0⟩;refine bC hT ?_;clear hT;unfold sC at h0;refine dN (fun T H=>∃ iZ:Int,Has T [(4,(eI iZ))]/\aJ ⟨H0,[],[]⟩ H []/\vH iZ=some r) ?_ ?_
  ·clear hO h0;rintro T H ⟨iZ,hT,hO,h0⟩;refine bC hT ?_;clear hT;unfold vH at h0;refine bM aB 2 [(2,(eI iZ))] ?_;refine bG ?_;obtain rfl:=oI h0;exact aF (Q_r hO)
  refine aV aB 3 [0] [(24,(eL aO f0)),(25,(eI (lN f0))),(26,(eI (0:Int)))] ?_;refine bT 0 ?_;refine dZ [(3,(eI v3)),(4,(eI iZ)),(24,(eL aO f0)),(25,(eI (lN f0))),(26,(eI (0:Int)))] ?_;refine dR (fun T H=>∃ v3:Int,∃ iZ:Int,∃ t24:(List aI),∃ t25:Int,∃ t26:Int,Has T [(3,(eI v3)),(4,(eI iZ)),(24,(eL aO t24)),(25,(eI t25)),(26,(eI t26))]/\aJ ⟨H0,[],[]⟩ H []/\wC v3 iZ t24 t25 t26=some r) ?_ ⟨v3,iZ,f0,(lN f0),(0:Int),aZ,hO,h0⟩;clear hO h0;rintro T H ⟨v3,iZ,t24,t25,t26,hT,hO,h0⟩;refine bC hT ?_;clear hT;unfold wC at h0;obtain⟨rr0,hl0,h0⟩:=aX h0;refine fL (fun (s:Int×Int×Int) T H=>Has T [(3,(eI s.1)),(4,(eI s.2.1)),(24,(eL aO t24)),(25,(eI t25)),(26,(eI s.2.2))]/\aJ ⟨H0,[],[]⟩ H []) hl0 ⟨aZ,hO⟩ ?_;clear hO;rintro k0 s out1 T H ⟨hT,hO⟩ h1 ho0;obtain⟨v3,iZ,t26⟩:=s;replace h1:oG t24 t25 v3 iZ t26=some out1:=h1
  try dsimp only at hT
  refine bC hT ?_;clear hT;unfold oG at h1;refine aV aB 1 [] [(27,(aC (decide (t26<t25))))] ?_;refine aM ?_;refine bH h1 (fun h1=>?_) (fun h1=>?_)
  ·refine bI ?_;refine bD [(3,(eI v3)),(4,(eI iZ)),(24,(eL aO t24)),(25,(eI t25)),(26,(eI t26))] ?_;refine aM ?_;refine bT 1 ?_;refine aM ?_;refine aS aB 4 ?_;obtain⟨c6,h1⟩:=bA h1;refine mL 2 [0<=t26/\t26<(lN t24)] ⟨c6,trivial⟩ ?_;refine mK 2 (aO (aI.mk 0 0)) (by kernel_rfl) (by kernel_rfl) hO ?_;intro lo7 H hO;refine jY 0 lo7 2 0 (aO (aI.mk 0 0)) (aO (gD t24 t26)) [(aO (aI.mk 0 0))] [(lo7,2,[(aO (gD t24 t26))])] hO rfl (by kernel_rfl) ?_;intro H hO;refine dU ?_;refine bN [] [(6,(.lp lo7 0 0))] ?_;refine aM ?_;refine aS aB 5 ?_;refine bJ 2 ?_;refine jX 0 lo7 2 0 (aO (gD t24 t26)) (eI ((gD t24 t26).Net)) [(aO (gD t24 t26))] hO rfl ?_;refine bB ?_;replace hO:=hO.pick (L':=[]) [] (by decide) (by kernel_rfl);refine bN [3,6] [(3,(eI (wR (v3+((gD t24 t26).Net)))))] ?_;refine aS aB 4 ?_;refine bB ?_;refine dP [(3,(eI (wR (v3+((gD t24 t26).Net))))),(4,(eI (if (wR (v3+((gD t24 t26).Net)))<iZ then (wR (v3+((gD t24 t26).Net))) else iZ))),(24,(eL aO t24)),(25,(eI t25)),(26,(eI t26))] ?_;refine aF (aU (aE (?_)));refine aS aB 2 ?_;refine bB ?_;exact aF (aE (⟨rfl,_,(oI h1).symm,aZ,hO⟩))
  refine eF 0 ?_;obtain rfl:=oI h1;obtain rfl:_=rr0:=ho0;replace h0:vH iZ=some r:=h0;exact aF (aW (aW (bP (aE (⟨rfl,_,aZ,hO,h0⟩)))))
 refine aM ?_;refine aS aB 5 ?_;obtain⟨c8,h0⟩:=bA h0;refine mU [0<=(0:Int)/\(0:Int)<(lN f0)] ⟨c8,trivial⟩ ?_;refine bN [] [(19,(aC (decide (((gD f0 (0:Int)).At)=(-1:Int)))))] ?_;refine bH h0 (fun h0=>?_) (fun h0=>?_)
 ·refine aS aB 5 ?_;obtain⟨c10,h0⟩:=bA h0;refine mU [0<=(0:Int)/\(0:Int)<(lN f0)] ⟨c10,trivial⟩ ?_;exact aF (aE (⟨rfl,_,_,aZ,hO,h0⟩))
 refine bI ?_;exact aF (aE (⟨rfl,_,_,aZ,hO,h0⟩))

theorem TL (f0:(List aI))(r:Bool)(h0:uK f0=some r):cU Tryz.prog 73 [(eL aO f0)] (aC r):=by
 intro H0;refine cQ Tryz.func73 ?_;have hO:=aJ.start H0;unfold uK at h0;refine aV aB 1 [] [] ?_;refine aM ?_;refine aS aB 8 ?_;refine bJ 1 ?_;obtain⟨x1,hx2,h0⟩:=aX h0;refine cN (EL f0 _ hx2) hO ?_;intro H hO;refine bJ 4 ?_;obtain⟨x4,hx5,h0⟩:=aX h0;refine mI [(5,true)] 74 [(eL aO f0)] (eI x4) x1 (by kernel_rfl) (by kernel_rfl) (by kernel_rfl) (fun hb6=>(ZJ f0 _ (gQ hx5 hb6))) hO ?_;intro H hO;refine bB ?_;refine bD [(2,(aC (x1&&(decide ((0:Int)<=x4)))))] ?_;refine bG ?_;obtain rfl:=oI h0;exact aF (Q_r hO)

theorem BQ (l0:(List aK))(r:Bool)(h0:pN l0=some r):cU Tryz.prog 39 [(eL aH l0)] (aC r):=by
 intro H0;refine cQ Tryz.func39 ?_;have hO:=aJ.start H0;unfold pN at h0;refine aV aB 1 [] [] ?_;refine aM ?_;refine aS aB 3 ?_;refine bJ 1 ?_;obtain⟨x1,hx2,h0⟩:=aX h0;refine cN (NS l0 73 [] [] (fun y0=>uK y0) (fun y0 r h=>TL y0 r h) _ hx2) hO ?_;intro H hO;refine bB ?_;refine bD [(2,(aC x1))] ?_;refine bG ?_;obtain rfl:=oI h0;exact aF (Q_r hO)

theorem IA (w0:bW)(l1:(List aK))(t2:Int)(r:Int)(h0:qY w0 l1 t2=some r):cU Tryz.prog 18 [(cA w0),(eL aH l1),(eI t2)] (eI r):=by
 intro H0;refine cQ Tryz.func18 ?_;have hO:=aJ.start H0;unfold qY at h0;refine aM ?_;refine aS aB 2 ?_;refine kI 3 (cA w0) ?_;refine bB ?_;refine bN [0] [(3,(.rp (cA w0)))] ?_;refine aM ?_;refine bT 0 ?_;refine aM ?_;refine aS aB 9 ?_;refine bJ 1 ?_;obtain⟨x1,hx2,h0⟩:=aX h0;refine cN (CG w0 _ hx2) hO ?_;intro H hO;refine bJ 5 ?_;obtain⟨x4,hx5,h0⟩:=aX h0;refine mI [(11,false)] 38 [(eL aH l1)] (aC x4) (!(!decide (x1=(0:Int)))) (by kernel_rfl) (by kernel_rfl) (by kernel_rfl) (fun hb6=>(BW l1 _ (gQ hx5 hb6))) hO ?_;intro H hO;refine bB ?_;refine bN [3] [(7,(aC ((!decide (x1=(0:Int)))||(!x4))))] ?_;refine bH h0 (fun h0=>?_) (fun h0=>?_)
 ·refine bM aB 1 [(6,(eI (2:Int)))] ?_;refine bG ?_;obtain rfl:=oI h0;exact aF (bF (aQ (Q_r hO)))
 refine aM ?_;refine aS aB 4 ?_;refine bJ 1 ?_;obtain⟨x8,hx9,h0⟩:=aX h0;refine cN (BQ l1 _ hx9) hO ?_;intro H hO;refine bB ?_;refine bD [(2,(eI t2)),(16,(aC (!x8)))] ?_;refine bH h0 (fun h0=>?_) (fun h0=>?_)
 ·refine bM aB 1 [(6,(eI (20:Int)))] ?_;refine bG ?_;obtain rfl:=oI h0;exact aF (bF (aQ (Q_r hO)))
 refine bM aB 7 [(20,(aC ((decide (t2<(0:Int)))||(decide ((1125899906842624:Int)<t2)))))] ?_;refine bH h0 (fun h0=>?_) (fun h0=>?_)
 ·refine bM aB 1 [(6,(eI (13:Int)))] ?_;refine bG ?_;obtain rfl:=oI h0;exact aF (bF (aQ (Q_r hO)))
 refine bI ?_;refine dP [] ?_;refine aF (aU (aE (?_)));refine bM aB 1 [(6,(eI (0:Int)))] ?_;refine bG ?_;obtain rfl:=oI h0;exact aF (Q_r hO)

theorem UM (dF:Int)(hop1:Int)(r:Bool)(h0:AX dF hop1=some r):cU Tryz.prog 40 [(eI dF),(eI hop1)] (aC r):=by
 intro H0;refine cQ Tryz.func40 ?_;have hO:=aJ.start H0;unfold AX at h0;refine aV aB 1 [] [] ?_;refine bM aB 15 [(4,(aC ((((decide ((1:Int)<=dF))&&(decide (dF<=(1099511627776:Int))))&&(decide ((1:Int)<=hop1)))&&(decide (hop1<=(1099511627776:Int))))))] ?_;refine bG ?_;obtain rfl:=oI h0;exact aF (Q_r hO)

theorem JP (t0:Int)(r:Bool)(h0:vD t0=some r):cU Tryz.prog 41 [(eI t0)] (aC r):=by
 intro H0;refine cQ Tryz.func41 ?_;have hO:=aJ.start H0;unfold vD at h0;refine aV aB 1 [] [] ?_;refine bM aB 7 [(2,(aC ((decide ((0:Int)<=t0))&&(decide (t0<=(1125899906842624:Int))))))] ?_;refine bG ?_;obtain rfl:=oI h0;exact aF (Q_r hO)

theorem aBd (a0:Int)(b1:Int)(r:(Int×Int×Int))(h0:zO a0 b1=some r):cU Tryz.prog 75 [(eI a0),(eI b1)] (.tup [(eI r.1),(eI r.2.1),(eI r.2.2)]):=by
 intro H0;refine cQ Tryz.func75 ?_;have hO:=aJ.start H0;unfold zO at h0;refine aV aB 3 [] [] ?_;refine aM ?_;refine aV aB 2 [] [(10,(aC (decide (b1<(1:Int)))))] ?_;refine bH h0 (fun h0=>?_) (fun h0=>?_)
 ·refine bM aB 3 [(4,(eI (0:Int))),(5,(eI (0:Int))),(6,(eI (2:Int)))] ?_;refine bG ?_;obtain rfl:=oI h0;exact aF (aQ (Q_r hO))
 refine bI ?_;refine bD [(0,(eI a0)),(1,(eI b1))] ?_;refine aM ?_;refine eU (eT []) aB 8 ?_;obtain⟨c2,h0⟩:=bA h0;obtain⟨c3,h0⟩:=bA h0;refine DX (Ds:=[b1≠0,b1≠0]) (by kernel_rfl) ⟨c2,c3,trivial⟩ ?_;refine bN [0] [(7,(eI (wR (Int.tdiv a0 b1)))),(8,(eI (Int.tmod a0 b1)))] ?_;refine dN (fun T H=>∃ q7:Int,∃ r8:Int,Has T [(7,(eI q7)),(8,(eI r8))]/\aJ ⟨H0,[],[]⟩ H []/\yA q7 r8=some r) ?_ ?_
 ·clear hO h0;rintro T H ⟨q7,r8,hT,hO,h0⟩;refine bC hT ?_;clear hT;unfold yA at h0;refine bM aB 5 [(4,(eI q7)),(5,(eI r8)),(6,(eI (0:Int)))] ?_;refine bG ?_;obtain rfl:=oI h0;exact aF (Q_r hO)
 refine aV aB 2 [] [(18,(aC (decide ((Int.tmod a0 b1)<(0:Int)))))] ?_;refine bH h0 (fun h0=>?_) (fun h0=>?_)
 ·refine aS aB 7 ?_;refine bB ?_;exact aF (aE (⟨rfl,_,_,aZ,hO,h0⟩))
 refine bI ?_;exact aF (aE (⟨rfl,_,_,aZ,hO,h0⟩))

theorem GB (hop0:Int)(n1:Int)(r:Int)(h0:rA hop0 n1=some r):cU Tryz.prog 42 [(eI hop0),(eI n1)] (eI r):=by
 intro H0;refine cQ Tryz.func42 ?_;have hO:=aJ.start H0;unfold rA at h0;refine aV aB 1 [] [] ?_;refine aM ?_;refine aV aB 2 [] [(9,(aC (decide (n1<(0:Int)))))] ?_;refine bH h0 (fun h0=>?_) (fun h0=>?_)
 ·refine bM aB 1 [(4,(eI (0:Int)))] ?_;refine bG ?_;obtain rfl:=oI h0;exact aF (aQ (Q_r hO))
 refine bI ?_;refine bD [(0,(eI hop0)),(1,(eI n1))] ?_;refine aM ?_;refine aS aB 10 ?_;refine bJ 2 ?_;obtain⟨x2,hx3,h0⟩:=aX h0;refine cN (aBd n1 hop0 _ hx3) hO ?_;intro H hO;refine bB ?_;refine bN [1] [(5,(eI x2.1))] ?_;refine bM aB 5 [(4,(eI (wR ((wR (x2.1+(1:Int)))*hop0))))] ?_;refine bG ?_;obtain rfl:=oI h0;exact aF (Q_r hO)

theorem aCp (dF:Int)(hop1:Int)(t2:Int)(r:(Int×Int))(h0:CE dF hop1 t2=some r):cU Tryz.prog 19 [(eI dF),(eI hop1),(eI t2)] (.tup [(eI r.1),(eI r.2)]):=by
 intro H0;refine cQ Tryz.func19 ?_;have hO:=aJ.start H0;unfold CE at h0;refine aV aB 2 [] [] ?_;refine aM ?_;refine bT 0 ?_;refine aM ?_;refine aS aB 5 ?_;refine bJ 2 ?_;obtain⟨x1,hx2,h0⟩:=aX h0;refine cN (UM dF hop1 _ hx2) hO ?_;intro H hO;refine bB ?_;refine bN [] [(8,(aC (!x1)))] ?_;refine bH h0 (fun h0=>?_) (fun h0=>?_)
 ·refine bM aB 2 [(6,(eI (0:Int))),(7,(eI (2:Int)))] ?_;refine bG ?_;obtain rfl:=oI h0;exact aF (bF (aQ (Q_r hO)))
 refine aM ?_;refine aS aB 4 ?_;refine bJ 1 ?_;obtain⟨x5,hx6,h0⟩:=aX h0;refine cN (JP t2 _ hx6) hO ?_;intro H hO;refine bB ?_;refine bN [8] [(13,(aC (!x5)))] ?_;refine bH h0 (fun h0=>?_) (fun h0=>?_)
 ·refine bM aB 2 [(6,(eI (0:Int))),(7,(eI (13:Int)))] ?_;refine bG ?_;obtain rfl:=oI h0;exact aF (bF (aQ (Q_r hO)))
 refine aV aB 3 [13] [(17,(aC (decide (t2=(1125899906842624:Int)))))] ?_;refine bH h0 (fun h0=>?_) (fun h0=>?_)
 ·refine bM aB 2 [(6,(eI (1125899906842624:Int))),(7,(eI (0:Int)))] ?_;refine bG ?_;obtain rfl:=oI h0;exact aF (bF (aQ (Q_r hO)))
 refine bI ?_;refine dP [(0,(eI dF)),(1,(eI hop1)),(2,(eI t2))] ?_;refine aF (aU (aE (?_)));refine aM ?_;refine aS aB 8 ?_;refine bJ 4 ?_;obtain⟨x10,hx11,h0⟩:=aX h0;refine cN (GB hop1 (wR (t2-dF)) _ hx11) hO ?_;intro H hO;refine bB ?_;refine bD [(6,(eI (if (1125899906842624:Int)<x10 then (1125899906842624:Int) else x10))),(7,(eI (0:Int)))] ?_;refine bG ?_;obtain rfl:=oI h0;exact aF (Q_r hO)

theorem KR (l0:(List aK))(n1:Int)(r:Int)(h0:uI l0 n1=some r):cU Tryz.prog 43 [(eL aH l0),(eI n1)] (eI r):=by
 intro H0;refine cQ Tryz.func43 ?_;have hO:=aJ.start H0;unfold uI at h0;refine aV aB 1 [] [] ?_;refine aM ?_;refine bT 0 ?_;refine aM ?_;refine aS aB 12 ?_;refine bJ 1 ?_;obtain⟨x1,hx2,h0⟩:=aX h0;refine cN (BW l0 _ hx2) hO ?_;intro H hO;refine bB ?_;refine bN [1] [(5,(aC (((!x1)||(decide (n1<(1:Int))))||(decide ((64:Int)<n1)))))] ?_;refine bH h0 (fun h0=>?_) (fun h0=>?_)
 ·refine bM aB 1 [(4,(eI (2:Int)))] ?_;refine bG ?_;obtain rfl:=oI h0;exact aF (bF (aQ (Q_r hO)))
 refine aM ?_;refine aS aB 4 ?_;refine bJ 1 ?_;obtain⟨x5,hx6,h0⟩:=aX h0;refine cN (BQ l0 _ hx6) hO ?_;intro H hO;refine bB ?_;refine bD [(17,(aC (!x5)))] ?_;refine bH h0 (fun h0=>?_) (fun h0=>?_)
 ·refine bM aB 1 [(4,(eI (20:Int)))] ?_;refine bG ?_;obtain rfl:=oI h0;exact aF (bF (aQ (Q_r hO)))
 refine bI ?_;refine dP [] ?_;refine aF (aU (aE (?_)));refine bM aB 1 [(4,(eI (0:Int)))] ?_;refine bG ?_;obtain rfl:=oI h0;exact aF (Q_r hO)

theorem II (l0:(List aK))(r:(List aK))(h0:qT l0=some r):cU Tryz.prog 76 [(eL aH l0)] (.fn (.func 99) [] [(.rp (eL aH r))]):=by
 intro H0;refine cQ Tryz.func76 ?_;have hO:=aJ.start H0;unfold qT at h0;refine aM ?_;refine aS aB 2 ?_;refine kI 1 (eL aH l0) ?_;refine bB ?_;refine bD [(1,(.rp (eL aH l0)))] ?_;refine bM aB 2 [(2,(.fn (.func 99) [] [(.rp (eL aH l0))]))] ?_;refine bG ?_;obtain rfl:=oI h0;exact aF (kT (x:=(.fn (.func 99) [] [(.rp (eL aH l0))])) (by kernel_rfl) (aR.refl _) ⟨rfl,hO.out⟩)

theorem DJ {σ:Type}(I:σ->Gs->Prop)(yield0_b:Nat)(cL:σ->aK->Option (σ×Bool))(yield0_h:∀ st a0 st2 r,cL st a0=some (st2,r)->CW Tryz.prog (yv yield0_b) I st [(aH a0)] st2 (aC r))(t1:(List aK))(sg0:σ)(r:σ)(h0:nH cL t1 sg0=some r):yQ Tryz.prog 99 I sg0 [(yv yield0_b),(.rp (eL aH t1))] r (.tup []):=by
 intro H0 G0 hI hg;refine cQ Tryz.func99 ?_;obtain⟨G,hO,hI⟩:∃ G,aJ ⟨H0,List.map (fun p:Nat×dQ=>p.1) G0,G⟩ H0 []/\I sg0 G:=⟨G0,aJ.FZ hg,hI⟩;clear hg;unfold nH at h0;refine aV aB 3 [1] [(5,(eL aH t1)),(6,(eI (lN t1))),(7,(eI (0:Int)))] ?_;refine bT 0 ?_;refine dZ [(0,(yv yield0_b)),(5,(eL aH t1)),(6,(eI (lN t1))),(7,(eI (0:Int)))] ?_;refine dR (fun T H=>∃ sg:σ,∃ t5:(List aK),∃ t6:Int,∃ t7:Int,∃ G:Gs,Has T [(0,(yv yield0_b)),(5,(eL aH t5)),(6,(eI t6)),(7,(eI t7))]/\aJ ⟨H0,List.map (fun p:Nat×dQ=>p.1) G0,G⟩ H []/\I sg G/\rP cL sg t5 t6 t7=some r) ?_ ⟨sg0,t1,(lN t1),(0:Int),G,aZ,hO,hI,h0⟩;clear hO hI h0;rintro T H ⟨sg,t5,t6,t7,G,hT,hO,hI,h0⟩;refine bC hT ?_;clear hT;unfold rP at h0;obtain⟨rr0,hl0,h0⟩:=aX h0;refine fL (fun (s:σ×Int) T H=>∃ G:Gs,Has T [(0,(yv yield0_b)),(5,(eL aH t5)),(6,(eI t6)),(7,(eI s.2))]/\aJ ⟨H0,List.map (fun p:Nat×dQ=>p.1) G0,G⟩ H []/\I s.1 G) hl0 ⟨G,aZ,hO,hI⟩ ?_;clear hO hI;rintro k0 s out1 T H ⟨G,hT,hO,hI⟩ h1 ho0;obtain⟨sg,t7⟩:=s;replace h1:lC cL t5 t6 sg t7=some out1:=h1
 try dsimp only at hT
 refine bC hT ?_;clear hT;unfold lC at h1;refine aV aB 1 [] [(8,(aC (decide (t7<t6))))] ?_;refine aM ?_;refine bH h1 (fun h1=>?_) (fun h1=>?_)
 ·refine bI ?_;refine bD [(0,(yv yield0_b)),(5,(eL aH t5)),(6,(eI t6)),(7,(eI t7))] ?_;refine aM ?_;refine bT 1 ?_;refine aM ?_;refine aS aB 4 ?_;obtain⟨c2,h1⟩:=bA h1;refine mL 2 [0<=t7/\t7<(lN t5)] ⟨c2,trivial⟩ ?_;refine rF 3 (.agg [(.sl true 0 (fun _ => .bad)),(eI 0),(eI 0)]) (aH (aK.mk ([]) 0 0)) (by kernel_rfl) (by kernel_rfl) (by kernel_rfl) (zQ (xs:=[(.sl true 0 (fun _ => .bad)),(eI 0),(eI 0)]) (ys:=[(eL aD ([])),(eI 0),(eI 0)]) ⟨gS,aR.refl _,aR.refl _,trivial⟩) (by kernel_rfl) (by kernel_rfl) hO ?_;intro lo3 H hO;refine jY 0 lo3 3 0 (aH (aK.mk ([]) 0 0)) (aH (gD t5 t7)) [(aH (aK.mk ([]) 0 0))] [(lo3,3,[(aH (gD t5 t7))])] hO rfl (by kernel_rfl) ?_;intro H hO;refine dU ?_;refine bN [] [(4,(.lp lo3 0 0))] ?_;refine aM ?_;refine aS aB 14 ?_;refine bJ 1 ?_;refine jX 0 lo3 3 0 (aH (gD t5 t7)) (eI ((gD t5 t7).Net)) [(aH (gD t5 t7))] hO rfl ?_;refine bJ 5 ?_;refine sH [(14,true)] 0 lo3 3 0 (aH (gD t5 t7)) (eI ((gD t5 t7).At)) [(aH (gD t5 t7))] (by kernel_rfl) (by kernel_rfl) hO (by kernel_rfl) (decide ((0:Int)<((gD t5 t7).Net))) (by kernel_rfl) (fun hb4=>rfl) ?_;refine bJ 10 ?_;refine sH [(19,true)] 0 lo3 3 0 (aH (gD t5 t7)) (aH (gD t5 t7)) [(aH (gD t5 t7))] (by kernel_rfl) (by kernel_rfl) hO (by kernel_rfl) ((decide ((0:Int)<((gD t5 t7).Net)))&&(decide ((-1:Int)<((gD t5 t7).At)))) (by kernel_rfl) (fun hb5=>rfl) ?_;obtain⟨⟨x8,x9⟩,hx7,h1⟩:=aX h1;replace hx7:=aBr hx7;refine XK (I:=I) [(19,true)] ((decide ((0:Int)<((gD t5 t7).Net)))&&(decide ((-1:Int)<((gD t5 t7).At)))) (yv yield0_b) [(aH (gD t5 t7))] (aC x9) ⟨fun hb=>yield0_h _ (gD t5 t7) x8 x9 (hx7.1 hb),hx7.2⟩ hO hI ?_;intro G H hO hI;refine bB ?_;replace hO:=hO.pick (L':=[]) [] (by decide) (by kernel_rfl);refine bN [4] [(24,(aC (((decide ((0:Int)<((gD t5 t7).Net)))&&(decide ((-1:Int)<((gD t5 t7).At))))&&(!x9))))] ?_;refine bH h1 (fun h1=>?_) (fun h1=>?_)
  ·refine bG ?_;obtain rfl:=oI h1;obtain rfl:_=rr0:=ho0;replace h0:some x8=some r:=h0;obtain rfl:=oI h0;exact aF (bF (aQ (aQ (bF (kT (x:=(.tup [])) (by kernel_rfl) (aR.refl _) ⟨rfl,G,hI,hO.AL⟩)))))
  refine bI ?_;refine dP [(0,(yv yield0_b)),(5,(eL aH t5)),(6,(eI t6)),(7,(eI t7))] ?_;refine aF (aU (aE (?_)));refine aS aB 2 ?_;refine bB ?_;exact aF (aE (⟨rfl,_,(oI h1).symm,_,aZ,hO,hI⟩))
 refine eF 0 ?_;obtain rfl:=oI h1;obtain rfl:_=rr0:=ho0;replace h0:some sg=some r:=h0;obtain rfl:=oI h0;exact aF (aW (aW (bP (zY (x:=(.tup [])) (by kernel_rfl) (aR.refl _) ⟨rfl,G,hI,hO.AL⟩))))

theorem NH (x0:Int)(r:Int)(h0:qF x0=some r):cU Tryz.prog 115 [(cZ .u64 x0)] (eI r):=by
 intro H0;refine cQ Tryz.func115 ?_;have hO:=aJ.start H0;unfold qF at h0;refine aV aB 1 [] [(2,(eI (0:Int)))] ?_;refine dN (fun T H=>∃ x0:Int,∃ n2:Int,Has T [(0,(cZ .u64 x0)),(2,(eI n2))]/\aJ ⟨H0,[],[]⟩ H []/\lY x0 n2=some r) ?_ ?_
 ·clear hO h0;rintro T H ⟨x0,n2,hT,hO,h0⟩;refine bC hT ?_;clear hT;unfold lY at h0;refine dN (fun T H=>∃ x0:Int,∃ n2:Int,Has T [(0,(cZ .u64 x0)),(2,(eI n2))]/\aJ ⟨H0,[],[]⟩ H []/\lW x0 n2=some r) ?_ ?_
  ·clear hO h0;rintro T H ⟨x0,n2,hT,hO,h0⟩;refine bC hT ?_;clear hT;unfold lW at h0;refine dN (fun T H=>∃ x0:Int,∃ n2:Int,Has T [(0,(cZ .u64 x0)),(2,(eI n2))]/\aJ ⟨H0,[],[]⟩ H []/\nD x0 n2=some r) ?_ ?_
   ·clear hO h0;rintro T H ⟨x0,n2,hT,hO,h0⟩;refine bC hT ?_;clear hT;unfold nD at h0;refine aM ?_;refine aS aB 7 ?_;obtain⟨c1,h0⟩:=bA h0;refine mU [0<=(IntKind.u8.wrap x0)/\(IntKind.u8.wrap x0)<((ByteArray.size (⟨#[0,1,2,2,3,3,3,3,4,4,4,4,4,4,4,4,5,5,5,5,5,5,5,5,5,5,5,5,5,5,5,5,6,6,6,6,6,6,6,6,6,6,6,6,6,6,6,6,6,6,6,6,6,6,6,6,6,6,6,6,6,6,6,6,7,7,7,7,7,7,7,7,7,7,7,7,7,7,7,7,7,7,7,7,7,7,7,7,7,7,7,7,7,7,7,7,7,7,7,7,7,7,7,7,7,7,7,7,7,7,7,7,7,7,7,7,7,7,7,7,7,7,7,7,7,7,7,7,8,8,8,8,8,8,8,8,8,8,8,8,8,8,8,8,8,8,8,8,8,8,8,8,8,8,8,8,8,8,8,8,8,8,8,8,8,8,8,8,8,8,8,8,8,8,8,8,8,8,8,8,8,8,8,8,8,8,8,8,8,8,8,8,8,8,8,8,8,8,8,8,8,8,8,8,8,8,8,8,8,8,8,8,8,8,8,8,8,8,8,8,8,8,8,8,8,8,8,8,8,8,8,8,8,8,8,8,8,8,8,8,8,8,8,8,8,8,8,8,8,8,8,8,8,8,8,8]⟩:ByteArray):Nat):Int)] ⟨c1,trivial⟩ ?_;refine bD [(2,(eI (wR (n2+(wR (bt (⟨#[0,1,2,2,3,3,3,3,4,4,4,4,4,4,4,4,5,5,5,5,5,5,5,5,5,5,5,5,5,5,5,5,6,6,6,6,6,6,6,6,6,6,6,6,6,6,6,6,6,6,6,6,6,6,6,6,6,6,6,6,6,6,6,6,7,7,7,7,7,7,7,7,7,7,7,7,7,7,7,7,7,7,7,7,7,7,7,7,7,7,7,7,7,7,7,7,7,7,7,7,7,7,7,7,7,7,7,7,7,7,7,7,7,7,7,7,7,7,7,7,7,7,7,7,7,7,7,7,8,8,8,8,8,8,8,8,8,8,8,8,8,8,8,8,8,8,8,8,8,8,8,8,8,8,8,8,8,8,8,8,8,8,8,8,8,8,8,8,8,8,8,8,8,8,8,8,8,8,8,8,8,8,8,8,8,8,8,8,8,8,8,8,8,8,8,8,8,8,8,8,8,8,8,8,8,8,8,8,8,8,8,8,8,8,8,8,8,8,8,8,8,8,8,8,8,8,8,8,8,8,8,8,8,8,8,8,8,8,8,8,8,8,8,8,8,8,8,8,8,8,8,8,8,8,8,8]⟩:ByteArray) (IntKind.u8.wrap x0)))))))] ?_;refine bG ?_;obtain rfl:=oI h0;exact aF (Q_r hO)
   refine aV aB 2 [] [(14,(aC (decide ((256:Int)<=x0))))] ?_;refine bH h0 (fun h0=>?_) (fun h0=>?_)
   ·refine aM ?_;refine aS aB 3 ?_;obtain⟨c3,h0⟩:=bA h0;refine mU [0<=(8:Int)] ⟨c3,trivial⟩ ?_;refine bD [(0,(cZ .u64 (Int.fdiv x0 (2 ^ (min (Int.toNat (8:Int)) 64))))),(2,(eI n2))] ?_;refine aS aB 3 ?_;refine bB ?_;exact aF (aE (⟨rfl,_,_,aZ,hO,h0⟩))
   refine bI ?_;exact aF (aE (⟨rfl,_,_,aZ,hO,h0⟩))
  refine aV aB 2 [] [(8,(aC (decide ((65536:Int)<=x0))))] ?_;refine bH h0 (fun h0=>?_) (fun h0=>?_)
  ·refine aM ?_;refine aS aB 3 ?_;obtain⟨c5,h0⟩:=bA h0;refine mU [0<=(16:Int)] ⟨c5,trivial⟩ ?_;refine bD [(0,(cZ .u64 (Int.fdiv x0 (2 ^ (min (Int.toNat (16:Int)) 64))))),(2,(eI n2))] ?_;refine aS aB 3 ?_;refine bB ?_;exact aF (aE (⟨rfl,_,_,aZ,hO,h0⟩))
  refine bI ?_;exact aF (aE (⟨rfl,_,_,aZ,hO,h0⟩))
 refine aV aB 2 [] [(4,(aC (decide ((4294967296:Int)<=x0))))] ?_;refine bH h0 (fun h0=>?_) (fun h0=>?_)
 ·refine aM ?_;refine aS aB 3 ?_;obtain⟨c7,h0⟩:=bA h0;refine mU [0<=(32:Int)] ⟨c7,trivial⟩ ?_;refine bD [(0,(cZ .u64 (Int.fdiv x0 (2 ^ (min (Int.toNat (32:Int)) 64)))))] ?_;refine aS aB 1 ?_;refine bB ?_;exact aF (aE (⟨rfl,_,_,aZ,hO,h0⟩))
 refine bI ?_;exact aF (aE (⟨rfl,_,_,aZ,hO,h0⟩))

theorem GI (x0:Int)(r:Int)(h0:lR x0=some r):cU Tryz.prog 92 [(cZ .u64 x0)] (eI r):=by
 intro H0;refine cQ Tryz.func92 ?_;have hO:=aJ.start H0;unfold lR at h0;refine aV aB 1 [] [] ?_;refine aM ?_;refine nA (false) (fun hc1=>?_) (fun hc1=>?_)
 ·cases hc1
 ·refine bI ?_;refine aF (aE ?_);refine aM ?_;refine aS aB 3 ?_;refine bJ 1 ?_;obtain⟨x2,hx3,h0⟩:=aX h0;refine cN (NH x0 _ hx3) hO ?_;intro H hO;refine bB ?_;refine bD [(2,(eI x2))] ?_;refine bG ?_;obtain rfl:=oI h0;exact aF (Q_r hO)

theorem gC (x0:Int)(y1:Int)(r:Bool)(h0:dH x0 y1=some r):cU Tryz.prog 78 [(eI x0),(eI y1)] (aC r):=by
 intro H0;refine cQ Tryz.func78 ?_;have hO:=aJ.start H0;unfold dH at h0;refine aV aB 1 [] [] ?_;refine aM ?_;refine aS aB 13 ?_;refine bJ 1 ?_;obtain⟨x1,hx2,h0⟩:=aX h0;refine cN (xH x0 _ hx2) hO ?_;intro H hO;refine bJ 4 ?_;obtain⟨x4,hx5,h0⟩:=aX h0;refine mI [(7,true)] 100 [(eI y1)] (aC x4) x1 (by kernel_rfl) (by kernel_rfl) (by kernel_rfl) (fun hb6=>(xH y1 _ (gQ hx5 hb6))) hO ?_;intro H hO;refine bB ?_;refine bD [(4,(aC ((x1&&(!x4))||(decide (x0<y1)))))] ?_;refine bG ?_;obtain rfl:=oI h0;exact aF (Q_r hO)

end Go.Abs
end
