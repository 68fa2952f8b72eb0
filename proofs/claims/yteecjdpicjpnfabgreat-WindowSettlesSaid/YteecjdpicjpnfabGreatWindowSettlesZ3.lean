/- What the law WindowSettles stands on: the framework, the given functions as plain functions, their walks, and the plain laws; part 3. -/
import Derived.Test.YteecjdpicjpnfabGreatWindowSettlesZ2
set_option linter.unusedSimpArgs false
set_option linter.unusedVariables false
noncomputable section
namespace Go.Abs
open Go Go.RowKit Go.MapKept
variable {P:Program} {H:aU} {K:V->aU->Prop}
theorem aN.aGU {H0:aU}{E:List Nat}{M G:Gs}{L R:OL}(h:aN ⟨H0,E,M++G⟩ H (L++R)):aN ⟨H0,E,M++(up R++G)⟩ H L:=by
  have h1:aN ⟨H0,E,up R++(M++G)⟩ H L:=h.part;exact h1.qJ (by rw [←List.append_assoc,←List.append_assoc]; exact List.Perm.append_right _ List.perm_append_comm)

theorem aN.aGR {H0:aU}{E:List Nat}{M G:Gs}{L R:OL}(h:aN ⟨H0,E,M++(up R++G)⟩ H L):aN ⟨H0,E,M++G⟩ H (L++R):=by
  have h1:aN ⟨H0,E,up R++(M++G)⟩ H L:=h.qJ (by rw [←List.append_assoc,←List.append_assoc]; exact List.Perm.append_right _ List.perm_append_comm);exact aN.glue (F:=⟨H0,E,M++G⟩) h1

theorem aGY {tt:TT} {N:Nat} {T:Env} {ops:Array Oper} {K:Env->aU->Prop} {i n:Nat} {H0:aU} {E:List Nat} {G:Gs} {L0 L:OL} {Post:V->Gs->OL->Prop} {fid:Nat} {as0:List V} (M:Gs) (R:OL) (ix:List Nat) (hc:aE9 P fid as0 M L Post) (hO:aN ⟨H0,E,M++G⟩ H L0)
    (h:∀ x M' L' H',Post x M' L'->aN ⟨H0,E,M'++G⟩ H' (L'++R)->RWs P tt N ops (aM (i+1) n) (T.bR (cL ops i) ([],x)) H' K) (hnd:ix.Nodup:=by decide) (hp:ix.map (fun i=>L0[i]?)=(L++R).map some:=by kernel_rfl)
    (hs:aM i n=i::aM (i+1) n:=by kernel_rfl) (hd:nY N ops T i=some (fid,as0):=by kernel_rfl):RWs P tt N ops (aM i n) T H K :=
  JY hs hd (hc ⟨H0,E,up R++G⟩ H (hO.pick ix hnd hp).aGU) fun _ H' ⟨M',L',hP,hO'⟩=>h _ M' L' H' hP hO'.aGR

section ends
variable {fn:Func} {T:Env} {H:aU} {H0:aU} {E:List Nat} {G M:Gs} {Post:V->Gs->OL->Prop} {x:V} {L:OL}
end ends
end Go.Abs
namespace Go.Abs
open Go Go.RowKit
variable {P:Program} {tt:TT} {g:Gh} {w:World} {H:aU}
theorem aC2 {N:Nat} {c:Code} {l:List (Nat×V)} {ds:List Nat} {Q:Exit->Env->aU->List Nat->Prop} {fid:Nat} {ys cs:List V} {b0 l0:Nat} {A0:sP} {st0:LoopState} {pe0:Option Code} (h0:H[l0]?=some (.raw (gQ b0 A0 st0 pe0)))
    (hk:c.kind=9) (hf:cF (Env.ofL l) [] c.cnd=some (.fn (.func fid) ys cs)) {ps:Array Tmp} (hps:c.rps=ps)
    (h:∀ b,mI P fid (ys++[yv b]++cs) (H++[.raw (gQ b ⟨N,l,ps,c.asg,c.b⟩ .ready none)]) (fun _ H'=>∃ st pe,H'[H.length]?=some (.raw (gQ b ⟨N,l,ps,c.asg,c.b⟩ st pe))/\st ≠ .busy /\
      (match pe with
       | none=>Cl N Q .normal (Env.ofL l) (H'.set H.length .dead) ds
       | some c'=>AWP P (some b0) N c' (Env.ofL l) (H'.set H.length .dead) ds Q))):AWP P (some b0) N c (Env.ofL l) H ds Q:=by
  cases c with
  | rangeFunc fo ps' asg body =>
    simp only [Code.rps] at hps;subst hps;simp only [Code.cnd] at hf;simp only [Code.asg,Code.b] at h;intro g w a R hg hr;refine wpIn_rangeFunc ?_;intro fn _;obtain⟨o0,p1,p2,pb,r0,rfl,_⟩:=hg.sr.raw l0 _ h0;rw [pb] at p1;obtain⟨rec,hrec⟩:∃ rec:Loop,rec={ state:=.ready,pending:=none,fn,tmps:=a.tmps,params:=ps',assign:=asg,body,defers:=r0.defers }:=⟨_,rfl⟩
    have n2:=hg.sr.EU (.loop rec) rfl (gQ w.heap.size ⟨N,l,ps',asg,body⟩ .ready none) ⟨rfl,rec,rfl,by rw [hrec],by rw [hrec],by rw [hrec],by rw [hrec],by rw [hrec],by rw [hrec]; exact hg.sz,by
      have ht:rec.tmps=a.tmps:=by rw [hrec]
      rw [ht];exact hg.tr.DA ((hg.sr.EU (.loop rec) rfl ⟨fun _ _ _ _=>True,fun _ _=>trivial⟩ trivial).2.toExt0)⟩
    obtain⟨s2,e2⟩:=n2
    have henter:(Instr.enterLoop fn a.tmps ps' asg body (FR (some b0)).round).run P w=.ok (w.heap.size,[]) (w.alloc (.loop rec)):=by
      rw [hrec]; exact run_enterLoop_inner p1 fn a.tmps ps' asg body
    obtain⟨fs,cap,hfv,l1,l2,g1',g2'⟩:=(cG (hg.tr.DA e2.toExt0) (a:=a) (by intro p hp; simp at hp) hf).fnE;obtain⟨hent,hcalls⟩:=h w.heap.size;have hargs:(ys++[yv w.heap.size]++cs).length=(fs ++ #[Value.func (.yield w.heap.size) #[] #[]]++cap).size:=by simp [l1,l2]; omega
    refine⟨w.heap.size,[],w.alloc (.loop rec),⟨.fn (.func fid) cap,fs ++ #[Value.func (.yield w.heap.size) #[] #[]]⟩,w.alloc (.loop rec),fid,fs ++ #[Value.func (.yield w.heap.size) #[] #[]]++cap,w.alloc (.loop rec),henter,?_,fun _ _=>trivial,?_,fun h=>by simp [FR,Fence.wide] at h,?_⟩
    · have hm:Array.map a.eval #[Operand.const (Value.func (.yield w.heap.size) #[] #[])]=#[Value.func (.yield w.heap.size) #[] #[]]:=by
        simp [Act.eval]
      simp only [rangeCall,resolve,hfv,Deferred.ofValue,Sem.run_bind,Sem.run_pure,Result.andThen,hm]
    · simp only [invoke,hent]
    · refine IM ?_
      obtain⟨l4,g4⟩:=yC (xs:=ys) (ys:=[yv w.heap.size]) (as0:=fs) (bs := #[Value.func (.yield w.heap.size) #[] #[]]) l1 rfl g1' (fun i x y hx hy=>by
        cases i with
        | zero=>simp at hx hy; subst hx; subst hy; exact .lit _ rfl
        | succ i=>simp at hx)
      obtain⟨l5,g5⟩:=yC l4 l2 g4 g2';refine (hcalls _ _ _ s2 l5 g5).mono ?_;rintro e w3 ⟨v,r,g3,H3,rfl,_,s3,x3,st,pe,hL,hb,hq⟩;obtain⟨o3,q1,q2,qb,r3,rfl,z1,z2,z3,z4,z5,z6,z7⟩:=s3.raw _ _ hL;rw [qb] at q1;have s4:=s3.xD hL (.loop { r3 with state:=.exhausted }) rfl ⟨fun _ _ _ _=>True,fun _ _=>trivial⟩ trivial;rw [qb] at s4;obtain⟨s4,x4⟩:=s4;have s5:=s4.kill H.length;rw [List.set_set] at s5;have hxx:Ext g w g3 (w3.putObj w.heap.size (.loop { r3 with state:=.exhausted })):=(e2.trans x3).trans x4
      have hgood:Good N g3 (w3.putObj w.heap.size (.loop { r3 with state:=.exhausted })) (Env.ofL l) (H3.set H.length .dead) ds { a with defers:=[]++a.defers }:=by
        refine⟨s5,hg.tr.DA hxx.toExt0,?_,?_,hg.sz⟩
        · rw [List.nil_append,hg.df];apply List.map_congr_left;intro l' hl';simp only [mkD,hxx.blk l' (hg.dl l' hl')]
        · intro l' hl';exact Nat.lt_of_lt_of_le (hg.dl l' hl') hxx.n
      refine⟨_,_,run_endLoop q1 (by rw [z1]; exact hb),?_⟩;split
      · rename_i hp
        have hpe:pe=none:=z2.symm.trans hp;subst hpe;obtain⟨g5,T5,H5,hg5,hx5,hq5⟩:=hq _ _ _ hgood;exact hr _ _ _ _ _ _ _ hq5 hg5 (hxx.trans hx5)
      · rename_i c' hp
        have hpe:pe=some c':=z2.symm.trans hp;subst hpe;exact hq _ _ _ _ hgood fun e T' H' ds' g' w' a' hq' hg' hx'=>hr e T' H' ds' g' w' a' hq' hg' (hxx.trans hx')
  | region i o d=>cases d <;> simp [Code.kind] at hk
  | _=>simp [Code.kind] at hk

theorem aEl {σ:Type} {N:Nat} {Q:Exit->Env->aU->List Nat->Prop} {ds:List Nat} {c:Code} {l:List (Nat×V)} {fid:Nat} {ys cs:List V} {H0:aU} {E:List Nat} {G:Gs} {L:List (Nat×Nat×List V)} {b0 l0:Nat} {A0:sP} {st0:LoopState} {pe0:Option Code} (ps:Array Tmp) (I:sP->Nat->Nat->σ->Gs->Prop) (s0 s1:σ) (v:V)
    (h0:H[l0]?=some (.raw (gQ b0 A0 st0 pe0)))
    (hk:c.kind=9) (hf:cF (Env.ofL l) [] c.cnd=some (.fn (.func fid) ys cs)) (hps:c.rps=ps) (hO:aN ⟨H0,E,G⟩ H L)
    (hi:∀ b lL,I ⟨N,l,ps,c.asg,c.b⟩ b lL s0 ((lL,.raw (gQ b ⟨N,l,ps,c.asg,c.b⟩ .ready none))::(up L++G)))
    (hit:∀ b lL,yD P fid (I ⟨N,l,ps,c.asg,c.b⟩ b lL) s0 (ys++[yv b]++cs) s1 v)
    (hend:∀ b lL H' G',I ⟨N,l,ps,c.asg,c.b⟩ b lL s1 G'->aN ⟨H0,E,G'⟩ H' [] -> ∃ st pe,H'[lL]?=some (.raw (gQ b ⟨N,l,ps,c.asg,c.b⟩ st pe))/\st ≠ .busy /\
      (match pe with
       | none=>Cl N Q .normal (Env.ofL l) (H'.set lL .dead) ds
       | some c'=>AWP P (some b0) N c' (Env.ofL l) (H'.set lL .dead) ds Q)):AWP P (some b0) N c (Env.ofL l) H ds Q:=by
  refine aC2 h0 hk hf hps fun b=>?_;have o1:=hO.IA.QX (.raw (gQ b ⟨N,l,ps,c.asg,c.b⟩ .ready none));refine (hit b H.length _ _ (hi b H.length) o1.gok).mono ?_;rintro x H' ⟨_,G',hi',hst⟩;exact hend b H.length H' G' hi' (o1.QT hst)

theorem NF {H0:aU}{E:List Nat}{lL:Nat}{s:dN}{G:Gs}{L:List (Nat×Nat×List V)}(h:aN ⟨H0,E,(lL,s)::(up L++G)⟩ H []) :
    H[lL]?=some s/\aN ⟨H0,E,G⟩ (H.set lL .dead) L:=by
  refine⟨(h.gm 0 _ rfl).2,?_⟩;exact (h.nM .dead).nV.take

end Go.Abs
namespace Go.Abs
open Go Go.RowKit
theorem aGc {n:Nat}{el el':Nat->V}(h:∀ i,i<n->aR (el i) (el' i))(hn:∀ i,i<n->fW (el' i)=true):aR (.sl false n el) (.sl false n el'):=by
  intro g w v hv
  cases hv with
  | sl0 z el a cap hz=>exact .sl0 _ _ _ _ (by simp)
  | sl n el b o k cap c h1 h2 h3 h4 h5 h6=>exact .sl n _ b o k cap c (fun i hi=>h i hi g w _ (h1 i hi)) h2 h3 h4 h5 hn

theorem aFp {α:Type}[Inhabited α]{e:α->V}{xs:List V}{l:List α}(h:pS xs (l.map e))(hn:(l.map e).all fW=true):aR (eP xs) (eL e l):=by
  intro g w v hv;refine YQ g w v ?_;have hlen:=h.len
  cases xs with
  | nil =>
    cases l with
    | nil=>exact hv
    | cons a s=>simp at hlen
  | cons x r =>
    cases l with
    | nil=>simp at hlen
    | cons a s =>
      have hl:r.length=(s.map e).length:=by simpa using hlen
      show Rep g w (.sl false ((s.map e).length+1) (fun i=>(e a::s.map e).getD i .bad)) v;rw [←hl];refine aGc (fun i hi=>?_) (fun i hi=>?_) g w v hv
      · have h1:i<(x::r).length:=by simpa using hi
        have h2:i<(e a::s.map e).length:=by simp only [List.length_cons]; omega
        have h3:(x::r).getD i .bad=(x::r)[i]:=by simp only [List.getD_eq_getElem?_getD,List.getElem?_eq_getElem h1,Option.getD_some]
        have h4:(e a::s.map e).getD i .bad=(e a::s.map e)[i]:=by simp only [List.getD_eq_getElem?_getD,List.getElem?_eq_getElem h2,Option.getD_some]
        rw [h3,h4];exact h.get i _ _ (List.getElem?_eq_getElem h1) (List.getElem?_eq_getElem h2)
      · have h2:i<(e a::s.map e).length:=by simp only [List.length_cons]; omega
        have h4:(e a::s.map e).getD i .bad=(e a::s.map e)[i]:=by simp only [List.getD_eq_getElem?_getD,List.getElem?_eq_getElem h2,Option.getD_some]
        rw [h4];exact List.all_eq_true.1 hn (e a::s.map e)[i] (List.getElem_mem h2)

def tI:Option Nat->V
  | none=>.lit (.pointer none)
  | some a=>.lp a 0 0

section bundles
variable {β:Type} (sh:Nat->Nat->β->OL)
def pmM:List (Nat×Nat)->List (Int×β)->List (Int×Option Nat)
  | q::los,p::m=>(p.1,some q.1)::pmM los m
  | _,_=>[]

def pmL:List (Nat×Nat)->List (Int×β)->OL
  | q::los,p::m=>sh q.1 q.2 p.2++pmL los m
  | _,_=>[]

def pmG (lm:Nat)(los:List (Nat×Nat))(m:List (Int×β)):Gs:=(lm,pV tI (pmM los m))::up (pmL sh los m)

variable {sh}
theorem TF:∀ {los:List (Nat×Nat)} {m:List (Int×β)},los.length=m.length->(pmM los m).length=m.length
  | [],[],_=>rfl
  | _::_,_::_,h=>by simp only [pmM,List.length_cons]; rw [TF (by simpa using h)]
  | [],_::_,h=>by simp at h
  | _::_,[],h=>by simp at h

theorem aA1 {k:Int}:∀ {los:List (Nat×Nat)} {m:List (Int×β)},gK m k=none->gK (pmM los m) k=none
  | [],[],_=>rfl
  | [],_::_,_=>rfl
  | _::_,[],_=>rfl
  | q::los,p::m,h=>by
    rw [gK] at h;split at h
    · cases h
    · rename_i hk
      rw [pmM,gK,if_neg hk,aA1 h]

def Put (sh:Nat->Nat->β->OL)(m:List (Int×β))(k:Int)(a:Nat)(MM:List (Int×Option Nat))(R:OL):Prop :=
  ∀ b' p',∃ los',los'.length=(fB m k p').length/\MM=pmM los' (fB m k p')/\(sh a b' p'++R).Perm (pmL sh los' (fB m k p'))

theorem XX {k:Int}{x:β}:∀ {los:List (Nat×Nat)} {m:List (Int×β)},los.length=m.length->gK m k=some x ->
    ∃ a b R,gK (pmM los m) k=some (some a)/\(pmL sh los m).Perm (sh a b x++R)/\Put sh m k a (pmM los m) R
  | [],[],_,h=>by cases h
  | [],_::_,h,_=>by simp at h
  | _::_,[],h,_=>by simp at h
  | q::los,p::m,hl,h=>by
    rw [gK] at h;by_cases hk:p.1=k
    · rw [if_pos hk] at h
      cases h
      refine⟨q.1,q.2,pmL sh los m,by rw [pmM,gK,if_pos hk],List.Perm.refl _,fun b' p'=>⟨(q.1,b')::los,?_,?_,?_⟩⟩
      · simp only [fB,if_pos hk]; simpa using hl
      · simp only [fB,if_pos hk]; simp only [pmM,hk]
      · simp only [fB,if_pos hk,pmL]; exact List.Perm.refl _
    · rw [if_neg hk] at h;obtain⟨a,b,R,h1,h2,h3⟩:=XX (los:=los) (m:=m) (by simpa using hl) h;refine⟨a,b,sh q.1 q.2 p.2++R,by rw [pmM,gK,if_neg hk,h1],?_,fun b' p'=>?_⟩
      · rw [pmL];refine (List.Perm.append_left _ h2).trans ?_;rw [←List.append_assoc,←List.append_assoc];exact List.Perm.append_right _ List.perm_append_comm
      · obtain⟨los',e1,e2,e3⟩:=h3 b' p';refine⟨q::los',?_,?_,?_⟩
        · simp only [fB,if_neg hk,List.length_cons,e1]
        · simp only [fB,if_neg hk,pmM,e2]
        · simp only [fB,if_neg hk,pmL];refine List.Perm.trans ?_ (List.Perm.append_left _ e3);rw [←List.append_assoc,←List.append_assoc];exact List.Perm.append_right _ List.perm_append_comm

theorem aCx {k:Int}{a:Nat}:∀ {los:List (Nat×Nat)} {m:List (Int×β)},los.length=m.length->gK m k=none->Put sh m k a (fB (pmM los m) k (some a)) (pmL sh los m)
  | [],[],_,_=>fun b' p'=>⟨[(a,b')],rfl,rfl,by simp [fB,pmL]⟩
  | [],_::_,h,_=>by simp at h
  | _::_,[],h,_=>by simp at h
  | q::los,p::m,hl,h=>by
    rw [gK] at h;split at h
    · cases h
    · rename_i hk
      intro b' p';obtain⟨los',e1,e2,e3⟩:=aCx (a:=a) (los:=los) (m:=m) (by simpa using hl) h b' p';refine⟨q::los',?_,?_,?_⟩
      · simp only [fB,if_neg hk,List.length_cons,e1]
      · simp only [pmM,fB,if_neg hk,e2]
      · simp only [fB,if_neg hk,pmL];refine List.Perm.trans ?_ (List.Perm.append_left _ e3);rw [←List.append_assoc,←List.append_assoc];exact List.Perm.append_right _ List.perm_append_comm

theorem CT (A B:OL):up (A++B)=up A++up B:=by simp [up]

theorem aN.aE8 {H0:aU}{E:List Nat}{G:Gs}{H:aU}{L R:OL}(h:aN ⟨H0,E,up R++G⟩ H L):aN ⟨H0,E,G⟩ H (R++L):=by
  have h1:aN ⟨H0,E,G⟩ H (L++R):=aN.glue (F:=⟨H0,E,G⟩) h;have h2:=h1.IA;exact (h2.qJ (G':=up (R++L)++G) (List.Perm.append_right _ (by rw [CT,CT]; exact List.perm_append_comm))).take

theorem aN.aFh {H0:aU}{E:List Nat}{G:Gs}{H:aU}{L R:OL}(h:aN ⟨H0,E,G⟩ H (R++L)):aN ⟨H0,E,up R++G⟩ H L:=by
  have h2:=h.IA;have h3:aN ⟨H0,E,G⟩ H (L++R):=(h2.qJ (G':=up (L++R)++G) (List.Perm.append_right _ (by rw [CT,CT]; exact List.perm_append_comm))).take;exact aN.part (F:=⟨H0,E,G⟩) h3

theorem aN.aCc {H0:aU}{E:List Nat}{H:aU}{L:OL}:∀ {G:Gs},aN ⟨H0,E,G⟩ H L->aN ⟨H0,E,[]⟩ H L
  | [],h=>h
  | _::_,h=>aN.aCc h.nV

theorem aN.focus {H0:aU}{E:List Nat}{G:Gs}{H:aU}{L:OL}{lm:Nat}{los:List (Nat×Nat)}{m:List (Int×β)}{k:Int}{x:β}(h:aN ⟨H0,E,pmG sh lm los m++G⟩ H L)(hl:los.length=m.length)(hg:gK m k=some x) :
    ∃ a b R,gK (pmM los m) k=some (some a)/\Put sh m k a (pmM los m) R/\aN ⟨H0,E,(lm,pV tI (pmM los m))::(up R++G)⟩ H (sh a b x++L):=by
  obtain⟨a,b,R,h1,h2,h3⟩:=XX (sh:=sh) hl hg;refine⟨a,b,R,h1,h3,?_⟩
  have : (pmG sh lm los m++G).Perm (up (sh a b x)++((lm,pV tI (pmM los m))::(up R++G))):=by
    unfold pmG;refine List.Perm.trans ?_ List.perm_middle.symm;refine List.Perm.cons _ ?_;rw [←List.append_assoc,←CT];exact List.Perm.append_right _ (h2.map _)
  exact (h.qJ this).aE8

theorem aN.aBo {H0:aU}{E:List Nat}{G:Gs}{H:aU}{L R:OL}{lm a b:Nat}{MM:List (Int×Option Nat)}{m:List (Int×β)}{k:Int}{x:β}(h:aN ⟨H0,E,(lm,pV tI MM)::(up R++G)⟩ H (sh a b x++L))(hp:Put sh m k a MM R) :
    ∃ los',los'.length=(fB m k x).length/\aN ⟨H0,E,pmG sh lm los' (fB m k x)++G⟩ H L:=by
  obtain⟨los',e1,e2,e3⟩:=hp b x;refine⟨los',e1,?_⟩;have h1:=h.aFh;refine h1.qJ ?_;unfold pmG;refine List.perm_middle.trans ?_;rw [e2];refine List.Perm.cons _ ?_;rw [←List.append_assoc,←CT];exact List.Perm.append_right _ (e3.map _)

theorem NL {P:Program} {ro:Option Nat} {N:Nat} {c:Code} {T:Env} {ds:List Nat} {Q:Exit->Env->aU->List Nat->Prop} {α:Type} [Inhabited α] {H0:aU} {E:List Nat} (k k2 j:Nat) (cs:Nat->β->List V) (rows:β->List α) (e:α->V) (sf:β->V)
    (hsh:∀ a b p,sh a b p=[(a,k,[.agg (cs b p)]),(b,k2,(rows p).map e)]) (hj:∀ b p,(cs b p)[j]?=some (.msl k2 b 0 (rows p).length)) (hsf:∀ b p,V.agg ((cs b p).set j (eL e (rows p)))=sf p) :
    ∀ (m:List (Int×β)) (los:List (Nat×Nat)) {G:Gs} {H:aU} {L:OL},los.length=m.length->aN ⟨H0,E,up (pmL sh los m)++G⟩ H L ->
      (∀ H',aN ⟨H0,E,up (pmL (fun a _ p=>[(a,k,[sf p])]) los m)++G⟩ H' L->AWP P ro N c T H' ds Q)->AWP P ro N c T H ds Q
  | [],[],G,H,L,_,hO,h=>h H hO
  | [],_::_,_,_,_,hl,_,_=>by simp at hl
  | _::_,[],_,_,_,hl,_,_=>by simp at hl
  | p::m,q::los,G,H,L,hl,hO,h=>by
    rw [pmL,CT,List.append_assoc] at hO;have h1:=hO.aE8;rw [hsh] at h1;refine NA (e:=e) (rows p.2) 0 1 k k2 q.1 q.2 (rows p.2).length j (cs q.2 p.2) ((q.1,k,[sf p.2])::L) h1 rfl (hj _ _) rfl rfl rfl (by rw [←hsf q.2 p.2]; rfl) fun H' hO'=>?_;have h2:=aN.aFh (R:=[(q.1,k,[sf p.2])]) (L:=L) hO'
    have h3:aN ⟨H0,E,up (pmL sh los m)++(up [(q.1,k,[sf p.2])]++G)⟩ H' L:=h2.qJ (by
      rw [←List.append_assoc,←List.append_assoc]; exact List.Perm.append_right _ List.perm_append_comm)
    refine NL k k2 j cs rows e sf hsh hj hsf m los (by simpa using hl) h3 fun H'' hO''=>h H'' ?_;refine hO''.qJ ?_;rw [pmL,CT,←List.append_assoc];exact List.Perm.append_right _ List.perm_append_comm

end bundles
def aES:V->Option Bool
  | .lit (.pointer none)=>some true
  | .lp _ _ _=>some false
  | _=>none

section nils
variable {P:Program} {tt:TT} {N:Nat} {T:Env} {H:aU} {ops:Array Oper} {K:Env->aU->Prop} {i n:Nat}
theorem YJ {K:V->aU->Prop}{op:BinOp}{t e u:TypeId}{x y:Operand}{z:V}{b:Bool}(hop:op=.eql∨op=.neq)(hu:P.underlying t=some (.pointer e))(hz:aES z=some b)(h:K (.lit (.bool (if op=.eql then b else !b))) H):FC P (.binOp op t x y u) [z,.lit (.pointer none)] H K:=by
  intro ro o a g w next R ho hs hx hn;have r1:=hx.2 0 z (a.eval x) rfl (by simp [Op.operands]);have r2:=hx.2 1 (.lit (.pointer none)) (a.eval y) rfl (by simp [Op.operands]);have e2:a.eval y=.pointer none:=r2.mD
  have e1:∃ ad,a.eval x=.pointer ad/\ad.isNone=b:=by
    unfold aES at hz;split at hz
    · simp at hz; subst hz; exact ⟨none,r1.mD,rfl⟩
    · simp at hz; subst hz; obtain ⟨_,h2⟩:=r1.lpE; exact ⟨_,h2,rfl⟩
    · cases hz
  obtain⟨ad,e1,e3⟩:=e1
  have hq:(Op.equal t (.pointer ad) (.pointer none)).run P w=.ok b w:=by
    unfold Op.equal Op.maxDepth;unfold Op.equalIn;simp only [Sem.run_bind,run_underlying hu,Result.andThen]
    cases ad with
    | none=>subst e3; rfl
    | some ad=>subst e3; rfl
  have hr:(execOp a.eval o).run P w=.ok (.value (.bool (if op=.eql then b else !b))) w:=by
    cases o
    simp only at ho;subst ho;rcases hop with rfl | rfl
    · have h1:(eqGuard .eql t x y (.pointer ad) (.pointer none)).run P w=.ok () w:=rfl
      have h2:(binOp .eql t (.pointer ad) (.pointer none)).run P w=.ok (.bool b) w:=by
        simp only [binOp,Sem.run_bind,hq,Result.andThen]; rfl
      simp [execOp,e1,e2,h1,h2,Result.andThen]
    · have h1:(eqGuard .neq t x y (.pointer ad) (.pointer none)).run P w=.ok () w:=rfl
      have h2:(binOp .neq t (.pointer ad) (.pointer none)).run P w=.ok (.bool (!b)) w:=by
        simp only [binOp,Sem.run_bind,hq,Result.andThen]; rfl
      simp [execOp,e1,e2,h1,h2,Result.andThen]
  exact eG (fun c e=>by rw [e] at ho; cases ho) hr (hn _ _ _ _ _ h hs (.lit _ rfl) (Ext.refl g w))

def aFf (P:Program)(t:TypeId):Bool:=match P.underlying t with
  | some (.pointer _)=>true
  | _=>false

def aDu (P:Program)(N:Nat)(ops:Array Oper)(T:Env)(i:Nat):Option Bool:=match fU N ops i with
  | some (.binOp op t x y _)=>match aFf P t,cF T [] x,cF T [] y with
    | true,some z,some (.lit (.pointer none))=>match aES z,op with
      | some b,.eql=>some b
      | some b,.neq=>some (!b)
      | _,_=>none
    | _,_,_=>none
  | _=>none

theorem ZJ (b:Bool) (h:RWs P tt N ops (aM (i+1) n) (T.bR (cL ops i) ([],.lit (.bool b))) H K)
    (hs:aM i n=i::aM (i+1) n:=by kernel_rfl) (hd:aDu P N ops T i=some b:=by kernel_rfl):RWs P tt N ops (aM i n) T H K:=by
  unfold aDu at hd;split at hd
  · rename_i op t x y u hp
    split at hd
    · rename_i z hi hx hy
      unfold aFf at hi;split at hi
      · rename_i e hu
        split at hd
        · rename_i b' hz
          simp at hd; subst hd;exact wZ hs hp (xs:=[z,.lit (.pointer none)]) (by simp [Op.operands,iH,hx,hy]) (YJ (.inl rfl) hu hz (by simpa using h))
        · rename_i b' hz
          simp at hd; subst hd;exact wZ hs hp (xs:=[z,.lit (.pointer none)]) (by simp [Op.operands,iH,hx,hy]) (YJ (.inr rfl) hu hz (by simpa using h))
        · cases hd
      · cases hi
    · cases hd
  · cases hd

end nils
theorem SR.aFP {g:Gh}{w:World}{H:aU}(h:SR g w H){l:Nat}{s s':Sp}(hl:H[l]?=some (.raw s))(hs:∀ g w b o,s.p g w b o->s'.p g w b o):SR g w (H.set l (.raw s')):=by
  have hlt:l<H.length:=(List.getElem?_eq_some_iff.1 hl).1
  have hat:∀ l' ob,(H.set l (.raw s'))[l']?=some ob->(l'=l/\ob=.raw s')∨(l'≠l/\H[l']?=some ob):=by
    intro l' ob hl';rw [List.getElem?_set] at hl';split at hl'
    · rename_i heq
      simp [heq ▸ hlt] at hl';exact .inl ⟨heq.symm,hl'.symm⟩
    · rename_i hne; exact .inr ⟨fun e=>hne e.symm,hl'⟩
  refine { len:=by simp [h.len],fxc:=h.fxc,nt:=?_,kk:=?_,vec:=?_,raw:=?_,disj:=?_,rawd:=?_ }
  · intro l' k1 es1 hl1;rcases hat _ _ hl1 with ⟨_,he⟩ | ⟨_,hl2⟩
    · cases he
    · exact h.nt l' k1 es1 hl2
  · intro l' k1 es1 hl1;rcases hat _ _ hl1 with ⟨_,he⟩ | ⟨_,hl2⟩
    · cases he
    · exact h.kk l' k1 es1 hl2
  · intro l' k1 es1 hl1;rcases hat _ _ hl1 with ⟨_,he⟩ | ⟨_,hl2⟩
    · cases he
    · exact h.vec l' k1 es1 hl2
  · intro l' s1 hl1;rcases hat _ _ hl1 with ⟨rfl,he⟩ | ⟨_,hl2⟩
    · cases he
      obtain⟨o,q1,q2,q3⟩:=h.raw l' _ hl;exact⟨o,q1,q2,hs _ _ _ _ q3⟩
    · exact h.raw l' s1 hl2
  · intro a b k1 k2 es1 es2 ha hb2 hne;rcases hat _ _ ha with ⟨_,he⟩ | ⟨_,ha2⟩
    · cases he
    · rcases hat _ _ hb2 with ⟨_,he⟩ | ⟨_,hb3⟩
      · cases he
      · exact h.disj _ _ _ _ _ _ ha2 hb3 hne
  · intro a b s1 s2 ha hb2 hne;rcases hat _ _ ha with ⟨rfl,_⟩ | ⟨_,ha2⟩ <;> rcases hat _ _ hb2 with ⟨rfl,_⟩ | ⟨_,hb3⟩
    · exact absurd rfl hne
    · exact h.rawd _ _ _ _ hl hb3 hne
    · exact h.rawd _ _ _ _ ha2 hl hne
    · exact h.rawd _ _ _ _ ha2 hb3 hne

theorem aC4 {N:Nat} {Q:Exit->Env->aU->List Nat->Prop} {ds:List Nat} {e:Exit} {T:Env} {H H0:aU} {E:List Nat} {G:Gs} {L:OL} {β:Type} {f:β->V} {m:List (Int×β)} {bs:List Nat} {l clock:Nat} (hO:aN ⟨H0,E,(l,GV f m bs clock)::G⟩ H L)
    (h:∀ H',aN ⟨H0,E,(l,pV f m)::G⟩ H' L->Cl N Q e T H' ds):Cl N Q e T H ds :=
  BO (fun g w _ _ hg=>⟨g,⟨hg.sr.aFP (hO.gm 0 _ rfl).2 (s':=EW dI (uX f m)) fun _ _ _ _ ⟨es,h1,_,h3,h4,h5⟩=>⟨es,clock,h1,h3,h4,h5⟩,hg.tr,hg.df,hg.dl,hg.sz⟩,Ext.refl g w⟩) (h _ (hO.nM _))

theorem RA {S β:Type}(g:S->Int->Option S):∀ (q:List (Int×β)) (s:S),dR (fun s (x:Int×β)=>g s x.1) s q=dR g s (q.map (·.1))
  | [],_=>rfl
  | x::q,s=>by
    simp only [dR,List.map_cons]
    cases g s x.1 with
    | none=>rfl
    | some s'=>exact RA g q s'

theorem XC {β:Type}:∀ {los:List (Nat×Nat)} {m:List (Int×β)},los.length=m.length->(pmM los m).map (·.1)=m.map (·.1)
  | [],[],_=>rfl
  | _::_,_::_,h=>by simp only [pmM,List.map_cons]; rw [XC (by simpa using h)]
  | [],_::_,h=>by simp at h
  | _::_,[],h=>by simp at h

theorem aFA {S R β:Type}{g:S->Int->Option S}{after:S->Option R}{s:S}{r:R}{los:List (Nat×Nat)}{m:List (Int×β)}(hl:los.length=m.length)(h:uH (m.map (·.1)) (fun q=>(dR g s q).bind after)=some r) :
    uH (pmM los m) (fun q=>(dR (fun s (x:Int×Option Nat)=>g s x.1) s q).bind after)=some r :=
  MD fun q hq=>by
    rw [RA];exact UD h _ (by rw [←XC hl]; exact hq.map _)

theorem UE {β:Type}{k:Int}{x:β}:∀ {m:List (Int×β)},gK m k=some x->fB m k x=m
  | [],h=>by cases h
  | p::m,h=>by
    rw [gK] at h;by_cases hk:p.1=k
    · rw [if_pos hk] at h; cases h;rw [fB,if_pos hk,←hk]
    · rw [if_neg hk] at h;simp only [fB,if_neg hk,UE h]

end Go.Abs
namespace Go.Abs
open Go Go.RowKit
section
variable {P:Program} {tt:TT} {ro:Option Nat} {N:Nat} {T:Env} {H:aU} {ds:List Nat} {Q:Exit->Env->aU->List Nat->Prop} {ops:Array Oper} {K:Env->aU->Prop} {i n:Nat}
theorem aZ {l:List (Nat×V)}(h:l.map (fun p=>T p.1)=l.map (fun p=>some ([],p.2)):=by kernel_rfl):Has T l:=.eq h

theorem iM {c:Code} {S R:Type} {body:S->Option (S⊕R)} {s:S} {r:R} (I:S->Env->aU->Prop) (hl:lp body s=some r) (h0:I s T H)
    (round:∀ k s out T H,I s T H->body s=some out->aCv body k r out->AWP P ro N c.b T H ds (uE (fun T' H' ds'=>ds'=ds /\ ∃ s',out=.inl s'/\I s' T' H') Q)) (hk:c.kind=4:=by kernel_rfl):AWP P ro N c T H ds Q:=aFm hk I hl h0 round

theorem kW (k:Nat)(z:V)(h:RWs P tt N ops (aM (i+1) n) (T.bR (cL ops i) ([],.rp z)) H K)(hs:aM i n=i::aM (i+1) n:=by kernel_rfl)(hd:uL tt N ops T i=some (k,z):=by kernel_rfl):RWs P tt N ops (aM i n) T H K:=aGw k z hs hd h

theorem pW (xs:List V)(k:Nat)(h:RWs P tt N ops (aM (i+1) n) (T.bR (cL ops i) ([],eP xs)) H K)(hs:aM i n=i::aM (i+1) n:=by kernel_rfl)(hd:JU tt N ops T i=some (xs,k):=by kernel_rfl):RWs P tt N ops (aM i n) T H K:=aGH hs hd h

theorem DB {H0:Frame} {L:List (Nat×Nat×List V)} {α:Type} (e:α->V) (xs zs:List α) (q lo k bytes:Nat) (x:V) (L':Nat->List (Nat×Nat×List V)) (hO:aN H0 H L)
    (hy:xQ k H x=some (zs.map e)) (hb:(xs.length+zs.length)*bytes<=140737488355328/\xs.length+zs.length<=9223372036854775807)
    (h:∀ lo' H',aN H0 H' (L' lo')->RWs P tt N ops (aM (i+1) n) (T.bR (cL ops i) ([],.msl k lo' 0 (xs++zs).length)) H' K)
    (hs:aM i n=i::aM (i+1) n:=by kernel_rfl) (hd:DV tt N ops T i=some (.msl k lo 0 xs.length,x,k,bytes):=by kernel_rfl) (hL:L[q]?=some (lo,k,xs.map e):=by kernel_rfl) (hl:∀ lo',L' lo'=L.set q (lo',k,(xs++zs).map e):=by intro _; kernel_rfl):RWs P tt N ops (aM i n) T H K :=
  aFl xs zs q lo k bytes x L' hs hd hO hL hy hb hl h

variable {TD:PE} {KD:PE->aU->Prop} {pl:Oper->Bool}
theorem qA {H0:Frame} {L:List (Nat×Nat×List V)} (q lo k ix:Nat) (y x:V) (es:List V) (hO:aN H0 H L) (hy:es[ix]?=some y) (h:RD P tt N pl ops (aM (i+1) n) (TD.bR (cL ops i) x) H KD)
    (hs:aM i n=i::aM (i+1) n:=by kernel_rfl) (hq:sQ pl ops i=true:=by kernel_rfl) (hd:NV tt N ops TD i y=some (lo,ix,x):=by kernel_rfl) (hL:L[q]?=some (lo,k,es):=by kernel_rfl):RD P tt N pl ops (aM i n) TD H KD:=aFn q lo k ix y x es hs hq hd hO hL hy h

end
section
variable {P:Program} {tt:TT} {N:Nat} {T:Env} {H:aU} {ops:Array Oper} {K:Env->aU->Prop} {i n:Nat}
end
section
variable {P:Program} {tt:TT} {N:Nat} {T:PE} {H:aU} {ops:Array Oper} {K:PE->aU->Prop} {i n:Nat} {pl:Oper->Bool}
end
section
variable {P:Program} {tt:TT} {N:Nat} {T:Env} {H:aU} {ds:List Nat} {Q:Exit->Env->aU->List Nat->Prop}
end
end Go.Abs
namespace Go.Abs
open Go
structure bY where
  Kind:Int
  Size:Int
  Hop:Int
  deriving Inhabited,DecidableEq

def FD (x:bY):List V:=[(cT .i64 x.Kind)]++[(cT .i64 x.Size)]++[(cT .i64 x.Hop)]

def cQ (x:bY):V:=.agg (FD x)

structure aI where
  Kind:Int
  Num:Int
  Text:ByteArray
  deriving Inhabited,DecidableEq

def NQ (x:aI):List V:=[(cT .i64 x.Kind)]++[(cT .i64 x.Num)]++[(BV x.Text)]

def aJ (x:aI):V:=.agg (NQ x)

structure aF where
  Row:(List aI)
  At:Int
  Net:Int
  deriving Inhabited,DecidableEq

def RE (x:aF):List V:=[(eL aJ x.Row)]++[(cT .i64 x.At)]++[(cT .i64 x.Net)]

def aE (x:aF):V:=.agg (RE x)

structure aB where
  At:Int
  Net:Int
  deriving Inhabited,DecidableEq

def aBD (x:aB):List V:=[(cT .i64 x.At)]++[(cT .i64 x.Net)]

def aL (x:aB):V:=.agg (aBD x)

inductive bQ where
  | none_
  | k_number (x:Int)
  | k_words (x:ByteArray)
  deriving DecidableEq

instance : Inhabited bQ:=⟨.none_⟩

def bN:bQ->V
  | .none_=>.lit .nilIface
  | .k_number x=>.ifc 160 (cT .i64 x)
  | .k_words x=>.ifc 164 (BV x)

structure bJ where
  From:Int
  To:Int
  deriving Inhabited,DecidableEq

def RO (x:bJ):List V:=[(cT .i64 x.From)]++[(cT .i64 x.To)]

def dD (x:bJ):V:=.agg (RO x)

structure bC where
  Row:(List aI)
  N:Int
  deriving Inhabited,DecidableEq

def aCf (x:bC):List V:=[(eL aJ x.Row)]++[(cT .i64 x.N)]

def bK (x:bC):V:=.agg (aCf x)

structure aK where
  Span:bJ
  Rows:(List bC)
  deriving Inhabited,DecidableEq

def aB7 (x:aK):List V:=RO x.Span++[(eL bK x.Rows)]

def aO (x:aK):V:=.agg (aB7 x)

structure cC where
  row:(List aI)
  jumps:(List aB)
  deriving Inhabited,DecidableEq

def aAJ (x:cC):List V:=[(eL aJ x.row)]++[(eL aL x.jumps)]

def cD (x:cC):V:=.agg (aAJ x)

def rI (n0:Int):Option Bool :=
  some ((decide ((1:Int)<=n0))&&(decide (n0<=(1099511627776:Int))))

def lO (ok4:Bool):Option Int :=
  cond (!ok4)
  (some (2:Int))
  (some (0:Int))

def qU (w0:bY):Option Int :=
  cond (decide (w0.Kind=(1:Int)))
  (lO ((decide (w0.Size=(0:Int)))&&(decide (w0.Hop=(0:Int)))))
  (cond (decide (w0.Kind=(2:Int)))
  ((rI w0.Size).bind fun x4 =>
  (cX x4 (rI w0.Hop)).bind fun x7 =>
  lO (x4&&x7))
  (cond (decide (w0.Kind=(3:Int)))
  (lO (((decide ((1:Int)<=w0.Size))&&(decide (w0.Size<=(64:Int))))&&(decide (w0.Hop=(0:Int)))))
  (lO false)))

def qN (l0:(List aF)):Option ((List aF)) :=
  some l0

def iJ  : Option Bool :=
  some true

def fV (s10:(List aI))(s21:(List aI))(t12:Int)(t13:Int):Option ((Int)⊕(Unit⊕Bool)) :=
  cond (decide (t13<t12))
  (bE (0<=t13/\t13<((List.length s10:Nat):Int)) <|
  bE (0<=t13/\t13<((List.length s21:Nat):Int)) <|
  cond (!((decide (((List.getD s10 (Int.toNat t13) default).Kind)=((List.getD s21 (Int.toNat t13) default).Kind)))&&((decide (((List.getD s10 (Int.toNat t13) default).Num)=((List.getD s21 (Int.toNat t13) default).Num)))&&((qK ((List.getD s10 (Int.toNat t13) default).Text) ((List.getD s21 (Int.toNat t13) default).Text))&&true))))
  (some (.inr (.inr false)))
  (some (.inl (IntKind.i64.wrap (t13+(1:Int))))))
  (some (.inr (.inl ())))

def kI (s10:(List aI))(s21:(List aI))(t12:Int)(t13:Int):Option Bool :=
  (lp (fun s=>fV s10 s21 t12 s) t13).bind (Sum.elim (fun rr=>iJ ) (fun rr=>some rr))

def gE (s10:(List aI))(s21:(List aI)):Option Bool :=
  cond (!decide (((List.length s10:Nat):Int)=((List.length s21:Nat):Int)))
  (some false)
  (kI s10 s21 ((List.length s10:Nat):Int) (0:Int))

def sF (a0:(List aI))(b1:(List aI)):Option Bool :=
  (gE a0 b1).bind fun x1 =>
  some x1

def uK (r0:(List aI)):Option (List aI) :=
  bE (0<=((List.length r0:Nat):Int)/\(32:Int)*((List.length r0:Nat):Int)<=281474976710656/\((List.length r0:Nat):Int)<=9223372036854775807) <|
  bE ((List.length ([]:List aI)+List.length r0)*32<=140737488355328/\List.length ([]:List aI)+List.length r0<=9223372036854775807) <|
  some (([]:List aI)++r0)

def rC {σ:Type}(cH:σ->(List aI)->(List aB)->Option (σ×Bool))(sg:σ)(t1:(List aF))(i3:Int)(r4:(List aI))(f5:List aB):Option ((σ×Int)⊕(σ⊕σ)) :=
  (uK r4).bind fun x7 =>
  (cH sg x7 f5).bind fun x10 =>
  cond (!x10.2)
  (some (.inr (.inr x10.1)))
  (some (.inl (x10.1,i3)))

def kN {σ:Type}(cH:σ->(List aI)->(List aB)->Option (σ×Bool))(t1:(List aF))(r4:(List aI))(sg:σ)(i3:Int)(f5:List aB):Option ((σ×Int×List aB)⊕((σ×Int×List aB))) :=
  bE ((((decide (i3<((List.length t1:Nat):Int))))=true->0<=i3/\i3<((List.length t1:Nat):Int))) <|
  (cX (decide (i3<((List.length t1:Nat):Int))) (sF ((List.getD t1 (Int.toNat i3) default).Row) r4)).bind fun x16 =>
  cond ((decide (i3<((List.length t1:Nat):Int)))&&x16)
  (bE (0<=i3/\i3<((List.length t1:Nat):Int)) <|
  bE (0<=i3/\i3<((List.length t1:Nat):Int)) <|
  bE ((List.length f5+List.length ([aB.mk ((List.getD t1 (Int.toNat i3) default).At) ((List.getD t1 (Int.toNat i3) default).Net)]))*16<=140737488355328/\List.length f5+List.length ([aB.mk ((List.getD t1 (Int.toNat i3) default).At) ((List.getD t1 (Int.toNat i3) default).Net)])<=9223372036854775807) <|
  some (.inl (sg,IntKind.i64.wrap (i3+(1:Int)),f5++([aB.mk ((List.getD t1 (Int.toNat i3) default).At) ((List.getD t1 (Int.toNat i3) default).Net)]))))
  (some (.inr (sg,i3,f5)))

def uP {σ:Type}(cH:σ->(List aI)->(List aB)->Option (σ×Bool))(sg:σ)(t1:(List aF))(i3:Int)(r4:(List aI))(f5:List aB):Option ((σ×Int)⊕(σ⊕σ)) :=
  (lp (fun s=>kN cH t1 r4 s.1 s.2.1 s.2.2) (sg,i3,f5)).bind (fun rr=>rC cH rr.1 t1 rr.2.1 r4 rr.2.2)

def jM {σ:Type}(cH:σ->(List aI)->(List aB)->Option (σ×Bool))(t1:(List aF))(sg:σ)(i3:Int):Option ((σ×Int)⊕(σ⊕σ)) :=
  cond (decide (i3<((List.length t1:Nat):Int)))
  (bE (0<=i3/\i3<((List.length t1:Nat):Int)) <|
  uP cH sg t1 i3 ((List.getD t1 (Int.toNat i3) default).Row) ([]:List aB))
  (some (.inr (.inl sg)))

def uT {σ:Type}(cH:σ->(List aI)->(List aB)->Option (σ×Bool))(sg:σ)(t1:(List aF))(i3:Int):Option σ :=
  (lp (fun s=>jM cH t1 s.1 s.2) (sg,i3)).bind (Sum.elim (fun rr=>some rr) (fun rr=>some rr))

def nO {σ:Type}(cH:σ->(List aI)->(List aB)->Option (σ×Bool))(t1:(List aF))(sg0:σ):Option σ :=
  uT cH sg0 t1 (0:Int)

def gJ (f1:aI->Option Bool)  : Option Int :=
  some (-1:Int)

def jC (f1:aI->Option Bool)(s0:(List aI))(t7:Int)(t8:Int):Option ((Int)⊕(Unit⊕Int)) :=
  cond (decide (t8<t7))
  (bE (0<=t8/\t8<((List.length s0:Nat):Int)) <|
  (f1 (List.getD s0 (Int.toNat t8) default)).bind fun x3 =>
  cond x3
  (some (.inr (.inr t8)))
  (some (.inl (IntKind.i64.wrap (t8+(1:Int))))))
  (some (.inr (.inl ())))

def jB (f1:aI->Option Bool)(s0:(List aI))(t7:Int)(t8:Int):Option Int :=
  (lp (fun s=>jC f1 s0 t7 s) t8).bind (Sum.elim (fun rr=>gJ f1 ) (fun rr=>some rr))

def jG (s0:(List aI))(f1:aI->Option Bool):Option Int :=
  jB f1 s0 ((List.length s0:Nat):Int) (0:Int)

def fN (s0:(List aI))(f1:aI->Option Bool):Option Bool :=
  (jG s0 f1).bind fun x1 =>
  some (decide ((0:Int)<=x1))

def nA (v0:aI):Option (bQ×Bool) :=
  cond ((decide (v0.Kind=(1:Int)))&&(qK v0.Text (⟨#[]⟩:ByteArray)))
  (some (bQ.k_number v0.Num,true))
  (cond (((decide (v0.Kind=(2:Int)))&&(decide (v0.Num=(0:Int))))&&(decide (((ByteArray.size v0.Text:Nat):Int)<=(64:Int))))
  (some (bQ.k_words v0.Text,true))
  (some (bQ.none_,false)))

def yN (v0:aI):Option Bool :=
  (nA v0).bind fun (x1_0,x1_1) =>
  match x1_0 with
  | .none_=>(some x1_1)
  | .k_number y4=>(some x1_1)
  | .k_words y5=>(some x1_1)

def yX (v0:aI):Option Bool :=
  (yN v0).bind fun x1 =>
  some (!x1)

def wX (r0:(List aI)):Option Bool :=
  cond (decide ((8:Int)<((List.length r0:Nat):Int)))
  (some false)
  ((fN r0 (fun y0=>yX y0)).bind fun x2 =>
  some (!x2))

def wO (t0:(List aI)):Option ((Int×(List aI))) :=
  some ((-1:Int),t0)

def fM {σ:Type}(f1:σ->aI->Option (σ×Bool))(sg:σ):Option (σ×Int) :=
  some (sg,(-1:Int))

def cK {σ:Type}(f1:σ->aI->Option (σ×Bool))(s0:(List aI))(t7:Int)(sg:σ)(t8:Int):Option ((σ×Int)⊕(σ⊕(σ×Int))) :=
  cond (decide (t8<t7))
  (bE (0<=t8/\t8<((List.length s0:Nat):Int)) <|
  (f1 sg (List.getD s0 (Int.toNat t8) default)).bind fun x3 =>
  cond x3.2
  (some (.inr (.inr (x3.1,t8))))
  (some (.inl (x3.1,IntKind.i64.wrap (t8+(1:Int))))))
  (some (.inr (.inl sg)))

def iT {σ:Type}(f1:σ->aI->Option (σ×Bool))(sg:σ)(s0:(List aI))(t7:Int)(t8:Int):Option (σ×Int) :=
  (lp (fun s=>cK f1 s0 t7 s.1 s.2) (sg,t8)).bind (Sum.elim (fun rr=>fM f1 rr) (fun rr=>some (rr.1,rr.2)))

def iW {σ:Type}(s0:(List aI))(f1:σ->aI->Option (σ×Bool))(sg0:σ):Option (σ×Int) :=
  iT f1 sg0 s0 ((List.length s0:Nat):Int) (0:Int)

def kV (v0:aI)(t1:Int)(t2:(List aI)):Option (Bool×Int) :=
  bE (0<=(IntKind.i64.wrap (t1+(1:Int)))/\(IntKind.i64.wrap (t1+(1:Int)))<((List.length t2:Nat):Int)) <|
  some ((!((decide (v0.Kind=((List.getD t2 (Int.toNat (IntKind.i64.wrap (t1+(1:Int)))) default).Kind)))&&((decide (v0.Num=((List.getD t2 (Int.toNat (IntKind.i64.wrap (t1+(1:Int)))) default).Num)))&&((qK v0.Text ((List.getD t2 (Int.toNat (IntKind.i64.wrap (t1+(1:Int)))) default).Text))&&true)))),(IntKind.i64.wrap (t1+(1:Int))))

def kZ (x0:Int):Option Bool :=
  some (!decide (x0=x0))

def qG (x0:Int)(y1:Int):Option Int :=
  (kZ x0).bind fun x1 =>
  (kZ y1).bind fun x4 =>
  cond x1
  (cond x4
  (some (0:Int))
  (some (-1:Int)))
  (cond x4
  (some (1:Int))
  (cond (decide (x0<y1))
  (some (-1:Int))
  (cond (decide (y1<x0))
  (some (1:Int))
  (some (0:Int)))))

def lY (x0:Int):Option Bool :=
  some (!decide (x0=x0))

def gV (x0:Int)(y1:Int):Option Int :=
  (lY x0).bind fun x1 =>
  (lY y1).bind fun x4 =>
  cond x1
  (cond x4
  (some (0:Int))
  (some (-1:Int)))
  (cond x4
  (some (1:Int))
  (cond (decide (x0<y1))
  (some (-1:Int))
  (cond (decide (y1<x0))
  (some (1:Int))
  (some (0:Int)))))

def kO (a0:ByteArray)(b1:ByteArray):Option Int :=
  some (SJ a0 b1)

def oB (a0:ByteArray)(b1:ByteArray):Option Int :=
  (kO a0 b1).bind fun x1 =>
  some x1

def sK (a0:aI)(b1:aI):Option Int :=
  (nA a0).bind fun (x1_0,x1_1) =>
  match x1_0 with
  | .none_=>((nA b1).bind fun (x6_0,x6_1) =>
  match x6_0 with
  | .none_=>(cond ((!x1_1)||(!x6_1))
  (some (0:Int))
  (none))
  | .k_number y9=>(cond ((!x1_1)||(!x6_1))
  (some (0:Int))
  (some (1:Int)))
  | .k_words y10=>(cond ((!x1_1)||(!x6_1))
  (some (0:Int))
  (none)))
  | .k_number y4=>((nA b1).bind fun (x23_0,x23_1) =>
  match x23_0 with
  | .none_=>(cond ((!x1_1)||(!x23_1))
  (some (0:Int))
  (some (-1:Int)))
  | .k_number y26=>(cond ((!x1_1)||(!x23_1))
  (some (0:Int))
  ((gV y4 y26).bind fun x33 =>
  some x33))
  | .k_words y27=>(cond ((!x1_1)||(!x23_1))
  (some (0:Int))
  (some (-1:Int))))
  | .k_words y5=>((nA b1).bind fun (x39_0,x39_1) =>
  match x39_0 with
  | .none_=>(cond ((!x1_1)||(!x39_1))
  (some (0:Int))
  (none))
  | .k_number y42=>(cond ((!x1_1)||(!x39_1))
  (some (0:Int))
  (some (1:Int)))
  | .k_words y43=>(cond ((!x1_1)||(!x39_1))
  (some (0:Int))
  ((oB y5 y43).bind fun x56 =>
  some x56)))

def vH (a0:(List aI))(b1:(List aI)):Option Int :=
  (wX a0).bind fun x1 =>
  (cX (!(!x1)) (wX b1)).bind fun x4 =>
  cond ((!x1)||(!x4))
  (some (0:Int))
  (bE (0<=(if ((List.length b1:Nat):Int)<((List.length a0:Nat):Int) then ((List.length b1:Nat):Int) else ((List.length a0:Nat):Int))/\(if ((List.length b1:Nat):Int)<((List.length a0:Nat):Int) then ((List.length b1:Nat):Int) else ((List.length a0:Nat):Int))<=((List.length a0:Nat):Int)) <|
  (wO b1).bind fun x9 =>
  (iW (List.take (Int.toNat (if ((List.length b1:Nat):Int)<((List.length a0:Nat):Int) then ((List.length b1:Nat):Int) else ((List.length a0:Nat):Int))) a0) (fun st y0=>(kV y0 st x9.2).bind fun o=>some (o.2,o.1)) x9.1).bind fun x12 =>
  cond (decide (x12.2<(0:Int)))
  ((qG ((List.length a0:Nat):Int) ((List.length b1:Nat):Int)).bind fun x15 =>
  some x15)
  (bE (0<=x12.2/\x12.2<((List.length a0:Nat):Int)) <|
  bE (0<=x12.2/\x12.2<((List.length b1:Nat):Int)) <|
  (sK (List.getD a0 (Int.toNat x12.2) default) (List.getD b1 (Int.toNat x12.2) default)).bind fun x20 =>
  some x20))

def rA (wW:(List aB)->Option Bool)(mG:(List aF))(t4:Bool)(qL:(List aI))(lB:Bool)(t14:(List aI))(t15:(List aB)):Option ((Bool×(List aI)×Bool)⊕(Bool×(List aI)×Bool)) :=
  (wX t14).bind fun x7 =>
  (cX (lB&&(!(!x7))) (vH qL t14)).bind fun x12 =>
  (cX (!((!x7)||(lB&&(decide ((0:Int)<=x12))))) (wW t15)).bind fun x15 =>
  cond (((!x7)||(lB&&(decide ((0:Int)<=x12))))||(!x15))
  (some (.inr (false,qL,lB)))
  (some (.inl (t4,t14,true)))

def AE (wW:(List aB)->Option Bool)(t4:Bool)(qL:(List aI))(lB:Bool)(mG:(List aF)):Option Bool :=
  (nO (fun st t14 t15=>rnd (fun (s:Bool×(List aI)×Bool)=>rA wW mG s.1 s.2.1 s.2.2 t14 t15) st) mG (.inl (t4,qL,lB))).bind (Sum.elim (fun (s:Bool×(List aI)×Bool) =>
  (some true))
  (fun (s:Bool×(List aI)×Bool) =>
  (some s.1)))

def vY (l0:(List aF))(wW:(List aB)->Option Bool):Option Bool :=
  cond (decide ((4096:Int)<((List.length l0:Nat):Int)))
  (some false)
  ((qN l0).bind fun x5 =>
  AE wW false ([]) false x5)

def CH (n0:Int):Option Bool :=
  some ((decide (n0<=(1048576:Int)))&&(decide ((-1048576:Int)<=n0)))

def yT  : Option Bool :=
  some true

def nN (t9:(List aB))(t10:Int)(sZ:Int)(t11:Int):Option ((Int×Int)⊕(Unit⊕Bool)) :=
  cond (decide (t11<t10))
  (bE (0<=t11/\t11<((List.length t9:Nat):Int)) <|
  (cX (!(((decide (((List.getD t9 (Int.toNat t11) default).At)<=sZ))||(decide ((1125899906842624:Int)<=((List.getD t9 (Int.toNat t11) default).At))))||(decide (((List.getD t9 (Int.toNat t11) default).Net)=(0:Int))))) (CH ((List.getD t9 (Int.toNat t11) default).Net))).bind fun x8 =>
  cond ((((decide (((List.getD t9 (Int.toNat t11) default).At)<=sZ))||(decide ((1125899906842624:Int)<=((List.getD t9 (Int.toNat t11) default).At))))||(decide (((List.getD t9 (Int.toNat t11) default).Net)=(0:Int))))||(!x8))
  (some (.inr (.inr false)))
  (some (.inl ((List.getD t9 (Int.toNat t11) default).At,IntKind.i64.wrap (t11+(1:Int))))))
  (some (.inr (.inl ())))

def CB (sZ:Int)(t9:(List aB))(t10:Int)(t11:Int):Option Bool :=
  (lp (fun s=>nN t9 t10 s.1 s.2) (sZ,t11)).bind (Sum.elim (fun rr=>yT ) (fun rr=>some rr))

def nS (f0:(List aB)):Option Bool :=
  cond (decide ((1024:Int)<((List.length f0:Nat):Int)))
  (some false)
  (CB (-2:Int) f0 ((List.length f0:Nat):Int) (0:Int))

def oT (l0:(List aF)):Option Bool :=
  (vY l0 (fun y0=>nS y0)).bind fun x1 =>
  some x1

def vJ (jA:Int):Option Int :=
  some jA

def oF (t24:(List aB))(t25:Int)(v3:Int)(jA:Int)(t26:Int):Option ((Int×Int×Int)⊕(Int)) :=
  cond (decide (t26<t25))
  (bE (0<=t26/\t26<((List.length t24:Nat):Int)) <|
  some (.inl (IntKind.i64.wrap (v3+((List.getD t24 (Int.toNat t26) default).Net)),if (IntKind.i64.wrap (v3+((List.getD t24 (Int.toNat t26) default).Net)))<jA then (IntKind.i64.wrap (v3+((List.getD t24 (Int.toNat t26) default).Net))) else jA,IntKind.i64.wrap (t26+(1:Int)))))
  (some (.inr jA))

def vC (v3:Int)(jA:Int)(t24:(List aB))(t25:Int)(t26:Int):Option Int :=
  (lp (fun s=>oF t24 t25 s.1 s.2.1 s.2.2) (v3,jA,t26)).bind (fun rr=>vJ rr)

def rW (f0:(List aB))(v3:Int)(jA:Int):Option Int :=
  vC v3 jA f0 ((List.length f0:Nat):Int) (0:Int)

def xN (f0:(List aB)):Option Int :=
  (nS f0).bind fun x1 =>
  cond ((!x1)||(decide (((List.length f0:Nat):Int)=(0:Int))))
  (some (0:Int))
  (bE (0<=(0:Int)/\(0:Int)<((List.length f0:Nat):Int)) <|
  cond (decide (((List.getD f0 (Int.toNat (0:Int)) default).At)=(-1:Int)))
  (bE (0<=(0:Int)/\(0:Int)<((List.length f0:Nat):Int)) <|
  rW f0 (0:Int) ((List.getD f0 (Int.toNat (0:Int)) default).Net))
  (rW f0 (0:Int) (0:Int)))

def tB (f0:(List aB)):Option Bool :=
  (nS f0).bind fun x1 =>
  (cX x1 (xN f0)).bind fun x4 =>
  some (x1&&(decide ((0:Int)<=x4)))

def pH (l0:(List aF)):Option Bool :=
  (vY l0 (fun y0=>tB y0)).bind fun x1 =>
  some x1

def qT (w0:bY)(l1:(List aF))(t2:Int):Option Int :=
  (qU w0).bind fun x1 =>
  (cX (!(!decide (x1=(0:Int)))) (oT l1)).bind fun x4 =>
  cond ((!decide (x1=(0:Int)))||(!x4))
  (some (2:Int))
  ((pH l1).bind fun x8 =>
  cond (!x8)
  (some (20:Int))
  (cond ((decide (t2<(0:Int)))||(decide ((1125899906842624:Int)<t2)))
  (some (13:Int))
  (some (0:Int))))

def AB (mZ:Int)(hop1:Int):Option Bool :=
  some ((((decide ((1:Int)<=mZ))&&(decide (mZ<=(1099511627776:Int))))&&(decide ((1:Int)<=hop1)))&&(decide (hop1<=(1099511627776:Int))))

def uO (t0:Int):Option Bool :=
  some ((decide ((0:Int)<=t0))&&(decide (t0<=(1125899906842624:Int))))

def xK (q7:Int)(r8:Int):Option (Int×Int×Int) :=
  some (q7,r8,(0:Int))

def yR (a0:Int)(b1:Int):Option (Int×Int×Int) :=
  cond (decide (b1<(1:Int)))
  (some ((0:Int),(0:Int),(2:Int)))
  (bE (b1≠0) <|
  bE (b1≠0) <|
  cond (decide ((Int.tmod a0 b1)<(0:Int)))
  (xK (IntKind.i64.wrap ((IntKind.i64.wrap (Int.tdiv a0 b1))-(1:Int))) (IntKind.i64.wrap ((Int.tmod a0 b1)+b1)))
  (xK (IntKind.i64.wrap (Int.tdiv a0 b1)) (Int.tmod a0 b1)))

def rD (hop0:Int)(n1:Int):Option Int :=
  cond (decide (n1<(0:Int)))
  (some (0:Int))
  ((yR n1 hop0).bind fun x2 =>
  some (IntKind.i64.wrap ((IntKind.i64.wrap (x2.1+(1:Int)))*hop0)))

def AP (mZ:Int)(hop1:Int)(t2:Int):Option (Int×Int) :=
  (AB mZ hop1).bind fun x1 =>
  cond (!x1)
  (some ((0:Int),(2:Int)))
  ((uO t2).bind fun x5 =>
  cond (!x5)
  (some ((0:Int),(13:Int)))
  (cond (decide (t2=(1125899906842624:Int)))
  (some ((1125899906842624:Int),(0:Int)))
  ((rD hop1 (IntKind.i64.wrap (t2-mZ))).bind fun x10 =>
  some (if (1125899906842624:Int)<x10 then (1125899906842624:Int) else x10,(0:Int)))))

def tJ (l0:(List aF))(n1:Int):Option Int :=
  (oT l0).bind fun x1 =>
  cond (((!x1)||(decide (n1<(1:Int))))||(decide ((64:Int)<n1)))
  (some (2:Int))
  ((pH l0).bind fun x5 =>
  cond (!x5)
  (some (20:Int))
  (some (0:Int)))

def qR (l0:(List aF)):Option ((List aF)) :=
  some l0

def kX {σ:Type}(cH:σ->aF->Option (σ×Bool))(t5:(List aF))(t6:Int)(sg:σ)(t7:Int):Option ((σ×Int)⊕(σ⊕σ)) :=
  cond (decide (t7<t6))
  (bE (0<=t7/\t7<((List.length t5:Nat):Int)) <|
  (CV ((decide ((0:Int)<((List.getD t5 (Int.toNat t7) default).Net)))&&(decide ((-1:Int)<((List.getD t5 (Int.toNat t7) default).At)))) sg (cH sg (List.getD t5 (Int.toNat t7) default))).bind fun (x8,x9) =>
  cond (((decide ((0:Int)<((List.getD t5 (Int.toNat t7) default).Net)))&&(decide ((-1:Int)<((List.getD t5 (Int.toNat t7) default).At))))&&(!x9))
  (some (.inr (.inr x8)))
  (some (.inl (x8,IntKind.i64.wrap (t7+(1:Int))))))
  (some (.inr (.inl sg)))

def rM {σ:Type}(cH:σ->aF->Option (σ×Bool))(sg:σ)(t5:(List aF))(t6:Int)(t7:Int):Option σ :=
  (lp (fun s=>kX cH t5 t6 s.1 s.2) (sg,t7)).bind (Sum.elim (fun rr=>some rr) (fun rr=>some rr))

def nG {σ:Type}(cH:σ->aF->Option (σ×Bool))(t1:(List aF))(sg0:σ):Option σ :=
  rM cH sg0 t1 ((List.length t1:Nat):Int) (0:Int)

def nH (x0:Int)(n2:Int):Option Int :=
  bE (0<=(IntKind.u8.wrap x0)/\(IntKind.u8.wrap x0)<((ByteArray.size (⟨#[0,1,2,2,3,3,3,3,4,4,4,4,4,4,4,4,5,5,5,5,5,5,5,5,5,5,5,5,5,5,5,5,6,6,6,6,6,6,6,6,6,6,6,6,6,6,6,6,6,6,6,6,6,6,6,6,6,6,6,6,6,6,6,6,7,7,7,7,7,7,7,7,7,7,7,7,7,7,7,7,7,7,7,7,7,7,7,7,7,7,7,7,7,7,7,7,7,7,7,7,7,7,7,7,7,7,7,7,7,7,7,7,7,7,7,7,7,7,7,7,7,7,7,7,7,7,7,7,8,8,8,8,8,8,8,8,8,8,8,8,8,8,8,8,8,8,8,8,8,8,8,8,8,8,8,8,8,8,8,8,8,8,8,8,8,8,8,8,8,8,8,8,8,8,8,8,8,8,8,8,8,8,8,8,8,8,8,8,8,8,8,8,8,8,8,8,8,8,8,8,8,8,8,8,8,8,8,8,8,8,8,8,8,8,8,8,8,8,8,8,8,8,8,8,8,8,8,8,8,8,8,8,8,8,8,8,8,8,8,8,8,8,8,8,8,8,8,8,8,8,8,8,8,8,8,8]⟩:ByteArray):Nat):Int)) <|
  some (IntKind.i64.wrap (n2+(IntKind.i64.wrap (bt (⟨#[0,1,2,2,3,3,3,3,4,4,4,4,4,4,4,4,5,5,5,5,5,5,5,5,5,5,5,5,5,5,5,5,6,6,6,6,6,6,6,6,6,6,6,6,6,6,6,6,6,6,6,6,6,6,6,6,6,6,6,6,6,6,6,6,7,7,7,7,7,7,7,7,7,7,7,7,7,7,7,7,7,7,7,7,7,7,7,7,7,7,7,7,7,7,7,7,7,7,7,7,7,7,7,7,7,7,7,7,7,7,7,7,7,7,7,7,7,7,7,7,7,7,7,7,7,7,7,7,8,8,8,8,8,8,8,8,8,8,8,8,8,8,8,8,8,8,8,8,8,8,8,8,8,8,8,8,8,8,8,8,8,8,8,8,8,8,8,8,8,8,8,8,8,8,8,8,8,8,8,8,8,8,8,8,8,8,8,8,8,8,8,8,8,8,8,8,8,8,8,8,8,8,8,8,8,8,8,8,8,8,8,8,8,8,8,8,8,8,8,8,8,8,8,8,8,8,8,8,8,8,8,8,8,8,8,8,8,8,8,8,8,8,8,8,8,8,8,8,8,8,8,8,8,8,8,8]⟩:ByteArray) (IntKind.u8.wrap x0)))))

def lV (x0:Int)(n2:Int):Option Int :=
  cond (decide ((256:Int)<=x0))
  (bE (0<=(8:Int)) <|
  nH (Int.fdiv x0 (2 ^ (min (Int.toNat (8:Int)) 64))) (IntKind.i64.wrap (n2+(8:Int))))
  (nH x0 n2)

def lZ (x0:Int)(n2:Int):Option Int :=
  cond (decide ((65536:Int)<=x0))
  (bE (0<=(16:Int)) <|
  lV (Int.fdiv x0 (2 ^ (min (Int.toNat (16:Int)) 64))) (IntKind.i64.wrap (n2+(16:Int))))
  (lV x0 n2)

def qC (x0:Int):Option Int :=
  cond (decide ((4294967296:Int)<=x0))
  (bE (0<=(32:Int)) <|
  lZ (Int.fdiv x0 (2 ^ (min (Int.toNat (32:Int)) 64))) (32:Int))
  (lZ x0 (0:Int))

def lM (x0:Int):Option Int :=
  (qC x0).bind fun x2 =>
  some x2

def dH (x0:Int)(y1:Int):Option Bool :=
  (kZ x0).bind fun x1 =>
  (cX x1 (kZ y1)).bind fun x4 =>
  some ((x1&&(!x4))||(decide (x0<y1)))

def iA (aA:List Int)(a1:Int)(b2:Int)(i6:Int):Option ((List Int×Int)⊕((List Int))) :=
  some (.inl (aA,IntKind.i64.wrap (i6+(1:Int))))

def fL (a1:Int)(b2:Int)(i6:Int)(aA:List Int)(j7:Int):Option ((List Int×Int)⊕((List Int))) :=
  bE ((((decide (a1<j7)))=true->0<=j7/\j7<((List.length aA:Nat):Int))) <|
  bE ((((decide (a1<j7)))=true->0<=(IntKind.i64.wrap (j7-(1:Int)))/\(IntKind.i64.wrap (j7-(1:Int)))<((List.length aA:Nat):Int))) <|
  (cX (decide (a1<j7)) (dH (List.getD aA (Int.toNat j7) default) (List.getD aA (Int.toNat (IntKind.i64.wrap (j7-(1:Int)))) default))).bind fun x4 =>
  cond ((decide (a1<j7))&&x4)
  (bE (0<=(IntKind.i64.wrap (j7-(1:Int)))/\(IntKind.i64.wrap (j7-(1:Int)))<((List.length aA:Nat):Int)) <|
  bE (0<=j7/\j7<((List.length aA:Nat):Int)) <|
  bE (0<=j7/\j7<((List.length aA:Nat):Int)) <|
  bE (0<=(IntKind.i64.wrap (j7-(1:Int)))/\(IntKind.i64.wrap (j7-(1:Int)))<((List.length aA:Nat):Int)) <|
  some (.inl (List.set (List.set aA (Int.toNat j7) (List.getD aA (Int.toNat (IntKind.i64.wrap (j7-(1:Int)))) default)) (Int.toNat (IntKind.i64.wrap (j7-(1:Int)))) (List.getD aA (Int.toNat j7) default),IntKind.i64.wrap (j7-(1:Int)))))
  (some (.inr aA))

def jZ (aA:List Int)(a1:Int)(b2:Int)(i6:Int)(j7:Int):Option ((List Int×Int)⊕((List Int))) :=
  (lp (fun s=>fL a1 b2 i6 s.1 s.2) (aA,j7)).bind (fun rr=>iA rr a1 b2 i6)

def dU (a1:Int)(b2:Int)(aA:List Int)(i6:Int):Option ((List Int×Int)⊕((List Int))) :=
  cond (decide (i6<b2))
  (jZ aA a1 b2 i6 i6)
  (some (.inr aA))

def kA (aA:List Int)(a1:Int)(b2:Int)(i6:Int):Option (List Int) :=
  (lp (fun s=>dU a1 b2 s.1 s.2) (aA,i6)).bind (fun rr=>some rr)

def iL (aA:(List Int))(a1:Int)(b2:Int):Option (List Int) :=
  kA aA a1 b2 (IntKind.i64.wrap (a1+(1:Int)))

def iD (aA:List Int)(hi2:Int)(bO:Int)(cI:Int)(eJ:Int):Option ((List Int×Int)⊕((List Int)⊕(List Int))) :=
  bE (0<=(IntKind.i64.wrap (bO+cI))/\(IntKind.i64.wrap (bO+cI))<((List.length aA:Nat):Int)) <|
  bE (0<=(IntKind.i64.wrap (bO+eJ))/\(IntKind.i64.wrap (bO+eJ))<((List.length aA:Nat):Int)) <|
  (dH (List.getD aA (Int.toNat (IntKind.i64.wrap (bO+cI))) default) (List.getD aA (Int.toNat (IntKind.i64.wrap (bO+eJ))) default)).bind fun x4 =>
  cond (!x4)
  (some (.inr (.inr aA)))
  (bE (0<=(IntKind.i64.wrap (bO+eJ))/\(IntKind.i64.wrap (bO+eJ))<((List.length aA:Nat):Int)) <|
  bE (0<=(IntKind.i64.wrap (bO+cI))/\(IntKind.i64.wrap (bO+cI))<((List.length aA:Nat):Int)) <|
  bE (0<=(IntKind.i64.wrap (bO+cI))/\(IntKind.i64.wrap (bO+cI))<((List.length aA:Nat):Int)) <|
  bE (0<=(IntKind.i64.wrap (bO+eJ))/\(IntKind.i64.wrap (bO+eJ))<((List.length aA:Nat):Int)) <|
  some (.inl (List.set (List.set aA (Int.toNat (IntKind.i64.wrap (bO+cI))) (List.getD aA (Int.toNat (IntKind.i64.wrap (bO+eJ))) default)) (Int.toNat (IntKind.i64.wrap (bO+eJ))) (List.getD aA (Int.toNat (IntKind.i64.wrap (bO+cI))) default),eJ)))

def dQ (hi2:Int)(bO:Int)(aA:List Int)(cI:Int):Option ((List Int×Int)⊕((List Int)⊕(List Int))) :=
  cond (decide (hi2<=(IntKind.i64.wrap ((IntKind.i64.wrap ((2:Int)*cI))+(1:Int)))))
  (some (.inr (.inl aA)))
  (bE ((((decide ((IntKind.i64.wrap ((IntKind.i64.wrap ((IntKind.i64.wrap ((2:Int)*cI))+(1:Int)))+(1:Int)))<hi2)))=true->0<=(IntKind.i64.wrap (bO+(IntKind.i64.wrap ((IntKind.i64.wrap ((2:Int)*cI))+(1:Int)))))/\(IntKind.i64.wrap (bO+(IntKind.i64.wrap ((IntKind.i64.wrap ((2:Int)*cI))+(1:Int)))))<((List.length aA:Nat):Int))) <|
  bE ((((decide ((IntKind.i64.wrap ((IntKind.i64.wrap ((IntKind.i64.wrap ((2:Int)*cI))+(1:Int)))+(1:Int)))<hi2)))=true->0<=(IntKind.i64.wrap ((IntKind.i64.wrap (bO+(IntKind.i64.wrap ((IntKind.i64.wrap ((2:Int)*cI))+(1:Int)))))+(1:Int)))/\(IntKind.i64.wrap ((IntKind.i64.wrap (bO+(IntKind.i64.wrap ((IntKind.i64.wrap ((2:Int)*cI))+(1:Int)))))+(1:Int)))<((List.length aA:Nat):Int))) <|
  (cX (decide ((IntKind.i64.wrap ((IntKind.i64.wrap ((IntKind.i64.wrap ((2:Int)*cI))+(1:Int)))+(1:Int)))<hi2)) (dH (List.getD aA (Int.toNat (IntKind.i64.wrap (bO+(IntKind.i64.wrap ((IntKind.i64.wrap ((2:Int)*cI))+(1:Int)))))) default) (List.getD aA (Int.toNat (IntKind.i64.wrap ((IntKind.i64.wrap (bO+(IntKind.i64.wrap ((IntKind.i64.wrap ((2:Int)*cI))+(1:Int)))))+(1:Int)))) default))).bind fun x14 =>
  cond ((decide ((IntKind.i64.wrap ((IntKind.i64.wrap ((IntKind.i64.wrap ((2:Int)*cI))+(1:Int)))+(1:Int)))<hi2))&&x14)
  (iD aA hi2 bO cI (IntKind.i64.wrap ((IntKind.i64.wrap ((IntKind.i64.wrap ((2:Int)*cI))+(1:Int)))+(1:Int))))
  (iD aA hi2 bO cI (IntKind.i64.wrap ((IntKind.i64.wrap ((2:Int)*cI))+(1:Int)))))

def lT (aA:List Int)(hi2:Int)(bO:Int)(cI:Int):Option (List Int) :=
  (lp (fun s=>dQ hi2 bO s.1 s.2) (aA,cI)).bind (Sum.elim (fun rr=>some rr) (fun rr=>some rr))

def fY (aA:(List Int))(lo1:Int)(hi2:Int)(bO:Int):Option (List Int) :=
  lT aA hi2 bO lo1

def eK (bU:Int)(lo7:Int)(aA:List Int)(i10:Int):Option ((List Int×Int)⊕((List Int))) :=
  cond (decide ((0:Int)<=i10))
  (bE (0<=(IntKind.i64.wrap (bU+i10))/\(IntKind.i64.wrap (bU+i10))<((List.length aA:Nat):Int)) <|
  bE (0<=bU/\bU<((List.length aA:Nat):Int)) <|
  bE (0<=bU/\bU<((List.length aA:Nat):Int)) <|
  bE (0<=(IntKind.i64.wrap (bU+i10))/\(IntKind.i64.wrap (bU+i10))<((List.length aA:Nat):Int)) <|
  (fY (List.set (List.set aA (Int.toNat bU) (List.getD aA (Int.toNat (IntKind.i64.wrap (bU+i10))) default)) (Int.toNat (IntKind.i64.wrap (bU+i10))) (List.getD aA (Int.toNat bU) default)) lo7 i10 bU).bind fun x6 =>
  some (.inl (x6,IntKind.i64.wrap (i10-(1:Int)))))
  (some (.inr aA))

def lS (aA:List Int)(bU:Int)(lo7:Int)(i10:Int):Option (List Int) :=
  (lp (fun s=>eK bU lo7 s.1 s.2) (aA,i10)).bind (fun rr=>some rr)

def jX (aA:List Int)(bU:Int)(lo7:Int)(hi8:Int):Option (List Int) :=
  lS aA bU lo7 (IntKind.i64.wrap (hi8-(1:Int)))

def eM (bU:Int)(lo7:Int)(hi8:Int)(aA:List Int)(i9:Int):Option ((List Int×Int)⊕((List Int))) :=
  cond (decide ((0:Int)<=i9))
  ((fY aA i9 hi8 bU).bind fun x11 =>
  some (.inl (x11,IntKind.i64.wrap (i9-(1:Int)))))
  (some (.inr aA))

def lU (aA:List Int)(bU:Int)(lo7:Int)(hi8:Int)(i9:Int):Option (List Int) :=
  (lp (fun s=>eM bU lo7 hi8 s.1 s.2) (aA,i9)).bind (fun rr=>jX rr bU lo7 hi8)

def kF (aA:(List Int))(a1:Int)(b2:Int):Option (List Int) :=
  bE ((2:Int)≠0) <|
  lU aA a1 (0:Int) (IntKind.i64.wrap (b2-a1)) (IntKind.i64.wrap (Int.tdiv (IntKind.i64.wrap ((IntKind.i64.wrap (b2-a1))-(1:Int))) (2:Int)))

def mL (HE:Int):Option Int :=
  (lM (IntKind.u64.wrap HE)).bind fun x1 =>
  bE (0<=x1) <|
  some (IntKind.u64.wrap ((1:Int)*2 ^ (min (Int.toNat x1) 64)))

def mV (r0:Int):Option (Int×Int) :=
  bE (0<=(13:Int)) <|
  bE (0<=(7:Int)) <|
  bE (0<=(17:Int)) <|
  some (bT .xor .u64 (bT .xor .u64 (bT .xor .u64 r0 (IntKind.u64.wrap (r0*2 ^ (min (Int.toNat (13:Int)) 64)))) (Int.fdiv (bT .xor .u64 r0 (IntKind.u64.wrap (r0*2 ^ (min (Int.toNat (13:Int)) 64)))) (2 ^ (min (Int.toNat (7:Int)) 64)))) (IntKind.u64.wrap ((bT .xor .u64 (bT .xor .u64 r0 (IntKind.u64.wrap (r0*2 ^ (min (Int.toNat (13:Int)) 64)))) (Int.fdiv (bT .xor .u64 r0 (IntKind.u64.wrap (r0*2 ^ (min (Int.toNat (13:Int)) 64)))) (2 ^ (min (Int.toNat (7:Int)) 64))))*2 ^ (min (Int.toNat (17:Int)) 64))),bT .xor .u64 (bT .xor .u64 (bT .xor .u64 r0 (IntKind.u64.wrap (r0*2 ^ (min (Int.toNat (13:Int)) 64)))) (Int.fdiv (bT .xor .u64 r0 (IntKind.u64.wrap (r0*2 ^ (min (Int.toNat (13:Int)) 64)))) (2 ^ (min (Int.toNat (7:Int)) 64)))) (IntKind.u64.wrap ((bT .xor .u64 (bT .xor .u64 r0 (IntKind.u64.wrap (r0*2 ^ (min (Int.toNat (13:Int)) 64)))) (Int.fdiv (bT .xor .u64 r0 (IntKind.u64.wrap (r0*2 ^ (min (Int.toNat (13:Int)) 64)))) (2 ^ (min (Int.toNat (7:Int)) 64))))*2 ^ (min (Int.toNat (17:Int)) 64))))

def fJ (aA:List Int)(a1:Int)(kS:Int)(mT:Int)(jL:Int)(idx9:Int)(gO:Int):Option ((List Int×Int×Int)⊕((List Int))) :=
  bE (0<=(IntKind.i64.wrap (a1+gO))/\(IntKind.i64.wrap (a1+gO))<((List.length aA:Nat):Int)) <|
  bE (0<=idx9/\idx9<((List.length aA:Nat):Int)) <|
  bE (0<=idx9/\idx9<((List.length aA:Nat):Int)) <|
  bE (0<=(IntKind.i64.wrap (a1+gO))/\(IntKind.i64.wrap (a1+gO))<((List.length aA:Nat):Int)) <|
  some (.inl (List.set (List.set aA (Int.toNat idx9) (List.getD aA (Int.toNat (IntKind.i64.wrap (a1+gO))) default)) (Int.toNat (IntKind.i64.wrap (a1+gO))) (List.getD aA (Int.toNat idx9) default),mT,IntKind.i64.wrap (idx9+(1:Int))))

def dM (a1:Int)(kS:Int)(jL:Int)(aA:List Int)(mT:Int)(idx9:Int):Option ((List Int×Int×Int)⊕((List Int))) :=
  bE ((4:Int)≠0) <|
  cond (decide (idx9<=(IntKind.i64.wrap ((IntKind.i64.wrap (a1+(IntKind.i64.wrap ((IntKind.i64.wrap (Int.tdiv kS (4:Int)))*(2:Int)))))+(1:Int)))))
  ((mV mT).bind fun x9 =>
  cond (decide (kS<=(IntKind.i64.wrap (bT .and .u64 x9.1 (IntKind.u64.wrap (jL-(1:Int)))))))
  (fJ aA a1 kS x9.2 jL idx9 (IntKind.i64.wrap ((IntKind.i64.wrap (bT .and .u64 x9.1 (IntKind.u64.wrap (jL-(1:Int)))))-kS)))
  (fJ aA a1 kS x9.2 jL idx9 (IntKind.i64.wrap (bT .and .u64 x9.1 (IntKind.u64.wrap (jL-(1:Int)))))))
  (some (.inr aA))

def kD (aA:List Int)(a1:Int)(kS:Int)(mT:Int)(jL:Int)(idx9:Int):Option (List Int) :=
  (lp (fun s=>dM a1 kS jL s.1 s.2.1 s.2.2) (aA,mT,idx9)).bind (fun rr=>some rr)

def iK (aA:(List Int))(a1:Int)(b2:Int):Option (List Int) :=
  cond (decide ((8:Int)<=(IntKind.i64.wrap (b2-a1))))
  ((mL (IntKind.i64.wrap (b2-a1))).bind fun x3 =>
  bE ((4:Int)≠0) <|
  kD aA a1 (IntKind.i64.wrap (b2-a1)) (IntKind.u64.wrap (IntKind.i64.wrap (b2-a1))) x3 (IntKind.i64.wrap ((IntKind.i64.wrap (a1+(IntKind.i64.wrap ((IntKind.i64.wrap (Int.tdiv (IntKind.i64.wrap (b2-a1)) (4:Int)))*(2:Int)))))-(1:Int))))
  (some aA)

def gX (aA:(List Int))(a1:Int)(b2:Int)(uY:Int):Option ((Int×Int)×Int) :=
  bE (0<=b2/\b2<((List.length aA:Nat):Int)) <|
  bE (0<=a1/\a1<((List.length aA:Nat):Int)) <|
  (dH (List.getD aA (Int.toNat b2) default) (List.getD aA (Int.toNat a1) default)).bind fun x3 =>
  cond x3
  (some ((b2,a1),IntKind.i64.wrap (uY+(1:Int))))
  (some ((a1,b2),uY))

def jD (aA:(List Int))(a1:Int)(b2:Int)(c3:Int)(LI:Int):Option (Int×Int) :=
  (gX aA a1 b2 LI).bind fun x1 =>
  (gX aA x1.1.2 c3 x1.2).bind fun x6 =>
  (gX aA x1.1.1 x6.1.1 x6.2).bind fun x11 =>
  some (x11.1.2,x11.2)

def eF (aA:(List Int))(a1:Int)(LB:Int):Option (Int×Int) :=
  (jD aA (IntKind.i64.wrap (a1-(1:Int))) a1 (IntKind.i64.wrap (a1+(1:Int))) LB).bind fun x1 =>
  some (x1.1,x1.2)

def gH (aA:List Int)(nR:Int)(j11:Int):Option (Int×Int) :=
  cond (decide (nR=(0:Int)))
  (some (j11,(1:Int)))
  (cond (decide (nR=(12:Int)))
  (some (j11,(2:Int)))
  (some (j11,(0:Int))))

def fZ (aA:List Int)(nR:Int)(i10:Int)(j11:Int)(k12:Int):Option (Int×Int) :=
  (jD aA i10 j11 k12 nR).bind fun x8 =>
  gH aA x8.2 x8.1

def iZ (aA:(List Int))(a1:Int)(b2:Int):Option (Int×Int) :=
  bE ((4:Int)≠0) <|
  bE ((4:Int)≠0) <|
  bE ((4:Int)≠0) <|
  cond (decide ((8:Int)<=(IntKind.i64.wrap (b2-a1))))
  (cond (decide ((50:Int)<=(IntKind.i64.wrap (b2-a1))))
  ((eF aA (IntKind.i64.wrap (a1+(IntKind.i64.wrap ((IntKind.i64.wrap (Int.tdiv (IntKind.i64.wrap (b2-a1)) (4:Int)))*(1:Int))))) 0).bind fun x14 =>
  (eF aA (IntKind.i64.wrap (a1+(IntKind.i64.wrap ((IntKind.i64.wrap (Int.tdiv (IntKind.i64.wrap (b2-a1)) (4:Int)))*(2:Int))))) x14.2).bind fun x19 =>
  (eF aA (IntKind.i64.wrap (a1+(IntKind.i64.wrap ((IntKind.i64.wrap (Int.tdiv (IntKind.i64.wrap (b2-a1)) (4:Int)))*(3:Int))))) x19.2).bind fun x24 =>
  fZ aA x24.2 x14.1 x19.1 x24.1)
  (fZ aA 0 (IntKind.i64.wrap (a1+(IntKind.i64.wrap ((IntKind.i64.wrap (Int.tdiv (IntKind.i64.wrap (b2-a1)) (4:Int)))*(1:Int))))) (IntKind.i64.wrap (a1+(IntKind.i64.wrap ((IntKind.i64.wrap (Int.tdiv (IntKind.i64.wrap (b2-a1)) (4:Int)))*(2:Int))))) (IntKind.i64.wrap (a1+(IntKind.i64.wrap ((IntKind.i64.wrap (Int.tdiv (IntKind.i64.wrap (b2-a1)) (4:Int)))*(3:Int)))))))
  (gH aA 0 (IntKind.i64.wrap (a1+(IntKind.i64.wrap ((IntKind.i64.wrap (Int.tdiv (IntKind.i64.wrap (b2-a1)) (4:Int)))*(2:Int))))))

def dW  (aA:List Int)(i6:Int)(j7:Int):Option ((List Int×Int×Int)⊕((List Int))) :=
  cond (decide (i6<j7))
  (bE (0<=j7/\j7<((List.length aA:Nat):Int)) <|
  bE (0<=i6/\i6<((List.length aA:Nat):Int)) <|
  bE (0<=i6/\i6<((List.length aA:Nat):Int)) <|
  bE (0<=j7/\j7<((List.length aA:Nat):Int)) <|
  some (.inl (List.set (List.set aA (Int.toNat i6) (List.getD aA (Int.toNat j7) default)) (Int.toNat j7) (List.getD aA (Int.toNat i6) default),IntKind.i64.wrap (i6+(1:Int)),IntKind.i64.wrap (j7-(1:Int)))))
  (some (.inr aA))

def kH (aA:List Int)(i6:Int)(j7:Int):Option (List Int) :=
  (lp (fun s=>dW s.1 s.2.1 s.2.2) (aA,i6,j7)).bind (fun rr=>some rr)

def iV (aA:(List Int))(a1:Int)(b2:Int):Option (List Int) :=
  kH aA a1 (IntKind.i64.wrap (b2-(1:Int)))

def eZ (aA:List Int):Option (Bool×List Int) :=
  some (false,aA)

def dY (aA:List Int)(a1:Int)(b2:Int)(i7:Int)(j8:Int):Option ((List Int×Int×Int)⊕((List Int)⊕(Bool×(List Int)))) :=
  some (.inl (aA,i7,IntKind.i64.wrap (j8+(1:Int))))

def cV (a1:Int)(b2:Int)(i7:Int)(j8:Int)(aA:List Int)(j10:Int):Option ((List Int×Int)⊕((List Int))) :=
  cond (decide (j10<b2))
  (bE (0<=j10/\j10<((List.length aA:Nat):Int)) <|
  bE (0<=(IntKind.i64.wrap (j10-(1:Int)))/\(IntKind.i64.wrap (j10-(1:Int)))<((List.length aA:Nat):Int)) <|
  (dH (List.getD aA (Int.toNat j10) default) (List.getD aA (Int.toNat (IntKind.i64.wrap (j10-(1:Int)))) default)).bind fun x12 =>
  cond (!x12)
  (some (.inr aA))
  (bE (0<=(IntKind.i64.wrap (j10-(1:Int)))/\(IntKind.i64.wrap (j10-(1:Int)))<((List.length aA:Nat):Int)) <|
  bE (0<=j10/\j10<((List.length aA:Nat):Int)) <|
  bE (0<=j10/\j10<((List.length aA:Nat):Int)) <|
  bE (0<=(IntKind.i64.wrap (j10-(1:Int)))/\(IntKind.i64.wrap (j10-(1:Int)))<((List.length aA:Nat):Int)) <|
  some (.inl (List.set (List.set aA (Int.toNat j10) (List.getD aA (Int.toNat (IntKind.i64.wrap (j10-(1:Int)))) default)) (Int.toNat (IntKind.i64.wrap (j10-(1:Int)))) (List.getD aA (Int.toNat j10) default),IntKind.i64.wrap (j10+(1:Int))))))
  (some (.inr aA))

def gY (aA:List Int)(a1:Int)(b2:Int)(i7:Int)(j8:Int)(j10:Int):Option ((List Int×Int×Int)⊕((List Int)⊕(Bool×(List Int)))) :=
  (lp (fun s=>cV a1 b2 i7 j8 s.1 s.2) (aA,j10)).bind (fun rr=>dY rr a1 b2 i7 j8)

def cN (aA:List Int)(a1:Int)(b2:Int)(i7:Int)(j8:Int):Option ((List Int×Int×Int)⊕((List Int)⊕(Bool×(List Int)))) :=
  cond (decide ((2:Int)<=(IntKind.i64.wrap (b2-i7))))
  (gY aA a1 b2 i7 j8 (IntKind.i64.wrap (i7+(1:Int))))
  (dY aA a1 b2 i7 j8)

def cO (a1:Int)(b2:Int)(i7:Int)(j8:Int)(aA:List Int)(j9:Int):Option ((List Int×Int)⊕((List Int))) :=
  cond (decide ((1:Int)<=j9))
  (bE (0<=j9/\j9<((List.length aA:Nat):Int)) <|
  bE (0<=(IntKind.i64.wrap (j9-(1:Int)))/\(IntKind.i64.wrap (j9-(1:Int)))<((List.length aA:Nat):Int)) <|
  (dH (List.getD aA (Int.toNat j9) default) (List.getD aA (Int.toNat (IntKind.i64.wrap (j9-(1:Int)))) default)).bind fun x24 =>
  cond (!x24)
  (some (.inr aA))
  (bE (0<=(IntKind.i64.wrap (j9-(1:Int)))/\(IntKind.i64.wrap (j9-(1:Int)))<((List.length aA:Nat):Int)) <|
  bE (0<=j9/\j9<((List.length aA:Nat):Int)) <|
  bE (0<=j9/\j9<((List.length aA:Nat):Int)) <|
  bE (0<=(IntKind.i64.wrap (j9-(1:Int)))/\(IntKind.i64.wrap (j9-(1:Int)))<((List.length aA:Nat):Int)) <|
  some (.inl (List.set (List.set aA (Int.toNat j9) (List.getD aA (Int.toNat (IntKind.i64.wrap (j9-(1:Int)))) default)) (Int.toNat (IntKind.i64.wrap (j9-(1:Int)))) (List.getD aA (Int.toNat j9) default),IntKind.i64.wrap (j9-(1:Int))))))
  (some (.inr aA))

def gZ (aA:List Int)(a1:Int)(b2:Int)(i7:Int)(j8:Int)(j9:Int):Option ((List Int×Int×Int)⊕((List Int)⊕(Bool×(List Int)))) :=
  (lp (fun s=>cO a1 b2 i7 j8 s.1 s.2) (aA,j9)).bind (fun rr=>cN rr a1 b2 i7 j8)

def eY (aA:List Int)(a1:Int)(b2:Int)(i7:Int)(j8:Int):Option ((List Int×Int×Int)⊕((List Int)⊕(Bool×(List Int)))) :=
  cond (decide (i7=b2))
  (some (.inr (.inr (true,aA))))
  (cond (decide ((IntKind.i64.wrap (b2-a1))<(50:Int)))
  (some (.inr (.inr (false,aA))))
  (bE (0<=(IntKind.i64.wrap (i7-(1:Int)))/\(IntKind.i64.wrap (i7-(1:Int)))<((List.length aA:Nat):Int)) <|
  bE (0<=i7/\i7<((List.length aA:Nat):Int)) <|
  bE (0<=i7/\i7<((List.length aA:Nat):Int)) <|
  bE (0<=(IntKind.i64.wrap (i7-(1:Int)))/\(IntKind.i64.wrap (i7-(1:Int)))<((List.length aA:Nat):Int)) <|
  cond (decide ((2:Int)<=(IntKind.i64.wrap (i7-a1))))
  (gZ (List.set (List.set aA (Int.toNat i7) (List.getD aA (Int.toNat (IntKind.i64.wrap (i7-(1:Int)))) default)) (Int.toNat (IntKind.i64.wrap (i7-(1:Int)))) (List.getD aA (Int.toNat i7) default)) a1 b2 i7 j8 (IntKind.i64.wrap (i7-(1:Int))))
  (cN (List.set (List.set aA (Int.toNat i7) (List.getD aA (Int.toNat (IntKind.i64.wrap (i7-(1:Int)))) default)) (Int.toNat (IntKind.i64.wrap (i7-(1:Int)))) (List.getD aA (Int.toNat i7) default)) a1 b2 i7 j8)))

def cU (a1:Int)(b2:Int)(j8:Int)(aA:List Int)(i7:Int):Option ((List Int×Int)⊕((List Int×Int))) :=
  bE ((((decide (i7<b2)))=true->0<=i7/\i7<((List.length aA:Nat):Int))) <|
  bE ((((decide (i7<b2)))=true->0<=(IntKind.i64.wrap (i7-(1:Int)))/\(IntKind.i64.wrap (i7-(1:Int)))<((List.length aA:Nat):Int))) <|
  (cX (decide (i7<b2)) (dH (List.getD aA (Int.toNat i7) default) (List.getD aA (Int.toNat (IntKind.i64.wrap (i7-(1:Int)))) default))).bind fun x34 =>
  cond ((decide (i7<b2))&&(!x34))
  (some (.inl (aA,IntKind.i64.wrap (i7+(1:Int)))))
  (some (.inr (aA,i7)))

def dO (aA:List Int)(a1:Int)(b2:Int)(i7:Int)(j8:Int):Option ((List Int×Int×Int)⊕((List Int)⊕(Bool×(List Int)))) :=
  (lp (fun s=>cU a1 b2 j8 s.1 s.2) (aA,i7)).bind (fun rr=>eY rr.1 a1 b2 rr.2 j8)

def cB (a1:Int)(b2:Int)(aA:List Int)(i7:Int)(j8:Int):Option ((List Int×Int×Int)⊕((List Int)⊕(Bool×(List Int)))) :=
  cond (decide (j8<(5:Int)))
  (dO aA a1 b2 i7 j8)
  (some (.inr (.inl aA)))

def hY (aA:List Int)(a1:Int)(b2:Int)(i7:Int)(j8:Int):Option (Bool×List Int) :=
  (lp (fun s=>cB a1 b2 s.1 s.2.1 s.2.2) (aA,i7,j8)).bind (Sum.elim (fun rr=>eZ rr) (fun rr=>some (rr.1,rr.2)))

def fI (aA:(List Int))(a1:Int)(b2:Int):Option (Bool×List Int) :=
  hY aA a1 b2 (IntKind.i64.wrap (a1+(1:Int))) (0:Int)

def jU (aA:List Int)(i9:Int):Option (Int×List Int) :=
  some (i9,aA)

def eB (aA:List Int)(a1:Int)(i9:Int)(j10:Int):Option ((List Int×Int×Int)⊕((List Int×Int))) :=
  cond (decide (j10<i9))
  (some (.inr (aA,i9)))
  (bE (0<=j10/\j10<((List.length aA:Nat):Int)) <|
  bE (0<=i9/\i9<((List.length aA:Nat):Int)) <|
  bE (0<=i9/\i9<((List.length aA:Nat):Int)) <|
  bE (0<=j10/\j10<((List.length aA:Nat):Int)) <|
  some (.inl (List.set (List.set aA (Int.toNat i9) (List.getD aA (Int.toNat j10) default)) (Int.toNat j10) (List.getD aA (Int.toNat i9) default),IntKind.i64.wrap (i9+(1:Int)),IntKind.i64.wrap (j10-(1:Int)))))

def eA (a1:Int)(i9:Int)(aA:List Int)(j10:Int):Option ((List Int×Int)⊕((List Int×Int))) :=
  bE ((((decide (i9<=j10)))=true->0<=a1/\a1<((List.length aA:Nat):Int))) <|
  bE ((((decide (i9<=j10)))=true->0<=j10/\j10<((List.length aA:Nat):Int))) <|
  (cX (decide (i9<=j10)) (dH (List.getD aA (Int.toNat a1) default) (List.getD aA (Int.toNat j10) default))).bind fun x12 =>
  cond ((decide (i9<=j10))&&x12)
  (some (.inl (aA,IntKind.i64.wrap (j10-(1:Int)))))
  (some (.inr (aA,j10)))

def jR (aA:List Int)(a1:Int)(i9:Int)(j10:Int):Option ((List Int×Int×Int)⊕((List Int×Int))) :=
  (lp (fun s=>eA a1 i9 s.1 s.2) (aA,j10)).bind (fun rr=>eB rr.1 a1 i9 rr.2)

def gS (aA:List Int)(a1:Int)(i9:Int)(j10:Int):Option ((List Int×Int×Int)⊕((List Int×Int))) :=
  jR aA a1 i9 j10

def dZ (a1:Int)(j10:Int)(aA:List Int)(i9:Int):Option ((List Int×Int)⊕((List Int×Int))) :=
  bE ((((decide (i9<=j10)))=true->0<=a1/\a1<((List.length aA:Nat):Int))) <|
  bE ((((decide (i9<=j10)))=true->0<=i9/\i9<((List.length aA:Nat):Int))) <|
  (cX (decide (i9<=j10)) (dH (List.getD aA (Int.toNat a1) default) (List.getD aA (Int.toNat i9) default))).bind fun x18 =>
  cond ((decide (i9<=j10))&&(!x18))
  (some (.inl (aA,IntKind.i64.wrap (i9+(1:Int)))))
  (some (.inr (aA,i9)))

def jT (aA:List Int)(a1:Int)(i9:Int)(j10:Int):Option ((List Int×Int×Int)⊕((List Int×Int))) :=
  (lp (fun s=>dZ a1 j10 s.1 s.2) (aA,i9)).bind (fun rr=>gS rr.1 a1 rr.2 j10)

def dK (a1:Int)(aA:List Int)(i9:Int)(j10:Int):Option ((List Int×Int×Int)⊕((List Int×Int))) :=
  jT aA a1 i9 j10

def jV (aA:List Int)(a1:Int)(i9:Int)(j10:Int):Option (Int×List Int) :=
  (lp (fun s=>dK a1 s.1 s.2.1 s.2.2) (aA,i9,j10)).bind (fun rr=>jU rr.1 rr.2)

def fK (aA:(List Int))(a1:Int)(b2:Int)(cP:Int):Option (Int×List Int) :=
  bE (0<=cP/\cP<((List.length aA:Nat):Int)) <|
  bE (0<=a1/\a1<((List.length aA:Nat):Int)) <|
  bE (0<=a1/\a1<((List.length aA:Nat):Int)) <|
  bE (0<=cP/\cP<((List.length aA:Nat):Int)) <|
  jV (List.set (List.set aA (Int.toNat a1) (List.getD aA (Int.toNat cP) default)) (Int.toNat cP) (List.getD aA (Int.toNat a1) default)) a1 (IntKind.i64.wrap (a1+(1:Int))) (IntKind.i64.wrap (b2-(1:Int)))

def jI (aA:List Int)(a1:Int)(j11:Int):Option ((Int×Bool)×List Int) :=
  bE (0<=a1/\a1<((List.length aA:Nat):Int)) <|
  bE (0<=j11/\j11<((List.length aA:Nat):Int)) <|
  bE (0<=j11/\j11<((List.length aA:Nat):Int)) <|
  bE (0<=a1/\a1<((List.length aA:Nat):Int)) <|
  some ((j11,false),(List.set (List.set aA (Int.toNat j11) (List.getD aA (Int.toNat a1) default)) (Int.toNat a1) (List.getD aA (Int.toNat j11) default)))

def fA (aA:List Int)(a1:Int)(i10:Int)(j11:Int):Option ((List Int×Int×Int)⊕((List Int×Int))) :=
  cond (decide (j11<i10))
  (some (.inr (aA,j11)))
  (bE (0<=j11/\j11<((List.length aA:Nat):Int)) <|
  bE (0<=i10/\i10<((List.length aA:Nat):Int)) <|
  bE (0<=i10/\i10<((List.length aA:Nat):Int)) <|
  bE (0<=j11/\j11<((List.length aA:Nat):Int)) <|
  some (.inl (List.set (List.set aA (Int.toNat i10) (List.getD aA (Int.toNat j11) default)) (Int.toNat j11) (List.getD aA (Int.toNat i10) default),IntKind.i64.wrap (i10+(1:Int)),IntKind.i64.wrap (j11-(1:Int)))))

def fC (a1:Int)(i10:Int)(aA:List Int)(j11:Int):Option ((List Int×Int)⊕((List Int×Int))) :=
  bE ((((decide (i10<=j11)))=true->0<=j11/\j11<((List.length aA:Nat):Int))) <|
  bE ((((decide (i10<=j11)))=true->0<=a1/\a1<((List.length aA:Nat):Int))) <|
  (cX (decide (i10<=j11)) (dH (List.getD aA (Int.toNat j11) default) (List.getD aA (Int.toNat a1) default))).bind fun x25 =>
  cond ((decide (i10<=j11))&&(!x25))
  (some (.inl (aA,IntKind.i64.wrap (j11-(1:Int)))))
  (some (.inr (aA,j11)))

def lA (aA:List Int)(a1:Int)(i10:Int)(j11:Int):Option ((List Int×Int×Int)⊕((List Int×Int))) :=
  (lp (fun s=>fC a1 i10 s.1 s.2) (aA,j11)).bind (fun rr=>fA rr.1 a1 i10 rr.2)

def jF (aA:List Int)(a1:Int)(i10:Int)(j11:Int):Option ((List Int×Int×Int)⊕((List Int×Int))) :=
  lA aA a1 i10 j11

def fE (a1:Int)(j11:Int)(aA:List Int)(i10:Int):Option ((List Int×Int)⊕((List Int×Int))) :=
  bE ((((decide (i10<=j11)))=true->0<=i10/\i10<((List.length aA:Nat):Int))) <|
  bE ((((decide (i10<=j11)))=true->0<=a1/\a1<((List.length aA:Nat):Int))) <|
  (cX (decide (i10<=j11)) (dH (List.getD aA (Int.toNat i10) default) (List.getD aA (Int.toNat a1) default))).bind fun x31 =>
  cond ((decide (i10<=j11))&&x31)
  (some (.inl (aA,IntKind.i64.wrap (i10+(1:Int)))))
  (some (.inr (aA,i10)))

def lE (aA:List Int)(a1:Int)(i10:Int)(j11:Int):Option ((List Int×Int×Int)⊕((List Int×Int))) :=
  (lp (fun s=>fE a1 j11 s.1 s.2) (aA,i10)).bind (fun rr=>jF rr.1 a1 rr.2 j11)

def dV (a1:Int)(aA:List Int)(i10:Int)(j11:Int):Option ((List Int×Int×Int)⊕((List Int×Int))) :=
  lE aA a1 i10 j11

def lK (aA:List Int)(a1:Int)(i10:Int)(j11:Int):Option ((Int×Bool)×List Int) :=
  (lp (fun s=>dV a1 s.1 s.2.1 s.2.2) (aA,i10,j11)).bind (fun rr=>jI rr.1 a1 rr.2)

def fF (aA:List Int)(a1:Int)(i10:Int)(j11:Int):Option ((Int×Bool)×List Int) :=
  cond (decide (j11<i10))
  (bE (0<=a1/\a1<((List.length aA:Nat):Int)) <|
  bE (0<=j11/\j11<((List.length aA:Nat):Int)) <|
  bE (0<=j11/\j11<((List.length aA:Nat):Int)) <|
  bE (0<=a1/\a1<((List.length aA:Nat):Int)) <|
  some ((j11,true),(List.set (List.set aA (Int.toNat j11) (List.getD aA (Int.toNat a1) default)) (Int.toNat a1) (List.getD aA (Int.toNat j11) default))))
  (bE (0<=j11/\j11<((List.length aA:Nat):Int)) <|
  bE (0<=i10/\i10<((List.length aA:Nat):Int)) <|
  bE (0<=i10/\i10<((List.length aA:Nat):Int)) <|
  bE (0<=j11/\j11<((List.length aA:Nat):Int)) <|
  lK (List.set (List.set aA (Int.toNat i10) (List.getD aA (Int.toNat j11) default)) (Int.toNat j11) (List.getD aA (Int.toNat i10) default)) a1 (IntKind.i64.wrap (i10+(1:Int))) (IntKind.i64.wrap (j11-(1:Int))))

def fH (a1:Int)(i10:Int)(aA:List Int)(j11:Int):Option ((List Int×Int)⊕((List Int×Int))) :=
  bE ((((decide (i10<=j11)))=true->0<=j11/\j11<((List.length aA:Nat):Int))) <|
  bE ((((decide (i10<=j11)))=true->0<=a1/\a1<((List.length aA:Nat):Int))) <|
  (cX (decide (i10<=j11)) (dH (List.getD aA (Int.toNat j11) default) (List.getD aA (Int.toNat a1) default))).bind fun x37 =>
  cond ((decide (i10<=j11))&&(!x37))
  (some (.inl (aA,IntKind.i64.wrap (j11-(1:Int)))))
  (some (.inr (aA,j11)))

def lC (aA:List Int)(a1:Int)(i10:Int)(j11:Int):Option ((Int×Bool)×List Int) :=
  (lp (fun s=>fH a1 i10 s.1 s.2) (aA,j11)).bind (fun rr=>fF rr.1 a1 i10 rr.2)

def jH (aA:List Int)(a1:Int)(i10:Int)(j11:Int):Option ((Int×Bool)×List Int) :=
  lC aA a1 i10 j11

def eX (a1:Int)(j11:Int)(aA:List Int)(i10:Int):Option ((List Int×Int)⊕((List Int×Int))) :=
  bE ((((decide (i10<=j11)))=true->0<=i10/\i10<((List.length aA:Nat):Int))) <|
  bE ((((decide (i10<=j11)))=true->0<=a1/\a1<((List.length aA:Nat):Int))) <|
  (cX (decide (i10<=j11)) (dH (List.getD aA (Int.toNat i10) default) (List.getD aA (Int.toNat a1) default))).bind fun x43 =>
  cond ((decide (i10<=j11))&&x43)
  (some (.inl (aA,IntKind.i64.wrap (i10+(1:Int)))))
  (some (.inr (aA,i10)))

def gM (aA:List Int)(a1:Int)(i10:Int)(j11:Int):Option ((Int×Bool)×List Int) :=
  (lp (fun s=>eX a1 j11 s.1 s.2) (aA,i10)).bind (fun rr=>jH rr.1 a1 rr.2 j11)

def iE (aA:(List Int))(a1:Int)(b2:Int)(cP:Int):Option ((Int×Bool)×List Int) :=
  bE (0<=cP/\cP<((List.length aA:Nat):Int)) <|
  bE (0<=a1/\a1<((List.length aA:Nat):Int)) <|
  bE (0<=a1/\a1<((List.length aA:Nat):Int)) <|
  bE (0<=cP/\cP<((List.length aA:Nat):Int)) <|
  gM (List.set (List.set aA (Int.toNat a1) (List.getD aA (Int.toNat cP) default)) (Int.toNat cP) (List.getD aA (Int.toNat a1) default)) a1 (IntKind.i64.wrap (a1+(1:Int))) (IntKind.i64.wrap (b2-(1:Int)))

def iR (rec:(List Int)->Int->Int->Int->Option (List Int))(aA:List Int)(a1:Int)(b2:Int)(cE:Int)(bZ:Bool)(bS:Bool)(eE:Int)(gT:Int):Option ((List Int×Int×Int×Int×Bool×Bool)⊕((List Int))) :=
  bE ((((decide ((0:Int)<a1)))=true->0<=(IntKind.i64.wrap (a1-(1:Int)))/\(IntKind.i64.wrap (a1-(1:Int)))<((List.length aA:Nat):Int))) <|
  bE ((((decide ((0:Int)<a1)))=true->0<=gT/\gT<((List.length aA:Nat):Int))) <|
  (cX (decide ((0:Int)<a1)) (dH (List.getD aA (Int.toNat (IntKind.i64.wrap (a1-(1:Int)))) default) (List.getD aA (Int.toNat gT) default))).bind fun x16 =>
  cond ((decide ((0:Int)<a1))&&(!x16))
  ((fK aA a1 b2 gT).bind fun x20 =>
  some (.inl (x20.2,x20.1,b2,cE,bZ,bS)))
  ((iE aA a1 b2 gT).bind fun x23 =>
  bE ((8:Int)≠0) <|
  cond (decide ((IntKind.i64.wrap (x23.1.1-a1))<(IntKind.i64.wrap (b2-x23.1.1))))
  ((rec x23.2 a1 x23.1.1 cE).bind fun x28 =>
  some (.inl (x28,IntKind.i64.wrap (x23.1.1+(1:Int)),b2,cE,decide ((IntKind.i64.wrap (Int.tdiv eE (8:Int)))<=(IntKind.i64.wrap (x23.1.1-a1))),x23.1.2)))
  ((rec x23.2 (IntKind.i64.wrap (x23.1.1+(1:Int))) b2 cE).bind fun x31 =>
  some (.inl (x31,a1,x23.1.1,cE,decide ((IntKind.i64.wrap (Int.tdiv eE (8:Int)))<=(IntKind.i64.wrap (b2-x23.1.1))),x23.1.2))))

def iQ (rec:(List Int)->Int->Int->Int->Option (List Int))(aA:List Int)(a1:Int)(b2:Int)(cE:Int)(bZ:Bool)(bS:Bool)(eE:Int)(gT:Int)(HP:Int):Option ((List Int×Int×Int×Int×Bool×Bool)⊕((List Int))) :=
  cond ((bZ&&bS)&&(decide (HP=(1:Int))))
  ((fI aA a1 b2).bind fun x35 =>
  cond x35.1
  (some (.inr x35.2))
  (iR rec x35.2 a1 b2 cE bZ bS eE gT))
  (iR rec aA a1 b2 cE bZ bS eE gT)

def iS (rec:(List Int)->Int->Int->Int->Option (List Int))(aA:List Int)(a1:Int)(b2:Int)(cE:Int)(bZ:Bool)(bS:Bool)(eE:Int):Option ((List Int×Int×Int×Int×Bool×Bool)⊕((List Int))) :=
  (iZ aA a1 b2).bind fun x9 =>
  cond (decide (x9.2=(2:Int)))
  ((iV aA a1 b2).bind fun x40 =>
  iQ rec x40 a1 b2 cE bZ bS eE (IntKind.i64.wrap ((IntKind.i64.wrap (b2-(1:Int)))-(IntKind.i64.wrap (x9.1-a1)))) (1:Int))
  (iQ rec aA a1 b2 cE bZ bS eE x9.1 x9.2)

def eV (rec:(List Int)->Int->Int->Int->Option (List Int))  (aA:List Int)(a1:Int)(b2:Int)(cE:Int)(bZ:Bool)(bS:Bool):Option ((List Int×Int×Int×Int×Bool×Bool)⊕((List Int))) :=
  cond (decide ((IntKind.i64.wrap (b2-a1))<=(12:Int)))
  ((iL aA a1 b2).bind fun x2 =>
  some (.inr x2))
  (cond (decide (cE=(0:Int)))
  ((kF aA a1 b2).bind fun x6 =>
  some (.inr x6))
  (cond (!bZ)
  ((iK aA a1 b2).bind fun x44 =>
  iS rec x44 a1 b2 (IntKind.i64.wrap (cE-(1:Int))) bZ bS (IntKind.i64.wrap (b2-a1)))
  (iS rec aA a1 b2 cE bZ bS (IntKind.i64.wrap (b2-a1)))))

def mC (rec:(List Int)->Int->Int->Int->Option (List Int))(aA:List Int)(a1:Int)(b2:Int)(cE:Int)(bZ:Bool)(bS:Bool):Option (List Int) :=
  (lp (fun s=>eV rec s.1 s.2.1 s.2.2.1 s.2.2.2.1 s.2.2.2.2.1 s.2.2.2.2.2) (aA,a1,b2,cE,bZ,bS)).bind (fun rr=>some rr)

def gU (rec:(List Int)->Int->Int->Int->Option (List Int))(aA:(List Int))(a1:Int)(b2:Int)(cE:Int):Option (List Int) :=
  mC rec aA a1 b2 cE true true

def dS  : Nat->(List Int)->Int->Int->Int->Option (List Int)
  | 0=>fun _ _ _ _=>none
  | k+1=>gU (dS k)

def kK (aA:(List Int))(a1:Int)(b2:Int)(cE:Int):Option (List Int):=ZQ (fun k=>dS k aA a1 b2 cE)

def gR (x0:(List Int)):Option (List Int) :=
  (lM (IntKind.u64.wrap ((List.length x0:Nat):Int))).bind fun x1 =>
  (kK x0 (0:Int) ((List.length x0:Nat):Int) x1).bind fun x4 =>
  some x4

def lH (s0:List Int):Option (List Int) :=
  some s0

def nJ (s0:List Int)(k3:Int):Option ((List Int×Int)⊕((List Int)⊕(List Int))) :=
  some (.inl (s0,IntKind.i64.wrap (k3+(1:Int))))

def lP (s0:List Int)(k3:Int):Option ((List Int×Int)⊕((List Int)⊕(List Int))) :=
  bE (0<=k3/\k3<=((List.length s0:Nat):Int)) <|
  bE (0<=k3/\k3<=((List.length (kP (0+Int.toNat k3) s0):Nat):Int)) <|
  bE (Int.toNat k3<=List.length (kP (0+Int.toNat k3) s0)) <|
  some (.inr (.inr (List.take (Int.toNat k3) (kP (0+Int.toNat k3) s0))))

def jN (s0:List Int)(k3:Int)(k25:Int)(s24o:Nat)(s24n:Nat):Option ((List Int×Int×Int)⊕((List Int×Int))) :=
  some (.inl (s0,k3,IntKind.i64.wrap (k25+(1:Int))))

def fX (s24o:Nat)(s24n:Nat)(s0:List Int)(k3:Int)(k25:Int):Option ((List Int×Int×Int)⊕((List Int×Int))) :=
  cond (decide (k25<((s24n:Nat):Int)))
  (bE (0<=k25/\k25<((s24n:Nat):Int)) <|
  bE ((s24o+Int.toNat k25)<List.length s0) <|
  bE (0<=(IntKind.i64.wrap (k25-(1:Int)))/\(IntKind.i64.wrap (k25-(1:Int)))<((s24n:Nat):Int)) <|
  bE ((s24o+Int.toNat (IntKind.i64.wrap (k25-(1:Int))))<List.length s0) <|
  cond (!decide ((List.getD s0 (s24o+Int.toNat k25) default)=(List.getD s0 (s24o+Int.toNat (IntKind.i64.wrap (k25-(1:Int)))) default)))
  (bE (0<=k25/\k25<((s24n:Nat):Int)) <|
  bE ((s24o+Int.toNat k25)<List.length s0) <|
  bE (0<=k3/\k3<((List.length s0:Nat):Int)) <|
  jN (List.set s0 (Int.toNat k3) (List.getD s0 (s24o+Int.toNat k25) default)) (IntKind.i64.wrap (k3+(1:Int))) k25 s24o s24n)
  (jN s0 k3 k25 s24o s24n))
  (some (.inr (s0,k3)))

def nK (s0:List Int)(k3:Int)(k25:Int)(s24o:Nat)(s24n:Nat):Option ((List Int×Int)⊕((List Int)⊕(List Int))) :=
  (lp (fun s=>fX s24o s24n s.1 s.2.1 s.2.2) (s0,k3,k25)).bind (fun rr=>lP rr.1 rr.2)

def iF  (s0:List Int)(k3:Int):Option ((List Int×Int)⊕((List Int)⊕(List Int))) :=
  cond (decide (k3<((List.length s0:Nat):Int)))
  (bE (0<=k3/\k3<((List.length s0:Nat):Int)) <|
  bE (0<=(IntKind.i64.wrap (k3-(1:Int)))/\(IntKind.i64.wrap (k3-(1:Int)))<((List.length s0:Nat):Int)) <|
  cond (decide ((List.getD s0 (Int.toNat k3) default)=(List.getD s0 (Int.toNat (IntKind.i64.wrap (k3-(1:Int)))) default)))
  (bE (0<=k3/\k3<=((List.length s0:Nat):Int)) <|
  nK s0 k3 (1:Int) (0+Int.toNat k3) (List.length s0-Int.toNat k3))
  (nJ s0 k3))
  (some (.inr (.inl s0)))

def nI (s0:List Int)(k3:Int):Option (List Int) :=
  (lp (fun s=>iF s.1 s.2) (s0,k3)).bind (Sum.elim (fun rr=>lH rr) (fun rr=>some rr))

def kE (s0:(List Int)):Option (List Int) :=
  cond (decide (((List.length s0:Nat):Int)<(2:Int)))
  (some s0)
  (nI s0 (1:Int))

def rE (t7c0:(List aF))(out3:List Int)(t8:aF):Option ((List Int)⊕(List Int)) :=
  bE ((List.length out3+List.length ([t8.At]))*8<=140737488355328/\List.length out3+List.length ([t8.At])<=9223372036854775807) <|
  some (.inl (out3++([t8.At])))

def uN (out3:List Int)(t7c0:(List aF)):Option (List Int) :=
  (nG (fun st t8=>rnd (fun (s:List Int)=>rE t7c0 s t8) st) t7c0 (.inl out3)).bind (Sum.elim (fun (s:List Int) =>
  ((gR s).bind fun x10 =>
  (kE x10).bind fun x13 =>
  some x13))
  (fun (s:List Int) =>
  (none)))

def pQ (l0:(List aF)):Option (List Int) :=
  (qR l0).bind fun x3 =>
  uN ([]:List Int) x3

def pE (x0:Int):Option Bool :=
  some (!decide (x0=x0))

def jJ (x0:(List Int))(gG:Int)(n6:Int)(i7:Int):Option (Int×Bool) :=
  bE ((((decide (i7<n6)))=true->0<=i7/\i7<((List.length x0:Nat):Int))) <|
  bE ((((!(decide ((List.getD x0 (Int.toNat i7) default)=gG)))&&(decide (i7<n6)))=true->0<=i7/\i7<((List.length x0:Nat):Int))) <|
  (cX ((!(decide ((List.getD x0 (Int.toNat i7) default)=gG)))&&(decide (i7<n6))) (pE (List.getD x0 (Int.toNat i7) default))).bind fun x3 =>
  (cX (x3&&((!(decide ((List.getD x0 (Int.toNat i7) default)=gG)))&&(decide (i7<n6)))) (pE gG)).bind fun x6 =>
  some (i7,(decide (i7<n6))&&((decide ((List.getD x0 (Int.toNat i7) default)=gG))||(x3&&x6)))

def fD (x0:(List Int))(gG:Int)(n6:Int)(i7:Int)(j8:Int):Option ((Int×Int)⊕(Int)) :=
  cond (decide (i7<j8))
  (bE (0<=(1:Int)) <|
  bE (0<=(IntKind.i64.wrap (Int.fdiv (IntKind.u64.wrap (IntKind.i64.wrap (i7+j8))) (2 ^ (min (Int.toNat (1:Int)) 64))))/\(IntKind.i64.wrap (Int.fdiv (IntKind.u64.wrap (IntKind.i64.wrap (i7+j8))) (2 ^ (min (Int.toNat (1:Int)) 64))))<((List.length x0:Nat):Int)) <|
  (dH (List.getD x0 (Int.toNat (IntKind.i64.wrap (Int.fdiv (IntKind.u64.wrap (IntKind.i64.wrap (i7+j8))) (2 ^ (min (Int.toNat (1:Int)) 64))))) default) gG).bind fun x12 =>
  cond x12
  (some (.inl (IntKind.i64.wrap ((IntKind.i64.wrap (Int.fdiv (IntKind.u64.wrap (IntKind.i64.wrap (i7+j8))) (2 ^ (min (Int.toNat (1:Int)) 64))))+(1:Int)),j8)))
  (some (.inl (i7,IntKind.i64.wrap (Int.fdiv (IntKind.u64.wrap (IntKind.i64.wrap (i7+j8))) (2 ^ (min (Int.toNat (1:Int)) 64)))))))
  (some (.inr i7))

def lI (x0:(List Int))(gG:Int)(n6:Int)(i7:Int)(j8:Int):Option (Int×Bool) :=
  (lp (fun s=>fD x0 gG n6 s.1 s.2) (i7,j8)).bind (fun rr=>jJ x0 gG n6 rr)

def fR (x0:(List Int))(gG:Int):Option (Int×Bool) :=
  lI x0 gG ((List.length x0:Nat):Int) (0:Int) ((List.length x0:Nat):Int)

def vF (l0:(List aF))(n1:Int)(t2:Int):Option (Int×Int) :=
  (tJ l0 n1).bind fun x1 =>
  cond (!decide (x1=(0:Int)))
  (some ((0:Int),x1))
  (cond ((decide (t2<(0:Int)))||(decide ((1125899906842624:Int)<t2)))
  (some ((0:Int),(13:Int)))
  (cond (decide (t2=(1125899906842624:Int)))
  (some (t2,(0:Int)))
  ((pQ l0).bind fun x7 =>
  (fR x7 t2).bind fun x10 =>
  cond (decide ((if (IntKind.i64.wrap ((IntKind.i64.wrap (x10.1-n1))+(1:Int)))>(0:Int) then (IntKind.i64.wrap ((IntKind.i64.wrap (x10.1-n1))+(1:Int))) else (0:Int))=x10.1))
  (some (t2,(0:Int)))
  (bE (0<=(if (IntKind.i64.wrap ((IntKind.i64.wrap (x10.1-n1))+(1:Int)))>(0:Int) then (IntKind.i64.wrap ((IntKind.i64.wrap (x10.1-n1))+(1:Int))) else (0:Int))/\(if (IntKind.i64.wrap ((IntKind.i64.wrap (x10.1-n1))+(1:Int)))>(0:Int) then (IntKind.i64.wrap ((IntKind.i64.wrap (x10.1-n1))+(1:Int))) else (0:Int))<((List.length x7:Nat):Int)) <|
  some (List.getD x7 (Int.toNat (if (IntKind.i64.wrap ((IntKind.i64.wrap (x10.1-n1))+(1:Int)))>(0:Int) then (IntKind.i64.wrap ((IntKind.i64.wrap (x10.1-n1))+(1:Int))) else (0:Int))) default,(0:Int))))))

def oM (w0:bY)(l1:(List aF))(t2:Int):Option (Int×Int) :=
  (qT w0 l1 t2).bind fun x1 =>
  cond (!decide (x1=(0:Int)))
  (some ((0:Int),x1))
  (cond (decide (w0.Kind=(2:Int)))
  ((AP w0.Size w0.Hop t2).bind fun x6 =>
  some (if t2<x6.1 then t2 else x6.1,x6.2))
  (cond (decide (w0.Kind=(3:Int)))
  ((vF l1 w0.Size t2).bind fun x10 =>
  some (x10.1,x10.2))
  (some (t2,(0:Int)))))

def wG (t1:Int):Option Int :=
  some t1

def sE (t1:Int)(t7:(List aF))(t8:Int)(t9:Int):Option ((Int×Int)⊕(Int)) :=
  some (.inl (t1,IntKind.i64.wrap (t9+(1:Int))))

def pT (t7:(List aF))(t8:Int)(t1:Int)(t9:Int):Option ((Int×Int)⊕(Int)) :=
  cond (decide (t9<t8))
  (bE (0<=t9/\t9<((List.length t7:Nat):Int)) <|
  cond (decide ((0:Int)<((List.getD t7 (Int.toNat t9) default).Net)))
  (sE (if (IntKind.i64.wrap (((List.getD t7 (Int.toNat t9) default).At)+(1:Int)))>t1 then (IntKind.i64.wrap (((List.getD t7 (Int.toNat t9) default).At)+(1:Int))) else t1) t7 t8 t9)
  (sE t1 t7 t8 t9))
  (some (.inr t1))

def wL (t1:Int)(t7:(List aF))(t8:Int)(t9:Int):Option Int :=
  (lp (fun s=>pT t7 t8 s.1 s.2) (t1,t9)).bind (fun rr=>wG rr)

def tE (l0:(List aF))(t1:Int):Option Int :=
  wL t1 l0 ((List.length l0:Nat):Int) (0:Int)

def sB (l0:(List aF)):Option ((List aF)) :=
  some l0

def mA {σ:Type}(cH:σ->(List aI)->(List aB)->Option (σ×Bool))(t9c0:(List aF))(sg:σ)(t10:(List aI))(t11:(List aB)):Option ((σ)⊕(σ)) :=
  (cH sg t10 t11).bind fun x7 =>
  cond (!x7.2)
  (some (.inr x7.1))
  (some (.inl x7.1))

def sI {σ:Type}(cH:σ->(List aI)->(List aB)->Option (σ×Bool))(sg:σ)(t9c0:(List aF)):Option σ :=
  (nO (fun st t10 t11=>rnd (fun (s:σ)=>mA cH t9c0 s t10 t11) st) t9c0 (.inl sg)).bind (Sum.elim (fun (s:σ) =>
  (some s))
  (fun (s:σ) =>
  (some s)))

def nX {σ:Type}(cH:σ->(List aI)->(List aB)->Option (σ×Bool))(t1:(List aF))(sg0:σ):Option σ :=
  (oT t1).bind fun x1 =>
  cond (!x1)
  (some sg0)
  ((qN t1).bind fun x5 =>
  sI cH sg0 x5)

def CD (f0:(List aB)):Option ((List aB)) :=
  some f0

def oP {σ:Type}(cH:σ->bJ->Option (σ×Bool))(sg:σ)(n3:Int)(kR:Int):Option σ :=
  cond (decide ((0:Int)<n3))
  ((cH sg (bJ.mk kR (1125899906842624:Int))).bind fun x2 =>
  some x2.1)
  (some sg)

def nC {σ:Type}(cH:σ->bJ->Option (σ×Bool))(sg:σ)(n3:Int)(kR:Int)(j6:aB)(t7:(List aB))(t8:Int)(t9:Int):Option ((σ×Int×Int×Int)⊕((σ×Int×Int)⊕σ)) :=
  (CV (decide ((IntKind.i64.wrap (n3+j6.Net))=(0:Int))) sg (cH sg (bJ.mk kR j6.At))).bind fun (x10,x11) =>
  cond ((decide ((IntKind.i64.wrap (n3+j6.Net))=(0:Int)))&&(!x11))
  (some (.inr (.inr x10)))
  (some (.inl (x10,IntKind.i64.wrap (n3+j6.Net),kR,IntKind.i64.wrap (t9+(1:Int)))))

def gW {σ:Type}(cH:σ->bJ->Option (σ×Bool))(t7:(List aB))(t8:Int)(sg:σ)(n3:Int)(kR:Int)(t9:Int):Option ((σ×Int×Int×Int)⊕((σ×Int×Int)⊕σ)) :=
  cond (decide (t9<t8))
  (bE (0<=t9/\t9<((List.length t7:Nat):Int)) <|
  cond (decide (n3=(0:Int)))
  (nC cH sg n3 ((List.getD t7 (Int.toNat t9) default).At) (List.getD t7 (Int.toNat t9) default) t7 t8 t9)
  (nC cH sg n3 kR (List.getD t7 (Int.toNat t9) default) t7 t8 t9))
  (some (.inr (.inl (sg,n3,kR))))

def uI {σ:Type}(cH:σ->bJ->Option (σ×Bool))(sg:σ)(n3:Int)(kR:Int)(t7:(List aB))(t8:Int)(t9:Int):Option σ :=
  (lp (fun s=>gW cH t7 t8 s.1 s.2.1 s.2.2.1 s.2.2.2) (sg,n3,kR,t9)).bind (Sum.elim (fun rr=>oP cH rr.1 rr.2.1 rr.2.2) (fun rr=>some rr))

def sM {σ:Type}(cH:σ->bJ->Option (σ×Bool))(t1:(List aB))(sg0:σ):Option σ :=
  uI cH sg0 (0:Int) (0:Int) t1 ((List.length t1:Nat):Int) (0:Int)

def BD (mZ:Int)(hop1:Int)(s2:bJ)(mR:Int)(kG:Int):Option ((Int×bJ×Int×Int×Int)) :=
  some (hop1,s2,mZ,mR,kG)

def kB {σ:Type}(cH:σ->Int->Option (σ×Bool))(t1:Int)(t2:bJ)(t5:Int)(sg:σ)(t8:Int):Option ((σ×Int)⊕(σ⊕σ)) :=
  cond (decide (t8<(if (1125899906842624:Int)<(if t5<t2.To then t5 else t2.To) then (1125899906842624:Int) else (if t5<t2.To then t5 else t2.To))))
  ((cH sg t8).bind fun x8 =>
  cond (!x8.2)
  (some (.inr (.inr x8.1)))
  (some (.inl (x8.1,IntKind.i64.wrap (t8+t1)))))
  (some (.inr (.inl sg)))

def qD {σ:Type}(cH:σ->Int->Option (σ×Bool))(sg:σ)(t1:Int)(t2:bJ)(t5:Int)(t8:Int):Option σ :=
  (lp (fun s=>kB cH t1 t2 t5 s.1 s.2) (sg,t8)).bind (Sum.elim (fun rr=>some rr) (fun rr=>some rr))

def rJ {σ:Type}(cH:σ->Int->Option (σ×Bool))(t1:Int)(t2:bJ)(t3:Int)(t4:Int)(t5:Int)(sg0:σ):Option σ :=
  (rD t1 (IntKind.i64.wrap (t2.From-t3))).bind fun x1 =>
  (rD t1 (IntKind.i64.wrap (t4-(1:Int)))).bind fun x4 =>
  qD cH sg0 t1 t2 t5 (if x4>x1 then x4 else x1)

def yB (v5:Int):Option Int :=
  some v5

def oY (t1:Int)(t11:(List aB))(t12:Int)(v5:Int)(t13:Int):Option ((Int×Int)⊕(Int)) :=
  cond (decide (t13<t12))
  (bE (0<=t13/\t13<((List.length t11:Nat):Int)) <|
  cond (decide (t1<((List.getD t11 (Int.toNat t13) default).At)))
  (some (.inr v5))
  (some (.inl (IntKind.i64.wrap (v5+((List.getD t11 (Int.toNat t13) default).Net)),IntKind.i64.wrap (t13+(1:Int))))))
  (some (.inr v5))

def DO (t1:Int)(v5:Int)(t11:(List aB))(t12:Int)(t13:Int):Option Int :=
  (lp (fun s=>oY t1 t11 t12 s.1 s.2) (v5,t13)).bind (fun rr=>yB rr)

def zV (f0:(List aB))(t1:Int):Option Int :=
  (nS f0).bind fun x1 =>
  cond (!x1)
  (some (0:Int))
  (DO t1 (0:Int) f0 ((List.length f0:Nat):Int) (0:Int))

def yF (n5:Int):Option Int :=
  some n5

def qW (w3:bJ)(n5:Int)(t12:(List aB))(t13:Int)(t14:Int):Option ((Int×Int)⊕(Int)) :=
  some (.inl (n5,IntKind.i64.wrap (t14+(1:Int))))

def qQ (w3:bJ)(t12:(List aB))(t13:Int)(n5:Int)(t14:Int):Option ((Int×Int)⊕(Int)) :=
  cond (decide (t14<t13))
  (bE (0<=t14/\t14<((List.length t12:Nat):Int)) <|
  cond ((decide (w3.From<((List.getD t12 (Int.toNat t14) default).At)))&&(decide (((List.getD t12 (Int.toNat t14) default).At)<w3.To)))
  (qW w3 (IntKind.i64.wrap (n5+(if (0:Int)>((List.getD t12 (Int.toNat t14) default).Net) then (0:Int) else ((List.getD t12 (Int.toNat t14) default).Net)))) t12 t13 t14)
  (qW w3 n5 t12 t13 t14))
  (some (.inr n5))

def xW (w3:bJ)(n5:Int)(t12:(List aB))(t13:Int)(t14:Int):Option Int :=
  (lp (fun s=>qQ w3 t12 t13 s.1 s.2) (n5,t14)).bind (fun rr=>yF rr)

def vK (f0:(List aB))(w1:bJ):Option Int :=
  (zV f0 w1.From).bind fun x1 =>
  xW w1 x1 f0 ((List.length f0:Nat):Int) (0:Int)

def shP (a b:Nat)(p:aK):List (Nat×Nat×List V):=[(a,3,[(.agg [(eI p.Span.From),(eI p.Span.To),(.msl 2 b 0 (List.length p.Rows))])]),(b,2,List.map bK p.Rows)]

def shF (a _b:Nat)(p:aK):List (Nat×Nat×List V):=[(a,3,[(aO p)])]

def pX (r:List aI)(f:List aB)(p:aK):Option aK :=
  bE ((!(decide ((wR ((lN p.Rows)-(1:Int)))<(0:Int))))=true->0<=(wR ((lN p.Rows)-(1:Int)))/\(wR ((lN p.Rows)-(1:Int)))<(lN p.Rows)) <|
  (cX (!(decide ((wR ((lN p.Rows)-(1:Int)))<(0:Int)))) (sF ((gD p.Rows (wR ((lN p.Rows)-(1:Int)))).Row) r)).bind fun x1 =>
  cond ((decide ((wR ((lN p.Rows)-(1:Int)))<(0:Int)))||(!x1))
  ((uK r).bind fun x2 =>
  (vK f p.Span).bind fun x3 =>
  bE ((List.length p.Rows+List.length ([bC.mk x2 x3]))*32<=140737488355328/\List.length p.Rows+List.length ([bC.mk x2 x3])<=9223372036854775807) <|
  some (aK.mk p.Span (p.Rows++[bC.mk x2 x3])))
  (some p)

def oE (r:List aI)(f:List aB)(size:Int)(b:Bool)(m:List (Int×aK))(t:Int):Option ((Bool×List (Int×aK))⊕(Bool×List (Int×aK))) :=
  match gK m t with
  | none=>cond (decide ((lN m)=(1024:Int)))
    (some (.inr (false,m)))
    ((pX r f (aK.mk (bJ.mk t (if (1125899906842624:Int)<(wR (t+size)) then (1125899906842624:Int) else (wR (t+size)))) [])).bind fun p=>some (.inl (b,fB m t p)))
  | some p=>(pX r f p).bind fun p=>some (.inl (b,fB m t p))

def pY (r:List aI)(f:List aB)(size hop frm front:Int)(b:Bool)(m:List (Int×aK))(s:bJ):Option ((Bool×List (Int×aK))⊕(Bool×List (Int×aK))) :=
  (BD size hop s frm front).bind fun x =>
  (rJ (fun st t=>rnd (fun (q:Bool×List (Int×aK))=>oE r f size q.1 q.2 t) st) x.1 x.2.1 x.2.2.1 x.2.2.2.1 x.2.2.2.2 (.inl (b,m))).bind (Sum.elim (fun q=>some (.inl q)) (fun q=>some (.inr q)))

def xL (m:List (Int×aK))(r:List aI)(f:List aB)(size hop frm front:Int):Option (Bool×List (Int×aK)) :=
  (CD f).bind fun x =>
  (sM (fun st s=>rnd (fun (q:Bool×List (Int×aK))=>pY r f size hop frm front q.1 q.2 s) st) x (.inl (false,m))).bind (Sum.elim (fun q=>some (true,q.2)) (fun q=>some (q.1,q.2)))

def nP (size hop frm front:Int)(t10:List aK)(t11:Int)(m:List (Int×aK))(r:List aI)(f:List aB):Option ((List aK×Int×List (Int×aK))⊕(List aK×Int×List (Int×aK))) :=
  (xL m r f size hop frm front).bind fun x =>
  cond (!x.1)
  (some (.inr ([],(7:Int),x.2)))
  (some (.inl (t10,t11,x.2)))

def tD (m:List (Int×aK))(b:List Int)(n:Int)(out:List aK)(i:Int):Option ((List aK×Int)⊕(List aK)) :=
  cond (decide (i<n))
  (bE (0<=i/\i<(lN b)) <|
  match gK m (gD b i) with
  | none=>none
  | some p =>
    bE ((List.length out+List.length ([p]))*40<=140737488355328/\List.length out+List.length ([p])<=9223372036854775807) <|
    some (.inl (out++[p],wR (i+(1:Int)))))
  (some (.inr out))

def DY (m:List (Int×aK))(b:List Int):Option (List aK×Int) :=
  (gR b).bind fun b =>
  bE (0<=(lN b)/\(40:Int)*(lN b)<=281474976710656/\(lN b)<=9223372036854775807) <|
  (lp (fun s=>tD m b (lN b) s.1 s.2) (([]:List aK),(0:Int))).bind fun out=>some (out,(0:Int))

def tM (s:List Int)(k:Int):Option (List Int) :=
  bE ((List.length s+List.length ([k]))*8<=140737488355328/\List.length s+List.length ([k])<=9223372036854775807) <|
  some (s++[k])

def wY (m:List (Int×aK)):Option (List aK×Int) :=
  bE (0<=(lN m)/\(8:Int)*(lN m)<=281474976710656/\(lN m)<=9223372036854775807) <|
  uH (m.map (·.1)) (fun q=>(dR tM ([]:List Int) q).bind (DY m))

def FI (l:List aF)(size hop frm front:Int)(t10:List aK)(t11:Int):Option (List aK×Int) :=
  (sB l).bind fun x =>
  (nX (fun st r f=>rnd (fun (q:List aK×Int×List (Int×aK))=>nP size hop frm front q.1 q.2.1 q.2.2 r f) st) x (.inl (t10,t11,[]))).bind (Sum.elim (fun q=>wY q.2.2) (fun q=>some (q.1,q.2.1)))

def yL (l0:(List aF))(sN:Int)(hop2:Int)(mR:Int)(kG:Int):Option ((List aK)×Int) :=
  (AB sN hop2).bind fun x3 =>
  (cX (!(!x3)) (oT l0)).bind fun x6 =>
  cond ((!x3)||(!x6))
  (some ([],(2:Int)))
  ((pH l0).bind fun x10 =>
  cond (!x10)
  (some ([],(20:Int)))
  ((uO mR).bind fun x14 =>
  (cX (!(!x14)) (uO kG)).bind fun x17 =>
  cond ((!x14)||(!x17))
  (some ([],(13:Int)))
  (FI l0 sN hop2 mR kG ([]) 0)))

def gC (s0:(List aI)):Option (List aI) :=
  bE (List.length s0*32<=140737488355328/\List.length s0<=9223372036854775807) <|
  some s0

def oQ (xZ:(List aF))(t4:aK)(p5:aK)(t22:aF):Option ((aK×aK)⊕(aK×aK)) :=
  cond ((decide (t22.At<p5.Span.From))||(decide (p5.Span.To<=t22.At)))
  (some (.inl (t4,p5)))
  (bE ((((decide ((0:Int)<=(IntKind.i64.wrap (((List.length p5.Rows:Nat):Int)-(1:Int))))))=true->0<=(IntKind.i64.wrap (((List.length p5.Rows:Nat):Int)-(1:Int)))/\(IntKind.i64.wrap (((List.length p5.Rows:Nat):Int)-(1:Int)))<((List.length p5.Rows:Nat):Int))) <|
  (cX (decide ((0:Int)<=(IntKind.i64.wrap (((List.length p5.Rows:Nat):Int)-(1:Int))))) (gE ((List.getD p5.Rows (Int.toNat (IntKind.i64.wrap (((List.length p5.Rows:Nat):Int)-(1:Int)))) default).Row) t22.Row)).bind fun x13 =>
  cond ((decide ((0:Int)<=(IntKind.i64.wrap (((List.length p5.Rows:Nat):Int)-(1:Int)))))&&x13)
  (bE (0<=(IntKind.i64.wrap (((List.length p5.Rows:Nat):Int)-(1:Int)))/\(IntKind.i64.wrap (((List.length p5.Rows:Nat):Int)-(1:Int)))<((List.length p5.Rows:Nat):Int)) <|
  bE (0<=(IntKind.i64.wrap (((List.length p5.Rows:Nat):Int)-(1:Int)))/\(IntKind.i64.wrap (((List.length p5.Rows:Nat):Int)-(1:Int)))<((List.length p5.Rows:Nat):Int)) <|
  some (.inl (t4,aK.mk p5.Span (List.set p5.Rows (Int.toNat (IntKind.i64.wrap (((List.length p5.Rows:Nat):Int)-(1:Int)))) (bC.mk (List.getD p5.Rows (Int.toNat (IntKind.i64.wrap (((List.length p5.Rows:Nat):Int)-(1:Int)))) default).Row (IntKind.i64.wrap (((List.getD p5.Rows (Int.toNat (IntKind.i64.wrap (((List.length p5.Rows:Nat):Int)-(1:Int)))) default).N)+t22.Net)))))))
  ((gC t22.Row).bind fun x19 =>
  bE ((List.length p5.Rows+List.length ([bC.mk x19 t22.Net]))*32<=140737488355328/\List.length p5.Rows+List.length ([bC.mk x19 t22.Net])<=9223372036854775807) <|
  some (.inl (t4,aK.mk p5.Span (p5.Rows++([bC.mk x19 t22.Net]))))))

def uU (t4:aK)(p5:aK)(xZ:(List aF)):Option aK :=
  (nG (fun st t22=>rnd (fun (s:aK×aK)=>oQ xZ s.1 s.2 t22) st) xZ (.inl (t4,p5))).bind (Sum.elim (fun (s:aK×aK) =>
  (some s.2))
  (fun (s:aK×aK) =>
  (none)))

def sJ (l0:(List aF))(run1:(List Int)):Option aK :=
  bE (0<=(0:Int)/\(0:Int)<((List.length run1:Nat):Int)) <|
  bE (0<=(IntKind.i64.wrap (((List.length run1:Nat):Int)-(1:Int)))/\(IntKind.i64.wrap (((List.length run1:Nat):Int)-(1:Int)))<((List.length run1:Nat):Int)) <|
  (qR l0).bind fun x6 =>
  uU (aK.mk (bJ.mk 0 0) ([])) (aK.mk (bJ.mk (List.getD run1 (Int.toNat (0:Int)) default) (IntKind.i64.wrap ((List.getD run1 (Int.toNat (IntKind.i64.wrap (((List.length run1:Nat):Int)-(1:Int)))) default)+(1:Int)))) ([])) x6

def wM (kL:List aK):Option ((List aK)×Int) :=
  some (kL,(0:Int))

def mQ (l0:(List aF))(n1:Int)(lW:(List Int))(kL:List aK):Option (((List Int)×List aK)⊕((List aK))) :=
  cond (decide (n1<=((List.length lW:Nat):Int)))
  (bE (0<=n1/\n1<=n1/\n1<=((List.length lW:Nat):Int)) <|
  (sJ l0 (List.take (Int.toNat n1) lW)).bind fun x20 =>
  bE ((List.length kL+List.length ([x20]))*40<=140737488355328/\List.length kL+List.length ([x20])<=9223372036854775807) <|
  bE (0<=(1:Int)/\(1:Int)<=((List.length lW:Nat):Int)) <|
  some (.inl (List.drop (Int.toNat (1:Int)) lW,kL++([x20]))))
  (some (.inr kL))

def wH (l0:(List aF))(n1:Int)(lW:(List Int))(kL:List aK):Option ((List aK)×Int) :=
  (lp (fun s=>mQ l0 n1 s.1 s.2) (lW,kL)).bind (fun rr=>wM rr)

def tV (l0:(List aF))(n1:Int)(nT:Int):Option ((List aK)×Int) :=
  (tJ l0 n1).bind fun x1 =>
  cond (!decide (x1=(0:Int)))
  (some ([],x1))
  (cond ((decide (nT<(0:Int)))||(decide ((1125899906842624:Int)<nT)))
  (some ([],(13:Int)))
  ((pQ l0).bind fun x6 =>
  (fR x6 nT).bind fun x9 =>
  bE (0<=x9.1/\x9.1<=((List.length x6:Nat):Int)/\((List.length x6:Nat):Int)<=((List.length x6:Nat):Int)/\((List.length x6:Nat):Int)<=((List.length x6:Nat):Int)) <|
  cond (decide ((1024:Int)<(IntKind.i64.wrap ((IntKind.i64.wrap (((List.length (List.drop (Int.toNat x9.1) (List.take (Int.toNat ((List.length x6:Nat):Int)) x6)):Nat):Int)-n1))+(1:Int)))))
  (some ([],(7:Int)))
  (wH l0 n1 (List.drop (Int.toNat x9.1) (List.take (Int.toNat ((List.length x6:Nat):Int)) x6)) ([]:List aK))))

def AX (out9:List Int):Option ((List Int)×Int) :=
  (gR out9).bind fun x16 =>
  some (x16,(0:Int))

def tN (t50:(List (Int×Int)))(out9:List Int)(mk:Int)(mv:Int):Option (List Int) :=
  bE ((List.length out9+List.length ([mk]))*8<=140737488355328/\List.length out9+List.length ([mk])<=9223372036854775807) <|
  some (out9++([mk]))

def AJ (t50:(List (Int×Int)))(out9:List Int):Option ((List Int)×Int) :=
  AX out9

def AF (out9:List Int)(t50:(List (Int×Int))):Option ((List Int)×Int) :=
  uH t50 (fun q=>(dR (fun (s:List Int) (x:Int×Int)=>tN t50 s x.1 x.2) out9 q).bind (fun (s:List Int)=>AJ t50 s))

def xB (lJ:(List (Int×Int))):Option ((List Int)×Int) :=
  bE (0<=((List.length lJ:Nat):Int)/\(8:Int)*((List.length lJ:Nat):Int)<=281474976710656/\((List.length lJ:Nat):Int)<=9223372036854775807) <|
  AF ([]:List Int) lJ

def tH (iX:Int)(lJ:(List (Int×Int)))(t32:(List aF))(t33:Int)(t34:Int):Option (((List (Int×Int))×Int)⊕((List (Int×Int)))) :=
  some (.inl (lJ,IntKind.i64.wrap (t34+(1:Int))))

def pJ (iX:Int)(t32:(List aF))(t33:Int)(lJ:(List (Int×Int)))(t34:Int):Option (((List (Int×Int))×Int)⊕((List (Int×Int)))) :=
  cond (decide (t34<t33))
  (bE (0<=t34/\t34<((List.length t32:Nat):Int)) <|
  cond (decide (iX<((List.getD t32 (Int.toNat t34) default).At)))
  (tH iX (fB lJ ((List.getD t32 (Int.toNat t34) default).At) (1:Int)) t32 t33 t34)
  (tH iX lJ t32 t33 t34))
  (some (.inr lJ))

def AV (iX:Int)(lJ:(List (Int×Int)))(t32:(List aF))(t33:Int)(t34:Int):Option ((List Int)×Int) :=
  (lp (fun s=>pJ iX t32 t33 s.1 s.2) (lJ,t34)).bind (fun rr=>xB rr)

def yO (l0:(List aF))(iX:Int):Option ((List Int)×Int) :=
  (oT l0).bind fun x1 =>
  cond (!x1)
  (some ([],(2:Int)))
  ((pH l0).bind fun x5 =>
  cond (!x5)
  (some ([],(20:Int)))
  (cond ((decide (iX<(0:Int)))||(decide ((1125899906842624:Int)<iX)))
  (some ([],(13:Int)))
  (cond (decide (iX=(1125899906842624:Int)))
  (some ([],(0:Int)))
  (AV iX (fB ([]:(List (Int×Int))) iX (1:Int)) l0 ((List.length l0:Nat):Int) (0:Int)))))

def wQ (out4:List bC):Option (List bC) :=
  some out4

def pO (t0:Int)(out4:List bC)(t9:(List cC))(t10:Int)(t11:Int):Option ((List bC×Int)⊕((List bC))) :=
  some (.inl (out4,IntKind.i64.wrap (t11+(1:Int))))

def nQ (t0:Int)(t9:(List cC))(t10:Int)(out4:List bC)(t11:Int):Option ((List bC×Int)⊕((List bC))) :=
  cond (decide (t11<t10))
  (bE (0<=t11/\t11<((List.length t9:Nat):Int)) <|
  (zV ((List.getD t9 (Int.toNat t11) default).jumps) t0).bind fun x9 =>
  cond (decide ((0:Int)<x9))
  ((gC ((List.getD t9 (Int.toNat t11) default).row)).bind fun x16 =>
  bE ((List.length out4+List.length ([bC.mk x16 x9]))*32<=140737488355328/\List.length out4+List.length ([bC.mk x16 x9])<=9223372036854775807) <|
  pO t0 (out4++([bC.mk x16 x9])) t9 t10 t11)
  (pO t0 out4 t9 t10 t11))
  (some (.inr out4))

def wF (t0:Int)(out4:List bC)(t9:(List cC))(t10:Int)(t11:Int):Option (List bC) :=
  (lp (fun s=>nQ t0 t9 t10 s.1 s.2) (out4,t11)).bind (fun rr=>wQ rr)

def tC (t0:Int)(t1:(List cC)):Option (List bC) :=
  wF t0 ([]:List bC) t1 ((List.length t1:Nat):Int) (0:Int)

def oD (eS:(List Int))(xX:(List aF))(all8:List cC)(t29:(List aI))(t30:(List aB)):Option ((List cC)⊕(List cC)) :=
  bE ((List.length all8+List.length ([cC.mk t29 t30]))*48<=140737488355328/\List.length all8+List.length ([cC.mk t29 t30])<=9223372036854775807) <|
  some (.inl (all8++([cC.mk t29 t30])))

def zD (eN:List aK):Option ((List aK)×Int) :=
  some (eN,(0:Int))

def vE (eS:(List Int))(gP:(List cC))(eN:List aK)(t39:(List Int))(t40:Int)(t41:Int):Option ((List aK×Int)⊕((List aK)⊕((List aK)×Int))) :=
  some (.inl (eN,IntKind.i64.wrap (t41+(1:Int))))

def vT (eS:(List Int))(gP:(List cC))(eN:List aK)(t14:Int)(tS:(List bC))(AM:Int)(t39:(List Int))(t40:Int)(t41:Int):Option ((List aK×Int)⊕((List aK)⊕((List aK)×Int))) :=
  bE ((List.length eN+List.length ([aK.mk (bJ.mk t14 AM) tS]))*40<=140737488355328/\List.length eN+List.length ([aK.mk (bJ.mk t14 AM) tS])<=9223372036854775807) <|
  vE eS gP (eN++([aK.mk (bJ.mk t14 AM) tS])) t39 t40 t41

def oG (eS:(List Int))(gP:(List cC))(t39:(List Int))(t40:Int)(eN:List aK)(t41:Int):Option ((List aK×Int)⊕((List aK)⊕((List aK)×Int))) :=
  cond (decide (t41<t40))
  (bE (0<=t41/\t41<((List.length t39:Nat):Int)) <|
  (tC (List.getD t39 (Int.toNat t41) default) gP).bind fun x20 =>
  cond (decide (((List.length x20:Nat):Int)=(0:Int)))
  (vE eS gP eN t39 t40 t41)
  (cond (decide (((List.length eN:Nat):Int)=(1024:Int)))
  (some (.inr (.inr ([],(7:Int)))))
  (cond (decide ((IntKind.i64.wrap (t41+(1:Int)))<((List.length eS:Nat):Int)))
  (bE (0<=(IntKind.i64.wrap (t41+(1:Int)))/\(IntKind.i64.wrap (t41+(1:Int)))<((List.length eS:Nat):Int)) <|
  vT eS gP eN (List.getD t39 (Int.toNat t41) default) x20 (List.getD eS (Int.toNat (IntKind.i64.wrap (t41+(1:Int)))) default) t39 t40 t41)
  (vT eS gP eN (List.getD t39 (Int.toNat t41) default) x20 (1125899906842624:Int) t39 t40 t41))))
  (some (.inr (.inl eN)))

def vP (eS:(List Int))(gP:(List cC))(eN:List aK)(t39:(List Int))(t40:Int)(t41:Int):Option ((List aK)×Int) :=
  (lp (fun s=>oG eS gP t39 t40 s.1 s.2) (eN,t41)).bind (Sum.elim (fun rr=>zD rr) (fun rr=>some (rr.1,rr.2)))

def zH (eS:(List Int))(all8:List cC)(xX:(List aF)):Option ((List aK)×Int) :=
  (nX (fun st t29 t30=>rnd (fun (s:List cC)=>oD eS xX s t29 t30) st) xX (.inl all8)).bind (Sum.elim (fun (s:List cC) =>
  (vP eS s ([]:List aK) eS ((List.length eS:Nat):Int) (0:Int)))
  (fun (s:List cC) =>
  (none)))

def xF (l0:(List aF))(iX:Int):Option ((List aK)×Int) :=
  (yO l0 iX).bind fun x1 =>
  cond (!decide (x1.2=(0:Int)))
  (some ([],x1.2))
  ((sB l0).bind fun x7 =>
  zH x1.1 ([]:List cC) x7)

def oN (w0:bY)(l1:(List aF))(nT:Int)(t3:Int):Option ((List aK)×Int) :=
  (qT w0 l1 t3).bind fun x1 =>
  cond (!decide (x1=(0:Int)))
  (some ([],x1))
  (cond (decide (w0.Kind=(2:Int)))
  ((tE l1 t3).bind fun x6 =>
  (yL l1 w0.Size w0.Hop nT x6).bind fun x9 =>
  some (x9.1,x9.2))
  (cond (decide (w0.Kind=(3:Int)))
  ((tV l1 w0.Size nT).bind fun x13 =>
  some (x13.1,x13.2))
  ((xF l1 nT).bind fun x16 =>
  some (x16.1,x16.2))))

def pI  : Option Bool :=
  (oM (bY.mk (2:Int) (10:Int) (5:Int)) ([aF.mk ([aI.mk (1:Int) (1:Int) ByteArray.empty]) (3:Int) (1:Int),aF.mk ([aI.mk (1:Int) (1:Int) ByteArray.empty]) (7:Int) (-1:Int)]) (12:Int)).bind fun x2 =>
  (oN (bY.mk (2:Int) (10:Int) (5:Int)) ([aF.mk ([aI.mk (1:Int) (1:Int) ByteArray.empty]) (3:Int) (1:Int),aF.mk ([aI.mk (1:Int) (1:Int) ByteArray.empty]) (7:Int) (-1:Int)]) (0:Int) (2:Int)).bind fun x5 =>
  bE (((((((decide (x2.1=(5:Int)))&&(decide (x2.2=(0:Int))))&&(decide (x5.2=(0:Int))))&&(decide (((List.length x5.1:Nat):Int)=(1:Int)))))=true->0<=(0:Int)/\(0:Int)<((List.length x5.1:Nat):Int))) <|
  (cX (((((decide (x2.1=(5:Int)))&&(decide (x2.2=(0:Int))))&&(decide (x5.2=(0:Int))))&&(decide (((List.length x5.1:Nat):Int)=(1:Int))))&&((decide ((((List.getD x5.1 (Int.toNat (0:Int)) default).Span).From)=((bJ.mk 0 (10:Int)).From)))&&((decide ((((List.getD x5.1 (Int.toNat (0:Int)) default).Span).To)=((bJ.mk 0 (10:Int)).To)))&&true))) (qU (bY.mk 0 0 0))).bind fun x9 =>
  some ((((((decide (x2.1=(5:Int)))&&(decide (x2.2=(0:Int))))&&(decide (x5.2=(0:Int))))&&(decide (((List.length x5.1:Nat):Int)=(1:Int))))&&((decide ((((List.getD x5.1 (Int.toNat (0:Int)) default).Span).From)=((bJ.mk 0 (10:Int)).From)))&&((decide ((((List.getD x5.1 (Int.toNat (0:Int)) default).Span).To)=((bJ.mk 0 (10:Int)).To)))&&true)))&&(decide (x9=(2:Int))))

def vN  : Option Bool :=
  some true

def rY (a0:(List aI))(b1:(List aI))(i5:Int):Option ((Int)⊕(Unit⊕Bool)) :=
  cond (decide (i5<((List.length a0:Nat):Int)))
  (bE (0<=i5/\i5<((List.length a0:Nat):Int)) <|
  bE (0<=i5/\i5<((List.length b1:Nat):Int)) <|
  cond (!((decide (((List.getD a0 (Int.toNat i5) default).Kind)=((List.getD b1 (Int.toNat i5) default).Kind)))&&((decide (((List.getD a0 (Int.toNat i5) default).Num)=((List.getD b1 (Int.toNat i5) default).Num)))&&((qK ((List.getD a0 (Int.toNat i5) default).Text) ((List.getD b1 (Int.toNat i5) default).Text))&&true))))
  (some (.inr (.inr false)))
  (some (.inl (IntKind.i64.wrap (i5+(1:Int))))))
  (some (.inr (.inl ())))

def yZ (a0:(List aI))(b1:(List aI))(i5:Int):Option Bool :=
  (lp (fun s=>rY a0 b1 s) i5).bind (Sum.elim (fun rr=>vN ) (fun rr=>some rr))

def tG (a0:(List aI))(b1:(List aI)):Option Bool :=
  cond (!decide (((List.length a0:Nat):Int)=((List.length b1:Nat):Int)))
  (some false)
  (yZ a0 b1 (0:Int))

def oK  : Option Bool :=
  some true

def mS (a0:(List bC))(b1:(List bC))(i5:Int):Option ((Int)⊕(Unit⊕Bool)) :=
  cond (decide (i5<((List.length a0:Nat):Int)))
  (bE (0<=i5/\i5<((List.length a0:Nat):Int)) <|
  bE (0<=i5/\i5<((List.length b1:Nat):Int)) <|
  bE ((((!(!decide (((List.getD a0 (Int.toNat i5) default).N)=((List.getD b1 (Int.toNat i5) default).N)))))=true->0<=i5/\i5<((List.length a0:Nat):Int))) <|
  bE ((((!(!decide (((List.getD a0 (Int.toNat i5) default).N)=((List.getD b1 (Int.toNat i5) default).N)))))=true->0<=i5/\i5<((List.length b1:Nat):Int))) <|
  (cX (!(!decide (((List.getD a0 (Int.toNat i5) default).N)=((List.getD b1 (Int.toNat i5) default).N)))) (tG ((List.getD a0 (Int.toNat i5) default).Row) ((List.getD b1 (Int.toNat i5) default).Row))).bind fun x7 =>
  cond ((!decide (((List.getD a0 (Int.toNat i5) default).N)=((List.getD b1 (Int.toNat i5) default).N)))||(!x7))
  (some (.inr (.inr false)))
  (some (.inl (IntKind.i64.wrap (i5+(1:Int))))))
  (some (.inr (.inl ())))

def rO (a0:(List bC))(b1:(List bC))(i5:Int):Option Bool :=
  (lp (fun s=>mS a0 b1 s) i5).bind (Sum.elim (fun rr=>oK ) (fun rr=>some rr))

def pK (a0:(List bC))(b1:(List bC)):Option Bool :=
  cond (!decide (((List.length a0:Nat):Int)=((List.length b1:Nat):Int)))
  (some false)
  (rO a0 b1 (0:Int))

def vD  : Option Bool :=
  some true

def rX (a0:(List aK))(b1:(List aK))(i5:Int):Option ((Int)⊕(Unit⊕Bool)) :=
  cond (decide (i5<((List.length a0:Nat):Int)))
  (bE (0<=i5/\i5<((List.length a0:Nat):Int)) <|
  bE (0<=i5/\i5<((List.length b1:Nat):Int)) <|
  bE ((((!(!((decide ((((List.getD a0 (Int.toNat i5) default).Span).From)=(((List.getD b1 (Int.toNat i5) default).Span).From)))&&((decide ((((List.getD a0 (Int.toNat i5) default).Span).To)=(((List.getD b1 (Int.toNat i5) default).Span).To)))&&true)))))=true->0<=i5/\i5<((List.length a0:Nat):Int))) <|
  bE ((((!(!((decide ((((List.getD a0 (Int.toNat i5) default).Span).From)=(((List.getD b1 (Int.toNat i5) default).Span).From)))&&((decide ((((List.getD a0 (Int.toNat i5) default).Span).To)=(((List.getD b1 (Int.toNat i5) default).Span).To)))&&true)))))=true->0<=i5/\i5<((List.length b1:Nat):Int))) <|
  (cX (!(!((decide ((((List.getD a0 (Int.toNat i5) default).Span).From)=(((List.getD b1 (Int.toNat i5) default).Span).From)))&&((decide ((((List.getD a0 (Int.toNat i5) default).Span).To)=(((List.getD b1 (Int.toNat i5) default).Span).To)))&&true)))) (pK ((List.getD a0 (Int.toNat i5) default).Rows) ((List.getD b1 (Int.toNat i5) default).Rows))).bind fun x7 =>
  cond ((!((decide ((((List.getD a0 (Int.toNat i5) default).Span).From)=(((List.getD b1 (Int.toNat i5) default).Span).From)))&&((decide ((((List.getD a0 (Int.toNat i5) default).Span).To)=(((List.getD b1 (Int.toNat i5) default).Span).To)))&&true)))||(!x7))
  (some (.inr (.inr false)))
  (some (.inl (IntKind.i64.wrap (i5+(1:Int))))))
  (some (.inr (.inl ())))

def zC (a0:(List aK))(b1:(List aK))(i5:Int):Option Bool :=
  (lp (fun s=>rX a0 b1 s) i5).bind (Sum.elim (fun rr=>vD ) (fun rr=>some rr))

def wT (a0:(List aK))(b1:(List aK)):Option Bool :=
  cond (!decide (((List.length a0:Nat):Int)=((List.length b1:Nat):Int)))
  (some false)
  (zC a0 b1 (0:Int))

def CJ (l0:List aF):Option (List aF) :=
  some l0

def qM (r1:(List aI))(t9:(List aB))(t10:Int)(l0:List aF)(t11:Int):Option ((List aF×Int)⊕((List aF))) :=
  cond (decide (t11<t10))
  (bE (0<=t11/\t11<((List.length t9:Nat):Int)) <|
  (uK r1).bind fun x7 =>
  bE ((List.length l0+List.length ([aF.mk x7 ((List.getD t9 (Int.toNat t11) default).At) ((List.getD t9 (Int.toNat t11) default).Net)]))*40<=140737488355328/\List.length l0+List.length ([aF.mk x7 ((List.getD t9 (Int.toNat t11) default).At) ((List.getD t9 (Int.toNat t11) default).Net)])<=9223372036854775807) <|
  some (.inl (l0++([aF.mk x7 ((List.getD t9 (Int.toNat t11) default).At) ((List.getD t9 (Int.toNat t11) default).Net)]),IntKind.i64.wrap (t11+(1:Int)))))
  (some (.inr l0))

def CE (l0:List aF)(r1:(List aI))(t9:(List aB))(t10:Int)(t11:Int):Option (List aF) :=
  (lp (fun s=>qM r1 t9 t10 s.1 s.2) (l0,t11)).bind (fun rr=>CJ rr)

def AH (l0:(List aF))(r1:(List aI))(f2:(List aB)):Option (List aF) :=
  CE l0 r1 f2 ((List.length f2:Nat):Int) (0:Int)

def oS (by1:(List aB)->Option ((List aB)×Int))(mG:(List aF))(t4:(List aF))(t5:Int)(out6:List aF)(t14:(List aI))(t15:(List aB)):Option (((List aF)×Int×List aF)⊕((List aF)×Int×List aF)) :=
  (by1 t15).bind fun x8 =>
  cond (!decide (x8.2=(0:Int)))
  (some (.inr ([],x8.2,out6)))
  ((AH out6 t14 x8.1).bind fun x12 =>
  cond (decide ((4096:Int)<((List.length x12:Nat):Int)))
  (some (.inr ([],(7:Int),x12)))
  (some (.inl (t4,t5,x12))))

def yG (by1:(List aB)->Option ((List aB)×Int))(t4:(List aF))(t5:Int)(out6:List aF)(mG:(List aF)):Option ((List aF)×Int) :=
  (nO (fun st t14 t15=>rnd (fun (s:(List aF)×Int×List aF)=>oS by1 mG s.1 s.2.1 s.2.2 t14 t15) st) mG (.inl (t4,t5,out6))).bind (Sum.elim (fun (s:(List aF)×Int×List aF) =>
  (some (s.2.2,(0:Int))))
  (fun (s:(List aF)×Int×List aF) =>
  (some (s.1,s.2.1))))

def vM (l0:(List aF))(by1:(List aB)->Option ((List aB)×Int)):Option ((List aF)×Int) :=
  (qN l0).bind fun x5 =>
  yG by1 ([]) 0 ([]:List aF) x5

def BB (l0:(List aF))(by1:(List aB)->Option ((List aB)×Int)):Option ((List aF)×Int) :=
  (oT l0).bind fun x1 =>
  cond (!x1)
  (some ([],(2:Int)))
  ((vM l0 by1).bind fun x5 =>
  some (x5.1,x5.2))

def iU (s0:(List aB)):Option (List aB) :=
  bE (List.length s0*16<=140737488355328/\List.length s0<=9223372036854775807) <|
  some s0

def wA (f0:(List aB)):Option ((List aB)×Int) :=
  (nS f0).bind fun x1 =>
  cond (!x1)
  (some ([],(7:Int)))
  (some (f0,(0:Int)))

def vA (out6:List aB):Option ((List aB)×Int) :=
  (wA out6).bind fun x12 =>
  some (x12.1,x12.2)

def rV (t1:Int)(out6:List aB)(v7:Int):Option ((List aB)×Int) :=
  cond (!decide (v7=(0:Int)))
  (bE ((List.length out6+List.length ([aB.mk t1 (IntKind.i64.wrap (0-v7))]))*16<=140737488355328/\List.length out6+List.length ([aB.mk t1 (IntKind.i64.wrap (0-v7))])<=9223372036854775807) <|
  vA (out6++([aB.mk t1 (IntKind.i64.wrap (0-v7))])))
  (vA out6)

def mB (t1:Int)(t18:(List aB))(t19:Int)(out6:List aB)(v7:Int)(t20:Int):Option ((List aB×Int×Int)⊕((List aB×Int))) :=
  cond (decide (t20<t19))
  (bE (0<=t20/\t20<((List.length t18:Nat):Int)) <|
  cond (decide (t1<=((List.getD t18 (Int.toNat t20) default).At)))
  (some (.inr (out6,v7)))
  (bE ((List.length out6+List.length ([List.getD t18 (Int.toNat t20) default]))*16<=140737488355328/\List.length out6+List.length ([List.getD t18 (Int.toNat t20) default])<=9223372036854775807) <|
  some (.inl (out6++([List.getD t18 (Int.toNat t20) default]),IntKind.i64.wrap (v7+((List.getD t18 (Int.toNat t20) default).Net)),IntKind.i64.wrap (t20+(1:Int))))))
  (some (.inr (out6,v7)))

def yY (t1:Int)(out6:List aB)(v7:Int)(t18:(List aB))(t19:Int)(t20:Int):Option ((List aB)×Int) :=
  (lp (fun s=>mB t1 t18 t19 s.1 s.2.1 s.2.2) (out6,v7,t20)).bind (fun rr=>rV t1 rr.1 rr.2)

def xA (f0:(List aB))(t1:Int):Option ((List aB)×Int) :=
  (nS f0).bind fun x1 =>
  cond (!x1)
  (some ([],(2:Int)))
  (cond (decide ((1125899906842624:Int)<=t1))
  ((iU f0).bind fun x6 =>
  some (x6,(0:Int)))
  (yY t1 ([]:List aB) (0:Int) f0 ((List.length f0:Nat):Int) (0:Int)))

def qO (f0:(List aB))(t1:Int):Option ((List aB)×Int) :=
  (xA f0 t1).bind fun x1 =>
  some (x1.1,x1.2)

def tL (l0:(List aF))(t1:Int):Option ((List aF)×Int) :=
  (BB l0 (fun y0=>qO y0 t1)).bind fun x1 =>
  some (x1.1,x1.2)

def vS  : Option Bool :=
  some true

def rZ (a0:(List aF))(b1:(List aF))(i5:Int):Option ((Int)⊕(Unit⊕Bool)) :=
  cond (decide (i5<((List.length a0:Nat):Int)))
  (bE (0<=i5/\i5<((List.length a0:Nat):Int)) <|
  bE (0<=i5/\i5<((List.length b1:Nat):Int)) <|
  bE ((((!(!decide (((List.getD a0 (Int.toNat i5) default).At)=((List.getD b1 (Int.toNat i5) default).At)))))=true->0<=i5/\i5<((List.length a0:Nat):Int))) <|
  bE ((((!(!decide (((List.getD a0 (Int.toNat i5) default).At)=((List.getD b1 (Int.toNat i5) default).At)))))=true->0<=i5/\i5<((List.length b1:Nat):Int))) <|
  bE ((((!((!decide (((List.getD a0 (Int.toNat i5) default).At)=((List.getD b1 (Int.toNat i5) default).At)))||(!decide (((List.getD a0 (Int.toNat i5) default).Net)=((List.getD b1 (Int.toNat i5) default).Net))))))=true->0<=i5/\i5<((List.length a0:Nat):Int))) <|
  bE ((((!((!decide (((List.getD a0 (Int.toNat i5) default).At)=((List.getD b1 (Int.toNat i5) default).At)))||(!decide (((List.getD a0 (Int.toNat i5) default).Net)=((List.getD b1 (Int.toNat i5) default).Net))))))=true->0<=i5/\i5<((List.length b1:Nat):Int))) <|
  (cX (!((!decide (((List.getD a0 (Int.toNat i5) default).At)=((List.getD b1 (Int.toNat i5) default).At)))||(!decide (((List.getD a0 (Int.toNat i5) default).Net)=((List.getD b1 (Int.toNat i5) default).Net))))) (tG ((List.getD a0 (Int.toNat i5) default).Row) ((List.getD b1 (Int.toNat i5) default).Row))).bind fun x9 =>
  cond (((!decide (((List.getD a0 (Int.toNat i5) default).At)=((List.getD b1 (Int.toNat i5) default).At)))||(!decide (((List.getD a0 (Int.toNat i5) default).Net)=((List.getD b1 (Int.toNat i5) default).Net))))||(!x9))
  (some (.inr (.inr false)))
  (some (.inl (IntKind.i64.wrap (i5+(1:Int))))))
  (some (.inr (.inl ())))

def zG (a0:(List aF))(b1:(List aF))(i5:Int):Option Bool :=
  (lp (fun s=>rZ a0 b1 s) i5).bind (Sum.elim (fun rr=>vS ) (fun rr=>some rr))

def wS (a0:(List aF))(b1:(List aF)):Option Bool :=
  cond (!decide (((List.length a0:Nat):Int)=((List.length b1:Nat):Int)))
  (some false)
  (zG a0 b1 (0:Int))

def tQ (out5:List aK):Option (List aK) :=
  some out5

def tU (l0:(List aK))(t1:Int)(out5:List aK)(i6:Int):Option ((List aK×Int)⊕((List aK))) :=
  some (.inl (out5,IntKind.i64.wrap (i6+(1:Int))))

def qS (l0:(List aK))(t1:Int)(out5:List aK)(i6:Int)(p7:aK):Option ((List aK×Int)⊕((List aK))) :=
  cond (decide (p7.Span.From<t1))
  (bE ((List.length out5+List.length ([p7]))*40<=140737488355328/\List.length out5+List.length ([p7])<=9223372036854775807) <|
  tU l0 t1 (out5++([p7])) i6)
  (tU l0 t1 out5 i6)

def qV (l0:(List aK))(t1:Int)(out5:List aK)(i6:Int):Option ((List aK×Int)⊕((List aK))) :=
  cond (decide (i6<((List.length l0:Nat):Int)))
  (bE (0<=i6/\i6<((List.length l0:Nat):Int)) <|
  cond (decide (t1<(((List.getD l0 (Int.toNat i6) default).Span).To)))
  (qS l0 t1 out5 i6 (aK.mk (bJ.mk ((List.getD l0 (Int.toNat i6) default).Span).From t1) (List.getD l0 (Int.toNat i6) default).Rows))
  (qS l0 t1 out5 i6 (List.getD l0 (Int.toNat i6) default)))
  (some (.inr out5))

def xT (l0:(List aK))(t1:Int)(out5:List aK)(i6:Int):Option (List aK) :=
  (lp (fun s=>qV l0 t1 s.1 s.2) (out5,i6)).bind (fun rr=>tQ rr)

def rU (l0:(List aK))(t1:Int):Option (List aK) :=
  xT l0 t1 ([]:List aK) (0:Int)

def pR (w0:bY)(l1:(List aF))(m2:(List aF))(t3:Int):Option Bool :=
  (tL l1 t3).bind fun x1 =>
  (tL m2 t3).bind fun x4 =>
  (cX (!((!decide (x1.2=(0:Int)))||(!decide (x4.2=(0:Int))))) (wS x1.1 x4.1)).bind fun x7 =>
  cond ((((!decide (x1.2=(0:Int)))||(!decide (x4.2=(0:Int))))||(!x7))||(decide ((1125899906842624:Int)<=t3)))
  ((pI ).bind fun x11 =>
  some x11)
  ((oM w0 l1 t3).bind fun x14 =>
  (oM w0 m2 t3).bind fun x17 =>
  cond ((!decide (x14.2=(0:Int)))||(!decide (x17.2=(0:Int))))
  ((pI ).bind fun x21 =>
  some x21)
  ((oN w0 l1 (0:Int) t3).bind fun x24 =>
  (oN w0 m2 (0:Int) t3).bind fun x27 =>
  cond (!decide (x14.1=x17.1))
  (some false)
  (cond ((!decide (x24.2=(0:Int)))||(!decide (x27.2=(0:Int))))
  ((pI ).bind fun x32 =>
  some x32)
  ((pI ).bind fun x35 =>
  (cX x35 (rU x24.1 x14.1)).bind fun x38 =>
  (cX x35 (rU x27.1 x14.1)).bind fun x41 =>
  (cX x35 (wT x38 x41)).bind fun x44 =>
  some (x35&&x44)))))

end Go.Abs
namespace Go.Abs
open Go Go.RowKit
def zF (x:bY):Prop:=wD x.Kind/\wD x.Size/\wD x.Hop/\True

def EH (x:aI):Prop:=wD x.Kind/\wD x.Num/\(fun s=>s.size<=maxLen) x.Text/\True

def sU (x:aF):Prop:=(fun l=>(∀ a∈l,EH a)/\l.length*32<=140737488351232) x.Row/\wD x.At/\wD x.Net/\True

end Go.Abs
namespace Go.Abs
open Go Go.RowKit Go.Proofs
def tt:TT:=⟨aBv Tryz.prog,XF Tryz.prog⟩

theorem aC:iB Tryz.prog tt:=iB.of Tryz.prog

theorem EC (n0:Int)(r:Bool)(h0:rI n0=some r):dB Tryz.prog 24 [(eI n0)] (aD r):=by
 intro H0;refine cY Tryz.func24 ?_;have hO:=aN.start H0;unfold rI at h0;refine aX aC 1 [] [] ?_;refine bW aC 7 [(2,(aD ((decide ((1:Int)<=n0))&&(decide (n0<=(1099511627776:Int))))))] ?_;refine bI ?_;obtain rfl:=oI h0;exact aG (Q_r hO)

theorem HA (w0:bY)(r:Int)(h0:qU w0=some r):dB Tryz.prog 10 [(cQ w0)] (eI r):=by
 intro H0;refine cY Tryz.func10 ?_;have hO:=aN.start H0;unfold qU at h0;refine aP ?_;refine aS aC 2 ?_;refine kW 3 (cQ w0) ?_;refine bA ?_;refine bD [(1,(.rp (cQ w0)))] ?_;refine aX aC 1 [] [(3,(.fn (.func 24) [] []))] ?_;refine aX aC 1 [] [(4,(aD false))] ?_;refine eH (fun T H=>∃ ok4:Bool,Has T [(4,(aD ok4))]/\aN ⟨H0,[],[]⟩ H []/\lO ok4=some r) ?_ ?_
 ·clear hO h0;rintro T H ⟨ok4,hT,hO,h0⟩;refine bF hT ?_;clear hT;unfold lO at h0;refine aP ?_;refine bW aC 2 [(45,(aD (!ok4)))] ?_;refine bL h0 (fun h0=>?_) (fun h0=>?_)
  ·refine bW aC 1 [(2,(eI 2))] ?_;refine bI ?_;obtain rfl:=oI h0;exact aG (aT (Q_r hO))
  refine bM ?_;refine bD [] ?_;refine bW aC 1 [(2,(eI 0))] ?_;refine bI ?_;obtain rfl:=oI h0;exact aG (Q_r hO)
 refine aX aC 2 [] [(6,(eI w0.Kind))] ?_;refine bX 0 ?_;refine aX aC 2 [] [(7,(aD (decide (w0.Kind=(1:Int)))))] ?_;refine bL h0 (fun h0=>?_) (fun h0=>?_)
 ·refine aS aC 9 ?_;refine bA ?_;exact aG (aV (aH (⟨rfl,_,aZ,hO,h0⟩)))
 refine bW aC 2 [(1,(.rp (cQ w0))),(3,(.fn (.func 24) [] [])),(4,(aD false)),(6,(eI w0.Kind)),(17,(aD (decide (w0.Kind=(2:Int)))))] ?_;refine bL h0 (fun h0=>?_) (fun h0=>?_)
 ·refine aS aC 11 ?_;refine bH 3 ?_;obtain⟨x4,hx5,h0⟩:=aW h0;refine cW (EC w0.Size _ hx5) hO ?_;intro H hO;refine bH 8 ?_;obtain⟨x7,hx8,h0⟩:=aW h0;refine lQ [(23,true)] 24 [(eI w0.Hop)] (aD x7) x4 (by kernel_rfl) (by kernel_rfl) (by kernel_rfl) (fun hb9=>(EC w0.Hop _ (iC hx8 hb9))) hO ?_;intro H hO;refine bA ?_;exact aG (aV (aH (⟨rfl,_,aZ,hO,h0⟩)))
 refine aX aC 2 [3,6,17] [(29,(aD (decide (w0.Kind=(3:Int)))))] ?_;refine bL h0 (fun h0=>?_) (fun h0=>?_)
 ·refine aS aC 14 ?_;refine bA ?_;exact aG (aV (aH (⟨rfl,_,aZ,hO,h0⟩)))
 refine bM ?_;exact aG (aV (aH (⟨rfl,_,aZ,hO,h0⟩)))

theorem GZ (l0:(List aF))(r:(List aF))(h0:qN l0=some r):dB Tryz.prog 85 [(eL aE l0)] (.fn (.func 103) [] [(.rp (eL aE r))]):=by
 intro H0;refine cY Tryz.func85 ?_;have hO:=aN.start H0;unfold qN at h0;refine aP ?_;refine aS aC 2 ?_;refine kW 1 (eL aE l0) ?_;refine bA ?_;refine bD [(1,(.rp (eL aE l0)))] ?_;refine bW aC 2 [(2,(.fn (.func 103) [] [(.rp (eL aE l0))]))] ?_;refine bI ?_;obtain rfl:=oI h0;exact aG (kC (x:=(.fn (.func 103) [] [(.rp (eL aE l0))])) (by kernel_rfl) (aR.refl _) ⟨rfl,hO.out⟩)

theorem rF (s10:(List aI))(s21:(List aI))(r:Bool)(h0:gE s10 s21=some r):dB Tryz.prog 93 [(eL aJ s10),(eL aJ s21)] (aD r):=by
 intro H0;refine cY Tryz.func93 ?_;have hO:=aN.start H0;unfold gE at h0;refine aX aC 1 [] [] ?_;refine aP ?_;refine aX aC 5 [] [(10,(aD (!decide ((lN s10)=(lN s21)))))] ?_;refine bL h0 (fun h0=>?_) (fun h0=>?_)
 ·refine bW aC 1 [(4,(aD false))] ?_;refine bI ?_;obtain rfl:=oI h0;exact aG (aT (Q_r hO))
 refine bM ?_;refine bD [(0,(eL aJ s10)),(1,(eL aJ s21))] ?_;refine eH (fun T H=>Has T []/\aN ⟨H0,[],[]⟩ H []/\iJ  = some r) ?_ ?_
 ·clear hO h0;rintro T H ⟨hT,hO,h0⟩;refine bF hT ?_;clear hT;unfold iJ at h0;refine bW aC 1 [(4,(aD true))] ?_;refine bI ?_;obtain rfl:=oI h0;exact aG (Q_r hO)
 refine aX aC 3 [] [(12,(eI (lN s10))),(13,(eI 0))] ?_;refine bX 0 ?_;refine eC [(0,(eL aJ s10)),(1,(eL aJ s21)),(12,(eI (lN s10))),(13,(eI 0))] ?_;refine eD (fun T H=>∃ t12:Int,∃ t13:Int,Has T [(0,(eL aJ s10)),(1,(eL aJ s21)),(12,(eI t12)),(13,(eI t13))]/\aN ⟨H0,[],[]⟩ H []/\kI s10 s21 t12 t13=some r) ?_ ⟨(lN s10),(0:Int),aZ,hO,h0⟩;clear hO h0;rintro T H ⟨t12,t13,hT,hO,h0⟩;refine bF hT ?_;clear hT;unfold kI at h0;obtain⟨rr0,hl0,h0⟩:=aW h0;refine iM (fun (s:Int) T H=>Has T [(0,(eL aJ s10)),(1,(eL aJ s21)),(12,(eI t12)),(13,(eI s))]/\aN ⟨H0,[],[]⟩ H []) hl0 ⟨aZ,hO⟩ ?_;clear hO;rintro k0 s out1 T H ⟨hT,hO⟩ h1 ho0;obtain⟨t13,rfl⟩:∃ x,x=s:=⟨_,rfl⟩;replace h1:fV s10 s21 t12 t13=some out1:=h1;refine bF hT ?_;clear hT;unfold fV at h1;refine aX aC 1 [] [(14,(aD (decide (t13<t12))))] ?_;refine aP ?_;refine bL h1 (fun h1=>?_) (fun h1=>?_)
 ·refine bM ?_;refine bD [(0,(eL aJ s10)),(1,(eL aJ s21)),(12,(eI t12)),(13,(eI t13))] ?_;refine aP ?_;refine bX 1 ?_;refine aX aC 2 [] [(5,(eI t13))] ?_;refine aP ?_;refine fS (fQ [19,23]) aC 9 ?_;obtain⟨c3,h1⟩:=bB h1;obtain⟨c4,h1⟩:=bB h1;refine RN (Ds:=[0<=t13/\t13<(lN s10),0<=t13/\t13<(lN s21)]) (by kernel_rfl) ⟨c3,c4,trivial⟩ ?_;refine bP [5] [(24,(aD (!((decide (((gD s10 t13).Kind)=((gD s21 t13).Kind)))&&((decide (((gD s10 t13).Num)=((gD s21 t13).Num)))&&((qK ((gD s10 t13).Text) ((gD s21 t13).Text))&&true))))))] ?_;refine bL h1 (fun h1=>?_) (fun h1=>?_)
  ·refine bW aC 1 [(4,(aD false))] ?_;refine bI ?_;obtain rfl:=oI h1;obtain rfl:_=rr0:=ho0;replace h0:some false=some r:=h0;obtain rfl:=oI h0;exact aG (bG (aT (aT (bG (aT (Q_r hO))))))
  refine bM ?_;refine dP [(0,(eL aJ s10)),(1,(eL aJ s21)),(12,(eI t12)),(13,(eI t13))] ?_;refine aG (aV (aH (?_)));refine aS aC 2 ?_;refine bA ?_;exact aG (aH (⟨rfl,_,(oI h1).symm,aZ,hO⟩))
 refine fP 0 ?_;obtain rfl:=oI h1;obtain rfl:_=rr0:=ho0;replace h0:iJ  = some r:=h0;exact aG (aY (aY (bV (aH (⟨rfl,aZ,hO,h0⟩)))))

theorem PU (a0:(List aI))(b1:(List aI))(r:Bool)(h0:sF a0 b1=some r):dB Tryz.prog 88 [(eL aJ a0),(eL aJ b1)] (aD r):=by
 intro H0;refine cY Tryz.func88 ?_;have hO:=aN.start H0;unfold sF at h0;refine aX aC 1 [] [] ?_;refine aP ?_;refine aS aC 4 ?_;refine bH 2 ?_;obtain⟨x1,hx2,h0⟩:=aW h0;refine cW (rF a0 b1 _ hx2) hO ?_;intro H hO;refine bA ?_;refine bD [(4,(aD x1))] ?_;refine bI ?_;obtain rfl:=oI h0;exact aG (Q_r hO)

theorem JI (r0:(List aI))(r:(List aI))(h0:uK r0=some r):dB Tryz.prog 89 [(eL aJ r0)] (eL aJ r):=by
 intro H0;refine cY Tryz.func89 ?_;have hO:=aN.start H0;unfold uK at h0;refine aX aC 1 [] [] ?_;refine aP ?_;refine aS aC 6 ?_;refine bH 2 ?_;obtain⟨c1,h0⟩:=bB h0;refine MH 3 32 (lN r0) (by kernel_rfl) (by kernel_rfl) c1 hO ?_;intro lo2 H hO;refine bH 4 ?_;obtain⟨c4,h0⟩:=bB h0;refine DB aJ ([]:List aI) r0 0 lo2 3 32 (eL aJ r0) (fun lo3=>[(lo3,3,List.map aJ (([]:List aI)++r0))]) hO (SM (fun _=>by kernel_rfl)) c4 ?_;intro lo3 H hO;refine bA ?_;refine bD [(2,(.msl 3 lo3 0 (List.length (([]:List aI)++r0))))] ?_;refine bI ?_;refine dP [(2,(.msl 3 lo3 0 (List.length (([]:List aI)++r0))))] ?_;refine sO (en:=aJ) (([]:List aI)++r0) 0 0 2 3 lo3 (List.length (([]:List aI)++r0)) hO (by kernel_rfl) (by kernel_rfl) (by kernel_rfl) (L':=[]) (by kernel_rfl) ?_;intro H5 hO;obtain rfl:=oI h0;exact aG (Q_r hO)

theorem BH {σ:Type}(I:σ->Gs->Prop)(yield0_b:Nat)(cH:σ->(List aI)->(List aB)->Option (σ×Bool))(yield0_h:∀ st a0 a1 st2 r,cH st a0 a1=some (st2,r)->CA Tryz.prog (yv yield0_b) I st [(eL aJ a0),(eL aL a1)] st2 (aD r))(t1:(List aF))(sg0:σ)(r:σ)(h0:nO cH t1 sg0=some r):yD Tryz.prog 103 I sg0 [(yv yield0_b),(.rp (eL aE t1))] r (.tup []):=by
 intro H0 G0 hI hg;refine cY Tryz.func103 ?_;obtain⟨G,hO,hI⟩:∃ G,aN ⟨H0,List.map (fun p:Nat×dN=>p.1) G0,G⟩ H0 []/\I sg0 G:=⟨G0,aN.EL hg,hI⟩;clear hg;unfold nO at h0;refine aX aC 1 [] [(3,(eI 0))] ?_;refine bX 0 ?_;refine eC [(0,(yv yield0_b)),(1,(.rp (eL aE t1))),(3,(eI 0))] ?_;refine eD (fun T H=>∃ sg:σ,∃ i3:Int,∃ G:Gs,Has T [(0,(yv yield0_b)),(1,(.rp (eL aE t1))),(3,(eI i3))]/\aN ⟨H0,List.map (fun p:Nat×dN=>p.1) G0,G⟩ H []/\I sg G/\uT cH sg t1 i3=some r) ?_ ⟨sg0,(0:Int),G,aZ,hO,hI,h0⟩;clear hO hI h0;rintro T H ⟨sg,i3,G,hT,hO,hI,h0⟩;refine bF hT ?_;clear hT;unfold uT at h0;obtain⟨rr0,hl0,h0⟩:=aW h0;refine iM (fun (s:σ×Int) T H=>∃ G:Gs,Has T [(0,(yv yield0_b)),(1,(.rp (eL aE t1))),(3,(eI s.2))]/\aN ⟨H0,List.map (fun p:Nat×dN=>p.1) G0,G⟩ H []/\I s.1 G) hl0 ⟨G,aZ,hO,hI⟩ ?_;clear hO hI;rintro k0 s out1 T H ⟨G,hT,hO,hI⟩ h1 ho0;obtain⟨sg,i3⟩:=s;replace h1:jM cH t1 sg i3=some out1:=h1
 try dsimp only at hT
 refine bF hT ?_;clear hT;unfold jM at h1;refine aP ?_;refine aX aC 4 [] [(9,(aD (decide (i3<(lN t1)))))] ?_;refine bL h1 (fun h1=>?_) (fun h1=>?_)
 ·refine bM ?_;refine bD [(0,(yv yield0_b)),(1,(.rp (eL aE t1))),(3,(eI i3))] ?_;refine bX 1 ?_;refine aP ?_;refine aS aC 6 ?_;obtain⟨c2,h1⟩:=bB h1;refine qZ [0<=i3/\i3<(lN t1)] ⟨c2,trivial⟩ ?_;refine bP [] [(4,(eL aJ ((gD t1 i3).Row)))] ?_;refine aP ?_;refine aS aC 2 ?_;refine pW [] 2 ?_;refine bA ?_;refine bP [] [(5,(.sl true 0 (fun _=>.bad)))] ?_;refine eH (fun T H=>∃ sg:σ,∃ i3:Int,∃ r4:(List aI),∃ f5:List aB,∃ lo3:Nat,∃ G:Gs,Has T [(0,(yv yield0_b)),(1,(.rp (eL aE t1))),(3,(eI i3)),(4,(eL aJ r4)),(5,(.msl 2 lo3 0 (List.length f5)))]/\aN ⟨H0,List.map (fun p:Nat×dN=>p.1) G0,G⟩ H [(lo3,2,List.map aL f5)]/\I sg G/\rC cH sg t1 i3 r4 f5=some out1) ?_ ?_
  ·clear hO hI h1;rintro T H ⟨sg,i3,r4,f5,lo3,G,hT,hO,hI,h1⟩;refine bF hT ?_;clear hT;unfold rC at h1;refine aP ?_;refine aS aC 6 ?_;refine KJ (e:=aL) f5 0 5 2 lo3 (List.length f5) [] (by kernel_rfl) hO (by kernel_rfl) (by kernel_rfl) (by kernel_rfl) (by kernel_rfl) ?_;intro H hO;refine bH 2 ?_;obtain⟨x7,hx8,h1⟩:=aW h1;refine cW (JI r4 _ hx8) hO ?_;intro H hO;refine bH 4 ?_;obtain⟨x10,hx11,h1⟩:=aW h1;refine MP (I:=I) (yv yield0_b) [(eL aJ x7),(eL aL f5)] (aD x10.2) (by kernel_rfl) (by kernel_rfl) (yield0_h _ x7 f5 x10.1 x10.2 hx11) hO hI ?_;intro G H hO hI;refine bA ?_;refine bP [4,5] [(50,(aD (!x10.2)))] ?_;refine bL h1 (fun h1=>?_) (fun h1=>?_)
   ·refine bI ?_;obtain rfl:=oI h1;obtain rfl:_=rr0:=ho0;replace h0:some x10.1=some r:=h0;obtain rfl:=oI h0;exact aG (bG (aT (bG (kC (x:=(.tup [])) (by kernel_rfl) (aR.refl _) ⟨rfl,G,hI,hO.zT⟩))))
   refine bM ?_;exact aG (aV (aH (⟨rfl,_,(oI h1).symm,_,aZ,hO,hI⟩)))
  refine bX 2 ?_;refine eC [(0,(yv yield0_b)),(1,(.rp (eL aE t1))),(3,(eI i3)),(4,(eL aJ ((gD t1 i3).Row))),(5,(.sl true 0 (fun _=>.bad)))] ?_;refine HK (el:=(fun _=>.bad)) 4 5 2 hO (by kernel_rfl) ?_;intro lo24 H25 hO;refine eD (fun T H=>∃ sg:σ,∃ i3:Int,∃ r4:(List aI),∃ f5:List aB,∃ lo14:Nat,∃ G:Gs,Has T [(0,(yv yield0_b)),(1,(.rp (eL aE t1))),(3,(eI i3)),(4,(eL aJ r4)),(5,(.msl 2 lo14 0 (List.length f5)))]/\aN ⟨H0,List.map (fun p:Nat×dN=>p.1) G0,G⟩ H [(lo14,2,List.map aL f5)]/\I sg G/\uP cH sg t1 i3 r4 f5=some out1) ?_ ⟨sg,i3,(gD t1 i3).Row,([]:List aB),lo24,G,aZ,hO,hI,h1⟩;clear hO hI h1;rintro T H ⟨sg,i3,r4,f5,lo14,G,hT,hO,hI,h1⟩;refine bF hT ?_;clear hT;unfold uP at h1;obtain⟨rr1,hl1,h1⟩:=aW h1;refine iM (fun (s:σ×Int×List aB) T H=>∃ lo14:Nat,∃ G:Gs,Has T [(0,(yv yield0_b)),(1,(.rp (eL aE t1))),(3,(eI s.2.1)),(4,(eL aJ r4)),(5,(.msl 2 lo14 0 (List.length s.2.2)))]/\aN ⟨H0,List.map (fun p:Nat×dN=>p.1) G0,G⟩ H [(lo14,2,List.map aL s.2.2)]/\I s.1 G) hl1 ⟨lo14,G,aZ,hO,hI⟩ ?_;clear hO hI;rintro k1 s out2 T H ⟨lo14,G,hT,hO,hI⟩ h2 ho1;obtain⟨sg,i3,f5⟩:=s;replace h2:kN cH t1 r4 sg i3 f5=some out2:=h2
  try dsimp only at hT
  refine bF hT ?_;clear hT;unfold kN at h2;refine aP ?_;refine aP ?_;refine aS aC 13 ?_;obtain⟨c15,h2⟩:=bB h2;refine rR 11 [(((decide (i3<(lN t1))))=true->0<=i3/\i3<(lN t1))] ⟨c15,trivial⟩ ?_;obtain⟨x16,hx17,h2⟩:=aW h2;refine lQ [(20,true)] 88 [(eL aJ ((gD t1 i3).Row)),(eL aJ r4)] (aD x16) (decide (i3<(lN t1))) (by kernel_rfl) (by kernel_rfl) (by kernel_rfl) (fun hb18=>(PU ((gD t1 i3).Row) r4 _ (iC hx17 hb18))) hO ?_;intro H hO;refine bA ?_;refine bP [] [(28,(aD ((decide (i3<(lN t1)))&&x16)))] ?_;refine bL h2 (fun h2=>?_) (fun h2=>?_)
  ·refine bM ?_;refine bD [(0,(yv yield0_b)),(1,(.rp (eL aE t1))),(3,(eI i3)),(4,(eL aJ r4)),(5,(.msl 2 lo14 0 (List.length f5)))] ?_;refine aP ?_;refine bX 3 ?_;refine fS (fQ [32,36,37,41,43]) aC 15 ?_;obtain⟨c20,h2⟩:=bB h2;obtain⟨c21,h2⟩:=bB h2;refine cJ 12 [0<=i3/\i3<(lN t1),0<=i3/\i3<(lN t1)] ⟨c20,c21,trivial⟩ ?_;refine WI (xs:=[(aL (aB.mk ((gD t1 i3).At) ((gD t1 i3).Net)))]) (k:=2) (by kernel_rfl) (by kernel_rfl) ?_;obtain⟨c23,h2⟩:=bB h2;refine MO (e:=aL) f5 ([aB.mk ((gD t1 i3).At) ((gD t1 i3).Net)]) 0 lo14 2 16 (eP [(aL (aB.mk ((gD t1 i3).At) ((gD t1 i3).Net)))]) (fun lo22=>[(lo22,2,List.map aL (f5++([aB.mk ((gD t1 i3).At) ((gD t1 i3).Net)])))]) (by kernel_rfl) (by kernel_rfl) hO (by kernel_rfl) (by kernel_rfl) c23 (fun _=>by kernel_rfl) ?_;intro lo22 H hO;refine jK ?_;refine dP [(0,(yv yield0_b)),(1,(.rp (eL aE t1))),(3,(eI i3)),(4,(eL aJ r4)),(5,(.msl 2 lo22 0 (List.length (f5++([aB.mk ((gD t1 i3).At) ((gD t1 i3).Net)])))))] ?_;refine aG (aV (aH (?_)));refine aS aC 3 ?_;refine bA ?_;exact aG (aH (⟨rfl,_,(oI h2).symm,_,_,aZ,hO,hI⟩))
  refine fP 2 ?_;obtain rfl:=oI h2;obtain rfl:_=rr1:=ho1;replace h1:rC cH sg t1 i3 r4 f5=some out1:=h1;exact aG (aY (aY (bV (aH (⟨rfl,_,_,_,_,_,_,aZ,hO,hI,h1⟩)))))
 refine fP 0 ?_;obtain rfl:=oI h1;obtain rfl:_=rr0:=ho0;replace h0:some sg=some r:=h0;obtain rfl:=oI h0;exact aG (aY (aY (bV (zA (x:=(.tup [])) (by kernel_rfl) (aR.refl _) ⟨rfl,G,hI,hO.zT⟩))))

theorem wV (s0:(List aI))(f1_f:Nat)(f1_a f1_c:List V)(f1:aI->Option Bool)(f1_h:∀ a0 r,f1 a0=some r->dB Tryz.prog f1_f (f1_a++[(aJ a0)]++f1_c) (aD r))(r:Int)(h0:jG s0 f1=some r):dB Tryz.prog 119 [(eL aJ s0),(.fn (.func f1_f) f1_a f1_c)] (eI r):=by
 intro H0;refine cY Tryz.func119 ?_;have hO:=aN.start H0;unfold jG at h0;refine aX aC 1 [] [] ?_;refine eH (fun T H=>Has T []/\aN ⟨H0,[],[]⟩ H []/\gJ f1  = some r) ?_ ?_
 ·clear hO h0;rintro T H ⟨hT,hO,h0⟩;refine bF hT ?_;clear hT;unfold gJ at h0;refine bW aC 1 [(4,(eI (-1:Int)))] ?_;refine bI ?_;obtain rfl:=oI h0;exact aG (Q_r hO)
 refine aX aC 3 [] [(7,(eI (lN s0))),(8,(eI 0))] ?_;refine bX 0 ?_;refine eC [(0,(eL aJ s0)),(1,(.fn (.func f1_f) f1_a f1_c)),(7,(eI (lN s0))),(8,(eI 0))] ?_;refine eD (fun T H=>∃ t7:Int,∃ t8:Int,Has T [(0,(eL aJ s0)),(1,(.fn (.func f1_f) f1_a f1_c)),(7,(eI t7)),(8,(eI t8))]/\aN ⟨H0,[],[]⟩ H []/\jB f1 s0 t7 t8=some r) ?_ ⟨(lN s0),(0:Int),aZ,hO,h0⟩;clear hO h0;rintro T H ⟨t7,t8,hT,hO,h0⟩;refine bF hT ?_;clear hT;unfold jB at h0;obtain⟨rr0,hl0,h0⟩:=aW h0;refine iM (fun (s:Int) T H=>Has T [(0,(eL aJ s0)),(1,(.fn (.func f1_f) f1_a f1_c)),(7,(eI t7)),(8,(eI s))]/\aN ⟨H0,[],[]⟩ H []) hl0 ⟨aZ,hO⟩ ?_;clear hO;rintro k0 s out1 T H ⟨hT,hO⟩ h1 ho0;obtain⟨t8,rfl⟩:∃ x,x=s:=⟨_,rfl⟩;replace h1:jC f1 s0 t7 t8=some out1:=h1;refine bF hT ?_;clear hT;unfold jC at h1;refine aX aC 1 [] [(9,(aD (decide (t8<t7))))] ?_;refine aP ?_;refine bL h1 (fun h1=>?_) (fun h1=>?_)
 ·refine bM ?_;refine bD [(0,(eL aJ s0)),(1,(.fn (.func f1_f) f1_a f1_c)),(7,(eI t7)),(8,(eI t8))] ?_;refine aP ?_;refine bX 1 ?_;refine aX aC 2 [] [(5,(eI t8))] ?_;refine aP ?_;refine aS aC 6 ?_;obtain⟨c2,h1⟩:=bB h1;refine rR 5 [0<=t8/\t8<(lN s0)] ⟨c2,trivial⟩ ?_;obtain⟨x3,hx4,h1⟩:=aW h1;refine cW (f1_h (gD s0 t8) _ hx4) hO ?_;intro H hO;refine dA ?_;refine bP [] [(16,(aD x3))] ?_;refine bL h1 (fun h1=>?_) (fun h1=>?_)
  ·refine bW aC 2 [(4,(eI t8))] ?_;refine bI ?_;obtain rfl:=oI h1;obtain rfl:_=rr0:=ho0;replace h0:some t8=some r:=h0;obtain rfl:=oI h0;exact aG (bG (aT (aT (bG (aT (Q_r hO))))))
  refine bM ?_;refine dP [(0,(eL aJ s0)),(1,(.fn (.func f1_f) f1_a f1_c)),(7,(eI t7)),(8,(eI t8))] ?_;refine aG (aV (aH (?_)));refine aS aC 2 ?_;refine bA ?_;exact aG (aH (⟨rfl,_,(oI h1).symm,aZ,hO⟩))
 refine fP 0 ?_;obtain rfl:=oI h1;obtain rfl:_=rr0:=ho0;replace h0:gJ f1  = some r:=h0;exact aG (aY (aY (bV (aH (⟨rfl,aZ,hO,h0⟩)))))

theorem vG (s0:(List aI))(f1_f:Nat)(f1_a f1_c:List V)(f1:aI->Option Bool)(f1_h:∀ a0 r,f1 a0=some r->dB Tryz.prog f1_f (f1_a++[(aJ a0)]++f1_c) (aD r))(r:Bool)(h0:fN s0 f1=some r):dB Tryz.prog 116 [(eL aJ s0),(.fn (.func f1_f) f1_a f1_c)] (aD r):=by
 intro H0;refine cY Tryz.func116 ?_;have hO:=aN.start H0;unfold fN at h0;refine aX aC 1 [] [] ?_;refine aP ?_;refine aS aC 5 ?_;refine bH 2 ?_;obtain⟨x1,hx2,h0⟩:=aW h0;refine cW (wV s0 f1_f f1_a f1_c f1 f1_h _ hx2) hO ?_;intro H hO;refine bA ?_;refine bD [(4,(aD (decide ((0:Int)<=x1))))] ?_;refine bI ?_;obtain rfl:=oI h0;exact aG (Q_r hO)

theorem AY (v0:aI)(r:(bQ×Bool))(h0:nA v0=some r):dB Tryz.prog 129 [(aJ v0)] (.tup [(bN r.1),(aD r.2)]):=by
 intro H0;refine cY Tryz.func129 ?_;have hO:=aN.start H0;unfold nA at h0;refine aP ?_;refine aS aC 3 ?_;refine kW 3 (aJ v0) ?_;refine bA ?_;refine bD [(1,(.rp (aJ v0)))] ?_;refine aP ?_;refine bX 0 ?_;refine aX aC 9 [] [(4,(aD ((decide (v0.Kind=(1:Int)))&&(qK v0.Text (⟨#[]⟩:ByteArray)))))] ?_;refine bL h0 (fun h0=>?_) (fun h0=>?_)
 ·refine bW aC 5 [(2,(bN (bQ.k_number v0.Num))),(3,(aD true))] ?_;refine bI ?_;obtain rfl:=oI h0;exact aG (bG (aT (Q_r hO)))
 refine aX aC 15 [4] [(16,(aD (((decide (v0.Kind=(2:Int)))&&(decide (v0.Num=(0:Int))))&&(decide (((ByteArray.size v0.Text:Nat):Int)<=(64:Int))))))] ?_;refine bL h0 (fun h0=>?_) (fun h0=>?_)
 ·refine bW aC 5 [(2,(bN (bQ.k_words v0.Text))),(3,(aD true))] ?_;refine bI ?_;obtain rfl:=oI h0;exact aG (bG (aT (Q_r hO)))
 refine bM ?_;refine dP [] ?_;refine aG (aV (aH (?_)));refine bW aC 2 [(2,(bN bQ.none_)),(3,(aD false))] ?_;refine bI ?_;obtain rfl:=oI h0;exact aG (Q_r hO)

theorem aAk (v0:aI)(r:Bool)(h0:yN v0=some r):dB Tryz.prog 118 [(aJ v0)] (aD r):=by
 intro H0;refine cY Tryz.func118 ?_;have hO:=aN.start H0;unfold yN at h0;refine aP ?_;refine aS aC 2 ?_;refine kW 3 (aJ v0) ?_;refine bA ?_;refine bD [(1,(.rp (aJ v0)))] ?_;refine aP ?_;refine aS aC 7 ?_;refine bH 1 ?_;obtain⟨⟨x1_0,x1_1⟩,hx2,h0⟩:=aW h0;refine cW (AY v0 _ hx2) hO ?_;intro H hO;rcases x1_0 with _ | y4 | y5
 ·replace h0:(some x1_1)=some r:=h0;refine bA ?_;refine bD [(4,(aD x1_1))] ?_;refine bW aC 2 [(2,(aD x1_1))] ?_;refine bI ?_;obtain rfl:=oI h0;exact aG (Q_r hO)
 ·replace h0:(some x1_1)=some r:=h0;refine bA ?_;refine bD [(4,(aD x1_1))] ?_;refine bW aC 2 [(2,(aD x1_1))] ?_;refine bI ?_;obtain rfl:=oI h0;exact aG (Q_r hO)
 ·replace h0:(some x1_1)=some r:=h0;refine bA ?_;refine bD [(4,(aD x1_1))] ?_;refine bW aC 2 [(2,(aD x1_1))] ?_;refine bI ?_;obtain rfl:=oI h0;exact aG (Q_r hO)

theorem aAS (v0:aI)(r:Bool)(h0:yX v0=some r):dB Tryz.prog 117 [(aJ v0)] (aD r):=by
 intro H0;refine cY Tryz.func117 ?_;have hO:=aN.start H0;unfold yX at h0;refine aP ?_;refine aS aC 2 ?_;refine kW 3 (aJ v0) ?_;refine bA ?_;refine bD [(1,(.rp (aJ v0)))] ?_;refine aP ?_;refine aS aC 4 ?_;refine bH 1 ?_;obtain⟨x1,hx2,h0⟩:=aW h0;refine cW (aAk v0 _ hx2) hO ?_;intro H hO;refine bA ?_;refine bD [(2,(aD (!x1)))] ?_;refine bI ?_;obtain rfl:=oI h0;exact aG (Q_r hO)

theorem JT (r0:(List aI))(r:Bool)(h0:wX r0=some r):dB Tryz.prog 97 [(eL aJ r0)] (aD r):=by
 intro H0;refine cY Tryz.func97 ?_;have hO:=aN.start H0;unfold wX at h0;refine aX aC 1 [] [] ?_;refine aP ?_;refine aX aC 3 [] [(5,(aD (decide ((8:Int)<(lN r0)))))] ?_;refine bL h0 (fun h0=>?_) (fun h0=>?_)
 ·refine bW aC 1 [(2,(aD false))] ?_;refine bI ?_;obtain rfl:=oI h0;exact aG (aT (Q_r hO))
 refine bM ?_;refine bD [(0,(eL aJ r0))] ?_;refine aP ?_;refine aS aC 4 ?_;refine bH 1 ?_;obtain⟨x2,hx3,h0⟩:=aW h0;refine cW (vG r0 117 [] [] (fun y0=>yX y0) (fun y0 r h=>aAS y0 r h) _ hx3) hO ?_;intro H hO;refine bA ?_;refine bD [(2,(aD (!x2)))] ?_;refine bI ?_;obtain rfl:=oI h0;exact aG (Q_r hO)

theorem RL (t0:(List aI))(r:(Int×(List aI)))(h0:wO t0=some r):GG Tryz.prog 120 [(.rp (eL aJ t0))] (fun lo=>(.fn (.func 121) [] [(.lp lo 0 0),(.rp (eL aJ r.2))])) 1 [(eI r.1)]:=by
 intro H0;refine cY Tryz.func120 ?_;have hO:=aN.start H0;unfold wO at h0;refine aX aC 1 [] [] ?_;refine aP ?_;refine aS aC 2 ?_;refine kM 1 (eI 0) (by kernel_rfl) (by kernel_rfl) hO ?_;intro lo1 H hO;refine gL 0 lo1 1 0 (eI 0) (eI (-1:Int)) [(eI 0)] [(lo1,1,[(eI (-1:Int))])] hO rfl (by kernel_rfl) ?_;intro H hO;refine dA ?_;refine bP [] [(2,(.lp lo1 0 0))] ?_;refine aX aC 2 [0] [(1,(.fn (.func 121) [] [(.lp lo1 0 0),(.rp (eL aJ t0))]))] ?_;refine bI ?_;obtain rfl:=oI h0;exact aG (kC (x:=(.fn (.func 121) [] [(.lp lo1 0 0),(.rp (eL aJ t0))])) (by kernel_rfl) (aR.refl _) ⟨lo1,rfl,hO⟩)

theorem wE {σ:Type}(I:σ->Gs->Prop)(s0:(List aI))(f1_v:V)(f1:σ->aI->Option (σ×Bool))(f1_h:∀ st a0 st2 r,f1 st a0=some (st2,r)->CA Tryz.prog f1_v I st [(aJ a0)] st2 (aD r))(sg0:σ)(r:(σ×Int))(h0:iW s0 f1 sg0=some r):yD Tryz.prog 119 I sg0 [(eL aJ s0),f1_v] r.1 (eI r.2):=by
 intro H0 G0 hI hg;refine cY Tryz.func119 ?_;obtain⟨G,hO,hI⟩:∃ G,aN ⟨H0,List.map (fun p:Nat×dN=>p.1) G0,G⟩ H0 []/\I sg0 G:=⟨G0,aN.EL hg,hI⟩;clear hg;unfold iW at h0;refine aX aC 1 [] [] ?_;refine eH (fun T H=>∃ sg:σ,∃ G:Gs,Has T []/\aN ⟨H0,List.map (fun p:Nat×dN=>p.1) G0,G⟩ H []/\I sg G/\fM f1 sg=some r) ?_ ?_
 ·clear hO hI h0;rintro T H ⟨sg,G,hT,hO,hI,h0⟩;refine bF hT ?_;clear hT;unfold fM at h0;refine bW aC 1 [(4,(eI (-1:Int)))] ?_;refine bI ?_;obtain rfl:=oI h0;exact aG (kC (x:=(eI (-1:Int))) (by kernel_rfl) (aR.refl _) ⟨rfl,G,hI,hO.zT⟩)
 refine aX aC 3 [] [(7,(eI (lN s0))),(8,(eI 0))] ?_;refine bX 0 ?_;refine eC [(0,(eL aJ s0)),(1,f1_v),(7,(eI (lN s0))),(8,(eI 0))] ?_;refine eD (fun T H=>∃ sg:σ,∃ t7:Int,∃ t8:Int,∃ G:Gs,Has T [(0,(eL aJ s0)),(1,f1_v),(7,(eI t7)),(8,(eI t8))]/\aN ⟨H0,List.map (fun p:Nat×dN=>p.1) G0,G⟩ H []/\I sg G/\iT f1 sg s0 t7 t8=some r) ?_ ⟨sg0,(lN s0),(0:Int),G,aZ,hO,hI,h0⟩;clear hO hI h0;rintro T H ⟨sg,t7,t8,G,hT,hO,hI,h0⟩;refine bF hT ?_;clear hT;unfold iT at h0;obtain⟨rr0,hl0,h0⟩:=aW h0;refine iM (fun (s:σ×Int) T H=>∃ G:Gs,Has T [(0,(eL aJ s0)),(1,f1_v),(7,(eI t7)),(8,(eI s.2))]/\aN ⟨H0,List.map (fun p:Nat×dN=>p.1) G0,G⟩ H []/\I s.1 G) hl0 ⟨G,aZ,hO,hI⟩ ?_;clear hO hI;rintro k0 s out1 T H ⟨G,hT,hO,hI⟩ h1 ho0;obtain⟨sg,t8⟩:=s;replace h1:cK f1 s0 t7 sg t8=some out1:=h1
 try dsimp only at hT
 refine bF hT ?_;clear hT;unfold cK at h1;refine aX aC 1 [] [(9,(aD (decide (t8<t7))))] ?_;refine aP ?_;refine bL h1 (fun h1=>?_) (fun h1=>?_)
 ·refine bM ?_;refine bD [(0,(eL aJ s0)),(1,f1_v),(7,(eI t7)),(8,(eI t8))] ?_;refine aP ?_;refine bX 1 ?_;refine aX aC 2 [] [(5,(eI t8))] ?_;refine aP ?_;refine aS aC 6 ?_;obtain⟨c2,h1⟩:=bB h1;refine rR 5 [0<=t8/\t8<(lN s0)] ⟨c2,trivial⟩ ?_;obtain⟨x3,hx4,h1⟩:=aW h1;refine MP (I:=I) f1_v [(aJ (gD s0 t8))] (aD x3.2) (by kernel_rfl) (by kernel_rfl) (f1_h _ (gD s0 t8) x3.1 x3.2 hx4) hO hI ?_;intro G H hO hI;refine dA ?_;refine bP [] [(16,(aD x3.2))] ?_;refine bL h1 (fun h1=>?_) (fun h1=>?_)
  ·refine bW aC 2 [(4,(eI t8))] ?_;refine bI ?_;obtain rfl:=oI h1;obtain rfl:_=rr0:=ho0;replace h0:some (x3.1,t8)=some r:=h0;obtain rfl:=oI h0;exact aG (bG (aT (aT (bG (aT (kC (x:=(eI t8)) (by kernel_rfl) (aR.refl _) ⟨rfl,G,hI,hO.zT⟩))))))
  refine bM ?_;refine dP [(0,(eL aJ s0)),(1,f1_v),(7,(eI t7)),(8,(eI t8))] ?_;refine aG (aV (aH (?_)));refine aS aC 2 ?_;refine bA ?_;exact aG (aH (⟨rfl,_,(oI h1).symm,_,aZ,hO,hI⟩))
 refine fP 0 ?_;obtain rfl:=oI h1;obtain rfl:_=rr0:=ho0;replace h0:fM f1 sg=some r:=h0;exact aG (aY (aY (bV (aH (⟨rfl,_,_,aZ,hO,hI,h0⟩)))))

theorem MT (v0:aI)(lo1p:Nat)(t1:Int)(t2:(List aI))(r:(Bool×Int))(h0:kV v0 t1 t2=some r):rN Tryz.prog 121 lo1p 1 [(eI t1)] [(eI r.2)] [(aJ v0),(.lp lo1p 0 0),(.rp (eL aJ t2))] (aD r.1):=by
 intro H0 hl0;refine cY Tryz.func121 ?_;have hO:=aN.tO hl0;clear hl0;unfold kV at h0;refine aP ?_;refine aS aC 2 ?_;refine kW 3 (aJ v0) ?_;refine bA ?_;refine bP [0] [(3,(.rp (aJ v0)))] ?_;refine aP ?_;refine aS aC 3 ?_;refine iG 0 lo1p 1 0 (eI t1) (eI t1) [(eI t1)] hO rfl ?_;refine bH 2 ?_;refine gL 0 lo1p 1 0 (eI t1) (eI (wR (t1+(1:Int)))) [(eI t1)] [(lo1p,1,[(eI (wR (t1+(1:Int))))])] hO rfl (by kernel_rfl) ?_;intro H hO;refine dA ?_;refine bP [] [] ?_;refine aP ?_;refine fS (fQ [7,8,11]) aC 7 ?_;refine kJ 2 ?_;refine gI 0 lo1p 1 0 (eI (wR (t1+(1:Int)))) (eI (wR (t1+(1:Int)))) [(eI (wR (t1+(1:Int))))] hO rfl ?_;obtain⟨c1,h0⟩:=bB h0;refine RN (Ds:=[0<=(wR (t1+(1:Int)))/\(wR (t1+(1:Int)))<(lN t2)]) (by kernel_rfl) ⟨c1,trivial⟩ ?_;refine bD [(1,(.lp lo1p 0 0)),(4,(aD (!((decide (v0.Kind=((gD t2 (wR (t1+(1:Int)))).Kind)))&&((decide (v0.Num=((gD t2 (wR (t1+(1:Int)))).Num)))&&((qK v0.Text ((gD t2 (wR (t1+(1:Int)))).Text))&&true))))))] ?_;refine bI ?_;obtain rfl:=oI h0;exact aG (kC (x:=(aD (!((decide (v0.Kind=((gD t2 (wR (t1+(1:Int)))).Kind)))&&((decide (v0.Num=((gD t2 (wR (t1+(1:Int)))).Num)))&&((qK v0.Text ((gD t2 (wR (t1+(1:Int)))).Text))&&true)))))) (by kernel_rfl) (aR.refl _) ⟨rfl,hO.ext,hO.at 0 (by kernel_rfl),rfl⟩)

theorem wN (x0:Int)(r:Bool)(h0:kZ x0=some r):dB Tryz.prog 100 [(eI x0)] (aD r):=by
 intro H0;refine cY Tryz.func100 ?_;have hO:=aN.start H0;unfold kZ at h0;refine aX aC 1 [] [] ?_;refine bW aC 4 [(2,(aD (!decide (x0=x0))))] ?_;refine bI ?_;obtain rfl:=oI h0;exact aG (Q_r hO)

theorem MR (x0:Int)(y1:Int)(r:Int)(h0:qG x0 y1=some r):dB Tryz.prog 122 [(eI x0),(eI y1)] (eI r):=by
 intro H0;refine cY Tryz.func122 ?_;have hO:=aN.start H0;unfold qG at h0;refine aX aC 1 [] [] ?_;refine aP ?_;refine aS aC 3 ?_;refine bH 1 ?_;obtain⟨x1,hx2,h0⟩:=aW h0;refine cW (wN x0 _ hx2) hO ?_;intro H hO;refine bA ?_;refine bP [] [(5,(aD x1))] ?_;refine aP ?_;refine aS aC 3 ?_;refine bH 1 ?_;obtain⟨x4,hx5,h0⟩:=aW h0;refine cW (wN y1 _ hx5) hO ?_;intro H hO;refine bA ?_;refine bP [] [(6,(aD x4))] ?_;refine aP ?_;refine aX aC 1 [5] [(11,(aD x1))] ?_;refine bL h0 (fun h0=>?_) (fun h0=>?_)
 ·refine aP ?_;refine bW aC 1 [(12,(aD x4))] ?_;refine bL h0 (fun h0=>?_) (fun h0=>?_)
  ·refine bW aC 1 [(4,(eI 0))] ?_;refine bI ?_;obtain rfl:=oI h0;exact aG (aT (aT (Q_r hO)))
  refine bM ?_;refine bD [] ?_;refine bW aC 1 [(4,(eI (-1:Int)))] ?_;refine bI ?_;obtain rfl:=oI h0;exact aG (aT (Q_r hO))
 refine bM ?_;refine bD [(0,(eI x0)),(1,(eI y1)),(6,(aD x4))] ?_;refine aP ?_;refine aX aC 1 [6] [(13,(aD x4))] ?_;refine bL h0 (fun h0=>?_) (fun h0=>?_)
 ·refine bW aC 1 [(4,(eI 1))] ?_;refine bI ?_;obtain rfl:=oI h0;exact aG (aT (Q_r hO))
 refine bM ?_;refine bD [(0,(eI x0)),(1,(eI y1))] ?_;refine aP ?_;refine aX aC 3 [] [(16,(aD (decide (x0<y1))))] ?_;refine bL h0 (fun h0=>?_) (fun h0=>?_)
 ·refine bW aC 1 [(4,(eI (-1:Int)))] ?_;refine bI ?_;obtain rfl:=oI h0;exact aG (aT (Q_r hO))
 refine bM ?_;refine bD [(0,(eI x0)),(1,(eI y1))] ?_;refine aP ?_;refine bW aC 3 [(19,(aD (decide (y1<x0))))] ?_;refine bL h0 (fun h0=>?_) (fun h0=>?_)
 ·refine bW aC 1 [(4,(eI 1))] ?_;refine bI ?_;obtain rfl:=oI h0;exact aG (aT (Q_r hO))
 refine bM ?_;refine bD [] ?_;refine bW aC 1 [(4,(eI 0))] ?_;refine bI ?_;obtain rfl:=oI h0;exact aG (Q_r hO)

theorem xP (x0:Int)(r:Bool)(h0:lY x0=some r):dB Tryz.prog 133 [(eI x0)] (aD r):=by
 intro H0;refine cY Tryz.func133 ?_;have hO:=aN.start H0;unfold lY at h0;refine aX aC 1 [] [] ?_;refine bW aC 4 [(2,(aD (!decide (x0=x0))))] ?_;refine bI ?_;obtain rfl:=oI h0;exact aG (Q_r hO)

theorem DD (x0:Int)(y1:Int)(r:Int)(h0:gV x0 y1=some r):dB Tryz.prog 130 [(eI x0),(eI y1)] (eI r):=by
 intro H0;refine cY Tryz.func130 ?_;have hO:=aN.start H0;unfold gV at h0;refine aX aC 1 [] [] ?_;refine aP ?_;refine aS aC 3 ?_;refine bH 1 ?_;obtain⟨x1,hx2,h0⟩:=aW h0;refine cW (xP x0 _ hx2) hO ?_;intro H hO;refine bA ?_;refine bP [] [(5,(aD x1))] ?_;refine aP ?_;refine aS aC 3 ?_;refine bH 1 ?_;obtain⟨x4,hx5,h0⟩:=aW h0;refine cW (xP y1 _ hx5) hO ?_;intro H hO;refine bA ?_;refine bP [] [(6,(aD x4))] ?_;refine aP ?_;refine aX aC 1 [5] [(11,(aD x1))] ?_;refine bL h0 (fun h0=>?_) (fun h0=>?_)
 ·refine aP ?_;refine bW aC 1 [(12,(aD x4))] ?_;refine bL h0 (fun h0=>?_) (fun h0=>?_)
  ·refine bW aC 1 [(4,(eI 0))] ?_;refine bI ?_;obtain rfl:=oI h0;exact aG (aT (aT (Q_r hO)))
  refine bM ?_;refine bD [] ?_;refine bW aC 1 [(4,(eI (-1:Int)))] ?_;refine bI ?_;obtain rfl:=oI h0;exact aG (aT (Q_r hO))
 refine bM ?_;refine bD [(0,(eI x0)),(1,(eI y1)),(6,(aD x4))] ?_;refine aP ?_;refine aX aC 1 [6] [(13,(aD x4))] ?_;refine bL h0 (fun h0=>?_) (fun h0=>?_)
 ·refine bW aC 1 [(4,(eI 1))] ?_;refine bI ?_;obtain rfl:=oI h0;exact aG (aT (Q_r hO))
 refine bM ?_;refine bD [(0,(eI x0)),(1,(eI y1))] ?_;refine aP ?_;refine aX aC 3 [] [(16,(aD (decide (x0<y1))))] ?_;refine bL h0 (fun h0=>?_) (fun h0=>?_)
 ·refine bW aC 1 [(4,(eI (-1:Int)))] ?_;refine bI ?_;obtain rfl:=oI h0;exact aG (aT (Q_r hO))
 refine bM ?_;refine bD [(0,(eI x0)),(1,(eI y1))] ?_;refine aP ?_;refine bW aC 3 [(19,(aD (decide (y1<x0))))] ?_;refine bL h0 (fun h0=>?_) (fun h0=>?_)
 ·refine bW aC 1 [(4,(eI 1))] ?_;refine bI ?_;obtain rfl:=oI h0;exact aG (aT (Q_r hO))
 refine bM ?_;refine bD [] ?_;refine bW aC 1 [(4,(eI 0))] ?_;refine bI ?_;obtain rfl:=oI h0;exact aG (Q_r hO)

theorem zR (a0:ByteArray)(b1:ByteArray)(r:Int)(h0:kO a0 b1=some r):dB Tryz.prog 134 [(BV a0),(BV b1)] (eI r):=by
 intro H0;refine cY Tryz.func134 ?_;have hO:=aN.start H0;unfold kO at h0;refine aX aC 1 [] [] ?_;refine aP ?_;refine aS aC 4 ?_;refine bH 2 ?_;refine aFM 135 [(BV a0),(BV b1)] (eI (SJ a0 b1)) (by kernel_rfl) (by kernel_rfl) (aEu Tryz.func135 (by kernel_rfl) (by kernel_rfl) (by kernel_rfl) (by kernel_rfl) a0 b1) hO ?_;intro H hO;refine bA ?_;refine bD [(4,(eI (SJ a0 b1)))] ?_;refine bI ?_;obtain rfl:=oI h0;exact aG (Q_r hO)

theorem MS (a0:ByteArray)(b1:ByteArray)(r:Int)(h0:oB a0 b1=some r):dB Tryz.prog 131 [(BV a0),(BV b1)] (eI r):=by
 intro H0;refine cY Tryz.func131 ?_;have hO:=aN.start H0;unfold oB at h0;refine aX aC 1 [] [] ?_;refine aP ?_;refine aS aC 4 ?_;refine bH 2 ?_;obtain⟨x1,hx2,h0⟩:=aW h0;refine cW (zR a0 b1 _ hx2) hO ?_;intro H hO;refine bA ?_;refine bD [(4,(eI x1))] ?_;refine bI ?_;obtain rfl:=oI h0;exact aG (Q_r hO)

theorem RP (a0:aI)(b1:aI)(r:Int)(h0:sK a0 b1=some r):dB Tryz.prog 123 [(aJ a0),(aJ b1)] (eI r):=by
 intro H0;refine cY Tryz.func123 ?_;have hO:=aN.start H0;unfold sK at h0;refine aP ?_;refine aS aC 3 ?_;refine kW 3 (aJ a0) ?_;refine kW 3 (aJ b1) ?_;refine bA ?_;refine bD [(2,(.rp (aJ a0))),(3,(.rp (aJ b1)))] ?_;refine aP ?_;refine aS aC 7 ?_;refine bH 1 ?_;obtain⟨⟨x1_0,x1_1⟩,hx2,h0⟩:=aW h0;refine cW (AY a0 _ hx2) hO ?_;intro H hO;rcases x1_0 with _ | y4 | y5
 ·replace h0:((nA b1).bind fun (x6_0,x6_1)=>match x6_0 with | .none_=>(cond ((!x1_1)||(!x6_1)) (some (0:Int)) (none)) | .k_number y9=>(cond ((!x1_1)||(!x6_1)) (some (0:Int)) (some (1:Int))) | .k_words y10=>(cond ((!x1_1)||(!x6_1)) (some (0:Int)) (none)))=some r:=h0;refine bA ?_;refine bP [2] [(5,(bN bQ.none_)),(6,(aD x1_1))] ?_;refine aP ?_;refine aS aC 7 ?_;refine bH 1 ?_;obtain⟨⟨x6_0,x6_1⟩,hx7,h0⟩:=aW h0;refine cW (AY b1 _ hx7) hO ?_;intro H hO;rcases x6_0 with _ | y9 | y10
  ·replace h0:(cond ((!x1_1)||(!x6_1)) (some (0:Int)) (none))=some r:=h0;refine bA ?_;refine bP [3] [(7,(bN bQ.none_)),(8,(aD x6_1))] ?_;refine aP ?_;refine aX aC 6 [6,8] [(28,(aD ((!x1_1)||(!x6_1))))] ?_;refine bL h0 (fun h0=>?_) (fun h0=>?_)
   ·refine bW aC 1 [(4,(eI 0))] ?_;refine bI ?_;obtain rfl:=oI h0;exact aG (aT (Q_r hO))
   refine bM ?_;refine bD [(5,(bN bQ.none_)),(7,(bN bQ.none_))] ?_;refine aX aC 7 [] [(9,(eI 0)),(10,(aD false))] ?_;refine aX aC 7 [] [(11,(eI 0)),(12,(aD false))] ?_;refine aP ?_;refine bX 0 ?_;refine aX aC 5 [] [(39,(aD false))] ?_;refine mX (false) (fun hc12=>?_) (fun hc12=>?_)
   ·cases hc12
   ·refine aX aC 2 [9,10,11,39] [(47,(aD false))] ?_;refine mX (false) (fun hc13=>?_) (fun hc13=>?_)
    ·cases hc13
    ·refine bW aC 2 [(5,(bN bQ.none_)),(7,(bN bQ.none_)),(49,(aD false))] ?_;refine mX (false) (fun hc14=>?_) (fun hc14=>?_)
     ·cases hc14
     ·refine bM ?_;refine dP [(5,(bN bQ.none_)),(7,(bN bQ.none_))] ?_;refine aG (aV (aH (?_)));refine aP ?_;refine fS (fQ []) aC 6 ?_
      cases h0
  ·replace h0:(cond ((!x1_1)||(!x6_1)) (some (0:Int)) (some (1:Int)))=some r:=h0;refine bA ?_;refine bP [3] [(7,(bN (bQ.k_number y9))),(8,(aD x6_1))] ?_;refine aP ?_;refine aX aC 6 [6,8] [(28,(aD ((!x1_1)||(!x6_1))))] ?_;refine bL h0 (fun h0=>?_) (fun h0=>?_)
   ·refine bW aC 1 [(4,(eI 0))] ?_;refine bI ?_;obtain rfl:=oI h0;exact aG (aT (Q_r hO))
   refine bM ?_;refine bD [(5,(bN bQ.none_)),(7,(bN (bQ.k_number y9)))] ?_;refine aX aC 7 [] [(9,(eI 0)),(10,(aD false))] ?_;refine aX aC 7 [] [(11,(eI y9)),(12,(aD true))] ?_;refine aP ?_;refine bX 0 ?_;refine aX aC 5 [] [(39,(aD false))] ?_;refine mX (false) (fun hc16=>?_) (fun hc16=>?_)
   ·cases hc16
   ·refine aX aC 2 [9,10,11,39] [(47,(aD false))] ?_;refine mX (false) (fun hc17=>?_) (fun hc17=>?_)
    ·cases hc17
    ·refine bW aC 2 [(5,(bN bQ.none_)),(7,(bN (bQ.k_number y9))),(49,(aD true))] ?_;refine mX (true) (fun hc18=>?_) (fun hc18=>?_)
     ·refine bW aC 1 [(4,(eI 1))] ?_;refine bI ?_;obtain rfl:=oI h0;exact aG (bG (aT (Q_r hO)))
     ·cases hc18
  ·replace h0:(cond ((!x1_1)||(!x6_1)) (some (0:Int)) (none))=some r:=h0;refine bA ?_;refine bP [3] [(7,(bN (bQ.k_words y10))),(8,(aD x6_1))] ?_;refine aP ?_;refine aX aC 6 [6,8] [(28,(aD ((!x1_1)||(!x6_1))))] ?_;refine bL h0 (fun h0=>?_) (fun h0=>?_)
   ·refine bW aC 1 [(4,(eI 0))] ?_;refine bI ?_;obtain rfl:=oI h0;exact aG (aT (Q_r hO))
   refine bM ?_;refine bD [(5,(bN bQ.none_)),(7,(bN (bQ.k_words y10)))] ?_;refine aX aC 7 [] [(9,(eI 0)),(10,(aD false))] ?_;refine aX aC 7 [] [(11,(eI 0)),(12,(aD false))] ?_;refine aP ?_;refine bX 0 ?_;refine aX aC 5 [] [(39,(aD false))] ?_;refine mX (false) (fun hc20=>?_) (fun hc20=>?_)
   ·cases hc20
   ·refine aX aC 2 [9,10,11,39] [(47,(aD false))] ?_;refine mX (false) (fun hc21=>?_) (fun hc21=>?_)
    ·cases hc21
    ·refine bW aC 2 [(5,(bN bQ.none_)),(7,(bN (bQ.k_words y10))),(49,(aD false))] ?_;refine mX (false) (fun hc22=>?_) (fun hc22=>?_)
     ·cases hc22
     ·refine bM ?_;refine dP [(5,(bN bQ.none_)),(7,(bN (bQ.k_words y10)))] ?_;refine aG (aV (aH (?_)));refine aP ?_;refine fS (fQ []) aC 6 ?_
      cases h0
 ·replace h0:((nA b1).bind fun (x23_0,x23_1)=>match x23_0 with | .none_=>(cond ((!x1_1)||(!x23_1)) (some (0:Int)) (some (-1:Int))) | .k_number y26=>(cond ((!x1_1)||(!x23_1)) (some (0:Int)) ((gV y4 y26).bind fun x33=>some x33)) | .k_words y27=>(cond ((!x1_1)||(!x23_1)) (some (0:Int)) (some (-1:Int))))=some r:=h0;refine bA ?_;refine bP [2] [(5,(bN (bQ.k_number y4))),(6,(aD x1_1))] ?_;refine aP ?_;refine aS aC 7 ?_;refine bH 1 ?_;obtain⟨⟨x23_0,x23_1⟩,hx24,h0⟩:=aW h0;refine cW (AY b1 _ hx24) hO ?_;intro H hO;rcases x23_0 with _ | y26 | y27
  ·replace h0:(cond ((!x1_1)||(!x23_1)) (some (0:Int)) (some (-1:Int)))=some r:=h0;refine bA ?_;refine bP [3] [(7,(bN bQ.none_)),(8,(aD x23_1))] ?_;refine aP ?_;refine aX aC 6 [6,8] [(28,(aD ((!x1_1)||(!x23_1))))] ?_;refine bL h0 (fun h0=>?_) (fun h0=>?_)
   ·refine bW aC 1 [(4,(eI 0))] ?_;refine bI ?_;obtain rfl:=oI h0;exact aG (aT (Q_r hO))
   refine bM ?_;refine bD [(5,(bN (bQ.k_number y4))),(7,(bN bQ.none_))] ?_;refine aX aC 7 [] [(9,(eI y4)),(10,(aD true))] ?_;refine aX aC 7 [] [(11,(eI 0)),(12,(aD false))] ?_;refine aP ?_;refine bX 0 ?_;refine aX aC 5 [] [(39,(aD false))] ?_;refine mX (false) (fun hc29=>?_) (fun hc29=>?_)
   ·cases hc29
   ·refine aX aC 2 [9,10,11,39] [(47,(aD true))] ?_;refine mX (true) (fun hc30=>?_) (fun hc30=>?_)
    ·refine bW aC 1 [(4,(eI (-1:Int)))] ?_;refine bI ?_;obtain rfl:=oI h0;exact aG (bG (aT (Q_r hO)))
    ·cases hc30
  ·replace h0:(cond ((!x1_1)||(!x23_1)) (some (0:Int)) ((gV y4 y26).bind fun x33=>some x33))=some r:=h0;refine bA ?_;refine bP [3] [(7,(bN (bQ.k_number y26))),(8,(aD x23_1))] ?_;refine aP ?_;refine aX aC 6 [6,8] [(28,(aD ((!x1_1)||(!x23_1))))] ?_;refine bL h0 (fun h0=>?_) (fun h0=>?_)
   ·refine bW aC 1 [(4,(eI 0))] ?_;refine bI ?_;obtain rfl:=oI h0;exact aG (aT (Q_r hO))
   refine bM ?_;refine bD [(5,(bN (bQ.k_number y4))),(7,(bN (bQ.k_number y26)))] ?_;refine aX aC 7 [] [(9,(eI y4)),(10,(aD true))] ?_;refine aX aC 7 [] [(11,(eI y26)),(12,(aD true))] ?_;refine aP ?_;refine bX 0 ?_;refine aX aC 5 [] [(39,(aD true))] ?_;refine mX (true) (fun hc32=>?_) (fun hc32=>?_)
   ·refine aP ?_;refine aS aC 4 ?_;refine bH 2 ?_;obtain⟨x33,hx34,h0⟩:=aW h0;refine cW (DD y4 y26 _ hx34) hO ?_;intro H hO;refine bA ?_;refine bD [(4,(eI x33))] ?_;refine bI ?_;obtain rfl:=oI h0;exact aG (bG (aT (Q_r hO)))
   ·cases hc32
  ·replace h0:(cond ((!x1_1)||(!x23_1)) (some (0:Int)) (some (-1:Int)))=some r:=h0;refine bA ?_;refine bP [3] [(7,(bN (bQ.k_words y27))),(8,(aD x23_1))] ?_;refine aP ?_;refine aX aC 6 [6,8] [(28,(aD ((!x1_1)||(!x23_1))))] ?_;refine bL h0 (fun h0=>?_) (fun h0=>?_)
   ·refine bW aC 1 [(4,(eI 0))] ?_;refine bI ?_;obtain rfl:=oI h0;exact aG (aT (Q_r hO))
   refine bM ?_;refine bD [(5,(bN (bQ.k_number y4))),(7,(bN (bQ.k_words y27)))] ?_;refine aX aC 7 [] [(9,(eI y4)),(10,(aD true))] ?_;refine aX aC 7 [] [(11,(eI 0)),(12,(aD false))] ?_;refine aP ?_;refine bX 0 ?_;refine aX aC 5 [] [(39,(aD false))] ?_;refine mX (false) (fun hc37=>?_) (fun hc37=>?_)
   ·cases hc37
   ·refine aX aC 2 [9,10,11,39] [(47,(aD true))] ?_;refine mX (true) (fun hc38=>?_) (fun hc38=>?_)
    ·refine bW aC 1 [(4,(eI (-1:Int)))] ?_;refine bI ?_;obtain rfl:=oI h0;exact aG (bG (aT (Q_r hO)))
    ·cases hc38
 ·replace h0:((nA b1).bind fun (x39_0,x39_1)=>match x39_0 with | .none_=>(cond ((!x1_1)||(!x39_1)) (some (0:Int)) (none)) | .k_number y42=>(cond ((!x1_1)||(!x39_1)) (some (0:Int)) (some (1:Int))) | .k_words y43=>(cond ((!x1_1)||(!x39_1)) (some (0:Int)) ((oB y5 y43).bind fun x56=>some x56)))=some r:=h0;refine bA ?_;refine bP [2] [(5,(bN (bQ.k_words y5))),(6,(aD x1_1))] ?_;refine aP ?_;refine aS aC 7 ?_;refine bH 1 ?_;obtain⟨⟨x39_0,x39_1⟩,hx40,h0⟩:=aW h0;refine cW (AY b1 _ hx40) hO ?_;intro H hO;rcases x39_0 with _ | y42 | y43
  ·replace h0:(cond ((!x1_1)||(!x39_1)) (some (0:Int)) (none))=some r:=h0;refine bA ?_;refine bP [3] [(7,(bN bQ.none_)),(8,(aD x39_1))] ?_;refine aP ?_;refine aX aC 6 [6,8] [(28,(aD ((!x1_1)||(!x39_1))))] ?_;refine bL h0 (fun h0=>?_) (fun h0=>?_)
   ·refine bW aC 1 [(4,(eI 0))] ?_;refine bI ?_;obtain rfl:=oI h0;exact aG (aT (Q_r hO))
   refine bM ?_;refine bD [(5,(bN (bQ.k_words y5))),(7,(bN bQ.none_))] ?_;refine aX aC 7 [] [(9,(eI 0)),(10,(aD false))] ?_;refine aX aC 7 [] [(11,(eI 0)),(12,(aD false))] ?_;refine aP ?_;refine bX 0 ?_;refine aX aC 5 [] [(39,(aD false))] ?_;refine mX (false) (fun hc45=>?_) (fun hc45=>?_)
   ·cases hc45
   ·refine aX aC 2 [9,10,11,39] [(47,(aD false))] ?_;refine mX (false) (fun hc46=>?_) (fun hc46=>?_)
    ·cases hc46
    ·refine bW aC 2 [(5,(bN (bQ.k_words y5))),(7,(bN bQ.none_)),(49,(aD false))] ?_;refine mX (false) (fun hc47=>?_) (fun hc47=>?_)
     ·cases hc47
     ·refine bM ?_;refine dP [(5,(bN (bQ.k_words y5))),(7,(bN bQ.none_))] ?_;refine aG (aV (aH (?_)));refine aP ?_;refine fS (fQ []) aC 6 ?_
      cases h0
  ·replace h0:(cond ((!x1_1)||(!x39_1)) (some (0:Int)) (some (1:Int)))=some r:=h0;refine bA ?_;refine bP [3] [(7,(bN (bQ.k_number y42))),(8,(aD x39_1))] ?_;refine aP ?_;refine aX aC 6 [6,8] [(28,(aD ((!x1_1)||(!x39_1))))] ?_;refine bL h0 (fun h0=>?_) (fun h0=>?_)
   ·refine bW aC 1 [(4,(eI 0))] ?_;refine bI ?_;obtain rfl:=oI h0;exact aG (aT (Q_r hO))
   refine bM ?_;refine bD [(5,(bN (bQ.k_words y5))),(7,(bN (bQ.k_number y42)))] ?_;refine aX aC 7 [] [(9,(eI 0)),(10,(aD false))] ?_;refine aX aC 7 [] [(11,(eI y42)),(12,(aD true))] ?_;refine aP ?_;refine bX 0 ?_;refine aX aC 5 [] [(39,(aD false))] ?_;refine mX (false) (fun hc49=>?_) (fun hc49=>?_)
   ·cases hc49
   ·refine aX aC 2 [9,10,11,39] [(47,(aD false))] ?_;refine mX (false) (fun hc50=>?_) (fun hc50=>?_)
    ·cases hc50
    ·refine bW aC 2 [(5,(bN (bQ.k_words y5))),(7,(bN (bQ.k_number y42))),(49,(aD true))] ?_;refine mX (true) (fun hc51=>?_) (fun hc51=>?_)
     ·refine bW aC 1 [(4,(eI 1))] ?_;refine bI ?_;obtain rfl:=oI h0;exact aG (bG (aT (Q_r hO)))
     ·cases hc51
  ·replace h0:(cond ((!x1_1)||(!x39_1)) (some (0:Int)) ((oB y5 y43).bind fun x56=>some x56))=some r:=h0;refine bA ?_;refine bP [3] [(7,(bN (bQ.k_words y43))),(8,(aD x39_1))] ?_;refine aP ?_;refine aX aC 6 [6,8] [(28,(aD ((!x1_1)||(!x39_1))))] ?_;refine bL h0 (fun h0=>?_) (fun h0=>?_)
   ·refine bW aC 1 [(4,(eI 0))] ?_;refine bI ?_;obtain rfl:=oI h0;exact aG (aT (Q_r hO))
   refine bM ?_;refine bD [(5,(bN (bQ.k_words y5))),(7,(bN (bQ.k_words y43)))] ?_;refine aX aC 7 [] [(9,(eI 0)),(10,(aD false))] ?_;refine aX aC 7 [] [(11,(eI 0)),(12,(aD false))] ?_;refine aP ?_;refine bX 0 ?_;refine aX aC 5 [] [(39,(aD false))] ?_;refine mX (false) (fun hc53=>?_) (fun hc53=>?_)
   ·cases hc53
   ·refine aX aC 2 [9,10,11,39] [(47,(aD false))] ?_;refine mX (false) (fun hc54=>?_) (fun hc54=>?_)
    ·cases hc54
    ·refine bW aC 2 [(5,(bN (bQ.k_words y5))),(7,(bN (bQ.k_words y43))),(49,(aD false))] ?_;refine mX (false) (fun hc55=>?_) (fun hc55=>?_)
     ·cases hc55
     ·refine bM ?_;refine dP [(5,(bN (bQ.k_words y5))),(7,(bN (bQ.k_words y43)))] ?_;refine aG (aV (aH (?_)));refine aP ?_;refine fS (fQ []) aC 6 ?_;refine kJ 4 ?_;obtain⟨x56,hx57,h0⟩:=aW h0;refine BQ (MS y5 y43 _ hx57) hO ?_;intro H hO;refine jK ?_;refine bD [(4,(eI x56))] ?_;refine bI ?_;obtain rfl:=oI h0;exact aG (Q_r hO)

theorem VS (a0:(List aI))(b1:(List aI))(r:Int)(h0:vH a0 b1=some r):dB Tryz.prog 98 [(eL aJ a0),(eL aJ b1)] (eI r):=by
 intro H0;refine cY Tryz.func98 ?_;have hO:=aN.start H0;unfold vH at h0;refine aP ?_;refine aS aC 2 ?_;refine kW 1 (eL aJ b1) ?_;refine bA ?_;refine bP [1] [(3,(.rp (eL aJ b1)))] ?_;refine aP ?_;refine aP ?_;refine aS aC 8 ?_;refine bH 1 ?_;obtain⟨x1,hx2,h0⟩:=aW h0;refine cW (JT a0 _ hx2) hO ?_;intro H hO;refine bH 5 ?_;obtain⟨x4,hx5,h0⟩:=aW h0;refine lQ [(10,false)] 97 [(eL aJ b1)] (aD x4) (!(!x1)) (by kernel_rfl) (by kernel_rfl) (by kernel_rfl) (fun hb6=>(JT b1 _ (iC hx5 hb6))) hO ?_;intro H hO;refine bA ?_;refine bP [] [(14,(aD ((!x1)||(!x4))))] ?_;refine bL h0 (fun h0=>?_) (fun h0=>?_)
 ·refine bW aC 1 [(4,(eI 0))] ?_;refine bI ?_;obtain rfl:=oI h0;exact aG (aT (Q_r hO))
 refine bM ?_;refine bD [(0,(eL aJ a0)),(3,(.rp (eL aJ b1)))] ?_;refine aX aC 6 [] [(5,(eI (if (lN b1)<(lN a0) then (lN b1) else (lN a0))))] ?_;refine aP ?_;refine fS (fQ []) aC 7 ?_;obtain⟨c8,h0⟩:=bB h0;refine cJ 4 [0<=(if (lN b1)<(lN a0) then (lN b1) else (lN a0))/\(if (lN b1)<(lN a0) then (lN b1) else (lN a0))<=(lN a0)] ⟨c8,trivial⟩ ?_;obtain⟨x9,hx10,h0⟩:=aW h0;refine aFZ (L':=fun lo11=>[(lo11,1,[(eI x9.1)])]) 1 [(eI x9.1)] 120 [(.rp (eL aJ b1))] (fun lo11=>(.fn (.func 121) [] [(.lp lo11 0 0),(.rp (eL aJ x9.2))])) (by kernel_rfl) (by kernel_rfl) (RL b1 _ hx10) hO (fun _=>by kernel_rfl) ?_;intro lo11 H hO;obtain⟨x12,hx13,h0⟩:=aW h0;refine aFH (fun st G'=>G'=up [(lo11,1,[(eI st)])]++[]) [(lo11,1,[(eI x12.1)])] x9.1 x12.1 119 [(.sl false (Int.toNat (if (lN b1)<(lN a0) then (lN b1) else (lN a0))) (fun i=>aJ (List.getD a0 i default))),(.fn (.func 121) [] [(.lp lo11 0 0),(.rp (eL aJ x9.2))])] (eI x12.2) (by kernel_rfl) (by kernel_rfl) (yD.sub (as0':=[(eL aJ (List.take (Int.toNat (if (lN b1)<(lN a0) then (lN b1) else (lN a0))) a0)),(.fn (.func 121) [] [(.lp lo11 0 0),(.rp (eL aJ x9.2))])]) (wE _ (List.take (Int.toNat (if (lN b1)<(lN a0) then (lN b1) else (lN a0))) a0) (.fn (.func 121) [] [(.lp lo11 0 0),(.rp (eL aJ x9.2))]) (fun st y0=>(kV y0 st x9.2).bind fun o=>some (o.2,o.1)) (fun st y0 st2 rr hr=>(MT y0 lo11 st x9.2 _ (aGJ hr)).toV (ys:=[]) (zs:=[(aJ y0)]) (cs:=[(.lp lo11 0 0),(.rp (eL aJ x9.2))]) (fun Gx hG=>⟨up [],up []++[],hG,rfl⟩)) _ _ hx13) ⟨aBj (Int.toNat_le.2 (And.right c8)),aR.refl _,trivial⟩) hO rfl (fun _ h=>h) ?_;intro H hO;refine jK ?_;replace hO:=hO.pick (L':=[]) [] (by decide) (by kernel_rfl);refine bP [5] [(6,(eI x12.2))] ?_;refine aP ?_;refine aX aC 2 [] [(27,(aD (decide (x12.2<(0:Int)))))] ?_;refine bL h0 (fun h0=>?_) (fun h0=>?_)
 ·refine aP ?_;refine aS aC 6 ?_;refine bH 4 ?_;obtain⟨x15,hx16,h0⟩:=aW h0;refine cW (MR (lN a0) (lN b1) _ hx16) hO ?_;intro H hO;refine bA ?_;refine bD [(4,(eI x15))] ?_;refine bI ?_;obtain rfl:=oI h0;exact aG (aT (Q_r hO))
 refine bM ?_;refine bD [(0,(eL aJ a0)),(3,(.rp (eL aJ b1))),(6,(eI x12.2))] ?_;refine aP ?_;refine fS (fQ [36,37,40,41]) aC 10 ?_;obtain⟨c18,h0⟩:=bB h0;obtain⟨c19,h0⟩:=bB h0;refine cJ 8 [0<=x12.2/\x12.2<(lN a0),0<=x12.2/\x12.2<(lN b1)] ⟨c18,c19,trivial⟩ ?_;obtain⟨x20,hx21,h0⟩:=aW h0;refine BQ (RP (gD a0 x12.2) (gD b1 x12.2) _ hx21) hO ?_;intro H hO;refine jK ?_;refine bD [(4,(eI x20))] ?_;refine bI ?_;obtain rfl:=oI h0;exact aG (Q_r hO)

theorem NC (l0:(List aF))(holds1_f:Nat)(holds1_a holds1_c:List V)(wW:(List aB)->Option Bool)(holds1_h:∀ a0 r,wW a0=some r->dB Tryz.prog holds1_f (holds1_a++[(eL aL a0)]++holds1_c) (aD r))(r:Bool)(h0:vY l0 wW=some r):dB Tryz.prog 72 [(eL aE l0),(.fn (.func holds1_f) holds1_a holds1_c)] (aD r):=by
 intro H0;refine AA aC Tryz.func72 (by kernel_rfl) (by kernel_rfl) (by kernel_rfl) ?_;have hO:=aN.start H0;unfold vY at h0;refine aP ?_;refine aS aC 2 ?_;refine kW 1 (.fn (.func holds1_f) holds1_a holds1_c) ?_;refine kM 1 (aD false) (by kernel_rfl) (by kernel_rfl) hO ?_;intro lo1 H hO;refine dA ?_;refine bP [1] [(3,(.rp (.fn (.func holds1_f) holds1_a holds1_c))),(4,(.lp lo1 0 0))] ?_;refine aP ?_;refine aX aC 3 [] [(11,(aD (decide ((4096:Int)<(lN l0)))))] ?_;refine bL h0 (fun h0=>?_) (fun h0=>?_)
 ·refine aP ?_;refine aS aC 1 ?_;refine gL 0 lo1 1 0 (aD false) (aD false) [(aD false)] [(lo1,1,[(aD false)])] hO rfl (by kernel_rfl) ?_;intro H hO;refine dA ?_;refine bD [(4,(.lp lo1 0 0))] ?_;refine bI ?_;obtain rfl:=oI h0;exact aG (aT (QM0 (.inr rfl) (rs:=[.cell 4 4]) (xs:=[(aD false)]) (x:=(aD false)) (by kernel_rfl) (lR (lo:=lo1) (k:=1) (y:=(aD false)) (x:=(aD false)) 0 hO (by kernel_rfl) (by kernel_rfl) (by kernel_rfl) (by kernel_rfl) nD) (by kernel_rfl) ⟨rfl,hO.out⟩))
 refine bM ?_;refine bD [(0,(eL aE l0)),(3,(.rp (.fn (.func holds1_f) holds1_a holds1_c))),(4,(.lp lo1 0 0))] ?_;refine aP ?_;refine aS aC 1 ?_;refine nU 1 (.sl true 0 (fun _=>.bad)) (eL aJ ([])) (by kernel_rfl) (by kernel_rfl) (by kernel_rfl) (eT) (by kernel_rfl) (by kernel_rfl) hO ?_;intro lo3 H hO;refine dA ?_;refine bP [] [(5,(.lp lo3 0 0))] ?_;refine aP ?_;refine aS aC 2 ?_;refine kM 1 (aD false) (by kernel_rfl) (by kernel_rfl) hO ?_;intro lo4 H hO;refine gL 2 lo4 1 0 (aD false) (aD false) [(aD false)] [(lo1,1,[(aD false)]),(lo3,1,[(eL aJ ([]))]),(lo4,1,[(aD false)])] hO rfl (by kernel_rfl) ?_;intro H hO;refine dA ?_;refine bP [] [(6,(.lp lo4 0 0))] ?_;refine aP ?_;refine aP ?_;refine aS aC 2 ?_;refine bH 1 ?_;obtain⟨x5,hx6,h0⟩:=aW h0;refine cW (GZ l0 _ hx6) hO ?_;intro H hO;refine dA ?_;refine bP [0] [(13,(.fn (.func 103) [] [(.rp (eL aE x5))]))] ?_;refine bX 0 ?_;refine eC [(3,(.rp (.fn (.func holds1_f) holds1_a holds1_c))),(4,(.lp lo1 0 0)),(5,(.lp lo3 0 0)),(6,(.lp lo4 0 0)),(13,(.fn (.func 103) [] [(.rp (eL aE x5))]))] ?_;refine eD (fun T H=>∃ t4:Bool,∃ qL:(List aI),∃ lB:Bool,∃ mG:(List aF),Has T [(3,(.rp (.fn (.func holds1_f) holds1_a holds1_c))),(4,(.lp lo1 0 0)),(5,(.lp lo3 0 0)),(6,(.lp lo4 0 0)),(13,(.fn (.func 103) [] [(.rp (eL aE mG))]))]/\aN ⟨H0,[],[]⟩ H [(lo1,1,[(aD t4)]),(lo3,1,[(eL aJ qL)]),(lo4,1,[(aD lB)])]/\AE wW t4 qL lB mG=some r) ?_ ⟨false,[],false,x5,aZ,hO,h0⟩;clear hO h0;rintro T H ⟨t4,qL,lB,mG,hT,hO,h0⟩;refine bF (l:=[(3,(.rp (.fn (.func holds1_f) holds1_a holds1_c))),(4,(.lp lo1 0 0)),(5,(.lp lo3 0 0)),(6,(.lp lo4 0 0)),(13,(.fn (.func 103) [] [(.rp (eL aE mG))]))]) hT ?_;clear hT;unfold AE at h0;obtain⟨o0,hl0,h0⟩:=aW h0;refine xR (fid:=103) (ys:=[]) (cs:=[(.rp (eL aE mG))]) #[14,15] (fun (A:sP) (b lL:Nat) (st:(Bool×(List aI)×Bool)⊕(Bool×(List aI)×Bool)) (G':Gs)=>Sum.elim (fun (s:Bool×(List aI)×Bool)=>G'=(lL,.raw (gQ b A .ready none))::(up [(lo1,1,[(aD s.1)]),(lo3,1,[(eL aJ s.2.1)]),(lo4,1,[(aD s.2.2)])]++[])) (fun (s:Bool×(List aI)×Bool)=>G'=(lL,.raw (gQ b A .done (some .ret)))::(up [(lo1,1,[(aD s.1)]),(lo3,1,[(eL aJ s.2.1)]),(lo4,1,[(aD s.2.2)])]++[])) st) (.inl (t4,qL,lB)) o0 (.tup []) (by kernel_rfl) (by kernel_rfl) (by kernel_rfl) hO (fun _ _=>rfl) ?_ ?_
 ·intro b lL;clear hO h0;refine BH _ b (fun st t14 t15=>rnd (fun (s:Bool×(List aI)×Bool)=>rA wW mG s.1 s.2.1 s.2.2 t14 t15) st) ?_ mG _ _ hl0;intro st t14 t15 out1 rr hr;obtain⟨s,rfl,h1,rfl⟩:=HX hr;clear hr;intro Hr Gr hi hg;obtain⟨t4,qL,lB⟩:=s;dsimp only [Sum.elim_inl] at hi;obtain rfl:=hi;replace h1:rA wW mG t4 qL lB t14 t15=some out1:=h1;unfold rA at h1;obtain⟨E1,hE,hO⟩:=oU hg;refine oW (uS (hO.gm 0 _ rfl).2 (by kernel_rfl) (by kernel_rfl) ?_);refine eC [(3,(.rp (.fn (.func holds1_f) holds1_a holds1_c))),(4,(.lp lo1 0 0)),(5,(.lp lo3 0 0)),(6,(.lp lo4 0 0)),(13,(.fn (.func 103) [] [(.rp (eL aE mG))])),(14,(eL aJ t14)),(15,(eL aL t15))] ?_;refine aX aC 1 [13,14] [(7,(eL aJ t14))] ?_;refine aS aC 1 ?_;refine bA ?_;refine dP [(3,(.rp (.fn (.func holds1_f) holds1_a holds1_c))),(4,(.lp lo1 0 0)),(5,(.lp lo3 0 0)),(6,(.lp lo4 0 0)),(7,(eL aJ t14)),(8,(eL aL t15))] ?_;refine aG (⟨rfl,rfl,(hO.gm 0 _ rfl).2,?_⟩);intro o1 ho1;replace hO:=hO.nM o1;refine bX 1 ?_;refine aP ?_;refine aP ?_;refine aS aC 18 ?_;refine bH 1 ?_;obtain⟨x7,hx8,h1⟩:=aW h1;refine cW (JT t14 _ hx8) hO ?_;intro H hO;refine bH 4 ?_;refine sC [(19,false)] 2 lo4 1 0 (aD lB) (aD lB) [(aD lB)] (by kernel_rfl) (by kernel_rfl) hO (by kernel_rfl) (!(!x7)) (by kernel_rfl) (fun hb10=>rfl) ?_;refine bH 6 ?_;refine sC [(21,true),(19,false)] 1 lo3 1 0 (eL aJ qL) (eL aJ qL) [(eL aJ qL)] (by kernel_rfl) (by kernel_rfl) hO (by kernel_rfl) (lB&&(!(!x7))) (by kernel_rfl) (fun hb11=>rfl) ?_;refine bH 8 ?_;obtain⟨x12,hx13,h1⟩:=aW h1;refine lQ [(21,true),(19,false)] 98 [(eL aJ qL),(eL aJ t14)] (eI x12) (lB&&(!(!x7))) (by kernel_rfl) (by kernel_rfl) (by kernel_rfl) (fun hb14=>(VS qL t14 _ (iC hx13 hb14))) hO ?_;intro H hO;refine bH 15 ?_;obtain⟨x15,hx16,h1⟩:=aW h1;refine lQ [(28,false)] holds1_f (holds1_a++[(eL aL t15)]++holds1_c) (aD x15) (!((!x7)||(lB&&(decide ((0:Int)<=x12))))) (by kernel_rfl) (by kernel_rfl) (by kernel_rfl) (fun hb17=>(holds1_h t15 _ (iC hx16 hb17))) hO ?_;intro H hO;refine bA ?_;refine bP [3,8] [(33,(aD (((!x7)||(lB&&(decide ((0:Int)<=x12))))||(!x15))))] ?_;refine bL h1 (fun h1=>?_) (fun h1=>?_)
  ·refine aP ?_;refine aS aC 1 ?_;refine gL 0 lo1 1 0 (aD t4) (aD false) [(aD t4)] [(lo1,1,[(aD false)]),(lo3,1,[(eL aJ qL)]),(lo4,1,[(aD lB)])] hO rfl (by kernel_rfl) ?_;intro H hO;refine dA ?_;refine bP [7,33] [] ?_;refine bI ?_;refine dP [(4,(.lp lo1 0 0)),(5,(.lp lo3 0 0)),(6,(.lp lo4 0 0))] ?_;obtain rfl:=oI h1;exact aG (aT (bG (⟨(dG hO hE ho1 .dead).1,rfl,_,rfl,(dG hO hE ho1 _).2⟩)))
  refine bM ?_;refine bD [(4,(.lp lo1 0 0)),(5,(.lp lo3 0 0)),(6,(.lp lo4 0 0)),(7,(eL aJ t14))] ?_;refine aS aC 3 ?_;refine bH 1 ?_;refine gL 1 lo3 1 0 (eL aJ qL) (eL aJ t14) [(eL aJ qL)] [(lo1,1,[(aD t4)]),(lo3,1,[(eL aJ t14)]),(lo4,1,[(aD lB)])] hO rfl (by kernel_rfl) ?_;intro H hO;refine gL 2 lo4 1 0 (aD lB) (aD true) [(aD lB)] [(lo1,1,[(aD t4)]),(lo3,1,[(eL aJ t14)]),(lo4,1,[(aD true)])] hO rfl (by kernel_rfl) ?_;intro H hO;refine dA ?_;refine dP [(4,(.lp lo1 0 0)),(5,(.lp lo3 0 0)),(6,(.lp lo4 0 0))] ?_;obtain rfl:=oI h1;exact aG (aV (⟨(dG hO hE ho1 .dead).1,rfl,_,rfl,(dG hO hE ho1 _).2⟩))
 ·intro b lD19 lL H' G' hi hO;rcases o0 with s | s
  ·dsimp only [Sum.elim_inl] at hi;obtain rfl:=hi;replace h0:(some true)=some r:=h0;obtain⟨hlL,hO⟩:=mH hO;refine⟨_,_,hlL,(by intro e; cases e),?_⟩;refine dP [(4,(.lp lo1 0 0))] ?_;replace hO:=hO.pick (L':=[(lo1,1,[(aD s.1)])]) [0] (by decide) (by kernel_rfl);refine aG (aV (aH (?_)));refine aP ?_;refine aS aC 1 ?_;refine gL 0 lo1 1 0 (aD s.1) (aD true) [(aD s.1)] [(lo1,1,[(aD true)])] hO rfl (by kernel_rfl) ?_;intro H hO;refine dA ?_;refine bD [(4,(.lp lo1 0 0))] ?_;refine bI ?_;obtain rfl:=oI h0;have hD:=(hO.gm 0 _ rfl).2;replace hO:=(hO.nM .dead).nV;exact aG (QM1 (.inr rfl) hD (rs:=[.cell 4 4]) (xs:=[(aD true)]) (x:=(aD true)) (by kernel_rfl) (lR (lo:=lo1) (k:=1) (y:=(aD true)) (x:=(aD true)) 0 hO (by kernel_rfl) (by kernel_rfl) (by kernel_rfl) (by kernel_rfl) nD) (by kernel_rfl) ⟨rfl,hO.out⟩)
  ·dsimp only [Sum.elim_inr] at hi;obtain rfl:=hi;replace h0:(some s.1)=some r:=h0;obtain⟨hlL,hO⟩:=mH hO;refine⟨_,_,hlL,(by intro e; cases e),?_⟩;refine bI ?_;replace hO:=hO.pick (L':=[(lo1,1,[(aD s.1)])]) [0] (by decide) (by kernel_rfl);obtain rfl:=oI h0;have hD:=(hO.gm 0 _ rfl).2;replace hO:=(hO.nM .dead).nV;exact aG (bG (aT (QM1 (.inr rfl) hD (rs:=[.cell 4 4]) (xs:=[(aD s.1)]) (x:=(aD s.1)) (by kernel_rfl) (lR (lo:=lo1) (k:=1) (y:=(aD s.1)) (x:=(aD s.1)) 0 hO (by kernel_rfl) (by kernel_rfl) (by kernel_rfl) (by kernel_rfl) nD) (by kernel_rfl) ⟨rfl,hO.out⟩)))

theorem aAD (n0:Int)(r:Bool)(h0:CH n0=some r):dB Tryz.prog 96 [(eI n0)] (aD r):=by
 intro H0;refine cY Tryz.func96 ?_;have hO:=aN.start H0;unfold CH at h0;refine aX aC 1 [] [] ?_;refine bW aC 7 [(2,(aD ((decide (n0<=(1048576:Int)))&&(decide ((-1048576:Int)<=n0)))))] ?_;refine bI ?_;obtain rfl:=oI h0;exact aG (Q_r hO)

theorem xV (f0:(List aB))(r:Bool)(h0:nS f0=some r):dB Tryz.prog 69 [(eL aL f0)] (aD r):=by
 intro H0;refine cY Tryz.func69 ?_;have hO:=aN.start H0;unfold nS at h0;refine aX aC 1 [] [] ?_;refine aP ?_;refine aX aC 3 [] [(8,(aD (decide ((1024:Int)<(lN f0)))))] ?_;refine bL h0 (fun h0=>?_) (fun h0=>?_)
 ·refine bW aC 1 [(2,(aD false))] ?_;refine bI ?_;obtain rfl:=oI h0;exact aG (aT (Q_r hO))
 refine bM ?_;refine bD [(0,(eL aL f0))] ?_;refine aX aC 1 [] [(3,(eI (-2:Int)))] ?_;refine eH (fun T H=>Has T []/\aN ⟨H0,[],[]⟩ H []/\yT  = some r) ?_ ?_
 ·clear hO h0;rintro T H ⟨hT,hO,h0⟩;refine bF hT ?_;clear hT;unfold yT at h0;refine bW aC 1 [(2,(aD true))] ?_;refine bI ?_;obtain rfl:=oI h0;exact aG (Q_r hO)
 refine aX aC 3 [0] [(9,(eL aL f0)),(10,(eI (lN f0))),(11,(eI 0))] ?_;refine bX 0 ?_;refine eC [(3,(eI (-2:Int))),(9,(eL aL f0)),(10,(eI (lN f0))),(11,(eI 0))] ?_;refine eD (fun T H=>∃ sZ:Int,∃ t9:(List aB),∃ t10:Int,∃ t11:Int,Has T [(3,(eI sZ)),(9,(eL aL t9)),(10,(eI t10)),(11,(eI t11))]/\aN ⟨H0,[],[]⟩ H []/\CB sZ t9 t10 t11=some r) ?_ ⟨(-2:Int),f0,(lN f0),(0:Int),aZ,hO,h0⟩;clear hO h0;rintro T H ⟨sZ,t9,t10,t11,hT,hO,h0⟩;refine bF hT ?_;clear hT;unfold CB at h0;obtain⟨rr0,hl0,h0⟩:=aW h0;refine iM (fun (s:Int×Int) T H=>Has T [(3,(eI s.1)),(9,(eL aL t9)),(10,(eI t10)),(11,(eI s.2))]/\aN ⟨H0,[],[]⟩ H []) hl0 ⟨aZ,hO⟩ ?_;clear hO;rintro k0 s out1 T H ⟨hT,hO⟩ h1 ho0;obtain⟨sZ,t11⟩:=s;replace h1:nN t9 t10 sZ t11=some out1:=h1
 try dsimp only at hT
 refine bF hT ?_;clear hT;unfold nN at h1;refine aX aC 1 [] [(12,(aD (decide (t11<t10))))] ?_;refine aP ?_;refine bL h1 (fun h1=>?_) (fun h1=>?_)
 ·refine bM ?_;refine bD [(3,(eI sZ)),(9,(eL aL t9)),(10,(eI t10)),(11,(eI t11))] ?_;refine aP ?_;refine bX 1 ?_;refine aP ?_;refine aS aC 4 ?_;obtain⟨c3,h1⟩:=bB h1;refine rR 2 [0<=t11/\t11<(lN t9)] ⟨c3,trivial⟩ ?_;refine kM 2 (aL (aB.mk 0 0)) (by kernel_rfl) (by kernel_rfl) hO ?_;intro lo4 H hO;refine gL 0 lo4 2 0 (aL (aB.mk 0 0)) (aL (gD t9 t11)) [(aL (aB.mk 0 0))] [(lo4,2,[(aL (gD t9 t11))])] hO rfl (by kernel_rfl) ?_;intro H hO;refine dA ?_;refine bP [] [(5,(.lp lo4 0 0))] ?_;refine aP ?_;refine aP ?_;refine aS aC 20 ?_;refine bH 1 ?_;refine iG 0 lo4 2 0 (aL (gD t9 t11)) (eI ((gD t9 t11).At)) [(aL (gD t9 t11))] hO rfl ?_;refine bH 6 ?_;refine sC [(19,false)] 0 lo4 2 0 (aL (gD t9 t11)) (eI ((gD t9 t11).At)) [(aL (gD t9 t11))] (by kernel_rfl) (by kernel_rfl) hO (by kernel_rfl) (!(decide (((gD t9 t11).At)<=sZ))) (by kernel_rfl) (fun hb5=>rfl) ?_;refine bH 11 ?_;refine sC [(24,false)] 0 lo4 2 0 (aL (gD t9 t11)) (eI ((gD t9 t11).Net)) [(aL (gD t9 t11))] (by kernel_rfl) (by kernel_rfl) hO (by kernel_rfl) (!((decide (((gD t9 t11).At)<=sZ))||(decide ((1125899906842624:Int)<=((gD t9 t11).At))))) (by kernel_rfl) (fun hb6=>rfl) ?_;refine bH 16 ?_;refine sC [(29,false)] 0 lo4 2 0 (aL (gD t9 t11)) (eI ((gD t9 t11).Net)) [(aL (gD t9 t11))] (by kernel_rfl) (by kernel_rfl) hO (by kernel_rfl) (!(((decide (((gD t9 t11).At)<=sZ))||(decide ((1125899906842624:Int)<=((gD t9 t11).At))))||(decide (((gD t9 t11).Net)=(0:Int))))) (by kernel_rfl) (fun hb7=>rfl) ?_;obtain⟨x8,hx9,h1⟩:=aW h1;refine lQ [(29,false)] 96 [(eI ((gD t9 t11).Net))] (aD x8) (!(((decide (((gD t9 t11).At)<=sZ))||(decide ((1125899906842624:Int)<=((gD t9 t11).At))))||(decide (((gD t9 t11).Net)=(0:Int))))) (by kernel_rfl) (by kernel_rfl) (by kernel_rfl) (fun hb10=>(aAD ((gD t9 t11).Net) _ (iC hx9 hb10))) hO ?_;intro H hO;refine bA ?_;refine bP [3] [(34,(aD ((((decide (((gD t9 t11).At)<=sZ))||(decide ((1125899906842624:Int)<=((gD t9 t11).At))))||(decide (((gD t9 t11).Net)=(0:Int))))||(!x8))))] ?_;refine bL h1 (fun h1=>?_) (fun h1=>?_)
  ·refine aP ?_;refine aS aC 1 ?_;refine bA ?_;refine dP [(2,(aD false))] ?_;replace hO:=hO.pick (L':=[]) [] (by decide) (by kernel_rfl);refine aG (aH (?_));refine bI ?_;obtain rfl:=oI h1;obtain rfl:_=rr0:=ho0;replace h0:some false=some r:=h0;obtain rfl:=oI h0;exact aG (aT (bG (aT (aT (bG (aT (Q_r hO)))))))
  refine bM ?_;refine bD [(5,(.lp lo4 0 0)),(9,(eL aL t9)),(10,(eI t10)),(11,(eI t11))] ?_;refine aS aC 3 ?_;refine bH 1 ?_;refine iG 0 lo4 2 0 (aL (gD t9 t11)) (eI ((gD t9 t11).At)) [(aL (gD t9 t11))] hO rfl ?_;refine bA ?_;refine dP [(3,(eI ((gD t9 t11).At))),(9,(eL aL t9)),(10,(eI t10)),(11,(eI t11))] ?_;replace hO:=hO.pick (L':=[]) [] (by decide) (by kernel_rfl);refine aG (aV (aH (?_)));refine aS aC 2 ?_;refine bA ?_;exact aG (aH (⟨rfl,_,(oI h1).symm,aZ,hO⟩))
 refine fP 0 ?_;obtain rfl:=oI h1;obtain rfl:_=rr0:=ho0;replace h0:yT  = some r:=h0;exact aG (aY (aY (bV (aH (⟨rfl,aZ,hO,h0⟩)))))

theorem xY (l0:(List aF))(r:Bool)(h0:oT l0=some r):dB Tryz.prog 38 [(eL aE l0)] (aD r):=by
 intro H0;refine cY Tryz.func38 ?_;have hO:=aN.start H0;unfold oT at h0;refine aX aC 1 [] [] ?_;refine aP ?_;refine aS aC 3 ?_;refine bH 1 ?_;obtain⟨x1,hx2,h0⟩:=aW h0;refine cW (NC l0 69 [] [] (fun y0=>nS y0) (fun y0 r h=>xV y0 r h) _ hx2) hO ?_;intro H hO;refine bA ?_;refine bD [(2,(aD x1))] ?_;refine bI ?_;obtain rfl:=oI h0;exact aG (Q_r hO)

theorem aAd (f0:(List aB))(r:Int)(h0:xN f0=some r):dB Tryz.prog 74 [(eL aL f0)] (eI r):=by
 intro H0;refine cY Tryz.func74 ?_;have hO:=aN.start H0;unfold xN at h0;refine aX aC 1 [] [] ?_;refine aP ?_;refine aP ?_;refine aS aC 8 ?_;refine bH 1 ?_;obtain⟨x1,hx2,h0⟩:=aW h0;refine cW (xV f0 _ hx2) hO ?_;intro H hO;refine bA ?_;refine bP [] [(14,(aD ((!x1)||(decide ((lN f0)=(0:Int))))))] ?_;refine bL h0 (fun h0=>?_) (fun h0=>?_)
 ·refine bW aC 1 [(2,(eI 0))] ?_;refine bI ?_;obtain rfl:=oI h0;exact aG (aT (Q_r hO))
 refine bM ?_;refine bD [(0,(eL aL f0))] ?_;refine aX aC 2 [] [(3,(eI 0)),(4,(eI 0))] ?_;refine eH (fun T H=>∃ v3:Int,∃ jA:Int,Has T [(0,(eL aL f0)),(3,(eI v3)),(4,(eI jA))]/\aN ⟨H0,[],[]⟩ H []/\rW f0 v3 jA=some r) ?_ ?_
 ·clear hO h0;rintro T H ⟨v3,jA,hT,hO,h0⟩;refine bF hT ?_;clear hT;unfold rW at h0;refine eH (fun T H=>∃ jA:Int,Has T [(4,(eI jA))]/\aN ⟨H0,[],[]⟩ H []/\vJ jA=some r) ?_ ?_
  ·clear hO h0;rintro T H ⟨jA,hT,hO,h0⟩;refine bF hT ?_;clear hT;unfold vJ at h0;refine bW aC 2 [(2,(eI jA))] ?_;refine bI ?_;obtain rfl:=oI h0;exact aG (Q_r hO)
  refine aX aC 3 [0] [(24,(eL aL f0)),(25,(eI (lN f0))),(26,(eI 0))] ?_;refine bX 0 ?_;refine eC [(3,(eI v3)),(4,(eI jA)),(24,(eL aL f0)),(25,(eI (lN f0))),(26,(eI 0))] ?_;refine eD (fun T H=>∃ v3:Int,∃ jA:Int,∃ t24:(List aB),∃ t25:Int,∃ t26:Int,Has T [(3,(eI v3)),(4,(eI jA)),(24,(eL aL t24)),(25,(eI t25)),(26,(eI t26))]/\aN ⟨H0,[],[]⟩ H []/\vC v3 jA t24 t25 t26=some r) ?_ ⟨v3,jA,f0,(lN f0),(0:Int),aZ,hO,h0⟩;clear hO h0;rintro T H ⟨v3,jA,t24,t25,t26,hT,hO,h0⟩;refine bF hT ?_;clear hT;unfold vC at h0;obtain⟨rr0,hl0,h0⟩:=aW h0;refine iM (fun (s:Int×Int×Int) T H=>Has T [(3,(eI s.1)),(4,(eI s.2.1)),(24,(eL aL t24)),(25,(eI t25)),(26,(eI s.2.2))]/\aN ⟨H0,[],[]⟩ H []) hl0 ⟨aZ,hO⟩ ?_;clear hO;rintro k0 s out1 T H ⟨hT,hO⟩ h1 ho0;obtain⟨v3,jA,t26⟩:=s;replace h1:oF t24 t25 v3 jA t26=some out1:=h1
  try dsimp only at hT
  refine bF hT ?_;clear hT;unfold oF at h1;refine aX aC 1 [] [(27,(aD (decide (t26<t25))))] ?_;refine aP ?_;refine bL h1 (fun h1=>?_) (fun h1=>?_)
  ·refine bM ?_;refine bD [(3,(eI v3)),(4,(eI jA)),(24,(eL aL t24)),(25,(eI t25)),(26,(eI t26))] ?_;refine aP ?_;refine bX 1 ?_;refine aP ?_;refine aS aC 4 ?_;obtain⟨c6,h1⟩:=bB h1;refine rR 2 [0<=t26/\t26<(lN t24)] ⟨c6,trivial⟩ ?_;refine kM 2 (aL (aB.mk 0 0)) (by kernel_rfl) (by kernel_rfl) hO ?_;intro lo7 H hO;refine gL 0 lo7 2 0 (aL (aB.mk 0 0)) (aL (gD t24 t26)) [(aL (aB.mk 0 0))] [(lo7,2,[(aL (gD t24 t26))])] hO rfl (by kernel_rfl) ?_;intro H hO;refine dA ?_;refine bP [] [(6,(.lp lo7 0 0))] ?_;refine aP ?_;refine aS aC 5 ?_;refine bH 2 ?_;refine iG 0 lo7 2 0 (aL (gD t24 t26)) (eI ((gD t24 t26).Net)) [(aL (gD t24 t26))] hO rfl ?_;refine bA ?_;replace hO:=hO.pick (L':=[]) [] (by decide) (by kernel_rfl);refine bP [3,6] [(3,(eI (wR (v3+((gD t24 t26).Net)))))] ?_;refine aS aC 4 ?_;refine bA ?_;refine dP [(3,(eI (wR (v3+((gD t24 t26).Net))))),(4,(eI (if (wR (v3+((gD t24 t26).Net)))<jA then (wR (v3+((gD t24 t26).Net))) else jA))),(24,(eL aL t24)),(25,(eI t25)),(26,(eI t26))] ?_;refine aG (aV (aH (?_)));refine aS aC 2 ?_;refine bA ?_;exact aG (aH (⟨rfl,_,(oI h1).symm,aZ,hO⟩))
  refine fP 0 ?_;obtain rfl:=oI h1;obtain rfl:_=rr0:=ho0;replace h0:vJ jA=some r:=h0;exact aG (aY (aY (bV (aH (⟨rfl,_,aZ,hO,h0⟩)))))
 refine aP ?_;refine aS aC 5 ?_;obtain⟨c8,h0⟩:=bB h0;refine qZ [0<=(0:Int)/\(0:Int)<(lN f0)] ⟨c8,trivial⟩ ?_;refine bP [] [(19,(aD (decide (((gD f0 (0:Int)).At)=(-1:Int)))))] ?_;refine bL h0 (fun h0=>?_) (fun h0=>?_)
 ·refine aS aC 5 ?_;obtain⟨c10,h0⟩:=bB h0;refine qZ [0<=(0:Int)/\(0:Int)<(lN f0)] ⟨c10,trivial⟩ ?_;exact aG (aH (⟨rfl,_,_,aZ,hO,h0⟩))
 refine bM ?_;exact aG (aH (⟨rfl,_,_,aZ,hO,h0⟩))

theorem TK (f0:(List aB))(r:Bool)(h0:tB f0=some r):dB Tryz.prog 73 [(eL aL f0)] (aD r):=by
 intro H0;refine cY Tryz.func73 ?_;have hO:=aN.start H0;unfold tB at h0;refine aX aC 1 [] [] ?_;refine aP ?_;refine aS aC 8 ?_;refine bH 1 ?_;obtain⟨x1,hx2,h0⟩:=aW h0;refine cW (xV f0 _ hx2) hO ?_;intro H hO;refine bH 4 ?_;obtain⟨x4,hx5,h0⟩:=aW h0;refine lQ [(5,true)] 74 [(eL aL f0)] (eI x4) x1 (by kernel_rfl) (by kernel_rfl) (by kernel_rfl) (fun hb6=>(aAd f0 _ (iC hx5 hb6))) hO ?_;intro H hO;refine bA ?_;refine bD [(2,(aD (x1&&(decide ((0:Int)<=x4)))))] ?_;refine bI ?_;obtain rfl:=oI h0;exact aG (Q_r hO)

theorem AS (l0:(List aF))(r:Bool)(h0:pH l0=some r):dB Tryz.prog 39 [(eL aE l0)] (aD r):=by
 intro H0;refine cY Tryz.func39 ?_;have hO:=aN.start H0;unfold pH at h0;refine aX aC 1 [] [] ?_;refine aP ?_;refine aS aC 3 ?_;refine bH 1 ?_;obtain⟨x1,hx2,h0⟩:=aW h0;refine cW (NC l0 73 [] [] (fun y0=>tB y0) (fun y0 r h=>TK y0 r h) _ hx2) hO ?_;intro H hO;refine bA ?_;refine bD [(2,(aD x1))] ?_;refine bI ?_;obtain rfl:=oI h0;exact aG (Q_r hO)

theorem HF (w0:bY)(l1:(List aF))(t2:Int)(r:Int)(h0:qT w0 l1 t2=some r):dB Tryz.prog 18 [(cQ w0),(eL aE l1),(eI t2)] (eI r):=by
 intro H0;refine cY Tryz.func18 ?_;have hO:=aN.start H0;unfold qT at h0;refine aP ?_;refine aS aC 2 ?_;refine kW 3 (cQ w0) ?_;refine bA ?_;refine bP [0] [(3,(.rp (cQ w0)))] ?_;refine aP ?_;refine bX 0 ?_;refine aP ?_;refine aS aC 9 ?_;refine bH 1 ?_;obtain⟨x1,hx2,h0⟩:=aW h0;refine cW (HA w0 _ hx2) hO ?_;intro H hO;refine bH 5 ?_;obtain⟨x4,hx5,h0⟩:=aW h0;refine lQ [(11,false)] 38 [(eL aE l1)] (aD x4) (!(!decide (x1=(0:Int)))) (by kernel_rfl) (by kernel_rfl) (by kernel_rfl) (fun hb6=>(xY l1 _ (iC hx5 hb6))) hO ?_;intro H hO;refine bA ?_;refine bP [3] [(7,(aD ((!decide (x1=(0:Int)))||(!x4))))] ?_;refine bL h0 (fun h0=>?_) (fun h0=>?_)
 ·refine bW aC 1 [(6,(eI 2))] ?_;refine bI ?_;obtain rfl:=oI h0;exact aG (bG (aT (Q_r hO)))
 refine aP ?_;refine aS aC 4 ?_;refine bH 1 ?_;obtain⟨x8,hx9,h0⟩:=aW h0;refine cW (AS l1 _ hx9) hO ?_;intro H hO;refine bA ?_;refine bD [(2,(eI t2)),(16,(aD (!x8)))] ?_;refine bL h0 (fun h0=>?_) (fun h0=>?_)
 ·refine bW aC 1 [(6,(eI 20))] ?_;refine bI ?_;obtain rfl:=oI h0;exact aG (bG (aT (Q_r hO)))
 refine bW aC 7 [(20,(aD ((decide (t2<(0:Int)))||(decide ((1125899906842624:Int)<t2)))))] ?_;refine bL h0 (fun h0=>?_) (fun h0=>?_)
 ·refine bW aC 1 [(6,(eI 13))] ?_;refine bI ?_;obtain rfl:=oI h0;exact aG (bG (aT (Q_r hO)))
 refine bM ?_;refine dP [] ?_;refine aG (aV (aH (?_)));refine bW aC 1 [(6,(eI 0))] ?_;refine bI ?_;obtain rfl:=oI h0;exact aG (Q_r hO)

theorem VL (mZ:Int)(hop1:Int)(r:Bool)(h0:AB mZ hop1=some r):dB Tryz.prog 40 [(eI mZ),(eI hop1)] (aD r):=by
 intro H0;refine cY Tryz.func40 ?_;have hO:=aN.start H0;unfold AB at h0;refine aX aC 1 [] [] ?_;refine bW aC 15 [(4,(aD ((((decide ((1:Int)<=mZ))&&(decide (mZ<=(1099511627776:Int))))&&(decide ((1:Int)<=hop1)))&&(decide (hop1<=(1099511627776:Int))))))] ?_;refine bI ?_;obtain rfl:=oI h0;exact aG (Q_r hO)

theorem JG (t0:Int)(r:Bool)(h0:uO t0=some r):dB Tryz.prog 41 [(eI t0)] (aD r):=by
 intro H0;refine cY Tryz.func41 ?_;have hO:=aN.start H0;unfold uO at h0;refine aX aC 1 [] [] ?_;refine bW aC 7 [(2,(aD ((decide ((0:Int)<=t0))&&(decide (t0<=(1125899906842624:Int))))))] ?_;refine bI ?_;obtain rfl:=oI h0;exact aG (Q_r hO)

theorem aAG (a0:Int)(b1:Int)(r:(Int×Int×Int))(h0:yR a0 b1=some r):dB Tryz.prog 75 [(eI a0),(eI b1)] (.tup [(eI r.1),(eI r.2.1),(eI r.2.2)]):=by
 intro H0;refine cY Tryz.func75 ?_;have hO:=aN.start H0;unfold yR at h0;refine aX aC 3 [] [] ?_;refine aP ?_;refine aX aC 2 [] [(10,(aD (decide (b1<(1:Int)))))] ?_;refine bL h0 (fun h0=>?_) (fun h0=>?_)
 ·refine bW aC 3 [(4,(eI 0)),(5,(eI 0)),(6,(eI 2))] ?_;refine bI ?_;obtain rfl:=oI h0;exact aG (aT (Q_r hO))
 refine bM ?_;refine bD [(0,(eI a0)),(1,(eI b1))] ?_;refine aP ?_;refine fS (fQ []) aC 8 ?_;obtain⟨c2,h0⟩:=bB h0;obtain⟨c3,h0⟩:=bB h0;refine RN (Ds:=[b1≠0,b1≠0]) (by kernel_rfl) ⟨c2,c3,trivial⟩ ?_;refine bP [0] [(7,(eI (wR (Int.tdiv a0 b1)))),(8,(eI (Int.tmod a0 b1)))] ?_;refine eH (fun T H=>∃ q7:Int,∃ r8:Int,Has T [(7,(eI q7)),(8,(eI r8))]/\aN ⟨H0,[],[]⟩ H []/\xK q7 r8=some r) ?_ ?_
 ·clear hO h0;rintro T H ⟨q7,r8,hT,hO,h0⟩;refine bF hT ?_;clear hT;unfold xK at h0;refine bW aC 5 [(4,(eI q7)),(5,(eI r8)),(6,(eI 0))] ?_;refine bI ?_;obtain rfl:=oI h0;exact aG (Q_r hO)
 refine aX aC 2 [] [(18,(aD (decide ((Int.tmod a0 b1)<(0:Int)))))] ?_;refine bL h0 (fun h0=>?_) (fun h0=>?_)
 ·refine aS aC 7 ?_;refine bA ?_;exact aG (aH (⟨rfl,_,_,aZ,hO,h0⟩))
 refine bM ?_;exact aG (aH (⟨rfl,_,_,aZ,hO,h0⟩))

theorem EO (hop0:Int)(n1:Int)(r:Int)(h0:rD hop0 n1=some r):dB Tryz.prog 42 [(eI hop0),(eI n1)] (eI r):=by
 intro H0;refine cY Tryz.func42 ?_;have hO:=aN.start H0;unfold rD at h0;refine aX aC 1 [] [] ?_;refine aP ?_;refine aX aC 2 [] [(9,(aD (decide (n1<(0:Int)))))] ?_;refine bL h0 (fun h0=>?_) (fun h0=>?_)
 ·refine bW aC 1 [(4,(eI 0))] ?_;refine bI ?_;obtain rfl:=oI h0;exact aG (aT (Q_r hO))
 refine bM ?_;refine bD [(0,(eI hop0)),(1,(eI n1))] ?_;refine aP ?_;refine aS aC 10 ?_;refine bH 2 ?_;obtain⟨x2,hx3,h0⟩:=aW h0;refine cW (aAG n1 hop0 _ hx3) hO ?_;intro H hO;refine bA ?_;refine bP [1] [(5,(eI x2.1))] ?_;refine bW aC 5 [(4,(eI (wR ((wR (x2.1+(1:Int)))*hop0))))] ?_;refine bI ?_;obtain rfl:=oI h0;exact aG (Q_r hO)

theorem aBY (mZ:Int)(hop1:Int)(t2:Int)(r:(Int×Int))(h0:AP mZ hop1 t2=some r):dB Tryz.prog 19 [(eI mZ),(eI hop1),(eI t2)] (.tup [(eI r.1),(eI r.2)]):=by
 intro H0;refine cY Tryz.func19 ?_;have hO:=aN.start H0;unfold AP at h0;refine aX aC 2 [] [] ?_;refine aP ?_;refine bX 0 ?_;refine aP ?_;refine aS aC 5 ?_;refine bH 2 ?_;obtain⟨x1,hx2,h0⟩:=aW h0;refine cW (VL mZ hop1 _ hx2) hO ?_;intro H hO;refine bA ?_;refine bP [] [(8,(aD (!x1)))] ?_;refine bL h0 (fun h0=>?_) (fun h0=>?_)
 ·refine bW aC 2 [(6,(eI 0)),(7,(eI 2))] ?_;refine bI ?_;obtain rfl:=oI h0;exact aG (bG (aT (Q_r hO)))
 refine aP ?_;refine aS aC 4 ?_;refine bH 1 ?_;obtain⟨x5,hx6,h0⟩:=aW h0;refine cW (JG t2 _ hx6) hO ?_;intro H hO;refine bA ?_;refine bP [8] [(13,(aD (!x5)))] ?_;refine bL h0 (fun h0=>?_) (fun h0=>?_)
 ·refine bW aC 2 [(6,(eI 0)),(7,(eI 13))] ?_;refine bI ?_;obtain rfl:=oI h0;exact aG (bG (aT (Q_r hO)))
 refine aX aC 3 [13] [(17,(aD (decide (t2=(1125899906842624:Int)))))] ?_;refine bL h0 (fun h0=>?_) (fun h0=>?_)
 ·refine bW aC 2 [(6,(eI 1125899906842624)),(7,(eI 0))] ?_;refine bI ?_;obtain rfl:=oI h0;exact aG (bG (aT (Q_r hO)))
 refine bM ?_;refine dP [(0,(eI mZ)),(1,(eI hop1)),(2,(eI t2))] ?_;refine aG (aV (aH (?_)));refine aP ?_;refine aS aC 8 ?_;refine bH 4 ?_;obtain⟨x10,hx11,h0⟩:=aW h0;refine cW (EO hop1 (wR (t2-mZ)) _ hx11) hO ?_;intro H hO;refine bA ?_;refine bD [(6,(eI (if (1125899906842624:Int)<x10 then (1125899906842624:Int) else x10))),(7,(eI 0))] ?_;refine bI ?_;obtain rfl:=oI h0;exact aG (Q_r hO)

theorem JW (l0:(List aF))(n1:Int)(r:Int)(h0:tJ l0 n1=some r):dB Tryz.prog 43 [(eL aE l0),(eI n1)] (eI r):=by
 intro H0;refine cY Tryz.func43 ?_;have hO:=aN.start H0;unfold tJ at h0;refine aX aC 1 [] [] ?_;refine aP ?_;refine bX 0 ?_;refine aP ?_;refine aS aC 12 ?_;refine bH 1 ?_;obtain⟨x1,hx2,h0⟩:=aW h0;refine cW (xY l0 _ hx2) hO ?_;intro H hO;refine bA ?_;refine bP [1] [(5,(aD (((!x1)||(decide (n1<(1:Int))))||(decide ((64:Int)<n1)))))] ?_;refine bL h0 (fun h0=>?_) (fun h0=>?_)
 ·refine bW aC 1 [(4,(eI 2))] ?_;refine bI ?_;obtain rfl:=oI h0;exact aG (bG (aT (Q_r hO)))
 refine aP ?_;refine aS aC 4 ?_;refine bH 1 ?_;obtain⟨x5,hx6,h0⟩:=aW h0;refine cW (AS l0 _ hx6) hO ?_;intro H hO;refine bA ?_;refine bD [(17,(aD (!x5)))] ?_;refine bL h0 (fun h0=>?_) (fun h0=>?_)
 ·refine bW aC 1 [(4,(eI 20))] ?_;refine bI ?_;obtain rfl:=oI h0;exact aG (bG (aT (Q_r hO)))
 refine bM ?_;refine dP [] ?_;refine aG (aV (aH (?_)));refine bW aC 1 [(4,(eI 0))] ?_;refine bI ?_;obtain rfl:=oI h0;exact aG (Q_r hO)

theorem HL (l0:(List aF))(r:(List aF))(h0:qR l0=some r):dB Tryz.prog 76 [(eL aE l0)] (.fn (.func 99) [] [(.rp (eL aE r))]):=by
 intro H0;refine cY Tryz.func76 ?_;have hO:=aN.start H0;unfold qR at h0;refine aP ?_;refine aS aC 2 ?_;refine kW 1 (eL aE l0) ?_;refine bA ?_;refine bD [(1,(.rp (eL aE l0)))] ?_;refine bW aC 2 [(2,(.fn (.func 99) [] [(.rp (eL aE l0))]))] ?_;refine bI ?_;obtain rfl:=oI h0;exact aG (kC (x:=(.fn (.func 99) [] [(.rp (eL aE l0))])) (by kernel_rfl) (aR.refl _) ⟨rfl,hO.out⟩)

theorem CW {σ:Type}(I:σ->Gs->Prop)(yield0_b:Nat)(cH:σ->aF->Option (σ×Bool))(yield0_h:∀ st a0 st2 r,cH st a0=some (st2,r)->CA Tryz.prog (yv yield0_b) I st [(aE a0)] st2 (aD r))(t1:(List aF))(sg0:σ)(r:σ)(h0:nG cH t1 sg0=some r):yD Tryz.prog 99 I sg0 [(yv yield0_b),(.rp (eL aE t1))] r (.tup []):=by
 intro H0 G0 hI hg;refine cY Tryz.func99 ?_;obtain⟨G,hO,hI⟩:∃ G,aN ⟨H0,List.map (fun p:Nat×dN=>p.1) G0,G⟩ H0 []/\I sg0 G:=⟨G0,aN.EL hg,hI⟩;clear hg;unfold nG at h0;refine aX aC 3 [1] [(5,(eL aE t1)),(6,(eI (lN t1))),(7,(eI 0))] ?_;refine bX 0 ?_;refine eC [(0,(yv yield0_b)),(5,(eL aE t1)),(6,(eI (lN t1))),(7,(eI 0))] ?_;refine eD (fun T H=>∃ sg:σ,∃ t5:(List aF),∃ t6:Int,∃ t7:Int,∃ G:Gs,Has T [(0,(yv yield0_b)),(5,(eL aE t5)),(6,(eI t6)),(7,(eI t7))]/\aN ⟨H0,List.map (fun p:Nat×dN=>p.1) G0,G⟩ H []/\I sg G/\rM cH sg t5 t6 t7=some r) ?_ ⟨sg0,t1,(lN t1),(0:Int),G,aZ,hO,hI,h0⟩;clear hO hI h0;rintro T H ⟨sg,t5,t6,t7,G,hT,hO,hI,h0⟩;refine bF hT ?_;clear hT;unfold rM at h0;obtain⟨rr0,hl0,h0⟩:=aW h0;refine iM (fun (s:σ×Int) T H=>∃ G:Gs,Has T [(0,(yv yield0_b)),(5,(eL aE t5)),(6,(eI t6)),(7,(eI s.2))]/\aN ⟨H0,List.map (fun p:Nat×dN=>p.1) G0,G⟩ H []/\I s.1 G) hl0 ⟨G,aZ,hO,hI⟩ ?_;clear hO hI;rintro k0 s out1 T H ⟨G,hT,hO,hI⟩ h1 ho0;obtain⟨sg,t7⟩:=s;replace h1:kX cH t5 t6 sg t7=some out1:=h1
 try dsimp only at hT
 refine bF hT ?_;clear hT;unfold kX at h1;refine aX aC 1 [] [(8,(aD (decide (t7<t6))))] ?_;refine aP ?_;refine bL h1 (fun h1=>?_) (fun h1=>?_)
 ·refine bM ?_;refine bD [(0,(yv yield0_b)),(5,(eL aE t5)),(6,(eI t6)),(7,(eI t7))] ?_;refine aP ?_;refine bX 1 ?_;refine aP ?_;refine aS aC 4 ?_;obtain⟨c2,h1⟩:=bB h1;refine rR 2 [0<=t7/\t7<(lN t5)] ⟨c2,trivial⟩ ?_;refine nU 3 (.agg [(.sl true 0 (fun _=>.bad)),(eI 0),(eI 0)]) (aE (aF.mk ([]) 0 0)) (by kernel_rfl) (by kernel_rfl) (by kernel_rfl) (xO (xs:=[(.sl true 0 (fun _=>.bad)),(eI 0),(eI 0)]) (ys:=[(eL aJ ([])),(eI 0),(eI 0)]) ⟨eT,aR.refl _,aR.refl _,trivial⟩) (by kernel_rfl) (by kernel_rfl) hO ?_;intro lo3 H hO;refine gL 0 lo3 3 0 (aE (aF.mk ([]) 0 0)) (aE (gD t5 t7)) [(aE (aF.mk ([]) 0 0))] [(lo3,3,[(aE (gD t5 t7))])] hO rfl (by kernel_rfl) ?_;intro H hO;refine dA ?_;refine bP [] [(4,(.lp lo3 0 0))] ?_;refine aP ?_;refine aS aC 14 ?_;refine bH 1 ?_;refine iG 0 lo3 3 0 (aE (gD t5 t7)) (eI ((gD t5 t7).Net)) [(aE (gD t5 t7))] hO rfl ?_;refine bH 5 ?_;refine sC [(14,true)] 0 lo3 3 0 (aE (gD t5 t7)) (eI ((gD t5 t7).At)) [(aE (gD t5 t7))] (by kernel_rfl) (by kernel_rfl) hO (by kernel_rfl) (decide ((0:Int)<((gD t5 t7).Net))) (by kernel_rfl) (fun hb4=>rfl) ?_;refine bH 10 ?_;refine sC [(19,true)] 0 lo3 3 0 (aE (gD t5 t7)) (aE (gD t5 t7)) [(aE (gD t5 t7))] (by kernel_rfl) (by kernel_rfl) hO (by kernel_rfl) ((decide ((0:Int)<((gD t5 t7).Net)))&&(decide ((-1:Int)<((gD t5 t7).At)))) (by kernel_rfl) (fun hb5=>rfl) ?_;obtain⟨⟨x8,x9⟩,hx7,h1⟩:=aW h1;replace hx7:=aAZ hx7;refine XR (I:=I) [(19,true)] ((decide ((0:Int)<((gD t5 t7).Net)))&&(decide ((-1:Int)<((gD t5 t7).At)))) (yv yield0_b) [(aE (gD t5 t7))] (aD x9) ⟨fun hb=>yield0_h _ (gD t5 t7) x8 x9 (hx7.1 hb),hx7.2⟩ hO hI ?_;intro G H hO hI;refine bA ?_;replace hO:=hO.pick (L':=[]) [] (by decide) (by kernel_rfl);refine bP [4] [(24,(aD (((decide ((0:Int)<((gD t5 t7).Net)))&&(decide ((-1:Int)<((gD t5 t7).At))))&&(!x9))))] ?_;refine bL h1 (fun h1=>?_) (fun h1=>?_)
  ·refine bI ?_;obtain rfl:=oI h1;obtain rfl:_=rr0:=ho0;replace h0:some x8=some r:=h0;obtain rfl:=oI h0;exact aG (bG (aT (aT (bG (kC (x:=(.tup [])) (by kernel_rfl) (aR.refl _) ⟨rfl,G,hI,hO.zT⟩)))))
  refine bM ?_;refine dP [(0,(yv yield0_b)),(5,(eL aE t5)),(6,(eI t6)),(7,(eI t7))] ?_;refine aG (aV (aH (?_)));refine aS aC 2 ?_;refine bA ?_;exact aG (aH (⟨rfl,_,(oI h1).symm,_,aZ,hO,hI⟩))
 refine fP 0 ?_;obtain rfl:=oI h1;obtain rfl:_=rr0:=ho0;replace h0:some sg=some r:=h0;obtain rfl:=oI h0;exact aG (aY (aY (bV (zA (x:=(.tup [])) (by kernel_rfl) (aR.refl _) ⟨rfl,G,hI,hO.zT⟩))))

theorem MU (x0:Int)(r:Int)(h0:qC x0=some r):dB Tryz.prog 115 [(cT .u64 x0)] (eI r):=by
 intro H0;refine cY Tryz.func115 ?_;have hO:=aN.start H0;unfold qC at h0;refine aX aC 1 [] [(2,(eI 0))] ?_;refine eH (fun T H=>∃ x0:Int,∃ n2:Int,Has T [(0,(cT .u64 x0)),(2,(eI n2))]/\aN ⟨H0,[],[]⟩ H []/\lZ x0 n2=some r) ?_ ?_
 ·clear hO h0;rintro T H ⟨x0,n2,hT,hO,h0⟩;refine bF hT ?_;clear hT;unfold lZ at h0;refine eH (fun T H=>∃ x0:Int,∃ n2:Int,Has T [(0,(cT .u64 x0)),(2,(eI n2))]/\aN ⟨H0,[],[]⟩ H []/\lV x0 n2=some r) ?_ ?_
  ·clear hO h0;rintro T H ⟨x0,n2,hT,hO,h0⟩;refine bF hT ?_;clear hT;unfold lV at h0;refine eH (fun T H=>∃ x0:Int,∃ n2:Int,Has T [(0,(cT .u64 x0)),(2,(eI n2))]/\aN ⟨H0,[],[]⟩ H []/\nH x0 n2=some r) ?_ ?_
   ·clear hO h0;rintro T H ⟨x0,n2,hT,hO,h0⟩;refine bF hT ?_;clear hT;unfold nH at h0;refine aP ?_;refine aS aC 7 ?_;obtain⟨c1,h0⟩:=bB h0;refine qZ [0<=(IntKind.u8.wrap x0)/\(IntKind.u8.wrap x0)<((ByteArray.size (⟨#[0,1,2,2,3,3,3,3,4,4,4,4,4,4,4,4,5,5,5,5,5,5,5,5,5,5,5,5,5,5,5,5,6,6,6,6,6,6,6,6,6,6,6,6,6,6,6,6,6,6,6,6,6,6,6,6,6,6,6,6,6,6,6,6,7,7,7,7,7,7,7,7,7,7,7,7,7,7,7,7,7,7,7,7,7,7,7,7,7,7,7,7,7,7,7,7,7,7,7,7,7,7,7,7,7,7,7,7,7,7,7,7,7,7,7,7,7,7,7,7,7,7,7,7,7,7,7,7,8,8,8,8,8,8,8,8,8,8,8,8,8,8,8,8,8,8,8,8,8,8,8,8,8,8,8,8,8,8,8,8,8,8,8,8,8,8,8,8,8,8,8,8,8,8,8,8,8,8,8,8,8,8,8,8,8,8,8,8,8,8,8,8,8,8,8,8,8,8,8,8,8,8,8,8,8,8,8,8,8,8,8,8,8,8,8,8,8,8,8,8,8,8,8,8,8,8,8,8,8,8,8,8,8,8,8,8,8,8,8,8,8,8,8,8,8,8,8,8,8,8,8,8,8,8,8,8]⟩:ByteArray):Nat):Int)] ⟨c1,trivial⟩ ?_;refine bD [(2,(eI (wR (n2+(wR (bt (⟨#[0,1,2,2,3,3,3,3,4,4,4,4,4,4,4,4,5,5,5,5,5,5,5,5,5,5,5,5,5,5,5,5,6,6,6,6,6,6,6,6,6,6,6,6,6,6,6,6,6,6,6,6,6,6,6,6,6,6,6,6,6,6,6,6,7,7,7,7,7,7,7,7,7,7,7,7,7,7,7,7,7,7,7,7,7,7,7,7,7,7,7,7,7,7,7,7,7,7,7,7,7,7,7,7,7,7,7,7,7,7,7,7,7,7,7,7,7,7,7,7,7,7,7,7,7,7,7,7,8,8,8,8,8,8,8,8,8,8,8,8,8,8,8,8,8,8,8,8,8,8,8,8,8,8,8,8,8,8,8,8,8,8,8,8,8,8,8,8,8,8,8,8,8,8,8,8,8,8,8,8,8,8,8,8,8,8,8,8,8,8,8,8,8,8,8,8,8,8,8,8,8,8,8,8,8,8,8,8,8,8,8,8,8,8,8,8,8,8,8,8,8,8,8,8,8,8,8,8,8,8,8,8,8,8,8,8,8,8,8,8,8,8,8,8,8,8,8,8,8,8,8,8,8,8,8,8]⟩:ByteArray) (IntKind.u8.wrap x0)))))))] ?_;refine bI ?_;obtain rfl:=oI h0;exact aG (Q_r hO)
   refine aX aC 2 [] [(14,(aD (decide ((256:Int)<=x0))))] ?_;refine bL h0 (fun h0=>?_) (fun h0=>?_)
   ·refine aP ?_;refine aS aC 3 ?_;obtain⟨c3,h0⟩:=bB h0;refine qZ [0<=(8:Int)] ⟨c3,trivial⟩ ?_;refine bD [(0,(cT .u64 (Int.fdiv x0 (2 ^ (min (Int.toNat (8:Int)) 64))))),(2,(eI n2))] ?_;refine aS aC 3 ?_;refine bA ?_;exact aG (aH (⟨rfl,_,_,aZ,hO,h0⟩))
   refine bM ?_;exact aG (aH (⟨rfl,_,_,aZ,hO,h0⟩))
  refine aX aC 2 [] [(8,(aD (decide ((65536:Int)<=x0))))] ?_;refine bL h0 (fun h0=>?_) (fun h0=>?_)
  ·refine aP ?_;refine aS aC 3 ?_;obtain⟨c5,h0⟩:=bB h0;refine qZ [0<=(16:Int)] ⟨c5,trivial⟩ ?_;refine bD [(0,(cT .u64 (Int.fdiv x0 (2 ^ (min (Int.toNat (16:Int)) 64))))),(2,(eI n2))] ?_;refine aS aC 3 ?_;refine bA ?_;exact aG (aH (⟨rfl,_,_,aZ,hO,h0⟩))
  refine bM ?_;exact aG (aH (⟨rfl,_,_,aZ,hO,h0⟩))
 refine aX aC 2 [] [(4,(aD (decide ((4294967296:Int)<=x0))))] ?_;refine bL h0 (fun h0=>?_) (fun h0=>?_)
 ·refine aP ?_;refine aS aC 3 ?_;obtain⟨c7,h0⟩:=bB h0;refine qZ [0<=(32:Int)] ⟨c7,trivial⟩ ?_;refine bD [(0,(cT .u64 (Int.fdiv x0 (2 ^ (min (Int.toNat (32:Int)) 64)))))] ?_;refine aS aC 1 ?_;refine bA ?_;exact aG (aH (⟨rfl,_,_,aZ,hO,h0⟩))
 refine bM ?_;exact aG (aH (⟨rfl,_,_,aZ,hO,h0⟩))

theorem GK (x0:Int)(r:Int)(h0:lM x0=some r):dB Tryz.prog 92 [(cT .u64 x0)] (eI r):=by
 intro H0;refine cY Tryz.func92 ?_;have hO:=aN.start H0;unfold lM at h0;refine aX aC 1 [] [] ?_;refine aP ?_;refine mX (false) (fun hc1=>?_) (fun hc1=>?_)
 ·cases hc1
 ·refine bM ?_;refine aG (aH ?_);refine aP ?_;refine aS aC 3 ?_;refine bH 1 ?_;obtain⟨x2,hx3,h0⟩:=aW h0;refine cW (MU x0 _ hx3) hO ?_;intro H hO;refine bA ?_;refine bD [(2,(eI x2))] ?_;refine bI ?_;obtain rfl:=oI h0;exact aG (Q_r hO)

theorem gF (x0:Int)(y1:Int)(r:Bool)(h0:dH x0 y1=some r):dB Tryz.prog 78 [(eI x0),(eI y1)] (aD r):=by
 intro H0;refine cY Tryz.func78 ?_;have hO:=aN.start H0;unfold dH at h0;refine aX aC 1 [] [] ?_;refine aP ?_;refine aS aC 13 ?_;refine bH 1 ?_;obtain⟨x1,hx2,h0⟩:=aW h0;refine cW (wN x0 _ hx2) hO ?_;intro H hO;refine bH 4 ?_;obtain⟨x4,hx5,h0⟩:=aW h0;refine lQ [(7,true)] 100 [(eI y1)] (aD x4) x1 (by kernel_rfl) (by kernel_rfl) (by kernel_rfl) (fun hb6=>(wN y1 _ (iC hx5 hb6))) hO ?_;intro H hO;refine bA ?_;refine bD [(4,(aD ((x1&&(!x4))||(decide (x0<y1)))))] ?_;refine bI ?_;obtain rfl:=oI h0;exact aG (Q_r hO)

theorem yS (lo0p:Nat)(aA:(List Int))(a1:Int)(b2:Int)(r:List Int)(h0:iL aA a1 b2=some r):rN Tryz.prog 106 lo0p 1 (List.map (eI) aA) (List.map (eI) r) [(.msl 1 lo0p 0 (List.length aA)),(eI a1),(eI b2)] (.tup []):=by
 intro H0 hl0;refine cY Tryz.func106 ?_;have hO:=aN.tO hl0;clear hl0;obtain⟨N0,hN0⟩:∃ n,n=List.length aA:=⟨_,rfl⟩;have hN:List.length aA=N0:=hN0.symm;unfold iL at h0;refine aX aC 3 [] [(6,(eI (wR (a1+(1:Int)))))] ?_;refine bX 0 ?_;refine eC [(0,(.msl 1 lo0p 0 (List.length aA))),(1,(eI a1)),(2,(eI b2)),(6,(eI (wR (a1+(1:Int)))))] ?_;refine eD (fun T H=>∃ aA:List Int,∃ i6:Int,Has T [(0,(.msl 1 lo0p 0 (List.length aA))),(1,(eI a1)),(2,(eI b2)),(6,(eI i6))]/\aN ⟨H0,[lo0p],[]⟩ H [(lo0p,1,List.map (eI) aA)]/\List.length aA=N0/\kA aA a1 b2 i6=some r) ?_ ⟨aA,wR (a1+(1:Int)),aZ,hO,hN,h0⟩;clear hO hN h0;rintro T H ⟨aA,i6,hT,hO,hN,h0⟩;refine bF hT ?_;clear hT;unfold kA at h0;obtain⟨rr0,hl0,h0⟩:=aW h0;refine iM (fun (s:List Int×Int) T H=>Has T [(0,(.msl 1 lo0p 0 (List.length s.1))),(1,(eI a1)),(2,(eI b2)),(6,(eI s.2))]/\aN ⟨H0,[lo0p],[]⟩ H [(lo0p,1,List.map (eI) s.1)]/\List.length s.1=N0) hl0 ⟨aZ,hO,hN⟩ ?_;clear hO hN;rintro k0 s out1 T H ⟨hT,hO,hN⟩ h1 ho0;obtain⟨aA,i6⟩:=s;replace h1:dU a1 b2 aA i6=some out1:=h1
 try dsimp only at hT
 refine bF hT ?_;clear hT;unfold dU at h1;refine aP ?_;refine aX aC 3 [] [(12,(aD (decide (i6<b2))))] ?_;refine bL h1 (fun h1=>?_) (fun h1=>?_)
 ·refine bM ?_;refine bD [(0,(.msl 1 lo0p 0 (List.length aA))),(1,(eI a1)),(2,(eI b2)),(6,(eI i6))] ?_;refine eH (fun T H=>∃ aA:List Int,Has T [(0,(.msl 1 lo0p 0 (List.length aA))),(1,(eI a1)),(2,(eI b2)),(6,(eI i6))]/\aN ⟨H0,[lo0p],[]⟩ H [(lo0p,1,List.map (eI) aA)]/\List.length aA=N0/\iA aA a1 b2 i6=some out1) ?_ ?_
  ·clear hO hN h1;rintro T H ⟨aA,hT,hO,hN,h1⟩;refine bF hT ?_;clear hT;unfold iA at h1;refine aS aC 3 ?_;refine bA ?_;exact aG (aH (⟨rfl,_,(oI h1).symm,aZ,hO,hN⟩))
  refine bX 1 ?_;refine aX aC 2 [] [(7,(eI i6))] ?_;refine bX 2 ?_;refine eC [(0,(.msl 1 lo0p 0 (List.length aA))),(1,(eI a1)),(2,(eI b2)),(6,(eI i6)),(7,(eI i6))] ?_;refine eD (fun T H=>∃ aA:List Int,∃ j7:Int,Has T [(0,(.msl 1 lo0p 0 (List.length aA))),(1,(eI a1)),(2,(eI b2)),(6,(eI i6)),(7,(eI j7))]/\aN ⟨H0,[lo0p],[]⟩ H [(lo0p,1,List.map (eI) aA)]/\List.length aA=N0/\jZ aA a1 b2 i6 j7=some out1) ?_ ⟨aA,i6,aZ,hO,hN,h1⟩;clear hO hN h1;rintro T H ⟨aA,j7,hT,hO,hN,h1⟩;refine bF hT ?_;clear hT;unfold jZ at h1;obtain⟨rr1,hl1,h1⟩:=aW h1;refine iM (fun (s:List Int×Int) T H=>Has T [(0,(.msl 1 lo0p 0 (List.length s.1))),(1,(eI a1)),(2,(eI b2)),(6,(eI i6)),(7,(eI s.2))]/\aN ⟨H0,[lo0p],[]⟩ H [(lo0p,1,List.map (eI) s.1)]/\List.length s.1=N0) hl1 ⟨aZ,hO,hN⟩ ?_;clear hO hN;rintro k1 s out2 T H ⟨hT,hO,hN⟩ h2 ho1;obtain⟨aA,j7⟩:=s;replace h2:fL a1 b2 i6 aA j7=some out2:=h2
  try dsimp only at hT
  refine bF hT ?_;clear hT;unfold fL at h2;refine aP ?_;refine aP ?_;obtain⟨c2,h2⟩:=bB h2;obtain⟨c3,h2⟩:=bB h2;obtain⟨x4,hx5,h2⟩:=aW h2;refine fS (fQ []) aC 15 ?_;refine qH (K:=fun T H=>Has (lift T) [(0,(.msl 1 lo0p 0 (List.length aA))),(1,(eI a1)),(2,(eI b2)),(6,(eI i6)),(7,(eI j7)),(30,(aD ((decide (a1<j7))&&x4)))]/\aN ⟨H0,[lo0p],[]⟩ H [(lo0p,1,List.map (eI) aA)]) ?_ ?_
  ·refine kJ 4 ?_;refine nZ (t:=19) (e:=decide (a1<j7)) (by kernel_rfl) (fun hg6=>?_) (fun hg6=>?_)
   ·refine cJ 7 [0<=j7/\j7<(lN aA)] ⟨(c2 hg6),trivial⟩ ?_;refine qA 0 lo0p 1 (0+Int.toNat j7) (eI (gD aA j7)) (eI (gD aA j7)) (List.map (eI) aA) hO (cA (c2 hg6)) ?_;refine cJ 12 [0<=(wR (j7-(1:Int)))/\(wR (j7-(1:Int)))<(lN aA)] ⟨(c3 hg6),trivial⟩ ?_;refine qA 0 lo0p 1 (0+Int.toNat (wR (j7-(1:Int)))) (eI (gD aA (wR (j7-(1:Int))))) (eI (gD aA (wR (j7-(1:Int))))) (List.map (eI) aA) hO (cA (c3 hg6)) ?_;refine oL 78 [(eI (gD aA j7)),(eI (gD aA (wR (j7-(1:Int)))))] (aD x4) (by kernel_rfl) (by kernel_rfl) (gF (gD aA j7) (gD aA (wR (j7-(1:Int)))) _ (iC hx5 hg6)) hO ?_;intro H hO;refine jK ?_;exact⟨⟨[(0,(.msl 1 lo0p 0 (List.length aA))),(1,(eI a1)),(2,(eI b2)),(6,(eI i6)),(7,(eI j7)),(30,(aD x4))],by kernel_rfl,rfl,⟨aR.refl _,aR.refl _,aR.refl _,aR.refl _,aR.refl _,aR.eq (congrArg aD (oH hg6 rfl).symm),trivial⟩⟩,hO⟩
   refine jK ?_;exact⟨⟨[(0,(.msl 1 lo0p 0 (List.length aA))),(1,(eI a1)),(2,(eI b2)),(6,(eI i6)),(7,(eI j7)),(30,(aD false))],by kernel_rfl,rfl,⟨aR.refl _,aR.refl _,aR.refl _,aR.refl _,aR.refl _,aR.eq (congrArg aD (oH hg6 rfl).symm),trivial⟩⟩,hO⟩
  ·rintro T H ⟨hT,hO⟩;refine dL hT ?_;clear hT;refine aG (aH ?_);refine bL h2 (fun h2=>?_) (fun h2=>?_)
   ·refine bM ?_;refine bD [(0,(.msl 1 lo0p 0 (List.length aA))),(1,(eI a1)),(2,(eI b2)),(6,(eI i6)),(7,(eI j7))] ?_;refine aP ?_;refine bX 3 ?_;refine fS (fQ []) aC 18 ?_;obtain⟨c8,h2⟩:=bB h2;refine cJ 9 [0<=(wR (j7-(1:Int)))/\(wR (j7-(1:Int)))<(lN aA)] ⟨c8,trivial⟩ ?_;refine gI 0 lo0p 1 (0+Int.toNat (wR (j7-(1:Int)))) (eI (gD aA (wR (j7-(1:Int))))) (eI (gD aA (wR (j7-(1:Int))))) (List.map (eI) aA) hO (cA c8) ?_;obtain⟨c9,h2⟩:=bB h2;refine cJ 13 [0<=j7/\j7<(lN aA)] ⟨c9,trivial⟩ ?_;refine gI 0 lo0p 1 (0+Int.toNat j7) (eI (gD aA j7)) (eI (gD aA j7)) (List.map (eI) aA) hO (cA c9) ?_;obtain⟨c10,h2⟩:=bB h2;refine cJ 15 [0<=j7/\j7<(lN aA)] ⟨c10,trivial⟩ ?_;refine kY 0 lo0p 1 (0+Int.toNat j7) (eI (gD aA j7)) (eI (gD aA (wR (j7-(1:Int))))) (List.map (eI) aA) [(lo0p,1,List.map (eI) (List.set aA (Int.toNat j7) (gD aA (wR (j7-(1:Int))))))] hO (cA c10) (by simp only [List.set,iI]) ?_;intro H hO;replace hN:List.length (List.set aA (Int.toNat j7) (gD aA (wR (j7-(1:Int)))))=N0:=by simpa using hN
    obtain⟨c11,h2⟩:=bB h2;refine cJ 17 [0<=(wR (j7-(1:Int)))/\(wR (j7-(1:Int)))<(lN aA)] ⟨c11,trivial⟩ ?_;refine kY 0 lo0p 1 (0+Int.toNat (wR (j7-(1:Int)))) (eI (gD (List.set aA (Int.toNat j7) (gD aA (wR (j7-(1:Int))))) (wR (j7-(1:Int))))) (eI (gD aA j7)) (List.map (eI) (List.set aA (Int.toNat j7) (gD aA (wR (j7-(1:Int)))))) [(lo0p,1,List.map (eI) (List.set (List.set aA (Int.toNat j7) (gD aA (wR (j7-(1:Int))))) (Int.toNat (wR (j7-(1:Int)))) (gD aA j7)))] hO (oO c11 (by simp [])) (by simp only [List.set,iI]) ?_;intro H hO;replace hN:List.length (List.set (List.set aA (Int.toNat j7) (gD aA (wR (j7-(1:Int))))) (Int.toNat (wR (j7-(1:Int)))) (gD aA j7))=N0:=by simpa using hN
    refine nW (by kernel_rfl) ?_;refine dL (l:=[(0,(.msl 1 lo0p 0 (List.length (List.set (List.set aA (Int.toNat j7) (gD aA (wR (j7-(1:Int))))) (Int.toNat (wR (j7-(1:Int)))) (gD aA j7))))),(1,(eI a1)),(2,(eI b2)),(6,(eI i6)),(7,(eI j7))]) ⟨[(0,(.msl 1 lo0p 0 (List.length aA))),(1,(eI a1)),(2,(eI b2)),(6,(eI i6)),(7,(eI j7))],by kernel_rfl,rfl,⟨aR.eq (by simp []),aR.refl _,aR.refl _,aR.refl _,aR.refl _,trivial⟩⟩ ?_;refine aG (aV (aH (?_)));refine aS aC 3 ?_;refine bA ?_;exact aG (aH (⟨rfl,_,(oI h2).symm,aZ,hO,hN⟩))
   refine fP 2 ?_;obtain rfl:=oI h2;obtain rfl:_=rr1:=ho1;replace h1:iA aA a1 b2 i6=some out1:=h1;exact aG (aY (aY (bV (aV (aH (⟨rfl,_,aZ,hO,hN,h1⟩))))))
 refine fP 0 ?_;obtain rfl:=oI h1;obtain rfl:_=rr0:=ho0;replace h0:some aA=some r:=h0;obtain rfl:=oI h0;exact aG (aY (aY (bV (zA (x:=(.tup [])) (by kernel_rfl) (aR.refl _) ⟨rfl,hO.ext,hO.at 0 (by kernel_rfl),by first | rfl | (simp only [List.length_map]; exact hN.trans hN0)⟩))))

theorem tR (lo0p:Nat)(aA:(List Int))(lo1:Int)(hi2:Int)(bO:Int)(r:List Int)(h0:fY aA lo1 hi2 bO=some r):rN Tryz.prog 124 lo0p 1 (List.map (eI) aA) (List.map (eI) r) [(.msl 1 lo0p 0 (List.length aA)),(eI lo1),(eI hi2),(eI bO)] (.tup []):=by
 intro H0 hl0;refine cY Tryz.func124 ?_;have hO:=aN.tO hl0;clear hl0;obtain⟨N0,hN0⟩:∃ n,n=List.length aA:=⟨_,rfl⟩;have hN:List.length aA=N0:=hN0.symm;unfold fY at h0;refine aX aC 2 [1] [(8,(eI lo1))] ?_;refine bX 0 ?_;refine eC [(0,(.msl 1 lo0p 0 (List.length aA))),(2,(eI hi2)),(3,(eI bO)),(8,(eI lo1))] ?_;refine eD (fun T H=>∃ aA:List Int,∃ cI:Int,Has T [(0,(.msl 1 lo0p 0 (List.length aA))),(2,(eI hi2)),(3,(eI bO)),(8,(eI cI))]/\aN ⟨H0,[lo0p],[]⟩ H [(lo0p,1,List.map (eI) aA)]/\List.length aA=N0/\lT aA hi2 bO cI=some r) ?_ ⟨aA,lo1,aZ,hO,hN,h0⟩;clear hO hN h0;rintro T H ⟨aA,cI,hT,hO,hN,h0⟩;refine bF hT ?_;clear hT;unfold lT at h0;obtain⟨rr0,hl0,h0⟩:=aW h0;refine iM (fun (s:List Int×Int) T H=>Has T [(0,(.msl 1 lo0p 0 (List.length s.1))),(2,(eI hi2)),(3,(eI bO)),(8,(eI s.2))]/\aN ⟨H0,[lo0p],[]⟩ H [(lo0p,1,List.map (eI) s.1)]/\List.length s.1=N0) hl0 ⟨aZ,hO,hN⟩ ?_;clear hO hN;rintro k0 s out1 T H ⟨hT,hO,hN⟩ h1 ho0;obtain⟨aA,cI⟩:=s;replace h1:dQ hi2 bO aA cI=some out1:=h1
 try dsimp only at hT
 refine bF hT ?_;clear hT;unfold dQ at h1;refine bX 1 ?_;refine aX aC 4 [] [(9,(eI (wR ((wR ((2:Int)*cI))+(1:Int)))))] ?_;refine aP ?_;refine aX aC 3 [] [(16,(aD (decide (hi2<=(wR ((wR ((2:Int)*cI))+(1:Int)))))))] ?_;refine bL h1 (fun h1=>?_) (fun h1=>?_)
 ·refine fP 0 ?_;obtain rfl:=oI h1;obtain rfl:_=rr0:=ho0;replace h0:some aA=some r:=h0;obtain rfl:=oI h0;exact aG (aY (sS (by kernel_rfl) (aY (bV (zA (x:=(.tup [])) (by kernel_rfl) (aR.refl _) ⟨rfl,hO.ext,hO.at 0 (by kernel_rfl),by first | rfl | (simp only [List.length_map]; exact hN.trans hN0)⟩)))))
 refine bM ?_;refine bD [(0,(.msl 1 lo0p 0 (List.length aA))),(2,(eI hi2)),(3,(eI bO)),(8,(eI cI)),(9,(eI (wR ((wR ((2:Int)*cI))+(1:Int)))))] ?_;refine eH (fun T H=>∃ aA:List Int,∃ eJ:Int,Has T [(0,(.msl 1 lo0p 0 (List.length aA))),(2,(eI hi2)),(3,(eI bO)),(8,(eI cI)),(9,(eI eJ))]/\aN ⟨H0,[lo0p],[]⟩ H [(lo0p,1,List.map (eI) aA)]/\List.length aA=N0/\iD aA hi2 bO cI eJ=some out1) ?_ ?_
 ·clear hO hN h1;rintro T H ⟨aA,eJ,hT,hO,hN,h1⟩;refine bF hT ?_;clear hT;unfold iD at h1;refine aP ?_;refine aP ?_;refine fS (fQ [51]) aC 14 ?_;obtain⟨c2,h1⟩:=bB h1;refine cJ 5 [0<=(wR (bO+cI))/\(wR (bO+cI))<(lN aA)] ⟨c2,trivial⟩ ?_;refine gI 0 lo0p 1 (0+Int.toNat (wR (bO+cI))) (eI (gD aA (wR (bO+cI)))) (eI (gD aA (wR (bO+cI)))) (List.map (eI) aA) hO (cA c2) ?_;obtain⟨c3,h1⟩:=bB h1;refine cJ 11 [0<=(wR (bO+eJ))/\(wR (bO+eJ))<(lN aA)] ⟨c3,trivial⟩ ?_;refine gI 0 lo0p 1 (0+Int.toNat (wR (bO+eJ))) (eI (gD aA (wR (bO+eJ)))) (eI (gD aA (wR (bO+eJ)))) (List.map (eI) aA) hO (cA c3) ?_;obtain⟨x4,hx5,h1⟩:=aW h1;refine BQ (gF (gD aA (wR (bO+cI))) (gD aA (wR (bO+eJ))) _ hx5) hO ?_;intro H hO;refine jK ?_;refine bP [] [(52,(aD (!x4)))] ?_;refine bL h1 (fun h1=>?_) (fun h1=>?_)
  ·refine bI ?_;obtain rfl:=oI h1;obtain rfl:_=rr0:=ho0;replace h0:some aA=some r:=h0;obtain rfl:=oI h0;exact aG (aT (bG (aT (bG (kC (x:=(.tup [])) (by kernel_rfl) (aR.refl _) ⟨rfl,hO.ext,hO.at 0 (by kernel_rfl),by first | rfl | (simp only [List.length_map]; exact hN.trans hN0)⟩)))))
  refine bM ?_;refine bD [(0,(.msl 1 lo0p 0 (List.length aA))),(2,(eI hi2)),(3,(eI bO)),(8,(eI cI)),(9,(eI eJ))] ?_;refine aP ?_;refine fS (fQ []) aC 24 ?_;obtain⟨c8,h1⟩:=bB h1;refine cJ 13 [0<=(wR (bO+eJ))/\(wR (bO+eJ))<(lN aA)] ⟨c8,trivial⟩ ?_;refine gI 0 lo0p 1 (0+Int.toNat (wR (bO+eJ))) (eI (gD aA (wR (bO+eJ)))) (eI (gD aA (wR (bO+eJ)))) (List.map (eI) aA) hO (cA c8) ?_;obtain⟨c9,h1⟩:=bB h1;refine cJ 19 [0<=(wR (bO+cI))/\(wR (bO+cI))<(lN aA)] ⟨c9,trivial⟩ ?_;refine gI 0 lo0p 1 (0+Int.toNat (wR (bO+cI))) (eI (gD aA (wR (bO+cI)))) (eI (gD aA (wR (bO+cI)))) (List.map (eI) aA) hO (cA c9) ?_;obtain⟨c10,h1⟩:=bB h1;refine cJ 21 [0<=(wR (bO+cI))/\(wR (bO+cI))<(lN aA)] ⟨c10,trivial⟩ ?_;refine kY 0 lo0p 1 (0+Int.toNat (wR (bO+cI))) (eI (gD aA (wR (bO+cI)))) (eI (gD aA (wR (bO+eJ)))) (List.map (eI) aA) [(lo0p,1,List.map (eI) (List.set aA (Int.toNat (wR (bO+cI))) (gD aA (wR (bO+eJ)))))] hO (cA c10) (by simp only [List.set,iI]) ?_;intro H hO;replace hN:List.length (List.set aA (Int.toNat (wR (bO+cI))) (gD aA (wR (bO+eJ))))=N0:=by simpa using hN
  obtain⟨c11,h1⟩:=bB h1;refine cJ 23 [0<=(wR (bO+eJ))/\(wR (bO+eJ))<(lN aA)] ⟨c11,trivial⟩ ?_;refine kY 0 lo0p 1 (0+Int.toNat (wR (bO+eJ))) (eI (gD (List.set aA (Int.toNat (wR (bO+cI))) (gD aA (wR (bO+eJ)))) (wR (bO+eJ)))) (eI (gD aA (wR (bO+cI)))) (List.map (eI) (List.set aA (Int.toNat (wR (bO+cI))) (gD aA (wR (bO+eJ))))) [(lo0p,1,List.map (eI) (List.set (List.set aA (Int.toNat (wR (bO+cI))) (gD aA (wR (bO+eJ)))) (Int.toNat (wR (bO+eJ))) (gD aA (wR (bO+cI)))))] hO (oO c11 (by simp [])) (by simp only [List.set,iI]) ?_;intro H hO;replace hN:List.length (List.set (List.set aA (Int.toNat (wR (bO+cI))) (gD aA (wR (bO+eJ)))) (Int.toNat (wR (bO+eJ))) (gD aA (wR (bO+cI))))=N0:=by simpa using hN
  refine nW (by kernel_rfl) ?_;refine dL (l:=[(0,(.msl 1 lo0p 0 (List.length (List.set (List.set aA (Int.toNat (wR (bO+cI))) (gD aA (wR (bO+eJ)))) (Int.toNat (wR (bO+eJ))) (gD aA (wR (bO+cI))))))),(2,(eI hi2)),(3,(eI bO)),(9,(eI eJ))]) ⟨[(0,(.msl 1 lo0p 0 (List.length aA))),(2,(eI hi2)),(3,(eI bO)),(9,(eI eJ))],by kernel_rfl,rfl,⟨aR.eq (by simp []),aR.refl _,aR.refl _,aR.refl _,trivial⟩⟩ ?_;refine aG (aH (?_));refine aS aC 2 ?_;refine bA ?_;exact aG (aV (aH (⟨rfl,_,(oI h1).symm,aZ,hO,hN⟩)))
 refine aP ?_;obtain⟨c12,h1⟩:=bB h1;obtain⟨c13,h1⟩:=bB h1;obtain⟨x14,hx15,h1⟩:=aW h1;refine fS (fQ []) aC 20 ?_;refine qH (K:=fun T H=>Has (lift T) [(0,(.msl 1 lo0p 0 (List.length aA))),(2,(eI hi2)),(3,(eI bO)),(8,(eI cI)),(9,(eI (wR ((wR ((2:Int)*cI))+(1:Int))))),(36,(aD ((decide ((wR ((wR ((wR ((2:Int)*cI))+(1:Int)))+(1:Int)))<hi2))&&x14)))]/\aN ⟨H0,[lo0p],[]⟩ H [(lo0p,1,List.map (eI) aA)]) ?_ ?_
 ·refine kJ 5 ?_;refine nZ (t:=21) (e:=decide ((wR ((wR ((wR ((2:Int)*cI))+(1:Int)))+(1:Int)))<hi2)) (by kernel_rfl) (fun hg16=>?_) (fun hg16=>?_)
  ·refine cJ 10 [0<=(wR (bO+(wR ((wR ((2:Int)*cI))+(1:Int)))))/\(wR (bO+(wR ((wR ((2:Int)*cI))+(1:Int)))))<(lN aA)] ⟨(c12 hg16),trivial⟩ ?_;refine qA 0 lo0p 1 (0+Int.toNat (wR (bO+(wR ((wR ((2:Int)*cI))+(1:Int)))))) (eI (gD aA (wR (bO+(wR ((wR ((2:Int)*cI))+(1:Int))))))) (eI (gD aA (wR (bO+(wR ((wR ((2:Int)*cI))+(1:Int))))))) (List.map (eI) aA) hO (cA (c12 hg16)) ?_;refine cJ 17 [0<=(wR ((wR (bO+(wR ((wR ((2:Int)*cI))+(1:Int)))))+(1:Int)))/\(wR ((wR (bO+(wR ((wR ((2:Int)*cI))+(1:Int)))))+(1:Int)))<(lN aA)] ⟨(c13 hg16),trivial⟩ ?_;refine qA 0 lo0p 1 (0+Int.toNat (wR ((wR (bO+(wR ((wR ((2:Int)*cI))+(1:Int)))))+(1:Int)))) (eI (gD aA (wR ((wR (bO+(wR ((wR ((2:Int)*cI))+(1:Int)))))+(1:Int))))) (eI (gD aA (wR ((wR (bO+(wR ((wR ((2:Int)*cI))+(1:Int)))))+(1:Int))))) (List.map (eI) aA) hO (cA (c13 hg16)) ?_;refine oL 78 [(eI (gD aA (wR (bO+(wR ((wR ((2:Int)*cI))+(1:Int))))))),(eI (gD aA (wR ((wR (bO+(wR ((wR ((2:Int)*cI))+(1:Int)))))+(1:Int)))))] (aD x14) (by kernel_rfl) (by kernel_rfl) (gF (gD aA (wR (bO+(wR ((wR ((2:Int)*cI))+(1:Int)))))) (gD aA (wR ((wR (bO+(wR ((wR ((2:Int)*cI))+(1:Int)))))+(1:Int)))) _ (iC hx15 hg16)) hO ?_;intro H hO;refine jK ?_;exact⟨⟨[(0,(.msl 1 lo0p 0 (List.length aA))),(2,(eI hi2)),(3,(eI bO)),(8,(eI cI)),(9,(eI (wR ((wR ((2:Int)*cI))+(1:Int))))),(36,(aD x14))],by kernel_rfl,rfl,⟨aR.refl _,aR.refl _,aR.refl _,aR.refl _,aR.refl _,aR.eq (congrArg aD (oH hg16 rfl).symm),trivial⟩⟩,hO⟩
  refine jK ?_;exact⟨⟨[(0,(.msl 1 lo0p 0 (List.length aA))),(2,(eI hi2)),(3,(eI bO)),(8,(eI cI)),(9,(eI (wR ((wR ((2:Int)*cI))+(1:Int))))),(36,(aD false))],by kernel_rfl,rfl,⟨aR.refl _,aR.refl _,aR.refl _,aR.refl _,aR.refl _,aR.eq (congrArg aD (oH hg16 rfl).symm),trivial⟩⟩,hO⟩
 ·rintro T H ⟨hT,hO⟩;refine dL hT ?_;clear hT;refine aG (aH ?_);refine bL h1 (fun h1=>?_) (fun h1=>?_)
  ·refine aS aC 3 ?_;refine bA ?_;exact aG (aH (⟨rfl,_,_,aZ,hO,hN,h1⟩))
  refine bM ?_;exact aG (aH (⟨rfl,_,_,aZ,hO,hN,h1⟩))

end Go.Abs
end
