/- What the law WindowSettles stands on: the framework, the given functions as plain functions, their walks, and the plain laws; part 3. -/
import Derived.Test.YteecjdpicjpnfabGreatWindowSettlesZ2
set_option linter.unusedSimpArgs false
set_option linter.unusedVariables false
noncomputable section
namespace Go.Abs
open Go Go.RowKit Go.MapKept
variable {P:Program} {H:aU} {K:V->aU->Prop}
theorem aN.aGG {H0:aU}{E:List Nat}{M G:Gs}{L R:OL}(h:aN ⟨H0,E,M++G⟩ H (L++R)):aN ⟨H0,E,M++(up R++G)⟩ H L:=by
  have h1:aN ⟨H0,E,up R++(M++G)⟩ H L:=h.part;exact h1.qI (by rw [←List.append_assoc,←List.append_assoc]; exact List.Perm.append_right _ List.perm_append_comm)

theorem aN.aGK {H0:aU}{E:List Nat}{M G:Gs}{L R:OL}(h:aN ⟨H0,E,M++(up R++G)⟩ H L):aN ⟨H0,E,M++G⟩ H (L++R):=by
  have h1:aN ⟨H0,E,up R++(M++G)⟩ H L:=h.qI (by rw [←List.append_assoc,←List.append_assoc]; exact List.Perm.append_right _ List.perm_append_comm);exact aN.glue (F:=⟨H0,E,M++G⟩) h1

theorem aG0 {tt:TT} {N:Nat} {T:Env} {ops:Array Oper} {K:Env->aU->Prop} {i n:Nat} {H0:aU} {E:List Nat} {G:Gs} {L0 L:OL} {Post:V->Gs->OL->Prop} {fid:Nat} {as0:List V} (M:Gs) (R:OL) (ix:List Nat) (hc:aFi P fid as0 M L Post) (hO:aN ⟨H0,E,M++G⟩ H L0)
    (h:∀ x M' L' H',Post x M' L'->aN ⟨H0,E,M'++G⟩ H' (L'++R)->RWs P tt N ops (aM (i+1) n) (T.bR (cL ops i) ([],x)) H' K) (hnd:ix.Nodup:=by decide) (hp:ix.map (fun i=>L0[i]?)=(L++R).map some:=by kernel_rfl)
    (hs:aM i n=i::aM (i+1) n:=by kernel_rfl) (hd:nY N ops T i=some (fid,as0):=by kernel_rfl):RWs P tt N ops (aM i n) T H K :=
  KC hs hd (hc ⟨H0,E,up R++G⟩ H (hO.pick ix hnd hp).aGG) fun _ H' ⟨M',L',hP,hO'⟩=>h _ M' L' H' hP hO'.aGK

section ends
variable {fn:Func} {T:Env} {H:aU} {H0:aU} {E:List Nat} {G M:Gs} {Post:V->Gs->OL->Prop} {x:V} {L:OL}
end ends
end Go.Abs
namespace Go.Abs
open Go Go.RowKit
variable {P:Program} {tt:TT} {g:Gh} {w:World} {H:aU}
theorem aDN {N:Nat} {c:Code} {l:List (Nat×V)} {ds:List Nat} {Q:Exit->Env->aU->List Nat->Prop} {fid:Nat} {ys cs:List V} {b0 l0:Nat} {A0:sM} {st0:LoopState} {pe0:Option Code} (h0:H[l0]? = some (.raw (gQ b0 A0 st0 pe0)))
    (hk:c.kind=9) (hf:cF (Env.ofL l) [] c.cnd=some (.fn (.func fid) ys cs)) {ps:Array Tmp} (hps:c.rps=ps)
    (h:∀ b,mC P fid (ys++[yv b]++cs) (H++[.raw (gQ b ⟨N,l,ps,c.asg,c.b⟩ .ready none)]) (fun _ H'=>∃ st pe,H'[H.length]? = some (.raw (gQ b ⟨N,l,ps,c.asg,c.b⟩ st pe))/\st ≠ .busy /\
      (match pe with
       | none=>Cl N Q .normal (Env.ofL l) (H'.set H.length .dead) ds
       | some c'=>AWP P (some b0) N c' (Env.ofL l) (H'.set H.length .dead) ds Q))):AWP P (some b0) N c (Env.ofL l) H ds Q:=by
  cases c with
  | rangeFunc fo ps' asg body =>
    simp only [Code.rps] at hps;subst hps;simp only [Code.cnd] at hf;simp only [Code.asg,Code.b] at h;intro g w a R hg hr;refine wpIn_rangeFunc ?_;intro fn _;obtain⟨o0,p1,p2,pb,r0,rfl,_⟩:=hg.sr.raw l0 _ h0;rw [pb] at p1;obtain⟨rec,hrec⟩:∃ rec:Loop,rec={ state:=.ready,pending:=none,fn,tmps:=a.tmps,params:=ps',assign:=asg,body,defers:=r0.defers }:=⟨_,rfl⟩
    have n2:=hg.sr.FL (.loop rec) rfl (gQ w.heap.size ⟨N,l,ps',asg,body⟩ .ready none) ⟨rfl,rec,rfl,by rw [hrec],by rw [hrec],by rw [hrec],by rw [hrec],by rw [hrec],by rw [hrec]; exact hg.sz,by
      have ht:rec.tmps=a.tmps:=by rw [hrec]
      rw [ht];exact hg.tr.DC ((hg.sr.FL (.loop rec) rfl ⟨fun _ _ _ _=>True,fun _ _=>trivial⟩ trivial).2.toExt0)⟩
    obtain⟨s2,e2⟩:=n2
    have henter:(Instr.enterLoop fn a.tmps ps' asg body (FR (some b0)).round).run P w = .ok (w.heap.size,[]) (w.alloc (.loop rec)):=by
      rw [hrec]; exact run_enterLoop_inner p1 fn a.tmps ps' asg body
    obtain⟨fs,cap,hfv,l1,l2,g1',g2'⟩:=(cG (hg.tr.DC e2.toExt0) (a:=a) (by intro p hp; simp at hp) hf).fnE;obtain⟨hent,hcalls⟩:=h w.heap.size;have hargs:(ys++[yv w.heap.size]++cs).length=(fs ++ #[Value.func (.yield w.heap.size) #[] #[]]++cap).size:=by simp [l1,l2]; omega
    refine⟨w.heap.size,[],w.alloc (.loop rec),⟨.fn (.func fid) cap,fs ++ #[Value.func (.yield w.heap.size) #[] #[]]⟩,w.alloc (.loop rec),fid,fs ++ #[Value.func (.yield w.heap.size) #[] #[]]++cap,w.alloc (.loop rec),henter,?_,fun _ _=>trivial,?_,fun h=>by simp [FR,Fence.wide] at h,?_⟩
    · have hm:Array.map a.eval #[Operand.const (Value.func (.yield w.heap.size) #[] #[])] = #[Value.func (.yield w.heap.size) #[] #[]]:=by
        simp [Act.eval]
      simp only [rangeCall,resolve,hfv,Deferred.ofValue,Sem.run_bind,Sem.run_pure,Result.andThen,hm]
    · simp only [invoke,hent]
    · refine IY ?_
      obtain⟨l4,g4⟩:=xZ (xs:=ys) (ys:=[yv w.heap.size]) (as0:=fs) (bs := #[Value.func (.yield w.heap.size) #[] #[]]) l1 rfl g1' (fun i x y hx hy=>by
        cases i with
        | zero=>simp at hx hy; subst hx; subst hy; exact .lit _ rfl
        | succ i=>simp at hx)
      obtain⟨l5,g5⟩:=xZ l4 l2 g4 g2';refine (hcalls _ _ _ s2 l5 g5).mono ?_;rintro e w3 ⟨v,r,g3,H3,rfl,_,s3,x3,st,pe,hL,hb,hq⟩;obtain⟨o3,q1,q2,qb,r3,rfl,z1,z2,z3,z4,z5,z6,z7⟩:=s3.raw _ _ hL;rw [qb] at q1;have s4:=s3.wS hL (.loop { r3 with state:=.exhausted }) rfl ⟨fun _ _ _ _=>True,fun _ _=>trivial⟩ trivial;rw [qb] at s4;obtain⟨s4,x4⟩:=s4;have s5:=s4.kill H.length;rw [List.set_set] at s5;have hxx:Ext g w g3 (w3.putObj w.heap.size (.loop { r3 with state:=.exhausted })):=(e2.trans x3).trans x4
      have hgood:Good N g3 (w3.putObj w.heap.size (.loop { r3 with state:=.exhausted })) (Env.ofL l) (H3.set H.length .dead) ds { a with defers:=[]++a.defers }:=by
        refine⟨s5,hg.tr.DC hxx.toExt0,?_,?_,hg.sz⟩
        · rw [List.nil_append,hg.df];apply List.map_congr_left;intro l' hl';simp only [mkD,hxx.blk l' (hg.dl l' hl')]
        · intro l' hl';exact Nat.lt_of_lt_of_le (hg.dl l' hl') hxx.n
      refine⟨_,_,run_endLoop q1 (by rw [z1]; exact hb),?_⟩;split
      · rename_i hp
        have hpe:pe=none:=z2.symm.trans hp;subst hpe;obtain⟨g5,T5,H5,hg5,hx5,hq5⟩:=hq _ _ _ hgood;exact hr _ _ _ _ _ _ _ hq5 hg5 (hxx.trans hx5)
      · rename_i c' hp
        have hpe:pe=some c':=z2.symm.trans hp;subst hpe;exact hq _ _ _ _ hgood fun e T' H' ds' g' w' a' hq' hg' hx'=>hr e T' H' ds' g' w' a' hq' hg' (hxx.trans hx')
  | region i o d=>cases d <;> simp [Code.kind] at hk
  | _=>simp [Code.kind] at hk

theorem aEf {σ:Type} {N:Nat} {Q:Exit->Env->aU->List Nat->Prop} {ds:List Nat} {c:Code} {l:List (Nat×V)} {fid:Nat} {ys cs:List V} {H0:aU} {E:List Nat} {G:Gs} {L:List (Nat×Nat×List V)} {b0 l0:Nat} {A0:sM} {st0:LoopState} {pe0:Option Code} (ps:Array Tmp) (I:sM->Nat->Nat->σ->Gs->Prop) (s0 s1:σ) (v:V)
    (h0:H[l0]? = some (.raw (gQ b0 A0 st0 pe0)))
    (hk:c.kind=9) (hf:cF (Env.ofL l) [] c.cnd=some (.fn (.func fid) ys cs)) (hps:c.rps=ps) (hO:aN ⟨H0,E,G⟩ H L)
    (hi:∀ b lL,I ⟨N,l,ps,c.asg,c.b⟩ b lL s0 ((lL,.raw (gQ b ⟨N,l,ps,c.asg,c.b⟩ .ready none))::(up L++G)))
    (hit:∀ b lL,yF P fid (I ⟨N,l,ps,c.asg,c.b⟩ b lL) s0 (ys++[yv b]++cs) s1 v)
    (hend:∀ b lL H' G',I ⟨N,l,ps,c.asg,c.b⟩ b lL s1 G'->aN ⟨H0,E,G'⟩ H' [] -> ∃ st pe,H'[lL]? = some (.raw (gQ b ⟨N,l,ps,c.asg,c.b⟩ st pe))/\st ≠ .busy /\
      (match pe with
       | none=>Cl N Q .normal (Env.ofL l) (H'.set lL .dead) ds
       | some c'=>AWP P (some b0) N c' (Env.ofL l) (H'.set lL .dead) ds Q)):AWP P (some b0) N c (Env.ofL l) H ds Q:=by
  refine aDN h0 hk hf hps fun b=>?_;have o1:=hO.IE.RI (.raw (gQ b ⟨N,l,ps,c.asg,c.b⟩ .ready none));refine (hit b H.length _ _ (hi b H.length) o1.gok).mono ?_;rintro x H' ⟨_,G',hi',hst⟩;exact hend b H.length H' G' hi' (o1.PB hst)

theorem NJ {H0:aU}{E:List Nat}{lL:Nat}{s:dN}{G:Gs}{L:List (Nat×Nat×List V)}(h:aN ⟨H0,E,(lL,s)::(up L++G)⟩ H []) :
    H[lL]? = some s/\aN ⟨H0,E,G⟩ (H.set lL .dead) L:=by
  refine⟨(h.gm 0 _ rfl).2,?_⟩;exact (h.nM .dead).nR.take

end Go.Abs
namespace Go.Abs
open Go Go.RowKit
theorem aGg {n:Nat}{el el':Nat->V}(h:∀ i,i<n->aR (el i) (el' i))(hn:∀ i,i<n->fW (el' i)=true):aR (.sl false n el) (.sl false n el'):=by
  intro g w v hv
  cases hv with
  | sl0 z el a cap hz=>exact .sl0 _ _ _ _ (by simp)
  | sl n el b o k cap c h1 h2 h3 h4 h5 h6=>exact .sl n _ b o k cap c (fun i hi=>h i hi g w _ (h1 i hi)) h2 h3 h4 h5 hn

theorem aFX {α:Type}[Inhabited α]{e:α->V}{xs:List V}{l:List α}(h:pT xs (l.map e))(hn:(l.map e).all fW=true):aR (eR xs) (eL e l):=by
  intro g w v hv;refine YP g w v ?_;have hlen:=h.len
  cases xs with
  | nil =>
    cases l with
    | nil=>exact hv
    | cons a s=>simp at hlen
  | cons x r =>
    cases l with
    | nil=>simp at hlen
    | cons a s =>
      have hl:r.length=(s.map e).length:=by simpa using hlen
      show Rep g w (.sl false ((s.map e).length+1) (fun i=>(e a::s.map e).getD i .bad)) v;rw [←hl];refine aGg (fun i hi=>?_) (fun i hi=>?_) g w v hv
      · have h1:i<(x::r).length:=by simpa using hi
        have h2:i<(e a::s.map e).length:=by simp only [List.length_cons]; omega
        have h3:(x::r).getD i .bad=(x::r)[i]:=by simp only [List.getD_eq_getElem?_getD,List.getElem?_eq_getElem h1,Option.getD_some]
        have h4:(e a::s.map e).getD i .bad=(e a::s.map e)[i]:=by simp only [List.getD_eq_getElem?_getD,List.getElem?_eq_getElem h2,Option.getD_some]
        rw [h3,h4];exact h.get i _ _ (List.getElem?_eq_getElem h1) (List.getElem?_eq_getElem h2)
      · have h2:i<(e a::s.map e).length:=by simp only [List.length_cons]; omega
        have h4:(e a::s.map e).getD i .bad=(e a::s.map e)[i]:=by simp only [List.getD_eq_getElem?_getD,List.getElem?_eq_getElem h2,Option.getD_some]
        rw [h4];exact List.all_eq_true.1 hn (e a::s.map e)[i] (List.getElem_mem h2)

def tQ:Option Nat->V
  | none => .lit (.pointer none)
  | some a => .lp a 0 0

section bundles
variable {β:Type} (sh:Nat->Nat->β->OL)
def pmM:List (Nat×Nat)->List (Int×β)->List (Int×Option Nat)
  | q::los,p::m=>(p.1,some q.1)::pmM los m
  | _,_=>[]

def pmL:List (Nat×Nat)->List (Int×β)->OL
  | q::los,p::m=>sh q.1 q.2 p.2++pmL los m
  | _,_=>[]

def pmG (lm:Nat)(los:List (Nat×Nat))(m:List (Int×β)):Gs:=(lm,qB tQ (pmM los m))::up (pmL sh los m)

variable {sh}
theorem SJ:∀ {los:List (Nat×Nat)} {m:List (Int×β)},los.length=m.length->(pmM los m).length=m.length
  | [],[],_=>rfl
  | _::_,_::_,h=>by simp only [pmM,List.length_cons]; rw [SJ (by simpa using h)]
  | [],_::_,h=>by simp at h
  | _::_,[],h=>by simp at h

theorem aBt {k:Int}:∀ {los:List (Nat×Nat)} {m:List (Int×β)},gL m k=none->gL (pmM los m) k=none
  | [],[],_=>rfl
  | [],_::_,_=>rfl
  | _::_,[],_=>rfl
  | q::los,p::m,h=>by
    rw [gL] at h;split at h
    · cases h
    · rename_i hk
      rw [pmM,gL,if_neg hk,aBt h]

def Put (sh:Nat->Nat->β->OL)(m:List (Int×β))(k:Int)(a:Nat)(MM:List (Int×Option Nat))(R:OL):Prop :=
  ∀ b' p',∃ los',los'.length=(fH m k p').length/\MM=pmM los' (fH m k p')/\(sh a b' p'++R).Perm (pmL sh los' (fH m k p'))

theorem YI {k:Int}{x:β}:∀ {los:List (Nat×Nat)} {m:List (Int×β)},los.length=m.length->gL m k=some x ->
    ∃ a b R,gL (pmM los m) k=some (some a)/\(pmL sh los m).Perm (sh a b x++R)/\Put sh m k a (pmM los m) R
  | [],[],_,h=>by cases h
  | [],_::_,h,_=>by simp at h
  | _::_,[],h,_=>by simp at h
  | q::los,p::m,hl,h=>by
    rw [gL] at h;by_cases hk:p.1=k
    · rw [if_pos hk] at h
      cases h
      refine⟨q.1,q.2,pmL sh los m,by rw [pmM,gL,if_pos hk],List.Perm.refl _,fun b' p'=>⟨(q.1,b')::los,?_,?_,?_⟩⟩
      · simp only [fH,if_pos hk]; simpa using hl
      · simp only [fH,if_pos hk]; simp only [pmM,hk]
      · simp only [fH,if_pos hk,pmL]; exact List.Perm.refl _
    · rw [if_neg hk] at h;obtain⟨a,b,R,h1,h2,h3⟩:=YI (los:=los) (m:=m) (by simpa using hl) h;refine⟨a,b,sh q.1 q.2 p.2++R,by rw [pmM,gL,if_neg hk,h1],?_,fun b' p'=>?_⟩
      · rw [pmL];refine (List.Perm.append_left _ h2).trans ?_;rw [←List.append_assoc,←List.append_assoc];exact List.Perm.append_right _ List.perm_append_comm
      · obtain⟨los',e1,e2,e3⟩:=h3 b' p';refine⟨q::los',?_,?_,?_⟩
        · simp only [fH,if_neg hk,List.length_cons,e1]
        · simp only [fH,if_neg hk,pmM,e2]
        · simp only [fH,if_neg hk,pmL];refine List.Perm.trans ?_ (List.Perm.append_left _ e3);rw [←List.append_assoc,←List.append_assoc];exact List.Perm.append_right _ List.perm_append_comm

theorem aC1 {k:Int}{a:Nat}:∀ {los:List (Nat×Nat)} {m:List (Int×β)},los.length=m.length->gL m k=none->Put sh m k a (fH (pmM los m) k (some a)) (pmL sh los m)
  | [],[],_,_=>fun b' p'=>⟨[(a,b')],rfl,rfl,by simp [fH,pmL]⟩
  | [],_::_,h,_=>by simp at h
  | _::_,[],h,_=>by simp at h
  | q::los,p::m,hl,h=>by
    rw [gL] at h;split at h
    · cases h
    · rename_i hk
      intro b' p';obtain⟨los',e1,e2,e3⟩:=aC1 (a:=a) (los:=los) (m:=m) (by simpa using hl) h b' p';refine⟨q::los',?_,?_,?_⟩
      · simp only [fH,if_neg hk,List.length_cons,e1]
      · simp only [pmM,fH,if_neg hk,e2]
      · simp only [fH,if_neg hk,pmL];refine List.Perm.trans ?_ (List.Perm.append_left _ e3);rw [←List.append_assoc,←List.append_assoc];exact List.Perm.append_right _ List.perm_append_comm

theorem CM (A B:OL):up (A++B)=up A++up B:=by simp [up]

theorem aN.aFb {H0:aU}{E:List Nat}{G:Gs}{H:aU}{L R:OL}(h:aN ⟨H0,E,up R++G⟩ H L):aN ⟨H0,E,G⟩ H (R++L):=by
  have h1:aN ⟨H0,E,G⟩ H (L++R):=aN.glue (F:=⟨H0,E,G⟩) h;have h2:=h1.IE;exact (h2.qI (G':=up (R++L)++G) (List.Perm.append_right _ (by rw [CM,CM]; exact List.perm_append_comm))).take

theorem aN.aFj {H0:aU}{E:List Nat}{G:Gs}{H:aU}{L R:OL}(h:aN ⟨H0,E,G⟩ H (R++L)):aN ⟨H0,E,up R++G⟩ H L:=by
  have h2:=h.IE;have h3:aN ⟨H0,E,G⟩ H (L++R):=(h2.qI (G':=up (L++R)++G) (List.Perm.append_right _ (by rw [CM,CM]; exact List.perm_append_comm))).take;exact aN.part (F:=⟨H0,E,G⟩) h3

theorem aN.aCr {H0:aU}{E:List Nat}{H:aU}{L:OL}:∀ {G:Gs},aN ⟨H0,E,G⟩ H L->aN ⟨H0,E,[]⟩ H L
  | [],h=>h
  | _::_,h=>aN.aCr h.nR

theorem aN.focus {H0:aU}{E:List Nat}{G:Gs}{H:aU}{L:OL}{lm:Nat}{los:List (Nat×Nat)}{m:List (Int×β)}{k:Int}{x:β}(h:aN ⟨H0,E,pmG sh lm los m++G⟩ H L)(hl:los.length=m.length)(hg:gL m k=some x) :
    ∃ a b R,gL (pmM los m) k=some (some a)/\Put sh m k a (pmM los m) R/\aN ⟨H0,E,(lm,qB tQ (pmM los m))::(up R++G)⟩ H (sh a b x++L):=by
  obtain⟨a,b,R,h1,h2,h3⟩:=YI (sh:=sh) hl hg;refine⟨a,b,R,h1,h3,?_⟩
  have : (pmG sh lm los m++G).Perm (up (sh a b x)++((lm,qB tQ (pmM los m))::(up R++G))):=by
    unfold pmG;refine List.Perm.trans ?_ List.perm_middle.symm;refine List.Perm.cons _ ?_;rw [←List.append_assoc,←CM];exact List.Perm.append_right _ (h2.map _)
  exact (h.qI this).aFb

theorem aN.aBc {H0:aU}{E:List Nat}{G:Gs}{H:aU}{L R:OL}{lm a b:Nat}{MM:List (Int×Option Nat)}{m:List (Int×β)}{k:Int}{x:β}(h:aN ⟨H0,E,(lm,qB tQ MM)::(up R++G)⟩ H (sh a b x++L))(hp:Put sh m k a MM R) :
    ∃ los',los'.length=(fH m k x).length/\aN ⟨H0,E,pmG sh lm los' (fH m k x)++G⟩ H L:=by
  obtain⟨los',e1,e2,e3⟩:=hp b x;refine⟨los',e1,?_⟩;have h1:=h.aFj;refine h1.qI ?_;unfold pmG;refine List.perm_middle.trans ?_;rw [e2];refine List.Perm.cons _ ?_;rw [←List.append_assoc,←CM];exact List.Perm.append_right _ (e3.map _)

theorem NP {P:Program} {ro:Option Nat} {N:Nat} {c:Code} {T:Env} {ds:List Nat} {Q:Exit->Env->aU->List Nat->Prop} {α:Type} [Inhabited α] {H0:aU} {E:List Nat} (k k2 j:Nat) (cs:Nat->β->List V) (rows:β->List α) (e:α->V) (sf:β->V)
    (hsh:∀ a b p,sh a b p=[(a,k,[.agg (cs b p)]),(b,k2,(rows p).map e)]) (hj:∀ b p,(cs b p)[j]? = some (.msl k2 b 0 (rows p).length)) (hsf:∀ b p,V.agg ((cs b p).set j (eL e (rows p)))=sf p) :
    ∀ (m:List (Int×β)) (los:List (Nat×Nat)) {G:Gs} {H:aU} {L:OL},los.length=m.length->aN ⟨H0,E,up (pmL sh los m)++G⟩ H L ->
      (∀ H',aN ⟨H0,E,up (pmL (fun a _ p=>[(a,k,[sf p])]) los m)++G⟩ H' L->AWP P ro N c T H' ds Q)->AWP P ro N c T H ds Q
  | [],[],G,H,L,_,hO,h=>h H hO
  | [],_::_,_,_,_,hl,_,_=>by simp at hl
  | _::_,[],_,_,_,hl,_,_=>by simp at hl
  | p::m,q::los,G,H,L,hl,hO,h=>by
    rw [pmL,CM,List.append_assoc] at hO;have h1:=hO.aFb;rw [hsh] at h1;refine NL (e:=e) (rows p.2) 0 1 k k2 q.1 q.2 (rows p.2).length j (cs q.2 p.2) ((q.1,k,[sf p.2])::L) h1 rfl (hj _ _) rfl rfl rfl (by rw [←hsf q.2 p.2]; rfl) fun H' hO'=>?_;have h2:=aN.aFj (R:=[(q.1,k,[sf p.2])]) (L:=L) hO'
    have h3:aN ⟨H0,E,up (pmL sh los m)++(up [(q.1,k,[sf p.2])]++G)⟩ H' L:=h2.qI (by
      rw [←List.append_assoc,←List.append_assoc]; exact List.Perm.append_right _ List.perm_append_comm)
    refine NP k k2 j cs rows e sf hsh hj hsf m los (by simpa using hl) h3 fun H'' hO''=>h H'' ?_;refine hO''.qI ?_;rw [pmL,CM,←List.append_assoc];exact List.Perm.append_right _ List.perm_append_comm

end bundles
def aEM:V->Option Bool
  | .lit (.pointer none)=>some true
  | .lp _ _ _=>some false
  | _=>none

section nils
variable {P:Program} {tt:TT} {N:Nat} {T:Env} {H:aU} {ops:Array Oper} {K:Env->aU->Prop} {i n:Nat}
theorem ZL {K:V->aU->Prop}{op:BinOp}{t e u:TypeId}{x y:Operand}{z:V}{b:Bool}(hop:op = .eql∨op = .neq)(hu:P.underlying t=some (.pointer e))(hz:aEM z=some b)(h:K (.lit (.bool (if op = .eql then b else !b))) H):EI P (.binOp op t x y u) [z,.lit (.pointer none)] H K:=by
  intro ro o a g w next R ho hs hx hn;have r1:=hx.2 0 z (a.eval x) rfl (by simp [Op.operands]);have r2:=hx.2 1 (.lit (.pointer none)) (a.eval y) rfl (by simp [Op.operands]);have e2:a.eval y = .pointer none:=r2.mG
  have e1:∃ ad,a.eval x = .pointer ad/\ad.isNone=b:=by
    unfold aEM at hz;split at hz
    · simp at hz; subst hz; exact ⟨none,r1.mG,rfl⟩
    · simp at hz; subst hz; obtain ⟨_,h2⟩:=r1.lpE; exact ⟨_,h2,rfl⟩
    · cases hz
  obtain⟨ad,e1,e3⟩:=e1
  have hq:(Op.equal t (.pointer ad) (.pointer none)).run P w = .ok b w:=by
    unfold Op.equal Op.maxDepth;unfold Op.equalIn;simp only [Sem.run_bind,run_underlying hu,Result.andThen]
    cases ad with
    | none=>subst e3; rfl
    | some ad=>subst e3; rfl
  have hr:(execOp a.eval o).run P w = .ok (.value (.bool (if op = .eql then b else !b))) w:=by
    cases o
    simp only at ho;subst ho;rcases hop with rfl | rfl
    · have h1:(eqGuard .eql t x y (.pointer ad) (.pointer none)).run P w = .ok () w:=rfl
      have h2:(binOp .eql t (.pointer ad) (.pointer none)).run P w = .ok (.bool b) w:=by
        simp only [binOp,Sem.run_bind,hq,Result.andThen]; rfl
      simp [execOp,e1,e2,h1,h2,Result.andThen]
    · have h1:(eqGuard .neq t x y (.pointer ad) (.pointer none)).run P w = .ok () w:=rfl
      have h2:(binOp .neq t (.pointer ad) (.pointer none)).run P w = .ok (.bool (!b)) w:=by
        simp only [binOp,Sem.run_bind,hq,Result.andThen]; rfl
      simp [execOp,e1,e2,h1,h2,Result.andThen]
  exact eG (fun c e=>by rw [e] at ho; cases ho) hr (hn _ _ _ _ _ h hs (.lit _ rfl) (Ext.refl g w))

def aFg (P:Program)(t:TypeId):Bool:=match P.underlying t with
  | some (.pointer _)=>true
  | _=>false

def aDw (P:Program)(N:Nat)(ops:Array Oper)(T:Env)(i:Nat):Option Bool:=match fV N ops i with
  | some (.binOp op t x y _)=>match aFg P t,cF T [] x,cF T [] y with
    | true,some z,some (.lit (.pointer none))=>match aEM z,op with
      | some b,.eql=>some b
      | some b,.neq=>some (!b)
      | _,_=>none
    | _,_,_=>none
  | _=>none

theorem aAg (b:Bool) (h:RWs P tt N ops (aM (i+1) n) (T.bR (cL ops i) ([],.lit (.bool b))) H K)
    (hs:aM i n=i::aM (i+1) n:=by kernel_rfl) (hd:aDw P N ops T i=some b:=by kernel_rfl):RWs P tt N ops (aM i n) T H K:=by
  unfold aDw at hd;split at hd
  · rename_i op t x y u hp
    split at hd
    · rename_i z hi hx hy
      unfold aFg at hi;split at hi
      · rename_i e hu
        split at hd
        · rename_i b' hz
          simp at hd; subst hd;exact xI hs hp (xs:=[z,.lit (.pointer none)]) (by simp [Op.operands,iF,hx,hy]) (ZL (.inl rfl) hu hz (by simpa using h))
        · rename_i b' hz
          simp at hd; subst hd;exact xI hs hp (xs:=[z,.lit (.pointer none)]) (by simp [Op.operands,iF,hx,hy]) (ZL (.inr rfl) hu hz (by simpa using h))
        · cases hd
      · cases hi
    · cases hd
  · cases hd

end nils
theorem SR.aFm {g:Gh}{w:World}{H:aU}(h:SR g w H){l:Nat}{s s':Sp}(hl:H[l]? = some (.raw s))(hs:∀ g w b o,s.p g w b o->s'.p g w b o):SR g w (H.set l (.raw s')):=by
  have hlt:l<H.length:=(List.getElem?_eq_some_iff.1 hl).1
  have hat:∀ l' ob,(H.set l (.raw s'))[l']? = some ob->(l'=l/\ob = .raw s')∨(l'≠l/\H[l']? = some ob):=by
    intro l' ob hl';rw [List.getElem?_set] at hl';split at hl'
    · rename_i heq
      simp [heq ▸ hlt] at hl';exact .inl ⟨heq.symm,hl'.symm⟩
    · rename_i hne; exact .inr ⟨fun e=>hne e.symm,hl'⟩
  refine { len:=by simp [h.len],fxc:=h.fxc,nt:=?_,kk:=?_,vec:=?_,raw:=?_,disj:=?_,rawd:=?_ }
  · intro l' k1 es1 hl1;rcases hat _ _ hl1 with ⟨_,he⟩ | ⟨_,hl2⟩
    · cases he
    · exact h.nt l' k1 es1 hl2
  · intro l' k1 es1 hl1;rcases hat _ _ hl1 with ⟨_,he⟩ | ⟨_,hl2⟩
    · cases he
    · exact h.kk l' k1 es1 hl2
  · intro l' k1 es1 hl1;rcases hat _ _ hl1 with ⟨_,he⟩ | ⟨_,hl2⟩
    · cases he
    · exact h.vec l' k1 es1 hl2
  · intro l' s1 hl1;rcases hat _ _ hl1 with ⟨rfl,he⟩ | ⟨_,hl2⟩
    · cases he
      obtain⟨o,q1,q2,q3⟩:=h.raw l' _ hl;exact⟨o,q1,q2,hs _ _ _ _ q3⟩
    · exact h.raw l' s1 hl2
  · intro a b k1 k2 es1 es2 ha hb2 hne;rcases hat _ _ ha with ⟨_,he⟩ | ⟨_,ha2⟩
    · cases he
    · rcases hat _ _ hb2 with ⟨_,he⟩ | ⟨_,hb3⟩
      · cases he
      · exact h.disj _ _ _ _ _ _ ha2 hb3 hne
  · intro a b s1 s2 ha hb2 hne;rcases hat _ _ ha with ⟨rfl,_⟩ | ⟨_,ha2⟩ <;> rcases hat _ _ hb2 with ⟨rfl,_⟩ | ⟨_,hb3⟩
    · exact absurd rfl hne
    · exact h.rawd _ _ _ _ hl hb3 hne
    · exact h.rawd _ _ _ _ ha2 hl hne
    · exact h.rawd _ _ _ _ ha2 hb3 hne

theorem aDo {N:Nat} {Q:Exit->Env->aU->List Nat->Prop} {ds:List Nat} {e:Exit} {T:Env} {H H0:aU} {E:List Nat} {G:Gs} {L:OL} {β:Type} {f:β->V} {m:List (Int×β)} {bs:List Nat} {l clock:Nat} (hO:aN ⟨H0,E,(l,GQ f m bs clock)::G⟩ H L)
    (h:∀ H',aN ⟨H0,E,(l,qB f m)::G⟩ H' L->Cl N Q e T H' ds):Cl N Q e T H ds :=
  BK (fun g w _ _ hg=>⟨g,⟨hg.sr.aFm (hO.gm 0 _ rfl).2 (s':=EM dI (uQ f m)) fun _ _ _ _ ⟨es,h1,_,h3,h4,h5⟩=>⟨es,clock,h1,h3,h4,h5⟩,hg.tr,hg.df,hg.dl,hg.sz⟩,Ext.refl g w⟩) (h _ (hO.nM _))

theorem PV {S β:Type}(g:S->Int->Option S):∀ (q:List (Int×β)) (s:S),dR (fun s (x:Int×β)=>g s x.1) s q=dR g s (q.map (·.1))
  | [],_=>rfl
  | x::q,s=>by
    simp only [dR,List.map_cons]
    cases g s x.1 with
    | none=>rfl
    | some s'=>exact PV g q s'

theorem YG {β:Type}:∀ {los:List (Nat×Nat)} {m:List (Int×β)},los.length=m.length->(pmM los m).map (·.1)=m.map (·.1)
  | [],[],_=>rfl
  | _::_,_::_,h=>by simp only [pmM,List.map_cons]; rw [YG (by simpa using h)]
  | [],_::_,h=>by simp at h
  | _::_,[],h=>by simp at h

theorem aFJ {S R β:Type}{g:S->Int->Option S}{after:S->Option R}{s:S}{r:R}{los:List (Nat×Nat)}{m:List (Int×β)}(hl:los.length=m.length)(h:uW (m.map (·.1)) (fun q=>(dR g s q).bind after)=some r) :
    uW (pmM los m) (fun q=>(dR (fun s (x:Int×Option Nat)=>g s x.1) s q).bind after)=some r :=
  KB fun q hq=>by
    rw [PV];exact UX h _ (by rw [←YG hl]; exact hq.map _)

theorem UD {β:Type}{k:Int}{x:β}:∀ {m:List (Int×β)},gL m k=some x->fH m k x=m
  | [],h=>by cases h
  | p::m,h=>by
    rw [gL] at h;by_cases hk:p.1=k
    · rw [if_pos hk] at h; cases h;rw [fH,if_pos hk,←hk]
    · rw [if_neg hk] at h;simp only [fH,if_neg hk,UD h]

end Go.Abs
namespace Go.Abs
open Go Go.RowKit
section
variable {P:Program} {tt:TT} {ro:Option Nat} {N:Nat} {T:Env} {H:aU} {ds:List Nat} {Q:Exit->Env->aU->List Nat->Prop} {ops:Array Oper} {K:Env->aU->Prop} {i n:Nat}
theorem aZ {l:List (Nat×V)}(h:l.map (fun p=>T p.1)=l.map (fun p=>some ([],p.2)):=by kernel_rfl):Has T l:=.eq h

theorem iP {c:Code} {S R:Type} {body:S->Option (S⊕R)} {s:S} {r:R} (I:S->Env->aU->Prop) (hl:lp body s=some r) (h0:I s T H)
    (round:∀ k s out T H,I s T H->body s=some out->aCf body k r out->AWP P ro N c.b T H ds (uT (fun T' H' ds'=>ds'=ds /\ ∃ s',out = .inl s'/\I s' T' H') Q)) (hk:c.kind=4:=by kernel_rfl):AWP P ro N c T H ds Q:=aF5 hk I hl h0 round

theorem kY (k:Nat)(z:V)(h:RWs P tt N ops (aM (i+1) n) (T.bR (cL ops i) ([],.rp z)) H K)(hs:aM i n=i::aM (i+1) n:=by kernel_rfl)(hd:uP tt N ops T i=some (k,z):=by kernel_rfl):RWs P tt N ops (aM i n) T H K:=aGE k z hs hd h

theorem pX (xs:List V)(k:Nat)(h:RWs P tt N ops (aM (i+1) n) (T.bR (cL ops i) ([],eR xs)) H K)(hs:aM i n=i::aM (i+1) n:=by kernel_rfl)(hd:KS tt N ops T i=some (xs,k):=by kernel_rfl):RWs P tt N ops (aM i n) T H K:=aGL hs hd h

theorem CX {H0:Frame} {L:List (Nat×Nat×List V)} {α:Type} (e:α->V) (xs zs:List α) (q lo k bytes:Nat) (x:V) (L':Nat->List (Nat×Nat×List V)) (hO:aN H0 H L)
    (hy:wT k H x=some (zs.map e)) (hb:(xs.length+zs.length)*bytes<=140737488355328/\xs.length+zs.length<=9223372036854775807)
    (h:∀ lo' H',aN H0 H' (L' lo')->RWs P tt N ops (aM (i+1) n) (T.bR (cL ops i) ([],.msl k lo' 0 (xs++zs).length)) H' K)
    (hs:aM i n=i::aM (i+1) n:=by kernel_rfl) (hd:DV tt N ops T i=some (.msl k lo 0 xs.length,x,k,bytes):=by kernel_rfl) (hL:L[q]? = some (lo,k,xs.map e):=by kernel_rfl) (hl:∀ lo',L' lo'=L.set q (lo',k,(xs++zs).map e):=fun _=>by kernel_rfl):RWs P tt N ops (aM i n) T H K :=
  aFO xs zs q lo k bytes x L' hs hd hO hL hy hb hl h

variable {TD:PE} {KD:PE->aU->Prop} {pl:Oper->Bool}
theorem pY {H0:Frame} {L:List (Nat×Nat×List V)} (q lo k ix:Nat) (y x:V) (es:List V) (hO:aN H0 H L) (hy:es[ix]? = some y) (h:RD P tt N pl ops (aM (i+1) n) (TD.bR (cL ops i) x) H KD)
    (hs:aM i n=i::aM (i+1) n:=by kernel_rfl) (hq:sL pl ops i=true:=by kernel_rfl) (hd:NW tt N ops TD i y=some (lo,ix,x):=by kernel_rfl) (hL:L[q]? = some (lo,k,es):=by kernel_rfl):RD P tt N pl ops (aM i n) TD H KD:=aF3 q lo k ix y x es hs hq hd hO hL hy h

end
end Go.Abs
namespace Go.Abs
open Go
structure bY where
  Kind:Int
  Size:Int
  Hop:Int
  deriving Inhabited,DecidableEq

def FC (x:bY):List V:=[(cT .i64 x.Kind)]++[(cT .i64 x.Size)]++[(cT .i64 x.Hop)]

def cP (x:bY):V:=.agg (FC x)

structure aI where
  Kind:Int
  Num:Int
  Text:ByteArray
  deriving Inhabited,DecidableEq

def NM (x:aI):List V:=[(cT .i64 x.Kind)]++[(cT .i64 x.Num)]++[(BW x.Text)]

def aJ (x:aI):V:=.agg (NM x)

structure aF where
  Row:(List aI)
  At:Int
  Net:Int
  deriving Inhabited,DecidableEq

def RV (x:aF):List V:=[(eL aJ x.Row)]++[(cT .i64 x.At)]++[(cT .i64 x.Net)]

def aE (x:aF):V:=.agg (RV x)

structure aB where
  At:Int
  Net:Int
  deriving Inhabited,DecidableEq

def aB2 (x:aB):List V:=[(cT .i64 x.At)]++[(cT .i64 x.Net)]

def aL (x:aB):V:=.agg (aB2 x)

inductive bQ where
  | none_
  | k_number (x:Int)
  | k_words (x:ByteArray)
  deriving DecidableEq

instance : Inhabited bQ:=⟨.none_⟩

def bN:bQ->V
  | .none_ => .lit .nilIface
  | .k_number x => .ifc 160 (cT .i64 x)
  | .k_words x => .ifc 164 (BW x)

structure bJ where
  From:Int
  To:Int
  deriving Inhabited,DecidableEq

def QX (x:bJ):List V:=[(cT .i64 x.From)]++[(cT .i64 x.To)]

def dA (x:bJ):V:=.agg (QX x)

structure bC where
  Row:(List aI)
  N:Int
  deriving Inhabited,DecidableEq

def aBN (x:bC):List V:=[(eL aJ x.Row)]++[(cT .i64 x.N)]

def bK (x:bC):V:=.agg (aBN x)

structure aK where
  Span:bJ
  Rows:(List bC)
  deriving Inhabited,DecidableEq

def aCo (x:aK):List V:=QX x.Span++[(eL bK x.Rows)]

def aO (x:aK):V:=.agg (aCo x)

structure cC where
  row:(List aI)
  jumps:(List aB)
  deriving Inhabited,DecidableEq

def aAG (x:cC):List V:=[(eL aJ x.row)]++[(eL aL x.jumps)]

def cD (x:cC):V:=.agg (aAG x)

def rA (n0:Int):Option Bool :=
  some ((decide ((1:Int)<=n0))&&(decide (n0<=(1099511627776:Int))))

def lA (ok4:Bool):Option Int :=
  cond (!ok4)
  (some (2:Int))
  (some (0:Int))

def qR (w0:bY):Option Int :=
  cond (decide (w0.Kind=(1:Int)))
  (lA ((decide (w0.Size=(0:Int)))&&(decide (w0.Hop=(0:Int)))))
  (cond (decide (w0.Kind=(2:Int)))
  ((rA w0.Size).bind fun x4 =>
  (cX x4 (rA w0.Hop)).bind fun x7 =>
  lA (x4&&x7))
  (cond (decide (w0.Kind=(3:Int)))
  (lA (((decide ((1:Int)<=w0.Size))&&(decide (w0.Size<=(64:Int))))&&(decide (w0.Hop=(0:Int)))))
  (lA false)))

def qM (l0:(List aF)):Option ((List aF)) :=
  some l0

def iI  : Option Bool :=
  some true

def fT (s10:(List aI))(s21:(List aI))(t12:Int)(t13:Int):Option ((Int)⊕(Unit⊕Bool)) :=
  cond (decide (t13<t12))
  (bE (0<=t13/\t13<((List.length s10:Nat):Int)) <|
  bE (0<=t13/\t13<((List.length s21:Nat):Int)) <|
  cond (!((decide (((List.getD s10 (Int.toNat t13) default).Kind)=((List.getD s21 (Int.toNat t13) default).Kind)))&&((decide (((List.getD s10 (Int.toNat t13) default).Num)=((List.getD s21 (Int.toNat t13) default).Num)))&&((qL ((List.getD s10 (Int.toNat t13) default).Text) ((List.getD s21 (Int.toNat t13) default).Text))&&true))))
  (some (.inr (.inr false)))
  (some (.inl (IntKind.i64.wrap (t13+(1:Int))))))
  (some (.inr (.inl ())))

def kI (s10:(List aI))(s21:(List aI))(t12:Int)(t13:Int):Option Bool :=
  (lp (fun s=>fT s10 s21 t12 s) t13).bind (Sum.elim (fun rr=>iI ) (fun rr=>some rr))

def gC (s10:(List aI))(s21:(List aI)):Option Bool :=
  cond (!decide (((List.length s10:Nat):Int)=((List.length s21:Nat):Int)))
  (some false)
  (kI s10 s21 ((List.length s10:Nat):Int) (0:Int))

def sK (a0:(List aI))(b1:(List aI)):Option Bool :=
  (gC a0 b1).bind fun x1 =>
  some x1

def uE (r0:(List aI)):Option (List aI) :=
  bE (0<=((List.length r0:Nat):Int)/\(32:Int)*((List.length r0:Nat):Int)<=281474976710656/\((List.length r0:Nat):Int)<=9223372036854775807) <|
  bE ((List.length ([]:List aI)+List.length r0)*32<=140737488355328/\List.length ([]:List aI)+List.length r0<=9223372036854775807) <|
  some (([]:List aI)++r0)

def rG {σ:Type}(cH:σ->(List aI)->(List aB)->Option (σ×Bool))(sg:σ)(t1:(List aF))(i3:Int)(r4:(List aI))(f5:List aB):Option ((σ×Int)⊕(σ⊕σ)) :=
  (uE r4).bind fun x7 =>
  (cH sg x7 f5).bind fun x10 =>
  cond (!x10.2)
  (some (.inr (.inr x10.1)))
  (some (.inl (x10.1,i3)))

def kO {σ:Type}(cH:σ->(List aI)->(List aB)->Option (σ×Bool))(t1:(List aF))(r4:(List aI))(sg:σ)(i3:Int)(f5:List aB):Option ((σ×Int×List aB)⊕((σ×Int×List aB))) :=
  bE ((((decide (i3<((List.length t1:Nat):Int))))=true->0<=i3/\i3<((List.length t1:Nat):Int))) <|
  (cX (decide (i3<((List.length t1:Nat):Int))) (sK ((List.getD t1 (Int.toNat i3) default).Row) r4)).bind fun x16 =>
  cond ((decide (i3<((List.length t1:Nat):Int)))&&x16)
  (bE (0<=i3/\i3<((List.length t1:Nat):Int)) <|
  bE (0<=i3/\i3<((List.length t1:Nat):Int)) <|
  bE ((List.length f5+List.length ([aB.mk ((List.getD t1 (Int.toNat i3) default).At) ((List.getD t1 (Int.toNat i3) default).Net)]))*16<=140737488355328/\List.length f5+List.length ([aB.mk ((List.getD t1 (Int.toNat i3) default).At) ((List.getD t1 (Int.toNat i3) default).Net)])<=9223372036854775807) <|
  some (.inl (sg,IntKind.i64.wrap (i3+(1:Int)),f5++([aB.mk ((List.getD t1 (Int.toNat i3) default).At) ((List.getD t1 (Int.toNat i3) default).Net)]))))
  (some (.inr (sg,i3,f5)))

def uL {σ:Type}(cH:σ->(List aI)->(List aB)->Option (σ×Bool))(sg:σ)(t1:(List aF))(i3:Int)(r4:(List aI))(f5:List aB):Option ((σ×Int)⊕(σ⊕σ)) :=
  (lp (fun s=>kO cH t1 r4 s.1 s.2.1 s.2.2) (sg,i3,f5)).bind (fun rr=>rG cH rr.1 t1 rr.2.1 r4 rr.2.2)

def jK {σ:Type}(cH:σ->(List aI)->(List aB)->Option (σ×Bool))(t1:(List aF))(sg:σ)(i3:Int):Option ((σ×Int)⊕(σ⊕σ)) :=
  cond (decide (i3<((List.length t1:Nat):Int)))
  (bE (0<=i3/\i3<((List.length t1:Nat):Int)) <|
  uL cH sg t1 i3 ((List.getD t1 (Int.toNat i3) default).Row) ([]:List aB))
  (some (.inr (.inl sg)))

def uD {σ:Type}(cH:σ->(List aI)->(List aB)->Option (σ×Bool))(sg:σ)(t1:(List aF))(i3:Int):Option σ :=
  (lp (fun s=>jK cH t1 s.1 s.2) (sg,i3)).bind (Sum.elim (fun rr=>some rr) (fun rr=>some rr))

def nV {σ:Type}(cH:σ->(List aI)->(List aB)->Option (σ×Bool))(t1:(List aF))(sg0:σ):Option σ :=
  uD cH sg0 t1 (0:Int)

def gJ (f1:aI->Option Bool)  : Option Int :=
  some (-1:Int)

def jB (f1:aI->Option Bool)(s0:(List aI))(t7:Int)(t8:Int):Option ((Int)⊕(Unit⊕Int)) :=
  cond (decide (t8<t7))
  (bE (0<=t8/\t8<((List.length s0:Nat):Int)) <|
  (f1 (List.getD s0 (Int.toNat t8) default)).bind fun x3 =>
  cond x3
  (some (.inr (.inr t8)))
  (some (.inl (IntKind.i64.wrap (t8+(1:Int))))))
  (some (.inr (.inl ())))

def jC (f1:aI->Option Bool)(s0:(List aI))(t7:Int)(t8:Int):Option Int :=
  (lp (fun s=>jB f1 s0 t7 s) t8).bind (Sum.elim (fun rr=>gJ f1 ) (fun rr=>some rr))

def jI (s0:(List aI))(f1:aI->Option Bool):Option Int :=
  jC f1 s0 ((List.length s0:Nat):Int) (0:Int)

def fM (s0:(List aI))(f1:aI->Option Bool):Option Bool :=
  (jI s0 f1).bind fun x1 =>
  some (decide ((0:Int)<=x1))

def nB (v0:aI):Option (bQ×Bool) :=
  cond ((decide (v0.Kind=(1:Int)))&&(qL v0.Text (⟨#[]⟩:ByteArray)))
  (some (bQ.k_number v0.Num,true))
  (cond (((decide (v0.Kind=(2:Int)))&&(decide (v0.Num=(0:Int))))&&(decide (((ByteArray.size v0.Text:Nat):Int)<=(64:Int))))
  (some (bQ.k_words v0.Text,true))
  (some (bQ.none_,false)))

def yM (v0:aI):Option Bool :=
  (nB v0).bind fun (x1_0,x1_1) =>
  match x1_0 with
  | .none_=>(some x1_1)
  | .k_number y4=>(some x1_1)
  | .k_words y5=>(some x1_1)

def yL (v0:aI):Option Bool :=
  (yM v0).bind fun x1 =>
  some (!x1)

def xJ (r0:(List aI)):Option Bool :=
  cond (decide ((8:Int)<((List.length r0:Nat):Int)))
  (some false)
  ((fM r0 (fun y0=>yL y0)).bind fun x2 =>
  some (!x2))

def wK (t0:(List aI)):Option ((Int×(List aI))) :=
  some ((-1:Int),t0)

def fN {σ:Type}(f1:σ->aI->Option (σ×Bool))(sg:σ):Option (σ×Int) :=
  some (sg,(-1:Int))

def cK {σ:Type}(f1:σ->aI->Option (σ×Bool))(s0:(List aI))(t7:Int)(sg:σ)(t8:Int):Option ((σ×Int)⊕(σ⊕(σ×Int))) :=
  cond (decide (t8<t7))
  (bE (0<=t8/\t8<((List.length s0:Nat):Int)) <|
  (f1 sg (List.getD s0 (Int.toNat t8) default)).bind fun x3 =>
  cond x3.2
  (some (.inr (.inr (x3.1,t8))))
  (some (.inl (x3.1,IntKind.i64.wrap (t8+(1:Int))))))
  (some (.inr (.inl sg)))

def iT {σ:Type}(f1:σ->aI->Option (σ×Bool))(sg:σ)(s0:(List aI))(t7:Int)(t8:Int):Option (σ×Int) :=
  (lp (fun s=>cK f1 s0 t7 s.1 s.2) (sg,t8)).bind (Sum.elim (fun rr=>fN f1 rr) (fun rr=>some (rr.1,rr.2)))

def iW {σ:Type}(s0:(List aI))(f1:σ->aI->Option (σ×Bool))(sg0:σ):Option (σ×Int) :=
  iT f1 sg0 s0 ((List.length s0:Nat):Int) (0:Int)

def kV (v0:aI)(t1:Int)(t2:(List aI)):Option (Bool×Int) :=
  bE (0<=(IntKind.i64.wrap (t1+(1:Int)))/\(IntKind.i64.wrap (t1+(1:Int)))<((List.length t2:Nat):Int)) <|
  some ((!((decide (v0.Kind=((List.getD t2 (Int.toNat (IntKind.i64.wrap (t1+(1:Int)))) default).Kind)))&&((decide (v0.Num=((List.getD t2 (Int.toNat (IntKind.i64.wrap (t1+(1:Int)))) default).Num)))&&((qL v0.Text ((List.getD t2 (Int.toNat (IntKind.i64.wrap (t1+(1:Int)))) default).Text))&&true)))),(IntKind.i64.wrap (t1+(1:Int))))

def lO (x0:Int):Option Bool :=
  some (!decide (x0=x0))

def qE (x0:Int)(y1:Int):Option Int :=
  (lO x0).bind fun x1 =>
  (lO y1).bind fun x4 =>
  cond x1
  (cond x4
  (some (0:Int))
  (some (-1:Int)))
  (cond x4
  (some (1:Int))
  (cond (decide (x0<y1))
  (some (-1:Int))
  (cond (decide (y1<x0))
  (some (1:Int))
  (some (0:Int)))))

def lX (x0:Int):Option Bool :=
  some (!decide (x0=x0))

def gW (x0:Int)(y1:Int):Option Int :=
  (lX x0).bind fun x1 =>
  (lX y1).bind fun x4 =>
  cond x1
  (cond x4
  (some (0:Int))
  (some (-1:Int)))
  (cond x4
  (some (1:Int))
  (cond (decide (x0<y1))
  (some (-1:Int))
  (cond (decide (y1<x0))
  (some (1:Int))
  (some (0:Int)))))

def kL (a0:ByteArray)(b1:ByteArray):Option Int :=
  some (SC a0 b1)

def nZ (a0:ByteArray)(b1:ByteArray):Option Int :=
  (kL a0 b1).bind fun x1 =>
  some x1

def sI (a0:aI)(b1:aI):Option Int :=
  (nB a0).bind fun (x1_0,x1_1) =>
  match x1_0 with
  | .none_=>((nB b1).bind fun (x6_0,x6_1) =>
  match x6_0 with
  | .none_=>(cond ((!x1_1)||(!x6_1))
  (some (0:Int))
  (none))
  | .k_number y9=>(cond ((!x1_1)||(!x6_1))
  (some (0:Int))
  (some (1:Int)))
  | .k_words y10=>(cond ((!x1_1)||(!x6_1))
  (some (0:Int))
  (none)))
  | .k_number y4=>((nB b1).bind fun (x23_0,x23_1) =>
  match x23_0 with
  | .none_=>(cond ((!x1_1)||(!x23_1))
  (some (0:Int))
  (some (-1:Int)))
  | .k_number y26=>(cond ((!x1_1)||(!x23_1))
  (some (0:Int))
  ((gW y4 y26).bind fun x33 =>
  some x33))
  | .k_words y27=>(cond ((!x1_1)||(!x23_1))
  (some (0:Int))
  (some (-1:Int))))
  | .k_words y5=>((nB b1).bind fun (x39_0,x39_1) =>
  match x39_0 with
  | .none_=>(cond ((!x1_1)||(!x39_1))
  (some (0:Int))
  (none))
  | .k_number y42=>(cond ((!x1_1)||(!x39_1))
  (some (0:Int))
  (some (1:Int)))
  | .k_words y43=>(cond ((!x1_1)||(!x39_1))
  (some (0:Int))
  ((nZ y5 y43).bind fun x56 =>
  some x56)))

def uZ (a0:(List aI))(b1:(List aI)):Option Int :=
  (xJ a0).bind fun x1 =>
  (cX (!(!x1)) (xJ b1)).bind fun x4 =>
  cond ((!x1)||(!x4))
  (some (0:Int))
  (bE (0<=(if ((List.length b1:Nat):Int)<((List.length a0:Nat):Int) then ((List.length b1:Nat):Int) else ((List.length a0:Nat):Int))/\(if ((List.length b1:Nat):Int)<((List.length a0:Nat):Int) then ((List.length b1:Nat):Int) else ((List.length a0:Nat):Int))<=((List.length a0:Nat):Int)) <|
  (wK b1).bind fun x9 =>
  (iW (List.take (Int.toNat (if ((List.length b1:Nat):Int)<((List.length a0:Nat):Int) then ((List.length b1:Nat):Int) else ((List.length a0:Nat):Int))) a0) (fun st y0=>(kV y0 st x9.2).bind fun o=>some (o.2,o.1)) x9.1).bind fun x12 =>
  cond (decide (x12.2<(0:Int)))
  ((qE ((List.length a0:Nat):Int) ((List.length b1:Nat):Int)).bind fun x15 =>
  some x15)
  (bE (0<=x12.2/\x12.2<((List.length a0:Nat):Int)) <|
  bE (0<=x12.2/\x12.2<((List.length b1:Nat):Int)) <|
  (sI (List.getD a0 (Int.toNat x12.2) default) (List.getD b1 (Int.toNat x12.2) default)).bind fun x20 =>
  some x20))

def qZ (wY:(List aB)->Option Bool)(mI:(List aF))(t4:Bool)(qK:(List aI))(lJ:Bool)(t14:(List aI))(t15:(List aB)):Option ((Bool×(List aI)×Bool)⊕(Bool×(List aI)×Bool)) :=
  (xJ t14).bind fun x7 =>
  (cX (lJ&&(!(!x7))) (uZ qK t14)).bind fun x12 =>
  (cX (!((!x7)||(lJ&&(decide ((0:Int)<=x12))))) (wY t15)).bind fun x15 =>
  cond (((!x7)||(lJ&&(decide ((0:Int)<=x12))))||(!x15))
  (some (.inr (false,qK,lJ)))
  (some (.inl (t4,t14,true)))

def AN (wY:(List aB)->Option Bool)(t4:Bool)(qK:(List aI))(lJ:Bool)(mI:(List aF)):Option Bool :=
  (nV (fun st t14 t15=>rnd (fun (s:Bool×(List aI)×Bool)=>qZ wY mI s.1 s.2.1 s.2.2 t14 t15) st) mI (.inl (t4,qK,lJ))).bind (Sum.elim (fun (s:Bool×(List aI)×Bool) =>
  (some true))
  (fun (s:Bool×(List aI)×Bool) =>
  (some s.1)))

def vU (l0:(List aF))(wY:(List aB)->Option Bool):Option Bool :=
  cond (decide ((4096:Int)<((List.length l0:Nat):Int)))
  (some false)
  ((qM l0).bind fun x5 =>
  AN wY false ([]) false x5)

def CJ (n0:Int):Option Bool :=
  some ((decide (n0<=(1048576:Int)))&&(decide ((-1048576:Int)<=n0)))

def yK  : Option Bool :=
  some true

def nN (t9:(List aB))(t10:Int)(sY:Int)(t11:Int):Option ((Int×Int)⊕(Unit⊕Bool)) :=
  cond (decide (t11<t10))
  (bE (0<=t11/\t11<((List.length t9:Nat):Int)) <|
  (cX (!(((decide (((List.getD t9 (Int.toNat t11) default).At)<=sY))||(decide ((1125899906842624:Int)<=((List.getD t9 (Int.toNat t11) default).At))))||(decide (((List.getD t9 (Int.toNat t11) default).Net)=(0:Int))))) (CJ ((List.getD t9 (Int.toNat t11) default).Net))).bind fun x8 =>
  cond ((((decide (((List.getD t9 (Int.toNat t11) default).At)<=sY))||(decide ((1125899906842624:Int)<=((List.getD t9 (Int.toNat t11) default).At))))||(decide (((List.getD t9 (Int.toNat t11) default).Net)=(0:Int))))||(!x8))
  (some (.inr (.inr false)))
  (some (.inl ((List.getD t9 (Int.toNat t11) default).At,IntKind.i64.wrap (t11+(1:Int))))))
  (some (.inr (.inl ())))

def CC (sY:Int)(t9:(List aB))(t10:Int)(t11:Int):Option Bool :=
  (lp (fun s=>nN t9 t10 s.1 s.2) (sY,t11)).bind (Sum.elim (fun rr=>yK ) (fun rr=>some rr))

def nP (f0:(List aB)):Option Bool :=
  cond (decide ((1024:Int)<((List.length f0:Nat):Int)))
  (some false)
  (CC (-2:Int) f0 ((List.length f0:Nat):Int) (0:Int))

def oU (l0:(List aF)):Option Bool :=
  (vU l0 (fun y0=>nP y0)).bind fun x1 =>
  some x1

def vD (iZ:Int):Option Int :=
  some iZ

def oE (t24:(List aB))(t25:Int)(v3:Int)(iZ:Int)(t26:Int):Option ((Int×Int×Int)⊕(Int)) :=
  cond (decide (t26<t25))
  (bE (0<=t26/\t26<((List.length t24:Nat):Int)) <|
  some (.inl (IntKind.i64.wrap (v3+((List.getD t24 (Int.toNat t26) default).Net)),if (IntKind.i64.wrap (v3+((List.getD t24 (Int.toNat t26) default).Net)))<iZ then (IntKind.i64.wrap (v3+((List.getD t24 (Int.toNat t26) default).Net))) else iZ,IntKind.i64.wrap (t26+(1:Int)))))
  (some (.inr iZ))

def vE (v3:Int)(iZ:Int)(t24:(List aB))(t25:Int)(t26:Int):Option Int :=
  (lp (fun s=>oE t24 t25 s.1 s.2.1 s.2.2) (v3,iZ,t26)).bind (fun rr=>vD rr)

def sB (f0:(List aB))(v3:Int)(iZ:Int):Option Int :=
  vE v3 iZ f0 ((List.length f0:Nat):Int) (0:Int)

def xF (f0:(List aB)):Option Int :=
  (nP f0).bind fun x1 =>
  cond ((!x1)||(decide (((List.length f0:Nat):Int)=(0:Int))))
  (some (0:Int))
  (bE (0<=(0:Int)/\(0:Int)<((List.length f0:Nat):Int)) <|
  cond (decide (((List.getD f0 (Int.toNat (0:Int)) default).At)=(-1:Int)))
  (bE (0<=(0:Int)/\(0:Int)<((List.length f0:Nat):Int)) <|
  sB f0 (0:Int) ((List.getD f0 (Int.toNat (0:Int)) default).Net))
  (sB f0 (0:Int) (0:Int)))

def tU (f0:(List aB)):Option Bool :=
  (nP f0).bind fun x1 =>
  (cX x1 (xF f0)).bind fun x4 =>
  some (x1&&(decide ((0:Int)<=x4)))

def pH (l0:(List aF)):Option Bool :=
  (vU l0 (fun y0=>tU y0)).bind fun x1 =>
  some x1

def qS (w0:bY)(l1:(List aF))(t2:Int):Option Int :=
  (qR w0).bind fun x1 =>
  (cX (!(!decide (x1=(0:Int)))) (oU l1)).bind fun x4 =>
  cond ((!decide (x1=(0:Int)))||(!x4))
  (some (2:Int))
  ((pH l1).bind fun x8 =>
  cond (!x8)
  (some (20:Int))
  (cond ((decide (t2<(0:Int)))||(decide ((1125899906842624:Int)<t2)))
  (some (13:Int))
  (some (0:Int))))

def zZ (mY:Int)(hop1:Int):Option Bool :=
  some ((((decide ((1:Int)<=mY))&&(decide (mY<=(1099511627776:Int))))&&(decide ((1:Int)<=hop1)))&&(decide (hop1<=(1099511627776:Int))))

def uF (t0:Int):Option Bool :=
  some ((decide ((0:Int)<=t0))&&(decide (t0<=(1125899906842624:Int))))

def xB (q7:Int)(r8:Int):Option (Int×Int×Int) :=
  some (q7,r8,(0:Int))

def yP (a0:Int)(b1:Int):Option (Int×Int×Int) :=
  cond (decide (b1<(1:Int)))
  (some ((0:Int),(0:Int),(2:Int)))
  (bE (b1≠0) <|
  bE (b1≠0) <|
  cond (decide ((Int.tmod a0 b1)<(0:Int)))
  (xB (IntKind.i64.wrap ((IntKind.i64.wrap (Int.tdiv a0 b1))-(1:Int))) (IntKind.i64.wrap ((Int.tmod a0 b1)+b1)))
  (xB (IntKind.i64.wrap (Int.tdiv a0 b1)) (Int.tmod a0 b1)))

def rH (hop0:Int)(n1:Int):Option Int :=
  cond (decide (n1<(0:Int)))
  (some (0:Int))
  ((yP n1 hop0).bind fun x2 =>
  some (IntKind.i64.wrap ((IntKind.i64.wrap (x2.1+(1:Int)))*hop0)))

def AF (mY:Int)(hop1:Int)(t2:Int):Option (Int×Int) :=
  (zZ mY hop1).bind fun x1 =>
  cond (!x1)
  (some ((0:Int),(2:Int)))
  ((uF t2).bind fun x5 =>
  cond (!x5)
  (some ((0:Int),(13:Int)))
  (cond (decide (t2=(1125899906842624:Int)))
  (some ((1125899906842624:Int),(0:Int)))
  ((rH hop1 (IntKind.i64.wrap (t2-mY))).bind fun x10 =>
  some (if (1125899906842624:Int)<x10 then (1125899906842624:Int) else x10,(0:Int)))))

def tJ (l0:(List aF))(n1:Int):Option Int :=
  (oU l0).bind fun x1 =>
  cond (((!x1)||(decide (n1<(1:Int))))||(decide ((64:Int)<n1)))
  (some (2:Int))
  ((pH l0).bind fun x5 =>
  cond (!x5)
  (some (20:Int))
  (some (0:Int)))

def qQ (l0:(List aF)):Option ((List aF)) :=
  some l0

def kW {σ:Type}(cH:σ->aF->Option (σ×Bool))(t5:(List aF))(t6:Int)(sg:σ)(t7:Int):Option ((σ×Int)⊕(σ⊕σ)) :=
  cond (decide (t7<t6))
  (bE (0<=t7/\t7<((List.length t5:Nat):Int)) <|
  (CN ((decide ((0:Int)<((List.getD t5 (Int.toNat t7) default).Net)))&&(decide ((-1:Int)<((List.getD t5 (Int.toNat t7) default).At)))) sg (cH sg (List.getD t5 (Int.toNat t7) default))).bind fun (x8,x9) =>
  cond (((decide ((0:Int)<((List.getD t5 (Int.toNat t7) default).Net)))&&(decide ((-1:Int)<((List.getD t5 (Int.toNat t7) default).At))))&&(!x9))
  (some (.inr (.inr x8)))
  (some (.inl (x8,IntKind.i64.wrap (t7+(1:Int))))))
  (some (.inr (.inl sg)))

def rN {σ:Type}(cH:σ->aF->Option (σ×Bool))(sg:σ)(t5:(List aF))(t6:Int)(t7:Int):Option σ :=
  (lp (fun s=>kW cH t5 t6 s.1 s.2) (sg,t7)).bind (Sum.elim (fun rr=>some rr) (fun rr=>some rr))

def nF {σ:Type}(cH:σ->aF->Option (σ×Bool))(t1:(List aF))(sg0:σ):Option σ :=
  rN cH sg0 t1 ((List.length t1:Nat):Int) (0:Int)

def nE (x0:Int)(n2:Int):Option Int :=
  bE (0<=(IntKind.u8.wrap x0)/\(IntKind.u8.wrap x0)<((ByteArray.size (⟨#[0,1,2,2,3,3,3,3,4,4,4,4,4,4,4,4,5,5,5,5,5,5,5,5,5,5,5,5,5,5,5,5,6,6,6,6,6,6,6,6,6,6,6,6,6,6,6,6,6,6,6,6,6,6,6,6,6,6,6,6,6,6,6,6,7,7,7,7,7,7,7,7,7,7,7,7,7,7,7,7,7,7,7,7,7,7,7,7,7,7,7,7,7,7,7,7,7,7,7,7,7,7,7,7,7,7,7,7,7,7,7,7,7,7,7,7,7,7,7,7,7,7,7,7,7,7,7,7,8,8,8,8,8,8,8,8,8,8,8,8,8,8,8,8,8,8,8,8,8,8,8,8,8,8,8,8,8,8,8,8,8,8,8,8,8,8,8,8,8,8,8,8,8,8,8,8,8,8,8,8,8,8,8,8,8,8,8,8,8,8,8,8,8,8,8,8,8,8,8,8,8,8,8,8,8,8,8,8,8,8,8,8,8,8,8,8,8,8,8,8,8,8,8,8,8,8,8,8,8,8,8,8,8,8,8,8,8,8,8,8,8,8,8,8,8,8,8,8,8,8,8,8,8,8,8,8]⟩:ByteArray):Nat):Int)) <|
  some (IntKind.i64.wrap (n2+(IntKind.i64.wrap (bt (⟨#[0,1,2,2,3,3,3,3,4,4,4,4,4,4,4,4,5,5,5,5,5,5,5,5,5,5,5,5,5,5,5,5,6,6,6,6,6,6,6,6,6,6,6,6,6,6,6,6,6,6,6,6,6,6,6,6,6,6,6,6,6,6,6,6,7,7,7,7,7,7,7,7,7,7,7,7,7,7,7,7,7,7,7,7,7,7,7,7,7,7,7,7,7,7,7,7,7,7,7,7,7,7,7,7,7,7,7,7,7,7,7,7,7,7,7,7,7,7,7,7,7,7,7,7,7,7,7,7,8,8,8,8,8,8,8,8,8,8,8,8,8,8,8,8,8,8,8,8,8,8,8,8,8,8,8,8,8,8,8,8,8,8,8,8,8,8,8,8,8,8,8,8,8,8,8,8,8,8,8,8,8,8,8,8,8,8,8,8,8,8,8,8,8,8,8,8,8,8,8,8,8,8,8,8,8,8,8,8,8,8,8,8,8,8,8,8,8,8,8,8,8,8,8,8,8,8,8,8,8,8,8,8,8,8,8,8,8,8,8,8,8,8,8,8,8,8,8,8,8,8,8,8,8,8,8,8]⟩:ByteArray) (IntKind.u8.wrap x0)))))

def lV (x0:Int)(n2:Int):Option Int :=
  cond (decide ((256:Int)<=x0))
  (bE (0<=(8:Int)) <|
  nE (Int.fdiv x0 (2 ^ (min (Int.toNat (8:Int)) 64))) (IntKind.i64.wrap (n2+(8:Int))))
  (nE x0 n2)

def lW (x0:Int)(n2:Int):Option Int :=
  cond (decide ((65536:Int)<=x0))
  (bE (0<=(16:Int)) <|
  lV (Int.fdiv x0 (2 ^ (min (Int.toNat (16:Int)) 64))) (IntKind.i64.wrap (n2+(16:Int))))
  (lV x0 n2)

def qF (x0:Int):Option Int :=
  cond (decide ((4294967296:Int)<=x0))
  (bE (0<=(32:Int)) <|
  lW (Int.fdiv x0 (2 ^ (min (Int.toNat (32:Int)) 64))) (32:Int))
  (lW x0 (0:Int))

def lG (x0:Int):Option Int :=
  (qF x0).bind fun x2 =>
  some x2

def dK (x0:Int)(y1:Int):Option Bool :=
  (lO x0).bind fun x1 =>
  (cX x1 (lO y1)).bind fun x4 =>
  some ((x1&&(!x4))||(decide (x0<y1)))

def iC (aA:List Int)(a1:Int)(b2:Int)(i6:Int):Option ((List Int×Int)⊕((List Int))) :=
  some (.inl (aA,IntKind.i64.wrap (i6+(1:Int))))

def fJ (a1:Int)(b2:Int)(i6:Int)(aA:List Int)(j7:Int):Option ((List Int×Int)⊕((List Int))) :=
  bE ((((decide (a1<j7)))=true->0<=j7/\j7<((List.length aA:Nat):Int))) <|
  bE ((((decide (a1<j7)))=true->0<=(IntKind.i64.wrap (j7-(1:Int)))/\(IntKind.i64.wrap (j7-(1:Int)))<((List.length aA:Nat):Int))) <|
  (cX (decide (a1<j7)) (dK (List.getD aA (Int.toNat j7) default) (List.getD aA (Int.toNat (IntKind.i64.wrap (j7-(1:Int)))) default))).bind fun x4 =>
  cond ((decide (a1<j7))&&x4)
  (bE (0<=(IntKind.i64.wrap (j7-(1:Int)))/\(IntKind.i64.wrap (j7-(1:Int)))<((List.length aA:Nat):Int)) <|
  bE (0<=j7/\j7<((List.length aA:Nat):Int)) <|
  bE (0<=j7/\j7<((List.length aA:Nat):Int)) <|
  bE (0<=(IntKind.i64.wrap (j7-(1:Int)))/\(IntKind.i64.wrap (j7-(1:Int)))<((List.length aA:Nat):Int)) <|
  some (.inl (List.set (List.set aA (Int.toNat j7) (List.getD aA (Int.toNat (IntKind.i64.wrap (j7-(1:Int)))) default)) (Int.toNat (IntKind.i64.wrap (j7-(1:Int)))) (List.getD aA (Int.toNat j7) default),IntKind.i64.wrap (j7-(1:Int)))))
  (some (.inr aA))

def kD (aA:List Int)(a1:Int)(b2:Int)(i6:Int)(j7:Int):Option ((List Int×Int)⊕((List Int))) :=
  (lp (fun s=>fJ a1 b2 i6 s.1 s.2) (aA,j7)).bind (fun rr=>iC rr a1 b2 i6)

def dU (a1:Int)(b2:Int)(aA:List Int)(i6:Int):Option ((List Int×Int)⊕((List Int))) :=
  cond (decide (i6<b2))
  (kD aA a1 b2 i6 i6)
  (some (.inr aA))

def kC (aA:List Int)(a1:Int)(b2:Int)(i6:Int):Option (List Int) :=
  (lp (fun s=>dU a1 b2 s.1 s.2) (aA,i6)).bind (fun rr=>some rr)

def iK (aA:(List Int))(a1:Int)(b2:Int):Option (List Int) :=
  kC aA a1 b2 (IntKind.i64.wrap (a1+(1:Int)))

def iE (aA:List Int)(hi2:Int)(bO:Int)(cI:Int)(eH:Int):Option ((List Int×Int)⊕((List Int)⊕(List Int))) :=
  bE (0<=(IntKind.i64.wrap (bO+cI))/\(IntKind.i64.wrap (bO+cI))<((List.length aA:Nat):Int)) <|
  bE (0<=(IntKind.i64.wrap (bO+eH))/\(IntKind.i64.wrap (bO+eH))<((List.length aA:Nat):Int)) <|
  (dK (List.getD aA (Int.toNat (IntKind.i64.wrap (bO+cI))) default) (List.getD aA (Int.toNat (IntKind.i64.wrap (bO+eH))) default)).bind fun x4 =>
  cond (!x4)
  (some (.inr (.inr aA)))
  (bE (0<=(IntKind.i64.wrap (bO+eH))/\(IntKind.i64.wrap (bO+eH))<((List.length aA:Nat):Int)) <|
  bE (0<=(IntKind.i64.wrap (bO+cI))/\(IntKind.i64.wrap (bO+cI))<((List.length aA:Nat):Int)) <|
  bE (0<=(IntKind.i64.wrap (bO+cI))/\(IntKind.i64.wrap (bO+cI))<((List.length aA:Nat):Int)) <|
  bE (0<=(IntKind.i64.wrap (bO+eH))/\(IntKind.i64.wrap (bO+eH))<((List.length aA:Nat):Int)) <|
  some (.inl (List.set (List.set aA (Int.toNat (IntKind.i64.wrap (bO+cI))) (List.getD aA (Int.toNat (IntKind.i64.wrap (bO+eH))) default)) (Int.toNat (IntKind.i64.wrap (bO+eH))) (List.getD aA (Int.toNat (IntKind.i64.wrap (bO+cI))) default),eH)))

def dQ (hi2:Int)(bO:Int)(aA:List Int)(cI:Int):Option ((List Int×Int)⊕((List Int)⊕(List Int))) :=
  cond (decide (hi2<=(IntKind.i64.wrap ((IntKind.i64.wrap ((2:Int)*cI))+(1:Int)))))
  (some (.inr (.inl aA)))
  (bE ((((decide ((IntKind.i64.wrap ((IntKind.i64.wrap ((IntKind.i64.wrap ((2:Int)*cI))+(1:Int)))+(1:Int)))<hi2)))=true->0<=(IntKind.i64.wrap (bO+(IntKind.i64.wrap ((IntKind.i64.wrap ((2:Int)*cI))+(1:Int)))))/\(IntKind.i64.wrap (bO+(IntKind.i64.wrap ((IntKind.i64.wrap ((2:Int)*cI))+(1:Int)))))<((List.length aA:Nat):Int))) <|
  bE ((((decide ((IntKind.i64.wrap ((IntKind.i64.wrap ((IntKind.i64.wrap ((2:Int)*cI))+(1:Int)))+(1:Int)))<hi2)))=true->0<=(IntKind.i64.wrap ((IntKind.i64.wrap (bO+(IntKind.i64.wrap ((IntKind.i64.wrap ((2:Int)*cI))+(1:Int)))))+(1:Int)))/\(IntKind.i64.wrap ((IntKind.i64.wrap (bO+(IntKind.i64.wrap ((IntKind.i64.wrap ((2:Int)*cI))+(1:Int)))))+(1:Int)))<((List.length aA:Nat):Int))) <|
  (cX (decide ((IntKind.i64.wrap ((IntKind.i64.wrap ((IntKind.i64.wrap ((2:Int)*cI))+(1:Int)))+(1:Int)))<hi2)) (dK (List.getD aA (Int.toNat (IntKind.i64.wrap (bO+(IntKind.i64.wrap ((IntKind.i64.wrap ((2:Int)*cI))+(1:Int)))))) default) (List.getD aA (Int.toNat (IntKind.i64.wrap ((IntKind.i64.wrap (bO+(IntKind.i64.wrap ((IntKind.i64.wrap ((2:Int)*cI))+(1:Int)))))+(1:Int)))) default))).bind fun x14 =>
  cond ((decide ((IntKind.i64.wrap ((IntKind.i64.wrap ((IntKind.i64.wrap ((2:Int)*cI))+(1:Int)))+(1:Int)))<hi2))&&x14)
  (iE aA hi2 bO cI (IntKind.i64.wrap ((IntKind.i64.wrap ((IntKind.i64.wrap ((2:Int)*cI))+(1:Int)))+(1:Int))))
  (iE aA hi2 bO cI (IntKind.i64.wrap ((IntKind.i64.wrap ((2:Int)*cI))+(1:Int)))))

def lU (aA:List Int)(hi2:Int)(bO:Int)(cI:Int):Option (List Int) :=
  (lp (fun s=>dQ hi2 bO s.1 s.2) (aA,cI)).bind (Sum.elim (fun rr=>some rr) (fun rr=>some rr))

def fZ (aA:(List Int))(lo1:Int)(hi2:Int)(bO:Int):Option (List Int) :=
  lU aA hi2 bO lo1

def eM (bU:Int)(lo7:Int)(aA:List Int)(i10:Int):Option ((List Int×Int)⊕((List Int))) :=
  cond (decide ((0:Int)<=i10))
  (bE (0<=(IntKind.i64.wrap (bU+i10))/\(IntKind.i64.wrap (bU+i10))<((List.length aA:Nat):Int)) <|
  bE (0<=bU/\bU<((List.length aA:Nat):Int)) <|
  bE (0<=bU/\bU<((List.length aA:Nat):Int)) <|
  bE (0<=(IntKind.i64.wrap (bU+i10))/\(IntKind.i64.wrap (bU+i10))<((List.length aA:Nat):Int)) <|
  (fZ (List.set (List.set aA (Int.toNat bU) (List.getD aA (Int.toNat (IntKind.i64.wrap (bU+i10))) default)) (Int.toNat (IntKind.i64.wrap (bU+i10))) (List.getD aA (Int.toNat bU) default)) lo7 i10 bU).bind fun x6 =>
  some (.inl (x6,IntKind.i64.wrap (i10-(1:Int)))))
  (some (.inr aA))

def lS (aA:List Int)(bU:Int)(lo7:Int)(i10:Int):Option (List Int) :=
  (lp (fun s=>eM bU lo7 s.1 s.2) (aA,i10)).bind (fun rr=>some rr)

def jX (aA:List Int)(bU:Int)(lo7:Int)(hi8:Int):Option (List Int) :=
  lS aA bU lo7 (IntKind.i64.wrap (hi8-(1:Int)))

def eK (bU:Int)(lo7:Int)(hi8:Int)(aA:List Int)(i9:Int):Option ((List Int×Int)⊕((List Int))) :=
  cond (decide ((0:Int)<=i9))
  ((fZ aA i9 hi8 bU).bind fun x11 =>
  some (.inl (x11,IntKind.i64.wrap (i9-(1:Int)))))
  (some (.inr aA))

def lT (aA:List Int)(bU:Int)(lo7:Int)(hi8:Int)(i9:Int):Option (List Int) :=
  (lp (fun s=>eK bU lo7 hi8 s.1 s.2) (aA,i9)).bind (fun rr=>jX rr bU lo7 hi8)

def kG (aA:(List Int))(a1:Int)(b2:Int):Option (List Int) :=
  bE ((2:Int)≠0) <|
  lT aA a1 (0:Int) (IntKind.i64.wrap (b2-a1)) (IntKind.i64.wrap (Int.tdiv (IntKind.i64.wrap ((IntKind.i64.wrap (b2-a1))-(1:Int))) (2:Int)))

def mK (HL:Int):Option Int :=
  (lG (IntKind.u64.wrap HL)).bind fun x1 =>
  bE (0<=x1) <|
  some (IntKind.u64.wrap ((1:Int)*2 ^ (min (Int.toNat x1) 64)))

def mX (r0:Int):Option (Int×Int) :=
  bE (0<=(13:Int)) <|
  bE (0<=(7:Int)) <|
  bE (0<=(17:Int)) <|
  some (bT .xor .u64 (bT .xor .u64 (bT .xor .u64 r0 (IntKind.u64.wrap (r0*2 ^ (min (Int.toNat (13:Int)) 64)))) (Int.fdiv (bT .xor .u64 r0 (IntKind.u64.wrap (r0*2 ^ (min (Int.toNat (13:Int)) 64)))) (2 ^ (min (Int.toNat (7:Int)) 64)))) (IntKind.u64.wrap ((bT .xor .u64 (bT .xor .u64 r0 (IntKind.u64.wrap (r0*2 ^ (min (Int.toNat (13:Int)) 64)))) (Int.fdiv (bT .xor .u64 r0 (IntKind.u64.wrap (r0*2 ^ (min (Int.toNat (13:Int)) 64)))) (2 ^ (min (Int.toNat (7:Int)) 64))))*2 ^ (min (Int.toNat (17:Int)) 64))),bT .xor .u64 (bT .xor .u64 (bT .xor .u64 r0 (IntKind.u64.wrap (r0*2 ^ (min (Int.toNat (13:Int)) 64)))) (Int.fdiv (bT .xor .u64 r0 (IntKind.u64.wrap (r0*2 ^ (min (Int.toNat (13:Int)) 64)))) (2 ^ (min (Int.toNat (7:Int)) 64)))) (IntKind.u64.wrap ((bT .xor .u64 (bT .xor .u64 r0 (IntKind.u64.wrap (r0*2 ^ (min (Int.toNat (13:Int)) 64)))) (Int.fdiv (bT .xor .u64 r0 (IntKind.u64.wrap (r0*2 ^ (min (Int.toNat (13:Int)) 64)))) (2 ^ (min (Int.toNat (7:Int)) 64))))*2 ^ (min (Int.toNat (17:Int)) 64))))

def fL (aA:List Int)(a1:Int)(kU:Int)(mT:Int)(jL:Int)(idx9:Int)(gO:Int):Option ((List Int×Int×Int)⊕((List Int))) :=
  bE (0<=(IntKind.i64.wrap (a1+gO))/\(IntKind.i64.wrap (a1+gO))<((List.length aA:Nat):Int)) <|
  bE (0<=idx9/\idx9<((List.length aA:Nat):Int)) <|
  bE (0<=idx9/\idx9<((List.length aA:Nat):Int)) <|
  bE (0<=(IntKind.i64.wrap (a1+gO))/\(IntKind.i64.wrap (a1+gO))<((List.length aA:Nat):Int)) <|
  some (.inl (List.set (List.set aA (Int.toNat idx9) (List.getD aA (Int.toNat (IntKind.i64.wrap (a1+gO))) default)) (Int.toNat (IntKind.i64.wrap (a1+gO))) (List.getD aA (Int.toNat idx9) default),mT,IntKind.i64.wrap (idx9+(1:Int))))

def dM (a1:Int)(kU:Int)(jL:Int)(aA:List Int)(mT:Int)(idx9:Int):Option ((List Int×Int×Int)⊕((List Int))) :=
  bE ((4:Int)≠0) <|
  cond (decide (idx9<=(IntKind.i64.wrap ((IntKind.i64.wrap (a1+(IntKind.i64.wrap ((IntKind.i64.wrap (Int.tdiv kU (4:Int)))*(2:Int)))))+(1:Int)))))
  ((mX mT).bind fun x9 =>
  cond (decide (kU<=(IntKind.i64.wrap (bT .and .u64 x9.1 (IntKind.u64.wrap (jL-(1:Int)))))))
  (fL aA a1 kU x9.2 jL idx9 (IntKind.i64.wrap ((IntKind.i64.wrap (bT .and .u64 x9.1 (IntKind.u64.wrap (jL-(1:Int)))))-kU)))
  (fL aA a1 kU x9.2 jL idx9 (IntKind.i64.wrap (bT .and .u64 x9.1 (IntKind.u64.wrap (jL-(1:Int)))))))
  (some (.inr aA))

def jZ (aA:List Int)(a1:Int)(kU:Int)(mT:Int)(jL:Int)(idx9:Int):Option (List Int) :=
  (lp (fun s=>dM a1 kU jL s.1 s.2.1 s.2.2) (aA,mT,idx9)).bind (fun rr=>some rr)

def iJ (aA:(List Int))(a1:Int)(b2:Int):Option (List Int) :=
  cond (decide ((8:Int)<=(IntKind.i64.wrap (b2-a1))))
  ((mK (IntKind.i64.wrap (b2-a1))).bind fun x3 =>
  bE ((4:Int)≠0) <|
  jZ aA a1 (IntKind.i64.wrap (b2-a1)) (IntKind.u64.wrap (IntKind.i64.wrap (b2-a1))) x3 (IntKind.i64.wrap ((IntKind.i64.wrap (a1+(IntKind.i64.wrap ((IntKind.i64.wrap (Int.tdiv (IntKind.i64.wrap (b2-a1)) (4:Int)))*(2:Int)))))-(1:Int))))
  (some aA)

def gX (aA:(List Int))(a1:Int)(b2:Int)(vJ:Int):Option ((Int×Int)×Int) :=
  bE (0<=b2/\b2<((List.length aA:Nat):Int)) <|
  bE (0<=a1/\a1<((List.length aA:Nat):Int)) <|
  (dK (List.getD aA (Int.toNat b2) default) (List.getD aA (Int.toNat a1) default)).bind fun x3 =>
  cond x3
  (some ((b2,a1),IntKind.i64.wrap (vJ+(1:Int))))
  (some ((a1,b2),vJ))

def jD (aA:(List Int))(a1:Int)(b2:Int)(c3:Int)(KZ:Int):Option (Int×Int) :=
  (gX aA a1 b2 KZ).bind fun x1 =>
  (gX aA x1.1.2 c3 x1.2).bind fun x6 =>
  (gX aA x1.1.1 x6.1.1 x6.2).bind fun x11 =>
  some (x11.1.2,x11.2)

def eE (aA:(List Int))(a1:Int)(LQ:Int):Option (Int×Int) :=
  (jD aA (IntKind.i64.wrap (a1-(1:Int))) a1 (IntKind.i64.wrap (a1+(1:Int))) LQ).bind fun x1 =>
  some (x1.1,x1.2)

def fY (aA:List Int)(nQ:Int)(j11:Int):Option (Int×Int) :=
  cond (decide (nQ=(0:Int)))
  (some (j11,(1:Int)))
  (cond (decide (nQ=(12:Int)))
  (some (j11,(2:Int)))
  (some (j11,(0:Int))))

def gE (aA:List Int)(nQ:Int)(i10:Int)(j11:Int)(k12:Int):Option (Int×Int) :=
  (jD aA i10 j11 k12 nQ).bind fun x8 =>
  fY aA x8.2 x8.1

def jA (aA:(List Int))(a1:Int)(b2:Int):Option (Int×Int) :=
  bE ((4:Int)≠0) <|
  bE ((4:Int)≠0) <|
  bE ((4:Int)≠0) <|
  cond (decide ((8:Int)<=(IntKind.i64.wrap (b2-a1))))
  (cond (decide ((50:Int)<=(IntKind.i64.wrap (b2-a1))))
  ((eE aA (IntKind.i64.wrap (a1+(IntKind.i64.wrap ((IntKind.i64.wrap (Int.tdiv (IntKind.i64.wrap (b2-a1)) (4:Int)))*(1:Int))))) 0).bind fun x14 =>
  (eE aA (IntKind.i64.wrap (a1+(IntKind.i64.wrap ((IntKind.i64.wrap (Int.tdiv (IntKind.i64.wrap (b2-a1)) (4:Int)))*(2:Int))))) x14.2).bind fun x19 =>
  (eE aA (IntKind.i64.wrap (a1+(IntKind.i64.wrap ((IntKind.i64.wrap (Int.tdiv (IntKind.i64.wrap (b2-a1)) (4:Int)))*(3:Int))))) x19.2).bind fun x24 =>
  gE aA x24.2 x14.1 x19.1 x24.1)
  (gE aA 0 (IntKind.i64.wrap (a1+(IntKind.i64.wrap ((IntKind.i64.wrap (Int.tdiv (IntKind.i64.wrap (b2-a1)) (4:Int)))*(1:Int))))) (IntKind.i64.wrap (a1+(IntKind.i64.wrap ((IntKind.i64.wrap (Int.tdiv (IntKind.i64.wrap (b2-a1)) (4:Int)))*(2:Int))))) (IntKind.i64.wrap (a1+(IntKind.i64.wrap ((IntKind.i64.wrap (Int.tdiv (IntKind.i64.wrap (b2-a1)) (4:Int)))*(3:Int)))))))
  (fY aA 0 (IntKind.i64.wrap (a1+(IntKind.i64.wrap ((IntKind.i64.wrap (Int.tdiv (IntKind.i64.wrap (b2-a1)) (4:Int)))*(2:Int))))))

def dW  (aA:List Int)(i6:Int)(j7:Int):Option ((List Int×Int×Int)⊕((List Int))) :=
  cond (decide (i6<j7))
  (bE (0<=j7/\j7<((List.length aA:Nat):Int)) <|
  bE (0<=i6/\i6<((List.length aA:Nat):Int)) <|
  bE (0<=i6/\i6<((List.length aA:Nat):Int)) <|
  bE (0<=j7/\j7<((List.length aA:Nat):Int)) <|
  some (.inl (List.set (List.set aA (Int.toNat i6) (List.getD aA (Int.toNat j7) default)) (Int.toNat j7) (List.getD aA (Int.toNat i6) default),IntKind.i64.wrap (i6+(1:Int)),IntKind.i64.wrap (j7-(1:Int)))))
  (some (.inr aA))

def kH (aA:List Int)(i6:Int)(j7:Int):Option (List Int) :=
  (lp (fun s=>dW s.1 s.2.1 s.2.2) (aA,i6,j7)).bind (fun rr=>some rr)

def iV (aA:(List Int))(a1:Int)(b2:Int):Option (List Int) :=
  kH aA a1 (IntKind.i64.wrap (b2-(1:Int)))

def eY (aA:List Int):Option (Bool×List Int) :=
  some (false,aA)

def dY (aA:List Int)(a1:Int)(b2:Int)(i7:Int)(j8:Int):Option ((List Int×Int×Int)⊕((List Int)⊕(Bool×(List Int)))) :=
  some (.inl (aA,i7,IntKind.i64.wrap (j8+(1:Int))))

def cU (a1:Int)(b2:Int)(i7:Int)(j8:Int)(aA:List Int)(j10:Int):Option ((List Int×Int)⊕((List Int))) :=
  cond (decide (j10<b2))
  (bE (0<=j10/\j10<((List.length aA:Nat):Int)) <|
  bE (0<=(IntKind.i64.wrap (j10-(1:Int)))/\(IntKind.i64.wrap (j10-(1:Int)))<((List.length aA:Nat):Int)) <|
  (dK (List.getD aA (Int.toNat j10) default) (List.getD aA (Int.toNat (IntKind.i64.wrap (j10-(1:Int)))) default)).bind fun x12 =>
  cond (!x12)
  (some (.inr aA))
  (bE (0<=(IntKind.i64.wrap (j10-(1:Int)))/\(IntKind.i64.wrap (j10-(1:Int)))<((List.length aA:Nat):Int)) <|
  bE (0<=j10/\j10<((List.length aA:Nat):Int)) <|
  bE (0<=j10/\j10<((List.length aA:Nat):Int)) <|
  bE (0<=(IntKind.i64.wrap (j10-(1:Int)))/\(IntKind.i64.wrap (j10-(1:Int)))<((List.length aA:Nat):Int)) <|
  some (.inl (List.set (List.set aA (Int.toNat j10) (List.getD aA (Int.toNat (IntKind.i64.wrap (j10-(1:Int)))) default)) (Int.toNat (IntKind.i64.wrap (j10-(1:Int)))) (List.getD aA (Int.toNat j10) default),IntKind.i64.wrap (j10+(1:Int))))))
  (some (.inr aA))

def gY (aA:List Int)(a1:Int)(b2:Int)(i7:Int)(j8:Int)(j10:Int):Option ((List Int×Int×Int)⊕((List Int)⊕(Bool×(List Int)))) :=
  (lp (fun s=>cU a1 b2 i7 j8 s.1 s.2) (aA,j10)).bind (fun rr=>dY rr a1 b2 i7 j8)

def cN (aA:List Int)(a1:Int)(b2:Int)(i7:Int)(j8:Int):Option ((List Int×Int×Int)⊕((List Int)⊕(Bool×(List Int)))) :=
  cond (decide ((2:Int)<=(IntKind.i64.wrap (b2-i7))))
  (gY aA a1 b2 i7 j8 (IntKind.i64.wrap (i7+(1:Int))))
  (dY aA a1 b2 i7 j8)

def cO (a1:Int)(b2:Int)(i7:Int)(j8:Int)(aA:List Int)(j9:Int):Option ((List Int×Int)⊕((List Int))) :=
  cond (decide ((1:Int)<=j9))
  (bE (0<=j9/\j9<((List.length aA:Nat):Int)) <|
  bE (0<=(IntKind.i64.wrap (j9-(1:Int)))/\(IntKind.i64.wrap (j9-(1:Int)))<((List.length aA:Nat):Int)) <|
  (dK (List.getD aA (Int.toNat j9) default) (List.getD aA (Int.toNat (IntKind.i64.wrap (j9-(1:Int)))) default)).bind fun x24 =>
  cond (!x24)
  (some (.inr aA))
  (bE (0<=(IntKind.i64.wrap (j9-(1:Int)))/\(IntKind.i64.wrap (j9-(1:Int)))<((List.length aA:Nat):Int)) <|
  bE (0<=j9/\j9<((List.length aA:Nat):Int)) <|
  bE (0<=j9/\j9<((List.length aA:Nat):Int)) <|
  bE (0<=(IntKind.i64.wrap (j9-(1:Int)))/\(IntKind.i64.wrap (j9-(1:Int)))<((List.length aA:Nat):Int)) <|
  some (.inl (List.set (List.set aA (Int.toNat j9) (List.getD aA (Int.toNat (IntKind.i64.wrap (j9-(1:Int)))) default)) (Int.toNat (IntKind.i64.wrap (j9-(1:Int)))) (List.getD aA (Int.toNat j9) default),IntKind.i64.wrap (j9-(1:Int))))))
  (some (.inr aA))

def gZ (aA:List Int)(a1:Int)(b2:Int)(i7:Int)(j8:Int)(j9:Int):Option ((List Int×Int×Int)⊕((List Int)⊕(Bool×(List Int)))) :=
  (lp (fun s=>cO a1 b2 i7 j8 s.1 s.2) (aA,j9)).bind (fun rr=>cN rr a1 b2 i7 j8)

def eZ (aA:List Int)(a1:Int)(b2:Int)(i7:Int)(j8:Int):Option ((List Int×Int×Int)⊕((List Int)⊕(Bool×(List Int)))) :=
  cond (decide (i7=b2))
  (some (.inr (.inr (true,aA))))
  (cond (decide ((IntKind.i64.wrap (b2-a1))<(50:Int)))
  (some (.inr (.inr (false,aA))))
  (bE (0<=(IntKind.i64.wrap (i7-(1:Int)))/\(IntKind.i64.wrap (i7-(1:Int)))<((List.length aA:Nat):Int)) <|
  bE (0<=i7/\i7<((List.length aA:Nat):Int)) <|
  bE (0<=i7/\i7<((List.length aA:Nat):Int)) <|
  bE (0<=(IntKind.i64.wrap (i7-(1:Int)))/\(IntKind.i64.wrap (i7-(1:Int)))<((List.length aA:Nat):Int)) <|
  cond (decide ((2:Int)<=(IntKind.i64.wrap (i7-a1))))
  (gZ (List.set (List.set aA (Int.toNat i7) (List.getD aA (Int.toNat (IntKind.i64.wrap (i7-(1:Int)))) default)) (Int.toNat (IntKind.i64.wrap (i7-(1:Int)))) (List.getD aA (Int.toNat i7) default)) a1 b2 i7 j8 (IntKind.i64.wrap (i7-(1:Int))))
  (cN (List.set (List.set aA (Int.toNat i7) (List.getD aA (Int.toNat (IntKind.i64.wrap (i7-(1:Int)))) default)) (Int.toNat (IntKind.i64.wrap (i7-(1:Int)))) (List.getD aA (Int.toNat i7) default)) a1 b2 i7 j8)))

def cV (a1:Int)(b2:Int)(j8:Int)(aA:List Int)(i7:Int):Option ((List Int×Int)⊕((List Int×Int))) :=
  bE ((((decide (i7<b2)))=true->0<=i7/\i7<((List.length aA:Nat):Int))) <|
  bE ((((decide (i7<b2)))=true->0<=(IntKind.i64.wrap (i7-(1:Int)))/\(IntKind.i64.wrap (i7-(1:Int)))<((List.length aA:Nat):Int))) <|
  (cX (decide (i7<b2)) (dK (List.getD aA (Int.toNat i7) default) (List.getD aA (Int.toNat (IntKind.i64.wrap (i7-(1:Int)))) default))).bind fun x34 =>
  cond ((decide (i7<b2))&&(!x34))
  (some (.inl (aA,IntKind.i64.wrap (i7+(1:Int)))))
  (some (.inr (aA,i7)))

def dO (aA:List Int)(a1:Int)(b2:Int)(i7:Int)(j8:Int):Option ((List Int×Int×Int)⊕((List Int)⊕(Bool×(List Int)))) :=
  (lp (fun s=>cV a1 b2 j8 s.1 s.2) (aA,i7)).bind (fun rr=>eZ rr.1 a1 b2 rr.2 j8)

def cB (a1:Int)(b2:Int)(aA:List Int)(i7:Int)(j8:Int):Option ((List Int×Int×Int)⊕((List Int)⊕(Bool×(List Int)))) :=
  cond (decide (j8<(5:Int)))
  (dO aA a1 b2 i7 j8)
  (some (.inr (.inl aA)))

def hY (aA:List Int)(a1:Int)(b2:Int)(i7:Int)(j8:Int):Option (Bool×List Int) :=
  (lp (fun s=>cB a1 b2 s.1 s.2.1 s.2.2) (aA,i7,j8)).bind (Sum.elim (fun rr=>eY rr) (fun rr=>some (rr.1,rr.2)))

def fF (aA:(List Int))(a1:Int)(b2:Int):Option (Bool×List Int) :=
  hY aA a1 b2 (IntKind.i64.wrap (a1+(1:Int))) (0:Int)

def jU (aA:List Int)(i9:Int):Option (Int×List Int) :=
  some (i9,aA)

def dZ (aA:List Int)(a1:Int)(i9:Int)(j10:Int):Option ((List Int×Int×Int)⊕((List Int×Int))) :=
  cond (decide (j10<i9))
  (some (.inr (aA,i9)))
  (bE (0<=j10/\j10<((List.length aA:Nat):Int)) <|
  bE (0<=i9/\i9<((List.length aA:Nat):Int)) <|
  bE (0<=i9/\i9<((List.length aA:Nat):Int)) <|
  bE (0<=j10/\j10<((List.length aA:Nat):Int)) <|
  some (.inl (List.set (List.set aA (Int.toNat i9) (List.getD aA (Int.toNat j10) default)) (Int.toNat j10) (List.getD aA (Int.toNat i9) default),IntKind.i64.wrap (i9+(1:Int)),IntKind.i64.wrap (j10-(1:Int)))))

def eA (a1:Int)(i9:Int)(aA:List Int)(j10:Int):Option ((List Int×Int)⊕((List Int×Int))) :=
  bE ((((decide (i9<=j10)))=true->0<=a1/\a1<((List.length aA:Nat):Int))) <|
  bE ((((decide (i9<=j10)))=true->0<=j10/\j10<((List.length aA:Nat):Int))) <|
  (cX (decide (i9<=j10)) (dK (List.getD aA (Int.toNat a1) default) (List.getD aA (Int.toNat j10) default))).bind fun x12 =>
  cond ((decide (i9<=j10))&&x12)
  (some (.inl (aA,IntKind.i64.wrap (j10-(1:Int)))))
  (some (.inr (aA,j10)))

def jN (aA:List Int)(a1:Int)(i9:Int)(j10:Int):Option ((List Int×Int×Int)⊕((List Int×Int))) :=
  (lp (fun s=>eA a1 i9 s.1 s.2) (aA,j10)).bind (fun rr=>dZ rr.1 a1 i9 rr.2)

def gS (aA:List Int)(a1:Int)(i9:Int)(j10:Int):Option ((List Int×Int×Int)⊕((List Int×Int))) :=
  jN aA a1 i9 j10

def eB (a1:Int)(j10:Int)(aA:List Int)(i9:Int):Option ((List Int×Int)⊕((List Int×Int))) :=
  bE ((((decide (i9<=j10)))=true->0<=a1/\a1<((List.length aA:Nat):Int))) <|
  bE ((((decide (i9<=j10)))=true->0<=i9/\i9<((List.length aA:Nat):Int))) <|
  (cX (decide (i9<=j10)) (dK (List.getD aA (Int.toNat a1) default) (List.getD aA (Int.toNat i9) default))).bind fun x18 =>
  cond ((decide (i9<=j10))&&(!x18))
  (some (.inl (aA,IntKind.i64.wrap (i9+(1:Int)))))
  (some (.inr (aA,i9)))

def jS (aA:List Int)(a1:Int)(i9:Int)(j10:Int):Option ((List Int×Int×Int)⊕((List Int×Int))) :=
  (lp (fun s=>eB a1 j10 s.1 s.2) (aA,i9)).bind (fun rr=>gS rr.1 a1 rr.2 j10)

def dH (a1:Int)(aA:List Int)(i9:Int)(j10:Int):Option ((List Int×Int×Int)⊕((List Int×Int))) :=
  jS aA a1 i9 j10

def jO (aA:List Int)(a1:Int)(i9:Int)(j10:Int):Option (Int×List Int) :=
  (lp (fun s=>dH a1 s.1 s.2.1 s.2.2) (aA,i9,j10)).bind (fun rr=>jU rr.1 rr.2)

def fK (aA:(List Int))(a1:Int)(b2:Int)(cQ:Int):Option (Int×List Int) :=
  bE (0<=cQ/\cQ<((List.length aA:Nat):Int)) <|
  bE (0<=a1/\a1<((List.length aA:Nat):Int)) <|
  bE (0<=a1/\a1<((List.length aA:Nat):Int)) <|
  bE (0<=cQ/\cQ<((List.length aA:Nat):Int)) <|
  jO (List.set (List.set aA (Int.toNat a1) (List.getD aA (Int.toNat cQ) default)) (Int.toNat cQ) (List.getD aA (Int.toNat a1) default)) a1 (IntKind.i64.wrap (a1+(1:Int))) (IntKind.i64.wrap (b2-(1:Int)))

def jG (aA:List Int)(a1:Int)(j11:Int):Option ((Int×Bool)×List Int) :=
  bE (0<=a1/\a1<((List.length aA:Nat):Int)) <|
  bE (0<=j11/\j11<((List.length aA:Nat):Int)) <|
  bE (0<=j11/\j11<((List.length aA:Nat):Int)) <|
  bE (0<=a1/\a1<((List.length aA:Nat):Int)) <|
  some ((j11,false),(List.set (List.set aA (Int.toNat j11) (List.getD aA (Int.toNat a1) default)) (Int.toNat a1) (List.getD aA (Int.toNat j11) default)))

def fC (aA:List Int)(a1:Int)(i10:Int)(j11:Int):Option ((List Int×Int×Int)⊕((List Int×Int))) :=
  cond (decide (j11<i10))
  (some (.inr (aA,j11)))
  (bE (0<=j11/\j11<((List.length aA:Nat):Int)) <|
  bE (0<=i10/\i10<((List.length aA:Nat):Int)) <|
  bE (0<=i10/\i10<((List.length aA:Nat):Int)) <|
  bE (0<=j11/\j11<((List.length aA:Nat):Int)) <|
  some (.inl (List.set (List.set aA (Int.toNat i10) (List.getD aA (Int.toNat j11) default)) (Int.toNat j11) (List.getD aA (Int.toNat i10) default),IntKind.i64.wrap (i10+(1:Int)),IntKind.i64.wrap (j11-(1:Int)))))

def fE (a1:Int)(i10:Int)(aA:List Int)(j11:Int):Option ((List Int×Int)⊕((List Int×Int))) :=
  bE ((((decide (i10<=j11)))=true->0<=j11/\j11<((List.length aA:Nat):Int))) <|
  bE ((((decide (i10<=j11)))=true->0<=a1/\a1<((List.length aA:Nat):Int))) <|
  (cX (decide (i10<=j11)) (dK (List.getD aA (Int.toNat j11) default) (List.getD aA (Int.toNat a1) default))).bind fun x25 =>
  cond ((decide (i10<=j11))&&(!x25))
  (some (.inl (aA,IntKind.i64.wrap (j11-(1:Int)))))
  (some (.inr (aA,j11)))

def lK (aA:List Int)(a1:Int)(i10:Int)(j11:Int):Option ((List Int×Int×Int)⊕((List Int×Int))) :=
  (lp (fun s=>fE a1 i10 s.1 s.2) (aA,j11)).bind (fun rr=>fC rr.1 a1 i10 rr.2)

def jJ (aA:List Int)(a1:Int)(i10:Int)(j11:Int):Option ((List Int×Int×Int)⊕((List Int×Int))) :=
  lK aA a1 i10 j11

def fD (a1:Int)(j11:Int)(aA:List Int)(i10:Int):Option ((List Int×Int)⊕((List Int×Int))) :=
  bE ((((decide (i10<=j11)))=true->0<=i10/\i10<((List.length aA:Nat):Int))) <|
  bE ((((decide (i10<=j11)))=true->0<=a1/\a1<((List.length aA:Nat):Int))) <|
  (cX (decide (i10<=j11)) (dK (List.getD aA (Int.toNat i10) default) (List.getD aA (Int.toNat a1) default))).bind fun x31 =>
  cond ((decide (i10<=j11))&&x31)
  (some (.inl (aA,IntKind.i64.wrap (i10+(1:Int)))))
  (some (.inr (aA,i10)))

def lM (aA:List Int)(a1:Int)(i10:Int)(j11:Int):Option ((List Int×Int×Int)⊕((List Int×Int))) :=
  (lp (fun s=>fD a1 j11 s.1 s.2) (aA,i10)).bind (fun rr=>jJ rr.1 a1 rr.2 j11)

def dV (a1:Int)(aA:List Int)(i10:Int)(j11:Int):Option ((List Int×Int×Int)⊕((List Int×Int))) :=
  lM aA a1 i10 j11

def kZ (aA:List Int)(a1:Int)(i10:Int)(j11:Int):Option ((Int×Bool)×List Int) :=
  (lp (fun s=>dV a1 s.1 s.2.1 s.2.2) (aA,i10,j11)).bind (fun rr=>jG rr.1 a1 rr.2)

def fI (aA:List Int)(a1:Int)(i10:Int)(j11:Int):Option ((Int×Bool)×List Int) :=
  cond (decide (j11<i10))
  (bE (0<=a1/\a1<((List.length aA:Nat):Int)) <|
  bE (0<=j11/\j11<((List.length aA:Nat):Int)) <|
  bE (0<=j11/\j11<((List.length aA:Nat):Int)) <|
  bE (0<=a1/\a1<((List.length aA:Nat):Int)) <|
  some ((j11,true),(List.set (List.set aA (Int.toNat j11) (List.getD aA (Int.toNat a1) default)) (Int.toNat a1) (List.getD aA (Int.toNat j11) default))))
  (bE (0<=j11/\j11<((List.length aA:Nat):Int)) <|
  bE (0<=i10/\i10<((List.length aA:Nat):Int)) <|
  bE (0<=i10/\i10<((List.length aA:Nat):Int)) <|
  bE (0<=j11/\j11<((List.length aA:Nat):Int)) <|
  kZ (List.set (List.set aA (Int.toNat i10) (List.getD aA (Int.toNat j11) default)) (Int.toNat j11) (List.getD aA (Int.toNat i10) default)) a1 (IntKind.i64.wrap (i10+(1:Int))) (IntKind.i64.wrap (j11-(1:Int))))

def fA (a1:Int)(i10:Int)(aA:List Int)(j11:Int):Option ((List Int×Int)⊕((List Int×Int))) :=
  bE ((((decide (i10<=j11)))=true->0<=j11/\j11<((List.length aA:Nat):Int))) <|
  bE ((((decide (i10<=j11)))=true->0<=a1/\a1<((List.length aA:Nat):Int))) <|
  (cX (decide (i10<=j11)) (dK (List.getD aA (Int.toNat j11) default) (List.getD aA (Int.toNat a1) default))).bind fun x37 =>
  cond ((decide (i10<=j11))&&(!x37))
  (some (.inl (aA,IntKind.i64.wrap (j11-(1:Int)))))
  (some (.inr (aA,j11)))

def lI (aA:List Int)(a1:Int)(i10:Int)(j11:Int):Option ((Int×Bool)×List Int) :=
  (lp (fun s=>fA a1 i10 s.1 s.2) (aA,j11)).bind (fun rr=>fI rr.1 a1 i10 rr.2)

def jF (aA:List Int)(a1:Int)(i10:Int)(j11:Int):Option ((Int×Bool)×List Int) :=
  lI aA a1 i10 j11

def eW (a1:Int)(j11:Int)(aA:List Int)(i10:Int):Option ((List Int×Int)⊕((List Int×Int))) :=
  bE ((((decide (i10<=j11)))=true->0<=i10/\i10<((List.length aA:Nat):Int))) <|
  bE ((((decide (i10<=j11)))=true->0<=a1/\a1<((List.length aA:Nat):Int))) <|
  (cX (decide (i10<=j11)) (dK (List.getD aA (Int.toNat i10) default) (List.getD aA (Int.toNat a1) default))).bind fun x43 =>
  cond ((decide (i10<=j11))&&x43)
  (some (.inl (aA,IntKind.i64.wrap (i10+(1:Int)))))
  (some (.inr (aA,i10)))

def gM (aA:List Int)(a1:Int)(i10:Int)(j11:Int):Option ((Int×Bool)×List Int) :=
  (lp (fun s=>eW a1 j11 s.1 s.2) (aA,i10)).bind (fun rr=>jF rr.1 a1 rr.2 j11)

def iD (aA:(List Int))(a1:Int)(b2:Int)(cQ:Int):Option ((Int×Bool)×List Int) :=
  bE (0<=cQ/\cQ<((List.length aA:Nat):Int)) <|
  bE (0<=a1/\a1<((List.length aA:Nat):Int)) <|
  bE (0<=a1/\a1<((List.length aA:Nat):Int)) <|
  bE (0<=cQ/\cQ<((List.length aA:Nat):Int)) <|
  gM (List.set (List.set aA (Int.toNat a1) (List.getD aA (Int.toNat cQ) default)) (Int.toNat cQ) (List.getD aA (Int.toNat a1) default)) a1 (IntKind.i64.wrap (a1+(1:Int))) (IntKind.i64.wrap (b2-(1:Int)))

def iO (rec:(List Int)->Int->Int->Int->Option (List Int))(aA:List Int)(a1:Int)(b2:Int)(cE:Int)(bZ:Bool)(bS:Bool)(eF:Int)(gU:Int):Option ((List Int×Int×Int×Int×Bool×Bool)⊕((List Int))) :=
  bE ((((decide ((0:Int)<a1)))=true->0<=(IntKind.i64.wrap (a1-(1:Int)))/\(IntKind.i64.wrap (a1-(1:Int)))<((List.length aA:Nat):Int))) <|
  bE ((((decide ((0:Int)<a1)))=true->0<=gU/\gU<((List.length aA:Nat):Int))) <|
  (cX (decide ((0:Int)<a1)) (dK (List.getD aA (Int.toNat (IntKind.i64.wrap (a1-(1:Int)))) default) (List.getD aA (Int.toNat gU) default))).bind fun x16 =>
  cond ((decide ((0:Int)<a1))&&(!x16))
  ((fK aA a1 b2 gU).bind fun x20 =>
  some (.inl (x20.2,x20.1,b2,cE,bZ,bS)))
  ((iD aA a1 b2 gU).bind fun x23 =>
  bE ((8:Int)≠0) <|
  cond (decide ((IntKind.i64.wrap (x23.1.1-a1))<(IntKind.i64.wrap (b2-x23.1.1))))
  ((rec x23.2 a1 x23.1.1 cE).bind fun x28 =>
  some (.inl (x28,IntKind.i64.wrap (x23.1.1+(1:Int)),b2,cE,decide ((IntKind.i64.wrap (Int.tdiv eF (8:Int)))<=(IntKind.i64.wrap (x23.1.1-a1))),x23.1.2)))
  ((rec x23.2 (IntKind.i64.wrap (x23.1.1+(1:Int))) b2 cE).bind fun x31 =>
  some (.inl (x31,a1,x23.1.1,cE,decide ((IntKind.i64.wrap (Int.tdiv eF (8:Int)))<=(IntKind.i64.wrap (b2-x23.1.1))),x23.1.2))))

def iN (rec:(List Int)->Int->Int->Int->Option (List Int))(aA:List Int)(a1:Int)(b2:Int)(cE:Int)(bZ:Bool)(bS:Bool)(eF:Int)(gU:Int)(HH:Int):Option ((List Int×Int×Int×Int×Bool×Bool)⊕((List Int))) :=
  cond ((bZ&&bS)&&(decide (HH=(1:Int))))
  ((fF aA a1 b2).bind fun x35 =>
  cond x35.1
  (some (.inr x35.2))
  (iO rec x35.2 a1 b2 cE bZ bS eF gU))
  (iO rec aA a1 b2 cE bZ bS eF gU)

def iM (rec:(List Int)->Int->Int->Int->Option (List Int))(aA:List Int)(a1:Int)(b2:Int)(cE:Int)(bZ:Bool)(bS:Bool)(eF:Int):Option ((List Int×Int×Int×Int×Bool×Bool)⊕((List Int))) :=
  (jA aA a1 b2).bind fun x9 =>
  cond (decide (x9.2=(2:Int)))
  ((iV aA a1 b2).bind fun x40 =>
  iN rec x40 a1 b2 cE bZ bS eF (IntKind.i64.wrap ((IntKind.i64.wrap (b2-(1:Int)))-(IntKind.i64.wrap (x9.1-a1)))) (1:Int))
  (iN rec aA a1 b2 cE bZ bS eF x9.1 x9.2)

def eT (rec:(List Int)->Int->Int->Int->Option (List Int))  (aA:List Int)(a1:Int)(b2:Int)(cE:Int)(bZ:Bool)(bS:Bool):Option ((List Int×Int×Int×Int×Bool×Bool)⊕((List Int))) :=
  cond (decide ((IntKind.i64.wrap (b2-a1))<=(12:Int)))
  ((iK aA a1 b2).bind fun x2 =>
  some (.inr x2))
  (cond (decide (cE=(0:Int)))
  ((kG aA a1 b2).bind fun x6 =>
  some (.inr x6))
  (cond (!bZ)
  ((iJ aA a1 b2).bind fun x44 =>
  iM rec x44 a1 b2 (IntKind.i64.wrap (cE-(1:Int))) bZ bS (IntKind.i64.wrap (b2-a1)))
  (iM rec aA a1 b2 cE bZ bS (IntKind.i64.wrap (b2-a1)))))

def mE (rec:(List Int)->Int->Int->Int->Option (List Int))(aA:List Int)(a1:Int)(b2:Int)(cE:Int)(bZ:Bool)(bS:Bool):Option (List Int) :=
  (lp (fun s=>eT rec s.1 s.2.1 s.2.2.1 s.2.2.2.1 s.2.2.2.2.1 s.2.2.2.2.2) (aA,a1,b2,cE,bZ,bS)).bind (fun rr=>some rr)

def gR (rec:(List Int)->Int->Int->Int->Option (List Int))(aA:(List Int))(a1:Int)(b2:Int)(cE:Int):Option (List Int) :=
  mE rec aA a1 b2 cE true true

def dS  : Nat->(List Int)->Int->Int->Int->Option (List Int)
  | 0=>fun _ _ _ _=>none
  | k+1=>gR (dS k)

def kK (aA:(List Int))(a1:Int)(b2:Int)(cE:Int):Option (List Int):=XJ (fun k=>dS k aA a1 b2 cE)

def gT (x0:(List Int)):Option (List Int) :=
  (lG (IntKind.u64.wrap ((List.length x0:Nat):Int))).bind fun x1 =>
  (kK x0 (0:Int) ((List.length x0:Nat):Int) x1).bind fun x4 =>
  some x4

def lP (s0:List Int):Option (List Int) :=
  some s0

def nI (s0:List Int)(k3:Int):Option ((List Int×Int)⊕((List Int)⊕(List Int))) :=
  some (.inl (s0,IntKind.i64.wrap (k3+(1:Int))))

def lB (s0:List Int)(k3:Int):Option ((List Int×Int)⊕((List Int)⊕(List Int))) :=
  bE (0<=k3/\k3<=((List.length s0:Nat):Int)) <|
  bE (0<=k3/\k3<=((List.length (kQ (0+Int.toNat k3) s0):Nat):Int)) <|
  bE (Int.toNat k3<=List.length (kQ (0+Int.toNat k3) s0)) <|
  some (.inr (.inr (List.take (Int.toNat k3) (kQ (0+Int.toNat k3) s0))))

def jR (s0:List Int)(k3:Int)(k25:Int)(s24o:Nat)(s24n:Nat):Option ((List Int×Int×Int)⊕((List Int×Int))) :=
  some (.inl (s0,k3,IntKind.i64.wrap (k25+(1:Int))))

def fX (s24o:Nat)(s24n:Nat)(s0:List Int)(k3:Int)(k25:Int):Option ((List Int×Int×Int)⊕((List Int×Int))) :=
  cond (decide (k25<((s24n:Nat):Int)))
  (bE (0<=k25/\k25<((s24n:Nat):Int)) <|
  bE ((s24o+Int.toNat k25)<List.length s0) <|
  bE (0<=(IntKind.i64.wrap (k25-(1:Int)))/\(IntKind.i64.wrap (k25-(1:Int)))<((s24n:Nat):Int)) <|
  bE ((s24o+Int.toNat (IntKind.i64.wrap (k25-(1:Int))))<List.length s0) <|
  cond (!decide ((List.getD s0 (s24o+Int.toNat k25) default)=(List.getD s0 (s24o+Int.toNat (IntKind.i64.wrap (k25-(1:Int)))) default)))
  (bE (0<=k25/\k25<((s24n:Nat):Int)) <|
  bE ((s24o+Int.toNat k25)<List.length s0) <|
  bE (0<=k3/\k3<((List.length s0:Nat):Int)) <|
  jR (List.set s0 (Int.toNat k3) (List.getD s0 (s24o+Int.toNat k25) default)) (IntKind.i64.wrap (k3+(1:Int))) k25 s24o s24n)
  (jR s0 k3 k25 s24o s24n))
  (some (.inr (s0,k3)))

def nK (s0:List Int)(k3:Int)(k25:Int)(s24o:Nat)(s24n:Nat):Option ((List Int×Int)⊕((List Int)⊕(List Int))) :=
  (lp (fun s=>fX s24o s24n s.1 s.2.1 s.2.2) (s0,k3,k25)).bind (fun rr=>lB rr.1 rr.2)

def iH  (s0:List Int)(k3:Int):Option ((List Int×Int)⊕((List Int)⊕(List Int))) :=
  cond (decide (k3<((List.length s0:Nat):Int)))
  (bE (0<=k3/\k3<((List.length s0:Nat):Int)) <|
  bE (0<=(IntKind.i64.wrap (k3-(1:Int)))/\(IntKind.i64.wrap (k3-(1:Int)))<((List.length s0:Nat):Int)) <|
  cond (decide ((List.getD s0 (Int.toNat k3) default)=(List.getD s0 (Int.toNat (IntKind.i64.wrap (k3-(1:Int)))) default)))
  (bE (0<=k3/\k3<=((List.length s0:Nat):Int)) <|
  nK s0 k3 (1:Int) (0+Int.toNat k3) (List.length s0-Int.toNat k3))
  (nI s0 k3))
  (some (.inr (.inl s0)))

def nJ (s0:List Int)(k3:Int):Option (List Int) :=
  (lp (fun s=>iH s.1 s.2) (s0,k3)).bind (Sum.elim (fun rr=>lP rr) (fun rr=>some rr))

def kE (s0:(List Int)):Option (List Int) :=
  cond (decide (((List.length s0:Nat):Int)<(2:Int)))
  (some s0)
  (nJ s0 (1:Int))

def rF (t7c0:(List aF))(out3:List Int)(t8:aF):Option ((List Int)⊕(List Int)) :=
  bE ((List.length out3+List.length ([t8.At]))*8<=140737488355328/\List.length out3+List.length ([t8.At])<=9223372036854775807) <|
  some (.inl (out3++([t8.At])))

def uI (out3:List Int)(t7c0:(List aF)):Option (List Int) :=
  (nF (fun st t8=>rnd (fun (s:List Int)=>rF t7c0 s t8) st) t7c0 (.inl out3)).bind (Sum.elim (fun (s:List Int) =>
  ((gT s).bind fun x10 =>
  (kE x10).bind fun x13 =>
  some x13))
  (fun (s:List Int) =>
  (none)))

def pP (l0:(List aF)):Option (List Int) :=
  (qQ l0).bind fun x3 =>
  uI ([]:List Int) x3

def pK (x0:Int):Option Bool :=
  some (!decide (x0=x0))

def jH (x0:(List Int))(gF:Int)(n6:Int)(i7:Int):Option (Int×Bool) :=
  bE ((((decide (i7<n6)))=true->0<=i7/\i7<((List.length x0:Nat):Int))) <|
  bE ((((!(decide ((List.getD x0 (Int.toNat i7) default)=gF)))&&(decide (i7<n6)))=true->0<=i7/\i7<((List.length x0:Nat):Int))) <|
  (cX ((!(decide ((List.getD x0 (Int.toNat i7) default)=gF)))&&(decide (i7<n6))) (pK (List.getD x0 (Int.toNat i7) default))).bind fun x3 =>
  (cX (x3&&((!(decide ((List.getD x0 (Int.toNat i7) default)=gF)))&&(decide (i7<n6)))) (pK gF)).bind fun x6 =>
  some (i7,(decide (i7<n6))&&((decide ((List.getD x0 (Int.toNat i7) default)=gF))||(x3&&x6)))

def fB (x0:(List Int))(gF:Int)(n6:Int)(i7:Int)(j8:Int):Option ((Int×Int)⊕(Int)) :=
  cond (decide (i7<j8))
  (bE (0<=(1:Int)) <|
  bE (0<=(IntKind.i64.wrap (Int.fdiv (IntKind.u64.wrap (IntKind.i64.wrap (i7+j8))) (2 ^ (min (Int.toNat (1:Int)) 64))))/\(IntKind.i64.wrap (Int.fdiv (IntKind.u64.wrap (IntKind.i64.wrap (i7+j8))) (2 ^ (min (Int.toNat (1:Int)) 64))))<((List.length x0:Nat):Int)) <|
  (dK (List.getD x0 (Int.toNat (IntKind.i64.wrap (Int.fdiv (IntKind.u64.wrap (IntKind.i64.wrap (i7+j8))) (2 ^ (min (Int.toNat (1:Int)) 64))))) default) gF).bind fun x12 =>
  cond x12
  (some (.inl (IntKind.i64.wrap ((IntKind.i64.wrap (Int.fdiv (IntKind.u64.wrap (IntKind.i64.wrap (i7+j8))) (2 ^ (min (Int.toNat (1:Int)) 64))))+(1:Int)),j8)))
  (some (.inl (i7,IntKind.i64.wrap (Int.fdiv (IntKind.u64.wrap (IntKind.i64.wrap (i7+j8))) (2 ^ (min (Int.toNat (1:Int)) 64)))))))
  (some (.inr i7))

def lH (x0:(List Int))(gF:Int)(n6:Int)(i7:Int)(j8:Int):Option (Int×Bool) :=
  (lp (fun s=>fB x0 gF n6 s.1 s.2) (i7,j8)).bind (fun rr=>jH x0 gF n6 rr)

def fQ (x0:(List Int))(gF:Int):Option (Int×Bool) :=
  lH x0 gF ((List.length x0:Nat):Int) (0:Int) ((List.length x0:Nat):Int)

def vO (l0:(List aF))(n1:Int)(t2:Int):Option (Int×Int) :=
  (tJ l0 n1).bind fun x1 =>
  cond (!decide (x1=(0:Int)))
  (some ((0:Int),x1))
  (cond ((decide (t2<(0:Int)))||(decide ((1125899906842624:Int)<t2)))
  (some ((0:Int),(13:Int)))
  (cond (decide (t2=(1125899906842624:Int)))
  (some (t2,(0:Int)))
  ((pP l0).bind fun x7 =>
  (fQ x7 t2).bind fun x10 =>
  cond (decide ((if (IntKind.i64.wrap ((IntKind.i64.wrap (x10.1-n1))+(1:Int)))>(0:Int) then (IntKind.i64.wrap ((IntKind.i64.wrap (x10.1-n1))+(1:Int))) else (0:Int))=x10.1))
  (some (t2,(0:Int)))
  (bE (0<=(if (IntKind.i64.wrap ((IntKind.i64.wrap (x10.1-n1))+(1:Int)))>(0:Int) then (IntKind.i64.wrap ((IntKind.i64.wrap (x10.1-n1))+(1:Int))) else (0:Int))/\(if (IntKind.i64.wrap ((IntKind.i64.wrap (x10.1-n1))+(1:Int)))>(0:Int) then (IntKind.i64.wrap ((IntKind.i64.wrap (x10.1-n1))+(1:Int))) else (0:Int))<((List.length x7:Nat):Int)) <|
  some (List.getD x7 (Int.toNat (if (IntKind.i64.wrap ((IntKind.i64.wrap (x10.1-n1))+(1:Int)))>(0:Int) then (IntKind.i64.wrap ((IntKind.i64.wrap (x10.1-n1))+(1:Int))) else (0:Int))) default,(0:Int))))))

def oM (w0:bY)(l1:(List aF))(t2:Int):Option (Int×Int) :=
  (qS w0 l1 t2).bind fun x1 =>
  cond (!decide (x1=(0:Int)))
  (some ((0:Int),x1))
  (cond (decide (w0.Kind=(2:Int)))
  ((AF w0.Size w0.Hop t2).bind fun x6 =>
  some (if t2<x6.1 then t2 else x6.1,x6.2))
  (cond (decide (w0.Kind=(3:Int)))
  ((vO l1 w0.Size t2).bind fun x10 =>
  some (x10.1,x10.2))
  (some (t2,(0:Int)))))

def wQ (t1:Int):Option Int :=
  some t1

def sQ (t1:Int)(t7:(List aF))(t8:Int)(t9:Int):Option ((Int×Int)⊕(Int)) :=
  some (.inl (t1,IntKind.i64.wrap (t9+(1:Int))))

def pL (t7:(List aF))(t8:Int)(t1:Int)(t9:Int):Option ((Int×Int)⊕(Int)) :=
  cond (decide (t9<t8))
  (bE (0<=t9/\t9<((List.length t7:Nat):Int)) <|
  cond (decide ((0:Int)<((List.getD t7 (Int.toNat t9) default).Net)))
  (sQ (if (IntKind.i64.wrap (((List.getD t7 (Int.toNat t9) default).At)+(1:Int)))>t1 then (IntKind.i64.wrap (((List.getD t7 (Int.toNat t9) default).At)+(1:Int))) else t1) t7 t8 t9)
  (sQ t1 t7 t8 t9))
  (some (.inr t1))

def wP (t1:Int)(t7:(List aF))(t8:Int)(t9:Int):Option Int :=
  (lp (fun s=>pL t7 t8 s.1 s.2) (t1,t9)).bind (fun rr=>wQ rr)

def tH (l0:(List aF))(t1:Int):Option Int :=
  wP t1 l0 ((List.length l0:Nat):Int) (0:Int)

def rZ (l0:(List aF)):Option ((List aF)) :=
  some l0

def lY {σ:Type}(cH:σ->(List aI)->(List aB)->Option (σ×Bool))(t9c0:(List aF))(sg:σ)(t10:(List aI))(t11:(List aB)):Option ((σ)⊕(σ)) :=
  (cH sg t10 t11).bind fun x7 =>
  cond (!x7.2)
  (some (.inr x7.1))
  (some (.inl x7.1))

def sG {σ:Type}(cH:σ->(List aI)->(List aB)->Option (σ×Bool))(sg:σ)(t9c0:(List aF)):Option σ :=
  (nV (fun st t10 t11=>rnd (fun (s:σ)=>lY cH t9c0 s t10 t11) st) t9c0 (.inl sg)).bind (Sum.elim (fun (s:σ) =>
  (some s))
  (fun (s:σ) =>
  (some s)))

def oC {σ:Type}(cH:σ->(List aI)->(List aB)->Option (σ×Bool))(t1:(List aF))(sg0:σ):Option σ :=
  (oU t1).bind fun x1 =>
  cond (!x1)
  (some sg0)
  ((qM t1).bind fun x5 =>
  sG cH sg0 x5)

def CB (f0:(List aB)):Option ((List aB)) :=
  some f0

def oP {σ:Type}(cH:σ->bJ->Option (σ×Bool))(sg:σ)(n3:Int)(kR:Int):Option σ :=
  cond (decide ((0:Int)<n3))
  ((cH sg (bJ.mk kR (1125899906842624:Int))).bind fun x2 =>
  some x2.1)
  (some sg)

def nC {σ:Type}(cH:σ->bJ->Option (σ×Bool))(sg:σ)(n3:Int)(kR:Int)(j6:aB)(t7:(List aB))(t8:Int)(t9:Int):Option ((σ×Int×Int×Int)⊕((σ×Int×Int)⊕σ)) :=
  (CN (decide ((IntKind.i64.wrap (n3+j6.Net))=(0:Int))) sg (cH sg (bJ.mk kR j6.At))).bind fun (x10,x11) =>
  cond ((decide ((IntKind.i64.wrap (n3+j6.Net))=(0:Int)))&&(!x11))
  (some (.inr (.inr x10)))
  (some (.inl (x10,IntKind.i64.wrap (n3+j6.Net),kR,IntKind.i64.wrap (t9+(1:Int)))))

def gV {σ:Type}(cH:σ->bJ->Option (σ×Bool))(t7:(List aB))(t8:Int)(sg:σ)(n3:Int)(kR:Int)(t9:Int):Option ((σ×Int×Int×Int)⊕((σ×Int×Int)⊕σ)) :=
  cond (decide (t9<t8))
  (bE (0<=t9/\t9<((List.length t7:Nat):Int)) <|
  cond (decide (n3=(0:Int)))
  (nC cH sg n3 ((List.getD t7 (Int.toNat t9) default).At) (List.getD t7 (Int.toNat t9) default) t7 t8 t9)
  (nC cH sg n3 kR (List.getD t7 (Int.toNat t9) default) t7 t8 t9))
  (some (.inr (.inl (sg,n3,kR))))

def uM {σ:Type}(cH:σ->bJ->Option (σ×Bool))(sg:σ)(n3:Int)(kR:Int)(t7:(List aB))(t8:Int)(t9:Int):Option σ :=
  (lp (fun s=>gV cH t7 t8 s.1 s.2.1 s.2.2.1 s.2.2.2) (sg,n3,kR,t9)).bind (Sum.elim (fun rr=>oP cH rr.1 rr.2.1 rr.2.2) (fun rr=>some rr))

def sF {σ:Type}(cH:σ->bJ->Option (σ×Bool))(t1:(List aB))(sg0:σ):Option σ :=
  uM cH sg0 (0:Int) (0:Int) t1 ((List.length t1:Nat):Int) (0:Int)

def BA (mY:Int)(hop1:Int)(s2:bJ)(mQ:Int)(kF:Int):Option ((Int×bJ×Int×Int×Int)) :=
  some (hop1,s2,mY,mQ,kF)

def jY {σ:Type}(cH:σ->Int->Option (σ×Bool))(t1:Int)(t2:bJ)(t5:Int)(sg:σ)(t8:Int):Option ((σ×Int)⊕(σ⊕σ)) :=
  cond (decide (t8<(if (1125899906842624:Int)<(if t5<t2.To then t5 else t2.To) then (1125899906842624:Int) else (if t5<t2.To then t5 else t2.To))))
  ((cH sg t8).bind fun x8 =>
  cond (!x8.2)
  (some (.inr (.inr x8.1)))
  (some (.inl (x8.1,IntKind.i64.wrap (t8+t1)))))
  (some (.inr (.inl sg)))

def qC {σ:Type}(cH:σ->Int->Option (σ×Bool))(sg:σ)(t1:Int)(t2:bJ)(t5:Int)(t8:Int):Option σ :=
  (lp (fun s=>jY cH t1 t2 t5 s.1 s.2) (sg,t8)).bind (Sum.elim (fun rr=>some rr) (fun rr=>some rr))

def rI {σ:Type}(cH:σ->Int->Option (σ×Bool))(t1:Int)(t2:bJ)(t3:Int)(t4:Int)(t5:Int)(sg0:σ):Option σ :=
  (rH t1 (IntKind.i64.wrap (t2.From-t3))).bind fun x1 =>
  (rH t1 (IntKind.i64.wrap (t4-(1:Int)))).bind fun x4 =>
  qC cH sg0 t1 t2 t5 (if x4>x1 then x4 else x1)

def xT (v5:Int):Option Int :=
  some v5

def oY (t1:Int)(t11:(List aB))(t12:Int)(v5:Int)(t13:Int):Option ((Int×Int)⊕(Int)) :=
  cond (decide (t13<t12))
  (bE (0<=t13/\t13<((List.length t11:Nat):Int)) <|
  cond (decide (t1<((List.getD t11 (Int.toNat t13) default).At)))
  (some (.inr v5))
  (some (.inl (IntKind.i64.wrap (v5+((List.getD t11 (Int.toNat t13) default).Net)),IntKind.i64.wrap (t13+(1:Int))))))
  (some (.inr v5))

def DP (t1:Int)(v5:Int)(t11:(List aB))(t12:Int)(t13:Int):Option Int :=
  (lp (fun s=>oY t1 t11 t12 s.1 s.2) (v5,t13)).bind (fun rr=>xT rr)

def zW (f0:(List aB))(t1:Int):Option Int :=
  (nP f0).bind fun x1 =>
  cond (!x1)
  (some (0:Int))
  (DP t1 (0:Int) f0 ((List.length f0:Nat):Int) (0:Int))

def xU (n5:Int):Option Int :=
  some n5

def qT (w3:bJ)(n5:Int)(t12:(List aB))(t13:Int)(t14:Int):Option ((Int×Int)⊕(Int)) :=
  some (.inl (n5,IntKind.i64.wrap (t14+(1:Int))))

def qO (w3:bJ)(t12:(List aB))(t13:Int)(n5:Int)(t14:Int):Option ((Int×Int)⊕(Int)) :=
  cond (decide (t14<t13))
  (bE (0<=t14/\t14<((List.length t12:Nat):Int)) <|
  cond ((decide (w3.From<((List.getD t12 (Int.toNat t14) default).At)))&&(decide (((List.getD t12 (Int.toNat t14) default).At)<w3.To)))
  (qT w3 (IntKind.i64.wrap (n5+(if (0:Int)>((List.getD t12 (Int.toNat t14) default).Net) then (0:Int) else ((List.getD t12 (Int.toNat t14) default).Net)))) t12 t13 t14)
  (qT w3 n5 t12 t13 t14))
  (some (.inr n5))

def xW (w3:bJ)(n5:Int)(t12:(List aB))(t13:Int)(t14:Int):Option Int :=
  (lp (fun s=>qO w3 t12 t13 s.1 s.2) (n5,t14)).bind (fun rr=>xU rr)

def vT (f0:(List aB))(w1:bJ):Option Int :=
  (zW f0 w1.From).bind fun x1 =>
  xW w1 x1 f0 ((List.length f0:Nat):Int) (0:Int)

def shP (a b:Nat)(p:aK):List (Nat×Nat×List V):=[(a,3,[(.agg [(eI p.Span.From),(eI p.Span.To),(.msl 2 b 0 (List.length p.Rows))])]),(b,2,List.map bK p.Rows)]

def shF (a _b:Nat)(p:aK):List (Nat×Nat×List V):=[(a,3,[(aO p)])]

def pW (r:List aI)(f:List aB)(p:aK):Option aK :=
  bE ((!(decide ((wR ((lN p.Rows)-(1:Int)))<(0:Int))))=true->0<=(wR ((lN p.Rows)-(1:Int)))/\(wR ((lN p.Rows)-(1:Int)))<(lN p.Rows)) <|
  (cX (!(decide ((wR ((lN p.Rows)-(1:Int)))<(0:Int)))) (sK ((gD p.Rows (wR ((lN p.Rows)-(1:Int)))).Row) r)).bind fun x1 =>
  cond ((decide ((wR ((lN p.Rows)-(1:Int)))<(0:Int)))||(!x1))
  ((uE r).bind fun x2 =>
  (vT f p.Span).bind fun x3 =>
  bE ((List.length p.Rows+List.length ([bC.mk x2 x3]))*32<=140737488355328/\List.length p.Rows+List.length ([bC.mk x2 x3])<=9223372036854775807) <|
  some (aK.mk p.Span (p.Rows++[bC.mk x2 x3])))
  (some p)

def oG (r:List aI)(f:List aB)(size:Int)(b:Bool)(m:List (Int×aK))(t:Int):Option ((Bool×List (Int×aK))⊕(Bool×List (Int×aK))) :=
  match gL m t with
  | none=>cond (decide ((lN m)=(1024:Int)))
    (some (.inr (false,m)))
    ((pW r f (aK.mk (bJ.mk t (if (1125899906842624:Int)<(wR (t+size)) then (1125899906842624:Int) else (wR (t+size)))) [])).bind fun p=>some (.inl (b,fH m t p)))
  | some p=>(pW r f p).bind fun p=>some (.inl (b,fH m t p))

def pV (r:List aI)(f:List aB)(size hop frm front:Int)(b:Bool)(m:List (Int×aK))(s:bJ):Option ((Bool×List (Int×aK))⊕(Bool×List (Int×aK))) :=
  (BA size hop s frm front).bind fun x =>
  (rI (fun st t=>rnd (fun (q:Bool×List (Int×aK))=>oG r f size q.1 q.2 t) st) x.1 x.2.1 x.2.2.1 x.2.2.2.1 x.2.2.2.2 (.inl (b,m))).bind (Sum.elim (fun q=>some (.inl q)) (fun q=>some (.inr q)))

def xK (m:List (Int×aK))(r:List aI)(f:List aB)(size hop frm front:Int):Option (Bool×List (Int×aK)) :=
  (CB f).bind fun x =>
  (sF (fun st s=>rnd (fun (q:Bool×List (Int×aK))=>pV r f size hop frm front q.1 q.2 s) st) x (.inl (false,m))).bind (Sum.elim (fun q=>some (true,q.2)) (fun q=>some (q.1,q.2)))

def nW (size hop frm front:Int)(t10:List aK)(t11:Int)(m:List (Int×aK))(r:List aI)(f:List aB):Option ((List aK×Int×List (Int×aK))⊕(List aK×Int×List (Int×aK))) :=
  (xK m r f size hop frm front).bind fun x =>
  cond (!x.1)
  (some (.inr ([],(7:Int),x.2)))
  (some (.inl (t10,t11,x.2)))

def tC (m:List (Int×aK))(b:List Int)(n:Int)(out:List aK)(i:Int):Option ((List aK×Int)⊕(List aK)) :=
  cond (decide (i<n))
  (bE (0<=i/\i<(lN b)) <|
  match gL m (gD b i) with
  | none=>none
  | some p =>
    bE ((List.length out+List.length ([p]))*40<=140737488355328/\List.length out+List.length ([p])<=9223372036854775807) <|
    some (.inl (out++[p],wR (i+(1:Int)))))
  (some (.inr out))

def ED (m:List (Int×aK))(b:List Int):Option (List aK×Int) :=
  (gT b).bind fun b =>
  bE (0<=(lN b)/\(40:Int)*(lN b)<=281474976710656/\(lN b)<=9223372036854775807) <|
  (lp (fun s=>tC m b (lN b) s.1 s.2) (([]:List aK),(0:Int))).bind fun out=>some (out,(0:Int))

def tL (s:List Int)(k:Int):Option (List Int) :=
  bE ((List.length s+List.length ([k]))*8<=140737488355328/\List.length s+List.length ([k])<=9223372036854775807) <|
  some (s++[k])

def xM (m:List (Int×aK)):Option (List aK×Int) :=
  bE (0<=(lN m)/\(8:Int)*(lN m)<=281474976710656/\(lN m)<=9223372036854775807) <|
  uW (m.map (·.1)) (fun q=>(dR tL ([]:List Int) q).bind (ED m))

def FI (l:List aF)(size hop frm front:Int)(t10:List aK)(t11:Int):Option (List aK×Int) :=
  (rZ l).bind fun x =>
  (oC (fun st r f=>rnd (fun (q:List aK×Int×List (Int×aK))=>nW size hop frm front q.1 q.2.1 q.2.2 r f) st) x (.inl (t10,t11,[]))).bind (Sum.elim (fun q=>xM q.2.2) (fun q=>some (q.1,q.2.1)))

def yS (l0:(List aF))(sN:Int)(hop2:Int)(mQ:Int)(kF:Int):Option ((List aK)×Int) :=
  (zZ sN hop2).bind fun x3 =>
  (cX (!(!x3)) (oU l0)).bind fun x6 =>
  cond ((!x3)||(!x6))
  (some ([],(2:Int)))
  ((pH l0).bind fun x10 =>
  cond (!x10)
  (some ([],(20:Int)))
  ((uF mQ).bind fun x14 =>
  (cX (!(!x14)) (uF kF)).bind fun x17 =>
  cond ((!x14)||(!x17))
  (some ([],(13:Int)))
  (FI l0 sN hop2 mQ kF ([]) 0)))

def gG (s0:(List aI)):Option (List aI) :=
  bE (List.length s0*32<=140737488355328/\List.length s0<=9223372036854775807) <|
  some s0

def oO (yD:(List aF))(t4:aK)(p5:aK)(t22:aF):Option ((aK×aK)⊕(aK×aK)) :=
  cond ((decide (t22.At<p5.Span.From))||(decide (p5.Span.To<=t22.At)))
  (some (.inl (t4,p5)))
  (bE ((((decide ((0:Int)<=(IntKind.i64.wrap (((List.length p5.Rows:Nat):Int)-(1:Int))))))=true->0<=(IntKind.i64.wrap (((List.length p5.Rows:Nat):Int)-(1:Int)))/\(IntKind.i64.wrap (((List.length p5.Rows:Nat):Int)-(1:Int)))<((List.length p5.Rows:Nat):Int))) <|
  (cX (decide ((0:Int)<=(IntKind.i64.wrap (((List.length p5.Rows:Nat):Int)-(1:Int))))) (gC ((List.getD p5.Rows (Int.toNat (IntKind.i64.wrap (((List.length p5.Rows:Nat):Int)-(1:Int)))) default).Row) t22.Row)).bind fun x13 =>
  cond ((decide ((0:Int)<=(IntKind.i64.wrap (((List.length p5.Rows:Nat):Int)-(1:Int)))))&&x13)
  (bE (0<=(IntKind.i64.wrap (((List.length p5.Rows:Nat):Int)-(1:Int)))/\(IntKind.i64.wrap (((List.length p5.Rows:Nat):Int)-(1:Int)))<((List.length p5.Rows:Nat):Int)) <|
  bE (0<=(IntKind.i64.wrap (((List.length p5.Rows:Nat):Int)-(1:Int)))/\(IntKind.i64.wrap (((List.length p5.Rows:Nat):Int)-(1:Int)))<((List.length p5.Rows:Nat):Int)) <|
  some (.inl (t4,aK.mk p5.Span (List.set p5.Rows (Int.toNat (IntKind.i64.wrap (((List.length p5.Rows:Nat):Int)-(1:Int)))) (bC.mk (List.getD p5.Rows (Int.toNat (IntKind.i64.wrap (((List.length p5.Rows:Nat):Int)-(1:Int)))) default).Row (IntKind.i64.wrap (((List.getD p5.Rows (Int.toNat (IntKind.i64.wrap (((List.length p5.Rows:Nat):Int)-(1:Int)))) default).N)+t22.Net)))))))
  ((gG t22.Row).bind fun x19 =>
  bE ((List.length p5.Rows+List.length ([bC.mk x19 t22.Net]))*32<=140737488355328/\List.length p5.Rows+List.length ([bC.mk x19 t22.Net])<=9223372036854775807) <|
  some (.inl (t4,aK.mk p5.Span (p5.Rows++([bC.mk x19 t22.Net]))))))

def uV (t4:aK)(p5:aK)(yD:(List aF)):Option aK :=
  (nF (fun st t22=>rnd (fun (s:aK×aK)=>oO yD s.1 s.2 t22) st) yD (.inl (t4,p5))).bind (Sum.elim (fun (s:aK×aK) =>
  (some s.2))
  (fun (s:aK×aK) =>
  (none)))

def sO (l0:(List aF))(run1:(List Int)):Option aK :=
  bE (0<=(0:Int)/\(0:Int)<((List.length run1:Nat):Int)) <|
  bE (0<=(IntKind.i64.wrap (((List.length run1:Nat):Int)-(1:Int)))/\(IntKind.i64.wrap (((List.length run1:Nat):Int)-(1:Int)))<((List.length run1:Nat):Int)) <|
  (qQ l0).bind fun x6 =>
  uV (aK.mk (bJ.mk 0 0) ([])) (aK.mk (bJ.mk (List.getD run1 (Int.toNat (0:Int)) default) (IntKind.i64.wrap ((List.getD run1 (Int.toNat (IntKind.i64.wrap (((List.length run1:Nat):Int)-(1:Int)))) default)+(1:Int)))) ([])) x6

def wN (kN:List aK):Option ((List aK)×Int) :=
  some (kN,(0:Int))

def mR (l0:(List aF))(n1:Int)(mA:(List Int))(kN:List aK):Option (((List Int)×List aK)⊕((List aK))) :=
  cond (decide (n1<=((List.length mA:Nat):Int)))
  (bE (0<=n1/\n1<=n1/\n1<=((List.length mA:Nat):Int)) <|
  (sO l0 (List.take (Int.toNat n1) mA)).bind fun x20 =>
  bE ((List.length kN+List.length ([x20]))*40<=140737488355328/\List.length kN+List.length ([x20])<=9223372036854775807) <|
  bE (0<=(1:Int)/\(1:Int)<=((List.length mA:Nat):Int)) <|
  some (.inl (List.drop (Int.toNat (1:Int)) mA,kN++([x20]))))
  (some (.inr kN))

def wO (l0:(List aF))(n1:Int)(mA:(List Int))(kN:List aK):Option ((List aK)×Int) :=
  (lp (fun s=>mR l0 n1 s.1 s.2) (mA,kN)).bind (fun rr=>wN rr)

def tG (l0:(List aF))(n1:Int)(nS:Int):Option ((List aK)×Int) :=
  (tJ l0 n1).bind fun x1 =>
  cond (!decide (x1=(0:Int)))
  (some ([],x1))
  (cond ((decide (nS<(0:Int)))||(decide ((1125899906842624:Int)<nS)))
  (some ([],(13:Int)))
  ((pP l0).bind fun x6 =>
  (fQ x6 nS).bind fun x9 =>
  bE (0<=x9.1/\x9.1<=((List.length x6:Nat):Int)/\((List.length x6:Nat):Int)<=((List.length x6:Nat):Int)/\((List.length x6:Nat):Int)<=((List.length x6:Nat):Int)) <|
  cond (decide ((1024:Int)<(IntKind.i64.wrap ((IntKind.i64.wrap (((List.length (List.drop (Int.toNat x9.1) (List.take (Int.toNat ((List.length x6:Nat):Int)) x6)):Nat):Int)-n1))+(1:Int)))))
  (some ([],(7:Int)))
  (wO l0 n1 (List.drop (Int.toNat x9.1) (List.take (Int.toNat ((List.length x6:Nat):Int)) x6)) ([]:List aK))))

def AX (out9:List Int):Option ((List Int)×Int) :=
  (gT out9).bind fun x16 =>
  some (x16,(0:Int))

def tT (t50:(List (Int×Int)))(out9:List Int)(mk:Int)(mv:Int):Option (List Int) :=
  bE ((List.length out9+List.length ([mk]))*8<=140737488355328/\List.length out9+List.length ([mk])<=9223372036854775807) <|
  some (out9++([mk]))

def BD (t50:(List (Int×Int)))(out9:List Int):Option ((List Int)×Int) :=
  AX out9

def AR (out9:List Int)(t50:(List (Int×Int))):Option ((List Int)×Int) :=
  uW t50 (fun q=>(dR (fun (s:List Int) (x:Int×Int)=>tT t50 s x.1 x.2) out9 q).bind (fun (s:List Int)=>BD t50 s))

def xP (lE:(List (Int×Int))):Option ((List Int)×Int) :=
  bE (0<=((List.length lE:Nat):Int)/\(8:Int)*((List.length lE:Nat):Int)<=281474976710656/\((List.length lE:Nat):Int)<=9223372036854775807) <|
  AR ([]:List Int) lE

def tK (iY:Int)(lE:(List (Int×Int)))(t32:(List aF))(t33:Int)(t34:Int):Option (((List (Int×Int))×Int)⊕((List (Int×Int)))) :=
  some (.inl (lE,IntKind.i64.wrap (t34+(1:Int))))

def pI (iY:Int)(t32:(List aF))(t33:Int)(lE:(List (Int×Int)))(t34:Int):Option (((List (Int×Int))×Int)⊕((List (Int×Int)))) :=
  cond (decide (t34<t33))
  (bE (0<=t34/\t34<((List.length t32:Nat):Int)) <|
  cond (decide (iY<((List.getD t32 (Int.toNat t34) default).At)))
  (tK iY (fH lE ((List.getD t32 (Int.toNat t34) default).At) (1:Int)) t32 t33 t34)
  (tK iY lE t32 t33 t34))
  (some (.inr lE))

def AO (iY:Int)(lE:(List (Int×Int)))(t32:(List aF))(t33:Int)(t34:Int):Option ((List Int)×Int) :=
  (lp (fun s=>pI iY t32 t33 s.1 s.2) (lE,t34)).bind (fun rr=>xP rr)

def yU (l0:(List aF))(iY:Int):Option ((List Int)×Int) :=
  (oU l0).bind fun x1 =>
  cond (!x1)
  (some ([],(2:Int)))
  ((pH l0).bind fun x5 =>
  cond (!x5)
  (some ([],(20:Int)))
  (cond ((decide (iY<(0:Int)))||(decide ((1125899906842624:Int)<iY)))
  (some ([],(13:Int)))
  (cond (decide (iY=(1125899906842624:Int)))
  (some ([],(0:Int)))
  (AO iY (fH ([]:(List (Int×Int))) iY (1:Int)) l0 ((List.length l0:Nat):Int) (0:Int)))))

def wG (out4:List bC):Option (List bC) :=
  some out4

def pU (t0:Int)(out4:List bC)(t9:(List cC))(t10:Int)(t11:Int):Option ((List bC×Int)⊕((List bC))) :=
  some (.inl (out4,IntKind.i64.wrap (t11+(1:Int))))

def nU (t0:Int)(t9:(List cC))(t10:Int)(out4:List bC)(t11:Int):Option ((List bC×Int)⊕((List bC))) :=
  cond (decide (t11<t10))
  (bE (0<=t11/\t11<((List.length t9:Nat):Int)) <|
  (zW ((List.getD t9 (Int.toNat t11) default).jumps) t0).bind fun x9 =>
  cond (decide ((0:Int)<x9))
  ((gG ((List.getD t9 (Int.toNat t11) default).row)).bind fun x16 =>
  bE ((List.length out4+List.length ([bC.mk x16 x9]))*32<=140737488355328/\List.length out4+List.length ([bC.mk x16 x9])<=9223372036854775807) <|
  pU t0 (out4++([bC.mk x16 x9])) t9 t10 t11)
  (pU t0 out4 t9 t10 t11))
  (some (.inr out4))

def wL (t0:Int)(out4:List bC)(t9:(List cC))(t10:Int)(t11:Int):Option (List bC) :=
  (lp (fun s=>nU t0 t9 t10 s.1 s.2) (out4,t11)).bind (fun rr=>wG rr)

def tE (t0:Int)(t1:(List cC)):Option (List bC) :=
  wL t0 ([]:List bC) t1 ((List.length t1:Nat):Int) (0:Int)

def oF (eS:(List Int))(xV:(List aF))(all8:List cC)(t29:(List aI))(t30:(List aB)):Option ((List cC)⊕(List cC)) :=
  bE ((List.length all8+List.length ([cC.mk t29 t30]))*48<=140737488355328/\List.length all8+List.length ([cC.mk t29 t30])<=9223372036854775807) <|
  some (.inl (all8++([cC.mk t29 t30])))

def zI (eN:List aK):Option ((List aK)×Int) :=
  some (eN,(0:Int))

def vI (eS:(List Int))(gP:(List cC))(eN:List aK)(t39:(List Int))(t40:Int)(t41:Int):Option ((List aK×Int)⊕((List aK)⊕((List aK)×Int))) :=
  some (.inl (eN,IntKind.i64.wrap (t41+(1:Int))))

def vG (eS:(List Int))(gP:(List cC))(eN:List aK)(t14:Int)(tO:(List bC))(BB:Int)(t39:(List Int))(t40:Int)(t41:Int):Option ((List aK×Int)⊕((List aK)⊕((List aK)×Int))) :=
  bE ((List.length eN+List.length ([aK.mk (bJ.mk t14 BB) tO]))*40<=140737488355328/\List.length eN+List.length ([aK.mk (bJ.mk t14 BB) tO])<=9223372036854775807) <|
  vI eS gP (eN++([aK.mk (bJ.mk t14 BB) tO])) t39 t40 t41

def oD (eS:(List Int))(gP:(List cC))(t39:(List Int))(t40:Int)(eN:List aK)(t41:Int):Option ((List aK×Int)⊕((List aK)⊕((List aK)×Int))) :=
  cond (decide (t41<t40))
  (bE (0<=t41/\t41<((List.length t39:Nat):Int)) <|
  (tE (List.getD t39 (Int.toNat t41) default) gP).bind fun x20 =>
  cond (decide (((List.length x20:Nat):Int)=(0:Int)))
  (vI eS gP eN t39 t40 t41)
  (cond (decide (((List.length eN:Nat):Int)=(1024:Int)))
  (some (.inr (.inr ([],(7:Int)))))
  (cond (decide ((IntKind.i64.wrap (t41+(1:Int)))<((List.length eS:Nat):Int)))
  (bE (0<=(IntKind.i64.wrap (t41+(1:Int)))/\(IntKind.i64.wrap (t41+(1:Int)))<((List.length eS:Nat):Int)) <|
  vG eS gP eN (List.getD t39 (Int.toNat t41) default) x20 (List.getD eS (Int.toNat (IntKind.i64.wrap (t41+(1:Int)))) default) t39 t40 t41)
  (vG eS gP eN (List.getD t39 (Int.toNat t41) default) x20 (1125899906842624:Int) t39 t40 t41))))
  (some (.inr (.inl eN)))

def vK (eS:(List Int))(gP:(List cC))(eN:List aK)(t39:(List Int))(t40:Int)(t41:Int):Option ((List aK)×Int) :=
  (lp (fun s=>oD eS gP t39 t40 s.1 s.2) (eN,t41)).bind (Sum.elim (fun rr=>zI rr) (fun rr=>some (rr.1,rr.2)))

def yZ (eS:(List Int))(all8:List cC)(xV:(List aF)):Option ((List aK)×Int) :=
  (oC (fun st t29 t30=>rnd (fun (s:List cC)=>oF eS xV s t29 t30) st) xV (.inl all8)).bind (Sum.elim (fun (s:List cC) =>
  (vK eS s ([]:List aK) eS ((List.length eS:Nat):Int) (0:Int)))
  (fun (s:List cC) =>
  (none)))

def xA (l0:(List aF))(iY:Int):Option ((List aK)×Int) :=
  (yU l0 iY).bind fun x1 =>
  cond (!decide (x1.2=(0:Int)))
  (some ([],x1.2))
  ((rZ l0).bind fun x7 =>
  yZ x1.1 ([]:List cC) x7)

def oR (w0:bY)(l1:(List aF))(nS:Int)(t3:Int):Option ((List aK)×Int) :=
  (qS w0 l1 t3).bind fun x1 =>
  cond (!decide (x1=(0:Int)))
  (some ([],x1))
  (cond (decide (w0.Kind=(2:Int)))
  ((tH l1 t3).bind fun x6 =>
  (yS l1 w0.Size w0.Hop nS x6).bind fun x9 =>
  some (x9.1,x9.2))
  (cond (decide (w0.Kind=(3:Int)))
  ((tG l1 w0.Size nS).bind fun x13 =>
  some (x13.1,x13.2))
  ((xA l1 nS).bind fun x16 =>
  some (x16.1,x16.2))))

def pG  : Option Bool :=
  (oM (bY.mk (2:Int) (10:Int) (5:Int)) ([aF.mk ([aI.mk (1:Int) (1:Int) ByteArray.empty]) (3:Int) (1:Int),aF.mk ([aI.mk (1:Int) (1:Int) ByteArray.empty]) (7:Int) (-1:Int)]) (12:Int)).bind fun x2 =>
  (oR (bY.mk (2:Int) (10:Int) (5:Int)) ([aF.mk ([aI.mk (1:Int) (1:Int) ByteArray.empty]) (3:Int) (1:Int),aF.mk ([aI.mk (1:Int) (1:Int) ByteArray.empty]) (7:Int) (-1:Int)]) (0:Int) (2:Int)).bind fun x5 =>
  bE (((((((decide (x2.1=(5:Int)))&&(decide (x2.2=(0:Int))))&&(decide (x5.2=(0:Int))))&&(decide (((List.length x5.1:Nat):Int)=(1:Int)))))=true->0<=(0:Int)/\(0:Int)<((List.length x5.1:Nat):Int))) <|
  (cX (((((decide (x2.1=(5:Int)))&&(decide (x2.2=(0:Int))))&&(decide (x5.2=(0:Int))))&&(decide (((List.length x5.1:Nat):Int)=(1:Int))))&&((decide ((((List.getD x5.1 (Int.toNat (0:Int)) default).Span).From)=((bJ.mk 0 (10:Int)).From)))&&((decide ((((List.getD x5.1 (Int.toNat (0:Int)) default).Span).To)=((bJ.mk 0 (10:Int)).To)))&&true))) (qR (bY.mk 0 0 0))).bind fun x9 =>
  some ((((((decide (x2.1=(5:Int)))&&(decide (x2.2=(0:Int))))&&(decide (x5.2=(0:Int))))&&(decide (((List.length x5.1:Nat):Int)=(1:Int))))&&((decide ((((List.getD x5.1 (Int.toNat (0:Int)) default).Span).From)=((bJ.mk 0 (10:Int)).From)))&&((decide ((((List.getD x5.1 (Int.toNat (0:Int)) default).Span).To)=((bJ.mk 0 (10:Int)).To)))&&true)))&&(decide (x9=(2:Int))))

def vF  : Option Bool :=
  some true

def rY (a0:(List aI))(b1:(List aI))(i5:Int):Option ((Int)⊕(Unit⊕Bool)) :=
  cond (decide (i5<((List.length a0:Nat):Int)))
  (bE (0<=i5/\i5<((List.length a0:Nat):Int)) <|
  bE (0<=i5/\i5<((List.length b1:Nat):Int)) <|
  cond (!((decide (((List.getD a0 (Int.toNat i5) default).Kind)=((List.getD b1 (Int.toNat i5) default).Kind)))&&((decide (((List.getD a0 (Int.toNat i5) default).Num)=((List.getD b1 (Int.toNat i5) default).Num)))&&((qL ((List.getD a0 (Int.toNat i5) default).Text) ((List.getD b1 (Int.toNat i5) default).Text))&&true))))
  (some (.inr (.inr false)))
  (some (.inl (IntKind.i64.wrap (i5+(1:Int))))))
  (some (.inr (.inl ())))

def zE (a0:(List aI))(b1:(List aI))(i5:Int):Option Bool :=
  (lp (fun s=>rY a0 b1 s) i5).bind (Sum.elim (fun rr=>vF ) (fun rr=>some rr))

def tV (a0:(List aI))(b1:(List aI)):Option Bool :=
  cond (!decide (((List.length a0:Nat):Int)=((List.length b1:Nat):Int)))
  (some false)
  (zE a0 b1 (0:Int))

def oK  : Option Bool :=
  some true

def mS (a0:(List bC))(b1:(List bC))(i5:Int):Option ((Int)⊕(Unit⊕Bool)) :=
  cond (decide (i5<((List.length a0:Nat):Int)))
  (bE (0<=i5/\i5<((List.length a0:Nat):Int)) <|
  bE (0<=i5/\i5<((List.length b1:Nat):Int)) <|
  bE ((((!(!decide (((List.getD a0 (Int.toNat i5) default).N)=((List.getD b1 (Int.toNat i5) default).N)))))=true->0<=i5/\i5<((List.length a0:Nat):Int))) <|
  bE ((((!(!decide (((List.getD a0 (Int.toNat i5) default).N)=((List.getD b1 (Int.toNat i5) default).N)))))=true->0<=i5/\i5<((List.length b1:Nat):Int))) <|
  (cX (!(!decide (((List.getD a0 (Int.toNat i5) default).N)=((List.getD b1 (Int.toNat i5) default).N)))) (tV ((List.getD a0 (Int.toNat i5) default).Row) ((List.getD b1 (Int.toNat i5) default).Row))).bind fun x7 =>
  cond ((!decide (((List.getD a0 (Int.toNat i5) default).N)=((List.getD b1 (Int.toNat i5) default).N)))||(!x7))
  (some (.inr (.inr false)))
  (some (.inl (IntKind.i64.wrap (i5+(1:Int))))))
  (some (.inr (.inl ())))

def rO (a0:(List bC))(b1:(List bC))(i5:Int):Option Bool :=
  (lp (fun s=>mS a0 b1 s) i5).bind (Sum.elim (fun rr=>oK ) (fun rr=>some rr))

def pJ (a0:(List bC))(b1:(List bC)):Option Bool :=
  cond (!decide (((List.length a0:Nat):Int)=((List.length b1:Nat):Int)))
  (some false)
  (rO a0 b1 (0:Int))

def vC  : Option Bool :=
  some true

def rV (a0:(List aK))(b1:(List aK))(i5:Int):Option ((Int)⊕(Unit⊕Bool)) :=
  cond (decide (i5<((List.length a0:Nat):Int)))
  (bE (0<=i5/\i5<((List.length a0:Nat):Int)) <|
  bE (0<=i5/\i5<((List.length b1:Nat):Int)) <|
  bE ((((!(!((decide ((((List.getD a0 (Int.toNat i5) default).Span).From)=(((List.getD b1 (Int.toNat i5) default).Span).From)))&&((decide ((((List.getD a0 (Int.toNat i5) default).Span).To)=(((List.getD b1 (Int.toNat i5) default).Span).To)))&&true)))))=true->0<=i5/\i5<((List.length a0:Nat):Int))) <|
  bE ((((!(!((decide ((((List.getD a0 (Int.toNat i5) default).Span).From)=(((List.getD b1 (Int.toNat i5) default).Span).From)))&&((decide ((((List.getD a0 (Int.toNat i5) default).Span).To)=(((List.getD b1 (Int.toNat i5) default).Span).To)))&&true)))))=true->0<=i5/\i5<((List.length b1:Nat):Int))) <|
  (cX (!(!((decide ((((List.getD a0 (Int.toNat i5) default).Span).From)=(((List.getD b1 (Int.toNat i5) default).Span).From)))&&((decide ((((List.getD a0 (Int.toNat i5) default).Span).To)=(((List.getD b1 (Int.toNat i5) default).Span).To)))&&true)))) (pJ ((List.getD a0 (Int.toNat i5) default).Rows) ((List.getD b1 (Int.toNat i5) default).Rows))).bind fun x7 =>
  cond ((!((decide ((((List.getD a0 (Int.toNat i5) default).Span).From)=(((List.getD b1 (Int.toNat i5) default).Span).From)))&&((decide ((((List.getD a0 (Int.toNat i5) default).Span).To)=(((List.getD b1 (Int.toNat i5) default).Span).To)))&&true)))||(!x7))
  (some (.inr (.inr false)))
  (some (.inl (IntKind.i64.wrap (i5+(1:Int))))))
  (some (.inr (.inl ())))

def zC (a0:(List aK))(b1:(List aK))(i5:Int):Option Bool :=
  (lp (fun s=>rV a0 b1 s) i5).bind (Sum.elim (fun rr=>vC ) (fun rr=>some rr))

def wU (a0:(List aK))(b1:(List aK)):Option Bool :=
  cond (!decide (((List.length a0:Nat):Int)=((List.length b1:Nat):Int)))
  (some false)
  (zC a0 b1 (0:Int))

def CH (l0:List aF):Option (List aF) :=
  some l0

def qN (r1:(List aI))(t9:(List aB))(t10:Int)(l0:List aF)(t11:Int):Option ((List aF×Int)⊕((List aF))) :=
  cond (decide (t11<t10))
  (bE (0<=t11/\t11<((List.length t9:Nat):Int)) <|
  (uE r1).bind fun x7 =>
  bE ((List.length l0+List.length ([aF.mk x7 ((List.getD t9 (Int.toNat t11) default).At) ((List.getD t9 (Int.toNat t11) default).Net)]))*40<=140737488355328/\List.length l0+List.length ([aF.mk x7 ((List.getD t9 (Int.toNat t11) default).At) ((List.getD t9 (Int.toNat t11) default).Net)])<=9223372036854775807) <|
  some (.inl (l0++([aF.mk x7 ((List.getD t9 (Int.toNat t11) default).At) ((List.getD t9 (Int.toNat t11) default).Net)]),IntKind.i64.wrap (t11+(1:Int)))))
  (some (.inr l0))

def CA (l0:List aF)(r1:(List aI))(t9:(List aB))(t10:Int)(t11:Int):Option (List aF) :=
  (lp (fun s=>qN r1 t9 t10 s.1 s.2) (l0,t11)).bind (fun rr=>CH rr)

def AW (l0:(List aF))(r1:(List aI))(f2:(List aB)):Option (List aF) :=
  CA l0 r1 f2 ((List.length f2:Nat):Int) (0:Int)

def oN (by1:(List aB)->Option ((List aB)×Int))(mI:(List aF))(t4:(List aF))(t5:Int)(out6:List aF)(t14:(List aI))(t15:(List aB)):Option (((List aF)×Int×List aF)⊕((List aF)×Int×List aF)) :=
  (by1 t15).bind fun x8 =>
  cond (!decide (x8.2=(0:Int)))
  (some (.inr ([],x8.2,out6)))
  ((AW out6 t14 x8.1).bind fun x12 =>
  cond (decide ((4096:Int)<((List.length x12:Nat):Int)))
  (some (.inr ([],(7:Int),x12)))
  (some (.inl (t4,t5,x12))))

def xS (by1:(List aB)->Option ((List aB)×Int))(t4:(List aF))(t5:Int)(out6:List aF)(mI:(List aF)):Option ((List aF)×Int) :=
  (nV (fun st t14 t15=>rnd (fun (s:(List aF)×Int×List aF)=>oN by1 mI s.1 s.2.1 s.2.2 t14 t15) st) mI (.inl (t4,t5,out6))).bind (Sum.elim (fun (s:(List aF)×Int×List aF) =>
  (some (s.2.2,(0:Int))))
  (fun (s:(List aF)×Int×List aF) =>
  (some (s.1,s.2.1))))

def vQ (l0:(List aF))(by1:(List aB)->Option ((List aB)×Int)):Option ((List aF)×Int) :=
  (qM l0).bind fun x5 =>
  xS by1 ([]) 0 ([]:List aF) x5

def BG (l0:(List aF))(by1:(List aB)->Option ((List aB)×Int)):Option ((List aF)×Int) :=
  (oU l0).bind fun x1 =>
  cond (!x1)
  (some ([],(2:Int)))
  ((vQ l0 by1).bind fun x5 =>
  some (x5.1,x5.2))

def iU (s0:(List aB)):Option (List aB) :=
  bE (List.length s0*16<=140737488355328/\List.length s0<=9223372036854775807) <|
  some s0

def wA (f0:(List aB)):Option ((List aB)×Int) :=
  (nP f0).bind fun x1 =>
  cond (!x1)
  (some ([],(7:Int)))
  (some (f0,(0:Int)))

def vS (out6:List aB):Option ((List aB)×Int) :=
  (wA out6).bind fun x12 =>
  some (x12.1,x12.2)

def sA (t1:Int)(out6:List aB)(v7:Int):Option ((List aB)×Int) :=
  cond (!decide (v7=(0:Int)))
  (bE ((List.length out6+List.length ([aB.mk t1 (IntKind.i64.wrap (0-v7))]))*16<=140737488355328/\List.length out6+List.length ([aB.mk t1 (IntKind.i64.wrap (0-v7))])<=9223372036854775807) <|
  vS (out6++([aB.mk t1 (IntKind.i64.wrap (0-v7))])))
  (vS out6)

def mB (t1:Int)(t18:(List aB))(t19:Int)(out6:List aB)(v7:Int)(t20:Int):Option ((List aB×Int×Int)⊕((List aB×Int))) :=
  cond (decide (t20<t19))
  (bE (0<=t20/\t20<((List.length t18:Nat):Int)) <|
  cond (decide (t1<=((List.getD t18 (Int.toNat t20) default).At)))
  (some (.inr (out6,v7)))
  (bE ((List.length out6+List.length ([List.getD t18 (Int.toNat t20) default]))*16<=140737488355328/\List.length out6+List.length ([List.getD t18 (Int.toNat t20) default])<=9223372036854775807) <|
  some (.inl (out6++([List.getD t18 (Int.toNat t20) default]),IntKind.i64.wrap (v7+((List.getD t18 (Int.toNat t20) default).Net)),IntKind.i64.wrap (t20+(1:Int))))))
  (some (.inr (out6,v7)))

def zG (t1:Int)(out6:List aB)(v7:Int)(t18:(List aB))(t19:Int)(t20:Int):Option ((List aB)×Int) :=
  (lp (fun s=>mB t1 t18 t19 s.1 s.2.1 s.2.2) (out6,v7,t20)).bind (fun rr=>sA t1 rr.1 rr.2)

def xE (f0:(List aB))(t1:Int):Option ((List aB)×Int) :=
  (nP f0).bind fun x1 =>
  cond (!x1)
  (some ([],(2:Int)))
  (cond (decide ((1125899906842624:Int)<=t1))
  ((iU f0).bind fun x6 =>
  some (x6,(0:Int)))
  (zG t1 ([]:List aB) (0:Int) f0 ((List.length f0:Nat):Int) (0:Int)))

def qP (f0:(List aB))(t1:Int):Option ((List aB)×Int) :=
  (xE f0 t1).bind fun x1 =>
  some (x1.1,x1.2)

def tX (l0:(List aF))(t1:Int):Option ((List aF)×Int) :=
  (BG l0 (fun y0=>qP y0 t1)).bind fun x1 =>
  some (x1.1,x1.2)

def vN  : Option Bool :=
  some true

def rW (a0:(List aF))(b1:(List aF))(i5:Int):Option ((Int)⊕(Unit⊕Bool)) :=
  cond (decide (i5<((List.length a0:Nat):Int)))
  (bE (0<=i5/\i5<((List.length a0:Nat):Int)) <|
  bE (0<=i5/\i5<((List.length b1:Nat):Int)) <|
  bE ((((!(!decide (((List.getD a0 (Int.toNat i5) default).At)=((List.getD b1 (Int.toNat i5) default).At)))))=true->0<=i5/\i5<((List.length a0:Nat):Int))) <|
  bE ((((!(!decide (((List.getD a0 (Int.toNat i5) default).At)=((List.getD b1 (Int.toNat i5) default).At)))))=true->0<=i5/\i5<((List.length b1:Nat):Int))) <|
  bE ((((!((!decide (((List.getD a0 (Int.toNat i5) default).At)=((List.getD b1 (Int.toNat i5) default).At)))||(!decide (((List.getD a0 (Int.toNat i5) default).Net)=((List.getD b1 (Int.toNat i5) default).Net))))))=true->0<=i5/\i5<((List.length a0:Nat):Int))) <|
  bE ((((!((!decide (((List.getD a0 (Int.toNat i5) default).At)=((List.getD b1 (Int.toNat i5) default).At)))||(!decide (((List.getD a0 (Int.toNat i5) default).Net)=((List.getD b1 (Int.toNat i5) default).Net))))))=true->0<=i5/\i5<((List.length b1:Nat):Int))) <|
  (cX (!((!decide (((List.getD a0 (Int.toNat i5) default).At)=((List.getD b1 (Int.toNat i5) default).At)))||(!decide (((List.getD a0 (Int.toNat i5) default).Net)=((List.getD b1 (Int.toNat i5) default).Net))))) (tV ((List.getD a0 (Int.toNat i5) default).Row) ((List.getD b1 (Int.toNat i5) default).Row))).bind fun x9 =>
  cond (((!decide (((List.getD a0 (Int.toNat i5) default).At)=((List.getD b1 (Int.toNat i5) default).At)))||(!decide (((List.getD a0 (Int.toNat i5) default).Net)=((List.getD b1 (Int.toNat i5) default).Net))))||(!x9))
  (some (.inr (.inr false)))
  (some (.inl (IntKind.i64.wrap (i5+(1:Int))))))
  (some (.inr (.inl ())))

def zA (a0:(List aF))(b1:(List aF))(i5:Int):Option Bool :=
  (lp (fun s=>rW a0 b1 s) i5).bind (Sum.elim (fun rr=>vN ) (fun rr=>some rr))

def wV (a0:(List aF))(b1:(List aF)):Option Bool :=
  cond (!decide (((List.length a0:Nat):Int)=((List.length b1:Nat):Int)))
  (some false)
  (zA a0 b1 (0:Int))

def tR (out5:List aK):Option (List aK) :=
  some out5

def tS (l0:(List aK))(t1:Int)(out5:List aK)(i6:Int):Option ((List aK×Int)⊕((List aK))) :=
  some (.inl (out5,IntKind.i64.wrap (i6+(1:Int))))

def qU (l0:(List aK))(t1:Int)(out5:List aK)(i6:Int)(p7:aK):Option ((List aK×Int)⊕((List aK))) :=
  cond (decide (p7.Span.From<t1))
  (bE ((List.length out5+List.length ([p7]))*40<=140737488355328/\List.length out5+List.length ([p7])<=9223372036854775807) <|
  tS l0 t1 (out5++([p7])) i6)
  (tS l0 t1 out5 i6)

def qV (l0:(List aK))(t1:Int)(out5:List aK)(i6:Int):Option ((List aK×Int)⊕((List aK))) :=
  cond (decide (i6<((List.length l0:Nat):Int)))
  (bE (0<=i6/\i6<((List.length l0:Nat):Int)) <|
  cond (decide (t1<(((List.getD l0 (Int.toNat i6) default).Span).To)))
  (qU l0 t1 out5 i6 (aK.mk (bJ.mk ((List.getD l0 (Int.toNat i6) default).Span).From t1) (List.getD l0 (Int.toNat i6) default).Rows))
  (qU l0 t1 out5 i6 (List.getD l0 (Int.toNat i6) default)))
  (some (.inr out5))

def xX (l0:(List aK))(t1:Int)(out5:List aK)(i6:Int):Option (List aK) :=
  (lp (fun s=>qV l0 t1 s.1 s.2) (out5,i6)).bind (fun rr=>tR rr)

def rX (l0:(List aK))(t1:Int):Option (List aK) :=
  xX l0 t1 ([]:List aK) (0:Int)

def pO (w0:bY)(l1:(List aF))(m2:(List aF))(t3:Int):Option Bool :=
  (tX l1 t3).bind fun x1 =>
  (tX m2 t3).bind fun x4 =>
  (cX (!((!decide (x1.2=(0:Int)))||(!decide (x4.2=(0:Int))))) (wV x1.1 x4.1)).bind fun x7 =>
  cond ((((!decide (x1.2=(0:Int)))||(!decide (x4.2=(0:Int))))||(!x7))||(decide ((1125899906842624:Int)<=t3)))
  ((pG ).bind fun x11 =>
  some x11)
  ((oM w0 l1 t3).bind fun x14 =>
  (oM w0 m2 t3).bind fun x17 =>
  cond ((!decide (x14.2=(0:Int)))||(!decide (x17.2=(0:Int))))
  ((pG ).bind fun x21 =>
  some x21)
  ((oR w0 l1 (0:Int) t3).bind fun x24 =>
  (oR w0 m2 (0:Int) t3).bind fun x27 =>
  cond (!decide (x14.1=x17.1))
  (some false)
  (cond ((!decide (x24.2=(0:Int)))||(!decide (x27.2=(0:Int))))
  ((pG ).bind fun x32 =>
  some x32)
  ((pG ).bind fun x35 =>
  (cX x35 (rX x24.1 x14.1)).bind fun x38 =>
  (cX x35 (rX x27.1 x14.1)).bind fun x41 =>
  (cX x35 (wU x38 x41)).bind fun x44 =>
  some (x35&&x44)))))

end Go.Abs
namespace Go.Abs
open Go Go.RowKit
def zJ (x:bY):Prop:=wE x.Kind/\wE x.Size/\wE x.Hop/\True

def FG (x:aI):Prop:=wE x.Kind/\wE x.Num/\(fun s=>s.size<=maxLen) x.Text/\True

def sV (x:aF):Prop:=(fun l=>(∀ a∈l,FG a)/\l.length*32<=140737488351232) x.Row/\wE x.At/\wE x.Net/\True

end Go.Abs
namespace Go.Abs
open Go Go.RowKit Go.Proofs
def tt:TT:=⟨aBx Tryz.prog,ZX Tryz.prog⟩

theorem aC:iB Tryz.prog tt:=iB.of Tryz.prog

theorem EK (n0:Int)(r:Bool)(h0:rA n0=some r):dD Tryz.prog 24 [(eI n0)] (aD r):=by
 intro H0;refine cZ Tryz.func24 ?_;have hO:=aN.start H0;unfold rA at h0;refine aX aC 1 [] [] ?_;refine bW aC 7 [(2,(aD ((decide ((1:Int)<=n0))&&(decide (n0<=(1099511627776:Int))))))] ?_;refine bI ?_;obtain rfl:=oI h0;exact aG (Q_r hO)

theorem HK (w0:bY)(r:Int)(h0:qR w0=some r):dD Tryz.prog 10 [(cP w0)] (eI r):=by
 intro H0;refine cZ Tryz.func10 ?_;have hO:=aN.start H0;unfold qR at h0;refine aP ?_;refine aS aC 2 ?_;refine kY 3 (cP w0) ?_;refine bA ?_;refine bD [(1,(.rp (cP w0)))] ?_;refine aX aC 1 [] [(3,(.fn (.func 24) [] []))] ?_;refine aX aC 1 [] [(4,(aD false))] ?_;refine eJ (fun T H=>∃ ok4:Bool,Has T [(4,(aD ok4))]/\aN ⟨H0,[],[]⟩ H []/\lA ok4=some r) ?_ ?_
 ·clear hO h0;rintro T H ⟨ok4,hT,hO,h0⟩;refine bF hT ?_;clear hT;unfold lA at h0;refine aP ?_;refine bW aC 2 [(45,(aD (!ok4)))] ?_;refine bL h0 (fun h0=>?_) (fun h0=>?_)
  ·refine bW aC 1 [(2,(eI (2:Int)))] ?_;refine bI ?_;obtain rfl:=oI h0;exact aG (aT (Q_r hO))
  refine bM ?_;refine bD [] ?_;refine bW aC 1 [(2,(eI (0:Int)))] ?_;refine bI ?_;obtain rfl:=oI h0;exact aG (Q_r hO)
 refine aX aC 2 [] [(6,(eI w0.Kind))] ?_;refine bX 0 ?_;refine aX aC 2 [] [(7,(aD (decide (w0.Kind=(1:Int)))))] ?_;refine bL h0 (fun h0=>?_) (fun h0=>?_)
 ·refine aS aC 9 ?_;refine bA ?_;exact aG (aV (aH (⟨rfl,_,aZ,hO,h0⟩)))
 refine bW aC 2 [(1,(.rp (cP w0))),(3,(.fn (.func 24) [] [])),(4,(aD false)),(6,(eI w0.Kind)),(17,(aD (decide (w0.Kind=(2:Int)))))] ?_;refine bL h0 (fun h0=>?_) (fun h0=>?_)
 ·refine aS aC 11 ?_;refine bH 3 ?_;obtain⟨x4,hx5,h0⟩:=aW h0;refine cW (EK w0.Size _ hx5) hO ?_;intro H hO;refine bH 8 ?_;obtain⟨x7,hx8,h0⟩:=aW h0;refine lQ [(23,true)] 24 [(eI w0.Hop)] (aD x7) x4 (by kernel_rfl) (by kernel_rfl) (by kernel_rfl) (fun hb9=>(EK w0.Hop _ (iA hx8 hb9))) hO ?_;intro H hO;refine bA ?_;exact aG (aV (aH (⟨rfl,_,aZ,hO,h0⟩)))
 refine aX aC 2 [3,6,17] [(29,(aD (decide (w0.Kind=(3:Int)))))] ?_;refine bL h0 (fun h0=>?_) (fun h0=>?_)
 ·refine aS aC 14 ?_;refine bA ?_;exact aG (aV (aH (⟨rfl,_,aZ,hO,h0⟩)))
 refine bM ?_;exact aG (aV (aH (⟨rfl,_,aZ,hO,h0⟩)))

theorem GZ (l0:(List aF))(r:(List aF))(h0:qM l0=some r):dD Tryz.prog 85 [(eL aE l0)] (.fn (.func 103) [] [(.rp (eL aE r))]):=by
 intro H0;refine cZ Tryz.func85 ?_;have hO:=aN.start H0;unfold qM at h0;refine aP ?_;refine aS aC 2 ?_;refine kY 1 (eL aE l0) ?_;refine bA ?_;refine bD [(1,(.rp (eL aE l0)))] ?_;refine bW aC 2 [(2,(.fn (.func 103) [] [(.rp (eL aE l0))]))] ?_;refine bI ?_;obtain rfl:=oI h0;exact aG (kB (x:=(.fn (.func 103) [] [(.rp (eL aE l0))])) (by kernel_rfl) (aR.refl _) ⟨rfl,hO.out⟩)

theorem qX (s10:(List aI))(s21:(List aI))(r:Bool)(h0:gC s10 s21=some r):dD Tryz.prog 93 [(eL aJ s10),(eL aJ s21)] (aD r):=by
 intro H0;refine cZ Tryz.func93 ?_;have hO:=aN.start H0;unfold gC at h0;refine aX aC 1 [] [] ?_;refine aP ?_;refine aX aC 5 [] [(10,(aD (!decide ((lN s10)=(lN s21)))))] ?_;refine bL h0 (fun h0=>?_) (fun h0=>?_)
 ·refine bW aC 1 [(4,(aD false))] ?_;refine bI ?_;obtain rfl:=oI h0;exact aG (aT (Q_r hO))
 refine bM ?_;refine bD [(0,(eL aJ s10)),(1,(eL aJ s21))] ?_;refine eJ (fun T H=>Has T []/\aN ⟨H0,[],[]⟩ H []/\iI  = some r) ?_ ?_
 ·clear hO h0;rintro T H ⟨hT,hO,h0⟩;refine bF hT ?_;clear hT;unfold iI at h0;refine bW aC 1 [(4,(aD true))] ?_;refine bI ?_;obtain rfl:=oI h0;exact aG (Q_r hO)
 refine aX aC 3 [] [(12,(eI (lN s10))),(13,(eI (0:Int)))] ?_;refine bX 0 ?_;refine eC [(0,(eL aJ s10)),(1,(eL aJ s21)),(12,(eI (lN s10))),(13,(eI (0:Int)))] ?_;refine eD (fun T H=>∃ t12:Int,∃ t13:Int,Has T [(0,(eL aJ s10)),(1,(eL aJ s21)),(12,(eI t12)),(13,(eI t13))]/\aN ⟨H0,[],[]⟩ H []/\kI s10 s21 t12 t13=some r) ?_ ⟨(lN s10),(0:Int),aZ,hO,h0⟩;clear hO h0;rintro T H ⟨t12,t13,hT,hO,h0⟩;refine bF hT ?_;clear hT;unfold kI at h0;obtain⟨rr0,hl0,h0⟩:=aW h0;refine iP (fun (s:Int) T H=>Has T [(0,(eL aJ s10)),(1,(eL aJ s21)),(12,(eI t12)),(13,(eI s))]/\aN ⟨H0,[],[]⟩ H []) hl0 ⟨aZ,hO⟩ ?_;clear hO;rintro k0 s out1 T H ⟨hT,hO⟩ h1 ho0;obtain⟨t13,rfl⟩:∃ x,x=s:=⟨_,rfl⟩;replace h1:fT s10 s21 t12 t13=some out1:=h1;refine bF hT ?_;clear hT;unfold fT at h1;refine aX aC 1 [] [(14,(aD (decide (t13<t12))))] ?_;refine aP ?_;refine bL h1 (fun h1=>?_) (fun h1=>?_)
 ·refine bM ?_;refine bD [(0,(eL aJ s10)),(1,(eL aJ s21)),(12,(eI t12)),(13,(eI t13))] ?_;refine aP ?_;refine bX 1 ?_;refine aX aC 2 [] [(5,(eI t13))] ?_;refine aP ?_;refine fP (fR [19,23]) aC 9 ?_;obtain⟨c3,h1⟩:=bB h1;obtain⟨c4,h1⟩:=bB h1;refine RZ (Ds:=[0<=t13/\t13<(lN s10),0<=t13/\t13<(lN s21)]) (by kernel_rfl) ⟨c3,c4,trivial⟩ ?_;refine bP [5] [(24,(aD (!((decide (((gD s10 t13).Kind)=((gD s21 t13).Kind)))&&((decide (((gD s10 t13).Num)=((gD s21 t13).Num)))&&((qL ((gD s10 t13).Text) ((gD s21 t13).Text))&&true))))))] ?_;refine bL h1 (fun h1=>?_) (fun h1=>?_)
  ·refine bW aC 1 [(4,(aD false))] ?_;refine bI ?_;obtain rfl:=oI h1;obtain rfl:_=rr0:=ho0;replace h0:some false=some r:=h0;obtain rfl:=oI h0;exact aG (bG (aT (aT (bG (aT (Q_r hO))))))
  refine bM ?_;refine dP [(0,(eL aJ s10)),(1,(eL aJ s21)),(12,(eI t12)),(13,(eI t13))] ?_;refine aG (aV (aH (?_)));refine aS aC 2 ?_;refine bA ?_;exact aG (aH (⟨rfl,_,(oI h1).symm,aZ,hO⟩))
 refine fS 0 ?_;obtain rfl:=oI h1;obtain rfl:_=rr0:=ho0;replace h0:iI  = some r:=h0;exact aG (aY (aY (bV (aH (⟨rfl,aZ,hO,h0⟩)))))

theorem QM (a0:(List aI))(b1:(List aI))(r:Bool)(h0:sK a0 b1=some r):dD Tryz.prog 88 [(eL aJ a0),(eL aJ b1)] (aD r):=by
 intro H0;refine cZ Tryz.func88 ?_;have hO:=aN.start H0;unfold sK at h0;refine aX aC 1 [] [] ?_;refine aP ?_;refine aS aC 4 ?_;refine bH 2 ?_;obtain⟨x1,hx2,h0⟩:=aW h0;refine cW (qX a0 b1 _ hx2) hO ?_;intro H hO;refine bA ?_;refine bD [(4,(aD x1))] ?_;refine bI ?_;obtain rfl:=oI h0;exact aG (Q_r hO)

theorem JH (r0:(List aI))(r:(List aI))(h0:uE r0=some r):dD Tryz.prog 89 [(eL aJ r0)] (eL aJ r):=by
 intro H0;refine cZ Tryz.func89 ?_;have hO:=aN.start H0;unfold uE at h0;refine aX aC 1 [] [] ?_;refine aP ?_;refine aS aC 6 ?_;refine bH 2 ?_;obtain⟨c1,h0⟩:=bB h0;refine MF 3 32 (lN r0) (by kernel_rfl) (by kernel_rfl) c1 hO ?_;intro lo2 H hO;refine bH 4 ?_;obtain⟨c4,h0⟩:=bB h0;refine CX aJ ([]:List aI) r0 0 lo2 3 32 (eL aJ r0) (fun lo3=>[(lo3,3,List.map aJ (([]:List aI)++r0))]) hO (TL (fun _=>by kernel_rfl)) c4 ?_;intro lo3 H hO;refine bA ?_;refine bD [(2,(.msl 3 lo3 0 (List.length (([]:List aI)++r0))))] ?_;refine bI ?_;refine dP [(2,(.msl 3 lo3 0 (List.length (([]:List aI)++r0))))] ?_;refine sH (en:=aJ) (([]:List aI)++r0) 0 0 2 3 lo3 (List.length (([]:List aI)++r0)) hO (by kernel_rfl) (by kernel_rfl) (by kernel_rfl) (L':=[]) (by kernel_rfl) ?_;intro H5 hO;obtain rfl:=oI h0;exact aG (Q_r hO)

theorem BC {σ:Type}(I:σ->Gs->Prop)(yield0_b:Nat)(cH:σ->(List aI)->(List aB)->Option (σ×Bool))(yield0_h:∀ st a0 a1 st2 r,cH st a0 a1=some (st2,r)->CE Tryz.prog (yv yield0_b) I st [(eL aJ a0),(eL aL a1)] st2 (aD r))(t1:(List aF))(sg0:σ)(r:σ)(h0:nV cH t1 sg0=some r):yF Tryz.prog 103 I sg0 [(yv yield0_b),(.rp (eL aE t1))] r (.tup []):=by
 intro H0 G0 hI hg;refine cZ Tryz.func103 ?_;obtain⟨G,hO,hI⟩:∃ G,aN ⟨H0,List.map (fun p:Nat×dN=>p.1) G0,G⟩ H0 []/\I sg0 G:=⟨G0,aN.DZ hg,hI⟩;clear hg;unfold nV at h0;refine aX aC 1 [] [(3,(eI (0:Int)))] ?_;refine bX 0 ?_;refine eC [(0,(yv yield0_b)),(1,(.rp (eL aE t1))),(3,(eI (0:Int)))] ?_;refine eD (fun T H=>∃ sg:σ,∃ i3:Int,∃ G:Gs,Has T [(0,(yv yield0_b)),(1,(.rp (eL aE t1))),(3,(eI i3))]/\aN ⟨H0,List.map (fun p:Nat×dN=>p.1) G0,G⟩ H []/\I sg G/\uD cH sg t1 i3=some r) ?_ ⟨sg0,(0:Int),G,aZ,hO,hI,h0⟩;clear hO hI h0;rintro T H ⟨sg,i3,G,hT,hO,hI,h0⟩;refine bF hT ?_;clear hT;unfold uD at h0;obtain⟨rr0,hl0,h0⟩:=aW h0;refine iP (fun (s:σ×Int) T H=>∃ G:Gs,Has T [(0,(yv yield0_b)),(1,(.rp (eL aE t1))),(3,(eI s.2))]/\aN ⟨H0,List.map (fun p:Nat×dN=>p.1) G0,G⟩ H []/\I s.1 G) hl0 ⟨G,aZ,hO,hI⟩ ?_;clear hO hI;rintro k0 s out1 T H ⟨G,hT,hO,hI⟩ h1 ho0;obtain⟨sg,i3⟩:=s;replace h1:jK cH t1 sg i3=some out1:=h1
 try dsimp only at hT
 refine bF hT ?_;clear hT;unfold jK at h1;refine aP ?_;refine aX aC 4 [] [(9,(aD (decide (i3<(lN t1)))))] ?_;refine bL h1 (fun h1=>?_) (fun h1=>?_)
 ·refine bM ?_;refine bD [(0,(yv yield0_b)),(1,(.rp (eL aE t1))),(3,(eI i3))] ?_;refine bX 1 ?_;refine aP ?_;refine aS aC 6 ?_;obtain⟨c2,h1⟩:=bB h1;refine qY [0<=i3/\i3<(lN t1)] ⟨c2,trivial⟩ ?_;refine bP [] [(4,(eL aJ ((gD t1 i3).Row)))] ?_;refine aP ?_;refine aS aC 2 ?_;refine pX [] 2 ?_;refine bA ?_;refine bP [] [(5,(.sl true 0 (fun _ => .bad)))] ?_;refine eJ (fun T H=>∃ sg:σ,∃ i3:Int,∃ r4:(List aI),∃ f5:List aB,∃ lo3:Nat,∃ G:Gs,Has T [(0,(yv yield0_b)),(1,(.rp (eL aE t1))),(3,(eI i3)),(4,(eL aJ r4)),(5,(.msl 2 lo3 0 (List.length f5)))]/\aN ⟨H0,List.map (fun p:Nat×dN=>p.1) G0,G⟩ H [(lo3,2,List.map aL f5)]/\I sg G/\rG cH sg t1 i3 r4 f5=some out1) ?_ ?_
  ·clear hO hI h1;rintro T H ⟨sg,i3,r4,f5,lo3,G,hT,hO,hI,h1⟩;refine bF hT ?_;clear hT;unfold rG at h1;refine aP ?_;refine aS aC 6 ?_;refine JR (e:=aL) f5 0 5 2 lo3 (List.length f5) [] (by kernel_rfl) hO (by kernel_rfl) (by kernel_rfl) (by kernel_rfl) (by kernel_rfl) ?_;intro H hO;refine bH 2 ?_;obtain⟨x7,hx8,h1⟩:=aW h1;refine cW (JH r4 _ hx8) hO ?_;intro H hO;refine bH 4 ?_;obtain⟨x10,hx11,h1⟩:=aW h1;refine MP (I:=I) (yv yield0_b) [(eL aJ x7),(eL aL f5)] (aD x10.2) (by kernel_rfl) (by kernel_rfl) (yield0_h _ x7 f5 x10.1 x10.2 hx11) hO hI ?_;intro G H hO hI;refine bA ?_;refine bP [4,5] [(50,(aD (!x10.2)))] ?_;refine bL h1 (fun h1=>?_) (fun h1=>?_)
   ·refine bI ?_;obtain rfl:=oI h1;obtain rfl:_=rr0:=ho0;replace h0:some x10.1=some r:=h0;obtain rfl:=oI h0;exact aG (bG (aT (bG (kB (x:=(.tup [])) (by kernel_rfl) (aR.refl _) ⟨rfl,G,hI,hO.zK⟩))))
   refine bM ?_;exact aG (aV (aH (⟨rfl,_,(oI h1).symm,_,aZ,hO,hI⟩)))
  refine bX 2 ?_;refine eC [(0,(yv yield0_b)),(1,(.rp (eL aE t1))),(3,(eI i3)),(4,(eL aJ ((gD t1 i3).Row))),(5,(.sl true 0 (fun _ => .bad)))] ?_;refine HF (el:=(fun _ => .bad)) 4 5 2 hO (by kernel_rfl) ?_;intro lo24 H25 hO;refine eD (fun T H=>∃ sg:σ,∃ i3:Int,∃ r4:(List aI),∃ f5:List aB,∃ lo14:Nat,∃ G:Gs,Has T [(0,(yv yield0_b)),(1,(.rp (eL aE t1))),(3,(eI i3)),(4,(eL aJ r4)),(5,(.msl 2 lo14 0 (List.length f5)))]/\aN ⟨H0,List.map (fun p:Nat×dN=>p.1) G0,G⟩ H [(lo14,2,List.map aL f5)]/\I sg G/\uL cH sg t1 i3 r4 f5=some out1) ?_ ⟨sg,i3,(gD t1 i3).Row,([]:List aB),lo24,G,aZ,hO,hI,h1⟩;clear hO hI h1;rintro T H ⟨sg,i3,r4,f5,lo14,G,hT,hO,hI,h1⟩;refine bF hT ?_;clear hT;unfold uL at h1;obtain⟨rr1,hl1,h1⟩:=aW h1;refine iP (fun (s:σ×Int×List aB) T H=>∃ lo14:Nat,∃ G:Gs,Has T [(0,(yv yield0_b)),(1,(.rp (eL aE t1))),(3,(eI s.2.1)),(4,(eL aJ r4)),(5,(.msl 2 lo14 0 (List.length s.2.2)))]/\aN ⟨H0,List.map (fun p:Nat×dN=>p.1) G0,G⟩ H [(lo14,2,List.map aL s.2.2)]/\I s.1 G) hl1 ⟨lo14,G,aZ,hO,hI⟩ ?_;clear hO hI;rintro k1 s out2 T H ⟨lo14,G,hT,hO,hI⟩ h2 ho1;obtain⟨sg,i3,f5⟩:=s;replace h2:kO cH t1 r4 sg i3 f5=some out2:=h2
  try dsimp only at hT
  refine bF hT ?_;clear hT;unfold kO at h2;refine aP ?_;refine aP ?_;refine aS aC 13 ?_;obtain⟨c15,h2⟩:=bB h2;refine rS 11 [(((decide (i3<(lN t1))))=true->0<=i3/\i3<(lN t1))] ⟨c15,trivial⟩ ?_;obtain⟨x16,hx17,h2⟩:=aW h2;refine lQ [(20,true)] 88 [(eL aJ ((gD t1 i3).Row)),(eL aJ r4)] (aD x16) (decide (i3<(lN t1))) (by kernel_rfl) (by kernel_rfl) (by kernel_rfl) (fun hb18=>(QM ((gD t1 i3).Row) r4 _ (iA hx17 hb18))) hO ?_;intro H hO;refine bA ?_;refine bP [] [(28,(aD ((decide (i3<(lN t1)))&&x16)))] ?_;refine bL h2 (fun h2=>?_) (fun h2=>?_)
  ·refine bM ?_;refine bD [(0,(yv yield0_b)),(1,(.rp (eL aE t1))),(3,(eI i3)),(4,(eL aJ r4)),(5,(.msl 2 lo14 0 (List.length f5)))] ?_;refine aP ?_;refine bX 3 ?_;refine fP (fR [32,36,37,41,43]) aC 15 ?_;obtain⟨c20,h2⟩:=bB h2;obtain⟨c21,h2⟩:=bB h2;refine cJ 12 [0<=i3/\i3<(lN t1),0<=i3/\i3<(lN t1)] ⟨c20,c21,trivial⟩ ?_;refine WJ (xs:=[(aL (aB.mk ((gD t1 i3).At) ((gD t1 i3).Net)))]) (k:=2) (by kernel_rfl) (by kernel_rfl) ?_;obtain⟨c23,h2⟩:=bB h2;refine MH (e:=aL) f5 ([aB.mk ((gD t1 i3).At) ((gD t1 i3).Net)]) 0 lo14 2 16 (eR [(aL (aB.mk ((gD t1 i3).At) ((gD t1 i3).Net)))]) (fun lo22=>[(lo22,2,List.map aL (f5++([aB.mk ((gD t1 i3).At) ((gD t1 i3).Net)])))]) (by kernel_rfl) (by kernel_rfl) hO (by kernel_rfl) (by kernel_rfl) c23 (fun _=>by kernel_rfl) ?_;intro lo22 H hO;refine jM ?_;refine dP [(0,(yv yield0_b)),(1,(.rp (eL aE t1))),(3,(eI i3)),(4,(eL aJ r4)),(5,(.msl 2 lo22 0 (List.length (f5++([aB.mk ((gD t1 i3).At) ((gD t1 i3).Net)])))))] ?_;refine aG (aV (aH (?_)));refine aS aC 3 ?_;refine bA ?_;exact aG (aH (⟨rfl,_,(oI h2).symm,_,_,aZ,hO,hI⟩))
  refine fS 2 ?_;obtain rfl:=oI h2;obtain rfl:_=rr1:=ho1;replace h1:rG cH sg t1 i3 r4 f5=some out1:=h1;exact aG (aY (aY (bV (aH (⟨rfl,_,_,_,_,_,_,aZ,hO,hI,h1⟩)))))
 refine fS 0 ?_;obtain rfl:=oI h1;obtain rfl:_=rr0:=ho0;replace h0:some sg=some r:=h0;obtain rfl:=oI h0;exact aG (aY (aY (bV (zB (x:=(.tup [])) (by kernel_rfl) (aR.refl _) ⟨rfl,G,hI,hO.zK⟩))))

theorem xG (s0:(List aI))(f1_f:Nat)(f1_a f1_c:List V)(f1:aI->Option Bool)(f1_h:∀ a0 r,f1 a0=some r->dD Tryz.prog f1_f (f1_a++[(aJ a0)]++f1_c) (aD r))(r:Int)(h0:jI s0 f1=some r):dD Tryz.prog 119 [(eL aJ s0),(.fn (.func f1_f) f1_a f1_c)] (eI r):=by
 intro H0;refine cZ Tryz.func119 ?_;have hO:=aN.start H0;unfold jI at h0;refine aX aC 1 [] [] ?_;refine eJ (fun T H=>Has T []/\aN ⟨H0,[],[]⟩ H []/\gJ f1  = some r) ?_ ?_
 ·clear hO h0;rintro T H ⟨hT,hO,h0⟩;refine bF hT ?_;clear hT;unfold gJ at h0;refine bW aC 1 [(4,(eI (-1:Int)))] ?_;refine bI ?_;obtain rfl:=oI h0;exact aG (Q_r hO)
 refine aX aC 3 [] [(7,(eI (lN s0))),(8,(eI (0:Int)))] ?_;refine bX 0 ?_;refine eC [(0,(eL aJ s0)),(1,(.fn (.func f1_f) f1_a f1_c)),(7,(eI (lN s0))),(8,(eI (0:Int)))] ?_;refine eD (fun T H=>∃ t7:Int,∃ t8:Int,Has T [(0,(eL aJ s0)),(1,(.fn (.func f1_f) f1_a f1_c)),(7,(eI t7)),(8,(eI t8))]/\aN ⟨H0,[],[]⟩ H []/\jC f1 s0 t7 t8=some r) ?_ ⟨(lN s0),(0:Int),aZ,hO,h0⟩;clear hO h0;rintro T H ⟨t7,t8,hT,hO,h0⟩;refine bF hT ?_;clear hT;unfold jC at h0;obtain⟨rr0,hl0,h0⟩:=aW h0;refine iP (fun (s:Int) T H=>Has T [(0,(eL aJ s0)),(1,(.fn (.func f1_f) f1_a f1_c)),(7,(eI t7)),(8,(eI s))]/\aN ⟨H0,[],[]⟩ H []) hl0 ⟨aZ,hO⟩ ?_;clear hO;rintro k0 s out1 T H ⟨hT,hO⟩ h1 ho0;obtain⟨t8,rfl⟩:∃ x,x=s:=⟨_,rfl⟩;replace h1:jB f1 s0 t7 t8=some out1:=h1;refine bF hT ?_;clear hT;unfold jB at h1;refine aX aC 1 [] [(9,(aD (decide (t8<t7))))] ?_;refine aP ?_;refine bL h1 (fun h1=>?_) (fun h1=>?_)
 ·refine bM ?_;refine bD [(0,(eL aJ s0)),(1,(.fn (.func f1_f) f1_a f1_c)),(7,(eI t7)),(8,(eI t8))] ?_;refine aP ?_;refine bX 1 ?_;refine aX aC 2 [] [(5,(eI t8))] ?_;refine aP ?_;refine aS aC 6 ?_;obtain⟨c2,h1⟩:=bB h1;refine rS 5 [0<=t8/\t8<(lN s0)] ⟨c2,trivial⟩ ?_;obtain⟨x3,hx4,h1⟩:=aW h1;refine cW (f1_h (gD s0 t8) _ hx4) hO ?_;intro H hO;refine dB ?_;refine bP [] [(16,(aD x3))] ?_;refine bL h1 (fun h1=>?_) (fun h1=>?_)
  ·refine bW aC 2 [(4,(eI t8))] ?_;refine bI ?_;obtain rfl:=oI h1;obtain rfl:_=rr0:=ho0;replace h0:some t8=some r:=h0;obtain rfl:=oI h0;exact aG (bG (aT (aT (bG (aT (Q_r hO))))))
  refine bM ?_;refine dP [(0,(eL aJ s0)),(1,(.fn (.func f1_f) f1_a f1_c)),(7,(eI t7)),(8,(eI t8))] ?_;refine aG (aV (aH (?_)));refine aS aC 2 ?_;refine bA ?_;exact aG (aH (⟨rfl,_,(oI h1).symm,aZ,hO⟩))
 refine fS 0 ?_;obtain rfl:=oI h1;obtain rfl:_=rr0:=ho0;replace h0:gJ f1  = some r:=h0;exact aG (aY (aY (bV (aH (⟨rfl,aZ,hO,h0⟩)))))

theorem uY (s0:(List aI))(f1_f:Nat)(f1_a f1_c:List V)(f1:aI->Option Bool)(f1_h:∀ a0 r,f1 a0=some r->dD Tryz.prog f1_f (f1_a++[(aJ a0)]++f1_c) (aD r))(r:Bool)(h0:fM s0 f1=some r):dD Tryz.prog 116 [(eL aJ s0),(.fn (.func f1_f) f1_a f1_c)] (aD r):=by
 intro H0;refine cZ Tryz.func116 ?_;have hO:=aN.start H0;unfold fM at h0;refine aX aC 1 [] [] ?_;refine aP ?_;refine aS aC 5 ?_;refine bH 2 ?_;obtain⟨x1,hx2,h0⟩:=aW h0;refine cW (xG s0 f1_f f1_a f1_c f1 f1_h _ hx2) hO ?_;intro H hO;refine bA ?_;refine bD [(4,(aD (decide ((0:Int)<=x1))))] ?_;refine bI ?_;obtain rfl:=oI h0;exact aG (Q_r hO)

theorem BF (v0:aI)(r:(bQ×Bool))(h0:nB v0=some r):dD Tryz.prog 129 [(aJ v0)] (.tup [(bN r.1),(aD r.2)]):=by
 intro H0;refine cZ Tryz.func129 ?_;have hO:=aN.start H0;unfold nB at h0;refine aP ?_;refine aS aC 3 ?_;refine kY 3 (aJ v0) ?_;refine bA ?_;refine bD [(1,(.rp (aJ v0)))] ?_;refine aP ?_;refine bX 0 ?_;refine aX aC 9 [] [(4,(aD ((decide (v0.Kind=(1:Int)))&&(qL v0.Text (⟨#[]⟩:ByteArray)))))] ?_;refine bL h0 (fun h0=>?_) (fun h0=>?_)
 ·refine bW aC 5 [(2,(bN (bQ.k_number v0.Num))),(3,(aD true))] ?_;refine bI ?_;obtain rfl:=oI h0;exact aG (bG (aT (Q_r hO)))
 refine aX aC 15 [4] [(16,(aD (((decide (v0.Kind=(2:Int)))&&(decide (v0.Num=(0:Int))))&&(decide (((ByteArray.size v0.Text:Nat):Int)<=(64:Int))))))] ?_;refine bL h0 (fun h0=>?_) (fun h0=>?_)
 ·refine bW aC 5 [(2,(bN (bQ.k_words v0.Text))),(3,(aD true))] ?_;refine bI ?_;obtain rfl:=oI h0;exact aG (bG (aT (Q_r hO)))
 refine bM ?_;refine dP [] ?_;refine aG (aV (aH (?_)));refine bW aC 2 [(2,(bN bQ.none_)),(3,(aD false))] ?_;refine bI ?_;obtain rfl:=oI h0;exact aG (Q_r hO)

theorem aAB (v0:aI)(r:Bool)(h0:yM v0=some r):dD Tryz.prog 118 [(aJ v0)] (aD r):=by
 intro H0;refine cZ Tryz.func118 ?_;have hO:=aN.start H0;unfold yM at h0;refine aP ?_;refine aS aC 2 ?_;refine kY 3 (aJ v0) ?_;refine bA ?_;refine bD [(1,(.rp (aJ v0)))] ?_;refine aP ?_;refine aS aC 7 ?_;refine bH 1 ?_;obtain⟨⟨x1_0,x1_1⟩,hx2,h0⟩:=aW h0;refine cW (BF v0 _ hx2) hO ?_;intro H hO;rcases x1_0 with _ | y4 | y5
 ·replace h0:(some x1_1)=some r:=h0;refine bA ?_;refine bD [(4,(aD x1_1))] ?_;refine bW aC 2 [(2,(aD x1_1))] ?_;refine bI ?_;obtain rfl:=oI h0;exact aG (Q_r hO)
 ·replace h0:(some x1_1)=some r:=h0;refine bA ?_;refine bD [(4,(aD x1_1))] ?_;refine bW aC 2 [(2,(aD x1_1))] ?_;refine bI ?_;obtain rfl:=oI h0;exact aG (Q_r hO)
 ·replace h0:(some x1_1)=some r:=h0;refine bA ?_;refine bD [(4,(aD x1_1))] ?_;refine bW aC 2 [(2,(aD x1_1))] ?_;refine bI ?_;obtain rfl:=oI h0;exact aG (Q_r hO)

theorem aAp (v0:aI)(r:Bool)(h0:yL v0=some r):dD Tryz.prog 117 [(aJ v0)] (aD r):=by
 intro H0;refine cZ Tryz.func117 ?_;have hO:=aN.start H0;unfold yL at h0;refine aP ?_;refine aS aC 2 ?_;refine kY 3 (aJ v0) ?_;refine bA ?_;refine bD [(1,(.rp (aJ v0)))] ?_;refine aP ?_;refine aS aC 4 ?_;refine bH 1 ?_;obtain⟨x1,hx2,h0⟩:=aW h0;refine cW (aAB v0 _ hx2) hO ?_;intro H hO;refine bA ?_;refine bD [(2,(aD (!x1)))] ?_;refine bI ?_;obtain rfl:=oI h0;exact aG (Q_r hO)

theorem KT (r0:(List aI))(r:Bool)(h0:xJ r0=some r):dD Tryz.prog 97 [(eL aJ r0)] (aD r):=by
 intro H0;refine cZ Tryz.func97 ?_;have hO:=aN.start H0;unfold xJ at h0;refine aX aC 1 [] [] ?_;refine aP ?_;refine aX aC 3 [] [(5,(aD (decide ((8:Int)<(lN r0)))))] ?_;refine bL h0 (fun h0=>?_) (fun h0=>?_)
 ·refine bW aC 1 [(2,(aD false))] ?_;refine bI ?_;obtain rfl:=oI h0;exact aG (aT (Q_r hO))
 refine bM ?_;refine bD [(0,(eL aJ r0))] ?_;refine aP ?_;refine aS aC 4 ?_;refine bH 1 ?_;obtain⟨x2,hx3,h0⟩:=aW h0;refine cW (uY r0 117 [] [] (fun y0=>yL y0) (fun y0 r h=>aAp y0 r h) _ hx3) hO ?_;intro H hO;refine bA ?_;refine bD [(2,(aD (!x2)))] ?_;refine bI ?_;obtain rfl:=oI h0;exact aG (Q_r hO)

theorem QZ (t0:(List aI))(r:(Int×(List aI)))(h0:wK t0=some r):FQ Tryz.prog 120 [(.rp (eL aJ t0))] (fun lo=>(.fn (.func 121) [] [(.lp lo 0 0),(.rp (eL aJ r.2))])) 1 [(eI r.1)]:=by
 intro H0;refine cZ Tryz.func120 ?_;have hO:=aN.start H0;unfold wK at h0;refine aX aC 1 [] [] ?_;refine aP ?_;refine aS aC 2 ?_;refine kM 1 (eI 0) (by kernel_rfl) (by kernel_rfl) hO ?_;intro lo1 H hO;refine gK 0 lo1 1 0 (eI 0) (eI (-1:Int)) [(eI 0)] [(lo1,1,[(eI (-1:Int))])] hO rfl (by kernel_rfl) ?_;intro H hO;refine dB ?_;refine bP [] [(2,(.lp lo1 0 0))] ?_;refine aX aC 2 [0] [(1,(.fn (.func 121) [] [(.lp lo1 0 0),(.rp (eL aJ t0))]))] ?_;refine bI ?_;obtain rfl:=oI h0;exact aG (kB (x:=(.fn (.func 121) [] [(.lp lo1 0 0),(.rp (eL aJ t0))])) (by kernel_rfl) (aR.refl _) ⟨lo1,rfl,hO⟩)

theorem wC {σ:Type}(I:σ->Gs->Prop)(s0:(List aI))(f1_v:V)(f1:σ->aI->Option (σ×Bool))(f1_h:∀ st a0 st2 r,f1 st a0=some (st2,r)->CE Tryz.prog f1_v I st [(aJ a0)] st2 (aD r))(sg0:σ)(r:(σ×Int))(h0:iW s0 f1 sg0=some r):yF Tryz.prog 119 I sg0 [(eL aJ s0),f1_v] r.1 (eI r.2):=by
 intro H0 G0 hI hg;refine cZ Tryz.func119 ?_;obtain⟨G,hO,hI⟩:∃ G,aN ⟨H0,List.map (fun p:Nat×dN=>p.1) G0,G⟩ H0 []/\I sg0 G:=⟨G0,aN.DZ hg,hI⟩;clear hg;unfold iW at h0;refine aX aC 1 [] [] ?_;refine eJ (fun T H=>∃ sg:σ,∃ G:Gs,Has T []/\aN ⟨H0,List.map (fun p:Nat×dN=>p.1) G0,G⟩ H []/\I sg G/\fN f1 sg=some r) ?_ ?_
 ·clear hO hI h0;rintro T H ⟨sg,G,hT,hO,hI,h0⟩;refine bF hT ?_;clear hT;unfold fN at h0;refine bW aC 1 [(4,(eI (-1:Int)))] ?_;refine bI ?_;obtain rfl:=oI h0;exact aG (kB (x:=(eI (-1:Int))) (by kernel_rfl) (aR.refl _) ⟨rfl,G,hI,hO.zK⟩)
 refine aX aC 3 [] [(7,(eI (lN s0))),(8,(eI (0:Int)))] ?_;refine bX 0 ?_;refine eC [(0,(eL aJ s0)),(1,f1_v),(7,(eI (lN s0))),(8,(eI (0:Int)))] ?_;refine eD (fun T H=>∃ sg:σ,∃ t7:Int,∃ t8:Int,∃ G:Gs,Has T [(0,(eL aJ s0)),(1,f1_v),(7,(eI t7)),(8,(eI t8))]/\aN ⟨H0,List.map (fun p:Nat×dN=>p.1) G0,G⟩ H []/\I sg G/\iT f1 sg s0 t7 t8=some r) ?_ ⟨sg0,(lN s0),(0:Int),G,aZ,hO,hI,h0⟩;clear hO hI h0;rintro T H ⟨sg,t7,t8,G,hT,hO,hI,h0⟩;refine bF hT ?_;clear hT;unfold iT at h0;obtain⟨rr0,hl0,h0⟩:=aW h0;refine iP (fun (s:σ×Int) T H=>∃ G:Gs,Has T [(0,(eL aJ s0)),(1,f1_v),(7,(eI t7)),(8,(eI s.2))]/\aN ⟨H0,List.map (fun p:Nat×dN=>p.1) G0,G⟩ H []/\I s.1 G) hl0 ⟨G,aZ,hO,hI⟩ ?_;clear hO hI;rintro k0 s out1 T H ⟨G,hT,hO,hI⟩ h1 ho0;obtain⟨sg,t8⟩:=s;replace h1:cK f1 s0 t7 sg t8=some out1:=h1
 try dsimp only at hT
 refine bF hT ?_;clear hT;unfold cK at h1;refine aX aC 1 [] [(9,(aD (decide (t8<t7))))] ?_;refine aP ?_;refine bL h1 (fun h1=>?_) (fun h1=>?_)
 ·refine bM ?_;refine bD [(0,(eL aJ s0)),(1,f1_v),(7,(eI t7)),(8,(eI t8))] ?_;refine aP ?_;refine bX 1 ?_;refine aX aC 2 [] [(5,(eI t8))] ?_;refine aP ?_;refine aS aC 6 ?_;obtain⟨c2,h1⟩:=bB h1;refine rS 5 [0<=t8/\t8<(lN s0)] ⟨c2,trivial⟩ ?_;obtain⟨x3,hx4,h1⟩:=aW h1;refine MP (I:=I) f1_v [(aJ (gD s0 t8))] (aD x3.2) (by kernel_rfl) (by kernel_rfl) (f1_h _ (gD s0 t8) x3.1 x3.2 hx4) hO hI ?_;intro G H hO hI;refine dB ?_;refine bP [] [(16,(aD x3.2))] ?_;refine bL h1 (fun h1=>?_) (fun h1=>?_)
  ·refine bW aC 2 [(4,(eI t8))] ?_;refine bI ?_;obtain rfl:=oI h1;obtain rfl:_=rr0:=ho0;replace h0:some (x3.1,t8)=some r:=h0;obtain rfl:=oI h0;exact aG (bG (aT (aT (bG (aT (kB (x:=(eI t8)) (by kernel_rfl) (aR.refl _) ⟨rfl,G,hI,hO.zK⟩))))))
  refine bM ?_;refine dP [(0,(eL aJ s0)),(1,f1_v),(7,(eI t7)),(8,(eI t8))] ?_;refine aG (aV (aH (?_)));refine aS aC 2 ?_;refine bA ?_;exact aG (aH (⟨rfl,_,(oI h1).symm,_,aZ,hO,hI⟩))
 refine fS 0 ?_;obtain rfl:=oI h1;obtain rfl:_=rr0:=ho0;replace h0:fN f1 sg=some r:=h0;exact aG (aY (aY (bV (aH (⟨rfl,_,_,aZ,hO,hI,h0⟩)))))

theorem MS (v0:aI)(lo1p:Nat)(t1:Int)(t2:(List aI))(r:(Bool×Int))(h0:kV v0 t1 t2=some r):rP Tryz.prog 121 lo1p 1 [(eI t1)] [(eI r.2)] [(aJ v0),(.lp lo1p 0 0),(.rp (eL aJ t2))] (aD r.1):=by
 intro H0 hl0;refine cZ Tryz.func121 ?_;have hO:=aN.tP hl0;clear hl0;unfold kV at h0;refine aP ?_;refine aS aC 2 ?_;refine kY 3 (aJ v0) ?_;refine bA ?_;refine bP [0] [(3,(.rp (aJ v0)))] ?_;refine aP ?_;refine aS aC 3 ?_;refine iG 0 lo1p 1 0 (eI t1) (eI t1) [(eI t1)] hO rfl ?_;refine bH 2 ?_;refine gK 0 lo1p 1 0 (eI t1) (eI (wR (t1+(1:Int)))) [(eI t1)] [(lo1p,1,[(eI (wR (t1+(1:Int))))])] hO rfl (by kernel_rfl) ?_;intro H hO;refine dB ?_;refine bP [] [] ?_;refine aP ?_;refine fP (fR [7,8,11]) aC 7 ?_;refine kJ 2 ?_;refine gH 0 lo1p 1 0 (eI (wR (t1+(1:Int)))) (eI (wR (t1+(1:Int)))) [(eI (wR (t1+(1:Int))))] hO rfl ?_;obtain⟨c1,h0⟩:=bB h0;refine RZ (Ds:=[0<=(wR (t1+(1:Int)))/\(wR (t1+(1:Int)))<(lN t2)]) (by kernel_rfl) ⟨c1,trivial⟩ ?_;refine bD [(1,(.lp lo1p 0 0)),(4,(aD (!((decide (v0.Kind=((gD t2 (wR (t1+(1:Int)))).Kind)))&&((decide (v0.Num=((gD t2 (wR (t1+(1:Int)))).Num)))&&((qL v0.Text ((gD t2 (wR (t1+(1:Int)))).Text))&&true))))))] ?_;refine bI ?_;obtain rfl:=oI h0;exact aG (kB (x:=(aD (!((decide (v0.Kind=((gD t2 (wR (t1+(1:Int)))).Kind)))&&((decide (v0.Num=((gD t2 (wR (t1+(1:Int)))).Num)))&&((qL v0.Text ((gD t2 (wR (t1+(1:Int)))).Text))&&true)))))) (by kernel_rfl) (aR.refl _) ⟨rfl,hO.ext,hO.at 0 (by kernel_rfl),rfl⟩)

theorem wI (x0:Int)(r:Bool)(h0:lO x0=some r):dD Tryz.prog 100 [(eI x0)] (aD r):=by
 intro H0;refine cZ Tryz.func100 ?_;have hO:=aN.start H0;unfold lO at h0;refine aX aC 1 [] [] ?_;refine bW aC 4 [(2,(aD (!decide (x0=x0))))] ?_;refine bI ?_;obtain rfl:=oI h0;exact aG (Q_r hO)

theorem MU (x0:Int)(y1:Int)(r:Int)(h0:qE x0 y1=some r):dD Tryz.prog 122 [(eI x0),(eI y1)] (eI r):=by
 intro H0;refine cZ Tryz.func122 ?_;have hO:=aN.start H0;unfold qE at h0;refine aX aC 1 [] [] ?_;refine aP ?_;refine aS aC 3 ?_;refine bH 1 ?_;obtain⟨x1,hx2,h0⟩:=aW h0;refine cW (wI x0 _ hx2) hO ?_;intro H hO;refine bA ?_;refine bP [] [(5,(aD x1))] ?_;refine aP ?_;refine aS aC 3 ?_;refine bH 1 ?_;obtain⟨x4,hx5,h0⟩:=aW h0;refine cW (wI y1 _ hx5) hO ?_;intro H hO;refine bA ?_;refine bP [] [(6,(aD x4))] ?_;refine aP ?_;refine aX aC 1 [5] [(11,(aD x1))] ?_;refine bL h0 (fun h0=>?_) (fun h0=>?_)
 ·refine aP ?_;refine bW aC 1 [(12,(aD x4))] ?_;refine bL h0 (fun h0=>?_) (fun h0=>?_)
  ·refine bW aC 1 [(4,(eI (0:Int)))] ?_;refine bI ?_;obtain rfl:=oI h0;exact aG (aT (aT (Q_r hO)))
  refine bM ?_;refine bD [] ?_;refine bW aC 1 [(4,(eI (-1:Int)))] ?_;refine bI ?_;obtain rfl:=oI h0;exact aG (aT (Q_r hO))
 refine bM ?_;refine bD [(0,(eI x0)),(1,(eI y1)),(6,(aD x4))] ?_;refine aP ?_;refine aX aC 1 [6] [(13,(aD x4))] ?_;refine bL h0 (fun h0=>?_) (fun h0=>?_)
 ·refine bW aC 1 [(4,(eI (1:Int)))] ?_;refine bI ?_;obtain rfl:=oI h0;exact aG (aT (Q_r hO))
 refine bM ?_;refine bD [(0,(eI x0)),(1,(eI y1))] ?_;refine aP ?_;refine aX aC 3 [] [(16,(aD (decide (x0<y1))))] ?_;refine bL h0 (fun h0=>?_) (fun h0=>?_)
 ·refine bW aC 1 [(4,(eI (-1:Int)))] ?_;refine bI ?_;obtain rfl:=oI h0;exact aG (aT (Q_r hO))
 refine bM ?_;refine bD [(0,(eI x0)),(1,(eI y1))] ?_;refine aP ?_;refine bW aC 3 [(19,(aD (decide (y1<x0))))] ?_;refine bL h0 (fun h0=>?_) (fun h0=>?_)
 ·refine bW aC 1 [(4,(eI (1:Int)))] ?_;refine bI ?_;obtain rfl:=oI h0;exact aG (aT (Q_r hO))
 refine bM ?_;refine bD [] ?_;refine bW aC 1 [(4,(eI (0:Int)))] ?_;refine bI ?_;obtain rfl:=oI h0;exact aG (Q_r hO)

theorem wZ (x0:Int)(r:Bool)(h0:lX x0=some r):dD Tryz.prog 133 [(eI x0)] (aD r):=by
 intro H0;refine cZ Tryz.func133 ?_;have hO:=aN.start H0;unfold lX at h0;refine aX aC 1 [] [] ?_;refine bW aC 4 [(2,(aD (!decide (x0=x0))))] ?_;refine bI ?_;obtain rfl:=oI h0;exact aG (Q_r hO)

theorem DA (x0:Int)(y1:Int)(r:Int)(h0:gW x0 y1=some r):dD Tryz.prog 130 [(eI x0),(eI y1)] (eI r):=by
 intro H0;refine cZ Tryz.func130 ?_;have hO:=aN.start H0;unfold gW at h0;refine aX aC 1 [] [] ?_;refine aP ?_;refine aS aC 3 ?_;refine bH 1 ?_;obtain⟨x1,hx2,h0⟩:=aW h0;refine cW (wZ x0 _ hx2) hO ?_;intro H hO;refine bA ?_;refine bP [] [(5,(aD x1))] ?_;refine aP ?_;refine aS aC 3 ?_;refine bH 1 ?_;obtain⟨x4,hx5,h0⟩:=aW h0;refine cW (wZ y1 _ hx5) hO ?_;intro H hO;refine bA ?_;refine bP [] [(6,(aD x4))] ?_;refine aP ?_;refine aX aC 1 [5] [(11,(aD x1))] ?_;refine bL h0 (fun h0=>?_) (fun h0=>?_)
 ·refine aP ?_;refine bW aC 1 [(12,(aD x4))] ?_;refine bL h0 (fun h0=>?_) (fun h0=>?_)
  ·refine bW aC 1 [(4,(eI (0:Int)))] ?_;refine bI ?_;obtain rfl:=oI h0;exact aG (aT (aT (Q_r hO)))
  refine bM ?_;refine bD [] ?_;refine bW aC 1 [(4,(eI (-1:Int)))] ?_;refine bI ?_;obtain rfl:=oI h0;exact aG (aT (Q_r hO))
 refine bM ?_;refine bD [(0,(eI x0)),(1,(eI y1)),(6,(aD x4))] ?_;refine aP ?_;refine aX aC 1 [6] [(13,(aD x4))] ?_;refine bL h0 (fun h0=>?_) (fun h0=>?_)
 ·refine bW aC 1 [(4,(eI (1:Int)))] ?_;refine bI ?_;obtain rfl:=oI h0;exact aG (aT (Q_r hO))
 refine bM ?_;refine bD [(0,(eI x0)),(1,(eI y1))] ?_;refine aP ?_;refine aX aC 3 [] [(16,(aD (decide (x0<y1))))] ?_;refine bL h0 (fun h0=>?_) (fun h0=>?_)
 ·refine bW aC 1 [(4,(eI (-1:Int)))] ?_;refine bI ?_;obtain rfl:=oI h0;exact aG (aT (Q_r hO))
 refine bM ?_;refine bD [(0,(eI x0)),(1,(eI y1))] ?_;refine aP ?_;refine bW aC 3 [(19,(aD (decide (y1<x0))))] ?_;refine bL h0 (fun h0=>?_) (fun h0=>?_)
 ·refine bW aC 1 [(4,(eI (1:Int)))] ?_;refine bI ?_;obtain rfl:=oI h0;exact aG (aT (Q_r hO))
 refine bM ?_;refine bD [] ?_;refine bW aC 1 [(4,(eI (0:Int)))] ?_;refine bI ?_;obtain rfl:=oI h0;exact aG (Q_r hO)

theorem zT (a0:ByteArray)(b1:ByteArray)(r:Int)(h0:kL a0 b1=some r):dD Tryz.prog 134 [(BW a0),(BW b1)] (eI r):=by
 intro H0;refine cZ Tryz.func134 ?_;have hO:=aN.start H0;unfold kL at h0;refine aX aC 1 [] [] ?_;refine aP ?_;refine aS aC 4 ?_;refine bH 2 ?_;refine aFL 135 [(BW a0),(BW b1)] (eI (SC a0 b1)) (by kernel_rfl) (by kernel_rfl) (aD2 Tryz.func135 (by kernel_rfl) (by kernel_rfl) (by kernel_rfl) (by kernel_rfl) a0 b1) hO ?_;intro H hO;refine bA ?_;refine bD [(4,(eI (SC a0 b1)))] ?_;refine bI ?_;obtain rfl:=oI h0;exact aG (Q_r hO)

theorem MR (a0:ByteArray)(b1:ByteArray)(r:Int)(h0:nZ a0 b1=some r):dD Tryz.prog 131 [(BW a0),(BW b1)] (eI r):=by
 intro H0;refine cZ Tryz.func131 ?_;have hO:=aN.start H0;unfold nZ at h0;refine aX aC 1 [] [] ?_;refine aP ?_;refine aS aC 4 ?_;refine bH 2 ?_;obtain⟨x1,hx2,h0⟩:=aW h0;refine cW (zT a0 b1 _ hx2) hO ?_;intro H hO;refine bA ?_;refine bD [(4,(eI x1))] ?_;refine bI ?_;obtain rfl:=oI h0;exact aG (Q_r hO)

theorem QG (a0:aI)(b1:aI)(r:Int)(h0:sI a0 b1=some r):dD Tryz.prog 123 [(aJ a0),(aJ b1)] (eI r):=by
 intro H0;refine cZ Tryz.func123 ?_;have hO:=aN.start H0;unfold sI at h0;refine aP ?_;refine aS aC 3 ?_;refine kY 3 (aJ a0) ?_;refine kY 3 (aJ b1) ?_;refine bA ?_;refine bD [(2,(.rp (aJ a0))),(3,(.rp (aJ b1)))] ?_;refine aP ?_;refine aS aC 7 ?_;refine bH 1 ?_;obtain⟨⟨x1_0,x1_1⟩,hx2,h0⟩:=aW h0;refine cW (BF a0 _ hx2) hO ?_;intro H hO;rcases x1_0 with _ | y4 | y5
 ·replace h0:((nB b1).bind fun (x6_0,x6_1)=>match x6_0 with | .none_=>(cond ((!x1_1)||(!x6_1)) (some (0:Int)) (none)) | .k_number y9=>(cond ((!x1_1)||(!x6_1)) (some (0:Int)) (some (1:Int))) | .k_words y10=>(cond ((!x1_1)||(!x6_1)) (some (0:Int)) (none)))=some r:=h0;refine bA ?_;refine bP [2] [(5,(bN bQ.none_)),(6,(aD x1_1))] ?_;refine aP ?_;refine aS aC 7 ?_;refine bH 1 ?_;obtain⟨⟨x6_0,x6_1⟩,hx7,h0⟩:=aW h0;refine cW (BF b1 _ hx7) hO ?_;intro H hO;rcases x6_0 with _ | y9 | y10
  ·replace h0:(cond ((!x1_1)||(!x6_1)) (some (0:Int)) (none))=some r:=h0;refine bA ?_;refine bP [3] [(7,(bN bQ.none_)),(8,(aD x6_1))] ?_;refine aP ?_;refine aX aC 6 [6,8] [(28,(aD ((!x1_1)||(!x6_1))))] ?_;refine bL h0 (fun h0=>?_) (fun h0=>?_)
   ·refine bW aC 1 [(4,(eI (0:Int)))] ?_;refine bI ?_;obtain rfl:=oI h0;exact aG (aT (Q_r hO))
   refine bM ?_;refine bD [(5,(bN bQ.none_)),(7,(bN bQ.none_))] ?_;refine aX aC 7 [] [(9,(eI 0)),(10,(aD false))] ?_;refine aX aC 7 [] [(11,(eI 0)),(12,(aD false))] ?_;refine aP ?_;refine bX 0 ?_;refine aX aC 5 [] [(39,(aD false))] ?_;refine mW (false) (fun hc12=>?_) (fun hc12=>?_)
   ·cases hc12
   ·refine aX aC 2 [9,10,11,39] [(47,(aD false))] ?_;refine mW (false) (fun hc13=>?_) (fun hc13=>?_)
    ·cases hc13
    ·refine bW aC 2 [(5,(bN bQ.none_)),(7,(bN bQ.none_)),(49,(aD false))] ?_;refine mW (false) (fun hc14=>?_) (fun hc14=>?_)
     ·cases hc14
     ·refine bM ?_;refine dP [(5,(bN bQ.none_)),(7,(bN bQ.none_))] ?_;refine aG (aV (aH (?_)));refine aP ?_;refine fP (fR []) aC 6 ?_
      cases h0
  ·replace h0:(cond ((!x1_1)||(!x6_1)) (some (0:Int)) (some (1:Int)))=some r:=h0;refine bA ?_;refine bP [3] [(7,(bN (bQ.k_number y9))),(8,(aD x6_1))] ?_;refine aP ?_;refine aX aC 6 [6,8] [(28,(aD ((!x1_1)||(!x6_1))))] ?_;refine bL h0 (fun h0=>?_) (fun h0=>?_)
   ·refine bW aC 1 [(4,(eI (0:Int)))] ?_;refine bI ?_;obtain rfl:=oI h0;exact aG (aT (Q_r hO))
   refine bM ?_;refine bD [(5,(bN bQ.none_)),(7,(bN (bQ.k_number y9)))] ?_;refine aX aC 7 [] [(9,(eI 0)),(10,(aD false))] ?_;refine aX aC 7 [] [(11,(eI y9)),(12,(aD true))] ?_;refine aP ?_;refine bX 0 ?_;refine aX aC 5 [] [(39,(aD false))] ?_;refine mW (false) (fun hc16=>?_) (fun hc16=>?_)
   ·cases hc16
   ·refine aX aC 2 [9,10,11,39] [(47,(aD false))] ?_;refine mW (false) (fun hc17=>?_) (fun hc17=>?_)
    ·cases hc17
    ·refine bW aC 2 [(5,(bN bQ.none_)),(7,(bN (bQ.k_number y9))),(49,(aD true))] ?_;refine mW (true) (fun hc18=>?_) (fun hc18=>?_)
     ·refine bW aC 1 [(4,(eI (1:Int)))] ?_;refine bI ?_;obtain rfl:=oI h0;exact aG (bG (aT (Q_r hO)))
     ·cases hc18
  ·replace h0:(cond ((!x1_1)||(!x6_1)) (some (0:Int)) (none))=some r:=h0;refine bA ?_;refine bP [3] [(7,(bN (bQ.k_words y10))),(8,(aD x6_1))] ?_;refine aP ?_;refine aX aC 6 [6,8] [(28,(aD ((!x1_1)||(!x6_1))))] ?_;refine bL h0 (fun h0=>?_) (fun h0=>?_)
   ·refine bW aC 1 [(4,(eI (0:Int)))] ?_;refine bI ?_;obtain rfl:=oI h0;exact aG (aT (Q_r hO))
   refine bM ?_;refine bD [(5,(bN bQ.none_)),(7,(bN (bQ.k_words y10)))] ?_;refine aX aC 7 [] [(9,(eI 0)),(10,(aD false))] ?_;refine aX aC 7 [] [(11,(eI 0)),(12,(aD false))] ?_;refine aP ?_;refine bX 0 ?_;refine aX aC 5 [] [(39,(aD false))] ?_;refine mW (false) (fun hc20=>?_) (fun hc20=>?_)
   ·cases hc20
   ·refine aX aC 2 [9,10,11,39] [(47,(aD false))] ?_;refine mW (false) (fun hc21=>?_) (fun hc21=>?_)
    ·cases hc21
    ·refine bW aC 2 [(5,(bN bQ.none_)),(7,(bN (bQ.k_words y10))),(49,(aD false))] ?_;refine mW (false) (fun hc22=>?_) (fun hc22=>?_)
     ·cases hc22
     ·refine bM ?_;refine dP [(5,(bN bQ.none_)),(7,(bN (bQ.k_words y10)))] ?_;refine aG (aV (aH (?_)));refine aP ?_;refine fP (fR []) aC 6 ?_
      cases h0
 ·replace h0:((nB b1).bind fun (x23_0,x23_1)=>match x23_0 with | .none_=>(cond ((!x1_1)||(!x23_1)) (some (0:Int)) (some (-1:Int))) | .k_number y26=>(cond ((!x1_1)||(!x23_1)) (some (0:Int)) ((gW y4 y26).bind fun x33=>some x33)) | .k_words y27=>(cond ((!x1_1)||(!x23_1)) (some (0:Int)) (some (-1:Int))))=some r:=h0;refine bA ?_;refine bP [2] [(5,(bN (bQ.k_number y4))),(6,(aD x1_1))] ?_;refine aP ?_;refine aS aC 7 ?_;refine bH 1 ?_;obtain⟨⟨x23_0,x23_1⟩,hx24,h0⟩:=aW h0;refine cW (BF b1 _ hx24) hO ?_;intro H hO;rcases x23_0 with _ | y26 | y27
  ·replace h0:(cond ((!x1_1)||(!x23_1)) (some (0:Int)) (some (-1:Int)))=some r:=h0;refine bA ?_;refine bP [3] [(7,(bN bQ.none_)),(8,(aD x23_1))] ?_;refine aP ?_;refine aX aC 6 [6,8] [(28,(aD ((!x1_1)||(!x23_1))))] ?_;refine bL h0 (fun h0=>?_) (fun h0=>?_)
   ·refine bW aC 1 [(4,(eI (0:Int)))] ?_;refine bI ?_;obtain rfl:=oI h0;exact aG (aT (Q_r hO))
   refine bM ?_;refine bD [(5,(bN (bQ.k_number y4))),(7,(bN bQ.none_))] ?_;refine aX aC 7 [] [(9,(eI y4)),(10,(aD true))] ?_;refine aX aC 7 [] [(11,(eI 0)),(12,(aD false))] ?_;refine aP ?_;refine bX 0 ?_;refine aX aC 5 [] [(39,(aD false))] ?_;refine mW (false) (fun hc29=>?_) (fun hc29=>?_)
   ·cases hc29
   ·refine aX aC 2 [9,10,11,39] [(47,(aD true))] ?_;refine mW (true) (fun hc30=>?_) (fun hc30=>?_)
    ·refine bW aC 1 [(4,(eI (-1:Int)))] ?_;refine bI ?_;obtain rfl:=oI h0;exact aG (bG (aT (Q_r hO)))
    ·cases hc30
  ·replace h0:(cond ((!x1_1)||(!x23_1)) (some (0:Int)) ((gW y4 y26).bind fun x33=>some x33))=some r:=h0;refine bA ?_;refine bP [3] [(7,(bN (bQ.k_number y26))),(8,(aD x23_1))] ?_;refine aP ?_;refine aX aC 6 [6,8] [(28,(aD ((!x1_1)||(!x23_1))))] ?_;refine bL h0 (fun h0=>?_) (fun h0=>?_)
   ·refine bW aC 1 [(4,(eI (0:Int)))] ?_;refine bI ?_;obtain rfl:=oI h0;exact aG (aT (Q_r hO))
   refine bM ?_;refine bD [(5,(bN (bQ.k_number y4))),(7,(bN (bQ.k_number y26)))] ?_;refine aX aC 7 [] [(9,(eI y4)),(10,(aD true))] ?_;refine aX aC 7 [] [(11,(eI y26)),(12,(aD true))] ?_;refine aP ?_;refine bX 0 ?_;refine aX aC 5 [] [(39,(aD true))] ?_;refine mW (true) (fun hc32=>?_) (fun hc32=>?_)
   ·refine aP ?_;refine aS aC 4 ?_;refine bH 2 ?_;obtain⟨x33,hx34,h0⟩:=aW h0;refine cW (DA y4 y26 _ hx34) hO ?_;intro H hO;refine bA ?_;refine bD [(4,(eI x33))] ?_;refine bI ?_;obtain rfl:=oI h0;exact aG (bG (aT (Q_r hO)))
   ·cases hc32
  ·replace h0:(cond ((!x1_1)||(!x23_1)) (some (0:Int)) (some (-1:Int)))=some r:=h0;refine bA ?_;refine bP [3] [(7,(bN (bQ.k_words y27))),(8,(aD x23_1))] ?_;refine aP ?_;refine aX aC 6 [6,8] [(28,(aD ((!x1_1)||(!x23_1))))] ?_;refine bL h0 (fun h0=>?_) (fun h0=>?_)
   ·refine bW aC 1 [(4,(eI (0:Int)))] ?_;refine bI ?_;obtain rfl:=oI h0;exact aG (aT (Q_r hO))
   refine bM ?_;refine bD [(5,(bN (bQ.k_number y4))),(7,(bN (bQ.k_words y27)))] ?_;refine aX aC 7 [] [(9,(eI y4)),(10,(aD true))] ?_;refine aX aC 7 [] [(11,(eI 0)),(12,(aD false))] ?_;refine aP ?_;refine bX 0 ?_;refine aX aC 5 [] [(39,(aD false))] ?_;refine mW (false) (fun hc37=>?_) (fun hc37=>?_)
   ·cases hc37
   ·refine aX aC 2 [9,10,11,39] [(47,(aD true))] ?_;refine mW (true) (fun hc38=>?_) (fun hc38=>?_)
    ·refine bW aC 1 [(4,(eI (-1:Int)))] ?_;refine bI ?_;obtain rfl:=oI h0;exact aG (bG (aT (Q_r hO)))
    ·cases hc38
 ·replace h0:((nB b1).bind fun (x39_0,x39_1)=>match x39_0 with | .none_=>(cond ((!x1_1)||(!x39_1)) (some (0:Int)) (none)) | .k_number y42=>(cond ((!x1_1)||(!x39_1)) (some (0:Int)) (some (1:Int))) | .k_words y43=>(cond ((!x1_1)||(!x39_1)) (some (0:Int)) ((nZ y5 y43).bind fun x56=>some x56)))=some r:=h0;refine bA ?_;refine bP [2] [(5,(bN (bQ.k_words y5))),(6,(aD x1_1))] ?_;refine aP ?_;refine aS aC 7 ?_;refine bH 1 ?_;obtain⟨⟨x39_0,x39_1⟩,hx40,h0⟩:=aW h0;refine cW (BF b1 _ hx40) hO ?_;intro H hO;rcases x39_0 with _ | y42 | y43
  ·replace h0:(cond ((!x1_1)||(!x39_1)) (some (0:Int)) (none))=some r:=h0;refine bA ?_;refine bP [3] [(7,(bN bQ.none_)),(8,(aD x39_1))] ?_;refine aP ?_;refine aX aC 6 [6,8] [(28,(aD ((!x1_1)||(!x39_1))))] ?_;refine bL h0 (fun h0=>?_) (fun h0=>?_)
   ·refine bW aC 1 [(4,(eI (0:Int)))] ?_;refine bI ?_;obtain rfl:=oI h0;exact aG (aT (Q_r hO))
   refine bM ?_;refine bD [(5,(bN (bQ.k_words y5))),(7,(bN bQ.none_))] ?_;refine aX aC 7 [] [(9,(eI 0)),(10,(aD false))] ?_;refine aX aC 7 [] [(11,(eI 0)),(12,(aD false))] ?_;refine aP ?_;refine bX 0 ?_;refine aX aC 5 [] [(39,(aD false))] ?_;refine mW (false) (fun hc45=>?_) (fun hc45=>?_)
   ·cases hc45
   ·refine aX aC 2 [9,10,11,39] [(47,(aD false))] ?_;refine mW (false) (fun hc46=>?_) (fun hc46=>?_)
    ·cases hc46
    ·refine bW aC 2 [(5,(bN (bQ.k_words y5))),(7,(bN bQ.none_)),(49,(aD false))] ?_;refine mW (false) (fun hc47=>?_) (fun hc47=>?_)
     ·cases hc47
     ·refine bM ?_;refine dP [(5,(bN (bQ.k_words y5))),(7,(bN bQ.none_))] ?_;refine aG (aV (aH (?_)));refine aP ?_;refine fP (fR []) aC 6 ?_
      cases h0
  ·replace h0:(cond ((!x1_1)||(!x39_1)) (some (0:Int)) (some (1:Int)))=some r:=h0;refine bA ?_;refine bP [3] [(7,(bN (bQ.k_number y42))),(8,(aD x39_1))] ?_;refine aP ?_;refine aX aC 6 [6,8] [(28,(aD ((!x1_1)||(!x39_1))))] ?_;refine bL h0 (fun h0=>?_) (fun h0=>?_)
   ·refine bW aC 1 [(4,(eI (0:Int)))] ?_;refine bI ?_;obtain rfl:=oI h0;exact aG (aT (Q_r hO))
   refine bM ?_;refine bD [(5,(bN (bQ.k_words y5))),(7,(bN (bQ.k_number y42)))] ?_;refine aX aC 7 [] [(9,(eI 0)),(10,(aD false))] ?_;refine aX aC 7 [] [(11,(eI y42)),(12,(aD true))] ?_;refine aP ?_;refine bX 0 ?_;refine aX aC 5 [] [(39,(aD false))] ?_;refine mW (false) (fun hc49=>?_) (fun hc49=>?_)
   ·cases hc49
   ·refine aX aC 2 [9,10,11,39] [(47,(aD false))] ?_;refine mW (false) (fun hc50=>?_) (fun hc50=>?_)
    ·cases hc50
    ·refine bW aC 2 [(5,(bN (bQ.k_words y5))),(7,(bN (bQ.k_number y42))),(49,(aD true))] ?_;refine mW (true) (fun hc51=>?_) (fun hc51=>?_)
     ·refine bW aC 1 [(4,(eI (1:Int)))] ?_;refine bI ?_;obtain rfl:=oI h0;exact aG (bG (aT (Q_r hO)))
     ·cases hc51
  ·replace h0:(cond ((!x1_1)||(!x39_1)) (some (0:Int)) ((nZ y5 y43).bind fun x56=>some x56))=some r:=h0;refine bA ?_;refine bP [3] [(7,(bN (bQ.k_words y43))),(8,(aD x39_1))] ?_;refine aP ?_;refine aX aC 6 [6,8] [(28,(aD ((!x1_1)||(!x39_1))))] ?_;refine bL h0 (fun h0=>?_) (fun h0=>?_)
   ·refine bW aC 1 [(4,(eI (0:Int)))] ?_;refine bI ?_;obtain rfl:=oI h0;exact aG (aT (Q_r hO))
   refine bM ?_;refine bD [(5,(bN (bQ.k_words y5))),(7,(bN (bQ.k_words y43)))] ?_;refine aX aC 7 [] [(9,(eI 0)),(10,(aD false))] ?_;refine aX aC 7 [] [(11,(eI 0)),(12,(aD false))] ?_;refine aP ?_;refine bX 0 ?_;refine aX aC 5 [] [(39,(aD false))] ?_;refine mW (false) (fun hc53=>?_) (fun hc53=>?_)
   ·cases hc53
   ·refine aX aC 2 [9,10,11,39] [(47,(aD false))] ?_;refine mW (false) (fun hc54=>?_) (fun hc54=>?_)
    ·cases hc54
    ·refine bW aC 2 [(5,(bN (bQ.k_words y5))),(7,(bN (bQ.k_words y43))),(49,(aD false))] ?_;refine mW (false) (fun hc55=>?_) (fun hc55=>?_)
     ·cases hc55
     ·refine bM ?_;refine dP [(5,(bN (bQ.k_words y5))),(7,(bN (bQ.k_words y43)))] ?_;refine aG (aV (aH (?_)));refine aP ?_;refine fP (fR []) aC 6 ?_;refine kJ 4 ?_;obtain⟨x56,hx57,h0⟩:=aW h0;refine BV (MR y5 y43 _ hx57) hO ?_;intro H hO;refine jM ?_;refine bD [(4,(eI x56))] ?_;refine bI ?_;obtain rfl:=oI h0;exact aG (Q_r hO)

theorem VU (a0:(List aI))(b1:(List aI))(r:Int)(h0:uZ a0 b1=some r):dD Tryz.prog 98 [(eL aJ a0),(eL aJ b1)] (eI r):=by
 intro H0;refine cZ Tryz.func98 ?_;have hO:=aN.start H0;unfold uZ at h0;refine aP ?_;refine aS aC 2 ?_;refine kY 1 (eL aJ b1) ?_;refine bA ?_;refine bP [1] [(3,(.rp (eL aJ b1)))] ?_;refine aP ?_;refine aP ?_;refine aS aC 8 ?_;refine bH 1 ?_;obtain⟨x1,hx2,h0⟩:=aW h0;refine cW (KT a0 _ hx2) hO ?_;intro H hO;refine bH 5 ?_;obtain⟨x4,hx5,h0⟩:=aW h0;refine lQ [(10,false)] 97 [(eL aJ b1)] (aD x4) (!(!x1)) (by kernel_rfl) (by kernel_rfl) (by kernel_rfl) (fun hb6=>(KT b1 _ (iA hx5 hb6))) hO ?_;intro H hO;refine bA ?_;refine bP [] [(14,(aD ((!x1)||(!x4))))] ?_;refine bL h0 (fun h0=>?_) (fun h0=>?_)
 ·refine bW aC 1 [(4,(eI (0:Int)))] ?_;refine bI ?_;obtain rfl:=oI h0;exact aG (aT (Q_r hO))
 refine bM ?_;refine bD [(0,(eL aJ a0)),(3,(.rp (eL aJ b1)))] ?_;refine aX aC 6 [] [(5,(eI (if (lN b1)<(lN a0) then (lN b1) else (lN a0))))] ?_;refine aP ?_;refine fP (fR []) aC 7 ?_;obtain⟨c8,h0⟩:=bB h0;refine cJ 4 [0<=(if (lN b1)<(lN a0) then (lN b1) else (lN a0))/\(if (lN b1)<(lN a0) then (lN b1) else (lN a0))<=(lN a0)] ⟨c8,trivial⟩ ?_;obtain⟨x9,hx10,h0⟩:=aW h0;refine aFv (L':=fun lo11=>[(lo11,1,[(eI x9.1)])]) 1 [(eI x9.1)] 120 [(.rp (eL aJ b1))] (fun lo11=>(.fn (.func 121) [] [(.lp lo11 0 0),(.rp (eL aJ x9.2))])) (by kernel_rfl) (by kernel_rfl) (QZ b1 _ hx10) hO (fun _=>by kernel_rfl) ?_;intro lo11 H hO;obtain⟨x12,hx13,h0⟩:=aW h0;refine aFl (fun st G'=>G'=up [(lo11,1,[(eI st)])]++[]) [(lo11,1,[(eI x12.1)])] x9.1 x12.1 119 [(.sl false (Int.toNat (if (lN b1)<(lN a0) then (lN b1) else (lN a0))) (fun i=>aJ (List.getD a0 i default))),(.fn (.func 121) [] [(.lp lo11 0 0),(.rp (eL aJ x9.2))])] (eI x12.2) (by kernel_rfl) (by kernel_rfl) (yF.sub (as0':=[(eL aJ (List.take (Int.toNat (if (lN b1)<(lN a0) then (lN b1) else (lN a0))) a0)),(.fn (.func 121) [] [(.lp lo11 0 0),(.rp (eL aJ x9.2))])]) (wC _ (List.take (Int.toNat (if (lN b1)<(lN a0) then (lN b1) else (lN a0))) a0) (.fn (.func 121) [] [(.lp lo11 0 0),(.rp (eL aJ x9.2))]) (fun st y0=>(kV y0 st x9.2).bind fun o=>some (o.2,o.1)) (fun st y0 st2 rr hr=>(MS y0 lo11 st x9.2 _ (aGQ hr)).toV (ys:=[]) (zs:=[(aJ y0)]) (cs:=[(.lp lo11 0 0),(.rp (eL aJ x9.2))]) (fun Gx hG=>⟨up [],up []++[],hG,rfl⟩)) _ _ hx13) ⟨aBq (Int.toNat_le.2 (And.right c8)),aR.refl _,trivial⟩) hO rfl (fun _ h=>h) ?_;intro H hO;refine jM ?_;replace hO:=hO.pick (L':=[]) [] (by decide) (by kernel_rfl);refine bP [5] [(6,(eI x12.2))] ?_;refine aP ?_;refine aX aC 2 [] [(27,(aD (decide (x12.2<(0:Int)))))] ?_;refine bL h0 (fun h0=>?_) (fun h0=>?_)
 ·refine aP ?_;refine aS aC 6 ?_;refine bH 4 ?_;obtain⟨x15,hx16,h0⟩:=aW h0;refine cW (MU (lN a0) (lN b1) _ hx16) hO ?_;intro H hO;refine bA ?_;refine bD [(4,(eI x15))] ?_;refine bI ?_;obtain rfl:=oI h0;exact aG (aT (Q_r hO))
 refine bM ?_;refine bD [(0,(eL aJ a0)),(3,(.rp (eL aJ b1))),(6,(eI x12.2))] ?_;refine aP ?_;refine fP (fR [36,37,40,41]) aC 10 ?_;obtain⟨c18,h0⟩:=bB h0;obtain⟨c19,h0⟩:=bB h0;refine cJ 8 [0<=x12.2/\x12.2<(lN a0),0<=x12.2/\x12.2<(lN b1)] ⟨c18,c19,trivial⟩ ?_;obtain⟨x20,hx21,h0⟩:=aW h0;refine BV (QG (gD a0 x12.2) (gD b1 x12.2) _ hx21) hO ?_;intro H hO;refine jM ?_;refine bD [(4,(eI x20))] ?_;refine bI ?_;obtain rfl:=oI h0;exact aG (Q_r hO)

theorem MX (l0:(List aF))(holds1_f:Nat)(holds1_a holds1_c:List V)(wY:(List aB)->Option Bool)(holds1_h:∀ a0 r,wY a0=some r->dD Tryz.prog holds1_f (holds1_a++[(eL aL a0)]++holds1_c) (aD r))(r:Bool)(h0:vU l0 wY=some r):dD Tryz.prog 72 [(eL aE l0),(.fn (.func holds1_f) holds1_a holds1_c)] (aD r):=by
 intro H0;refine zV aC Tryz.func72 (by kernel_rfl) (by kernel_rfl) (by kernel_rfl) ?_;have hO:=aN.start H0;unfold vU at h0;refine aP ?_;refine aS aC 2 ?_;refine kY 1 (.fn (.func holds1_f) holds1_a holds1_c) ?_;refine kM 1 (aD false) (by kernel_rfl) (by kernel_rfl) hO ?_;intro lo1 H hO;refine dB ?_;refine bP [1] [(3,(.rp (.fn (.func holds1_f) holds1_a holds1_c))),(4,(.lp lo1 0 0))] ?_;refine aP ?_;refine aX aC 3 [] [(11,(aD (decide ((4096:Int)<(lN l0)))))] ?_;refine bL h0 (fun h0=>?_) (fun h0=>?_)
 ·refine aP ?_;refine aS aC 1 ?_;refine gK 0 lo1 1 0 (aD false) (aD false) [(aD false)] [(lo1,1,[(aD false)])] hO rfl (by kernel_rfl) ?_;intro H hO;refine dB ?_;refine bD [(4,(.lp lo1 0 0))] ?_;refine bI ?_;obtain rfl:=oI h0;exact aG (aT (QM0 (.inr rfl) (rs:=[.cell 4 4]) (xs:=[(aD false)]) (x:=(aD false)) (by kernel_rfl) (lR (lo:=lo1) (k:=1) (y:=(aD false)) (x:=(aD false)) 0 hO (by kernel_rfl) (by kernel_rfl) (by kernel_rfl) (by kernel_rfl) nG) (by kernel_rfl) ⟨rfl,hO.out⟩))
 refine bM ?_;refine bD [(0,(eL aE l0)),(3,(.rp (.fn (.func holds1_f) holds1_a holds1_c))),(4,(.lp lo1 0 0))] ?_;refine aP ?_;refine aS aC 1 ?_;refine nT 1 (.sl true 0 (fun _ => .bad)) (eL aJ ([])) (by kernel_rfl) (by kernel_rfl) (by kernel_rfl) (eV) (by kernel_rfl) (by kernel_rfl) hO ?_;intro lo3 H hO;refine dB ?_;refine bP [] [(5,(.lp lo3 0 0))] ?_;refine aP ?_;refine aS aC 2 ?_;refine kM 1 (aD false) (by kernel_rfl) (by kernel_rfl) hO ?_;intro lo4 H hO;refine gK 2 lo4 1 0 (aD false) (aD false) [(aD false)] [(lo1,1,[(aD false)]),(lo3,1,[(eL aJ ([]))]),(lo4,1,[(aD false)])] hO rfl (by kernel_rfl) ?_;intro H hO;refine dB ?_;refine bP [] [(6,(.lp lo4 0 0))] ?_;refine aP ?_;refine aP ?_;refine aS aC 2 ?_;refine bH 1 ?_;obtain⟨x5,hx6,h0⟩:=aW h0;refine cW (GZ l0 _ hx6) hO ?_;intro H hO;refine dB ?_;refine bP [0] [(13,(.fn (.func 103) [] [(.rp (eL aE x5))]))] ?_;refine bX 0 ?_;refine eC [(3,(.rp (.fn (.func holds1_f) holds1_a holds1_c))),(4,(.lp lo1 0 0)),(5,(.lp lo3 0 0)),(6,(.lp lo4 0 0)),(13,(.fn (.func 103) [] [(.rp (eL aE x5))]))] ?_;refine eD (fun T H=>∃ t4:Bool,∃ qK:(List aI),∃ lJ:Bool,∃ mI:(List aF),Has T [(3,(.rp (.fn (.func holds1_f) holds1_a holds1_c))),(4,(.lp lo1 0 0)),(5,(.lp lo3 0 0)),(6,(.lp lo4 0 0)),(13,(.fn (.func 103) [] [(.rp (eL aE mI))]))]/\aN ⟨H0,[],[]⟩ H [(lo1,1,[(aD t4)]),(lo3,1,[(eL aJ qK)]),(lo4,1,[(aD lJ)])]/\AN wY t4 qK lJ mI=some r) ?_ ⟨false,[],false,x5,aZ,hO,h0⟩;clear hO h0;rintro T H ⟨t4,qK,lJ,mI,hT,hO,h0⟩;refine bF (l:=[(3,(.rp (.fn (.func holds1_f) holds1_a holds1_c))),(4,(.lp lo1 0 0)),(5,(.lp lo3 0 0)),(6,(.lp lo4 0 0)),(13,(.fn (.func 103) [] [(.rp (eL aE mI))]))]) hT ?_;clear hT;unfold AN at h0;obtain⟨o0,hl0,h0⟩:=aW h0;refine xR (fid:=103) (ys:=[]) (cs:=[(.rp (eL aE mI))]) #[14,15] (fun (A:sM) (b lL:Nat) (st:(Bool×(List aI)×Bool)⊕(Bool×(List aI)×Bool)) (G':Gs)=>Sum.elim (fun (s:Bool×(List aI)×Bool)=>G'=(lL,.raw (gQ b A .ready none))::(up [(lo1,1,[(aD s.1)]),(lo3,1,[(eL aJ s.2.1)]),(lo4,1,[(aD s.2.2)])]++[])) (fun (s:Bool×(List aI)×Bool)=>G'=(lL,.raw (gQ b A .done (some .ret)))::(up [(lo1,1,[(aD s.1)]),(lo3,1,[(eL aJ s.2.1)]),(lo4,1,[(aD s.2.2)])]++[])) st) (.inl (t4,qK,lJ)) o0 (.tup []) (by kernel_rfl) (by kernel_rfl) (by kernel_rfl) hO (fun _ _=>rfl) ?_ ?_
 ·intro b lL;clear hO h0;refine BC _ b (fun st t14 t15=>rnd (fun (s:Bool×(List aI)×Bool)=>qZ wY mI s.1 s.2.1 s.2.2 t14 t15) st) ?_ mI _ _ hl0;intro st t14 t15 out1 rr hr;obtain⟨s,rfl,h1,rfl⟩:=IC hr;clear hr;intro Hr Gr hi hg;obtain⟨t4,qK,lJ⟩:=s;dsimp only [Sum.elim_inl] at hi;obtain rfl:=hi;replace h1:qZ wY mI t4 qK lJ t14 t15=some out1:=h1;unfold qZ at h1;obtain⟨E1,hE,hO⟩:=oV hg;refine oT (uS (hO.gm 0 _ rfl).2 (by kernel_rfl) (by kernel_rfl) ?_);refine eC [(3,(.rp (.fn (.func holds1_f) holds1_a holds1_c))),(4,(.lp lo1 0 0)),(5,(.lp lo3 0 0)),(6,(.lp lo4 0 0)),(13,(.fn (.func 103) [] [(.rp (eL aE mI))])),(14,(eL aJ t14)),(15,(eL aL t15))] ?_;refine aX aC 1 [13,14] [(7,(eL aJ t14))] ?_;refine aS aC 1 ?_;refine bA ?_;refine dP [(3,(.rp (.fn (.func holds1_f) holds1_a holds1_c))),(4,(.lp lo1 0 0)),(5,(.lp lo3 0 0)),(6,(.lp lo4 0 0)),(7,(eL aJ t14)),(8,(eL aL t15))] ?_;refine aG (⟨rfl,rfl,(hO.gm 0 _ rfl).2,?_⟩);intro o1 ho1;replace hO:=hO.nM o1;refine bX 1 ?_;refine aP ?_;refine aP ?_;refine aS aC 18 ?_;refine bH 1 ?_;obtain⟨x7,hx8,h1⟩:=aW h1;refine cW (KT t14 _ hx8) hO ?_;intro H hO;refine bH 4 ?_;refine sC [(19,false)] 2 lo4 1 0 (aD lJ) (aD lJ) [(aD lJ)] (by kernel_rfl) (by kernel_rfl) hO (by kernel_rfl) (!(!x7)) (by kernel_rfl) (fun hb10=>rfl) ?_;refine bH 6 ?_;refine sC [(21,true),(19,false)] 1 lo3 1 0 (eL aJ qK) (eL aJ qK) [(eL aJ qK)] (by kernel_rfl) (by kernel_rfl) hO (by kernel_rfl) (lJ&&(!(!x7))) (by kernel_rfl) (fun hb11=>rfl) ?_;refine bH 8 ?_;obtain⟨x12,hx13,h1⟩:=aW h1;refine lQ [(21,true),(19,false)] 98 [(eL aJ qK),(eL aJ t14)] (eI x12) (lJ&&(!(!x7))) (by kernel_rfl) (by kernel_rfl) (by kernel_rfl) (fun hb14=>(VU qK t14 _ (iA hx13 hb14))) hO ?_;intro H hO;refine bH 15 ?_;obtain⟨x15,hx16,h1⟩:=aW h1;refine lQ [(28,false)] holds1_f (holds1_a++[(eL aL t15)]++holds1_c) (aD x15) (!((!x7)||(lJ&&(decide ((0:Int)<=x12))))) (by kernel_rfl) (by kernel_rfl) (by kernel_rfl) (fun hb17=>(holds1_h t15 _ (iA hx16 hb17))) hO ?_;intro H hO;refine bA ?_;refine bP [3,8] [(33,(aD (((!x7)||(lJ&&(decide ((0:Int)<=x12))))||(!x15))))] ?_;refine bL h1 (fun h1=>?_) (fun h1=>?_)
  ·refine aP ?_;refine aS aC 1 ?_;refine gK 0 lo1 1 0 (aD t4) (aD false) [(aD t4)] [(lo1,1,[(aD false)]),(lo3,1,[(eL aJ qK)]),(lo4,1,[(aD lJ)])] hO rfl (by kernel_rfl) ?_;intro H hO;refine dB ?_;refine bP [7,33] [] ?_;refine bI ?_;refine dP [(4,(.lp lo1 0 0)),(5,(.lp lo3 0 0)),(6,(.lp lo4 0 0))] ?_;obtain rfl:=oI h1;exact aG (aT (bG (⟨(dG hO hE ho1 .dead).1,rfl,_,rfl,(dG hO hE ho1 _).2⟩)))
  refine bM ?_;refine bD [(4,(.lp lo1 0 0)),(5,(.lp lo3 0 0)),(6,(.lp lo4 0 0)),(7,(eL aJ t14))] ?_;refine aS aC 3 ?_;refine bH 1 ?_;refine gK 1 lo3 1 0 (eL aJ qK) (eL aJ t14) [(eL aJ qK)] [(lo1,1,[(aD t4)]),(lo3,1,[(eL aJ t14)]),(lo4,1,[(aD lJ)])] hO rfl (by kernel_rfl) ?_;intro H hO;refine gK 2 lo4 1 0 (aD lJ) (aD true) [(aD lJ)] [(lo1,1,[(aD t4)]),(lo3,1,[(eL aJ t14)]),(lo4,1,[(aD true)])] hO rfl (by kernel_rfl) ?_;intro H hO;refine dB ?_;refine dP [(4,(.lp lo1 0 0)),(5,(.lp lo3 0 0)),(6,(.lp lo4 0 0))] ?_;obtain rfl:=oI h1;exact aG (aV (⟨(dG hO hE ho1 .dead).1,rfl,_,rfl,(dG hO hE ho1 _).2⟩))
 ·intro b lD19 lL H' G' hi hO;rcases o0 with s | s
  ·dsimp only [Sum.elim_inl] at hi;obtain rfl:=hi;replace h0:(some true)=some r:=h0;obtain⟨hlL,hO⟩:=mH hO;refine⟨_,_,hlL,(by intro e; cases e),?_⟩;refine dP [(4,(.lp lo1 0 0))] ?_;replace hO:=hO.pick (L':=[(lo1,1,[(aD s.1)])]) [0] (by decide) (by kernel_rfl);refine aG (aV (aH (?_)));refine aP ?_;refine aS aC 1 ?_;refine gK 0 lo1 1 0 (aD s.1) (aD true) [(aD s.1)] [(lo1,1,[(aD true)])] hO rfl (by kernel_rfl) ?_;intro H hO;refine dB ?_;refine bD [(4,(.lp lo1 0 0))] ?_;refine bI ?_;obtain rfl:=oI h0;have hD:=(hO.gm 0 _ rfl).2;replace hO:=(hO.nM .dead).nR;exact aG (QM1 (.inr rfl) hD (rs:=[.cell 4 4]) (xs:=[(aD true)]) (x:=(aD true)) (by kernel_rfl) (lR (lo:=lo1) (k:=1) (y:=(aD true)) (x:=(aD true)) 0 hO (by kernel_rfl) (by kernel_rfl) (by kernel_rfl) (by kernel_rfl) nG) (by kernel_rfl) ⟨rfl,hO.out⟩)
  ·dsimp only [Sum.elim_inr] at hi;obtain rfl:=hi;replace h0:(some s.1)=some r:=h0;obtain⟨hlL,hO⟩:=mH hO;refine⟨_,_,hlL,(by intro e; cases e),?_⟩;refine bI ?_;replace hO:=hO.pick (L':=[(lo1,1,[(aD s.1)])]) [0] (by decide) (by kernel_rfl);obtain rfl:=oI h0;have hD:=(hO.gm 0 _ rfl).2;replace hO:=(hO.nM .dead).nR;exact aG (bG (aT (QM1 (.inr rfl) hD (rs:=[.cell 4 4]) (xs:=[(aD s.1)]) (x:=(aD s.1)) (by kernel_rfl) (lR (lo:=lo1) (k:=1) (y:=(aD s.1)) (x:=(aD s.1)) 0 hO (by kernel_rfl) (by kernel_rfl) (by kernel_rfl) (by kernel_rfl) nG) (by kernel_rfl) ⟨rfl,hO.out⟩)))

theorem aAC (n0:Int)(r:Bool)(h0:CJ n0=some r):dD Tryz.prog 96 [(eI n0)] (aD r):=by
 intro H0;refine cZ Tryz.func96 ?_;have hO:=aN.start H0;unfold CJ at h0;refine aX aC 1 [] [] ?_;refine bW aC 7 [(2,(aD ((decide (n0<=(1048576:Int)))&&(decide ((-1048576:Int)<=n0)))))] ?_;refine bI ?_;obtain rfl:=oI h0;exact aG (Q_r hO)

theorem yE (f0:(List aB))(r:Bool)(h0:nP f0=some r):dD Tryz.prog 69 [(eL aL f0)] (aD r):=by
 intro H0;refine cZ Tryz.func69 ?_;have hO:=aN.start H0;unfold nP at h0;refine aX aC 1 [] [] ?_;refine aP ?_;refine aX aC 3 [] [(8,(aD (decide ((1024:Int)<(lN f0)))))] ?_;refine bL h0 (fun h0=>?_) (fun h0=>?_)
 ·refine bW aC 1 [(2,(aD false))] ?_;refine bI ?_;obtain rfl:=oI h0;exact aG (aT (Q_r hO))
 refine bM ?_;refine bD [(0,(eL aL f0))] ?_;refine aX aC 1 [] [(3,(eI (-2:Int)))] ?_;refine eJ (fun T H=>Has T []/\aN ⟨H0,[],[]⟩ H []/\yK  = some r) ?_ ?_
 ·clear hO h0;rintro T H ⟨hT,hO,h0⟩;refine bF hT ?_;clear hT;unfold yK at h0;refine bW aC 1 [(2,(aD true))] ?_;refine bI ?_;obtain rfl:=oI h0;exact aG (Q_r hO)
 refine aX aC 3 [0] [(9,(eL aL f0)),(10,(eI (lN f0))),(11,(eI (0:Int)))] ?_;refine bX 0 ?_;refine eC [(3,(eI (-2:Int))),(9,(eL aL f0)),(10,(eI (lN f0))),(11,(eI (0:Int)))] ?_;refine eD (fun T H=>∃ sY:Int,∃ t9:(List aB),∃ t10:Int,∃ t11:Int,Has T [(3,(eI sY)),(9,(eL aL t9)),(10,(eI t10)),(11,(eI t11))]/\aN ⟨H0,[],[]⟩ H []/\CC sY t9 t10 t11=some r) ?_ ⟨(-2:Int),f0,(lN f0),(0:Int),aZ,hO,h0⟩;clear hO h0;rintro T H ⟨sY,t9,t10,t11,hT,hO,h0⟩;refine bF hT ?_;clear hT;unfold CC at h0;obtain⟨rr0,hl0,h0⟩:=aW h0;refine iP (fun (s:Int×Int) T H=>Has T [(3,(eI s.1)),(9,(eL aL t9)),(10,(eI t10)),(11,(eI s.2))]/\aN ⟨H0,[],[]⟩ H []) hl0 ⟨aZ,hO⟩ ?_;clear hO;rintro k0 s out1 T H ⟨hT,hO⟩ h1 ho0;obtain⟨sY,t11⟩:=s;replace h1:nN t9 t10 sY t11=some out1:=h1
 try dsimp only at hT
 refine bF hT ?_;clear hT;unfold nN at h1;refine aX aC 1 [] [(12,(aD (decide (t11<t10))))] ?_;refine aP ?_;refine bL h1 (fun h1=>?_) (fun h1=>?_)
 ·refine bM ?_;refine bD [(3,(eI sY)),(9,(eL aL t9)),(10,(eI t10)),(11,(eI t11))] ?_;refine aP ?_;refine bX 1 ?_;refine aP ?_;refine aS aC 4 ?_;obtain⟨c3,h1⟩:=bB h1;refine rS 2 [0<=t11/\t11<(lN t9)] ⟨c3,trivial⟩ ?_;refine kM 2 (aL (aB.mk 0 0)) (by kernel_rfl) (by kernel_rfl) hO ?_;intro lo4 H hO;refine gK 0 lo4 2 0 (aL (aB.mk 0 0)) (aL (gD t9 t11)) [(aL (aB.mk 0 0))] [(lo4,2,[(aL (gD t9 t11))])] hO rfl (by kernel_rfl) ?_;intro H hO;refine dB ?_;refine bP [] [(5,(.lp lo4 0 0))] ?_;refine aP ?_;refine aP ?_;refine aS aC 20 ?_;refine bH 1 ?_;refine iG 0 lo4 2 0 (aL (gD t9 t11)) (eI ((gD t9 t11).At)) [(aL (gD t9 t11))] hO rfl ?_;refine bH 6 ?_;refine sC [(19,false)] 0 lo4 2 0 (aL (gD t9 t11)) (eI ((gD t9 t11).At)) [(aL (gD t9 t11))] (by kernel_rfl) (by kernel_rfl) hO (by kernel_rfl) (!(decide (((gD t9 t11).At)<=sY))) (by kernel_rfl) (fun hb5=>rfl) ?_;refine bH 11 ?_;refine sC [(24,false)] 0 lo4 2 0 (aL (gD t9 t11)) (eI ((gD t9 t11).Net)) [(aL (gD t9 t11))] (by kernel_rfl) (by kernel_rfl) hO (by kernel_rfl) (!((decide (((gD t9 t11).At)<=sY))||(decide ((1125899906842624:Int)<=((gD t9 t11).At))))) (by kernel_rfl) (fun hb6=>rfl) ?_;refine bH 16 ?_;refine sC [(29,false)] 0 lo4 2 0 (aL (gD t9 t11)) (eI ((gD t9 t11).Net)) [(aL (gD t9 t11))] (by kernel_rfl) (by kernel_rfl) hO (by kernel_rfl) (!(((decide (((gD t9 t11).At)<=sY))||(decide ((1125899906842624:Int)<=((gD t9 t11).At))))||(decide (((gD t9 t11).Net)=(0:Int))))) (by kernel_rfl) (fun hb7=>rfl) ?_;obtain⟨x8,hx9,h1⟩:=aW h1;refine lQ [(29,false)] 96 [(eI ((gD t9 t11).Net))] (aD x8) (!(((decide (((gD t9 t11).At)<=sY))||(decide ((1125899906842624:Int)<=((gD t9 t11).At))))||(decide (((gD t9 t11).Net)=(0:Int))))) (by kernel_rfl) (by kernel_rfl) (by kernel_rfl) (fun hb10=>(aAC ((gD t9 t11).Net) _ (iA hx9 hb10))) hO ?_;intro H hO;refine bA ?_;refine bP [3] [(34,(aD ((((decide (((gD t9 t11).At)<=sY))||(decide ((1125899906842624:Int)<=((gD t9 t11).At))))||(decide (((gD t9 t11).Net)=(0:Int))))||(!x8))))] ?_;refine bL h1 (fun h1=>?_) (fun h1=>?_)
  ·refine aP ?_;refine aS aC 1 ?_;refine bA ?_;refine dP [(2,(aD false))] ?_;replace hO:=hO.pick (L':=[]) [] (by decide) (by kernel_rfl);refine aG (aH (?_));refine bI ?_;obtain rfl:=oI h1;obtain rfl:_=rr0:=ho0;replace h0:some false=some r:=h0;obtain rfl:=oI h0;exact aG (aT (bG (aT (aT (bG (aT (Q_r hO)))))))
  refine bM ?_;refine bD [(5,(.lp lo4 0 0)),(9,(eL aL t9)),(10,(eI t10)),(11,(eI t11))] ?_;refine aS aC 3 ?_;refine bH 1 ?_;refine iG 0 lo4 2 0 (aL (gD t9 t11)) (eI ((gD t9 t11).At)) [(aL (gD t9 t11))] hO rfl ?_;refine bA ?_;refine dP [(3,(eI ((gD t9 t11).At))),(9,(eL aL t9)),(10,(eI t10)),(11,(eI t11))] ?_;replace hO:=hO.pick (L':=[]) [] (by decide) (by kernel_rfl);refine aG (aV (aH (?_)));refine aS aC 2 ?_;refine bA ?_;exact aG (aH (⟨rfl,_,(oI h1).symm,aZ,hO⟩))
 refine fS 0 ?_;obtain rfl:=oI h1;obtain rfl:_=rr0:=ho0;replace h0:yK  = some r:=h0;exact aG (aY (aY (bV (aH (⟨rfl,aZ,hO,h0⟩)))))

theorem yA (l0:(List aF))(r:Bool)(h0:oU l0=some r):dD Tryz.prog 38 [(eL aE l0)] (aD r):=by
 intro H0;refine cZ Tryz.func38 ?_;have hO:=aN.start H0;unfold oU at h0;refine aX aC 1 [] [] ?_;refine aP ?_;refine aS aC 3 ?_;refine bH 1 ?_;obtain⟨x1,hx2,h0⟩:=aW h0;refine cW (MX l0 69 [] [] (fun y0=>nP y0) (fun y0 r h=>yE y0 r h) _ hx2) hO ?_;intro H hO;refine bA ?_;refine bD [(2,(aD x1))] ?_;refine bI ?_;obtain rfl:=oI h0;exact aG (Q_r hO)

theorem YH (f0:(List aB))(r:Int)(h0:xF f0=some r):dD Tryz.prog 74 [(eL aL f0)] (eI r):=by
 intro H0;refine cZ Tryz.func74 ?_;have hO:=aN.start H0;unfold xF at h0;refine aX aC 1 [] [] ?_;refine aP ?_;refine aP ?_;refine aS aC 8 ?_;refine bH 1 ?_;obtain⟨x1,hx2,h0⟩:=aW h0;refine cW (yE f0 _ hx2) hO ?_;intro H hO;refine bA ?_;refine bP [] [(14,(aD ((!x1)||(decide ((lN f0)=(0:Int))))))] ?_;refine bL h0 (fun h0=>?_) (fun h0=>?_)
 ·refine bW aC 1 [(2,(eI (0:Int)))] ?_;refine bI ?_;obtain rfl:=oI h0;exact aG (aT (Q_r hO))
 refine bM ?_;refine bD [(0,(eL aL f0))] ?_;refine aX aC 2 [] [(3,(eI (0:Int))),(4,(eI (0:Int)))] ?_;refine eJ (fun T H=>∃ v3:Int,∃ iZ:Int,Has T [(0,(eL aL f0)),(3,(eI v3)),(4,(eI iZ))]/\aN ⟨H0,[],[]⟩ H []/\sB f0 v3 iZ=some r) ?_ ?_
 ·clear hO h0;rintro T H ⟨v3,iZ,hT,hO,h0⟩;refine bF hT ?_;clear hT;unfold sB at h0;refine eJ (fun T H=>∃ iZ:Int,Has T [(4,(eI iZ))]/\aN ⟨H0,[],[]⟩ H []/\vD iZ=some r) ?_ ?_
  ·clear hO h0;rintro T H ⟨iZ,hT,hO,h0⟩;refine bF hT ?_;clear hT;unfold vD at h0;refine bW aC 2 [(2,(eI iZ))] ?_;refine bI ?_;obtain rfl:=oI h0;exact aG (Q_r hO)
  refine aX aC 3 [0] [(24,(eL aL f0)),(25,(eI (lN f0))),(26,(eI (0:Int)))] ?_;refine bX 0 ?_;refine eC [(3,(eI v3)),(4,(eI iZ)),(24,(eL aL f0)),(25,(eI (lN f0))),(26,(eI (0:Int)))] ?_;refine eD (fun T H=>∃ v3:Int,∃ iZ:Int,∃ t24:(List aB),∃ t25:Int,∃ t26:Int,Has T [(3,(eI v3)),(4,(eI iZ)),(24,(eL aL t24)),(25,(eI t25)),(26,(eI t26))]/\aN ⟨H0,[],[]⟩ H []/\vE v3 iZ t24 t25 t26=some r) ?_ ⟨v3,iZ,f0,(lN f0),(0:Int),aZ,hO,h0⟩;clear hO h0;rintro T H ⟨v3,iZ,t24,t25,t26,hT,hO,h0⟩;refine bF hT ?_;clear hT;unfold vE at h0;obtain⟨rr0,hl0,h0⟩:=aW h0;refine iP (fun (s:Int×Int×Int) T H=>Has T [(3,(eI s.1)),(4,(eI s.2.1)),(24,(eL aL t24)),(25,(eI t25)),(26,(eI s.2.2))]/\aN ⟨H0,[],[]⟩ H []) hl0 ⟨aZ,hO⟩ ?_;clear hO;rintro k0 s out1 T H ⟨hT,hO⟩ h1 ho0;obtain⟨v3,iZ,t26⟩:=s;replace h1:oE t24 t25 v3 iZ t26=some out1:=h1
  try dsimp only at hT
  refine bF hT ?_;clear hT;unfold oE at h1;refine aX aC 1 [] [(27,(aD (decide (t26<t25))))] ?_;refine aP ?_;refine bL h1 (fun h1=>?_) (fun h1=>?_)
  ·refine bM ?_;refine bD [(3,(eI v3)),(4,(eI iZ)),(24,(eL aL t24)),(25,(eI t25)),(26,(eI t26))] ?_;refine aP ?_;refine bX 1 ?_;refine aP ?_;refine aS aC 4 ?_;obtain⟨c6,h1⟩:=bB h1;refine rS 2 [0<=t26/\t26<(lN t24)] ⟨c6,trivial⟩ ?_;refine kM 2 (aL (aB.mk 0 0)) (by kernel_rfl) (by kernel_rfl) hO ?_;intro lo7 H hO;refine gK 0 lo7 2 0 (aL (aB.mk 0 0)) (aL (gD t24 t26)) [(aL (aB.mk 0 0))] [(lo7,2,[(aL (gD t24 t26))])] hO rfl (by kernel_rfl) ?_;intro H hO;refine dB ?_;refine bP [] [(6,(.lp lo7 0 0))] ?_;refine aP ?_;refine aS aC 5 ?_;refine bH 2 ?_;refine iG 0 lo7 2 0 (aL (gD t24 t26)) (eI ((gD t24 t26).Net)) [(aL (gD t24 t26))] hO rfl ?_;refine bA ?_;replace hO:=hO.pick (L':=[]) [] (by decide) (by kernel_rfl);refine bP [3,6] [(3,(eI (wR (v3+((gD t24 t26).Net)))))] ?_;refine aS aC 4 ?_;refine bA ?_;refine dP [(3,(eI (wR (v3+((gD t24 t26).Net))))),(4,(eI (if (wR (v3+((gD t24 t26).Net)))<iZ then (wR (v3+((gD t24 t26).Net))) else iZ))),(24,(eL aL t24)),(25,(eI t25)),(26,(eI t26))] ?_;refine aG (aV (aH (?_)));refine aS aC 2 ?_;refine bA ?_;exact aG (aH (⟨rfl,_,(oI h1).symm,aZ,hO⟩))
  refine fS 0 ?_;obtain rfl:=oI h1;obtain rfl:_=rr0:=ho0;replace h0:vD iZ=some r:=h0;exact aG (aY (aY (bV (aH (⟨rfl,_,aZ,hO,h0⟩)))))
 refine aP ?_;refine aS aC 5 ?_;obtain⟨c8,h0⟩:=bB h0;refine qY [0<=(0:Int)/\(0:Int)<(lN f0)] ⟨c8,trivial⟩ ?_;refine bP [] [(19,(aD (decide (((gD f0 (0:Int)).At)=(-1:Int)))))] ?_;refine bL h0 (fun h0=>?_) (fun h0=>?_)
 ·refine aS aC 5 ?_;obtain⟨c10,h0⟩:=bB h0;refine qY [0<=(0:Int)/\(0:Int)<(lN f0)] ⟨c10,trivial⟩ ?_;exact aG (aH (⟨rfl,_,_,aZ,hO,h0⟩))
 refine bM ?_;exact aG (aH (⟨rfl,_,_,aZ,hO,h0⟩))

theorem TI (f0:(List aB))(r:Bool)(h0:tU f0=some r):dD Tryz.prog 73 [(eL aL f0)] (aD r):=by
 intro H0;refine cZ Tryz.func73 ?_;have hO:=aN.start H0;unfold tU at h0;refine aX aC 1 [] [] ?_;refine aP ?_;refine aS aC 8 ?_;refine bH 1 ?_;obtain⟨x1,hx2,h0⟩:=aW h0;refine cW (yE f0 _ hx2) hO ?_;intro H hO;refine bH 4 ?_;obtain⟨x4,hx5,h0⟩:=aW h0;refine lQ [(5,true)] 74 [(eL aL f0)] (eI x4) x1 (by kernel_rfl) (by kernel_rfl) (by kernel_rfl) (fun hb6=>(YH f0 _ (iA hx5 hb6))) hO ?_;intro H hO;refine bA ?_;refine bD [(2,(aD (x1&&(decide ((0:Int)<=x4)))))] ?_;refine bI ?_;obtain rfl:=oI h0;exact aG (Q_r hO)

theorem AE (l0:(List aF))(r:Bool)(h0:pH l0=some r):dD Tryz.prog 39 [(eL aE l0)] (aD r):=by
 intro H0;refine cZ Tryz.func39 ?_;have hO:=aN.start H0;unfold pH at h0;refine aX aC 1 [] [] ?_;refine aP ?_;refine aS aC 3 ?_;refine bH 1 ?_;obtain⟨x1,hx2,h0⟩:=aW h0;refine cW (MX l0 73 [] [] (fun y0=>tU y0) (fun y0 r h=>TI y0 r h) _ hx2) hO ?_;intro H hO;refine bA ?_;refine bD [(2,(aD x1))] ?_;refine bI ?_;obtain rfl:=oI h0;exact aG (Q_r hO)

theorem HP (w0:bY)(l1:(List aF))(t2:Int)(r:Int)(h0:qS w0 l1 t2=some r):dD Tryz.prog 18 [(cP w0),(eL aE l1),(eI t2)] (eI r):=by
 intro H0;refine cZ Tryz.func18 ?_;have hO:=aN.start H0;unfold qS at h0;refine aP ?_;refine aS aC 2 ?_;refine kY 3 (cP w0) ?_;refine bA ?_;refine bP [0] [(3,(.rp (cP w0)))] ?_;refine aP ?_;refine bX 0 ?_;refine aP ?_;refine aS aC 9 ?_;refine bH 1 ?_;obtain⟨x1,hx2,h0⟩:=aW h0;refine cW (HK w0 _ hx2) hO ?_;intro H hO;refine bH 5 ?_;obtain⟨x4,hx5,h0⟩:=aW h0;refine lQ [(11,false)] 38 [(eL aE l1)] (aD x4) (!(!decide (x1=(0:Int)))) (by kernel_rfl) (by kernel_rfl) (by kernel_rfl) (fun hb6=>(yA l1 _ (iA hx5 hb6))) hO ?_;intro H hO;refine bA ?_;refine bP [3] [(7,(aD ((!decide (x1=(0:Int)))||(!x4))))] ?_;refine bL h0 (fun h0=>?_) (fun h0=>?_)
 ·refine bW aC 1 [(6,(eI (2:Int)))] ?_;refine bI ?_;obtain rfl:=oI h0;exact aG (bG (aT (Q_r hO)))
 refine aP ?_;refine aS aC 4 ?_;refine bH 1 ?_;obtain⟨x8,hx9,h0⟩:=aW h0;refine cW (AE l1 _ hx9) hO ?_;intro H hO;refine bA ?_;refine bD [(2,(eI t2)),(16,(aD (!x8)))] ?_;refine bL h0 (fun h0=>?_) (fun h0=>?_)
 ·refine bW aC 1 [(6,(eI (20:Int)))] ?_;refine bI ?_;obtain rfl:=oI h0;exact aG (bG (aT (Q_r hO)))
 refine bW aC 7 [(20,(aD ((decide (t2<(0:Int)))||(decide ((1125899906842624:Int)<t2)))))] ?_;refine bL h0 (fun h0=>?_) (fun h0=>?_)
 ·refine bW aC 1 [(6,(eI (13:Int)))] ?_;refine bI ?_;obtain rfl:=oI h0;exact aG (bG (aT (Q_r hO)))
 refine bM ?_;refine dP [] ?_;refine aG (aV (aH (?_)));refine bW aC 1 [(6,(eI (0:Int)))] ?_;refine bI ?_;obtain rfl:=oI h0;exact aG (Q_r hO)

theorem TS (mY:Int)(hop1:Int)(r:Bool)(h0:zZ mY hop1=some r):dD Tryz.prog 40 [(eI mY),(eI hop1)] (aD r):=by
 intro H0;refine cZ Tryz.func40 ?_;have hO:=aN.start H0;unfold zZ at h0;refine aX aC 1 [] [] ?_;refine bW aC 15 [(4,(aD ((((decide ((1:Int)<=mY))&&(decide (mY<=(1099511627776:Int))))&&(decide ((1:Int)<=hop1)))&&(decide (hop1<=(1099511627776:Int))))))] ?_;refine bI ?_;obtain rfl:=oI h0;exact aG (Q_r hO)

theorem HW (t0:Int)(r:Bool)(h0:uF t0=some r):dD Tryz.prog 41 [(eI t0)] (aD r):=by
 intro H0;refine cZ Tryz.func41 ?_;have hO:=aN.start H0;unfold uF at h0;refine aX aC 1 [] [] ?_;refine bW aC 7 [(2,(aD ((decide ((0:Int)<=t0))&&(decide (t0<=(1125899906842624:Int))))))] ?_;refine bI ?_;obtain rfl:=oI h0;exact aG (Q_r hO)

theorem aAv (a0:Int)(b1:Int)(r:(Int×Int×Int))(h0:yP a0 b1=some r):dD Tryz.prog 75 [(eI a0),(eI b1)] (.tup [(eI r.1),(eI r.2.1),(eI r.2.2)]):=by
 intro H0;refine cZ Tryz.func75 ?_;have hO:=aN.start H0;unfold yP at h0;refine aX aC 3 [] [] ?_;refine aP ?_;refine aX aC 2 [] [(10,(aD (decide (b1<(1:Int)))))] ?_;refine bL h0 (fun h0=>?_) (fun h0=>?_)
 ·refine bW aC 3 [(4,(eI (0:Int))),(5,(eI (0:Int))),(6,(eI (2:Int)))] ?_;refine bI ?_;obtain rfl:=oI h0;exact aG (aT (Q_r hO))
 refine bM ?_;refine bD [(0,(eI a0)),(1,(eI b1))] ?_;refine aP ?_;refine fP (fR []) aC 8 ?_;obtain⟨c2,h0⟩:=bB h0;obtain⟨c3,h0⟩:=bB h0;refine RZ (Ds:=[b1≠0,b1≠0]) (by kernel_rfl) ⟨c2,c3,trivial⟩ ?_;refine bP [0] [(7,(eI (wR (Int.tdiv a0 b1)))),(8,(eI (Int.tmod a0 b1)))] ?_;refine eJ (fun T H=>∃ q7:Int,∃ r8:Int,Has T [(7,(eI q7)),(8,(eI r8))]/\aN ⟨H0,[],[]⟩ H []/\xB q7 r8=some r) ?_ ?_
 ·clear hO h0;rintro T H ⟨q7,r8,hT,hO,h0⟩;refine bF hT ?_;clear hT;unfold xB at h0;refine bW aC 5 [(4,(eI q7)),(5,(eI r8)),(6,(eI (0:Int)))] ?_;refine bI ?_;obtain rfl:=oI h0;exact aG (Q_r hO)
 refine aX aC 2 [] [(18,(aD (decide ((Int.tmod a0 b1)<(0:Int)))))] ?_;refine bL h0 (fun h0=>?_) (fun h0=>?_)
 ·refine aS aC 7 ?_;refine bA ?_;exact aG (aH (⟨rfl,_,_,aZ,hO,h0⟩))
 refine bM ?_;exact aG (aH (⟨rfl,_,_,aZ,hO,h0⟩))

theorem FH (hop0:Int)(n1:Int)(r:Int)(h0:rH hop0 n1=some r):dD Tryz.prog 42 [(eI hop0),(eI n1)] (eI r):=by
 intro H0;refine cZ Tryz.func42 ?_;have hO:=aN.start H0;unfold rH at h0;refine aX aC 1 [] [] ?_;refine aP ?_;refine aX aC 2 [] [(9,(aD (decide (n1<(0:Int)))))] ?_;refine bL h0 (fun h0=>?_) (fun h0=>?_)
 ·refine bW aC 1 [(4,(eI (0:Int)))] ?_;refine bI ?_;obtain rfl:=oI h0;exact aG (aT (Q_r hO))
 refine bM ?_;refine bD [(0,(eI hop0)),(1,(eI n1))] ?_;refine aP ?_;refine aS aC 10 ?_;refine bH 2 ?_;obtain⟨x2,hx3,h0⟩:=aW h0;refine cW (aAv n1 hop0 _ hx3) hO ?_;intro H hO;refine bA ?_;refine bP [1] [(5,(eI x2.1))] ?_;refine bW aC 5 [(4,(eI (wR ((wR (x2.1+(1:Int)))*hop0))))] ?_;refine bI ?_;obtain rfl:=oI h0;exact aG (Q_r hO)

theorem aBS (mY:Int)(hop1:Int)(t2:Int)(r:(Int×Int))(h0:AF mY hop1 t2=some r):dD Tryz.prog 19 [(eI mY),(eI hop1),(eI t2)] (.tup [(eI r.1),(eI r.2)]):=by
 intro H0;refine cZ Tryz.func19 ?_;have hO:=aN.start H0;unfold AF at h0;refine aX aC 2 [] [] ?_;refine aP ?_;refine bX 0 ?_;refine aP ?_;refine aS aC 5 ?_;refine bH 2 ?_;obtain⟨x1,hx2,h0⟩:=aW h0;refine cW (TS mY hop1 _ hx2) hO ?_;intro H hO;refine bA ?_;refine bP [] [(8,(aD (!x1)))] ?_;refine bL h0 (fun h0=>?_) (fun h0=>?_)
 ·refine bW aC 2 [(6,(eI (0:Int))),(7,(eI (2:Int)))] ?_;refine bI ?_;obtain rfl:=oI h0;exact aG (bG (aT (Q_r hO)))
 refine aP ?_;refine aS aC 4 ?_;refine bH 1 ?_;obtain⟨x5,hx6,h0⟩:=aW h0;refine cW (HW t2 _ hx6) hO ?_;intro H hO;refine bA ?_;refine bP [8] [(13,(aD (!x5)))] ?_;refine bL h0 (fun h0=>?_) (fun h0=>?_)
 ·refine bW aC 2 [(6,(eI (0:Int))),(7,(eI (13:Int)))] ?_;refine bI ?_;obtain rfl:=oI h0;exact aG (bG (aT (Q_r hO)))
 refine aX aC 3 [13] [(17,(aD (decide (t2=(1125899906842624:Int)))))] ?_;refine bL h0 (fun h0=>?_) (fun h0=>?_)
 ·refine bW aC 2 [(6,(eI (1125899906842624:Int))),(7,(eI (0:Int)))] ?_;refine bI ?_;obtain rfl:=oI h0;exact aG (bG (aT (Q_r hO)))
 refine bM ?_;refine dP [(0,(eI mY)),(1,(eI hop1)),(2,(eI t2))] ?_;refine aG (aV (aH (?_)));refine aP ?_;refine aS aC 8 ?_;refine bH 4 ?_;obtain⟨x10,hx11,h0⟩:=aW h0;refine cW (FH hop1 (wR (t2-mY)) _ hx11) hO ?_;intro H hO;refine bA ?_;refine bD [(6,(eI (if (1125899906842624:Int)<x10 then (1125899906842624:Int) else x10))),(7,(eI (0:Int)))] ?_;refine bI ?_;obtain rfl:=oI h0;exact aG (Q_r hO)

theorem LU (l0:(List aF))(n1:Int)(r:Int)(h0:tJ l0 n1=some r):dD Tryz.prog 43 [(eL aE l0),(eI n1)] (eI r):=by
 intro H0;refine cZ Tryz.func43 ?_;have hO:=aN.start H0;unfold tJ at h0;refine aX aC 1 [] [] ?_;refine aP ?_;refine bX 0 ?_;refine aP ?_;refine aS aC 12 ?_;refine bH 1 ?_;obtain⟨x1,hx2,h0⟩:=aW h0;refine cW (yA l0 _ hx2) hO ?_;intro H hO;refine bA ?_;refine bP [1] [(5,(aD (((!x1)||(decide (n1<(1:Int))))||(decide ((64:Int)<n1)))))] ?_;refine bL h0 (fun h0=>?_) (fun h0=>?_)
 ·refine bW aC 1 [(4,(eI (2:Int)))] ?_;refine bI ?_;obtain rfl:=oI h0;exact aG (bG (aT (Q_r hO)))
 refine aP ?_;refine aS aC 4 ?_;refine bH 1 ?_;obtain⟨x5,hx6,h0⟩:=aW h0;refine cW (AE l0 _ hx6) hO ?_;intro H hO;refine bA ?_;refine bD [(17,(aD (!x5)))] ?_;refine bL h0 (fun h0=>?_) (fun h0=>?_)
 ·refine bW aC 1 [(4,(eI (20:Int)))] ?_;refine bI ?_;obtain rfl:=oI h0;exact aG (bG (aT (Q_r hO)))
 refine bM ?_;refine dP [] ?_;refine aG (aV (aH (?_)));refine bW aC 1 [(4,(eI (0:Int)))] ?_;refine bI ?_;obtain rfl:=oI h0;exact aG (Q_r hO)

theorem HN (l0:(List aF))(r:(List aF))(h0:qQ l0=some r):dD Tryz.prog 76 [(eL aE l0)] (.fn (.func 99) [] [(.rp (eL aE r))]):=by
 intro H0;refine cZ Tryz.func76 ?_;have hO:=aN.start H0;unfold qQ at h0;refine aP ?_;refine aS aC 2 ?_;refine kY 1 (eL aE l0) ?_;refine bA ?_;refine bD [(1,(.rp (eL aE l0)))] ?_;refine bW aC 2 [(2,(.fn (.func 99) [] [(.rp (eL aE l0))]))] ?_;refine bI ?_;obtain rfl:=oI h0;exact aG (kB (x:=(.fn (.func 99) [] [(.rp (eL aE l0))])) (by kernel_rfl) (aR.refl _) ⟨rfl,hO.out⟩)

theorem CO {σ:Type}(I:σ->Gs->Prop)(yield0_b:Nat)(cH:σ->aF->Option (σ×Bool))(yield0_h:∀ st a0 st2 r,cH st a0=some (st2,r)->CE Tryz.prog (yv yield0_b) I st [(aE a0)] st2 (aD r))(t1:(List aF))(sg0:σ)(r:σ)(h0:nF cH t1 sg0=some r):yF Tryz.prog 99 I sg0 [(yv yield0_b),(.rp (eL aE t1))] r (.tup []):=by
 intro H0 G0 hI hg;refine cZ Tryz.func99 ?_;obtain⟨G,hO,hI⟩:∃ G,aN ⟨H0,List.map (fun p:Nat×dN=>p.1) G0,G⟩ H0 []/\I sg0 G:=⟨G0,aN.DZ hg,hI⟩;clear hg;unfold nF at h0;refine aX aC 3 [1] [(5,(eL aE t1)),(6,(eI (lN t1))),(7,(eI (0:Int)))] ?_;refine bX 0 ?_;refine eC [(0,(yv yield0_b)),(5,(eL aE t1)),(6,(eI (lN t1))),(7,(eI (0:Int)))] ?_;refine eD (fun T H=>∃ sg:σ,∃ t5:(List aF),∃ t6:Int,∃ t7:Int,∃ G:Gs,Has T [(0,(yv yield0_b)),(5,(eL aE t5)),(6,(eI t6)),(7,(eI t7))]/\aN ⟨H0,List.map (fun p:Nat×dN=>p.1) G0,G⟩ H []/\I sg G/\rN cH sg t5 t6 t7=some r) ?_ ⟨sg0,t1,(lN t1),(0:Int),G,aZ,hO,hI,h0⟩;clear hO hI h0;rintro T H ⟨sg,t5,t6,t7,G,hT,hO,hI,h0⟩;refine bF hT ?_;clear hT;unfold rN at h0;obtain⟨rr0,hl0,h0⟩:=aW h0;refine iP (fun (s:σ×Int) T H=>∃ G:Gs,Has T [(0,(yv yield0_b)),(5,(eL aE t5)),(6,(eI t6)),(7,(eI s.2))]/\aN ⟨H0,List.map (fun p:Nat×dN=>p.1) G0,G⟩ H []/\I s.1 G) hl0 ⟨G,aZ,hO,hI⟩ ?_;clear hO hI;rintro k0 s out1 T H ⟨G,hT,hO,hI⟩ h1 ho0;obtain⟨sg,t7⟩:=s;replace h1:kW cH t5 t6 sg t7=some out1:=h1
 try dsimp only at hT
 refine bF hT ?_;clear hT;unfold kW at h1;refine aX aC 1 [] [(8,(aD (decide (t7<t6))))] ?_;refine aP ?_;refine bL h1 (fun h1=>?_) (fun h1=>?_)
 ·refine bM ?_;refine bD [(0,(yv yield0_b)),(5,(eL aE t5)),(6,(eI t6)),(7,(eI t7))] ?_;refine aP ?_;refine bX 1 ?_;refine aP ?_;refine aS aC 4 ?_;obtain⟨c2,h1⟩:=bB h1;refine rS 2 [0<=t7/\t7<(lN t5)] ⟨c2,trivial⟩ ?_;refine nT 3 (.agg [(.sl true 0 (fun _ => .bad)),(eI 0),(eI 0)]) (aE (aF.mk ([]) 0 0)) (by kernel_rfl) (by kernel_rfl) (by kernel_rfl) (xO (xs:=[(.sl true 0 (fun _ => .bad)),(eI 0),(eI 0)]) (ys:=[(eL aJ ([])),(eI 0),(eI 0)]) ⟨eV,aR.refl _,aR.refl _,trivial⟩) (by kernel_rfl) (by kernel_rfl) hO ?_;intro lo3 H hO;refine gK 0 lo3 3 0 (aE (aF.mk ([]) 0 0)) (aE (gD t5 t7)) [(aE (aF.mk ([]) 0 0))] [(lo3,3,[(aE (gD t5 t7))])] hO rfl (by kernel_rfl) ?_;intro H hO;refine dB ?_;refine bP [] [(4,(.lp lo3 0 0))] ?_;refine aP ?_;refine aS aC 14 ?_;refine bH 1 ?_;refine iG 0 lo3 3 0 (aE (gD t5 t7)) (eI ((gD t5 t7).Net)) [(aE (gD t5 t7))] hO rfl ?_;refine bH 5 ?_;refine sC [(14,true)] 0 lo3 3 0 (aE (gD t5 t7)) (eI ((gD t5 t7).At)) [(aE (gD t5 t7))] (by kernel_rfl) (by kernel_rfl) hO (by kernel_rfl) (decide ((0:Int)<((gD t5 t7).Net))) (by kernel_rfl) (fun hb4=>rfl) ?_;refine bH 10 ?_;refine sC [(19,true)] 0 lo3 3 0 (aE (gD t5 t7)) (aE (gD t5 t7)) [(aE (gD t5 t7))] (by kernel_rfl) (by kernel_rfl) hO (by kernel_rfl) ((decide ((0:Int)<((gD t5 t7).Net)))&&(decide ((-1:Int)<((gD t5 t7).At)))) (by kernel_rfl) (fun hb5=>rfl) ?_;obtain⟨⟨x8,x9⟩,hx7,h1⟩:=aW h1;replace hx7:=aBo hx7;refine YL (I:=I) [(19,true)] ((decide ((0:Int)<((gD t5 t7).Net)))&&(decide ((-1:Int)<((gD t5 t7).At)))) (yv yield0_b) [(aE (gD t5 t7))] (aD x9) ⟨fun hb=>yield0_h _ (gD t5 t7) x8 x9 (hx7.1 hb),hx7.2⟩ hO hI ?_;intro G H hO hI;refine bA ?_;replace hO:=hO.pick (L':=[]) [] (by decide) (by kernel_rfl);refine bP [4] [(24,(aD (((decide ((0:Int)<((gD t5 t7).Net)))&&(decide ((-1:Int)<((gD t5 t7).At))))&&(!x9))))] ?_;refine bL h1 (fun h1=>?_) (fun h1=>?_)
  ·refine bI ?_;obtain rfl:=oI h1;obtain rfl:_=rr0:=ho0;replace h0:some x8=some r:=h0;obtain rfl:=oI h0;exact aG (bG (aT (aT (bG (kB (x:=(.tup [])) (by kernel_rfl) (aR.refl _) ⟨rfl,G,hI,hO.zK⟩)))))
  refine bM ?_;refine dP [(0,(yv yield0_b)),(5,(eL aE t5)),(6,(eI t6)),(7,(eI t7))] ?_;refine aG (aV (aH (?_)));refine aS aC 2 ?_;refine bA ?_;exact aG (aH (⟨rfl,_,(oI h1).symm,_,aZ,hO,hI⟩))
 refine fS 0 ?_;obtain rfl:=oI h1;obtain rfl:_=rr0:=ho0;replace h0:some sg=some r:=h0;obtain rfl:=oI h0;exact aG (aY (aY (bV (zB (x:=(.tup [])) (by kernel_rfl) (aR.refl _) ⟨rfl,G,hI,hO.zK⟩))))

theorem MT (x0:Int)(r:Int)(h0:qF x0=some r):dD Tryz.prog 115 [(cT .u64 x0)] (eI r):=by
 intro H0;refine cZ Tryz.func115 ?_;have hO:=aN.start H0;unfold qF at h0;refine aX aC 1 [] [(2,(eI (0:Int)))] ?_;refine eJ (fun T H=>∃ x0:Int,∃ n2:Int,Has T [(0,(cT .u64 x0)),(2,(eI n2))]/\aN ⟨H0,[],[]⟩ H []/\lW x0 n2=some r) ?_ ?_
 ·clear hO h0;rintro T H ⟨x0,n2,hT,hO,h0⟩;refine bF hT ?_;clear hT;unfold lW at h0;refine eJ (fun T H=>∃ x0:Int,∃ n2:Int,Has T [(0,(cT .u64 x0)),(2,(eI n2))]/\aN ⟨H0,[],[]⟩ H []/\lV x0 n2=some r) ?_ ?_
  ·clear hO h0;rintro T H ⟨x0,n2,hT,hO,h0⟩;refine bF hT ?_;clear hT;unfold lV at h0;refine eJ (fun T H=>∃ x0:Int,∃ n2:Int,Has T [(0,(cT .u64 x0)),(2,(eI n2))]/\aN ⟨H0,[],[]⟩ H []/\nE x0 n2=some r) ?_ ?_
   ·clear hO h0;rintro T H ⟨x0,n2,hT,hO,h0⟩;refine bF hT ?_;clear hT;unfold nE at h0;refine aP ?_;refine aS aC 7 ?_;obtain⟨c1,h0⟩:=bB h0;refine qY [0<=(IntKind.u8.wrap x0)/\(IntKind.u8.wrap x0)<((ByteArray.size (⟨#[0,1,2,2,3,3,3,3,4,4,4,4,4,4,4,4,5,5,5,5,5,5,5,5,5,5,5,5,5,5,5,5,6,6,6,6,6,6,6,6,6,6,6,6,6,6,6,6,6,6,6,6,6,6,6,6,6,6,6,6,6,6,6,6,7,7,7,7,7,7,7,7,7,7,7,7,7,7,7,7,7,7,7,7,7,7,7,7,7,7,7,7,7,7,7,7,7,7,7,7,7,7,7,7,7,7,7,7,7,7,7,7,7,7,7,7,7,7,7,7,7,7,7,7,7,7,7,7,8,8,8,8,8,8,8,8,8,8,8,8,8,8,8,8,8,8,8,8,8,8,8,8,8,8,8,8,8,8,8,8,8,8,8,8,8,8,8,8,8,8,8,8,8,8,8,8,8,8,8,8,8,8,8,8,8,8,8,8,8,8,8,8,8,8,8,8,8,8,8,8,8,8,8,8,8,8,8,8,8,8,8,8,8,8,8,8,8,8,8,8,8,8,8,8,8,8,8,8,8,8,8,8,8,8,8,8,8,8,8,8,8,8,8,8,8,8,8,8,8,8,8,8,8,8,8,8]⟩:ByteArray):Nat):Int)] ⟨c1,trivial⟩ ?_;refine bD [(2,(eI (wR (n2+(wR (bt (⟨#[0,1,2,2,3,3,3,3,4,4,4,4,4,4,4,4,5,5,5,5,5,5,5,5,5,5,5,5,5,5,5,5,6,6,6,6,6,6,6,6,6,6,6,6,6,6,6,6,6,6,6,6,6,6,6,6,6,6,6,6,6,6,6,6,7,7,7,7,7,7,7,7,7,7,7,7,7,7,7,7,7,7,7,7,7,7,7,7,7,7,7,7,7,7,7,7,7,7,7,7,7,7,7,7,7,7,7,7,7,7,7,7,7,7,7,7,7,7,7,7,7,7,7,7,7,7,7,7,8,8,8,8,8,8,8,8,8,8,8,8,8,8,8,8,8,8,8,8,8,8,8,8,8,8,8,8,8,8,8,8,8,8,8,8,8,8,8,8,8,8,8,8,8,8,8,8,8,8,8,8,8,8,8,8,8,8,8,8,8,8,8,8,8,8,8,8,8,8,8,8,8,8,8,8,8,8,8,8,8,8,8,8,8,8,8,8,8,8,8,8,8,8,8,8,8,8,8,8,8,8,8,8,8,8,8,8,8,8,8,8,8,8,8,8,8,8,8,8,8,8,8,8,8,8,8,8]⟩:ByteArray) (IntKind.u8.wrap x0)))))))] ?_;refine bI ?_;obtain rfl:=oI h0;exact aG (Q_r hO)
   refine aX aC 2 [] [(14,(aD (decide ((256:Int)<=x0))))] ?_;refine bL h0 (fun h0=>?_) (fun h0=>?_)
   ·refine aP ?_;refine aS aC 3 ?_;obtain⟨c3,h0⟩:=bB h0;refine qY [0<=(8:Int)] ⟨c3,trivial⟩ ?_;refine bD [(0,(cT .u64 (Int.fdiv x0 (2 ^ (min (Int.toNat (8:Int)) 64))))),(2,(eI n2))] ?_;refine aS aC 3 ?_;refine bA ?_;exact aG (aH (⟨rfl,_,_,aZ,hO,h0⟩))
   refine bM ?_;exact aG (aH (⟨rfl,_,_,aZ,hO,h0⟩))
  refine aX aC 2 [] [(8,(aD (decide ((65536:Int)<=x0))))] ?_;refine bL h0 (fun h0=>?_) (fun h0=>?_)
  ·refine aP ?_;refine aS aC 3 ?_;obtain⟨c5,h0⟩:=bB h0;refine qY [0<=(16:Int)] ⟨c5,trivial⟩ ?_;refine bD [(0,(cT .u64 (Int.fdiv x0 (2 ^ (min (Int.toNat (16:Int)) 64))))),(2,(eI n2))] ?_;refine aS aC 3 ?_;refine bA ?_;exact aG (aH (⟨rfl,_,_,aZ,hO,h0⟩))
  refine bM ?_;exact aG (aH (⟨rfl,_,_,aZ,hO,h0⟩))
 refine aX aC 2 [] [(4,(aD (decide ((4294967296:Int)<=x0))))] ?_;refine bL h0 (fun h0=>?_) (fun h0=>?_)
 ·refine aP ?_;refine aS aC 3 ?_;obtain⟨c7,h0⟩:=bB h0;refine qY [0<=(32:Int)] ⟨c7,trivial⟩ ?_;refine bD [(0,(cT .u64 (Int.fdiv x0 (2 ^ (min (Int.toNat (32:Int)) 64)))))] ?_;refine aS aC 1 ?_;refine bA ?_;exact aG (aH (⟨rfl,_,_,aZ,hO,h0⟩))
 refine bM ?_;exact aG (aH (⟨rfl,_,_,aZ,hO,h0⟩))

theorem GD (x0:Int)(r:Int)(h0:lG x0=some r):dD Tryz.prog 92 [(cT .u64 x0)] (eI r):=by
 intro H0;refine cZ Tryz.func92 ?_;have hO:=aN.start H0;unfold lG at h0;refine aX aC 1 [] [] ?_;refine aP ?_;refine mW (false) (fun hc1=>?_) (fun hc1=>?_)
 ·cases hc1
 ·refine bM ?_;refine aG (aH ?_);refine aP ?_;refine aS aC 3 ?_;refine bH 1 ?_;obtain⟨x2,hx3,h0⟩:=aW h0;refine cW (MT x0 _ hx3) hO ?_;intro H hO;refine bA ?_;refine bD [(2,(eI x2))] ?_;refine bI ?_;obtain rfl:=oI h0;exact aG (Q_r hO)

theorem gI (x0:Int)(y1:Int)(r:Bool)(h0:dK x0 y1=some r):dD Tryz.prog 78 [(eI x0),(eI y1)] (aD r):=by
 intro H0;refine cZ Tryz.func78 ?_;have hO:=aN.start H0;unfold dK at h0;refine aX aC 1 [] [] ?_;refine aP ?_;refine aS aC 13 ?_;refine bH 1 ?_;obtain⟨x1,hx2,h0⟩:=aW h0;refine cW (wI x0 _ hx2) hO ?_;intro H hO;refine bH 4 ?_;obtain⟨x4,hx5,h0⟩:=aW h0;refine lQ [(7,true)] 100 [(eI y1)] (aD x4) x1 (by kernel_rfl) (by kernel_rfl) (by kernel_rfl) (fun hb6=>(wI y1 _ (iA hx5 hb6))) hO ?_;intro H hO;refine bA ?_;refine bD [(4,(aD ((x1&&(!x4))||(decide (x0<y1)))))] ?_;refine bI ?_;obtain rfl:=oI h0;exact aG (Q_r hO)

theorem yX (lo0p:Nat)(aA:(List Int))(a1:Int)(b2:Int)(r:List Int)(h0:iK aA a1 b2=some r):rP Tryz.prog 106 lo0p 1 (List.map (eI) aA) (List.map (eI) r) [(.msl 1 lo0p 0 (List.length aA)),(eI a1),(eI b2)] (.tup []):=by
 intro H0 hl0;refine cZ Tryz.func106 ?_;have hO:=aN.tP hl0;clear hl0;obtain⟨N0,hN0⟩:∃ n,n=List.length aA:=⟨_,rfl⟩;have hN:List.length aA=N0:=hN0.symm;unfold iK at h0;refine aX aC 3 [] [(6,(eI (wR (a1+(1:Int)))))] ?_;refine bX 0 ?_;refine eC [(0,(.msl 1 lo0p 0 (List.length aA))),(1,(eI a1)),(2,(eI b2)),(6,(eI (wR (a1+(1:Int)))))] ?_;refine eD (fun T H=>∃ aA:List Int,∃ i6:Int,Has T [(0,(.msl 1 lo0p 0 (List.length aA))),(1,(eI a1)),(2,(eI b2)),(6,(eI i6))]/\aN ⟨H0,[lo0p],[]⟩ H [(lo0p,1,List.map (eI) aA)]/\List.length aA=N0/\kC aA a1 b2 i6=some r) ?_ ⟨aA,wR (a1+(1:Int)),aZ,hO,hN,h0⟩;clear hO hN h0;rintro T H ⟨aA,i6,hT,hO,hN,h0⟩;refine bF hT ?_;clear hT;unfold kC at h0;obtain⟨rr0,hl0,h0⟩:=aW h0;refine iP (fun (s:List Int×Int) T H=>Has T [(0,(.msl 1 lo0p 0 (List.length s.1))),(1,(eI a1)),(2,(eI b2)),(6,(eI s.2))]/\aN ⟨H0,[lo0p],[]⟩ H [(lo0p,1,List.map (eI) s.1)]/\List.length s.1=N0) hl0 ⟨aZ,hO,hN⟩ ?_;clear hO hN;rintro k0 s out1 T H ⟨hT,hO,hN⟩ h1 ho0;obtain⟨aA,i6⟩:=s;replace h1:dU a1 b2 aA i6=some out1:=h1
 try dsimp only at hT
 refine bF hT ?_;clear hT;unfold dU at h1;refine aP ?_;refine aX aC 3 [] [(12,(aD (decide (i6<b2))))] ?_;refine bL h1 (fun h1=>?_) (fun h1=>?_)
 ·refine bM ?_;refine bD [(0,(.msl 1 lo0p 0 (List.length aA))),(1,(eI a1)),(2,(eI b2)),(6,(eI i6))] ?_;refine eJ (fun T H=>∃ aA:List Int,Has T [(0,(.msl 1 lo0p 0 (List.length aA))),(1,(eI a1)),(2,(eI b2)),(6,(eI i6))]/\aN ⟨H0,[lo0p],[]⟩ H [(lo0p,1,List.map (eI) aA)]/\List.length aA=N0/\iC aA a1 b2 i6=some out1) ?_ ?_
  ·clear hO hN h1;rintro T H ⟨aA,hT,hO,hN,h1⟩;refine bF hT ?_;clear hT;unfold iC at h1;refine aS aC 3 ?_;refine bA ?_;exact aG (aH (⟨rfl,_,(oI h1).symm,aZ,hO,hN⟩))
  refine bX 1 ?_;refine aX aC 2 [] [(7,(eI i6))] ?_;refine bX 2 ?_;refine eC [(0,(.msl 1 lo0p 0 (List.length aA))),(1,(eI a1)),(2,(eI b2)),(6,(eI i6)),(7,(eI i6))] ?_;refine eD (fun T H=>∃ aA:List Int,∃ j7:Int,Has T [(0,(.msl 1 lo0p 0 (List.length aA))),(1,(eI a1)),(2,(eI b2)),(6,(eI i6)),(7,(eI j7))]/\aN ⟨H0,[lo0p],[]⟩ H [(lo0p,1,List.map (eI) aA)]/\List.length aA=N0/\kD aA a1 b2 i6 j7=some out1) ?_ ⟨aA,i6,aZ,hO,hN,h1⟩;clear hO hN h1;rintro T H ⟨aA,j7,hT,hO,hN,h1⟩;refine bF hT ?_;clear hT;unfold kD at h1;obtain⟨rr1,hl1,h1⟩:=aW h1;refine iP (fun (s:List Int×Int) T H=>Has T [(0,(.msl 1 lo0p 0 (List.length s.1))),(1,(eI a1)),(2,(eI b2)),(6,(eI i6)),(7,(eI s.2))]/\aN ⟨H0,[lo0p],[]⟩ H [(lo0p,1,List.map (eI) s.1)]/\List.length s.1=N0) hl1 ⟨aZ,hO,hN⟩ ?_;clear hO hN;rintro k1 s out2 T H ⟨hT,hO,hN⟩ h2 ho1;obtain⟨aA,j7⟩:=s;replace h2:fJ a1 b2 i6 aA j7=some out2:=h2
  try dsimp only at hT
  refine bF hT ?_;clear hT;unfold fJ at h2;refine aP ?_;refine aP ?_;obtain⟨c2,h2⟩:=bB h2;obtain⟨c3,h2⟩:=bB h2;obtain⟨x4,hx5,h2⟩:=aW h2;refine fP (fR []) aC 15 ?_;refine qH (K:=fun T H=>Has (lift T) [(0,(.msl 1 lo0p 0 (List.length aA))),(1,(eI a1)),(2,(eI b2)),(6,(eI i6)),(7,(eI j7)),(30,(aD ((decide (a1<j7))&&x4)))]/\aN ⟨H0,[lo0p],[]⟩ H [(lo0p,1,List.map (eI) aA)]) ?_ ?_
  ·refine kJ 4 ?_;refine oB (t:=19) (e:=decide (a1<j7)) (by kernel_rfl) (fun hg6=>?_) (fun hg6=>?_)
   ·refine cJ 7 [0<=j7/\j7<(lN aA)] ⟨(c2 hg6),trivial⟩ ?_;refine pY 0 lo0p 1 (0+Int.toNat j7) (eI (gD aA j7)) (eI (gD aA j7)) (List.map (eI) aA) hO (cA (c2 hg6)) ?_;refine cJ 12 [0<=(wR (j7-(1:Int)))/\(wR (j7-(1:Int)))<(lN aA)] ⟨(c3 hg6),trivial⟩ ?_;refine pY 0 lo0p 1 (0+Int.toNat (wR (j7-(1:Int)))) (eI (gD aA (wR (j7-(1:Int))))) (eI (gD aA (wR (j7-(1:Int))))) (List.map (eI) aA) hO (cA (c3 hg6)) ?_;refine oS 78 [(eI (gD aA j7)),(eI (gD aA (wR (j7-(1:Int)))))] (aD x4) (by kernel_rfl) (by kernel_rfl) (gI (gD aA j7) (gD aA (wR (j7-(1:Int)))) _ (iA hx5 hg6)) hO ?_;intro H hO;refine jM ?_;exact⟨⟨[(0,(.msl 1 lo0p 0 (List.length aA))),(1,(eI a1)),(2,(eI b2)),(6,(eI i6)),(7,(eI j7)),(30,(aD x4))],by kernel_rfl,rfl,⟨aR.refl _,aR.refl _,aR.refl _,aR.refl _,aR.refl _,aR.eq (congrArg aD (oH hg6 rfl).symm),trivial⟩⟩,hO⟩
   refine jM ?_;exact⟨⟨[(0,(.msl 1 lo0p 0 (List.length aA))),(1,(eI a1)),(2,(eI b2)),(6,(eI i6)),(7,(eI j7)),(30,(aD false))],by kernel_rfl,rfl,⟨aR.refl _,aR.refl _,aR.refl _,aR.refl _,aR.refl _,aR.eq (congrArg aD (oH hg6 rfl).symm),trivial⟩⟩,hO⟩
  ·rintro T H ⟨hT,hO⟩;refine dL hT ?_;clear hT;refine aG (aH ?_);refine bL h2 (fun h2=>?_) (fun h2=>?_)
   ·refine bM ?_;refine bD [(0,(.msl 1 lo0p 0 (List.length aA))),(1,(eI a1)),(2,(eI b2)),(6,(eI i6)),(7,(eI j7))] ?_;refine aP ?_;refine bX 3 ?_;refine fP (fR []) aC 18 ?_;obtain⟨c8,h2⟩:=bB h2;refine cJ 9 [0<=(wR (j7-(1:Int)))/\(wR (j7-(1:Int)))<(lN aA)] ⟨c8,trivial⟩ ?_;refine gH 0 lo0p 1 (0+Int.toNat (wR (j7-(1:Int)))) (eI (gD aA (wR (j7-(1:Int))))) (eI (gD aA (wR (j7-(1:Int))))) (List.map (eI) aA) hO (cA c8) ?_;obtain⟨c9,h2⟩:=bB h2;refine cJ 13 [0<=j7/\j7<(lN aA)] ⟨c9,trivial⟩ ?_;refine gH 0 lo0p 1 (0+Int.toNat j7) (eI (gD aA j7)) (eI (gD aA j7)) (List.map (eI) aA) hO (cA c9) ?_;obtain⟨c10,h2⟩:=bB h2;refine cJ 15 [0<=j7/\j7<(lN aA)] ⟨c10,trivial⟩ ?_;refine kX 0 lo0p 1 (0+Int.toNat j7) (eI (gD aA j7)) (eI (gD aA (wR (j7-(1:Int))))) (List.map (eI) aA) [(lo0p,1,List.map (eI) (List.set aA (Int.toNat j7) (gD aA (wR (j7-(1:Int))))))] hO (cA c10) (by simp only [List.set,iL]) ?_;intro H hO;replace hN:List.length (List.set aA (Int.toNat j7) (gD aA (wR (j7-(1:Int)))))=N0:=by simpa using hN
    obtain⟨c11,h2⟩:=bB h2;refine cJ 17 [0<=(wR (j7-(1:Int)))/\(wR (j7-(1:Int)))<(lN aA)] ⟨c11,trivial⟩ ?_;refine kX 0 lo0p 1 (0+Int.toNat (wR (j7-(1:Int)))) (eI (gD (List.set aA (Int.toNat j7) (gD aA (wR (j7-(1:Int))))) (wR (j7-(1:Int))))) (eI (gD aA j7)) (List.map (eI) (List.set aA (Int.toNat j7) (gD aA (wR (j7-(1:Int)))))) [(lo0p,1,List.map (eI) (List.set (List.set aA (Int.toNat j7) (gD aA (wR (j7-(1:Int))))) (Int.toNat (wR (j7-(1:Int)))) (gD aA j7)))] hO (oQ c11 (by simp [])) (by simp only [List.set,iL]) ?_;intro H hO;replace hN:List.length (List.set (List.set aA (Int.toNat j7) (gD aA (wR (j7-(1:Int))))) (Int.toNat (wR (j7-(1:Int)))) (gD aA j7))=N0:=by simpa using hN
    refine nO (by kernel_rfl) ?_;refine dL (l:=[(0,(.msl 1 lo0p 0 (List.length (List.set (List.set aA (Int.toNat j7) (gD aA (wR (j7-(1:Int))))) (Int.toNat (wR (j7-(1:Int)))) (gD aA j7))))),(1,(eI a1)),(2,(eI b2)),(6,(eI i6)),(7,(eI j7))]) ⟨[(0,(.msl 1 lo0p 0 (List.length aA))),(1,(eI a1)),(2,(eI b2)),(6,(eI i6)),(7,(eI j7))],by kernel_rfl,rfl,⟨aR.eq (by simp []),aR.refl _,aR.refl _,aR.refl _,aR.refl _,trivial⟩⟩ ?_;refine aG (aV (aH (?_)));refine aS aC 3 ?_;refine bA ?_;exact aG (aH (⟨rfl,_,(oI h2).symm,aZ,hO,hN⟩))
   refine fS 2 ?_;obtain rfl:=oI h2;obtain rfl:_=rr1:=ho1;replace h1:iC aA a1 b2 i6=some out1:=h1;exact aG (aY (aY (bV (aV (aH (⟨rfl,_,aZ,hO,hN,h1⟩))))))
 refine fS 0 ?_;obtain rfl:=oI h1;obtain rfl:_=rr0:=ho0;replace h0:some aA=some r:=h0;obtain rfl:=oI h0;exact aG (aY (aY (bV (zB (x:=(.tup [])) (by kernel_rfl) (aR.refl _) ⟨rfl,hO.ext,hO.at 0 (by kernel_rfl),by first | rfl | (simp only [List.length_map]; exact hN.trans hN0)⟩))))

theorem tB (lo0p:Nat)(aA:(List Int))(lo1:Int)(hi2:Int)(bO:Int)(r:List Int)(h0:fZ aA lo1 hi2 bO=some r):rP Tryz.prog 124 lo0p 1 (List.map (eI) aA) (List.map (eI) r) [(.msl 1 lo0p 0 (List.length aA)),(eI lo1),(eI hi2),(eI bO)] (.tup []):=by
 intro H0 hl0;refine cZ Tryz.func124 ?_;have hO:=aN.tP hl0;clear hl0;obtain⟨N0,hN0⟩:∃ n,n=List.length aA:=⟨_,rfl⟩;have hN:List.length aA=N0:=hN0.symm;unfold fZ at h0;refine aX aC 2 [1] [(8,(eI lo1))] ?_;refine bX 0 ?_;refine eC [(0,(.msl 1 lo0p 0 (List.length aA))),(2,(eI hi2)),(3,(eI bO)),(8,(eI lo1))] ?_;refine eD (fun T H=>∃ aA:List Int,∃ cI:Int,Has T [(0,(.msl 1 lo0p 0 (List.length aA))),(2,(eI hi2)),(3,(eI bO)),(8,(eI cI))]/\aN ⟨H0,[lo0p],[]⟩ H [(lo0p,1,List.map (eI) aA)]/\List.length aA=N0/\lU aA hi2 bO cI=some r) ?_ ⟨aA,lo1,aZ,hO,hN,h0⟩;clear hO hN h0;rintro T H ⟨aA,cI,hT,hO,hN,h0⟩;refine bF hT ?_;clear hT;unfold lU at h0;obtain⟨rr0,hl0,h0⟩:=aW h0;refine iP (fun (s:List Int×Int) T H=>Has T [(0,(.msl 1 lo0p 0 (List.length s.1))),(2,(eI hi2)),(3,(eI bO)),(8,(eI s.2))]/\aN ⟨H0,[lo0p],[]⟩ H [(lo0p,1,List.map (eI) s.1)]/\List.length s.1=N0) hl0 ⟨aZ,hO,hN⟩ ?_;clear hO hN;rintro k0 s out1 T H ⟨hT,hO,hN⟩ h1 ho0;obtain⟨aA,cI⟩:=s;replace h1:dQ hi2 bO aA cI=some out1:=h1
 try dsimp only at hT
 refine bF hT ?_;clear hT;unfold dQ at h1;refine bX 1 ?_;refine aX aC 4 [] [(9,(eI (wR ((wR ((2:Int)*cI))+(1:Int)))))] ?_;refine aP ?_;refine aX aC 3 [] [(16,(aD (decide (hi2<=(wR ((wR ((2:Int)*cI))+(1:Int)))))))] ?_;refine bL h1 (fun h1=>?_) (fun h1=>?_)
 ·refine fS 0 ?_;obtain rfl:=oI h1;obtain rfl:_=rr0:=ho0;replace h0:some aA=some r:=h0;obtain rfl:=oI h0;exact aG (aY (sR (by kernel_rfl) (aY (bV (zB (x:=(.tup [])) (by kernel_rfl) (aR.refl _) ⟨rfl,hO.ext,hO.at 0 (by kernel_rfl),by first | rfl | (simp only [List.length_map]; exact hN.trans hN0)⟩)))))
 refine bM ?_;refine bD [(0,(.msl 1 lo0p 0 (List.length aA))),(2,(eI hi2)),(3,(eI bO)),(8,(eI cI)),(9,(eI (wR ((wR ((2:Int)*cI))+(1:Int)))))] ?_;refine eJ (fun T H=>∃ aA:List Int,∃ eH:Int,Has T [(0,(.msl 1 lo0p 0 (List.length aA))),(2,(eI hi2)),(3,(eI bO)),(8,(eI cI)),(9,(eI eH))]/\aN ⟨H0,[lo0p],[]⟩ H [(lo0p,1,List.map (eI) aA)]/\List.length aA=N0/\iE aA hi2 bO cI eH=some out1) ?_ ?_
 ·clear hO hN h1;rintro T H ⟨aA,eH,hT,hO,hN,h1⟩;refine bF hT ?_;clear hT;unfold iE at h1;refine aP ?_;refine aP ?_;refine fP (fR [51]) aC 14 ?_;obtain⟨c2,h1⟩:=bB h1;refine cJ 5 [0<=(wR (bO+cI))/\(wR (bO+cI))<(lN aA)] ⟨c2,trivial⟩ ?_;refine gH 0 lo0p 1 (0+Int.toNat (wR (bO+cI))) (eI (gD aA (wR (bO+cI)))) (eI (gD aA (wR (bO+cI)))) (List.map (eI) aA) hO (cA c2) ?_;obtain⟨c3,h1⟩:=bB h1;refine cJ 11 [0<=(wR (bO+eH))/\(wR (bO+eH))<(lN aA)] ⟨c3,trivial⟩ ?_;refine gH 0 lo0p 1 (0+Int.toNat (wR (bO+eH))) (eI (gD aA (wR (bO+eH)))) (eI (gD aA (wR (bO+eH)))) (List.map (eI) aA) hO (cA c3) ?_;obtain⟨x4,hx5,h1⟩:=aW h1;refine BV (gI (gD aA (wR (bO+cI))) (gD aA (wR (bO+eH))) _ hx5) hO ?_;intro H hO;refine jM ?_;refine bP [] [(52,(aD (!x4)))] ?_;refine bL h1 (fun h1=>?_) (fun h1=>?_)
  ·refine bI ?_;obtain rfl:=oI h1;obtain rfl:_=rr0:=ho0;replace h0:some aA=some r:=h0;obtain rfl:=oI h0;exact aG (aT (bG (aT (bG (kB (x:=(.tup [])) (by kernel_rfl) (aR.refl _) ⟨rfl,hO.ext,hO.at 0 (by kernel_rfl),by first | rfl | (simp only [List.length_map]; exact hN.trans hN0)⟩)))))
  refine bM ?_;refine bD [(0,(.msl 1 lo0p 0 (List.length aA))),(2,(eI hi2)),(3,(eI bO)),(8,(eI cI)),(9,(eI eH))] ?_;refine aP ?_;refine fP (fR []) aC 24 ?_;obtain⟨c8,h1⟩:=bB h1;refine cJ 13 [0<=(wR (bO+eH))/\(wR (bO+eH))<(lN aA)] ⟨c8,trivial⟩ ?_;refine gH 0 lo0p 1 (0+Int.toNat (wR (bO+eH))) (eI (gD aA (wR (bO+eH)))) (eI (gD aA (wR (bO+eH)))) (List.map (eI) aA) hO (cA c8) ?_;obtain⟨c9,h1⟩:=bB h1;refine cJ 19 [0<=(wR (bO+cI))/\(wR (bO+cI))<(lN aA)] ⟨c9,trivial⟩ ?_;refine gH 0 lo0p 1 (0+Int.toNat (wR (bO+cI))) (eI (gD aA (wR (bO+cI)))) (eI (gD aA (wR (bO+cI)))) (List.map (eI) aA) hO (cA c9) ?_;obtain⟨c10,h1⟩:=bB h1;refine cJ 21 [0<=(wR (bO+cI))/\(wR (bO+cI))<(lN aA)] ⟨c10,trivial⟩ ?_;refine kX 0 lo0p 1 (0+Int.toNat (wR (bO+cI))) (eI (gD aA (wR (bO+cI)))) (eI (gD aA (wR (bO+eH)))) (List.map (eI) aA) [(lo0p,1,List.map (eI) (List.set aA (Int.toNat (wR (bO+cI))) (gD aA (wR (bO+eH)))))] hO (cA c10) (by simp only [List.set,iL]) ?_;intro H hO;replace hN:List.length (List.set aA (Int.toNat (wR (bO+cI))) (gD aA (wR (bO+eH))))=N0:=by simpa using hN
  obtain⟨c11,h1⟩:=bB h1;refine cJ 23 [0<=(wR (bO+eH))/\(wR (bO+eH))<(lN aA)] ⟨c11,trivial⟩ ?_;refine kX 0 lo0p 1 (0+Int.toNat (wR (bO+eH))) (eI (gD (List.set aA (Int.toNat (wR (bO+cI))) (gD aA (wR (bO+eH)))) (wR (bO+eH)))) (eI (gD aA (wR (bO+cI)))) (List.map (eI) (List.set aA (Int.toNat (wR (bO+cI))) (gD aA (wR (bO+eH))))) [(lo0p,1,List.map (eI) (List.set (List.set aA (Int.toNat (wR (bO+cI))) (gD aA (wR (bO+eH)))) (Int.toNat (wR (bO+eH))) (gD aA (wR (bO+cI)))))] hO (oQ c11 (by simp [])) (by simp only [List.set,iL]) ?_;intro H hO;replace hN:List.length (List.set (List.set aA (Int.toNat (wR (bO+cI))) (gD aA (wR (bO+eH)))) (Int.toNat (wR (bO+eH))) (gD aA (wR (bO+cI))))=N0:=by simpa using hN
  refine nO (by kernel_rfl) ?_;refine dL (l:=[(0,(.msl 1 lo0p 0 (List.length (List.set (List.set aA (Int.toNat (wR (bO+cI))) (gD aA (wR (bO+eH)))) (Int.toNat (wR (bO+eH))) (gD aA (wR (bO+cI))))))),(2,(eI hi2)),(3,(eI bO)),(9,(eI eH))]) ⟨[(0,(.msl 1 lo0p 0 (List.length aA))),(2,(eI hi2)),(3,(eI bO)),(9,(eI eH))],by kernel_rfl,rfl,⟨aR.eq (by simp []),aR.refl _,aR.refl _,aR.refl _,trivial⟩⟩ ?_;refine aG (aH (?_));refine aS aC 2 ?_;refine bA ?_;exact aG (aV (aH (⟨rfl,_,(oI h1).symm,aZ,hO,hN⟩)))
 refine aP ?_;obtain⟨c12,h1⟩:=bB h1;obtain⟨c13,h1⟩:=bB h1;obtain⟨x14,hx15,h1⟩:=aW h1;refine fP (fR []) aC 20 ?_;refine qH (K:=fun T H=>Has (lift T) [(0,(.msl 1 lo0p 0 (List.length aA))),(2,(eI hi2)),(3,(eI bO)),(8,(eI cI)),(9,(eI (wR ((wR ((2:Int)*cI))+(1:Int))))),(36,(aD ((decide ((wR ((wR ((wR ((2:Int)*cI))+(1:Int)))+(1:Int)))<hi2))&&x14)))]/\aN ⟨H0,[lo0p],[]⟩ H [(lo0p,1,List.map (eI) aA)]) ?_ ?_
 ·refine kJ 5 ?_;refine oB (t:=21) (e:=decide ((wR ((wR ((wR ((2:Int)*cI))+(1:Int)))+(1:Int)))<hi2)) (by kernel_rfl) (fun hg16=>?_) (fun hg16=>?_)
  ·refine cJ 10 [0<=(wR (bO+(wR ((wR ((2:Int)*cI))+(1:Int)))))/\(wR (bO+(wR ((wR ((2:Int)*cI))+(1:Int)))))<(lN aA)] ⟨(c12 hg16),trivial⟩ ?_;refine pY 0 lo0p 1 (0+Int.toNat (wR (bO+(wR ((wR ((2:Int)*cI))+(1:Int)))))) (eI (gD aA (wR (bO+(wR ((wR ((2:Int)*cI))+(1:Int))))))) (eI (gD aA (wR (bO+(wR ((wR ((2:Int)*cI))+(1:Int))))))) (List.map (eI) aA) hO (cA (c12 hg16)) ?_;refine cJ 17 [0<=(wR ((wR (bO+(wR ((wR ((2:Int)*cI))+(1:Int)))))+(1:Int)))/\(wR ((wR (bO+(wR ((wR ((2:Int)*cI))+(1:Int)))))+(1:Int)))<(lN aA)] ⟨(c13 hg16),trivial⟩ ?_;refine pY 0 lo0p 1 (0+Int.toNat (wR ((wR (bO+(wR ((wR ((2:Int)*cI))+(1:Int)))))+(1:Int)))) (eI (gD aA (wR ((wR (bO+(wR ((wR ((2:Int)*cI))+(1:Int)))))+(1:Int))))) (eI (gD aA (wR ((wR (bO+(wR ((wR ((2:Int)*cI))+(1:Int)))))+(1:Int))))) (List.map (eI) aA) hO (cA (c13 hg16)) ?_;refine oS 78 [(eI (gD aA (wR (bO+(wR ((wR ((2:Int)*cI))+(1:Int))))))),(eI (gD aA (wR ((wR (bO+(wR ((wR ((2:Int)*cI))+(1:Int)))))+(1:Int)))))] (aD x14) (by kernel_rfl) (by kernel_rfl) (gI (gD aA (wR (bO+(wR ((wR ((2:Int)*cI))+(1:Int)))))) (gD aA (wR ((wR (bO+(wR ((wR ((2:Int)*cI))+(1:Int)))))+(1:Int)))) _ (iA hx15 hg16)) hO ?_;intro H hO;refine jM ?_;exact⟨⟨[(0,(.msl 1 lo0p 0 (List.length aA))),(2,(eI hi2)),(3,(eI bO)),(8,(eI cI)),(9,(eI (wR ((wR ((2:Int)*cI))+(1:Int))))),(36,(aD x14))],by kernel_rfl,rfl,⟨aR.refl _,aR.refl _,aR.refl _,aR.refl _,aR.refl _,aR.eq (congrArg aD (oH hg16 rfl).symm),trivial⟩⟩,hO⟩
  refine jM ?_;exact⟨⟨[(0,(.msl 1 lo0p 0 (List.length aA))),(2,(eI hi2)),(3,(eI bO)),(8,(eI cI)),(9,(eI (wR ((wR ((2:Int)*cI))+(1:Int))))),(36,(aD false))],by kernel_rfl,rfl,⟨aR.refl _,aR.refl _,aR.refl _,aR.refl _,aR.refl _,aR.eq (congrArg aD (oH hg16 rfl).symm),trivial⟩⟩,hO⟩
 ·rintro T H ⟨hT,hO⟩;refine dL hT ?_;clear hT;refine aG (aH ?_);refine bL h1 (fun h1=>?_) (fun h1=>?_)
  ·refine aS aC 3 ?_;refine bA ?_;exact aG (aH (⟨rfl,_,_,aZ,hO,hN,h1⟩))
  refine bM ?_;exact aG (aH (⟨rfl,_,_,aZ,hO,hN,h1⟩))

end Go.Abs
end
