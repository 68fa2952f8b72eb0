/- What the law BagDoes stands on: the framework, the given functions as plain functions, their walks, and the plain laws; part 3. -/
import Derived.Test.YtapehjfhmhfaoaaGreatBagDoesZ2
set_option linter.unusedSimpArgs false
set_option linter.unusedVariables false
noncomputable section
namespace Go.Abs
open Go IntKind Go.RowKit
section rules
variable {P:Program} {tt:TT} {N:Nat} {T:Env} {H:bA} {ops:Array Oper} {K:Env->bA->Prop} {i n:Nat}
theorem aNA {H0:Frame} {L:List (Nat×Nat×List V)} (htt:jO P tt) (xs:List Int) (bs:ByteArray) (q lo:Nat) (L':Nat->List (Nat×Nat×List V)) (hO:aN H0 H L)
  (hb:(xs.length+bs.size)*1<=140737488355328/\xs.length+bs.size<=9223372036854775807)
  (h:∀ lo' H',aN H0 H' (L' lo')->RWs P tt N ops (aP (i+1) n) (T.cF (cP ops i) ([],.msl 1 lo' 0 (xs++bs.data.toList.map fun b=>(b.toNat:Int)).length)) H' K)
  (hs:aP i n=i::aP (i+1) n:=by kernel_rfl) (hd:aIk P tt N ops T i=some (.msl 1 lo 0 xs.length,bs):=by kernel_rfl) (hL:L[q]?=some (lo,1,xs.map (cD .u8)):=by kernel_rfl)
  (hl:∀ lo',L' lo'=L.set q (lo',1,(xs++bs.data.toList.map fun b=>(b.toNat:Int)).map (cD .u8)):=by intro _;kernel_rfl):RWs P tt N ops (aP i n) T H K:=by
 unfold aIk at hd;split at hd
 ·rename_i args tys hp
  split at hd
  ·rename_i s b t t' hev hty
   split at hd
   ·rename_i e h1 h2
    split at hd
    ·rename_i te hte
     split at hd
     ·rename_i hz
      simp at hd;obtain ⟨rfl,rfl⟩:=hd;simp only [Bool.and_eq_true] at hz;obtain⟨⟨b7,b5⟩,b6⟩:=hz;have b5:te.size=1:=Nat.eq_of_beq_eq_true b5;have b6:te.bytes=1:=Nat.eq_of_beq_eq_true b6;obtain rfl:tys=#[t,t']:=by rw [←Array.toArray_toList (xs:=tys),hty]
      have hlen:(xs.map (cD .u8)).length=xs.length:=by simp
      refine FY hs hp (xs:=[.msl 1 lo 0 xs.length,tG b]) (by show _=some [V.msl 1 lo 0 xs.length,V.lit (.string b)];simpa [Op.operands,Call.operands] using hev) (aL0 htt h1 h2 hte b7 b5 (es:=xs.map (cD .u8)) ?_ ?_ ?_ ?_)
      ·rw [b5];simp [ON,hO.at q hL]
      ·rw [hlen,b6];exact hb.1
      ·rw [hlen];exact hb.2
      ·have h3:=h H.length _ (by rw [hl];exact hO.app (n:=xs.length) q hL _);have e1:(xs++b.data.toList.map fun b=>(b.toNat:Int)).length=xs.length+b.size:=by rw [List.length_append,List.length_map,Array.length_toList];rfl
       have e2:(xs++b.data.toList.map fun b=>(b.toNat:Int)).map (cD .u8)=xs.map (cD .u8)++b.data.toList.map fun b=>cD .u8 (b.toNat:Int):=by rw [List.map_append,List.map_map];rfl
       rw [e1,e2] at h3;rw [hlen,b5];exact h3
     ·simp at hd
    ·simp at hd
   ·simp at hd
  ·simp at hd
 ·simp at hd
def aId (P:Program)(N:Nat)(ops:Array Oper)(T:Env)(i:Nat):Option V:=match gJ N ops i with
 | some (.convert src dst x)=>match P.underlying src,P.underlying dst with
  | some (.slice e),some .string=>match P.underlying e with
   | some (.int .u8)=>match dD T [] x with
    | some v=>some v
    | none=>none
   | _=>none
  | _,_=>none
 | _=>none
theorem aOh (xs:List Int) (h:RWs P tt N ops (aP (i+1) n) (T.cF (cP ops i) ([],tG (strOfNums xs))) H K)
  (hs:aP i n=i::aP (i+1) n:=by kernel_rfl) (hd:aId P N ops T i=some (eL (cD .u8) xs):=by kernel_rfl):RWs P tt N ops (aP i n) T H K:=by
 unfold aId at hd;split at hd
 ·rename_i src dst x hp
  split at hd
  ·rename_i e h1 h2
   split at hd
   ·rename_i h3
    split at hd
    ·rename_i v hv
     simp at hd;subst hd;exact FY hs hp (xs:=[eL (cD .u8) xs]) (by simp [Op.operands,jT,hv]) (aKo h1 h3 h2 h)
    ·simp at hd
   ·simp at hd
  ·simp at hd
 ·simp at hd
end rules
section rules
variable {P:Program} {tt:TT} {N:Nat} {T:Env} {H:bA} {ops:Array Oper} {K:Env->bA->Prop} {i n:Nat} {H0:bA} {E:List Nat} {G:Gs} {L:List (Nat×Nat×List V)}
theorem aHc {β:Type} {f:β->V} {m:List (ByteArray×β)} {mty:TypeId} {mo ko:Operand} {l:Nat} {KV:V->bA->Prop} (htt:jO P tt) (k:ByteArray) (z:V) (hO:aN ⟨H0,E,(l,lO f m)::G⟩ H L) (hm:WC P tt mty=some z)
  (h0:CS m k=none->KV z H) (h1:∀ v,CS m k=some v->KV (f v) H):yD P (.lookup mty mo ko false) [.mp l,.lit (.string k)] H KV:=by
 obtain⟨kt,et,a1,a2,a3⟩:=aDP htt hm;have hl:=(hO.gm 0 _ rfl).2;refine aLP (kv:=.string k) (z:=z) a1 a2 trivial a3 hl (fun hnd hno=>?_) fun hnd j x hj=>?_
 ·exact h0 (QV fun p hp' e=>hno (.string p.1,f p.2) (List.mem_map.2 ⟨p,hp',rfl⟩) (by simp [e]))
 ·have : ∃ y,m[j]?=some (k,y)/\f y=x:=by
   simp only [rJ,List.getElem?_map,Option.map_eq_some_iff] at hj;obtain⟨⟨a,b⟩,h3,h4⟩:=hj;simp at h4;exact⟨b,by rw [h3,h4.1],h4.2⟩
  obtain⟨y,hy,rfl⟩:=this;exact h1 y (QJ (UK hnd) hy)
def aMf (N:Nat)(ops:Array Oper)(i:Nat):Bool:=match gJ N ops i with
 | some (.mapUpdate _ _ _ _)=>true
 | _=>false
variable {TD:PE} {KD:PE->bA->Prop} {pl:Oper->Bool}
theorem aAx {β:Type} {f:β->V} {m:List (ByteArray×β)} {mty:TypeId} {l:Nat} (htt:jO P tt) (k:ByteArray) (z:V) (hO:aN ⟨H0,E,(l,lO f m)::G⟩ H L)
  (h0:CS m k=none->RD P tt N pl ops (aP (i+1) n) (TD.cF (cP ops i) z) H KD) (h1:∀ v,CS m k=some v->RD P tt N pl ops (aP (i+1) n) (TD.cF (cP ops i) (f v)) H KD)
  (hs:aP i n=i::aP (i+1) n:=by kernel_rfl) (hd:aEn N ops (lift TD) i=some (mty,l,.string k,false):=by kernel_rfl) (hm:WC P tt mty=some z:=by kernel_rfl):RD P tt N pl ops (aP i n) TD H KD:=by
 unfold aEn at hd;split at hd
 ·rename_i mty' m' k' ok' hp
  split at hd
  ·rename_i l' kv e1 e2
   simp at hd;obtain ⟨rfl,rfl,rfl,rfl⟩:=hd;refine aAu hs hp (fun h=>by cases h) (.inl ⟨rfl,rfl⟩) ?_;exact⟨[.mp l',.lit (.string k)],by simp [jT,e1,e2],aHc htt k z hO hm (fun h=>⟨fun _ _=>fH.refl H,h0 h⟩) (fun v h=>⟨fun _ _=>fH.refl H,h1 v h⟩)⟩
  ·simp at hd
 ·simp at hd
theorem aIW {β:Type} {f:β->V} {m:List (ByteArray×β)} {mty:TypeId} {l:Nat} (k:ByteArray) (v:β) (hO:aN ⟨H0,E,(l,lO f m)::G⟩ H L) (h:∀ H',aN ⟨H0,E,(l,lO f (pH m k v))::G⟩ H' L->RD P tt N pl ops (aP (i+1) n) (TD.cF (cP ops i) (.tup [])) H' KD)
  (hs:aP i n=i::aP (i+1) n:=by kernel_rfl) (hd:aKD N ops (lift TD) i=some (mty,l,.string k,f v):=by kernel_rfl) (hm:HD P mty=true:=by kernel_rfl) (hu:aMf N ops i=true:=by kernel_rfl):RD P tt N pl ops (aP i n) TD H KD:=by
 obtain⟨kt,et,h1,h2⟩:=EL hm
 have fin:∀ M',aI4 (.string k) (f v) (rJ f m) M'->RD P tt N pl ops (aP (i+1) n) (TD.cF (cP ops i) (.tup [])) (H.set l (.raw (JI aCv M'))) KD:=by
  intro M' hM;rw [aKz hM];exact h _ (hO.wV _)
 have hl:=(hO.gm 0 _ rfl).2;unfold aKD at hd;split at hd
 ·rename_i mty' m' k' x' hp
  split at hd
  ·rename_i l' kv xv e1 e2 e3
   simp at hd;obtain ⟨rfl,rfl,rfl,rfl⟩:=hd;refine aAu hs hp (fun h=>by cases h) (.inl ⟨rfl,rfl⟩) ?_;exact⟨[.mp l',.lit (.string k),f v],by simp [jT,e1,e2,e3],aLu (.inl rfl) h1 h2 trivial rfl hl fun M' hM=>⟨fun h=>by simp [NQ] at h,fin M' hM⟩⟩
  ·simp at hd
 ·rename_i mty' m' k' x' hp
  exfalso
  unfold aMf at hu;rw [hp] at hu
  cases hu
 ·simp at hd
end rules
section
variable {P:Program} {tt:TT} {N:Nat} {T:Env} {H:bA} {ops:Array Oper} {K:Env->bA->Prop} {i n:Nat}
theorem QH {H0:bA} {E:List Nat} {G0 G:Gs} {L0 L:OL} {Post:V->Gs->OL->Prop} {fid:Nat} {as0:List V} (ctx:Ctx) (b:Bool) (y:V) (M:Gs) (R:OL) (ix:List Nat) (hg:G0.Perm (M++G)) (hc:b=true->vO P fid as0 M L Post) (hy:b=false->Post y M L) (hO:aN ⟨H0,E,G0⟩ H L0)
  (h:∀ x M' L' H',Post x M' L'->aN ⟨H0,E,M'++G⟩ H' (L'++R)->RWs P tt N ops (aP (i+1) n) (T.cF (cP ops i) (ctx,x)) H' K) (hnd:ix.Nodup:=by decide) (hp:ix.map (fun i=>L0[i]?)=(L++R).map some:=by kernel_rfl)
  (hs:aP i n=i::aP (i+1) n:=by kernel_rfl) (hd:LX N ops T i=some (ctx,fid,as0):=by kernel_rfl) (hb:gB T ctx=b:=by kernel_rfl):RWs P tt N ops (aP i n) T H K:=by
 replace hO:=hO.II hg;unfold LX at hd;split at hd
 ·rename_i ctx' f args tys hp'
  split at hd
  ·rename_i ys cs xs hf hx
   simp at hd;obtain ⟨rfl,rfl,rfl⟩:=hd;rw [hs];obtain⟨o,ho,e,hctx,hdd,hdst⟩:=WZ hp';rw [hdst] at h;refine⟨T,H,oF.refl _ _ _,o,ctx',ho,hctx,hdd,.inr ⟨fun hg=>.inl ?_,fun hg=>?_⟩⟩
   ·rw [e];refine⟨_,xs,hf,hx,.inl ?_⟩;have h1:=hc (hb.symm.trans hg) ⟨H0,E,up R++G⟩ H (hO.pick ix hnd hp).aE9;simp only [List.append_assoc] at h1 ⊢;exact h1.mono fun _ H' ⟨M',L',hP,hO'⟩=>h _ M' L' H' hP hO'.aJa
   ·exact⟨y,h y M L H (hy (hb.symm.trans hg)) (hO.pick ix hnd hp)⟩
  ·simp at hd
 ·simp at hd
end
theorem QU {N:Nat} {Q:Exit->Env->bA->List Nat->Prop} {ds:List Nat} {e:Exit} {T:Env} {H H0:bA} {E:List Nat} {G:Gs} {L:OL} {β:Type} {f:β->V} {m:List (ByteArray×β)} {bs:List Nat} {l clock:Nat} (hO:aN ⟨H0,E,(l,FK f m bs clock)::G⟩ H L)
  (h:∀ H',aN ⟨H0,E,(l,lO f m)::G⟩ H' L->Cl N Q e T H' ds):Cl N Q e T H ds :=
 TB (fun g w _ _ hg=>⟨g,⟨hg.sr.aMF (hO.gm 0 _ rfl).2 (s':=JI aCv (rJ f m)) fun _ _ _ _ ⟨es,h1,_,h3,h4,h5⟩=>⟨es,clock,h1,h3,h4,h5⟩,hg.tr,hg.df,hg.dl,hg.sz⟩,Ext.refl g w⟩) (h _ (hO.wV _))
theorem aEi {S A B R:Type}{body:S⊕B->A->Option (S⊕B)}{after:S⊕B->Option R}{e:B}{r:R}(hb:∀ x,body (.inr e) x=some (.inr e)):∀ {q:List A},(oP body (.inr e) q).bind after=some r->after (.inr e)=some r
 | [],h=>h
 | x::q,h=>by
  simp only [oP,hb,Option.bind_some] at h;exact aEi hb h
variable {P:Program} {tt:TT} {ro:Option Nat} {N:Nat} {H:bA} {ds:List Nat} {pl:Oper->Bool}
def TY (ops:Array Oper)(i:Nat):List Nat:=match ops[i]? with
 | some o=>(o.after.toList.filter fun e=>Region.binds .any e).map (·.on)
 | none=>[]
def aMs (ops:Array Oper):Bool:=(List.range ops.size).all fun i=>(TY ops i).all fun j=>Nat.blt j i
abbrev aDA (f:Nat->Bool)(i:Nat):Nat->Bool:=fun k=>Nat.beq k i||f k
def aF5 (ops:Array Oper)(f:Nat->Bool):Prop:=∀ k,f k=true -> ∀ j∈TY ops k,f j=true
theorem aC5 {ops:Array Oper}{i:Nat}{o:Oper}(ho:ops[i]?=some o){j:Nat}:j∈TY ops i ↔ ∃ e∈o.after,Region.binds .any e=true/\e.on=j:=by
 unfold TY;rw [ho];simp only [List.mem_map,List.mem_filter,Array.mem_toList_iff];constructor
 ·rintro ⟨e,⟨h1,h2⟩,h3⟩;exact ⟨e,h1,h2,h3⟩
 ·rintro ⟨e,h1,h2,h3⟩;exact ⟨e,⟨h1,h2⟩,h3⟩
theorem aM8 (htt:jO P tt) {ops:Array Oper} {Inv:(Nat->Bool)->PE->bA->Prop} {K:PE->bA->Prop} {R:Exit->Act->World->Prop} (haft:aMs ops=true)
  (hstep:∀ i f T H,i<ops.size->f i=false->aF5 ops f->(∀ j∈TY ops i,f j=true)->Inv f T H->RD P tt N pl ops (aP i (i+1)) T H (fun T' H'=>Inv (aDA f i) T' H'))
  (hend:∀ f T H,(∀ i,i<ops.size->f i=true)->Inv f T H->K T H) :
  ∀ (fuel:Nat) (listed:Array Bool),listed.size=ops.size->((List.range ops.size).filter fun i => !listed.getD i false).length=fuel->aF5 ops (fun k=>listed.getD k false) -> ∀ (T:PE) (H:bA) (g:Gh) (w:World) (a:Act),Good N g w (lift T) H ds a->Inv (fun k=>listed.getD k false) T H ->
   (∀ T' H' g' w' a',K T' H'->Good N g' w' (lift T') H' ds a'->Ext g w g' w'->R .normal a' w')->wpAnyIn (FR ro) 0 P .any ops R fuel listed a w:=by
 have b5:∀ (listed:Array Bool) (i:Nat),listed.size=ops.size->i<ops.size->listed.getD i true=listed.getD i false:=by
  intro listed i hs hi;rw [Array.getD_eq_getD_getElem?,Array.getD_eq_getD_getElem?,Array.getElem?_eq_getElem (by rw [hs];exact hi)];rfl
 intro fuel
 induction fuel with
 | zero =>
  intro listed hsz hL hcl T H g w a hg h hr
  have hall:∀ i,i<ops.size->listed.getD i false=true:=by
   intro i hi;have:=List.length_eq_zero_iff.1 hL;rw [List.filter_eq_nil_iff] at this;have:=this i (List.mem_range.2 hi)
   simpa using this
  refine⟨?_,hr T H g w a (hend _ T H hall h) hg (Ext.refl g w)⟩;rw [List.eq_nil_iff_forall_not_mem];intro i hi;obtain⟨h0,o,ho,_⟩:=mem_ready.1 hi;have hlt:=(Array.getElem?_eq_some_iff.1 ho).1;rw [b5 listed i hsz hlt,hall i hlt] at h0
  cases h0
 | succ fuel ih =>
  intro listed hsz hL hcl T H g w a hg h hr;refine⟨fun hnil=>?_,fun i hi=>?_⟩
  ·exfalso
   have hex:∃ i,i<ops.size/\listed.getD i false=false:=by
    cases hf:(List.range ops.size).filter fun i => !listed.getD i false with
    | nil=>rw [hf] at hL; simp at hL
    | cons i r =>
     have : i∈(List.range ops.size).filter fun i => !listed.getD i false:=by rw [hf];exact List.mem_cons_self ..
     rw [List.mem_filter,List.mem_range] at this;exact⟨i,this.1,by simpa using this.2⟩
   have hmin:∀ n i,i<=n->i<ops.size->listed.getD i false=false -> ∃ m,m<ops.size/\listed.getD m false=false /\ ∀ j,j<m->listed.getD j false=true:=by
    intro n
    induction n with
    | zero=>intro i hi hl hf; exact ⟨i,hl,hf,fun j hj=>by omega⟩
    | succ n ihn =>
     intro i hi hl hf
     cases Classical.em (∃ j,j<i/\listed.getD j false=false) with
     | inl hj=>obtain ⟨j,hj,hjf⟩:=hj; exact ihn j (by omega) (by omega) hjf
     | inr hj=>exact ⟨i,hl,hf,fun j hji=>by
       cases hx:listed.getD j false with
       | true=>rfl
       | false=>exact absurd ⟨j,hji,hx⟩ hj⟩
   obtain⟨i0,b6,b7⟩:=hex;obtain⟨m,hm,hmf,hless⟩:=hmin i0 i0 (Nat.le_refl _) b6 b7
   have hrd:m∈Region.ready .any ops listed:=by
    refine mem_ready.2 ⟨by rw [b5 listed m hsz hm];exact hmf,ops[m],Array.getElem?_eq_getElem hm,fun e he hb=>?_⟩;refine hless _ ?_;have h1:=List.all_eq_true.1 haft m (List.mem_range.2 hm);have h2:=List.all_eq_true.1 h1 e.on ((aC5 (Array.getElem?_eq_getElem hm)).2 ⟨e,he,hb,rfl⟩);exact Nat.le_of_ble_eq_true h2
   rw [hnil] at hrd;cases hrd
  ·obtain⟨h0,oi,hoi,hall⟩:=mem_ready.1 hi;have hlt:=(Array.getElem?_eq_some_iff.1 hoi).1;have hun:listed.getD i false=false:=by rw [←b5 listed i hsz hlt];exact h0
   have hdeps:∀ j∈TY ops i,listed.getD j false=true:=by
    intro j hj;obtain⟨e,he,hb,rfl⟩:=(aC5 hoi).1 hj;exact hall e he hb
   have hs:=hstep i (fun k=>listed.getD k false) T H hlt hun hcl hdeps h;have b8:aP i (i+1)=[i]:=by simp [aP]
   rw [b8] at hs;obtain⟨o',ho',hs⟩:=hs;rw [hoi] at ho';cases ho'
   have hge:∀ k,(listed.setIfInBounds i true).getD k false=(Nat.beq k i||listed.getD k false):=by
    intro k;by_cases hki:k=i
    ·subst hki;rw [Array.getD_eq_getD_getElem?,Array.getElem?_setIfInBounds];simp [hsz,hlt]
    ·rw [getD_set_ne false (Ne.symm hki)]
     have : Nat.beq k i=false:=by
      cases hb:Nat.beq k i with
      | false=>rfl
      | true=>exact absurd (Nat.eq_of_beq_eq_true hb) hki
     rw [this];rfl
   refine aAM htt hoi hs hg ?_;intro T1 H1 g1 w1 a1 hn b9 hx1;have hfe:(fun k=>(listed.setIfInBounds i true).getD k false)=aDA (fun k=>listed.getD k false) i:=funext hge;refine ih (listed.setIfInBounds i true) (by simp [hsz]) ?_ ?_ T1 H1 g1 w1 a1 b9 (by rw [hfe];exact hn) (fun T' H' g' w' a' hk hg' hx'=>hr T' H' g' w' a' hk hg' (hx1.trans hx'))
   ·have hcount:∀ (L:List Nat),L.Nodup->i∈L->((L.filter fun k => !(listed.setIfInBounds i true).getD k false).length)+1=(L.filter fun k => !listed.getD k false).length:=by
     intro L
     induction L with
     | nil=>intro _ hm; cases hm
     | cons x L ihL =>
      intro hnd hm;have hnd':=List.nodup_cons.1 hnd;by_cases hxi:x=i
      ·subst hxi
       have hrest:(L.filter fun k => !(listed.setIfInBounds x true).getD k false)=L.filter fun k => !listed.getD k false:=by
        refine List.filter_congr fun k hk=>?_;have hne:k≠x:=fun e=>hnd'.1 (e ▸ hk);rw [getD_set_ne false (Ne.symm hne)]
       have hb:Nat.beq x x=true:=Nat.beq_refl x;rw [List.filter_cons,List.filter_cons,hge,hb,hun,hrest];simp
      ·have hm':i∈L:=by
        rcases List.mem_cons.1 hm with e | e
        ·exact absurd e.symm hxi
        ·exact e
       have:=ihL hnd'.2 hm';rw [List.filter_cons,List.filter_cons,getD_set_ne false (Ne.symm hxi)];split
       ·simp only [List.length_cons];omega
       ·exact this
    have:=hcount (List.range ops.size) List.nodup_range (List.mem_range.2 hlt);omega
   ·rw [hfe];intro k hk j hj;show (Nat.beq j i||listed.getD j false)=true;replace hk:(Nat.beq k i||listed.getD k false)=true:=hk;rw [Bool.or_eq_true] at hk ⊢;refine .inr ?_;rcases hk with hk | hk
    ·rw [Nat.eq_of_beq_eq_true hk] at hj;exact hdeps j hj
    ·exact hcl k hk j hj
theorem aOs (pl:Oper->Bool) (htt:jO P tt) {c:Code} (n:Nat) {l:List (Nat×V)} {Q:Exit->Env->bA->List Nat->Prop} (Inv:(Nat->Bool)->PE->bA->Prop) (h0:∀ f,(∀ k,f k=false)->Inv f (PE.ofL l) H)
  (hstep:∀ i f T H,i<n->f i=false->aF5 c.ops f->(∀ j∈TY c.ops i,f j=true)->Inv f T H->RD P tt N pl c.ops (aP i (i+1)) T H (fun T' H'=>Inv (aDA f i) T' H'))
  (hend:∀ f T H,(∀ i,i<n->f i=true)->Inv f T H->ClK l N Q .normal (lift T) H ds)
  (hm:P.follows .mixedOrders=true:=by kernel_rfl) (hk:c.kind=8:=by kernel_rfl) (hn:c.ops.size=n:=by kernel_rfl) (haft:aMs c.ops=true:=by kernel_rfl):AWP P ro N c (Env.ofL l) H ds Q:=by
 refine aA6 ?_
 cases c with
 | region id ops draw =>
  cases draw with
  | true =>
   intro g w a R hg hr;simp only [Code.ops] at hn haft hstep;subst hn;refine wpIn_region_any hm ?_;have b5:Good N g w (lift (PE.ofL l)) H ds a:=by rw [aGs];exact hg
   obtain⟨d1,d2⟩:=b5.sr.drew;have hfe:(fun k=>(Array.replicate ops.size false).getD k false)=fun _=>false:=funext fun k=>RE _ k
   refine aM8 (ro:=ro) htt (ops:=ops) (Inv:=Inv) (pl:=pl) haft hstep hend ops.size (Array.replicate ops.size false) (by simp) ?_ ?_ (PE.ofL l) H g _ a (b5.step d2 d1 (b5.tr.ext d2) rfl rfl) (by rw [hfe];exact h0 _ fun _=>rfl)
    (fun T' H' g' w' a' hk hg' hx=>hr _ _ _ _ _ _ _ hk hg' (d2.trans hx))
   ·rw [List.filter_eq_self.2 (fun k _=>by rw [RE];rfl)];simp
   ·intro k hk;exact absurd ((RE _ _).symm.trans hk) (by simp)
  | false=>simp [Code.kind] at hk
 | _=>simp [Code.kind] at hk
def tD (T:PE):List (Nat×V)->Prop
 | []=>True
 | p::r=>T p.1=some p.2/\tD T r
def ovP (l:List (Nat×V))(T:PE):PE:=fun t=>match PE.ofL l t with
 | some v=>some v
 | none=>T t
theorem tD.ofL {T:PE}:∀ {l:List (Nat×V)},tD T l -> ∀ t v,PE.ofL l t=some v->T t=some v
 | [],_,t,v,h=>by simp [PE.ofL] at h
 | p::r,hp,t,v,h=>by
  obtain⟨h1,h2⟩:=hp;simp only [PE.ofL,PE.set] at h;split at h
  ·rename_i hb
   cases h
   rw [Nat.eq_of_beq_eq_true hb];exact h1
  ·exact tD.ofL h2 t v h
theorem YD {l:List (Nat×V)}{T:PE}(h:tD T l):ovP l T=T:=by
 funext t
 unfold ovP;split
 ·rename_i v hv
  exact (h.ofL t v hv).symm
 ·rfl
theorem aI8 {ops:Array Oper}{is:List Nat}{T:PE}{K:PE->bA->Prop}(l:List (Nat×V))(hT:tD T l)(h:RD P tt N pl ops is (ovP l T) H K):RD P tt N pl ops is T H K:=by rw [YD hT] at h;exact h
def xX (f:Nat->Bool)(T:PE):List (Nat×Nat×V)->Prop
 | []=>True
 | p::r=>(f p.1=true->T p.2.1=some p.2.2)/\xX f T r
def aGC (i d:Nat)(x:V):List (Nat×Nat×V)->Prop
 | []=>True
 | p::r=>((Nat.beq p.2.1 d=true/\p.2.2=x)∨(Nat.beq p.2.1 d=false/\Nat.beq p.1 i=false))/\aGC i d x r
def aFp (i:Nat):List (Nat×Nat×V)->Bool
 | []=>true
 | p::r => !Nat.beq p.1 i&&aFp i r
def aE8 (d:Nat):List (Nat×V)->Bool
 | []=>true
 | p::r => !Nat.beq p.1 d&&aE8 d r
theorem tD.put {T:PE}{d:Nat}(x:V):∀ {l:List (Nat×V)},tD T l->aE8 d l=true->tD (T.cF (some d) x) l
 | [],_,_=>trivial
 | p::r,h,hf=>by
  simp only [aE8,Bool.and_eq_true,Bool.not_eq_true'] at hf;refine⟨?_,tD.put x h.2 hf.2⟩;show (T.set d x) p.1=_;simp only [PE.set,hf.1];exact h.1
theorem xX.put {f:Nat->Bool}{T:PE}{i d:Nat}{x:V}:∀ {l:List (Nat×Nat×V)},xX f T l->aGC i d x l->xX (aDA f i) (T.cF (some d) x) l
 | [],_,_=>trivial
 | p::r,h,hs=>by
  refine⟨fun hp=>?_,xX.put h.2 hs.2⟩;show (T.set d x) p.2.1=_;simp only [PE.set];rcases hs.1 with ⟨h1,h2⟩ | ⟨h1,h2⟩
  ·rw [h1,h2]
  ·rw [h1];replace hp:(Nat.beq p.1 i||f p.1)=true:=hp;rw [h2,Bool.false_or] at hp;exact h.1 hp
theorem xX.stay {f:Nat->Bool}{T:PE}{i:Nat}:∀ {l:List (Nat×Nat×V)},xX f T l->aFp i l=true->xX (aDA f i) T l
 | [],_,_=>trivial
 | p::r,h,hs=>by
  simp only [aFp,Bool.and_eq_true,Bool.not_eq_true'] at hs;refine⟨fun hp=>?_,xX.stay h.2 hs.2⟩;replace hp:(Nat.beq p.1 i||f p.1)=true:=hp;rw [hs.1,Bool.false_or] at hp;exact h.1 hp
theorem xX.start {f:Nat->Bool}(hf:∀ k,f k=false){T:PE}:∀ (l:List (Nat×Nat×V)),xX f T l
 | []=>trivial
 | p::r=>⟨fun h=>by rw [hf] at h; (cases h),xX.start hf r⟩
theorem xX.done {f:Nat->Bool}{T:PE}{n:Nat}(hf:∀ k,k<n->f k=true):∀ {l:List (Nat×Nat×V)},xX f T l->(l.all fun p=>Nat.blt p.1 n)=true->tD T (l.map (·.2))
 | [],_,_=>trivial
 | p::r,h,hn=>by
  rw [List.all_cons,Bool.and_eq_true] at hn;exact⟨h.1 (hf _ (Nat.le_of_ble_eq_true hn.1)),xX.done hf h.2 hn.2⟩
theorem tD.append {T:PE}:∀ {l m:List (Nat×V)},tD T l->tD T m->tD T (l++m)
 | [],_,_,h=>h
 | _::_,_,h1,h2=>⟨h1.1,h1.2.append h2⟩
theorem tD.aOj:∀ (l:List (Nat×V)),(l.map (·.1)).Nodup->tD (PE.ofL l) l
 | [],_=>trivial
 | p::r,hn=>by
  rw [List.map_cons,List.nodup_cons] at hn;refine⟨by simp [PE.ofL,PE.set],?_⟩
  have : ∀ (m:List (Nat×V)),(∀ q∈m,q.1≠p.1)->tD (PE.ofL r) m->tD (PE.ofL (p::r)) m:=by
   intro m
   induction m with
   | nil=>intro _ _; trivial
   | cons q m ih =>
    intro hq hm;refine⟨?_,ih (fun x hx=>hq x (List.mem_cons_of_mem _ hx)) hm.2⟩;simp only [PE.ofL,PE.set]
    have hb:Nat.beq q.1 p.1=false:=by
     cases hb:Nat.beq q.1 p.1 with
     | false=>rfl
     | true=>exact absurd (Nat.eq_of_beq_eq_true hb) (hq q (List.mem_cons_self ..))
    rw [hb];exact hm.1
  exact this r (fun q hq e=>hn.1 (e ▸ List.mem_map_of_mem hq)) (tD.aOj r hn.2)
theorem aNM {Q:Exit->Env->bA->List Nat->Prop} {X:Env->bA->List Nat->Prop} {T:PE} (l:List (Nat×V)) (m:List (Nat×V)) (hT:tD T m) (next:X (Env.ofL l) H ds)
  (h:l.map (fun p=>ovP m T p.1)=l.map (fun p=>some p.2):=by kernel_rfl):Cl N (AA X Q) .normal (lift T) H ds:=by
 rw [YD hT] at h;refine cV (l:=l) (.eq ?_) (aJ next)
 have : ∀ (l:List (Nat×V)),l.map (fun p=>T p.1)=l.map (fun p=>some p.2)->l.map (fun p=>lift T p.1)=l.map (fun p=>some ([],p.2)):=by
  intro l
  induction l with
  | nil=>intro _; rfl
  | cons p r ih =>
   intro h;simp only [List.map_cons,List.cons.injEq] at h ⊢;exact⟨by simp [lift,h.1],ih h.2⟩
 exact this l h
theorem tD.LS {T:PE}{dO:Option Tmp}{l:List (Nat×V)}(d:Nat)(x:V)(h:tD T l)(hd:dO=some d:=by kernel_rfl)(hf:aE8 d l=true:=by kernel_rfl):tD (T.cF dO x) l:=by
 subst hd;exact h.put x hf
theorem xX.LS {f:Nat->Bool}{T:PE}{i:Nat}{dO:Option Tmp}{x:V}{l:List (Nat×Nat×V)}(d:Nat)(h:xX f T l)(hs:aGC i d x l)(hd:dO=some d:=by kernel_rfl):xX (aDA f i) (T.cF dO x) l:=by
 subst hd;exact h.put hs
theorem IA {j:Nat}{l:List Nat}(h:l.any (Nat.beq j)=true):j∈l:=by
 obtain⟨x,hx,e⟩:=List.any_eq_true.1 h;rw [Nat.eq_of_beq_eq_true e];exact hx
theorem aIO {ops:Array Oper} {i:Nat} {T:PE} {K:PE->bA->Prop} (l:List (Nat×V)) (d:Nat) (x:V) (hT:tD T l) (h:K (T.cF (some d) x) H) (hc:QN tt N ops (aP i (i+1)) (ovP l T)=some []:=by kernel_rfl)
  (he:QE tt ops (aP i (i+1)) (ovP l T)=(ovP l T).cF (some d) x:=by kernel_rfl):RD P tt N pl ops (aP i (i+1)) T H K:=by
 refine aI8 l hT (LL hc trivial ?_);rw [he,YD hT];exact h
end Go.Abs
namespace Go.Abs
open Go IntKind Go.RowKit
abbrev mL {α:Type}(k lo:Nat)(l:List α):V:=.msl k lo 0 l.length
theorem sR {x:V}:dF x x:=dF.refl x
theorem vO.read {P:Program}{f:FuncId}{as0:List V}{M:Gs}{L:OL}{x:V}(hc:vO P f as0 M L fun x' M' L'=>x'=x/\M'=M/\L'=L){H0:bA}{E:List Nat}{G:Gs}{H:bA}(hO:aN ⟨H0,E,M++G⟩ H L):pO P f as0 H fun r H'=>r=x/\fH H H':=by
 have hG:∀ (i:Nat) p,M[i]?=some p->(M++G)[i]?=some p:=fun i p h=>by
  rw [List.getElem?_append_left (List.getElem?_eq_some_iff.1 h).1];exact h
 have h1:aN ⟨H,L.map (·.1)++M.map (·.1),M++[]⟩ H L:=by
  rw [List.append_nil]
  exact⟨wN.refl H _,hO.ne,fun i lo k es hi=>⟨.inr (List.mem_append_left _ (List.mem_map.2 ⟨_,List.mem_of_getElem? hi,rfl⟩)),(hO.mem i lo k es hi).2⟩,
   fun i p hi=>⟨.inr (List.mem_append_right _ (List.mem_map.2 ⟨_,List.mem_of_getElem? hi,rfl⟩)),(hO.gm i p (hG i p hi)).2⟩,
   fun i j p q hi hj=>hO.gl i j p q (hG i p hi) hj,fun i j p q hi hj hne=>hO.gn i j p q (hG i p hi) (hG j q hj) hne⟩
 refine (hc ⟨H,L.map (·.1)++M.map (·.1),[]⟩ H h1).mono fun r H' ⟨M',L',⟨e1,e2,e3⟩,hO'⟩=>⟨e1,?_⟩;subst e2;subst e3;refine⟨hO'.ext.1,fun l hl=>?_⟩;by_cases hm:l∈L'.map (·.1)++M'.map (·.1)
 ·rcases List.mem_append.1 hm with hm | hm
  ·obtain⟨p,hp,rfl⟩:=List.mem_map.1 hm;obtain⟨i,hi⟩:=List.getElem?_of_mem hp;rw [(hO'.mem i p.1 p.2.1 p.2.2 hi).2,(hO.mem i p.1 p.2.1 p.2.2 hi).2]
  ·obtain⟨p,hp,rfl⟩:=List.mem_map.1 hm;obtain⟨i,hi⟩:=List.getElem?_of_mem hp;rw [(hO'.gm i p (by simpa using hi)).2,(hO.gm i p (hG i p hi)).2]
 ·exact hO'.ext.2 l hl hm
section
variable {P:Program} {tt:TT} {N:Nat} {T:PE} {H:bA} {ops:Array Oper} {K:PE->bA->Prop} {i n:Nat} {pl:Oper->Bool}
theorem aMq {H0:bA} {E:List Nat} {G0 G:Gs} {L0 L:OL} {Post:V->Gs->OL->Prop} {fid:Nat} {as0:List V} (M:Gs) (R:OL) (ix:List Nat) (hg:G0.Perm (M++G)) (hc:vO P fid as0 M L Post) (hO:aN ⟨H0,E,G0⟩ H L0)
  (h:∀ x M' L' H',Post x M' L'->aN ⟨H0,E,M'++G⟩ H' (L'++R)->RD P tt N pl ops (aP (i+1) n) (T.cF (cP ops i) x) H' K) (hnd:ix.Nodup:=by decide) (hp:ix.map (fun i=>L0[i]?)=(L++R).map some:=by kernel_rfl)
  (hs:aP i n=i::aP (i+1) n:=by kernel_rfl) (hd:qY N ops (lift T) i=some (fid,as0):=by kernel_rfl) (hq:vX pl ops i=true:=by kernel_rfl):RD P tt N pl ops (aP i n) T H K :=
 aAG hs hd (hc ⟨H0,E,up R++G⟩ H ((hO.II hg).pick ix hnd hp).aE9) (fun h=>by rw [hq] at h;cases h) (fun _ H' ⟨M',L',hP,hO'⟩=>h _ M' L' H' hP hO'.aJa) (by simp [vK,hq])
theorem aJb {H0:bA} {E:List Nat} {G0 G:Gs} {L0 L:OL} {fid:Nat} {as0:List V} {x:V} (M:Gs) (R:OL) (ix:List Nat) (hg:G0.Perm (M++G)) (hc:vO P fid as0 M L fun x' M' L'=>x'=x/\M'=M/\L'=L) (hO:aN ⟨H0,E,G0⟩ H L0)
  (h:∀ H',aN ⟨H0,E,G0⟩ H' L0->RD P tt N pl ops (aP (i+1) n) (T.cF (cP ops i) x) H' K) (hnd:ix.Nodup:=by decide) (hp:ix.map (fun i=>L0[i]?)=(L++R).map some:=by kernel_rfl)
  (hs:aP i n=i::aP (i+1) n:=by kernel_rfl) (hd:PN N ops T i=some (fid,as0):=by kernel_rfl):RD P tt N pl ops (aP i n) T H K:=by
 have hread:∀ H1,fH H H1->pO P fid as0 H1 fun r H'=>r=x/\fH H1 H':=fun H1 e1 =>
  hc.read (G:=up R++G) (H0:=H0) (E:=E) ((((hO.call e1).II hg).pick ix hnd hp).aE9)
 unfold PN at hd;split at hd
 ·rename_i f args tys hp'
  split at hd
  ·rename_i ys cs xs hf hx
   simp at hd;obtain ⟨rfl,rfl⟩:=hd
   cases hz:vK pl ops i with
   | true =>
    refine aAU hs hp' (fun h=>by cases h) (.inr hz) ?_;refine⟨_,xs,hf,hx,?_⟩;refine Or.inl ?_;have h1:=hread H (fH.refl H);simp only [List.append_assoc] at h1 ⊢;exact h1.mono fun _ H' ⟨e,hx⟩=>⟨fun _=>hx,e ▸ h H' (hO.call hx)⟩
   | false =>
    rw [hs];unfold aBg at hp';split at hp'
    ·rename_i o ho
     split at hp'
     ·rename_i hdk hgv
      simp at hp';have hdst:cP ops i=o.dst:=by simp [cP,ho]
      rw [hdst] at h;have hcv:qL o.op=true:=by rw [hp'];rfl
      have hk:ek pl o≠0:=by unfold ek;rw [hp'];simp [oU]
      have hcl:clo pl ops o=true:=by
       unfold vK vX at hz;simp only [ho,Bool.or_eq_false_iff,Bool.not_eq_false'] at hz;unfold clo;simp [hz.1,hz.2,hcv]
      refine⟨o,ho,hdk,true,hgv,⟨fun _=>.inr ⟨hk,.inr ⟨hcl,.inr ⟨hcv,x,fun H1 e1=>?_,fun H' e=>h H' (hO.call e)⟩⟩⟩,fun h=>by simp at h⟩⟩;rw [hp'];refine⟨_,xs,hf,hx,?_⟩;refine Or.inl ?_;have h1:=hread H1 e1;simp only [List.append_assoc] at h1 ⊢;exact h1
     ·cases hp'
    ·cases hp'
  ·simp at hd
 ·simp at hd
end
structure aF where
 Kind:Int
 Num:Int
 Text:ByteArray
 deriving Inhabited,DecidableEq
def aBF (x:aF):List V:=[cD .i64 x.Kind]++[cD .i64 x.Num]++[tG x.Text]
def aI (x:aF):V:=.agg (aBF x)
structure aK where
 Row:(List aF)
 At:Int
 Net:Int
 deriving Inhabited,DecidableEq
def aCF (x:aK):List V:=[eL aI x.Row]++[cD .i64 x.At]++[cD .i64 x.Net]
def aM (x:aK):V:=.agg (aCF x)
structure oM where
 Kind:Int
 Edges:(List aK)
 At:Int
 deriving Inhabited,DecidableEq
def aDi (x:oM):List V:=[cD .i64 x.Kind]++[eL aM x.Edges]++[cD .i64 x.At]
def kN (x:oM):V:=.agg (aDi x)
structure aB where
 At:Int
 Net:Int
 deriving Inhabited,DecidableEq
def aIB (x:aB):List V:=[cD .i64 x.At]++[cD .i64 x.Net]
def aE (x:aB):V:=.agg (aIB x)
structure aD where
 row:(List aF)
 jumps:(List aB)
 deriving Inhabited,DecidableEq
def aIS (x:aD):List V:=[eL aI x.row]++[eL aE x.jumps]
def aC (x:aD):V:=.agg (aIS x)
inductive bY where
 | none_
 | k_number (x:Int)
 | k_words (x:ByteArray)
 deriving DecidableEq
instance : Inhabited bY:=⟨.none_⟩
def bU:bY->V
 | .none_=>.lit .nilIface
 | .k_number x=>.ifc 140 (cD .i64 x)
 | .k_words x=>.ifc 144 (tG x)
structure cJ where
 Table:(List aK)
 Mark:Int
 deriving Inhabited,DecidableEq
def aG7 (x:cJ):List V:=[eL aM x.Table]++[cD .i64 x.Mark]
def bV (x:cJ):V:=.agg (aG7 x)
structure bE where
 From:Int
 To:Int
 deriving Inhabited,DecidableEq
def aDk (x:bE):List V:=[cD .i64 x.From]++[cD .i64 x.To]
def bP (x:bE):V:=.agg (aDk x)
structure bF where
 Row:(List aF)
 Span:bE
 deriving Inhabited,DecidableEq
def aHu (x:bF):List V:=[eL aI x.Row]++aDk x.Span
def bO (x:bF):V:=.agg (aHu x)
def HO (n3:Int):Option Bool :=
 some (decide (n3<=60))
def uM (l0:(List oM))(n3 i4:Int):Option ((Int×Int)⊕(Int)) :=
 cond ((decide (i4<(l0.length:Int)))&&(decide (n3<=60)))
 (aU (0<=i4/\i4<(l0.length:Int)) <|
 some (.inl (i64.wrap (n3+(if 61<((List.length ((l0.getD i4.toNat default).Edges):Nat):Int) then (61:Int) else ((List.length ((l0.getD i4.toNat default).Edges):Nat):Int))),i64.wrap (i4+1))))
 (some (.inr n3))
def GV (l0:(List oM))(n3 i4:Int):Option Bool :=
 (lp (fun s=>uM l0 s.1 s.2) (n3,i4)).bind (fun rr=>HO rr)
def DF (l0:(List oM)):Option Bool :=
 GV l0 (l0.length:Int) (0:Int)
structure cE where
 cells:List (ByteArray×aD)
 edges:Int
 mark:Int
 deriving Inhabited,DecidableEq
def mX (lo lm:Nat)(b:cE):Nat×Nat×List V:=(lo,3,[.agg [.mp lm,eI b.edges,eI b.mark]])
def eZ (lm:Nat)(b:cE):Nat×fD:=(lm,lO aC b.cells)
def kC (m:List (ByteArray×aD))(k:ByteArray):List aB:=((CS m k).getD default).jumps
def MT:Option cE:=some ⟨[],0,-1⟩
def DN (l0:(List aK)):Option (List aK) :=
 some l0
def mF  : Option Bool :=
 some true
def jG (b5:(List aF))(b6:(List aF))(t12 t13:Int):Option ((Int)⊕(Unit⊕Bool)) :=
 cond (decide (t13<t12))
 (aU (0<=t13/\t13<(b5.length:Int)) <|
 aU (0<=t13/\t13<(b6.length:Int)) <|
 cond (!((decide (((b5.getD t13.toNat default).Kind)=((b6.getD t13.toNat default).Kind)))&&((decide (((b5.getD t13.toNat default).Num)=((b6.getD t13.toNat default).Num)))&&((uU ((b5.getD t13.toNat default).Text) ((b6.getD t13.toNat default).Text))&&true))))
 (some (.inr (.inr false)))
 (some (.inl (i64.wrap (t13+1)))))
 (some (.inr (.inl ())))
def oQ (b5:(List aF))(b6:(List aF))(t12 t13:Int):Option Bool :=
 (lp (fun s=>jG b5 b6 t12 s) t13).bind (Sum.elim (fun rr=>mF ) (fun rr=>some rr))
def oY (b5:(List aF))(b6:(List aF)):Option Bool :=
 cond (!decide ((b5.length:Int)=(b6.length:Int)))
 (some false)
 (oQ b5 b6 (b5.length:Int) (0:Int))
def NR (a0:(List aF))(b1:(List aF)):Option Bool :=
 (oY a0 b1).bind fun x1 =>
 some x1
def BZ (r0:(List aF)):Option (List aF) :=
 aU (0<=(r0.length:Int)/\32*(r0.length:Int)<=281474976710656/\(r0.length:Int)<=9223372036854775807) <|
 aU ((List.length ([]:List aF)+r0.length)*32<=140737488355328/\List.length ([]:List aF)+r0.length<=9223372036854775807) <|
 some (([]:List aF)++r0)
def xN {σ:Type}(mB:σ->(List aF)->(List aB)->Option (σ×Bool))(sg:σ)(t1:(List aK))(i3:Int)(r4:(List aF))(f5:List aB):Option ((σ×Int)⊕(σ⊕σ)) :=
 (BZ r4).bind fun x7 =>
 (mB sg x7 f5).bind fun b5 =>
 cond (!b5.2)
 (some (.inr (.inr b5.1)))
 (some (.inl (b5.1,i3)))
def oZ {σ:Type}(mB:σ->(List aF)->(List aB)->Option (σ×Bool))(t1:(List aK))(r4:(List aF))(sg:σ)(i3:Int)(f5:List aB):Option ((σ×Int×List aB)⊕(σ×Int×List aB)) :=
 aU ((decide (i3<(t1.length:Int)))=true->0<=i3/\i3<(t1.length:Int)) <|
 (cR (decide (i3<(t1.length:Int))) (NR ((t1.getD i3.toNat default).Row) r4)).bind fun b5 =>
 cond ((decide (i3<(t1.length:Int)))&&b5)
 (aU (0<=i3/\i3<(t1.length:Int)) <|
 aU (0<=i3/\i3<(t1.length:Int)) <|
 aU ((f5.length+List.length ([aB.mk ((t1.getD i3.toNat default).At) ((t1.getD i3.toNat default).Net)]))*16<=140737488355328/\List.length f5+List.length ([aB.mk ((t1.getD i3.toNat default).At) ((t1.getD i3.toNat default).Net)])<=9223372036854775807) <|
 some (.inl (sg,i64.wrap (i3+1),f5++([aB.mk ((t1.getD i3.toNat default).At) ((t1.getD i3.toNat default).Net)]))))
 (some (.inr (sg,i3,f5)))
def BR {σ:Type}(mB:σ->(List aF)->(List aB)->Option (σ×Bool))(sg:σ)(t1:(List aK))(i3:Int)(r4:(List aF))(f5:List aB):Option ((σ×Int)⊕(σ⊕σ)) :=
 (lp (fun s=>oZ mB t1 r4 s.1 s.2.1 s.2.2) (sg,i3,f5)).bind (fun rr=>xN mB rr.1 t1 rr.2.1 r4 rr.2.2)
def nR {σ:Type}(mB:σ->(List aF)->(List aB)->Option (σ×Bool))(t1:(List aK))(sg:σ)(i3:Int):Option ((σ×Int)⊕(σ⊕σ)) :=
 cond (decide (i3<(t1.length:Int)))
 (aU (0<=i3/\i3<(t1.length:Int)) <|
 BR mB sg t1 i3 ((t1.getD i3.toNat default).Row) ([]:List aB))
 (some (.inr (.inl sg)))
def CD {σ:Type}(mB:σ->(List aF)->(List aB)->Option (σ×Bool))(sg:σ)(t1:(List aK))(i3:Int):Option σ :=
 (lp (fun s=>nR mB t1 s.1 s.2) (sg,i3)).bind (Sum.elim (fun rr=>some rr) (fun rr=>some rr))
def vP {σ:Type}(mB:σ->(List aF)->(List aB)->Option (σ×Bool))(t1:(List aK))(b5:σ):Option σ :=
 CD mB b5 t1 (0:Int)
def kA (f1:aF->Option Bool)  : Option Int :=
 some (-1:Int)
def nE (f1:aF->Option Bool)(s0:(List aF))(t7 t8:Int):Option ((Int)⊕(Unit⊕Int)) :=
 cond (decide (t8<t7))
 (aU (0<=t8/\t8<(s0.length:Int)) <|
 (f1 (s0.getD t8.toNat default)).bind fun x3 =>
 cond x3
 (some (.inr (.inr t8)))
 (some (.inl (i64.wrap (t8+1)))))
 (some (.inr (.inl ())))
def nD (f1:aF->Option Bool)(s0:(List aF))(t7 t8:Int):Option Int :=
 (lp (fun s=>nE f1 s0 t7 s) t8).bind (Sum.elim (fun rr=>kA f1 ) (fun rr=>some rr))
def nJ (s0:(List aF))(f1:aF->Option Bool):Option Int :=
 nD f1 s0 (s0.length:Int) (0:Int)
def iU (s0:(List aF))(f1:aF->Option Bool):Option Bool :=
 (nJ s0 f1).bind fun x1 =>
 some (decide (0<=x1))
def rA (v0:aF):Option (bY×Bool) :=
 cond ((decide (v0.Kind=1))&&(uU v0.Text (⟨#[]⟩:ByteArray)))
 (some (bY.k_number v0.Num,true))
 (cond (((decide (v0.Kind=2))&&(decide (v0.Num=0)))&&(decide (((ByteArray.size v0.Text:Nat):Int)<=64)))
 (some (bY.k_words v0.Text,true))
 (some (bY.none_,false)))
def JZ (v0:aF):Option Bool :=
 (rA v0).bind fun (b6,b5) =>
 match b6 with
 | .none_=>(some b5)
 | .k_number y4=>(some b5)
 | .k_words y5=>(some b5)
def JN (v0:aF):Option Bool :=
 (JZ v0).bind fun x1 =>
 some (!x1)
def xB (r0:(List aF)):Option Bool :=
 cond (decide (8<(r0.length:Int)))
 (some false)
 ((iU r0 (fun y0=>JN y0)).bind fun x2 =>
 some (!x2))
def ER (t0:(List aF)):Option (Int×(List aF)) :=
 some ((-1:Int),t0)
def iX {σ:Type}(f1:σ->aF->Option (σ×Bool))(sg:σ):Option (σ×Int) :=
 some (sg,(-1:Int))
def dK {σ:Type}(f1:σ->aF->Option (σ×Bool))(s0:(List aF))(t7:Int)(sg:σ)(t8:Int):Option ((σ×Int)⊕(σ⊕(σ×Int))) :=
 cond (decide (t8<t7))
 (aU (0<=t8/\t8<(s0.length:Int)) <|
 (f1 sg (s0.getD t8.toNat default)).bind fun x3 =>
 cond x3.2
 (some (.inr (.inr (x3.1,t8))))
 (some (.inl (x3.1,i64.wrap (t8+1)))))
 (some (.inr (.inl sg)))
def mQ {σ:Type}(f1:σ->aF->Option (σ×Bool))(sg:σ)(s0:(List aF))(t7 t8:Int):Option (σ×Int) :=
 (lp (fun s=>dK f1 s0 t7 s.1 s.2) (sg,t8)).bind (Sum.elim (fun rr=>iX f1 rr) (fun rr=>some (rr.1,rr.2)))
def mY {σ:Type}(s0:(List aF))(f1:σ->aF->Option (σ×Bool))(b5:σ):Option (σ×Int) :=
 mQ f1 b5 s0 (s0.length:Int) (0:Int)
def pU (v0:aF)(t1:Int)(t2:(List aF)):Option (Bool×Int) :=
 aU (0<=(i64.wrap (t1+1))/\(i64.wrap (t1+1))<(t2.length:Int)) <|
 some (!((decide (v0.Kind=((t2.getD (Int.toNat (i64.wrap (t1+1))) default).Kind)))&&((decide (v0.Num=((t2.getD (Int.toNat (i64.wrap (t1+1))) default).Num)))&&((uU v0.Text ((t2.getD (Int.toNat (i64.wrap (t1+1))) default).Text))&&true))),i64.wrap (t1+1))
def rR (x0:Int):Option Bool :=
 some (!decide (x0=x0))
def wH (x0 y1:Int):Option Int :=
 (rR x0).bind fun x1 =>
 (rR y1).bind fun x4 =>
 cond x1
 (cond x4
 (some (0:Int))
 (some (-1:Int)))
 (cond x4
 (some (1:Int))
 (cond (decide (x0<y1))
 (some (-1:Int))
 (cond (decide (y1<x0))
 (some (1:Int))
 (some (0:Int)))))
def qQ (x0:Int):Option Bool :=
 some (!decide (x0=x0))
def lC (x0 y1:Int):Option Int :=
 (qQ x0).bind fun x1 =>
 (qQ y1).bind fun x4 =>
 cond x1
 (cond x4
 (some (0:Int))
 (some (-1:Int)))
 (cond x4
 (some (1:Int))
 (cond (decide (x0<y1))
 (some (-1:Int))
 (cond (decide (y1<x0))
 (some (1:Int))
 (some (0:Int)))))
def pE (a0 b1:ByteArray):Option Int :=
 some (aDR a0 b1)
def tR (a0 b1:ByteArray):Option Int :=
 (pE a0 b1).bind fun x1 =>
 some x1
def zJ (a0 b1:aF):Option Int :=
 (rA a0).bind fun (c5,b5) =>
 match c5 with
 | .none_=>((rA b1).bind fun (c6,b8) =>
 match c6 with
 | .none_=>(cond ((!b5)||(!b8))
 (some (0:Int))
 (none))
 | .k_number y9=>(cond ((!b5)||(!b8))
 (some (0:Int))
 (some (1:Int)))
 | .k_words e4=>(cond ((!b5)||(!b8))
 (some (0:Int))
 (none)))
 | .k_number y4=>((rA b1).bind fun (b9,b6) =>
 match b9 with
 | .none_=>(cond ((!b5)||(!b6))
 (some (0:Int))
 (some (-1:Int)))
 | .k_number c7=>(cond ((!b5)||(!b6))
 (some (0:Int))
 ((lC y4 c7).bind fun c8 =>
 some c8))
 | .k_words e5=>(cond ((!b5)||(!b6))
 (some (0:Int))
 (some (-1:Int))))
 | .k_words y5=>((rA b1).bind fun (c4,b7) =>
 match c4 with
 | .none_=>(cond ((!b5)||(!b7))
 (some (0:Int))
 (none))
 | .k_number e6=>(cond ((!b5)||(!b7))
 (some (0:Int))
 (some (1:Int)))
 | .k_words c9=>(cond ((!b5)||(!b7))
 (some (0:Int))
 ((tR y5 c9).bind fun e3 =>
 some e3)))
def yN (a0:(List aF))(b1:(List aF)):Option Int :=
 (xB a0).bind fun x1 =>
 (cR (!(!x1)) (xB b1)).bind fun x4 =>
 cond ((!x1)||(!x4))
 (some (0:Int))
 (aU (0<=(if (b1.length:Int)<(a0.length:Int) then (b1.length:Int) else (a0.length:Int))/\(if (b1.length:Int)<(a0.length:Int) then (b1.length:Int) else (a0.length:Int))<=(a0.length:Int)) <|
 (ER b1).bind fun x9 =>
 (mY (List.take (Int.toNat (if (b1.length:Int)<(a0.length:Int) then (b1.length:Int) else (a0.length:Int))) a0) (fun st y0=>(pU y0 st x9.2).bind fun o=>some (o.2,o.1)) x9.1).bind fun b5 =>
 cond (decide (b5.2<0))
 ((wH (a0.length:Int) (b1.length:Int)).bind fun b6 =>
 some b6)
 (aU (0<=b5.2/\b5.2<(a0.length:Int)) <|
 aU (0<=b5.2/\b5.2<(b1.length:Int)) <|
 (zJ (a0.getD b5.2.toNat default) (b1.getD b5.2.toNat default)).bind fun b7 =>
 some b7))
def xP (GN:(List aB)->Option Bool)(HB:(List aK))(t4:Bool)(wW:(List aF))(qI:Bool)(t14:(List aF))(t15:(List aB)):Option ((Bool×(List aF)×Bool)⊕(Bool×(List aF)×Bool)) :=
 (xB t14).bind fun x7 =>
 (cR (qI&&(!(!x7))) (yN wW t14)).bind fun b5 =>
 (cR (!((!x7)||(qI&&(decide (0<=b5))))) (GN t15)).bind fun b6 =>
 cond (((!x7)||(qI&&(decide (0<=b5))))||(!b6))
 (some (.inr (false,wW,qI)))
 (some (.inl (t4,t14,true)))
def NY (GN:(List aB)->Option Bool)(t4:Bool)(wW:(List aF))(qI:Bool)(HB:(List aK)):Option Bool :=
 (vP (fun st t14 t15=>rnd (fun (s:Bool×(List aF)×Bool)=>xP GN HB s.1 s.2.1 s.2.2 t14 t15) st) HB (.inl (t4,wW,qI))).bind (Sum.elim (fun (s:Bool×(List aF)×Bool) =>
 (some true))
 (fun (s:Bool×(List aF)×Bool) =>
 (some s.1)))
def DX (l0:(List aK))(GN:(List aB)->Option Bool):Option Bool :=
 cond (decide (4096<(l0.length:Int)))
 (some false)
 ((DN l0).bind fun x5 =>
 NY GN false ([]) false x5)
def QK (n0:Int):Option Bool :=
 some ((decide (n0<=1048576))&&(decide ((-1048576:Int)<=n0)))
def JX  : Option Bool :=
 some true
def tJ (t9:(List aB))(t10 AB t11:Int):Option ((Int×Int)⊕(Unit⊕Bool)) :=
 cond (decide (t11<t10))
 (aU (0<=t11/\t11<(t9.length:Int)) <|
 (cR (!(((decide (((t9.getD t11.toNat default).At)<=AB))||(decide (1125899906842624<=((t9.getD t11.toNat default).At))))||(decide (((t9.getD t11.toNat default).Net)=0)))) (QK ((t9.getD t11.toNat default).Net))).bind fun x8 =>
 cond ((((decide (((t9.getD t11.toNat default).At)<=AB))||(decide (1125899906842624<=((t9.getD t11.toNat default).At))))||(decide (((t9.getD t11.toNat default).Net)=0)))||(!x8))
 (some (.inr (.inr false)))
 (some (.inl ((t9.getD t11.toNat default).At,i64.wrap (t11+1)))))
 (some (.inr (.inl ())))
def QT (AB:Int)(t9:(List aB))(t10 t11:Int):Option Bool :=
 (lp (fun s=>tJ t9 t10 s.1 s.2) (AB,t11)).bind (Sum.elim (fun rr=>JX ) (fun rr=>some rr))
def rH (f0:(List aB)):Option Bool :=
 cond (decide (1024<(f0.length:Int)))
 (some false)
 (QT (-2:Int) f0 (f0.length:Int) (0:Int))
def BS (l0:(List aK)):Option Bool :=
 (DX l0 (fun y0=>rH y0)).bind fun x1 =>
 some x1
def qS {σ:Type}(mB:σ->(List aF)->(List aB)->Option (σ×Bool))(b5:(List aK))(sg:σ)(t10:(List aF))(t11:(List aB)):Option ((σ)⊕(σ)) :=
 (mB sg t10 t11).bind fun x7 =>
 cond (!x7.2)
 (some (.inr x7.1))
 (some (.inl x7.1))
def zH {σ:Type}(mB:σ->(List aF)->(List aB)->Option (σ×Bool))(sg:σ)(b5:(List aK)):Option σ :=
 (vP (fun st t10 t11=>rnd (fun (s:σ)=>qS mB b5 s t10 t11) st) b5 (.inl sg)).bind (Sum.elim (fun (s:σ) =>
 (some s))
 (fun (s:σ) =>
 (some s)))
def rM {σ:Type}(mB:σ->(List aF)->(List aB)->Option (σ×Bool))(t1:(List aK))(b5:σ):Option σ :=
 (BS t1).bind fun x1 =>
 cond (!x1)
 (some b5)
 ((DN t1).bind fun x5 =>
 zH mB b5 x5)
def mO {σ:Type}(f1:σ->aK->Option (σ×Bool))(sg:σ):Option (σ×Int) :=
 some (sg,(-1:Int))
def eW {σ:Type}(f1:σ->aK->Option (σ×Bool))(s0:(List aK))(t7:Int)(sg:σ)(t8:Int):Option ((σ×Int)⊕(σ⊕(σ×Int))) :=
 cond (decide (t8<t7))
 (aU (0<=t8/\t8<(s0.length:Int)) <|
 (f1 sg (s0.getD t8.toNat default)).bind fun x3 =>
 cond x3.2
 (some (.inr (.inr (x3.1,t8))))
 (some (.inl (x3.1,i64.wrap (t8+1)))))
 (some (.inr (.inl sg)))
def mP {σ:Type}(f1:σ->aK->Option (σ×Bool))(sg:σ)(s0:(List aK))(t7 t8:Int):Option (σ×Int) :=
 (lp (fun s=>eW f1 s0 t7 s.1 s.2) (sg,t8)).bind (Sum.elim (fun rr=>mO f1 rr) (fun rr=>some (rr.1,rr.2)))
def mZ {σ:Type}(s0:(List aK))(f1:σ->aK->Option (σ×Bool))(b5:σ):Option (σ×Int) :=
 mP f1 b5 s0 (s0.length:Int) (0:Int)
def gX {σ:Type}(s0:(List aK))(f1:σ->aK->Option (σ×Bool))(b5:σ):Option (σ×Bool) :=
 (mZ s0 f1 b5).bind fun x1 =>
 some (x1.1,decide (0<=x1.2))
def yR (x0:Int)(b5:List Int):Option (List Int) :=
 aU ((b5.length+List.length ([u8.wrap x0]))*1<=140737488355328/\List.length b5+List.length ([u8.wrap x0])<=9223372036854775807) <|
 some (b5++([u8.wrap x0]))
def yM  (x0:Int)(b5:List Int):Option ((Int×List Int)⊕(Int×List Int)) :=
 cond (decide (128<=x0))
 (aU ((b5.length+List.length ([cI .or .u8 (u8.wrap x0) (128:Int)]))*1<=140737488355328/\List.length b5+List.length ([cI .or .u8 (u8.wrap x0) (128:Int)])<=9223372036854775807) <|
 aU (0<=(7:Int)) <|
 some (.inl (Int.fdiv x0 (2 ^ (min (Int.toNat (7:Int)) 64)),b5++([cI .or .u8 (u8.wrap x0) (128:Int)]))))
 (some (.inr (x0,b5)))
def RX (x0:Int)(b5:List Int):Option (List Int) :=
 (lp (fun s=>yM s.1 s.2) (x0,b5)).bind (fun rr=>yR rr.1 rr.2)
def GP (x0:Int):Option (List Int) :=
 RX x0 ([]:List Int)
def WM (n0:Int):Option (List Int) :=
 aU (0<=(1:Int)) <|
 aU (0<=(63:Int)) <|
 (GP (cI .xor .u64 (u64.wrap ((u64.wrap n0)*2 ^ (min (Int.toNat (1:Int)) 64))) (u64.wrap (Int.fdiv n0 (2 ^ (min (Int.toNat (63:Int)) 64)))))).bind fun x3 =>
 some x3
def tM (n0:Int):Option (List Int) :=
 (WM n0).bind fun x2 =>
 aU ((List.length ([(1:Int)])+x2.length)*1<=140737488355328/\List.length ([(1:Int)])+x2.length<=9223372036854775807) <|
 some (([(1:Int)])++x2)
def VS (n0:Int):Option (List Int) :=
 cond (decide (n0<0))
 (some ([]:List Int))
 ((GP (u64.wrap n0)).bind fun x4 =>
 some x4)
def SY (s0:ByteArray):Option (List Int) :=
 (VS ((ByteArray.size s0:Nat):Int)).bind fun x1 =>
 aU ((x1.length+ByteArray.size s0)*1<=140737488355328/\List.length x1+ByteArray.size s0<=9223372036854775807) <|
 some (x1++(List.map (fun b=>((UInt8.toNat b:Nat):Int)) (ByteArray.data s0).toList))
def uF (w0:ByteArray):Option (List Int) :=
 (SY w0).bind fun x2 =>
 aU ((List.length ([(2:Int)])+x2.length)*1<=140737488355328/\List.length ([(2:Int)])+x2.length<=9223372036854775807) <|
 some (([(2:Int)])++x2)
def CM (v0:aF):Option (List Int) :=
 (rA v0).bind fun (b6,b5) =>
 match b6 with
 | .none_=>(cond (!b5)
 (some ([]))
 (none))
 | .k_number y4=>(cond (!b5)
 (some ([]))
 ((tM y4).bind fun x8 =>
 some x8))
 | .k_words y5=>(cond (!b5)
 (some ([]))
 ((uF y5).bind fun b7 =>
 some b7))
def NX (b5:List Int):Option (List Int) :=
 some b5
def FH (t13:(List aF))(t14:Int)(b5:List Int)(t15:Int):Option ((List Int×Int)⊕(List Int)) :=
 cond (decide (t15<t14))
 (aU (0<=t15/\t15<(t13.length:Int)) <|
 (CM (t13.getD t15.toNat default)).bind fun b6 =>
 aU ((b5.length+b6.length)*1<=140737488355328/\List.length b5+b6.length<=9223372036854775807) <|
 some (.inl (b5++b6,i64.wrap (t15+1))))
 (some (.inr b5))
def NK (b5:List Int)(t13:(List aF))(t14 t15:Int):Option (List Int) :=
 (lp (fun s=>FH t13 t14 s.1 s.2) (b5,t15)).bind (fun rr=>NX rr)
def KB (r0:(List aF)):Option (List Int) :=
 (xB r0).bind fun x1 =>
 cond (!x1)
 (some ([]))
 (NK ([u8.wrap (r0.length:Int)]) r0 (r0.length:Int) (0:Int))
def EZ (r0:(List aF)):Option ByteArray :=
 (KB r0).bind fun x1 =>
 some (strOfNums x1)
def xM (b:cE)(c:aD)(k:ByteArray):Int:=wR (b.edges+wR ((lN c.jumps)-(lN (kC b.cells k))))
def RJ (b:cE)(c:aD):Option cE :=
 (EZ c.row).bind fun k =>
 cond (decide ((lN c.jumps)=0)) (some ⟨sQ b.cells k,xM b c k,b.mark⟩) (some ⟨pH b.cells k c,xM b c k,b.mark⟩)
def gO (s0:(List aB)):Option (List aB) :=
 aU (List.length s0*16<=140737488355328/\List.length s0<=9223372036854775807) <|
 some s0
def zT (f0:(List aB)):Option ((List aB)×Int) :=
 (rH f0).bind fun x1 =>
 cond (!x1)
 (some ([],(7:Int)))
 (some (f0,(0:Int)))
def GK (f0:(List aB))(b5:Int)(b6:List aB):Option ((List aB)×Int) :=
 aU (0<=b5/\b5<=(f0.length:Int)) <|
 aU ((b6.length+List.length (List.drop b5.toNat f0))*16<=140737488355328/\List.length b6+List.length (List.drop b5.toNat f0)<=9223372036854775807) <|
 (zT (b6++(List.drop b5.toNat f0))).bind fun b7 =>
 some (b7.1,b7.2)
def GO (f0:(List aB))(v6 b5:Int):Option ((List aB)×Int) :=
 cond (!decide (v6=0))
 (aU (List.length ([aB.mk (-1:Int) v6])*16<=140737488355328/\List.length ([aB.mk (-1:Int) v6])<=9223372036854775807) <|
 GK f0 b5 ([aB.mk (-1:Int) v6]))
 (GK f0 b5 ([]:List aB))
def sD (f0:(List aB))(t1 v6 b5:Int):Option ((Int×Int)⊕(Int×Int)) :=
 aU ((decide (b5<(f0.length:Int)))=true->0<=b5/\b5<(f0.length:Int)) <|
 cond ((decide (b5<(f0.length:Int)))&&(decide (((f0.getD b5.toNat default).At)<t1)))
 (aU (0<=b5/\b5<(f0.length:Int)) <|
 some (.inl (i64.wrap (v6+((f0.getD b5.toNat default).Net)),i64.wrap (b5+1))))
 (some (.inr (v6,b5)))
def ND (f0:(List aB))(t1 v6 b5:Int):Option ((List aB)×Int) :=
 (lp (fun s=>sD f0 t1 s.1 s.2) (v6,b5)).bind (fun rr=>GO f0 rr.1 rr.2)
def DP (f0:(List aB))(t1:Int):Option ((List aB)×Int) :=
 (rH f0).bind fun x1 =>
 cond (!x1)
 (some ([],(2:Int)))
 (cond (decide (1125899906842624<=t1))
 (some ([],(0:Int)))
 (cond (decide (t1<=(-1:Int)))
 ((gO f0).bind fun x7 =>
 some (x7,(0:Int)))
 (ND f0 t1 (0:Int) (0:Int))))
def mR (t:Int)(st:List aD⊕Int)(p:ByteArray×aD):Option (List aD⊕Int):=match st with
 | .inr e=>some (.inr e)
 | .inl out=>(DP p.2.jumps t).bind fun x =>
  cond (!(decide (x.2=0))) (some (.inr x.2))
  (aU ((out.length+List.length ([aD.mk p.2.row x.1]))*48<=140737488355328/\List.length out+List.length ([aD.mk p.2.row x.1])<=9223372036854775807) <|
  some (.inl (out++[aD.mk p.2.row x.1])))
def tX (out:List aD)(m n i:Int):Option ((Int×Int)⊕Int) :=
 cond (decide (i<m))
 (aU (0<=i/\i<(lN out)) <|
 some (.inl (wR (n+(lN (gD out i).jumps)),wR (i+1))))
 (some (.inr n))
def pJ (out:List aD)(m:Int)(b:cE)(i:Int):Option ((cE×Int)⊕cE) :=
 cond (decide (i<m))
 (aU (0<=i/\i<(lN out)) <|
 (RJ b (gD out i)).bind fun x=>some (.inl (x,wR (i+1))))
 (some (.inr b))
def OC (b:cE)(t:Int)(st:List aD⊕Int):Option (Int×cE):=match st with
 | .inr e=>some (e,b)
 | .inl out=>(lp (fun s=>tX out (lN out) s.1 s.2) ((0:Int),(0:Int))).bind fun n =>
  cond (decide (4096<n)) (some ((7:Int),b))
  ((lp (fun s=>pJ out (lN out) s.1 s.2) (b,(0:Int))).bind fun b=>some ((0:Int),cE.mk b.cells b.edges t))
def oK (b:cE)(t:Int):Option (Int×cE) :=
 cond (decide (t<=b.mark)) (some ((0:Int),b))
 (BQ b.cells (fun q=>(oP (mR t) (.inl []) q).bind (OC b t)))
def XC (m:Int)(x0:aK):Option Bool:=some (decide (x0.At<m))
def tU (l0:(List aK)):Option (List aK) :=
 some l0
def GM (b6:Int->Int->Option Int)(b5:List aB):Option ((List aB)×Int) :=
 (zT b5).bind fun x9 =>
 some (x9.1,x9.2)
def rZ (b9:Int->Int->Option Int)(f0:(List aB))(g1:(List aB))(b5:List aB)(a9 b8:Int)(jS b7:Int):Option (((List aB)×(List aB)×List aB×Int×Int×Int)⊕(List aB)) :=
 (b9 a9 b8).bind fun b6 =>
 cond (!decide (b6=jS))
 (aU ((b5.length+List.length ([aB.mk b7 (i64.wrap (b6-jS))]))*16<=140737488355328/\List.length b5+List.length ([aB.mk b7 (i64.wrap (b6-jS))])<=9223372036854775807) <|
 some (.inl (f0,g1,b5++([aB.mk b7 (i64.wrap (b6-jS))]),a9,b8,b6)))
 (some (.inl (f0,g1,b5,a9,b8,jS)))
def oL (b7:Int->Int->Option Int)(f0:(List aB))(g1:(List aB))(b6:List aB)(a9 b8:Int)(jS b5:Int):Option (((List aB)×(List aB)×List aB×Int×Int×Int)⊕(List aB)) :=
 aU ((decide (0<(g1.length:Int)))=true->0<=(0:Int)/\0<(g1.length:Int)) <|
 cond ((decide (0<(g1.length:Int)))&&(decide (((g1.getD (Int.toNat (0:Int)) default).At)=b5)))
 (aU (0<=(0:Int)/\0<(g1.length:Int)) <|
 aU (0<=(1:Int)/\1<=(g1.length:Int)) <|
 rZ b7 f0 (List.drop (Int.toNat (1:Int)) g1) b6 a9 (i64.wrap (b8+((g1.getD (Int.toNat (0:Int)) default).Net))) jS b5)
 (rZ b7 f0 g1 b6 a9 b8 jS b5)
def pL (b7:Int->Int->Option Int)(f0:(List aB))(g1:(List aB))(b6:List aB)(a9 b8:Int)(jS b5:Int):Option (((List aB)×(List aB)×List aB×Int×Int×Int)⊕(List aB)) :=
 aU ((decide (0<(f0.length:Int)))=true->0<=(0:Int)/\0<(f0.length:Int)) <|
 cond ((decide (0<(f0.length:Int)))&&(decide (((f0.getD (Int.toNat (0:Int)) default).At)=b5)))
 (aU (0<=(0:Int)/\0<(f0.length:Int)) <|
 aU (0<=(1:Int)/\1<=(f0.length:Int)) <|
 oL b7 (List.drop (Int.toNat (1:Int)) f0) g1 b6 (i64.wrap (a9+((f0.getD (Int.toNat (0:Int)) default).Net))) b8 jS b5)
 (oL b7 f0 g1 b6 a9 b8 jS b5)
def sB (b7:Int->Int->Option Int)(f0:(List aB))(g1:(List aB))(b6:List aB)(a9 b8:Int)(jS b5:Int):Option (((List aB)×(List aB)×List aB×Int×Int×Int)⊕(List aB)) :=
 cond (decide (0<(g1.length:Int)))
 (aU (0<=(0:Int)/\0<(g1.length:Int)) <|
 pL b7 f0 g1 b6 a9 b8 jS (if ((g1.getD (Int.toNat (0:Int)) default).At)<b5 then ((g1.getD (Int.toNat (0:Int)) default).At) else b5))
 (pL b7 f0 g1 b6 a9 b8 jS b5)
def mU (b6:Int->Int->Option Int)  (f0:(List aB))(g1:(List aB))(b5:List aB)(a9 b7 jS:Int):Option (((List aB)×(List aB)×List aB×Int×Int×Int)⊕(List aB)) :=
 cond ((decide (0<(f0.length:Int)))||(decide (0<(g1.length:Int))))
 (cond (decide (0<(f0.length:Int)))
 (aU (0<=(0:Int)/\0<(f0.length:Int)) <|
 sB b6 f0 g1 b5 a9 b7 jS ((f0.getD (Int.toNat (0:Int)) default).At))
 (sB b6 f0 g1 b5 a9 b7 jS (1125899906842624:Int)))
 (some (.inr b5))
def NZ (b5:Int->Int->Option Int)(f0:(List aB))(g1:(List aB))(b6:List aB)(a9 b7 jS:Int):Option ((List aB)×Int) :=
 (lp (fun s=>mU b5 s.1 s.2.1 s.2.2.1 s.2.2.2.1 s.2.2.2.2.1 s.2.2.2.2.2) (f0,g1,b6,a9,b7,jS)).bind (fun rr=>GM b5 rr)
def KI (f0:(List aB))(g1:(List aB))(b5:Int->Int->Option Int):Option ((List aB)×Int) :=
 (rH f0).bind fun x1 =>
 (cR (!(!x1)) (rH g1)).bind fun x4 =>
 cond ((!x1)||(!x4))
 (some ([],(2:Int)))
 (NZ b5 f0 g1 ([]:List aB) (0:Int) (0:Int) (0:Int))
def AS (a0 b1:Int):Option Int :=
 some (i64.wrap (a0+b1))
def NL (f0:(List aB))(g1:(List aB)):Option ((List aB)×Int) :=
 (KI f0 g1 (fun y0 y1=>AS y0 y1)).bind fun x1 =>
 some (x1.1,x1.2)
def CQ (nB:Int):Option Int :=
 some nB
def tW (t24:(List aB))(t25 v3:Int)(nB t26:Int):Option ((Int×Int×Int)⊕(Int)) :=
 cond (decide (t26<t25))
 (aU (0<=t26/\t26<(t24.length:Int)) <|
 some (.inl (i64.wrap (v3+((t24.getD t26.toNat default).Net)),if (i64.wrap (v3+((t24.getD t26.toNat default).Net)))<nB then (i64.wrap (v3+((t24.getD t26.toNat default).Net))) else nB,i64.wrap (t26+1))))
 (some (.inr nB))
def CO (v3 nB:Int)(t24:(List aB))(t25 t26:Int):Option Int :=
 (lp (fun s=>tW t24 t25 s.1 s.2.1 s.2.2) (v3,nB,t26)).bind (fun rr=>CQ rr)
def yO (f0:(List aB))(v3 nB:Int):Option Int :=
 CO v3 nB f0 (f0.length:Int) (0:Int)
def BG (f0:(List aB)):Option Int :=
 (rH f0).bind fun x1 =>
 cond ((!x1)||(decide ((f0.length:Int)=0)))
 (some (0:Int))
 (aU (0<=(0:Int)/\0<(f0.length:Int)) <|
 cond (decide (((f0.getD (Int.toNat (0:Int)) default).At)=(-1:Int)))
 (aU (0<=(0:Int)/\0<(f0.length:Int)) <|
 yO f0 (0:Int) ((f0.getD (Int.toNat (0:Int)) default).Net))
 (yO f0 (0:Int) (0:Int)))
def GL (b:cE)(e:Int)(turned:List aD)(n:Int)(below:Bool)(r:List aF)(f:List aB):Option ((Int×List aD×Int×Bool)⊕(Int×List aD×Int×Bool)) :=
 (EZ r).bind fun k =>
 (NL (kC b.cells k) f).bind fun x =>
 cond (!(decide (x.2=0))) (some (.inr (x.2,turned,n,below)))
 ((cR (!below) (BG x.1)).bind fun y =>
 aU ((turned.length+List.length ([aD.mk r x.1]))*48<=140737488355328/\List.length turned+List.length ([aD.mk r x.1])<=9223372036854775807) <|
 some (.inl (e,turned++[aD.mk r x.1],wR (n+wR ((lN x.1)-(lN (kC b.cells k)))),below||(decide (y<0)))))
def WO (b:cE)(turned:List aD)(n:Int)(below:Bool):Option (Int×cE) :=
 cond (decide (4096<n)) (some ((7:Int),b))
 (cond below (some ((20:Int),b))
 ((lp (fun s=>pJ turned (lN turned) s.1 s.2) (b,(0:Int))).bind fun b=>some ((0:Int),b)))
def aA8 (b:cE)(l:List aK):Option (Int×cE) :=
 (rM (fun st r f=>rnd (fun (q:Int×List aD×Int×Bool)=>GL b q.1 q.2.1 q.2.2.1 q.2.2.2 r f) st) l (.inl ((0:Int),[],b.edges,false))).bind (Sum.elim (fun q=>WO b q.2.1 q.2.2.1 q.2.2.2) (fun q=>some (q.1,b)))
def BI (b:cE)(l:List aK):Option (Int×cE) :=
 (BS l).bind fun m =>
 cond (!m) (some ((2:Int),b))
 ((gX l (fun (st:Unit) y=>(XC b.mark y).bind fun o=>some (st,o)) ()).bind fun c =>
 cond c.2 (some ((16:Int),b))
 ((tU l).bind fun x=>aA8 b x))
def GZ (b:cE):Option Int:=some b.mark
def uS (js:List aB)(m n i:Int):Option ((Int×Int)⊕Int) :=
 cond (decide (i<m))
 (aU (0<=i/\i<(lN js)) <|
 some (.inl (wR (n+(if 0>(gD js i).Net then (0:Int) else (gD js i).Net)),wR (i+1))))
 (some (.inr n))
def DV (b:cE):Option Int :=
 BQ b.cells (fun q=>(oP (fun (n:Int) (p:ByteArray×aD)=>lp (fun s=>uS p.2.jumps (lN p.2.jumps) s.1 s.2) (n,(0:Int))) (0:Int) q).bind (fun n=>some n))
def sU (x0 n2:Int):Option Int :=
 aU (0<=(u8.wrap x0)/\(u8.wrap x0)<((ByteArray.size (⟨#[0,1,2,2,3,3,3,3,4,4,4,4,4,4,4,4,5,5,5,5,5,5,5,5,5,5,5,5,5,5,5,5,6,6,6,6,6,6,6,6,6,6,6,6,6,6,6,6,6,6,6,6,6,6,6,6,6,6,6,6,6,6,6,6,7,7,7,7,7,7,7,7,7,7,7,7,7,7,7,7,7,7,7,7,7,7,7,7,7,7,7,7,7,7,7,7,7,7,7,7,7,7,7,7,7,7,7,7,7,7,7,7,7,7,7,7,7,7,7,7,7,7,7,7,7,7,7,7,8,8,8,8,8,8,8,8,8,8,8,8,8,8,8,8,8,8,8,8,8,8,8,8,8,8,8,8,8,8,8,8,8,8,8,8,8,8,8,8,8,8,8,8,8,8,8,8,8,8,8,8,8,8,8,8,8,8,8,8,8,8,8,8,8,8,8,8,8,8,8,8,8,8,8,8,8,8,8,8,8,8,8,8,8,8,8,8,8,8,8,8,8,8,8,8,8,8,8,8,8,8,8,8,8,8,8,8,8,8,8,8,8,8,8,8,8,8,8,8,8,8,8,8,8,8,8,8]⟩:ByteArray):Nat):Int)) <|
 some (i64.wrap (n2+(i64.wrap (bt (⟨#[0,1,2,2,3,3,3,3,4,4,4,4,4,4,4,4,5,5,5,5,5,5,5,5,5,5,5,5,5,5,5,5,6,6,6,6,6,6,6,6,6,6,6,6,6,6,6,6,6,6,6,6,6,6,6,6,6,6,6,6,6,6,6,6,7,7,7,7,7,7,7,7,7,7,7,7,7,7,7,7,7,7,7,7,7,7,7,7,7,7,7,7,7,7,7,7,7,7,7,7,7,7,7,7,7,7,7,7,7,7,7,7,7,7,7,7,7,7,7,7,7,7,7,7,7,7,7,7,8,8,8,8,8,8,8,8,8,8,8,8,8,8,8,8,8,8,8,8,8,8,8,8,8,8,8,8,8,8,8,8,8,8,8,8,8,8,8,8,8,8,8,8,8,8,8,8,8,8,8,8,8,8,8,8,8,8,8,8,8,8,8,8,8,8,8,8,8,8,8,8,8,8,8,8,8,8,8,8,8,8,8,8,8,8,8,8,8,8,8,8,8,8,8,8,8,8,8,8,8,8,8,8,8,8,8,8,8,8,8,8,8,8,8,8,8,8,8,8,8,8,8,8,8,8,8,8]⟩:ByteArray) (u8.wrap x0)))))
def qU (x0 n2:Int):Option Int :=
 cond (decide (256<=x0))
 (aU (0<=(8:Int)) <|
 sU (Int.fdiv x0 (2 ^ (min (Int.toNat (8:Int)) 64))) (i64.wrap (n2+8)))
 (sU x0 n2)
def qR (x0 n2:Int):Option Int :=
 cond (decide (65536<=x0))
 (aU (0<=(16:Int)) <|
 qU (Int.fdiv x0 (2 ^ (min (Int.toNat (16:Int)) 64))) (i64.wrap (n2+16)))
 (qU x0 n2)
def wI (x0:Int):Option Int :=
 cond (decide (4294967296<=x0))
 (aU (0<=(32:Int)) <|
 qR (Int.fdiv x0 (2 ^ (min (Int.toNat (32:Int)) 64))) (32:Int))
 (qR x0 (0:Int))
def pZ (x0:Int):Option Int :=
 (wI x0).bind fun x2 =>
 some x2
def gC (b5:aD->aD->Option Int)(aA:List aD)(a1 b2 i8:Int):Option ((List aD×Int)⊕(List aD)) :=
 some (.inl (aA,i64.wrap (i8+1)))
def iW (b5:aD->aD->Option Int)(a1 b2 i8:Int)(aA:List aD)(j9:Int):Option ((List aD×Int)⊕(List aD)) :=
 aU ((decide (a1<j9))=true->0<=j9/\j9<(aA.length:Int)) <|
 aU ((decide (a1<j9))=true->0<=(i64.wrap (j9-1))/\(i64.wrap (j9-1))<(aA.length:Int)) <|
 (cR (decide (a1<j9)) (b5 (aA.getD j9.toNat default) (aA.getD (Int.toNat (i64.wrap (j9-1))) default))).bind fun x4 =>
 cond ((decide (a1<j9))&&(decide (x4<0)))
 (aU (0<=(i64.wrap (j9-1))/\(i64.wrap (j9-1))<(aA.length:Int)) <|
 aU (0<=j9/\j9<(aA.length:Int)) <|
 aU (0<=j9/\j9<(aA.length:Int)) <|
 aU (0<=(i64.wrap (j9-1))/\(i64.wrap (j9-1))<(aA.length:Int)) <|
 some (.inl (List.set (aA.set j9.toNat (aA.getD (Int.toNat (i64.wrap (j9-1))) default)) (Int.toNat (i64.wrap (j9-1))) (aA.getD j9.toNat default),i64.wrap (j9-1))))
 (some (.inr aA))
def iY (b5:aD->aD->Option Int)(aA:List aD)(a1 b2:Int)(i8 j9:Int):Option ((List aD×Int)⊕(List aD)) :=
 (lp (fun s=>iW b5 a1 b2 i8 s.1 s.2) (aA,j9)).bind (fun rr=>gC b5 rr a1 b2 i8)
def iZ (b5:aD->aD->Option Int)(a1 b2:Int)(aA:List aD)(i8:Int):Option ((List aD×Int)⊕(List aD)) :=
 cond (decide (i8<b2))
 (iY b5 aA a1 b2 i8 i8)
 (some (.inr aA))
def jC (b5:aD->aD->Option Int)(aA:List aD)(a1 b2 i8:Int):Option (List aD) :=
 (lp (fun s=>iZ b5 a1 b2 s.1 s.2) (aA,i8)).bind (fun rr=>some rr)
def jR (aA:(List aD))(a1 b2:Int)(b5:aD->aD->Option Int):Option (List aD) :=
 jC b5 aA a1 b2 (i64.wrap (a1+1))
def iS (b5:aD->aD->Option Int)(aA:List aD)(hi2 bL:Int)(cK eK:Int):Option ((List aD×Int)⊕((List aD)⊕(List aD))) :=
 aU (0<=(i64.wrap (bL+cK))/\(i64.wrap (bL+cK))<(aA.length:Int)) <|
 aU (0<=(i64.wrap (bL+eK))/\(i64.wrap (bL+eK))<(aA.length:Int)) <|
 (b5 (aA.getD (Int.toNat (i64.wrap (bL+cK))) default) (aA.getD (Int.toNat (i64.wrap (bL+eK))) default)).bind fun x4 =>
 cond (!(decide (x4<0)))
 (some (.inr (.inr aA)))
 (aU (0<=(i64.wrap (bL+eK))/\(i64.wrap (bL+eK))<(aA.length:Int)) <|
 aU (0<=(i64.wrap (bL+cK))/\(i64.wrap (bL+cK))<(aA.length:Int)) <|
 aU (0<=(i64.wrap (bL+cK))/\(i64.wrap (bL+cK))<(aA.length:Int)) <|
 aU (0<=(i64.wrap (bL+eK))/\(i64.wrap (bL+eK))<(aA.length:Int)) <|
 some (.inl (List.set (aA.set (Int.toNat (i64.wrap (bL+cK))) (aA.getD (Int.toNat (i64.wrap (bL+eK))) default)) (Int.toNat (i64.wrap (bL+eK))) (aA.getD (Int.toNat (i64.wrap (bL+cK))) default),eK)))
def lT (b5:aD->aD->Option Int)(hi2 bL:Int)(aA:List aD)(cK:Int):Option ((List aD×Int)⊕((List aD)⊕(List aD))) :=
 cond (decide (hi2<=(i64.wrap ((i64.wrap (2*cK))+1))))
 (some (.inr (.inl aA)))
 (aU ((decide ((i64.wrap ((i64.wrap ((i64.wrap (2*cK))+1))+1))<hi2))=true->0<=(i64.wrap (bL+(i64.wrap ((i64.wrap (2*cK))+1))))/\(i64.wrap (bL+(i64.wrap ((i64.wrap (2*cK))+1))))<(aA.length:Int)) <|
 aU ((decide ((i64.wrap ((i64.wrap ((i64.wrap (2*cK))+1))+1))<hi2))=true->0<=(i64.wrap ((i64.wrap (bL+(i64.wrap ((i64.wrap (2*cK))+1))))+1))/\(i64.wrap ((i64.wrap (bL+(i64.wrap ((i64.wrap (2*cK))+1))))+1))<(aA.length:Int)) <|
 (cR (decide ((i64.wrap ((i64.wrap ((i64.wrap (2*cK))+1))+1))<hi2)) (b5 (aA.getD (Int.toNat (i64.wrap (bL+(i64.wrap ((i64.wrap (2*cK))+1))))) default) (aA.getD (Int.toNat (i64.wrap ((i64.wrap (bL+(i64.wrap ((i64.wrap (2*cK))+1))))+1))) default))).bind fun b6 =>
 cond ((decide ((i64.wrap ((i64.wrap ((i64.wrap (2*cK))+1))+1))<hi2))&&(decide (b6<0)))
 (iS b5 aA hi2 bL cK (i64.wrap ((i64.wrap ((i64.wrap (2*cK))+1))+1)))
 (iS b5 aA hi2 bL cK (i64.wrap ((i64.wrap (2*cK))+1))))
def lP (b5:aD->aD->Option Int)(aA:List aD)(hi2 bL cK:Int):Option (List aD) :=
 (lp (fun s=>lT b5 hi2 bL s.1 s.2) (aA,cK)).bind (Sum.elim (fun rr=>some rr) (fun rr=>some rr))
def jJ (aA:(List aD))(b6 hi2 bL:Int)(b5:aD->aD->Option Int):Option (List aD) :=
 lP b5 aA hi2 bL b6
def lU (b5:aD->aD->Option Int)(cH b6:Int)(aA:List aD)(i12:Int):Option ((List aD×Int)⊕(List aD)) :=
 cond (decide (0<=i12))
 (aU (0<=(i64.wrap (cH+i12))/\(i64.wrap (cH+i12))<(aA.length:Int)) <|
 aU (0<=cH/\cH<(aA.length:Int)) <|
 aU (0<=cH/\cH<(aA.length:Int)) <|
 aU (0<=(i64.wrap (cH+i12))/\(i64.wrap (cH+i12))<(aA.length:Int)) <|
 (jJ (List.set (aA.set cH.toNat (aA.getD (Int.toNat (i64.wrap (cH+i12))) default)) (Int.toNat (i64.wrap (cH+i12))) (aA.getD cH.toNat default)) b6 i12 cH b5).bind fun x6 =>
 some (.inl (x6,i64.wrap (i12-1))))
 (some (.inr aA))
def lQ (b5:aD->aD->Option Int)(aA:List aD)(cH b6 i12:Int):Option (List aD) :=
 (lp (fun s=>lU b5 cH b6 s.1 s.2) (aA,i12)).bind (fun rr=>some rr)
def iP (b5:aD->aD->Option Int)(aA:List aD)(cH b7 b6:Int):Option (List aD) :=
 lQ b5 aA cH b7 (i64.wrap (b6-1))
def lR (b5:aD->aD->Option Int)(cH b8 b6:Int)(aA:List aD)(i11:Int):Option ((List aD×Int)⊕(List aD)) :=
 cond (decide (0<=i11))
 ((jJ aA i11 b6 cH b5).bind fun b7 =>
 some (.inl (b7,i64.wrap (i11-1))))
 (some (.inr aA))
def lS (b5:aD->aD->Option Int)(aA:List aD)(cH b7:Int)(b6 i11:Int):Option (List aD) :=
 (lp (fun s=>lR b5 cH b7 b6 s.1 s.2) (aA,i11)).bind (fun rr=>iP b5 rr cH b7 b6)
def mC (aA:(List aD))(a1 b2:Int)(b5:aD->aD->Option Int):Option (List aD) :=
 aU ((2:Int)≠0) <|
 lS b5 aA a1 (0:Int) (i64.wrap (b2-a1)) (i64.wrap (Int.tdiv (i64.wrap ((i64.wrap (b2-a1))-1)) (2:Int)))
def oV (YE:Int):Option Int :=
 (pZ (u64.wrap YE)).bind fun x1 =>
 aU (0<=x1) <|
 some (u64.wrap ((1:Int)*2 ^ (min x1.toNat 64)))
def pT (r0:Int):Option (Int×Int) :=
 aU (0<=(13:Int)) <|
 aU (0<=(7:Int)) <|
 aU (0<=(17:Int)) <|
 some (cI .xor .u64 (cI .xor .u64 (cI .xor .u64 r0 (u64.wrap (r0*2 ^ (min (Int.toNat (13:Int)) 64)))) (Int.fdiv (cI .xor .u64 r0 (u64.wrap (r0*2 ^ (min (Int.toNat (13:Int)) 64)))) (2 ^ (min (Int.toNat (7:Int)) 64)))) (u64.wrap ((cI .xor .u64 (cI .xor .u64 r0 (u64.wrap (r0*2 ^ (min (Int.toNat (13:Int)) 64)))) (Int.fdiv (cI .xor .u64 r0 (u64.wrap (r0*2 ^ (min (Int.toNat (13:Int)) 64)))) (2 ^ (min (Int.toNat (7:Int)) 64))))*2 ^ (min (Int.toNat (17:Int)) 64))),cI .xor .u64 (cI .xor .u64 (cI .xor .u64 r0 (u64.wrap (r0*2 ^ (min (Int.toNat (13:Int)) 64)))) (Int.fdiv (cI .xor .u64 r0 (u64.wrap (r0*2 ^ (min (Int.toNat (13:Int)) 64)))) (2 ^ (min (Int.toNat (7:Int)) 64)))) (u64.wrap ((cI .xor .u64 (cI .xor .u64 r0 (u64.wrap (r0*2 ^ (min (Int.toNat (13:Int)) 64)))) (Int.fdiv (cI .xor .u64 r0 (u64.wrap (r0*2 ^ (min (Int.toNat (13:Int)) 64)))) (2 ^ (min (Int.toNat (7:Int)) 64))))*2 ^ (min (Int.toNat (17:Int)) 64))))
def fZ (b5:aD->aD->Option Int)(aA:List aD)(a1 kE:Int)(mM fP:Int)(fY iR:Int):Option ((List aD×Int×Int)⊕(List aD)) :=
 aU (0<=(i64.wrap (a1+iR))/\(i64.wrap (a1+iR))<(aA.length:Int)) <|
 aU (0<=fY/\fY<(aA.length:Int)) <|
 aU (0<=fY/\fY<(aA.length:Int)) <|
 aU (0<=(i64.wrap (a1+iR))/\(i64.wrap (a1+iR))<(aA.length:Int)) <|
 some (.inl (List.set (aA.set fY.toNat (aA.getD (Int.toNat (i64.wrap (a1+iR))) default)) (Int.toNat (i64.wrap (a1+iR))) (aA.getD fY.toNat default),mM,i64.wrap (fY+1)))
def jA (b5:aD->aD->Option Int)(a1 kE fP:Int)(aA:List aD)(mM fY:Int):Option ((List aD×Int×Int)⊕(List aD)) :=
 aU ((4:Int)≠0) <|
 cond (decide (fY<=(i64.wrap ((i64.wrap (a1+(i64.wrap ((i64.wrap (Int.tdiv kE (4:Int)))*2))))+1))))
 ((pT mM).bind fun x9 =>
 cond (decide (kE<=(i64.wrap (cI .and .u64 x9.1 (u64.wrap (fP-1))))))
 (fZ b5 aA a1 kE x9.2 fP fY (i64.wrap ((i64.wrap (cI .and .u64 x9.1 (u64.wrap (fP-1))))-kE)))
 (fZ b5 aA a1 kE x9.2 fP fY (i64.wrap (cI .and .u64 x9.1 (u64.wrap (fP-1))))))
 (some (.inr aA))
def jB (b5:aD->aD->Option Int)(aA:List aD)(a1 kE:Int)(mM fP fY:Int):Option (List aD) :=
 (lp (fun s=>jA b5 a1 kE fP s.1 s.2.1 s.2.2) (aA,mM,fY)).bind (fun rr=>some rr)
def jP (aA:(List aD))(a1 b2:Int)(b5:aD->aD->Option Int):Option (List aD) :=
 cond (decide (8<=(i64.wrap (b2-a1))))
 ((oV (i64.wrap (b2-a1))).bind fun x3 =>
 aU ((4:Int)≠0) <|
 jB b5 aA a1 (i64.wrap (b2-a1)) (u64.wrap (i64.wrap (b2-a1))) x3 (i64.wrap ((i64.wrap (a1+(i64.wrap ((i64.wrap (Int.tdiv (i64.wrap (b2-a1)) (4:Int)))*2))))-1)))
 (some aA)
def gS (aA:(List aD))(a1 b2 uE:Int)(b5:aD->aD->Option Int):Option ((Int×Int)×Int) :=
 aU (0<=b2/\b2<(aA.length:Int)) <|
 aU (0<=a1/\a1<(aA.length:Int)) <|
 (b5 (aA.getD b2.toNat default) (aA.getD a1.toNat default)).bind fun x3 =>
 cond (decide (x3<0))
 (some ((b2,a1),i64.wrap (uE+1)))
 (some ((a1,b2),uE))
def kG (aA:(List aD))(a1 b2:Int)(c3 JS:Int)(b5:aD->aD->Option Int):Option (Int×Int) :=
 (gS aA a1 b2 JS b5).bind fun x1 =>
 (gS aA x1.1.2 c3 x1.2 b5).bind fun x6 =>
 (gS aA x1.1.1 x6.1.1 x6.2 b5).bind fun b6 =>
 some (b6.1.2,b6.2)
def eV (aA:(List aD))(a1 JU:Int)(b5:aD->aD->Option Int):Option (Int×Int) :=
 (kG aA (i64.wrap (a1-1)) a1 (i64.wrap (a1+1)) JU b5).bind fun x1 =>
 some (x1.1,x1.2)
def gL (b6:aD->aD->Option Int)(aA:List aD)(nH b5:Int):Option (Int×Int) :=
 cond (decide (nH=0))
 (some (b5,(1:Int)))
 (cond (decide (nH=12))
 (some (b5,(2:Int)))
 (some (b5,(0:Int))))
def gK (b5:aD->aD->Option Int)(aA:List aD)(nH i12:Int)(b6 b7:Int):Option (Int×Int) :=
 (kG aA i12 b6 b7 nH b5).bind fun x8 =>
 gL b5 aA x8.2 x8.1
def kH (aA:(List aD))(a1 b2:Int)(b5:aD->aD->Option Int):Option (Int×Int) :=
 aU ((4:Int)≠0) <|
 aU ((4:Int)≠0) <|
 aU ((4:Int)≠0) <|
 cond (decide (8<=(i64.wrap (b2-a1))))
 (cond (decide (50<=(i64.wrap (b2-a1))))
 ((eV aA (i64.wrap (a1+(i64.wrap ((i64.wrap (Int.tdiv (i64.wrap (b2-a1)) (4:Int)))*1)))) 0 b5).bind fun b6 =>
 (eV aA (i64.wrap (a1+(i64.wrap ((i64.wrap (Int.tdiv (i64.wrap (b2-a1)) (4:Int)))*2)))) b6.2 b5).bind fun b7 =>
 (eV aA (i64.wrap (a1+(i64.wrap ((i64.wrap (Int.tdiv (i64.wrap (b2-a1)) (4:Int)))*3)))) b7.2 b5).bind fun b8 =>
 gK b5 aA b8.2 b6.1 b7.1 b8.1)
 (gK b5 aA 0 (i64.wrap (a1+(i64.wrap ((i64.wrap (Int.tdiv (i64.wrap (b2-a1)) (4:Int)))*1)))) (i64.wrap (a1+(i64.wrap ((i64.wrap (Int.tdiv (i64.wrap (b2-a1)) (4:Int)))*2)))) (i64.wrap (a1+(i64.wrap ((i64.wrap (Int.tdiv (i64.wrap (b2-a1)) (4:Int)))*3))))))
 (gL b5 aA 0 (i64.wrap (a1+(i64.wrap ((i64.wrap (Int.tdiv (i64.wrap (b2-a1)) (4:Int)))*2)))))
def jQ (b5:aD->aD->Option Int)  (aA:List aD)(i8 j9:Int):Option ((List aD×Int×Int)⊕(List aD)) :=
 cond (decide (i8<j9))
 (aU (0<=j9/\j9<(aA.length:Int)) <|
 aU (0<=i8/\i8<(aA.length:Int)) <|
 aU (0<=i8/\i8<(aA.length:Int)) <|
 aU (0<=j9/\j9<(aA.length:Int)) <|
 some (.inl (List.set (aA.set i8.toNat (aA.getD j9.toNat default)) j9.toNat (aA.getD i8.toNat default),i64.wrap (i8+1),i64.wrap (j9-1))))
 (some (.inr aA))
def jN (b5:aD->aD->Option Int)(aA:List aD)(i8 j9:Int):Option (List aD) :=
 (lp (fun s=>jQ b5 s.1 s.2.1 s.2.2) (aA,i8,j9)).bind (fun rr=>some rr)
def kB (aA:(List aD))(a1 b2:Int)(b5:aD->aD->Option Int):Option (List aD) :=
 jN b5 aA a1 (i64.wrap (b2-1))
def eO (b5:aD->aD->Option Int)(aA:List aD):Option (Bool×List aD) :=
 some (false,aA)
def dL (b6:aD->aD->Option Int)(aA:List aD)(a1 b2:Int)(i9 b5:Int):Option ((List aD×Int×Int)⊕((List aD)⊕(Bool×(List aD)))) :=
 some (.inl (aA,i9,i64.wrap (b5+1)))
def fT (b6:aD->aD->Option Int)(a1 b2:Int)(i9 b8:Int)(aA:List aD)(b5:Int):Option ((List aD×Int)⊕(List aD)) :=
 cond (decide (b5<b2))
 (aU (0<=b5/\b5<(aA.length:Int)) <|
 aU (0<=(i64.wrap (b5-1))/\(i64.wrap (b5-1))<(aA.length:Int)) <|
 (b6 (aA.getD b5.toNat default) (aA.getD (Int.toNat (i64.wrap (b5-1))) default)).bind fun b7 =>
 cond (!(decide (b7<0)))
 (some (.inr aA))
 (aU (0<=(i64.wrap (b5-1))/\(i64.wrap (b5-1))<(aA.length:Int)) <|
 aU (0<=b5/\b5<(aA.length:Int)) <|
 aU (0<=b5/\b5<(aA.length:Int)) <|
 aU (0<=(i64.wrap (b5-1))/\(i64.wrap (b5-1))<(aA.length:Int)) <|
 some (.inl (List.set (aA.set b5.toNat (aA.getD (Int.toNat (i64.wrap (b5-1))) default)) (Int.toNat (i64.wrap (b5-1))) (aA.getD b5.toNat default),i64.wrap (b5+1)))))
 (some (.inr aA))
def fV (b5:aD->aD->Option Int)(aA:List aD)(a1 b2:Int)(i9 b6 b7:Int):Option ((List aD×Int×Int)⊕((List aD)⊕(Bool×(List aD)))) :=
 (lp (fun s=>fT b5 a1 b2 i9 b6 s.1 s.2) (aA,b7)).bind (fun rr=>dL b5 rr a1 b2 i9 b6)
def dM (b5:aD->aD->Option Int)(aA:List aD)(a1 b2:Int)(i9 b6:Int):Option ((List aD×Int×Int)⊕((List aD)⊕(Bool×(List aD)))) :=
 cond (decide (2<=(i64.wrap (b2-i9))))
 (fV b5 aA a1 b2 i9 b6 (i64.wrap (i9+1)))
 (dL b5 aA a1 b2 i9 b6)
def fQ (b6:aD->aD->Option Int)(a1 b2:Int)(i9 b8:Int)(aA:List aD)(b5:Int):Option ((List aD×Int)⊕(List aD)) :=
 cond (decide (1<=b5))
 (aU (0<=b5/\b5<(aA.length:Int)) <|
 aU (0<=(i64.wrap (b5-1))/\(i64.wrap (b5-1))<(aA.length:Int)) <|
 (b6 (aA.getD b5.toNat default) (aA.getD (Int.toNat (i64.wrap (b5-1))) default)).bind fun b7 =>
 cond (!(decide (b7<0)))
 (some (.inr aA))
 (aU (0<=(i64.wrap (b5-1))/\(i64.wrap (b5-1))<(aA.length:Int)) <|
 aU (0<=b5/\b5<(aA.length:Int)) <|
 aU (0<=b5/\b5<(aA.length:Int)) <|
 aU (0<=(i64.wrap (b5-1))/\(i64.wrap (b5-1))<(aA.length:Int)) <|
 some (.inl (List.set (aA.set b5.toNat (aA.getD (Int.toNat (i64.wrap (b5-1))) default)) (Int.toNat (i64.wrap (b5-1))) (aA.getD b5.toNat default),i64.wrap (b5-1)))))
 (some (.inr aA))
def fR (b5:aD->aD->Option Int)(aA:List aD)(a1 b2:Int)(i9 b6 b7:Int):Option ((List aD×Int×Int)⊕((List aD)⊕(Bool×(List aD)))) :=
 (lp (fun s=>fQ b5 a1 b2 i9 b6 s.1 s.2) (aA,b7)).bind (fun rr=>dM b5 rr a1 b2 i9 b6)
def eR (b5:aD->aD->Option Int)(aA:List aD)(a1 b2:Int)(i9 b6:Int):Option ((List aD×Int×Int)⊕((List aD)⊕(Bool×(List aD)))) :=
 cond (decide (i9=b2))
 (some (.inr (.inr (true,aA))))
 (cond (decide ((i64.wrap (b2-a1))<50))
 (some (.inr (.inr (false,aA))))
 (aU (0<=(i64.wrap (i9-1))/\(i64.wrap (i9-1))<(aA.length:Int)) <|
 aU (0<=i9/\i9<(aA.length:Int)) <|
 aU (0<=i9/\i9<(aA.length:Int)) <|
 aU (0<=(i64.wrap (i9-1))/\(i64.wrap (i9-1))<(aA.length:Int)) <|
 cond (decide (2<=(i64.wrap (i9-a1))))
 (fR b5 (List.set (aA.set i9.toNat (aA.getD (Int.toNat (i64.wrap (i9-1))) default)) (Int.toNat (i64.wrap (i9-1))) (aA.getD i9.toNat default)) a1 b2 i9 b6 (i64.wrap (i9-1)))
 (dM b5 (List.set (aA.set i9.toNat (aA.getD (Int.toNat (i64.wrap (i9-1))) default)) (Int.toNat (i64.wrap (i9-1))) (aA.getD i9.toNat default)) a1 b2 i9 b6)))
def fW (b5:aD->aD->Option Int)(a1 b2 b7:Int)(aA:List aD)(i9:Int):Option ((List aD×Int)⊕(List aD×Int)) :=
 aU ((decide (i9<b2))=true->0<=i9/\i9<(aA.length:Int)) <|
 aU ((decide (i9<b2))=true->0<=(i64.wrap (i9-1))/\(i64.wrap (i9-1))<(aA.length:Int)) <|
 (cR (decide (i9<b2)) (b5 (aA.getD i9.toNat default) (aA.getD (Int.toNat (i64.wrap (i9-1))) default))).bind fun b6 =>
 cond ((decide (i9<b2))&&(!(decide (b6<0))))
 (some (.inl (aA,i64.wrap (i9+1))))
 (some (.inr (aA,i9)))
def fS (b5:aD->aD->Option Int)(aA:List aD)(a1 b2:Int)(i9 b6:Int):Option ((List aD×Int×Int)⊕((List aD)⊕(Bool×(List aD)))) :=
 (lp (fun s=>fW b5 a1 b2 b6 s.1 s.2) (aA,i9)).bind (fun rr=>eR b5 rr.1 a1 b2 rr.2 b6)
def fU (b6:aD->aD->Option Int)(a1 b2:Int)(aA:List aD)(i9 b5:Int):Option ((List aD×Int×Int)⊕((List aD)⊕(Bool×(List aD)))) :=
 cond (decide (b5<5))
 (fS b6 aA a1 b2 i9 b5)
 (some (.inr (.inl aA)))
def fX (b5:aD->aD->Option Int)(aA:List aD)(a1 b2:Int)(i9 b6:Int):Option (Bool×List aD) :=
 (lp (fun s=>fU b5 a1 b2 s.1 s.2.1 s.2.2) (aA,i9,b6)).bind (Sum.elim (fun rr=>eO b5 rr) (fun rr=>some (rr.1,rr.2)))
def gF (aA:(List aD))(a1 b2:Int)(b5:aD->aD->Option Int):Option (Bool×List aD) :=
 fX b5 aA a1 b2 (i64.wrap (a1+1)) (0:Int)
def fL (b5:aD->aD->Option Int)(aA:List aD)(i11:Int):Option (Int×List aD) :=
 some (i11,aA)
def fK (b6:aD->aD->Option Int)(aA:List aD)(a1 i11 b5:Int):Option ((List aD×Int×Int)⊕(List aD×Int)) :=
 cond (decide (b5<i11))
 (some (.inr (aA,i11)))
 (aU (0<=b5/\b5<(aA.length:Int)) <|
 aU (0<=i11/\i11<(aA.length:Int)) <|
 aU (0<=i11/\i11<(aA.length:Int)) <|
 aU (0<=b5/\b5<(aA.length:Int)) <|
 some (.inl (List.set (aA.set i11.toNat (aA.getD b5.toNat default)) b5.toNat (aA.getD i11.toNat default),i64.wrap (i11+1),i64.wrap (b5-1))))
def iJ (b6:aD->aD->Option Int)(a1 i11:Int)(aA:List aD)(b5:Int):Option ((List aD×Int)⊕(List aD×Int)) :=
 aU ((decide (i11<=b5))=true->0<=a1/\a1<(aA.length:Int)) <|
 aU ((decide (i11<=b5))=true->0<=b5/\b5<(aA.length:Int)) <|
 (cR (decide (i11<=b5)) (b6 (aA.getD a1.toNat default) (aA.getD b5.toNat default))).bind fun b7 =>
 cond ((decide (i11<=b5))&&(decide (b7<0)))
 (some (.inl (aA,i64.wrap (b5-1))))
 (some (.inr (aA,b5)))
def iE (b5:aD->aD->Option Int)(aA:List aD)(a1 i11 b6:Int):Option ((List aD×Int×Int)⊕(List aD×Int)) :=
 (lp (fun s=>iJ b5 a1 i11 s.1 s.2) (aA,b6)).bind (fun rr=>fK b5 rr.1 a1 i11 rr.2)
def fM (b5:aD->aD->Option Int)(aA:List aD)(a1 i11 b6:Int):Option ((List aD×Int×Int)⊕(List aD×Int)) :=
 iE b5 aA a1 i11 b6
def iG (b6:aD->aD->Option Int)(a1 b5:Int)(aA:List aD)(i11:Int):Option ((List aD×Int)⊕(List aD×Int)) :=
 aU ((decide (i11<=b5))=true->0<=a1/\a1<(aA.length:Int)) <|
 aU ((decide (i11<=b5))=true->0<=i11/\i11<(aA.length:Int)) <|
 (cR (decide (i11<=b5)) (b6 (aA.getD a1.toNat default) (aA.getD i11.toNat default))).bind fun b7 =>
 cond ((decide (i11<=b5))&&(!(decide (b7<0))))
 (some (.inl (aA,i64.wrap (i11+1))))
 (some (.inr (aA,i11)))
def iF (b5:aD->aD->Option Int)(aA:List aD)(a1 i11 b6:Int):Option ((List aD×Int×Int)⊕(List aD×Int)) :=
 (lp (fun s=>iG b5 a1 b6 s.1 s.2) (aA,i11)).bind (fun rr=>fM b5 rr.1 a1 rr.2 b6)
def iN (b5:aD->aD->Option Int)(a1:Int)(aA:List aD)(i11 b6:Int):Option ((List aD×Int×Int)⊕(List aD×Int)) :=
 iF b5 aA a1 i11 b6
def iL (b5:aD->aD->Option Int)(aA:List aD)(a1 i11 b6:Int):Option (Int×List aD) :=
 (lp (fun s=>iN b5 a1 s.1 s.2.1 s.2.2) (aA,i11,b6)).bind (fun rr=>fL b5 rr.1 rr.2)
def iV (aA:(List aD))(a1 b2 cL:Int)(b5:aD->aD->Option Int):Option (Int×List aD) :=
 aU (0<=cL/\cL<(aA.length:Int)) <|
 aU (0<=a1/\a1<(aA.length:Int)) <|
 aU (0<=a1/\a1<(aA.length:Int)) <|
 aU (0<=cL/\cL<(aA.length:Int)) <|
 iL b5 (List.set (aA.set a1.toNat (aA.getD cL.toNat default)) cL.toNat (aA.getD a1.toNat default)) a1 (i64.wrap (a1+1)) (i64.wrap (b2-1))
def iB (b6:aD->aD->Option Int)(aA:List aD)(a1 b5:Int):Option ((Int×Bool)×List aD) :=
 aU (0<=a1/\a1<(aA.length:Int)) <|
 aU (0<=b5/\b5<(aA.length:Int)) <|
 aU (0<=b5/\b5<(aA.length:Int)) <|
 aU (0<=a1/\a1<(aA.length:Int)) <|
 some ((b5,false),List.set (aA.set b5.toNat (aA.getD a1.toNat default)) a1.toNat (aA.getD b5.toNat default))
def iA (b6:aD->aD->Option Int)(aA:List aD)(a1 i12 b5:Int):Option ((List aD×Int×Int)⊕(List aD×Int)) :=
 cond (decide (b5<i12))
 (some (.inr (aA,b5)))
 (aU (0<=b5/\b5<(aA.length:Int)) <|
 aU (0<=i12/\i12<(aA.length:Int)) <|
 aU (0<=i12/\i12<(aA.length:Int)) <|
 aU (0<=b5/\b5<(aA.length:Int)) <|
 some (.inl (List.set (aA.set i12.toNat (aA.getD b5.toNat default)) b5.toNat (aA.getD i12.toNat default),i64.wrap (i12+1),i64.wrap (b5-1))))
def kM (b6:aD->aD->Option Int)(a1 i12:Int)(aA:List aD)(b5:Int):Option ((List aD×Int)⊕(List aD×Int)) :=
 aU ((decide (i12<=b5))=true->0<=b5/\b5<(aA.length:Int)) <|
 aU ((decide (i12<=b5))=true->0<=a1/\a1<(aA.length:Int)) <|
 (cR (decide (i12<=b5)) (b6 (aA.getD b5.toNat default) (aA.getD a1.toNat default))).bind fun b7 =>
 cond ((decide (i12<=b5))&&(!(decide (b7<0))))
 (some (.inl (aA,i64.wrap (b5-1))))
 (some (.inr (aA,b5)))
def kO (b5:aD->aD->Option Int)(aA:List aD)(a1 i12 b6:Int):Option ((List aD×Int×Int)⊕(List aD×Int)) :=
 (lp (fun s=>kM b5 a1 i12 s.1 s.2) (aA,b6)).bind (fun rr=>iA b5 rr.1 a1 i12 rr.2)
def gZ (b5:aD->aD->Option Int)(aA:List aD)(a1 i12 b6:Int):Option ((List aD×Int×Int)⊕(List aD×Int)) :=
 kO b5 aA a1 i12 b6
def kV (b6:aD->aD->Option Int)(a1 b5:Int)(aA:List aD)(i12:Int):Option ((List aD×Int)⊕(List aD×Int)) :=
 aU ((decide (i12<=b5))=true->0<=i12/\i12<(aA.length:Int)) <|
 aU ((decide (i12<=b5))=true->0<=a1/\a1<(aA.length:Int)) <|
 (cR (decide (i12<=b5)) (b6 (aA.getD i12.toNat default) (aA.getD a1.toNat default))).bind fun b7 =>
 cond ((decide (i12<=b5))&&(decide (b7<0)))
 (some (.inl (aA,i64.wrap (i12+1))))
 (some (.inr (aA,i12)))
def kS (b5:aD->aD->Option Int)(aA:List aD)(a1 i12 b6:Int):Option ((List aD×Int×Int)⊕(List aD×Int)) :=
 (lp (fun s=>kV b5 a1 b6 s.1 s.2) (aA,i12)).bind (fun rr=>gZ b5 rr.1 a1 rr.2 b6)
def kQ (b5:aD->aD->Option Int)(a1:Int)(aA:List aD)(i12 b6:Int):Option ((List aD×Int×Int)⊕(List aD×Int)) :=
 kS b5 aA a1 i12 b6
def kK (b5:aD->aD->Option Int)(aA:List aD)(a1 i12 b6:Int):Option ((Int×Bool)×List aD) :=
 (lp (fun s=>kQ b5 a1 s.1 s.2.1 s.2.2) (aA,i12,b6)).bind (fun rr=>iB b5 rr.1 a1 rr.2)
def hY (b6:aD->aD->Option Int)(aA:List aD)(a1 i12 b5:Int):Option ((Int×Bool)×List aD) :=
 cond (decide (b5<i12))
 (aU (0<=a1/\a1<(aA.length:Int)) <|
 aU (0<=b5/\b5<(aA.length:Int)) <|
 aU (0<=b5/\b5<(aA.length:Int)) <|
 aU (0<=a1/\a1<(aA.length:Int)) <|
 some ((b5,true),List.set (aA.set b5.toNat (aA.getD a1.toNat default)) a1.toNat (aA.getD b5.toNat default)))
 (aU (0<=b5/\b5<(aA.length:Int)) <|
 aU (0<=i12/\i12<(aA.length:Int)) <|
 aU (0<=i12/\i12<(aA.length:Int)) <|
 aU (0<=b5/\b5<(aA.length:Int)) <|
 kK b6 (List.set (aA.set i12.toNat (aA.getD b5.toNat default)) b5.toNat (aA.getD i12.toNat default)) a1 (i64.wrap (i12+1)) (i64.wrap (b5-1)))
def kR (b6:aD->aD->Option Int)(a1 i12:Int)(aA:List aD)(b5:Int):Option ((List aD×Int)⊕(List aD×Int)) :=
 aU ((decide (i12<=b5))=true->0<=b5/\b5<(aA.length:Int)) <|
 aU ((decide (i12<=b5))=true->0<=a1/\a1<(aA.length:Int)) <|
 (cR (decide (i12<=b5)) (b6 (aA.getD b5.toNat default) (aA.getD a1.toNat default))).bind fun b7 =>
 cond ((decide (i12<=b5))&&(!(decide (b7<0))))
 (some (.inl (aA,i64.wrap (b5-1))))
 (some (.inr (aA,b5)))
def lA (b5:aD->aD->Option Int)(aA:List aD)(a1 i12 b6:Int):Option ((Int×Bool)×List aD) :=
 (lp (fun s=>kR b5 a1 i12 s.1 s.2) (aA,b6)).bind (fun rr=>hY b5 rr.1 a1 i12 rr.2)
def iD (b5:aD->aD->Option Int)(aA:List aD)(a1 i12 b6:Int):Option ((Int×Bool)×List aD) :=
 lA b5 aA a1 i12 b6
def kJ (b6:aD->aD->Option Int)(a1 b5:Int)(aA:List aD)(i12:Int):Option ((List aD×Int)⊕(List aD×Int)) :=
 aU ((decide (i12<=b5))=true->0<=i12/\i12<(aA.length:Int)) <|
 aU ((decide (i12<=b5))=true->0<=a1/\a1<(aA.length:Int)) <|
 (cR (decide (i12<=b5)) (b6 (aA.getD i12.toNat default) (aA.getD a1.toNat default))).bind fun b7 =>
 cond ((decide (i12<=b5))&&(decide (b7<0)))
 (some (.inl (aA,i64.wrap (i12+1))))
 (some (.inr (aA,i12)))
def kI (b5:aD->aD->Option Int)(aA:List aD)(a1 i12 b6:Int):Option ((Int×Bool)×List aD) :=
 (lp (fun s=>kJ b5 a1 b6 s.1 s.2) (aA,i12)).bind (fun rr=>iD b5 rr.1 a1 rr.2 b6)
def lV (aA:(List aD))(a1 b2 cL:Int)(b5:aD->aD->Option Int):Option ((Int×Bool)×List aD) :=
 aU (0<=cL/\cL<(aA.length:Int)) <|
 aU (0<=a1/\a1<(aA.length:Int)) <|
 aU (0<=a1/\a1<(aA.length:Int)) <|
 aU (0<=cL/\cL<(aA.length:Int)) <|
 kI b5 (List.set (aA.set a1.toNat (aA.getD cL.toNat default)) cL.toNat (aA.getD a1.toNat default)) a1 (i64.wrap (a1+1)) (i64.wrap (b2-1))
def jH (b6:aD->aD->Option Int)(rec:(List aD)->Int->Int->Int->Option (List aD))(aA:List aD)(a1 b2 cB:Int)(bX bQ:Bool)(eF gP:Int):Option ((List aD×Int×Int×Int×Bool×Bool)⊕(List aD)) :=
 aU ((decide (0<a1))=true->0<=(i64.wrap (a1-1))/\(i64.wrap (a1-1))<(aA.length:Int)) <|
 aU ((decide (0<a1))=true->0<=gP/\gP<(aA.length:Int)) <|
 (cR (decide (0<a1)) (b6 (aA.getD (Int.toNat (i64.wrap (a1-1))) default) (aA.getD gP.toNat default))).bind fun b8 =>
 cond ((decide (0<a1))&&(!(decide (b8<0))))
 ((iV aA a1 b2 gP b6).bind fun b7 =>
 some (.inl (b7.2,b7.1,b2,cB,bX,bQ)))
 ((lV aA a1 b2 gP b6).bind fun b5 =>
 aU ((8:Int)≠0) <|
 cond (decide ((i64.wrap (b5.1.1-a1))<(i64.wrap (b2-b5.1.1))))
 ((rec b5.2 a1 b5.1.1 cB).bind fun b9 =>
 some (.inl (b9,i64.wrap (b5.1.1+1),b2,cB,decide ((i64.wrap (Int.tdiv eF (8:Int)))<=(i64.wrap (b5.1.1-a1))),b5.1.2)))
 ((rec b5.2 (i64.wrap (b5.1.1+1)) b2 cB).bind fun c4 =>
 some (.inl (c4,a1,b5.1.1,cB,decide ((i64.wrap (Int.tdiv eF (8:Int)))<=(i64.wrap (b2-b5.1.1))),b5.1.2))))
def jI (b5:aD->aD->Option Int)(rec:(List aD)->Int->Int->Int->Option (List aD))(aA:List aD)(a1 b2 cB:Int)(bX bQ:Bool)(eF gP OD:Int):Option ((List aD×Int×Int×Int×Bool×Bool)⊕(List aD)) :=
 cond ((bX&&bQ)&&(decide (OD=1)))
 ((gF aA a1 b2 b5).bind fun b6 =>
 cond b6.1
 (some (.inr b6.2))
 (jH b5 rec b6.2 a1 b2 cB bX bQ eF gP))
 (jH b5 rec aA a1 b2 cB bX bQ eF gP)
def jF (b5:aD->aD->Option Int)(rec:(List aD)->Int->Int->Int->Option (List aD))(aA:List aD)(a1 b2 cB:Int)(bX bQ:Bool)(eF:Int):Option ((List aD×Int×Int×Int×Bool×Bool)⊕(List aD)) :=
 (kH aA a1 b2 b5).bind fun x9 =>
 cond (decide (x9.2=2))
 ((kB aA a1 b2 b5).bind fun b6 =>
 jI b5 rec b6 a1 b2 cB bX bQ eF (i64.wrap ((i64.wrap (b2-1))-(i64.wrap (x9.1-a1)))) (1:Int))
 (jI b5 rec aA a1 b2 cB bX bQ eF x9.1 x9.2)
def mD (b5:aD->aD->Option Int)(rec:(List aD)->Int->Int->Int->Option (List aD))  (aA:List aD)(a1 b2 cB:Int)(bX bQ:Bool):Option ((List aD×Int×Int×Int×Bool×Bool)⊕(List aD)) :=
 cond (decide ((i64.wrap (b2-a1))<=12))
 ((jR aA a1 b2 b5).bind fun x2 =>
 some (.inr x2))
 (cond (decide (cB=0))
 ((mC aA a1 b2 b5).bind fun x6 =>
 some (.inr x6))
 (cond (!bX)
 ((jP aA a1 b2 b5).bind fun b6 =>
 jF b5 rec b6 a1 b2 (i64.wrap (cB-1)) bX bQ (i64.wrap (b2-a1)))
 (jF b5 rec aA a1 b2 cB bX bQ (i64.wrap (b2-a1)))))
def mA (b5:aD->aD->Option Int)(rec:(List aD)->Int->Int->Int->Option (List aD))(aA:List aD)(a1 b2 cB:Int)(bX bQ:Bool):Option (List aD) :=
 (lp (fun s=>mD b5 rec s.1 s.2.1 s.2.2.1 s.2.2.2.1 s.2.2.2.2.1 s.2.2.2.2.2) (aA,a1,b2,cB,bX,bQ)).bind (fun rr=>some rr)
def kY (b5:aD->aD->Option Int)(rec:(List aD)->Int->Int->Int->Option (List aD))(aA:(List aD))(a1 b2 cB:Int):Option (List aD) :=
 mA b5 rec aA a1 b2 cB true true
def jK (b5:aD->aD->Option Int):Nat->(List aD)->Int->Int->Int->Option (List aD)
 | 0=>fun _ _ _ _=>none
 | k+1=>kY b5 (jK b5 k)
def sN (aA:(List aD))(a1 b2 cB:Int)(b5:aD->aD->Option Int):Option (List aD):=aGg (fun k=>jK b5 k aA a1 b2 cB)
def gY (x0:(List aD))(b5:aD->aD->Option Int):Option (List aD) :=
 (pZ (u64.wrap (x0.length:Int))).bind fun x1 =>
 (sN x0 (0:Int) (x0.length:Int) x1 b5).bind fun x4 =>
 some x4
def rQ (x0 y1:aD):Option Int :=
 (yN x0.row y1.row).bind fun x1 =>
 some x1
def QX (l0:List aK):Option (List aK) :=
 some l0
def wZ (r1:(List aF))(t9:(List aB))(t10:Int)(l0:List aK)(t11:Int):Option ((List aK×Int)⊕(List aK)) :=
 cond (decide (t11<t10))
 (aU (0<=t11/\t11<(t9.length:Int)) <|
 (BZ r1).bind fun x7 =>
 aU ((l0.length+List.length ([aK.mk x7 ((t9.getD t11.toNat default).At) ((t9.getD t11.toNat default).Net)]))*40<=140737488355328/\List.length l0+List.length ([aK.mk x7 ((t9.getD t11.toNat default).At) ((t9.getD t11.toNat default).Net)])<=9223372036854775807) <|
 some (.inl (l0++([aK.mk x7 ((t9.getD t11.toNat default).At) ((t9.getD t11.toNat default).Net)]),i64.wrap (t11+1))))
 (some (.inr l0))
def QI (l0:List aK)(r1:(List aF))(t9:(List aB))(t10 t11:Int):Option (List aK) :=
 (lp (fun s=>wZ r1 t9 t10 s.1 s.2) (l0,t11)).bind (fun rr=>QX rr)
def NM (l0:(List aK))(r1:(List aF))(f2:(List aB)):Option (List aK) :=
 QI l0 r1 f2 (f2.length:Int) (0:Int)
def GI (r0:(List aF))(f1:(List aB)):Option (List aK) :=
 (xB r0).bind fun x1 =>
 (cR (!(!x1)) (rH f1)).bind fun x4 =>
 cond ((!x1)||(!x4))
 (some ([]))
 ((NM [] r0 f1).bind fun x8 =>
 some x8)
def JO (rows:List aD)(n:Int)(out:List aK)(i:Int):Option ((List aK×Int)⊕List aK) :=
 cond (decide (i<n))
 (aU (0<=i/\i<(lN rows)) <|
 (GI (gD rows i).row (gD rows i).jumps).bind fun x =>
 aU ((out.length+x.length)*40<=140737488355328/\List.length out+x.length<=9223372036854775807) <|
 some (.inl (out++x,wR (i+1))))
 (some (.inr out))
def XG (rows:List aD):Option (List aK) :=
 (gY rows (fun x y=>rQ x y)).bind fun rows =>
 lp (fun s=>JO rows (lN rows) s.1 s.2) (([]:List aK),(0:Int))
def wY (s:List aD)(p:ByteArray×aD):Option (List aD) :=
 aU ((s.length+List.length ([p.2]))*48<=140737488355328/\List.length s+List.length ([p.2])<=9223372036854775807) <|
 some (s++[p.2])
def zZ (b:cE):Option (List aK) :=
 aU (0<=(lN b.cells)/\48*(lN b.cells)<=281474976710656/\(lN b.cells)<=9223372036854775807) <|
 BQ b.cells (fun q=>(oP wY ([]:List aD) q).bind XG)
def CN  : Option Bool :=
 some true
def yL (a0:(List aF))(b1:(List aF))(i5:Int):Option ((Int)⊕(Unit⊕Bool)) :=
 cond (decide (i5<(a0.length:Int)))
 (aU (0<=i5/\i5<(a0.length:Int)) <|
 aU (0<=i5/\i5<(b1.length:Int)) <|
 cond (!((decide (((a0.getD i5.toNat default).Kind)=((b1.getD i5.toNat default).Kind)))&&((decide (((a0.getD i5.toNat default).Num)=((b1.getD i5.toNat default).Num)))&&((uU ((a0.getD i5.toNat default).Text) ((b1.getD i5.toNat default).Text))&&true))))
 (some (.inr (.inr false)))
 (some (.inl (i64.wrap (i5+1)))))
 (some (.inr (.inl ())))
def LC (a0:(List aF))(b1:(List aF))(i5:Int):Option Bool :=
 (lp (fun s=>yL a0 b1 s) i5).bind (Sum.elim (fun rr=>CN ) (fun rr=>some rr))
def uZ (a0:(List aF))(b1:(List aF)):Option Bool :=
 cond (!decide ((a0.length:Int)=(b1.length:Int)))
 (some false)
 (LC a0 b1 (0:Int))
def DH  : Option Bool :=
 some true
def yE (a0:(List aK))(b1:(List aK))(i5:Int):Option ((Int)⊕(Unit⊕Bool)) :=
 cond (decide (i5<(a0.length:Int)))
 (aU (0<=i5/\i5<(a0.length:Int)) <|
 aU (0<=i5/\i5<(b1.length:Int)) <|
 aU ((!(!decide (((a0.getD i5.toNat default).At)=((b1.getD i5.toNat default).At))))=true->0<=i5/\i5<(a0.length:Int)) <|
 aU ((!(!decide (((a0.getD i5.toNat default).At)=((b1.getD i5.toNat default).At))))=true->0<=i5/\i5<(b1.length:Int)) <|
 aU ((!((!decide (((a0.getD i5.toNat default).At)=((b1.getD i5.toNat default).At)))||(!decide (((a0.getD i5.toNat default).Net)=((b1.getD i5.toNat default).Net)))))=true->0<=i5/\i5<(a0.length:Int)) <|
 aU ((!((!decide (((a0.getD i5.toNat default).At)=((b1.getD i5.toNat default).At)))||(!decide (((a0.getD i5.toNat default).Net)=((b1.getD i5.toNat default).Net)))))=true->0<=i5/\i5<(b1.length:Int)) <|
 (cR (!((!decide (((a0.getD i5.toNat default).At)=((b1.getD i5.toNat default).At)))||(!decide (((a0.getD i5.toNat default).Net)=((b1.getD i5.toNat default).Net))))) (uZ ((a0.getD i5.toNat default).Row) ((b1.getD i5.toNat default).Row))).bind fun x9 =>
 cond (((!decide (((a0.getD i5.toNat default).At)=((b1.getD i5.toNat default).At)))||(!decide (((a0.getD i5.toNat default).Net)=((b1.getD i5.toNat default).Net))))||(!x9))
 (some (.inr (.inr false)))
 (some (.inl (i64.wrap (i5+1)))))
 (some (.inr (.inl ())))
def KN (a0:(List aK))(b1:(List aK))(i5:Int):Option Bool :=
 (lp (fun s=>yE a0 b1 s) i5).bind (Sum.elim (fun rr=>DH ) (fun rr=>some rr))
def AX (a0:(List aK))(b1:(List aK)):Option Bool :=
 cond (!decide ((a0.length:Int)=(b1.length:Int)))
 (some false)
 (KN a0 b1 (0:Int))
def AT  : Option Bool :=
 (MT).bind fun x1 =>
 (BI x1 ([aK.mk ([aF.mk (1:Int) (1:Int) ByteArray.empty]) (2:Int) (1:Int),aK.mk ([aF.mk (1:Int) (1:Int) ByteArray.empty]) (9:Int) (-1:Int)])).bind fun x9 =>
 (oK x9.2 (5:Int)).bind fun b6 =>
 (BI b6.2 ([aK.mk ([aF.mk (1:Int) (1:Int) ByteArray.empty]) (4:Int) (1:Int)])).bind fun b5 =>
 (cond (((decide (x9.1=0))&&(decide (b6.1=0)))&&(decide (b5.1=16))) (GZ b5.2) (some (0:Int))).bind fun b7 =>
 (cond ((((decide (x9.1=0))&&(decide (b6.1=0)))&&(decide (b5.1=16)))&&(decide (b7=5))) (DV b5.2) (some (0:Int))).bind fun b8 =>
 (cond (((((decide (x9.1=0))&&(decide (b6.1=0)))&&(decide (b5.1=16)))&&(decide (b7=5)))&&(decide (b8=1))) (zZ b5.2) (some ([]))).bind fun b9 =>
 (cR (((((decide (x9.1=0))&&(decide (b6.1=0)))&&(decide (b5.1=16)))&&(decide (b7=5)))&&(decide (b8=1))) (AX b9 ([aK.mk ([aF.mk (1:Int) (1:Int) ByteArray.empty]) (-1:Int) (1:Int),aK.mk ([aF.mk (1:Int) (1:Int) ByteArray.empty]) (9:Int) (-1:Int)]))).bind fun c4 =>
 some ((((((decide (x9.1=0))&&(decide (b6.1=0)))&&(decide (b5.1=16)))&&(decide (b7=5)))&&(decide (b8=1)))&&c4)
def QO  : Option cJ :=
 some (cJ.mk ([]) (-1:Int))
def zU (v0:aF):Option Bool :=
 cond (decide (v0.Kind=1))
 (some (uU v0.Text (⟨#[]⟩:ByteArray)))
 (some (((decide (v0.Kind=2))&&(decide (v0.Num=0)))&&(decide (((ByteArray.size v0.Text:Nat):Int)<=64))))
def BA (r0:(List aF)):Option Bool :=
 some (decide ((r0.length:Int)<=8))
def xU (r0:(List aF))(i3:Int):Option ((Int)⊕(Unit⊕Bool)) :=
 cond ((decide (i3<(r0.length:Int)))&&(decide (i3<9)))
 (aU (0<=i3/\i3<(r0.length:Int)) <|
 (zU (r0.getD i3.toNat default)).bind fun x3 =>
 cond (!x3)
 (some (.inr (.inr false)))
 (some (.inl (i64.wrap (i3+1)))))
 (some (.inr (.inl ())))
def NN (r0:(List aF))(i3:Int):Option Bool :=
 (lp (fun s=>xU r0 s) i3).bind (Sum.elim (fun rr=>BA r0) (fun rr=>some rr))
def uV (r0:(List aF)):Option Bool :=
 NN r0 (0:Int)
def GA  : Option Bool :=
 some true
def sC (f0:(List aB))(i3:Int):Option ((Int)⊕(Unit⊕Bool)) :=
 cond (decide (i3<(f0.length:Int)))
 (aU (0<=i3/\i3<(f0.length:Int)) <|
 aU ((!(decide (((f0.getD i3.toNat default).At)<(-1:Int))))=true->0<=i3/\i3<(f0.length:Int)) <|
 aU ((!((decide (((f0.getD i3.toNat default).At)<(-1:Int)))||(decide (1125899906842624<=((f0.getD i3.toNat default).At)))))=true->0<=i3/\i3<(f0.length:Int)) <|
 aU ((!(((decide (((f0.getD i3.toNat default).At)<(-1:Int)))||(decide (1125899906842624<=((f0.getD i3.toNat default).At))))||(decide (((f0.getD i3.toNat default).Net)=0))))=true->0<=i3/\i3<(f0.length:Int)) <|
 aU ((!((((decide (((f0.getD i3.toNat default).At)<(-1:Int)))||(decide (1125899906842624<=((f0.getD i3.toNat default).At))))||(decide (((f0.getD i3.toNat default).Net)=0)))||(decide (1048576<((f0.getD i3.toNat default).Net)))))=true->0<=i3/\i3<(f0.length:Int)) <|
 cond (((((decide (((f0.getD i3.toNat default).At)<(-1:Int)))||(decide (1125899906842624<=((f0.getD i3.toNat default).At))))||(decide (((f0.getD i3.toNat default).Net)=0)))||(decide (1048576<((f0.getD i3.toNat default).Net))))||(decide (((f0.getD i3.toNat default).Net)<(-1048576:Int))))
 (some (.inr (.inr false)))
 (aU ((decide (0<i3))=true->0<=i3/\i3<(f0.length:Int)) <|
 aU ((decide (0<i3))=true->0<=(i64.wrap (i3-1))/\(i64.wrap (i3-1))<(f0.length:Int)) <|
 cond ((decide (0<i3))&&(decide (((f0.getD i3.toNat default).At)<=((f0.getD (Int.toNat (i64.wrap (i3-1))) default).At))))
 (some (.inr (.inr false)))
 (some (.inl (i64.wrap (i3+1))))))
 (some (.inr (.inl ())))
def NW (f0:(List aB))(i3:Int):Option Bool :=
 (lp (fun s=>sC f0 s) i3).bind (Sum.elim (fun rr=>GA ) (fun rr=>some rr))
def qX (f0:(List aB)):Option Bool :=
 cond (decide (1024<(f0.length:Int)))
 (some false)
 (NW f0 (0:Int))
def xJ (a2 b3:aF):Option Int :=
 cond (!decide (((ByteArray.size a2.Text:Nat):Int)=((ByteArray.size b3.Text:Nat):Int)))
 (cond (decide (((ByteArray.size a2.Text:Nat):Int)<((ByteArray.size b3.Text:Nat):Int)))
 (some (-1:Int))
 (some (1:Int)))
 (some (0:Int))
def nS (a2 b3:aF)(i5:Int):Option ((Int)⊕(Unit⊕Int)) :=
 cond ((decide (i5<((ByteArray.size a2.Text:Nat):Int)))&&(decide (i5<((ByteArray.size b3.Text:Nat):Int))))
 (aU (0<=i5/\i5<((ByteArray.size a2.Text:Nat):Int)) <|
 aU (0<=i5/\i5<((ByteArray.size b3.Text:Nat):Int)) <|
 cond (!decide ((bt a2.Text i5)=(bt b3.Text i5)))
 (aU (0<=i5/\i5<((ByteArray.size a2.Text:Nat):Int)) <|
 aU (0<=i5/\i5<((ByteArray.size b3.Text:Nat):Int)) <|
 cond (decide ((bt a2.Text i5)<(bt b3.Text i5)))
 (some (.inr (.inr (-1:Int))))
 (some (.inr (.inr (1:Int)))))
 (some (.inl (i64.wrap (i5+1)))))
 (some (.inr (.inl ())))
def BW (a2 b3:aF)(i5:Int):Option Int :=
 (lp (fun s=>nS a2 b3 s) i5).bind (Sum.elim (fun rr=>xJ a2 b3) (fun rr=>some rr))
def yV (a0 b1:aF):Option Int :=
 (zU a0).bind fun x1 =>
 (cR (!(!x1)) (zU b1)).bind fun x4 =>
 cond ((!x1)||(!x4))
 (some (0:Int))
 (cond (!decide (a0.Kind=b1.Kind))
 (cond (decide (a0.Kind=1))
 (some (-1:Int))
 (some (1:Int)))
 (cond (!decide (a0.Num=b1.Num))
 (cond (decide (a0.Num<b1.Num))
 (some (-1:Int))
 (some (1:Int)))
 (BW a0 b1 (0:Int))))
def xL (a0:(List aF))(b1:(List aF)):Option Int :=
 cond (decide ((a0.length:Int)<(b1.length:Int)))
 (some (-1:Int))
 (cond (decide ((b1.length:Int)<(a0.length:Int)))
 (some (1:Int))
 (some (0:Int)))
def nT (a0:(List aF))(b1:(List aF))(i5:Int):Option ((Int)⊕(Unit⊕Int)) :=
 cond ((decide (i5<(a0.length:Int)))&&(decide (i5<(b1.length:Int))))
 (aU (0<=i5/\i5<(a0.length:Int)) <|
 aU (0<=i5/\i5<(b1.length:Int)) <|
 (yV (a0.getD i5.toNat default) (b1.getD i5.toNat default)).bind fun b5 =>
 cond (!decide (b5=0))
 (some (.inr (.inr b5)))
 (some (.inl (i64.wrap (i5+1)))))
 (some (.inr (.inl ())))
def CC (a0:(List aF))(b1:(List aF))(i5:Int):Option Int :=
 (lp (fun s=>nT a0 b1 s) i5).bind (Sum.elim (fun rr=>xL a0 b1) (fun rr=>some rr))
def vU (a0:(List aF))(b1:(List aF)):Option Int :=
 (uV a0).bind fun x1 =>
 (cR (!(!x1)) (uV b1)).bind fun x4 =>
 cond ((!x1)||(!x4))
 (some (0:Int))
 (CC a0 b1 (0:Int))
def LG (cC:List (List aF)):Option (List (List aF)) :=
 some cC
def CH (l0:(List aK))(cC:List (List aF))(i4:Int):Option ((List (List aF)×Int)⊕(List (List aF))) :=
 some (.inl (cC,i64.wrap (i4+1)))
def CR (l0:(List aK))(cC:List (List aF))(i4 b5:Int):Option ((List (List aF)×Int)⊕(List (List aF))) :=
 aU ((decide (b5<(cC.length:Int)))=true->0<=b5/\b5<(cC.length:Int)) <|
 aU ((decide (b5<(cC.length:Int)))=true->0<=i4/\i4<(l0.length:Int)) <|
 (cR (decide (b5<(cC.length:Int))) (uZ (cC.getD b5.toNat default) ((l0.getD i4.toNat default).Row))).bind fun b6 =>
 cond ((decide (b5<(cC.length:Int)))&&b6)
 (CH l0 cC i4)
 (aU (0<=b5/\b5<=(cC.length:Int)) <|
 aU (List.length (List.take b5.toNat cC)*24<=140737488355328/\List.length (List.take b5.toNat cC)<=9223372036854775807) <|
 aU (0<=i4/\i4<(l0.length:Int)) <|
 aU ((List.length (List.take b5.toNat cC)+List.length ([(l0.getD i4.toNat default).Row]))*24<=140737488355328/\List.length (List.take b5.toNat cC)+List.length ([(l0.getD i4.toNat default).Row])<=9223372036854775807) <|
 aU (0<=b5/\b5<=(cC.length:Int)) <|
 aU ((List.length ((List.take b5.toNat cC)++([(l0.getD i4.toNat default).Row]))+List.length (List.drop b5.toNat cC))*24<=140737488355328/\List.length ((List.take b5.toNat cC)++([(l0.getD i4.toNat default).Row]))+List.length (List.drop b5.toNat cC)<=9223372036854775807) <|
 CH l0 (((List.take b5.toNat cC)++([(l0.getD i4.toNat default).Row]))++(List.drop b5.toNat cC)) i4)
def sF (l0:(List aK))(i4:Int)(cC:List (List aF))(b5:Int):Option ((List (List aF)×Int)⊕(List (List aF)×Int)) :=
 aU ((decide (b5<(cC.length:Int)))=true->0<=b5/\b5<(cC.length:Int)) <|
 aU ((decide (b5<(cC.length:Int)))=true->0<=i4/\i4<(l0.length:Int)) <|
 (cR (decide (b5<(cC.length:Int))) (vU (cC.getD b5.toNat default) ((l0.getD i4.toNat default).Row))).bind fun b6 =>
 cond ((decide (b5<(cC.length:Int)))&&(decide (b6<0)))
 (some (.inl (cC,i64.wrap (b5+1))))
 (some (.inr (cC,b5)))
def KQ (l0:(List aK))(cC:List (List aF))(i4 b5:Int):Option ((List (List aF)×Int)⊕(List (List aF))) :=
 (lp (fun s=>sF l0 i4 s.1 s.2) (cC,b5)).bind (fun rr=>CR l0 rr.1 i4 rr.2)
def tY (l0:(List aK))(cC:List (List aF))(i4:Int):Option ((List (List aF)×Int)⊕(List (List aF))) :=
 cond (decide (i4<(l0.length:Int)))
 (KQ l0 cC i4 (0:Int))
 (some (.inr cC))
def LH (l0:(List aK))(cC:List (List aF))(i4:Int):Option (List (List aF)) :=
 (lp (fun s=>tY l0 s.1 s.2) (cC,i4)).bind (fun rr=>LG rr)
def tN (l0:(List aK)):Option (List (List aF)) :=
 LH l0 ([]:List (List aF)) (0:Int)
def HT (f5:List aB):Option (List aB) :=
 some f5
def AL (l0:(List aK))(r1:(List aF))(f5:List aB)(i6:Int):Option ((List aB×Int)⊕(List aB)) :=
 some (.inl (f5,i64.wrap (i6+1)))
def sV (l0:(List aK))(r1:(List aF))(f5:List aB)(i6:Int):Option ((List aB×Int)⊕(List aB)) :=
 cond (decide (i6<(l0.length:Int)))
 (aU (0<=i6/\i6<(l0.length:Int)) <|
 (uZ ((l0.getD i6.toNat default).Row) r1).bind fun x8 =>
 cond x8
 (aU (0<=i6/\i6<(l0.length:Int)) <|
 aU (0<=i6/\i6<(l0.length:Int)) <|
 aU ((f5.length+List.length ([aB.mk ((l0.getD i6.toNat default).At) ((l0.getD i6.toNat default).Net)]))*16<=140737488355328/\List.length f5+List.length ([aB.mk ((l0.getD i6.toNat default).At) ((l0.getD i6.toNat default).Net)])<=9223372036854775807) <|
 AL l0 r1 (f5++([aB.mk ((l0.getD i6.toNat default).At) ((l0.getD i6.toNat default).Net)])) i6)
 (AL l0 r1 f5 i6))
 (some (.inr f5))
def GY (l0:(List aK))(r1:(List aF))(f5:List aB)(i6:Int):Option (List aB) :=
 (lp (fun s=>sV l0 r1 s.1 s.2) (f5,i6)).bind (fun rr=>HT rr)
def qV (l0:(List aK))(r1:(List aF)):Option (List aB) :=
 GY l0 r1 ([]:List aB) (0:Int)
def NC  : Option Bool :=
 some true
def xT (l0:(List aK))(eH:(List (List aF)))(i6:Int):Option ((Int)⊕(Unit⊕Bool)) :=
 cond (decide (i6<(eH.length:Int)))
 (aU (0<=i6/\i6<(eH.length:Int)) <|
 (qV l0 (eH.getD i6.toNat default)).bind fun x7 =>
 cond (decide (1024<(x7.length:Int)))
 (some (.inr (.inr false)))
 (some (.inl (i64.wrap (i6+1)))))
 (some (.inr (.inl ())))
def NO (l0:(List aK))(eH:(List (List aF)))(i6:Int):Option Bool :=
 (lp (fun s=>xT l0 eH s) i6).bind (Sum.elim (fun rr=>NC ) (fun rr=>some rr))
def FN (l0:(List aK)):Option Bool :=
 (tN l0).bind fun x2 =>
 NO l0 x2 (0:Int)
def AO (l0:(List aK))(i3:Int):Option ((Int)⊕(Unit⊕Bool)) :=
 some (.inl (i64.wrap (i3+1)))
def vG (l0:(List aK))(i3:Int):Option ((Int)⊕(Unit⊕Bool)) :=
 cond (decide (i3<(l0.length:Int)))
 (aU (0<=i3/\i3<(l0.length:Int)) <|
 (uV ((l0.getD i3.toNat default).Row)).bind fun b6 =>
 aU ((!(!b6))=true->0<=i3/\i3<(l0.length:Int)) <|
 aU ((!(!b6))=true->0<=i3/\i3<(l0.length:Int)) <|
 (cR (!(!b6)) (qX ([aB.mk ((l0.getD i3.toNat default).At) ((l0.getD i3.toNat default).Net)]))).bind fun b7 =>
 cond ((!b6)||(!b7))
 (some (.inr (.inr false)))
 (cond (decide (i3=0))
 (AO l0 i3)
 (aU (0<=(i64.wrap (i3-1))/\(i64.wrap (i3-1))<(l0.length:Int)) <|
 aU (0<=i3/\i3<(l0.length:Int)) <|
 (vU ((l0.getD (Int.toNat (i64.wrap (i3-1))) default).Row) ((l0.getD i3.toNat default).Row)).bind fun b5 =>
 aU (((decide (b5=0))&&(!(decide (0<b5))))=true->0<=(i64.wrap (i3-1))/\(i64.wrap (i3-1))<(l0.length:Int)) <|
 aU (((decide (b5=0))&&(!(decide (0<b5))))=true->0<=i3/\i3<(l0.length:Int)) <|
 cond ((decide (0<b5))||((decide (b5=0))&&(decide (((l0.getD i3.toNat default).At)<=((l0.getD (Int.toNat (i64.wrap (i3-1))) default).At)))))
 (some (.inr (.inr false)))
 (AO l0 i3))))
 (some (.inr (.inl ())))
def OQ (l0:(List aK))(i3:Int):Option Bool :=
 (lp (fun s=>vG l0 s) i3).bind (Sum.elim (fun rr=>FN l0) (fun rr=>some rr))
def tK (l0:(List aK)):Option Bool :=
 cond (decide (4096<(l0.length:Int)))
 (some false)
 (OQ l0 (0:Int))
def yT (b5:List Int):Option (List Int) :=
 some b5
def yH (t1:Int)(b5:List Int)(b6:Bool):Option (List Int) :=
 cond (!b6)
 (aU ((b5.length+List.length ([t1]))*8<=140737488355328/\List.length b5+List.length ([t1])<=9223372036854775807) <|
 yT (b5++([t1])))
 (yT b5)
def DC (l0:(List Int))(t1:Int)(b5:List Int)(b6:Bool)(i7:Int):Option ((List Int×Bool×Int)⊕((List Int×Bool)⊕(List Int))) :=
 aU (0<=i7/\i7<(l0.length:Int)) <|
 aU ((b5.length+List.length ([l0.getD i7.toNat default]))*8<=140737488355328/\List.length b5+List.length ([l0.getD i7.toNat default])<=9223372036854775807) <|
 some (.inl (b5++([l0.getD i7.toNat default]),b6,i64.wrap (i7+1)))
def oG (l0:(List Int))(t1:Int)(b5:List Int)(b6:Bool)(i7:Int):Option ((List Int×Bool×Int)⊕((List Int×Bool)⊕(List Int))) :=
 cond (decide (i7<(l0.length:Int)))
 (aU (0<=i7/\i7<(l0.length:Int)) <|
 cond (decide ((l0.getD i7.toNat default)=t1))
 (some (.inr (.inr l0)))
 (aU (0<=i7/\i7<(l0.length:Int)) <|
 cond ((decide (t1<(l0.getD i7.toNat default)))&&(!b6))
 (aU ((b5.length+List.length ([t1]))*8<=140737488355328/\List.length b5+List.length ([t1])<=9223372036854775807) <|
 DC l0 t1 (b5++([t1])) true i7)
 (DC l0 t1 b5 b6 i7)))
 (some (.inr (.inl (b5,b6))))
def LA (l0:(List Int))(t1:Int)(b5:List Int)(b6:Bool)(i7:Int):Option (List Int) :=
 (lp (fun s=>oG l0 t1 s.1 s.2.1 s.2.2) (b5,b6,i7)).bind (Sum.elim (fun rr=>yH t1 rr.1 rr.2) (fun rr=>some rr))
def oH (l0:(List Int))(t1:Int):Option (List Int) :=
 LA l0 t1 ([]:List Int) false (0:Int)
def AV (v5:Int):Option Int :=
 some v5
def xE (f0:(List aB))(t1 v5 i6:Int):Option ((Int×Int)⊕(Int)) :=
 some (.inl (v5,i64.wrap (i6+1)))
def pP (f0:(List aB))(t1 v5 i6:Int):Option ((Int×Int)⊕(Int)) :=
 cond (decide (i6<(f0.length:Int)))
 (aU (0<=i6/\i6<(f0.length:Int)) <|
 cond (decide (((f0.getD i6.toNat default).At)<=t1))
 (aU (0<=i6/\i6<(f0.length:Int)) <|
 xE f0 t1 (i64.wrap (v5+((f0.getD i6.toNat default).Net))) i6)
 (xE f0 t1 v5 i6))
 (some (.inr v5))
def IJ (f0:(List aB))(t1 v5 i6:Int):Option Int :=
 (lp (fun s=>pP f0 t1 s.1 s.2) (v5,i6)).bind (fun rr=>AV rr)
def pK (f0:(List aB))(t1:Int):Option Int :=
 IJ f0 t1 (0:Int) (0:Int)
def DD (f6:List aB):Option ((List aB)×Int) :=
 (qX f6).bind fun x2 =>
 cond (!x2)
 (some ([],(7:Int)))
 (some (f6,(0:Int)))
def DI (kD:(List Int))(gM:(List Int))(f6:List aB)(i8:Int):Option ((List aB×Int×Int)⊕(List aB)) :=
 aU (0<=i8/\i8<(gM.length:Int)) <|
 some (.inl (f6,gM.getD i8.toNat default,i64.wrap (i8+1)))
def tT (kD:(List Int))(gM:(List Int))(f6:List aB)(b5 i8:Int):Option ((List aB×Int×Int)⊕(List aB)) :=
 cond (decide (i8<(kD.length:Int)))
 (aU (0<=i8/\i8<(gM.length:Int)) <|
 cond (!decide ((gM.getD i8.toNat default)=b5))
 (aU (0<=i8/\i8<(kD.length:Int)) <|
 aU (0<=i8/\i8<(gM.length:Int)) <|
 aU ((f6.length+List.length ([aB.mk (kD.getD i8.toNat default) (i64.wrap ((gM.getD i8.toNat default)-b5))]))*16<=140737488355328/\List.length f6+List.length ([aB.mk (kD.getD i8.toNat default) (i64.wrap ((gM.getD i8.toNat default)-b5))])<=9223372036854775807) <|
 DI kD gM (f6++([aB.mk (kD.getD i8.toNat default) (i64.wrap ((gM.getD i8.toNat default)-b5))])) i8)
 (DI kD gM f6 i8))
 (some (.inr f6))
def KW (kD:(List Int))(gM:(List Int))(f6:List aB)(b5 i8:Int):Option ((List aB)×Int) :=
 (lp (fun s=>tT kD gM s.1 s.2.1 s.2.2) (f6,b5,i8)).bind (fun rr=>DD rr)
def xK (kD:(List Int))(gM:(List Int)):Option ((List aB)×Int) :=
 KW kD gM ([]:List aB) (0:Int) (0:Int)
def CX (eB:(List Int))(bZ:List Int):Option ((List aB)×Int) :=
 (xK eB bZ).bind fun x2 =>
 some (x2.1,x2.2)
def tV (l0:(List aB))(eB:(List Int))(bZ:List Int)(i8:Int):Option ((List Int×Int)⊕(List Int)) :=
 cond (decide (i8<(eB.length:Int)))
 (aU (0<=i8/\i8<(eB.length:Int)) <|
 (pK l0 (eB.getD i8.toNat default)).bind fun x9 =>
 aU ((bZ.length+List.length ([x9]))*8<=140737488355328/\List.length bZ+List.length ([x9])<=9223372036854775807) <|
 some (.inl (bZ++([x9]),i64.wrap (i8+1))))
 (some (.inr bZ))
def KR (l0:(List aB))(eB:(List Int))(bZ:List Int)(i8:Int):Option ((List aB)×Int) :=
 (lp (fun s=>tV l0 eB s.1 s.2) (bZ,i8)).bind (fun rr=>CX eB rr)
def CY (l0:(List aB))(eB:(List Int)):Option ((List aB)×Int) :=
 KR l0 eB ([]:List Int) (0:Int)
def CU (l0:(List aB))(eB:(List Int))(i6:Int):Option (((List Int)×Int)⊕((List Int)⊕((List aB)×Int))) :=
 some (.inl (eB,i64.wrap (i6+1)))
def pF (l0:(List aB))(eB:(List Int))(i6:Int):Option (((List Int)×Int)⊕((List Int)⊕((List aB)×Int))) :=
 cond (decide (i6<(l0.length:Int)))
 (aU (0<=i6/\i6<(l0.length:Int)) <|
 aU ((!(decide (((l0.getD i6.toNat default).At)<(-1:Int))))=true->0<=i6/\i6<(l0.length:Int)) <|
 cond ((decide (((l0.getD i6.toNat default).At)<(-1:Int)))||(decide (1125899906842624<((l0.getD i6.toNat default).At))))
 (some (.inr (.inr ([],(13:Int)))))
 (aU (0<=i6/\i6<(l0.length:Int)) <|
 cond (decide (((l0.getD i6.toNat default).At)<1125899906842624))
 (aU (0<=i6/\i6<(l0.length:Int)) <|
 (oH eB ((l0.getD i6.toNat default).At)).bind fun b5 =>
 CU l0 b5 i6)
 (CU l0 eB i6)))
 (some (.inr (.inl eB)))
def LK (l0:(List aB))(eB:(List Int))(i6:Int):Option ((List aB)×Int) :=
 (lp (fun s=>pF l0 s.1 s.2) (eB,i6)).bind (Sum.elim (fun rr=>CY l0 rr) (fun rr=>some (rr.1,rr.2)))
def DA (l0:(List aB)):Option ((List aB)×Int) :=
 LK l0 ([]) (0:Int)
def wC (l0:(List aB))(i4:Int):Option ((Int)⊕(Unit⊕((List aB)×Int))) :=
 cond (decide (i4<(l0.length:Int)))
 (aU (0<=i4/\i4<(l0.length:Int)) <|
 aU ((!(decide (1048576<((l0.getD i4.toNat default).Net))))=true->0<=i4/\i4<(l0.length:Int)) <|
 cond ((decide (1048576<((l0.getD i4.toNat default).Net)))||(decide (((l0.getD i4.toNat default).Net)<(-1048576:Int))))
 (some (.inr (.inr ([],(2:Int)))))
 (some (.inl (i64.wrap (i4+1)))))
 (some (.inr (.inl ())))
def LB (l0:(List aB))(i4:Int):Option ((List aB)×Int) :=
 (lp (fun s=>wC l0 s) i4).bind (Sum.elim (fun rr=>DA l0) (fun rr=>some (rr.1,rr.2)))
def FU (l0:(List aB)):Option ((List aB)×Int) :=
 LB l0 (0:Int)
def OJ (l0:List aK):Option (List aK) :=
 some l0
def vM (r1:(List aF))(f2:(List aB))(l0:List aK)(i7:Int):Option ((List aK×Int)⊕(List aK)) :=
 cond (decide (i7<(f2.length:Int)))
 (aU (List.length r1*32<=140737488355328/\List.length r1<=9223372036854775807) <|
 aU (0<=i7/\i7<(f2.length:Int)) <|
 aU (0<=i7/\i7<(f2.length:Int)) <|
 aU ((l0.length+List.length ([aK.mk r1 ((f2.getD i7.toNat default).At) ((f2.getD i7.toNat default).Net)]))*40<=140737488355328/\List.length l0+List.length ([aK.mk r1 ((f2.getD i7.toNat default).At) ((f2.getD i7.toNat default).Net)])<=9223372036854775807) <|
 some (.inl (l0++([aK.mk r1 ((f2.getD i7.toNat default).At) ((f2.getD i7.toNat default).Net)]),i64.wrap (i7+1))))
 (some (.inr l0))
def NH (l0:List aK)(r1:(List aF))(f2:(List aB))(i7:Int):Option (List aK) :=
 (lp (fun s=>vM r1 f2 s.1 s.2) (l0,i7)).bind (fun rr=>OJ rr)
def DS (l0:(List aK))(r1:(List aF))(f2:(List aB)):Option (List aK) :=
 NH l0 r1 f2 (0:Int)
def yJ (b5:List aK):Option ((List aK)×Int) :=
 cond (decide (4096<(b5.length:Int)))
 (some ([],(7:Int)))
 (some (b5,(0:Int)))
def uA (l0:(List aK))(uD:(List (List aF)))(b5:List aK)(i8:Int):Option ((List aK×Int)⊕((List aK)⊕((List aK)×Int))) :=
 cond (decide (i8<(uD.length:Int)))
 (aU (0<=i8/\i8<(uD.length:Int)) <|
 (qV l0 (uD.getD i8.toNat default)).bind fun b7 =>
 (FU b7).bind fun b6 =>
 cond (!decide (b6.2=0))
 (some (.inr (.inr ([],b6.2))))
 (aU (0<=i8/\i8<(uD.length:Int)) <|
 (DS b5 (uD.getD i8.toNat default) b6.1).bind fun b8 =>
 some (.inl (b8,i64.wrap (i8+1)))))
 (some (.inr (.inl b5)))
def KZ (l0:(List aK))(b5:List aK)(uD:(List (List aF)))(i8:Int):Option ((List aK)×Int) :=
 (lp (fun s=>uA l0 uD s.1 s.2) (b5,i8)).bind (Sum.elim (fun rr=>yJ rr) (fun rr=>some (rr.1,rr.2)))
def CV (l0:(List aK)):Option ((List aK)×Int) :=
 (tN l0).bind fun x1 =>
 KZ l0 ([]:List aK) x1 (0:Int)
def vZ (l0:(List aK))(i5:Int):Option ((Int)⊕(Unit⊕((List aK)×Int))) :=
 cond (decide (i5<(l0.length:Int)))
 (aU (0<=i5/\i5<(l0.length:Int)) <|
 aU ((!(decide (((l0.getD i5.toNat default).At)<(-1:Int))))=true->0<=i5/\i5<(l0.length:Int)) <|
 cond ((decide (((l0.getD i5.toNat default).At)<(-1:Int)))||(decide (1125899906842624<((l0.getD i5.toNat default).At))))
 (some (.inr (.inr ([],(13:Int)))))
 (some (.inl (i64.wrap (i5+1)))))
 (some (.inr (.inl ())))
def KO (l0:(List aK))(i5:Int):Option ((List aK)×Int) :=
 (lp (fun s=>vZ l0 s) i5).bind (Sum.elim (fun rr=>CV l0) (fun rr=>some (rr.1,rr.2)))
def CZ (l0:(List aK)):Option ((List aK)×Int) :=
 KO l0 (0:Int)
def wA (l0:(List aK))(i4:Int):Option ((Int)⊕(Unit⊕((List aK)×Int))) :=
 cond (decide (i4<(l0.length:Int)))
 (aU (0<=i4/\i4<(l0.length:Int)) <|
 (uV ((l0.getD i4.toNat default).Row)).bind fun b5 =>
 aU ((!(!b5))=true->0<=i4/\i4<(l0.length:Int)) <|
 aU ((!((!b5)||(decide (1048576<((l0.getD i4.toNat default).Net)))))=true->0<=i4/\i4<(l0.length:Int)) <|
 cond (((!b5)||(decide (1048576<((l0.getD i4.toNat default).Net))))||(decide (((l0.getD i4.toNat default).Net)<(-1048576:Int))))
 (some (.inr (.inr ([],(2:Int)))))
 (some (.inl (i64.wrap (i4+1)))))
 (some (.inr (.inl ())))
def LD (l0:(List aK))(i4:Int):Option ((List aK)×Int) :=
 (lp (fun s=>wA l0 s) i4).bind (Sum.elim (fun rr=>CZ l0) (fun rr=>some (rr.1,rr.2)))
def GR (l0:(List aK)):Option ((List aK)×Int) :=
 LD l0 (0:Int)
def JP (a0:(List aK))(b1:(List aK)):Option ((List aK)×Int) :=
 (tK a0).bind fun x1 =>
 (cR (!(!x1)) (tK b1)).bind fun x4 =>
 cond ((!x1)||(!x4))
 (some ([],(2:Int)))
 (aU (List.length a0*40<=140737488355328/\List.length a0<=9223372036854775807) <|
 aU ((a0.length+b1.length)*40<=140737488355328/\List.length a0+b1.length<=9223372036854775807) <|
 (GR (a0++b1)).bind fun b5 =>
 some (b5.1,b5.2))
def AI (m3:Int):Option Int :=
 some m3
def BC (f0:(List aB))(m3 i4:Int):Option ((Int×Int)⊕(Int)) :=
 some (.inl (m3,i64.wrap (i4+1)))
def tB (f0:(List aB))(m3 i4:Int):Option ((Int×Int)⊕(Int)) :=
 cond (decide (i4<(f0.length:Int)))
 (aU (0<=i4/\i4<(f0.length:Int)) <|
 (pK f0 ((f0.getD i4.toNat default).At)).bind fun b5 =>
 cond (decide (b5<m3))
 (aU (0<=i4/\i4<(f0.length:Int)) <|
 (pK f0 ((f0.getD i4.toNat default).At)).bind fun b6 =>
 BC f0 b6 i4)
 (BC f0 m3 i4))
 (some (.inr m3))
def HM (f0:(List aB))(m3 i4:Int):Option Int :=
 (lp (fun s=>tB f0 s.1 s.2) (m3,i4)).bind (fun rr=>AI rr)
def yF (f0:(List aB)):Option Int :=
 (qX f0).bind fun x1 =>
 cond (!x1)
 (some (0:Int))
 ((pK f0 (-1:Int)).bind fun x5 =>
 HM f0 x5 (0:Int))
def HX  : Option Bool :=
 some true
def uP (l0:(List aK))(cC:(List (List aF)))(i4:Int):Option ((Int)⊕(Unit⊕Bool)) :=
 cond (decide (i4<(cC.length:Int)))
 (aU (0<=i4/\i4<(cC.length:Int)) <|
 (qV l0 (cC.getD i4.toNat default)).bind fun b5 =>
 (yF b5).bind fun b6 =>
 cond (decide (b6<0))
 (some (.inr (.inr false)))
 (some (.inl (i64.wrap (i4+1)))))
 (some (.inr (.inl ())))
def HS (l0:(List aK))(cC:(List (List aF)))(i4:Int):Option Bool :=
 (lp (fun s=>uP l0 cC s) i4).bind (Sum.elim (fun rr=>HX ) (fun rr=>some rr))
def yK (l0:(List aK)):Option Bool :=
 (tK l0).bind fun x1 =>
 cond (!x1)
 (some false)
 ((tN l0).bind fun x5 =>
 HS l0 x5 (0:Int))
def xS (b0:cJ)(l1:(List aK)):Option (Int×cJ) :=
 (JP b0.Table l1).bind fun x5 =>
 cond (!decide (x5.2=0))
 (some (x5.2,b0))
 ((yK x5.1).bind fun x9 =>
 cond (!x9)
 (some ((20:Int),b0))
 (some ((0:Int),cJ.mk x5.1 b0.Mark)))
def uO (l1:(List aK))(b0:cJ)(i5:Int):Option ((cJ×Int)⊕(cJ⊕(Int×cJ))) :=
 cond (decide (i5<(l1.length:Int)))
 (aU (0<=i5/\i5<(l1.length:Int)) <|
 cond (decide (((l1.getD i5.toNat default).At)<b0.Mark))
 (some (.inr (.inr ((16:Int),b0))))
 (some (.inl (b0,i64.wrap (i5+1)))))
 (some (.inr (.inl b0)))
def CB (b0:cJ)(l1:(List aK))(i5:Int):Option (Int×cJ) :=
 (lp (fun s=>uO l1 s.1 s.2) (b0,i5)).bind (Sum.elim (fun rr=>xS rr l1) (fun rr=>some (rr.1,rr.2)))
def vS (b0:cJ)(l1:(List aK)):Option (Int×cJ) :=
 (tK l1).bind fun x1 =>
 cond (!x1)
 (some ((2:Int),b0))
 (CB b0 l1 (0:Int))
def FZ (g4:List aB):Option ((List aB)×Int) :=
 some (g4,(0:Int))
def vJ (f0:(List aB))(g4:List aB)(i5:Int):Option ((List aB×Int)⊕(List aB)) :=
 cond (decide (i5<(f0.length:Int)))
 (aU (0<=i5/\i5<(f0.length:Int)) <|
 aU (0<=i5/\i5<(f0.length:Int)) <|
 aU ((g4.length+List.length ([aB.mk ((f0.getD i5.toNat default).At) (i64.wrap (0-((f0.getD i5.toNat default).Net)))]))*16<=140737488355328/\List.length g4+List.length ([aB.mk ((f0.getD i5.toNat default).At) (i64.wrap (0-((f0.getD i5.toNat default).Net)))])<=9223372036854775807) <|
 some (.inl (g4++([aB.mk ((f0.getD i5.toNat default).At) (i64.wrap (0-((f0.getD i5.toNat default).Net)))]),i64.wrap (i5+1))))
 (some (.inr g4))
def OE (f0:(List aB))(g4:List aB)(i5:Int):Option ((List aB)×Int) :=
 (lp (fun s=>vJ f0 s.1 s.2) (g4,i5)).bind (fun rr=>FZ rr)
def KA (f0:(List aB)):Option ((List aB)×Int) :=
 (qX f0).bind fun x1 =>
 cond (!x1)
 (some ([],(2:Int)))
 (OE f0 ([]:List aB) (0:Int))
def EK (l5:(List Int)):Option (List Int) :=
 some l5
def rU (g1:(List aB))(l5:(List Int))(i7:Int):Option (((List Int)×Int)⊕(List Int)) :=
 cond (decide (i7<(g1.length:Int)))
 (aU (0<=i7/\i7<(g1.length:Int)) <|
 (oH l5 ((g1.getD i7.toNat default).At)).bind fun x3 =>
 some (.inl (x3,i64.wrap (i7+1))))
 (some (.inr l5))
def EV (g1:(List aB))(l5:(List Int))(i7:Int):Option (List Int) :=
 (lp (fun s=>rU g1 s.1 s.2) (l5,i7)).bind (fun rr=>EK rr)
def zF (g1:(List aB))(l5:(List Int)):Option (List Int) :=
 EV g1 l5 (0:Int)
def rX (f0:(List aB))(g1:(List aB))(l5:(List Int))(i6:Int):Option (((List Int)×Int)⊕(List Int)) :=
 cond (decide (i6<(f0.length:Int)))
 (aU (0<=i6/\i6<(f0.length:Int)) <|
 (oH l5 ((f0.getD i6.toNat default).At)).bind fun x9 =>
 some (.inl (x9,i64.wrap (i6+1))))
 (some (.inr l5))
def EJ (f0:(List aB))(g1:(List aB))(l5:(List Int))(i6:Int):Option (List Int) :=
 (lp (fun s=>rX f0 g1 s.1 s.2) (l5,i6)).bind (fun rr=>zF g1 rr)
def xG (f0:(List aB))(g1:(List aB)):Option (List Int) :=
 EJ f0 g1 ([]) (0:Int)
def AE (cO:(List Int))(bZ:List Int):Option ((List aB)×Int) :=
 (xK cO bZ).bind fun x9 =>
 some (x9.1,x9.2)
def AQ (f0:(List aB))(t1:Int)(cO:(List Int))(bZ:List Int)(i8 v9:Int):Option ((List Int×Int)⊕(List Int)) :=
 aU ((bZ.length+List.length ([v9]))*8<=140737488355328/\List.length bZ+List.length ([v9])<=9223372036854775807) <|
 some (.inl (bZ++([v9]),i64.wrap (i8+1)))
def tA (f0:(List aB))(t1:Int)(cO:(List Int))(bZ:List Int)(i8:Int):Option ((List Int×Int)⊕(List Int)) :=
 cond (decide (i8<(cO.length:Int)))
 (aU (0<=i8/\i8<(cO.length:Int)) <|
 cond (decide ((cO.getD i8.toNat default)<t1))
 (aU (0<=i8/\i8<(cO.length:Int)) <|
 (pK f0 (cO.getD i8.toNat default)).bind fun b5 =>
 AQ f0 t1 cO bZ i8 b5)
 (AQ f0 t1 cO bZ i8 (0:Int)))
 (some (.inr bZ))
def IK (f0:(List aB))(t1:Int)(cO:(List Int))(bZ:List Int)(i8:Int):Option ((List aB)×Int) :=
 (lp (fun s=>tA f0 t1 cO s.1 s.2) (bZ,i8)).bind (fun rr=>AE cO rr)
def xI (f0:(List aB))(t1:Int)(cO:(List Int)):Option ((List aB)×Int) :=
 IK f0 t1 cO ([]:List Int) (0:Int)
def CP (f0:(List aB))(t1:Int):Option ((List aB)×Int) :=
 (qX f0).bind fun x1 =>
 cond (!x1)
 (some ([],(2:Int)))
 ((xG f0 ([])).bind fun x5 =>
 cond ((decide ((-1:Int)<=t1))&&(decide (t1<1125899906842624)))
 ((oH x5 t1).bind fun b5 =>
 xI f0 t1 b5)
 (xI f0 t1 x5))
def CW (cO:(List Int))(bZ:List Int):Option ((List aB)×Int) :=
 (xK cO bZ).bind fun b5 =>
 some (b5.1,b5.2)
def DL (f0:(List aB))(t1:Int)(cO:(List Int))(bZ:List Int)(i8 p9:Int):Option ((List Int×Int)⊕(List Int)) :=
 (pK f0 p9).bind fun b5 =>
 aU ((bZ.length+List.length ([b5]))*8<=140737488355328/\List.length bZ+List.length ([b5])<=9223372036854775807) <|
 some (.inl (bZ++([b5]),i64.wrap (i8+1)))
def tZ (f0:(List aB))(t1:Int)(cO:(List Int))(bZ:List Int)(i8:Int):Option ((List Int×Int)⊕(List Int)) :=
 cond (decide (i8<(cO.length:Int)))
 (aU (0<=i8/\i8<(cO.length:Int)) <|
 cond ((decide ((-1:Int)<t1))&&(decide ((cO.getD i8.toNat default)<t1)))
 (DL f0 t1 cO bZ i8 (i64.wrap (t1-1)))
 (DL f0 t1 cO bZ i8 (cO.getD i8.toNat default)))
 (some (.inr bZ))
def KS (f0:(List aB))(t1:Int)(cO:(List Int))(bZ:List Int)(i8:Int):Option ((List aB)×Int) :=
 (lp (fun s=>tZ f0 t1 cO s.1 s.2) (bZ,i8)).bind (fun rr=>CW cO rr)
def FG (f0:(List aB))(t1:Int):Option ((List aB)×Int) :=
 (qX f0).bind fun x1 =>
 cond (!x1)
 (some ([],(2:Int)))
 (cond (decide (1125899906842624<=t1))
 (some ([],(0:Int)))
 ((xG f0 ([])).bind fun x6 =>
 (oH x6 (-1:Int)).bind fun x9 =>
 KS f0 t1 x9 ([]:List Int) (0:Int)))
def BE (b5:List aK):Option ((List aK)×Int) :=
 cond (decide (4096<(b5.length:Int)))
 (some ([],(7:Int)))
 (some (b5,(0:Int)))
def AW (l0:(List aK))(pN t2:Int)(b6:List aK)(oS:(List (List aF)))(i10:Int)(b7:(List aB))(b5:Int):Option ((List aK×Int)⊕((List aK)⊕((List aK)×Int))) :=
 cond (!decide (b5=0))
 (some (.inr (.inr ([],b5))))
 (aU (0<=i10/\i10<(oS.length:Int)) <|
 (DS b6 (oS.getD i10.toNat default) b7).bind fun b8 =>
 some (.inl (b8,i64.wrap (i10+1))))
def FD (l0:(List aK))(pN t2:Int)(b5:List aK)(oS:(List (List aF)))(i10:Int)(f11:(List aB))(b7:(List aB))(b8:Int):Option ((List aK×Int)⊕((List aK)⊕((List aK)×Int))) :=
 cond (decide (pN=2))
 ((FG f11 t2).bind fun b6 =>
 AW l0 pN t2 b5 oS i10 b6.1 b6.2)
 (AW l0 pN t2 b5 oS i10 b7 b8)
def vB (l0:(List aK))(pN t2:Int)(oS:(List (List aF)))(b5:List aK)(i10:Int):Option ((List aK×Int)⊕((List aK)⊕((List aK)×Int))) :=
 cond (decide (i10<(oS.length:Int)))
 (aU (0<=i10/\i10<(oS.length:Int)) <|
 (qV l0 (oS.getD i10.toNat default)).bind fun b6 =>
 (KA b6).bind fun b7 =>
 cond (decide (pN=1))
 ((CP b6 t2).bind fun b8 =>
 FD l0 pN t2 b5 oS i10 b6 b8.1 b8.2)
 (FD l0 pN t2 b5 oS i10 b6 b7.1 b7.2))
 (some (.inr (.inl b5)))
def NG (l0:(List aK))(pN t2:Int)(b5:List aK)(oS:(List (List aF)))(i10:Int):Option ((List aK)×Int) :=
 (lp (fun s=>vB l0 pN t2 oS s.1 s.2) (b5,i10)).bind (Sum.elim (fun rr=>BE rr) (fun rr=>some (rr.1,rr.2)))
def KJ (l0:(List aK))(pN t2:Int):Option ((List aK)×Int) :=
 (tK l0).bind fun x1 =>
 cond (!x1)
 (some ([],(2:Int)))
 ((tN l0).bind fun x5 =>
 NG l0 pN t2 ([]:List aK) x5 (0:Int))
def sZ (b0:cJ)(t1:Int):Option (Int×cJ) :=
 cond (decide (t1<=b0.Mark))
 (some ((0:Int),b0))
 ((KJ b0.Table (2:Int) t1).bind fun x2 =>
 cond (!decide (x2.2=0))
 (some (x2.2,b0))
 (some ((0:Int),cJ.mk (cJ.mk x2.1 b0.Mark).Table t1)))
def vD (b0:cJ)(n3:Int):Option Int :=
 some n3
def vF (b0:cJ)(n3 i4:Int):Option ((Int×Int)⊕(Int)) :=
 some (.inl (n3,i64.wrap (i4+1)))
def vC (b0:cJ)(n3 i4:Int):Option ((Int×Int)⊕(Int)) :=
 cond (decide (i4<((List.length b0.Table:Nat):Int)))
 (aU (0<=i4/\i4<((List.length b0.Table:Nat):Int)) <|
 cond (decide (0<((List.getD b0.Table i4.toNat default).Net)))
 (aU (0<=i4/\i4<((List.length b0.Table:Nat):Int)) <|
 vF b0 (i64.wrap (n3+((List.getD b0.Table i4.toNat default).Net))) i4)
 (vF b0 n3 i4))
 (some (.inr n3))
def zB (b0:cJ)(n3 i4:Int):Option Int :=
 (lp (fun s=>vC b0 s.1 s.2) (n3,i4)).bind (fun rr=>vD b0 rr)
def wL (b0:cJ):Option Int :=
 zB b0 (0:Int) (0:Int)
def AH (f0:(List aB)):Option Bool :=
 (rH f0).bind fun x1 =>
 (cR x1 (BG f0)).bind fun x4 =>
 some (x1&&(decide (0<=x4)))
def FO (l0:(List aK)):Option Bool :=
 (DX l0 (fun y0=>AH y0)).bind fun x1 =>
 some x1
def GG (n3:Int):Option Int :=
 some n3
def uY (t6:(List aB))(t7 n3 t8:Int):Option ((Int×Int)⊕(Int)) :=
 cond (decide (t8<t7))
 (aU (0<=t8/\t8<(t6.length:Int)) <|
 some (.inl (i64.wrap (n3+(if 0>((t6.getD t8.toNat default).Net) then (0:Int) else ((t6.getD t8.toNat default).Net))),i64.wrap (t8+1))))
 (some (.inr n3))
def OU (n3:Int)(t6:(List aB))(t7 t8:Int):Option Int :=
 (lp (fun s=>uY t6 t7 s.1 s.2) (n3,t8)).bind (fun rr=>GG rr)
def zS (f0:(List aB)):Option Int :=
 OU (0:Int) f0 (f0.length:Int) (0:Int)
def sY (t0:Int)(t1:(List bE))(t2:Int):Option ((List bE)×Int) :=
 aU (0<=t2/\t2<(t1.length:Int)) <|
 some (t1.set t2.toNat (bE.mk (t1.getD t2.toNat default).From t0),i64.wrap (t2+1))
def LM (b5:List bE):Option (List bE) :=
 some b5
def sJ  (b5:List bE)(dS:Int):Option ((List bE×Int)⊕(List bE)) :=
 cond (decide (dS<(b5.length:Int)))
 ((sY (1125899906842624:Int) b5 dS).bind fun b6 =>
 some (.inl (b6.1,b6.2)))
 (some (.inr b5))
def LO (b5:List bE)(dS:Int):Option (List bE) :=
 (lp (fun s=>sJ s.1 s.2) (b5,dS)).bind (fun rr=>LM rr)
def DB (b5:List bE)(dS:Int):Option (List bE) :=
 LO b5 dS
def DE (b5:List bE)(dS:Int)(t12:(List aB))(t13 t14:Int):Option ((List bE×Int×Int)⊕(List bE×Int)) :=
 some (.inl (b5,dS,i64.wrap (t14+1)))
def sG (t12:(List aB))(t13 t14 t31:Int)(b5:List bE)(dS:Int)(j7:aB)(t32:Int):Option ((List bE×Int×aB×Int)⊕(List bE×Int)) :=
 cond (decide (t32<t31))
 ((sY j7.At b5 dS).bind fun b6 =>
 some (.inl (b6.1,b6.2,j7,i64.wrap (t32+1))))
 (some (.inr (b5,dS)))
def LJ (b5:List bE)(dS:Int)(j7:aB)(t12:(List aB))(t13 t14:Int)(t31 t32:Int):Option ((List bE×Int×Int)⊕(List bE×Int)) :=
 (lp (fun s=>sG t12 t13 t14 t31 s.1 s.2.1 s.2.2.1 s.2.2.2) (b5,dS,j7,t32)).bind (fun rr=>DE rr.1 rr.2 t12 t13 t14)
def DK (b5:List bE)(dS:Int)(j7:aB)(t12:(List aB))(t13 t14:Int):Option ((List bE×Int×Int)⊕(List bE×Int)) :=
 LJ b5 dS j7 t12 t13 t14 (i64.wrap (0-j7.Net)) (0:Int)
def sI (t12:(List aB))(t13 t14 t19:Int)(b5:List bE)(dS:Int)(j7:aB)(t20:Int):Option ((List bE×Int×aB×Int)⊕(List bE×Int×aB)) :=
 cond (decide (t20<t19))
 (aU ((b5.length+List.length ([bE.mk j7.At 0]))*16<=140737488355328/\List.length b5+List.length ([bE.mk j7.At 0])<=9223372036854775807) <|
 some (.inl (b5++([bE.mk j7.At 0]),dS,j7,i64.wrap (t20+1))))
 (some (.inr (b5,dS,j7)))
def LN (b5:List bE)(dS:Int)(j7:aB)(t12:(List aB))(t13 t14:Int)(t19 t20:Int):Option ((List bE×Int×Int)⊕(List bE×Int)) :=
 (lp (fun s=>sI t12 t13 t14 t19 s.1 s.2.1 s.2.2.1 s.2.2.2) (b5,dS,j7,t20)).bind (fun rr=>DK rr.1 rr.2.1 rr.2.2 t12 t13 t14)
def uB (t12:(List aB))(t13:Int)(b5:List bE)(dS t14:Int):Option ((List bE×Int×Int)⊕(List bE×Int)) :=
 cond (decide (t14<t13))
 (aU (0<=t14/\t14<(t12.length:Int)) <|
 LN b5 dS (t12.getD t14.toNat default) t12 t13 t14 ((t12.getD t14.toNat default).Net) (0:Int))
 (some (.inr (b5,dS)))
def KY (b5:List bE)(dS:Int)(t12:(List aB))(t13 t14:Int):Option (List bE) :=
 (lp (fun s=>uB t12 t13 s.1 s.2.1 s.2.2) (b5,dS,t14)).bind (fun rr=>DB rr.1 rr.2)
def FI (f0:(List aB)):Option (List bE) :=
 (zS f0).bind fun x1 =>
 aU (0<=x1/\16*x1<=281474976710656/\x1<=9223372036854775807) <|
 KY ([]:List bE) (0:Int) f0 (f0.length:Int) (0:Int)
def uL (l0:(List aK))(GX:(List aK))(n4:Int)(t22:(List aF))(t23:(List aB)):Option ((Int)⊕(Int)) :=
 (zS t23).bind fun b5 =>
 some (.inl (i64.wrap (n4+b5)))
def sX (r8:(List aF))(t37:(List bE))(t38:Int)(b5:List bF)(t39:Int):Option ((List bF×Int)⊕(List bF)) :=
 cond (decide (t39<t38))
 (aU (0<=t39/\t39<(t37.length:Int)) <|
 (BZ r8).bind fun b6 =>
 aU ((b5.length+List.length ([bF.mk b6 (t37.getD t39.toNat default)]))*40<=140737488355328/\List.length b5+List.length ([bF.mk b6 (t37.getD t39.toNat default)])<=9223372036854775807) <|
 some (.inl (b5++([bF.mk b6 (t37.getD t39.toNat default)]),i64.wrap (t39+1))))
 (some (.inr b5))
def AG (b5:List bF)(r8:(List aF))(t37:(List bE))(t38 t39:Int):Option ((List bF)⊕(List bF)) :=
 (lp (fun s=>sX r8 t37 t38 s.1 s.2) (b5,t39)).bind (fun rr=>some (.inl rr))
def uQ (HZ:(List aK))(b6:List bF)(t34:(List aF))(t35:(List aB)):Option ((List bF)⊕(List bF)) :=
 (FI t35).bind fun b5 =>
 AG b6 t34 b5 (b5.length:Int) (0:Int)
def AJ (b5:List bF)(HZ:(List aK)):Option ((List bF)×Int) :=
 (rM (fun st t34 t35=>rnd (fun (s:List bF)=>uQ HZ s t34 t35) st) HZ (.inl b5)).bind (Sum.elim (fun (s:List bF) =>
 (some (s,(0:Int))))
 (fun (s:List bF) =>
 (none)))
def HE (l0:(List aK))(n4:Int)(GX:(List aK)):Option ((List bF)×Int) :=
 (rM (fun st t22 t23=>rnd (fun (s:Int)=>uL l0 GX s t22 t23) st) GX (.inl n4)).bind (Sum.elim (fun (s:Int) =>
 (cond (decide (4096<s))
 (some ([],(7:Int)))
 (aU (0<=s/\40*s<=281474976710656/\s<=9223372036854775807) <|
 (tU l0).bind fun b5 =>
 AJ ([]:List bF) b5)))
 (fun (s:Int) =>
 (none)))
def CT (l0:(List aK)):Option ((List bF)×Int) :=
 (BS l0).bind fun x1 =>
 cond (!x1)
 (some ([],(2:Int)))
 ((FO l0).bind fun x5 =>
 cond (!x5)
 (some ([],(20:Int)))
 ((tU l0).bind fun b5 =>
 HE l0 (0:Int) b5))
def OA (b:cE):Option (List bF×Int):=(zZ b).bind fun l=>(CT l).bind fun x=>some (x.1,x.2)
def HJ (kL:List bE):Option ((List bE)×Int) :=
 some (kL,(0:Int))
def xF (bJ cA:List Int)(kL:List bE)(i12:Int)(b5:bE):Option ((List Int×List Int×List bE×Int)⊕(List bE)) :=
 aU ((kL.length+List.length ([b5]))*16<=140737488355328/\List.length kL+List.length ([b5])<=9223372036854775807) <|
 some (.inl (bJ,cA,kL++([b5]),i64.wrap (i12+1)))
def pQ  (bJ cA:List Int)(kL:List bE)(i12:Int):Option ((List Int×List Int×List bE×Int)⊕(List bE)) :=
 cond (decide (i12<(bJ.length:Int)))
 (aU (0<=i12/\i12<(bJ.length:Int)) <|
 cond (decide (i12<(cA.length:Int)))
 (aU (0<=i12/\i12<(cA.length:Int)) <|
 xF bJ cA kL i12 (bE.mk (bE.mk (bJ.getD i12.toNat default) (1125899906842624:Int)).From (cA.getD i12.toNat default)))
 (xF bJ cA kL i12 (bE.mk (bJ.getD i12.toNat default) (1125899906842624:Int))))
 (some (.inr kL))
def BD (bJ cA:List Int)(kL:List bE)(i12:Int):Option ((List bE)×Int) :=
 (lp (fun s=>pQ s.1 s.2.1 s.2.2.1 s.2.2.2) (bJ,cA,kL,i12)).bind (fun rr=>HJ rr)
def AY (bJ cA:List Int):Option ((List bE)×Int) :=
 BD bJ cA ([]:List bE) (0:Int)
def BB (f0:(List aB))(bJ cA:List Int)(i8:Int):Option ((List Int×List Int×Int)⊕(List Int×List Int)) :=
 some (.inl (bJ,cA,i64.wrap (i8+1)))
def sO (f0:(List aB))(i8:Int)(bJ cA:List Int)(b5:Int):Option ((List Int×List Int×Int)⊕(List Int×List Int)) :=
 aU (0<=i8/\i8<(f0.length:Int)) <|
 cond (decide (b5<(i64.wrap (0-((f0.getD i8.toNat default).Net)))))
 (aU (0<=i8/\i8<(f0.length:Int)) <|
 aU ((cA.length+List.length ([(f0.getD i8.toNat default).At]))*8<=140737488355328/\List.length cA+List.length ([(f0.getD i8.toNat default).At])<=9223372036854775807) <|
 some (.inl (bJ,cA++([(f0.getD i8.toNat default).At]),i64.wrap (b5+1))))
 (some (.inr (bJ,cA)))
def GW (f0:(List aB))(bJ cA:List Int)(i8 b5:Int):Option ((List Int×List Int×Int)⊕(List Int×List Int)) :=
 (lp (fun s=>sO f0 i8 s.1 s.2.1 s.2.2) (bJ,cA,b5)).bind (fun rr=>BB f0 rr.1 rr.2 i8)
def AN (f0:(List aB))(bJ cA:List Int)(i8:Int):Option ((List Int×List Int×Int)⊕(List Int×List Int)) :=
 GW f0 bJ cA i8 (0:Int)
def rV (f0:(List aB))(i8:Int)(bJ cA:List Int)(k9:Int):Option ((List Int×List Int×Int)⊕(List Int×List Int)) :=
 aU (0<=i8/\i8<(f0.length:Int)) <|
 cond (decide (k9<((f0.getD i8.toNat default).Net)))
 (aU (0<=i8/\i8<(f0.length:Int)) <|
 aU ((bJ.length+List.length ([(f0.getD i8.toNat default).At]))*8<=140737488355328/\List.length bJ+List.length ([(f0.getD i8.toNat default).At])<=9223372036854775807) <|
 some (.inl (bJ++([(f0.getD i8.toNat default).At]),cA,i64.wrap (k9+1))))
 (some (.inr (bJ,cA)))
def EO (f0:(List aB))(bJ cA:List Int)(i8 k9:Int):Option ((List Int×List Int×Int)⊕(List Int×List Int)) :=
 (lp (fun s=>rV f0 i8 s.1 s.2.1 s.2.2) (bJ,cA,k9)).bind (fun rr=>AN f0 rr.1 rr.2 i8)
def sP (f0:(List aB))(bJ cA:List Int)(i8:Int):Option ((List Int×List Int×Int)⊕(List Int×List Int)) :=
 cond (decide (i8<(f0.length:Int)))
 (EO f0 bJ cA i8 (0:Int))
 (some (.inr (bJ,cA)))
def AZ (f0:(List aB))(bJ cA:List Int)(i8:Int):Option ((List bE)×Int) :=
 (lp (fun s=>sP f0 s.1 s.2.1 s.2.2) (bJ,cA,i8)).bind (fun rr=>AY rr.1 rr.2)
def xD (f0:(List aB))(bJ cA:List Int)(n6:Int):Option ((List bE)×Int) :=
 cond (decide (4096<n6))
 (some ([],(7:Int)))
 (AZ f0 bJ cA (0:Int))
def vW (f0:(List aB))(bJ cA:List Int)(n6 i7:Int):Option ((List Int×List Int×Int×Int)⊕(List Int×List Int×Int)) :=
 some (.inl (bJ,cA,n6,i64.wrap (i7+1)))
def rT (f0:(List aB))(bJ cA:List Int)(n6 i7:Int):Option ((List Int×List Int×Int×Int)⊕(List Int×List Int×Int)) :=
 cond (decide (i7<(f0.length:Int)))
 (aU (0<=i7/\i7<(f0.length:Int)) <|
 cond (decide (0<((f0.getD i7.toNat default).Net)))
 (aU (0<=i7/\i7<(f0.length:Int)) <|
 vW f0 bJ cA (i64.wrap (n6+((f0.getD i7.toNat default).Net))) i7)
 (vW f0 bJ cA n6 i7))
 (some (.inr (bJ,cA,n6)))
def zD (f0:(List aB))(bJ cA:List Int)(n6 i7:Int):Option ((List bE)×Int) :=
 (lp (fun s=>rT f0 s.1 s.2.1 s.2.2.1 s.2.2.2) (bJ,cA,n6,i7)).bind (fun rr=>xD f0 rr.1 rr.2.1 rr.2.2)
def CI (f0:(List aB)):Option ((List bE)×Int) :=
 (qX f0).bind fun x1 =>
 cond (!x1)
 (some ([],(2:Int)))
 ((yF f0).bind fun x5 =>
 cond (decide (x5<0))
 (some ([],(20:Int)))
 (zD f0 ([]:List Int) ([]:List Int) (0:Int) (0:Int)))
def yY (b5:List bF):Option ((List bF)×Int) :=
 some (b5,(0:Int))
def ET (l0:(List aK))(b5:List bF)(eH:(List (List aF)))(i6:Int):Option ((List bF×Int)⊕((List bF)⊕((List bF)×Int))) :=
 some (.inl (b5,i64.wrap (i6+1)))
def vN (l0:(List aK))(b5:List bF)(eH:(List (List aF)))(i6:Int):Option ((List bF×Int)⊕((List bF)⊕((List bF)×Int))) :=
 cond (decide (4096<(b5.length:Int)))
 (some (.inr (.inr ([],(7:Int)))))
 (ET l0 b5 eH i6)
def rW (l0:(List aK))(eH:(List (List aF)))(i6:Int)(s7:(List bE))(b5:List bF)(k9:Int):Option ((List bF×Int)⊕(List bF)) :=
 cond (decide (k9<(s7.length:Int)))
 (aU (0<=i6/\i6<(eH.length:Int)) <|
 aU (List.length (eH.getD i6.toNat default)*32<=140737488355328/\List.length (eH.getD i6.toNat default)<=9223372036854775807) <|
 aU (0<=k9/\k9<(s7.length:Int)) <|
 aU ((b5.length+List.length ([bF.mk (eH.getD i6.toNat default) (s7.getD k9.toNat default)]))*40<=140737488355328/\List.length b5+List.length ([bF.mk (eH.getD i6.toNat default) (s7.getD k9.toNat default)])<=9223372036854775807) <|
 some (.inl (b5++([bF.mk (eH.getD i6.toNat default) (s7.getD k9.toNat default)]),i64.wrap (k9+1))))
 (some (.inr b5))
def yW (l0:(List aK))(b5:List bF)(eH:(List (List aF)))(i6:Int)(s7:(List bE))(k9:Int):Option ((List bF×Int)⊕((List bF)⊕((List bF)×Int))) :=
 (lp (fun s=>rW l0 eH i6 s7 s.1 s.2) (b5,k9)).bind (fun rr=>vN l0 rr eH i6)
def qA (l0:(List aK))(eH:(List (List aF)))(b5:List bF)(i6:Int):Option ((List bF×Int)⊕((List bF)⊕((List bF)×Int))) :=
 cond (decide (i6<(eH.length:Int)))
 (aU (0<=i6/\i6<(eH.length:Int)) <|
 (qV l0 (eH.getD i6.toNat default)).bind fun b7 =>
 (CI b7).bind fun b6 =>
 cond (!decide (b6.2=0))
 (some (.inr (.inr ([],b6.2))))
 (yW l0 b5 eH i6 b6.1 (0:Int)))
 (some (.inr (.inl b5)))
def EN (l0:(List aK))(b5:List bF)(eH:(List (List aF)))(i6:Int):Option ((List bF)×Int) :=
 (lp (fun s=>qA l0 eH s.1 s.2) (b5,i6)).bind (Sum.elim (fun rr=>yY rr) (fun rr=>some (rr.1,rr.2)))
def AF (l0:(List aK)):Option ((List bF)×Int) :=
 (tK l0).bind fun x1 =>
 cond (!x1)
 (some ([],(2:Int)))
 ((yK l0).bind fun x5 =>
 cond (!x5)
 (some ([],(20:Int)))
 ((tN l0).bind fun x9 =>
 EN l0 ([]:List bF) x9 (0:Int)))
def CK  : Option Bool :=
 some true
def yP (a0:(List bF))(b1:(List bF))(i5:Int):Option ((Int)⊕(Unit⊕Bool)) :=
 cond (decide (i5<(a0.length:Int)))
 (aU (0<=i5/\i5<(a0.length:Int)) <|
 aU (0<=i5/\i5<(b1.length:Int)) <|
 aU ((!(!((decide ((((a0.getD i5.toNat default).Span).From)=(((b1.getD i5.toNat default).Span).From)))&&((decide ((((a0.getD i5.toNat default).Span).To)=(((b1.getD i5.toNat default).Span).To)))&&true))))=true->0<=i5/\i5<(a0.length:Int)) <|
 aU ((!(!((decide ((((a0.getD i5.toNat default).Span).From)=(((b1.getD i5.toNat default).Span).From)))&&((decide ((((a0.getD i5.toNat default).Span).To)=(((b1.getD i5.toNat default).Span).To)))&&true))))=true->0<=i5/\i5<(b1.length:Int)) <|
 (cR (!(!((decide ((((a0.getD i5.toNat default).Span).From)=(((b1.getD i5.toNat default).Span).From)))&&((decide ((((a0.getD i5.toNat default).Span).To)=(((b1.getD i5.toNat default).Span).To)))&&true)))) (uZ ((a0.getD i5.toNat default).Row) ((b1.getD i5.toNat default).Row))).bind fun x7 =>
 cond ((!((decide ((((a0.getD i5.toNat default).Span).From)=(((b1.getD i5.toNat default).Span).From)))&&((decide ((((a0.getD i5.toNat default).Span).To)=(((b1.getD i5.toNat default).Span).To)))&&true)))||(!x7))
 (some (.inr (.inr false)))
 (some (.inl (i64.wrap (i5+1)))))
 (some (.inr (.inl ())))
def KU (a0:(List bF))(b1:(List bF))(i5:Int):Option Bool :=
 (lp (fun s=>yP a0 b1 s) i5).bind (Sum.elim (fun rr=>CK ) (fun rr=>some rr))
def GJ (a0:(List bF))(b1:(List bF)):Option Bool :=
 cond (!decide ((a0.length:Int)=(b1.length:Int)))
 (some false)
 (KU a0 b1 (0:Int))
def JQ (b:cE)(q:List aF):Option (List aB) :=
 (xB q).bind fun m =>
 cond (!m) (some [])
 ((EZ q).bind fun k=>gO (kC b.cells k))
def CL  : Option Bool :=
 some true
def qW (f0:(List aB))(g1:(List aB))(i5:Int):Option ((Int)⊕(Unit⊕Bool)) :=
 cond (decide (i5<(f0.length:Int)))
 (aU (0<=i5/\i5<(f0.length:Int)) <|
 aU (0<=i5/\i5<(g1.length:Int)) <|
 cond (!((decide (((f0.getD i5.toNat default).At)=((g1.getD i5.toNat default).At)))&&((decide (((f0.getD i5.toNat default).Net)=((g1.getD i5.toNat default).Net)))&&true)))
 (some (.inr (.inr false)))
 (some (.inl (i64.wrap (i5+1)))))
 (some (.inr (.inl ())))
def KP (f0:(List aB))(g1:(List aB))(i5:Int):Option Bool :=
 (lp (fun s=>qW f0 g1 s) i5).bind (Sum.elim (fun rr=>CL ) (fun rr=>some rr))
def FW (f0:(List aB))(g1:(List aB)):Option Bool :=
 cond (!decide ((f0.length:Int)=(g1.length:Int)))
 (some false)
 (KP f0 g1 (0:Int))
def uK (r1:(List aF))(b5:cE)(p8:(List bF))(e9:Int)(b8:(List bF))(f11:Int)(UW:(List aB)):Option Bool :=
 (AT ).bind fun b6 =>
 (cR (b6&&(decide (e9=f11))) (GJ p8 b8)).bind fun b7 =>
 (cond ((b6&&(decide (e9=f11)))&&b7) (JQ b5 r1) (some ([]))).bind fun b9 =>
 (cR ((b6&&(decide (e9=f11)))&&b7) (FW b9 UW)).bind fun c4 =>
 some (((b6&&(decide (e9=f11)))&&b7)&&c4)
def xR (r1:(List aF))(b5:cE)(c6:cJ):Option Bool :=
 (OA b5).bind fun b6 =>
 (AF c6.Table).bind fun b7 =>
 (uV r1).bind fun b8 =>
 cond b8
 ((qV c6.Table r1).bind fun b9 =>
 uK r1 b5 b6.1 b6.2 b7.1 b7.2 b9)
 (uK r1 b5 b6.1 b6.2 b7.1 b7.2 ([]))
def uI (l0:(List oM))(r1:(List aF))(b5:cE)(c6:cJ)(i7:Int):Option ((cE×cJ×Int)⊕((cE×cJ)⊕Bool)) :=
 (GZ b5).bind fun b6 =>
 (cR (!(!decide (b6=c6.Mark))) (DV b5)).bind fun b7 =>
 (cR (!(!decide (b6=c6.Mark))) (wL c6)).bind fun b8 =>
 (cR (!((!decide (b6=c6.Mark))||(!decide (b7=b8)))) (zZ b5)).bind fun b9 =>
 (cR (!((!decide (b6=c6.Mark))||(!decide (b7=b8)))) (AX b9 c6.Table)).bind fun c4 =>
 cond (((!decide (b6=c6.Mark))||(!decide (b7=b8)))||(!c4))
 (some (.inr (.inr false)))
 (some (.inl (b5,c6,i64.wrap (i7+1))))
def sM (l0:(List oM))(r1:(List aF))(b5:cE)(c6:cJ)(i7:Int):Option ((cE×cJ×Int)⊕((cE×cJ)⊕Bool)) :=
 cond (decide (i7<(l0.length:Int)))
 (aU (0<=i7/\i7<(l0.length:Int)) <|
 cond (decide (((l0.getD i7.toNat default).Kind)=0))
 (aU (0<=i7/\i7<(l0.length:Int)) <|
 (BI b5 ((l0.getD i7.toNat default).Edges)).bind fun b6 =>
 aU (0<=i7/\i7<(l0.length:Int)) <|
 (vS c6 ((l0.getD i7.toNat default).Edges)).bind fun b7 =>
 cond (!decide (b6.1=b7.1))
 (some (.inr (.inr false)))
 (uI l0 r1 b6.2 b7.2 i7))
 (aU (0<=i7/\i7<(l0.length:Int)) <|
 (oK b5 ((l0.getD i7.toNat default).At)).bind fun b8 =>
 aU (0<=i7/\i7<(l0.length:Int)) <|
 (sZ c6 ((l0.getD i7.toNat default).At)).bind fun b9 =>
 cond (!decide (b8.1=b9.1))
 (some (.inr (.inr false)))
 (uI l0 r1 b8.2 b9.2 i7)))
 (some (.inr (.inl (b5,c6))))
def BV (l0:(List oM))(r1:(List aF))(b5:cE)(c6:cJ)(i7:Int):Option Bool :=
 (lp (fun s=>sM l0 r1 s.1 s.2.1 s.2.2) (b5,c6,i7)).bind (Sum.elim (fun rr=>xR r1 rr.1 rr.2) (fun rr=>some rr))
def EU (l0:(List oM))(r1:(List aF)):Option Bool :=
 (DF l0).bind fun x1 =>
 cond (!x1)
 ((AT ).bind fun x5 =>
 some x5)
 ((MT).bind fun x8 =>
 (QO ).bind fun b5 =>
 BV l0 r1 x8 b5 (0:Int))
def GC (x:aF):Prop:=sE x.Kind/\sE x.Num/\(fun s=>s.size<=maxLen) x.Text/\True
def DT (x:aK):Prop:=(fun l=>(∀ a∈l,GC a)/\l.length*32<=140737488351232) x.Row/\sE x.At/\sE x.Net/\True
def QL (x:oM):Prop:=sE x.Kind/\(fun l=>(∀ a∈l,DT a)/\l.length*40<=140737488351232) x.Edges/\sE x.At/\True
open Go.Proofs
def tt:TT:=⟨aIE Tryz.prog,aFD Tryz.prog⟩
theorem aG:jO Tryz.prog tt:=jO.of Tryz.prog
theorem aEV (l0:(List oM))(r:Bool)(h0:DF l0=some r):cW Tryz.prog 4 [eL kN l0] (aL r):=by
 intro H0;have hO:=aN.start H0;unfold DF at h0;refine cX Tryz.func4 (aY aG 1 [] [] (aY aG 3 [] [(3,eI (lN l0))] (dH (fun T H=>∃ n3:Int,Has T [(3,eI n3)]/\aN ⟨H0,[],[]⟩ H []/\HO n3=some r) ?_ ?_)))
 ·rintro T H ⟨n3,hT,hO,h0⟩;unfold HO at h0;obtain rfl:=oI h0;exact bB hT (bW aG 3 [(2,aL (decide (n3<=60)))] (bK (aJ (Q_r hO))))
 refine aY aG 1 [] [(4,eI 0)] (bS 0 (eA [(0,eL kN l0),(3,eI (lN l0)),(4,eI 0)] (dJ (fun T H=>∃ n3 i4:Int,Has T [(0,eL kN l0),(3,eI n3),(4,eI i4)]/\aN ⟨H0,[],[]⟩ H []/\GV l0 n3 i4=some r) ?_ ⟨lN l0,(0:Int),aV,hO,h0⟩)));rintro T H ⟨n3,i4,hT,hO,h0⟩;unfold GV at h0;obtain⟨b6,b7,h0⟩:=aW h0;refine bB hT (eE (fun (s:Int×Int) T H=>Has T [(0,eL kN l0),(3,eI s.1),(4,eI s.2)]/\aN ⟨H0,[],[]⟩ H []) b7 ⟨aV,hO⟩ ?_);rintro k0 s b5 T H ⟨hT,hO⟩ h1 b8;obtain⟨n3,i4⟩:=s;replace h1:uM l0 n3 i4=some b5:=h1
 try dsimp only at hT
 unfold uM at h1;refine bB hT (aO (aY aG 8 [] [(14,aL ((decide (i4<(lN l0)))&&(decide (n3<=60))))] (bI h1 (fun h1=>?_) (fun h1=>?_))))
 ·obtain⟨c2,h1⟩:=aZ h1;exact bG (bD [(0,eL kN l0),(3,eI n3),(4,eI i4)] (aO (bS 1 (aS aG 10 (nI [0<=i4/\i4<(lN l0)] ⟨c2,trivial⟩ (cN [(0,eL kN l0),(3,eI (wR (n3+(if 61<(lN ((gD l0 i4).Edges)) then (61:Int) else (lN ((gD l0 i4).Edges)))))),(4,eI i4)] (aJ (aX (aH (aS aG 3 (bC (aJ (aH (⟨rfl,_,(oI h1).symm,aV,hO⟩))))))))))))))
 obtain rfl:=oI h1;obtain rfl:_=b6:=b8;replace h0:HO n3=some r:=h0;exact dV 0 (aJ (aT (aT (bN (aH (⟨rfl,_,aV,hO,h0⟩))))))
theorem aEz (r:cE)(h0:MT=some r):vO Tryz.prog 6 [] [] [] (fun x M L=>∃ lo lm,x=.lp lo 0 0/\M=[eZ lm r]/\L=[mX lo lm r]):=by
 intro F H0 hO;obtain⟨Fh,Fe,Fg⟩:=F;unfold MT at h0;obtain rfl:=oI h0;exact cX Tryz.func6 (aY aG 1 [] [] (aO (aS aG 4 (aHm (β:=aD) aC (t:=58) hO (fun lm H hO=>bM 2 (nF 3 (.agg [.mp lm,eI 0,eI (-1)]) (by kernel_rfl) (by kernel_rfl) hO (fun lo H hO=>bC (bD [(0,.lp lo 0 0)] (bK (aJ (UX (M:=[eZ lm ⟨[],0,-1⟩]) hO ⟨lo,lm,rfl,rfl,rfl⟩)))))))))))
theorem aBP (l0:(List aK))(r:(List aK))(h0:DN l0=some r):cW Tryz.prog 52 [eL aM l0] (.fn (.func 81) [] [.rp (eL aM r)]):=by
 intro H0;have hO:=aN.start H0;unfold DN at h0;obtain rfl:=oI h0;exact cX Tryz.func52 (aO (aS aG 2 (AU 1 (eL aM l0) (bC (bD [(1,.rp (eL aM l0))] (bW aG 2 [(2,.fn (.func 81) [] [.rp (eL aM l0)])] (bK (aJ (oO (x:=(.fn (.func 81) [] [.rp (eL aM l0)])) (by kernel_rfl) (sR) ⟨rfl,hO.out⟩)))))))))
theorem MA (b5:(List aF))(b6:(List aF))(r:Bool)(h0:oY b5 b6=some r):cW Tryz.prog 106 [eL aI b5,eL aI b6] (aL r):=by
 intro H0;have hO:=aN.start H0;unfold oY at h0;refine cX Tryz.func106 (aY aG 1 [] [] (aO (aY aG 5 [] [(10,aL (!decide ((lN b5)=(lN b6))))] (bI h0 (fun h0=>?_) (fun h0=>?_)))))
 ·obtain rfl:=oI h0;exact bW aG 1 [(4,aL false)] (bK (aJ (aR (Q_r hO))))
 refine bG (bD [(0,eL aI b5),(1,eL aI b6)] (dH (fun T H=>Has T []/\aN ⟨H0,[],[]⟩ H []/\mF  = some r) ?_ ?_))
 ·rintro T H ⟨hT,hO,h0⟩;unfold mF at h0;obtain rfl:=oI h0;exact bB hT (bW aG 1 [(4,aL true)] (bK (aJ (Q_r hO))))
 refine aY aG 3 [] [(12,eI (lN b5)),(13,eI 0)] (bS 0 (eA [(0,eL aI b5),(1,eL aI b6),(12,eI (lN b5)),(13,eI 0)] (dJ (fun T H=>∃ t12 t13:Int,Has T [(0,eL aI b5),(1,eL aI b6),(12,eI t12),(13,eI t13)]/\aN ⟨H0,[],[]⟩ H []/\oQ b5 b6 t12 t13=some r) ?_ ⟨lN b5,(0:Int),aV,hO,h0⟩)));rintro T H ⟨t12,t13,hT,hO,h0⟩;unfold oQ at h0;obtain⟨b7,c5,h0⟩:=aW h0;refine bB hT (eE (fun (s:Int) T H=>Has T [(0,eL aI b5),(1,eL aI b6),(12,eI t12),(13,eI s)]/\aN ⟨H0,[],[]⟩ H []) c5 ⟨aV,hO⟩ ?_);rintro k0 s b9 T H ⟨hT,hO⟩ h1 b8;obtain⟨t13,rfl⟩:∃ x,x=s:=⟨_,rfl⟩;replace h1:jG b5 b6 t12 t13=some b9:=h1;unfold jG at h1;refine bB hT (aY aG 1 [] [(14,aL (decide (t13<t12)))] (aO (bI h1 (fun h1=>?_) (fun h1=>?_))))
 ·obtain⟨c3,h1⟩:=aZ h1;obtain⟨c4,h1⟩:=aZ h1;refine bG (bD [(0,eL aI b5),(1,eL aI b6),(12,eI t12),(13,eI t13)] (aO (bS 1 (aY aG 2 [] [(5,eI t13)] (aO (fF (fC [19,23]) aG 9 (LL (Ds:=[0<=t13/\t13<(lN b5),0<=t13/\t13<(lN b6)]) (by kernel_rfl) ⟨c3,c4,trivial⟩ (bT [5] [(24,aL (!((decide (((gD b5 t13).Kind)=((gD b6 t13).Kind)))&&((decide (((gD b5 t13).Num)=((gD b6 t13).Num)))&&((uU ((gD b5 t13).Text) ((gD b6 t13).Text))&&true)))))] (bI h1 (fun h1=>?_) (fun h1=>?_))))))))))
  ·obtain rfl:=oI h1;obtain rfl:_=b7:=b8;replace h0:some false=some r:=h0;obtain rfl:=oI h0;exact bW aG 1 [(4,aL false)] (bK (aJ (bH (aR (aR (bH (aR (Q_r hO))))))))
  exact bG (cN [(0,eL aI b5),(1,eL aI b6),(12,eI t12),(13,eI t13)] (aJ (aX (aH (aS aG 2 (bC (aJ (aH (⟨rfl,_,(oI h1).symm,aV,hO⟩)))))))))
 obtain rfl:=oI h1;obtain rfl:_=b7:=b8;replace h0:mF  = some r:=h0;exact dV 0 (aJ (aT (aT (bN (aH (⟨rfl,aV,hO,h0⟩))))))
theorem aIF (a0:(List aF))(b1:(List aF))(r:Bool)(h0:NR a0 b1=some r):cW Tryz.prog 82 [eL aI a0,eL aI b1] (aL r):=by
 intro H0;have hO:=aN.start H0;unfold NR at h0;obtain⟨x1,b5,h0⟩:=aW h0;obtain rfl:=oI h0;exact cX Tryz.func82 (aY aG 1 [] [] (aO (aS aG 4 (bM 2 (cU (MA a0 b1 _ b5) hO (fun H hO=>bC (bD [(4,aL x1)] (bK (aJ (Q_r hO))))))))))
theorem ZS (r0:(List aF))(r:(List aF))(h0:BZ r0=some r):cW Tryz.prog 76 [eL aI r0] (eL aI r):=by
 intro H0;have hO:=aN.start H0;unfold BZ at h0;obtain⟨c1,h0⟩:=aZ h0;obtain⟨c4,h0⟩:=aZ h0;refine cX Tryz.func76 (aY aG 1 [] [] (aO (aS aG 6 (bM 2 (aBe 3 32 (lN r0) (by kernel_rfl) (by kernel_rfl) c1 hO (fun b6 H hO=>bM 4 (wD aI ([]:List aF) r0 0 b6 3 32 (eL aI r0) (fun b5=>[(b5,3,List.map aI (([]:List aF)++r0))]) hO (AP (fun _=>by kernel_rfl)) c4 (fun b5 H hO=>bC (bD [(2,.msl 3 b5 0 (List.length (([]:List aF)++r0)))] (bK (cN [(2,.msl 3 b5 0 (List.length (([]:List aF)++r0)))] (nL (en:=aI) (([]:List aF)++r0) 0 0 2 3 b5 (List.length (([]:List aF)++r0)) hO (by kernel_rfl) (by kernel_rfl) (by kernel_rfl) (L':=[]) (by kernel_rfl) ?_))))))))))));obtain rfl:=oI h0;intro H5 hO;exact aJ (Q_r hO)
theorem WN {σ:Type}(I:σ->Gs->Prop)(b5:Nat)(mB:σ->(List aF)->(List aB)->Option (σ×Bool))(b9:∀ st a0 a1 c7 r,mB st a0 a1=some (c7,r)->SQ Tryz.prog (yv b5) I st [eL aI a0,eL aE a1] c7 (aL r))(t1:(List aK))(c5:σ)(r:σ)(h0:vP mB t1 c5=some r):BP Tryz.prog 81 I c5 [yv b5,.rp (eL aM t1)] r (.tup []):=by
 intro H0 G0 hI hg;refine cX Tryz.func81 ?_;obtain⟨G,hO,hI⟩:∃ G,aN ⟨H0,List.map (fun p:Nat×fD=>p.1) G0,G⟩ H0 []/\I c5 G:=⟨G0,aN.YJ hg,hI⟩;clear hg;unfold vP at h0;refine aY aG 1 [] [(3,eI 0)] (bS 0 (eA [(0,yv b5),(1,.rp (eL aM t1)),(3,eI 0)] (dJ (fun T H=>∃ sg:σ,∃ i3:Int,∃ G:Gs,Has T [(0,yv b5),(1,.rp (eL aM t1)),(3,eI i3)]/\aN ⟨H0,List.map (fun p:Nat×fD=>p.1) G0,G⟩ H []/\I sg G/\CD mB sg t1 i3=some r) ?_ ⟨c5,(0:Int),G,aV,hO,hI,h0⟩)));rintro T H ⟨sg,i3,G,hT,hO,hI,h0⟩;unfold CD at h0;obtain⟨c8,e9,h0⟩:=aW h0;refine bB hT (eE (fun (s:σ×Int) T H=>∃ G:Gs,Has T [(0,yv b5),(1,.rp (eL aM t1)),(3,eI s.2)]/\aN ⟨H0,List.map (fun p:Nat×fD=>p.1) G0,G⟩ H []/\I s.1 G) e9 ⟨G,aV,hO,hI⟩ ?_);rintro k0 s b7 T H ⟨G,hT,hO,hI⟩ h1 c9;obtain⟨sg,i3⟩:=s;replace h1:nR mB t1 sg i3=some b7:=h1
 try dsimp only at hT
 unfold nR at h1;refine bB hT (aO (aY aG 4 [] [(9,aL (decide (i3<(lN t1))))] (bI h1 (fun h1=>?_) (fun h1=>?_))))
 ·obtain⟨c2,h1⟩:=aZ h1;refine bG (bD [(0,yv b5),(1,.rp (eL aM t1)),(3,eI i3)] (bS 1 (aO (aS aG 6 (nI [0<=i3/\i3<(lN t1)] ⟨c2,trivial⟩ (bT [] [(4,eL aI ((gD t1 i3).Row))] (aO (aS aG 2 (mW [] 2 (bC (bT [] [(5,.sl true 0 (fun _=>.bad))] (dH (fun T H=>∃ sg:σ,∃ i3:Int,∃ r4:(List aF),∃ f5:List aB,∃ c6:Nat,∃ G:Gs,Has T [(0,yv b5),(1,.rp (eL aM t1)),(3,eI i3),(4,eL aI r4),(5,mL 2 c6 f5)]/\aN ⟨H0,List.map (fun p:Nat×fD=>p.1) G0,G⟩ H [(c6,2,f5.map aE)]/\I sg G/\xN mB sg t1 i3 r4 f5=some b7) ?_ ?_))))))))))))
  ·rintro T H ⟨sg,i3,r4,f5,c6,G,hT,hO,hI,h1⟩;unfold xN at h1;obtain⟨x7,g2,h1⟩:=aW h1;obtain⟨b8,e4,h1⟩:=aW h1;refine bB hT (aO (aS aG 6 (BK (e:=aE) f5 0 5 2 c6 f5.length [] (by kernel_rfl) hO (by kernel_rfl) (by kernel_rfl) (by kernel_rfl) (by kernel_rfl) (fun H hO=>bM 2 (cU (ZS r4 _ g2) hO (fun H hO=>bM 4 (aBp (I:=I) (yv b5) [eL aI x7,eL aE f5] (aL b8.2) (by kernel_rfl) (by kernel_rfl) (b9 _ x7 f5 b8.1 b8.2 e4) hO hI (fun G H hO hI=>bC (bT [4,5] [(50,aL (!b8.2))] (bI h1 (fun h1=>?_) (fun h1=>?_)))))))))))
   ·obtain rfl:=oI h1;obtain rfl:_=c8:=c9;replace h0:some b8.1=some r:=h0;obtain rfl:=oI h0;exact bK (aJ (bH (aR (bH (oO (x:=(.tup [])) (by kernel_rfl) (sR) ⟨rfl,G,hI,hO.TZ⟩)))))
   exact bG (aJ (aX (aH (⟨rfl,_,(oI h1).symm,_,aV,hO,hI⟩))))
  refine bS 2 (eA [(0,yv b5),(1,.rp (eL aM t1)),(3,eI i3),(4,eL aI ((gD t1 i3).Row)),(5,.sl true 0 (fun _=>.bad))] (vI (el:=(fun _=>.bad)) 4 5 2 hO (by kernel_rfl) ?_));intro e5 h8 hO;refine dJ (fun T H=>∃ sg:σ,∃ i3:Int,∃ r4:(List aF),∃ f5:List aB,∃ b6:Nat,∃ G:Gs,Has T [(0,yv b5),(1,.rp (eL aM t1)),(3,eI i3),(4,eL aI r4),(5,mL 2 b6 f5)]/\aN ⟨H0,List.map (fun p:Nat×fD=>p.1) G0,G⟩ H [(b6,2,f5.map aE)]/\I sg G/\BR mB sg t1 i3 r4 f5=some b7) ?_ ⟨sg,i3,(gD t1 i3).Row,([]:List aB),e5,G,aV,hO,hI,h1⟩;rintro T H ⟨sg,i3,r4,f5,b6,G,hT,hO,hI,h1⟩;unfold BR at h1;obtain⟨g3,g4,h1⟩:=aW h1;refine bB hT (eE (fun (s:σ×Int×List aB) T H=>∃ b6:Nat,∃ G:Gs,Has T [(0,yv b5),(1,.rp (eL aM t1)),(3,eI s.2.1),(4,eL aI r4),(5,mL 2 b6 s.2.2)]/\aN ⟨H0,List.map (fun p:Nat×fD=>p.1) G0,G⟩ H [(b6,2,s.2.2.map aE)]/\I s.1 G) g4 ⟨b6,G,aV,hO,hI⟩ ?_);rintro k1 s e6 T H ⟨b6,G,hT,hO,hI⟩ h2 g5;obtain⟨sg,i3,f5⟩:=s;replace h2:oZ mB t1 r4 sg i3 f5=some e6:=h2
  try dsimp only at hT
  unfold oZ at h2;obtain⟨g6,h2⟩:=aZ h2;obtain⟨e3,e7,h2⟩:=aW h2;refine bB hT (aO (aO (aS aG 13 (nM 11 [(decide (i3<(lN t1)))=true->0<=i3/\i3<(lN t1)] ⟨g6,trivial⟩ (rY [(20,true)] 82 [eL aI ((gD t1 i3).Row),eL aI r4] (aL e3) (decide (i3<(lN t1))) (by kernel_rfl) (by kernel_rfl) (by kernel_rfl) (fun e8=>(aIF ((gD t1 i3).Row) r4 _ (kW e7 e8))) hO (fun H hO=>bC (bT [] [(28,aL ((decide (i3<(lN t1)))&&e3))] (bI h2 (fun h2=>?_) (fun h2=>?_)))))))))
  ·obtain⟨g7,h2⟩:=aZ h2;obtain⟨g8,h2⟩:=aZ h2;obtain⟨g9,h2⟩:=aZ h2;exact bG (bD [(0,yv b5),(1,.rp (eL aM t1)),(3,eI i3),(4,eL aI r4),(5,mL 2 b6 f5)] (aO (bS 3 (fF (fC [32,36,37,41,43]) aG 15 (cS 12 [0<=i3/\i3<(lN t1),0<=i3/\i3<(lN t1)] ⟨g7,g8,trivial⟩ (OF (xs:=[aE (aB.mk ((gD t1 i3).At) ((gD t1 i3).Net))]) (k:=2) (by kernel_rfl) (by kernel_rfl) (MW (e:=aE) f5 ([aB.mk ((gD t1 i3).At) ((gD t1 i3).Net)]) 0 b6 2 16 (dB [aE (aB.mk ((gD t1 i3).At) ((gD t1 i3).Net))]) (fun c4=>[(c4,2,List.map aE (f5++([aB.mk ((gD t1 i3).At) ((gD t1 i3).Net)])))]) (by kernel_rfl) (by kernel_rfl) hO (by kernel_rfl) (by kernel_rfl) g9 (fun _=>by kernel_rfl) (fun c4 H hO=>gT (cN [(0,yv b5),(1,.rp (eL aM t1)),(3,eI i3),(4,eL aI r4),(5,.msl 2 c4 0 (List.length (f5++([aB.mk ((gD t1 i3).At) ((gD t1 i3).Net)]))))] (aJ (aX (aH (aS aG 3 (bC (aJ (aH (⟨rfl,_,(oI h2).symm,_,_,aV,hO,hI⟩)))))))))))))))))
  obtain rfl:=oI h2;obtain rfl:_=g3:=g5;replace h1:xN mB sg t1 i3 r4 f5=some b7:=h1;exact dV 2 (aJ (aT (aT (bN (aH (⟨rfl,_,_,_,_,_,_,aV,hO,hI,h1⟩))))))
 obtain rfl:=oI h1;obtain rfl:_=c8:=c9;replace h0:some sg=some r:=h0;obtain rfl:=oI h0;exact dV 0 (aJ (aT (aT (bN (QG (x:=(.tup [])) (by kernel_rfl) (sR) ⟨rfl,G,hI,hO.TZ⟩)))))
theorem FB (s0:(List aF))(b5:Nat)(b6 b7:List V)(f1:aF->Option Bool)(c4:∀ a0 r,f1 a0=some r->cW Tryz.prog b5 (b6++[aI a0]++b7) (aL r))(r:Int)(h0:nJ s0 f1=some r):cW Tryz.prog 67 [eL aI s0,.fn (.func b5) b6 b7] (eI r):=by
 intro H0;have hO:=aN.start H0;unfold nJ at h0;refine cX Tryz.func67 (aY aG 1 [] [] (dH (fun T H=>Has T []/\aN ⟨H0,[],[]⟩ H []/\kA f1  = some r) ?_ ?_))
 ·rintro T H ⟨hT,hO,h0⟩;unfold kA at h0;obtain rfl:=oI h0;exact bB hT (bW aG 1 [(4,eI (-1:Int))] (bK (aJ (Q_r hO))))
 refine aY aG 3 [] [(7,eI (lN s0)),(8,eI 0)] (bS 0 (eA [(0,eL aI s0),(1,.fn (.func b5) b6 b7),(7,eI (lN s0)),(8,eI 0)] (dJ (fun T H=>∃ t7 t8:Int,Has T [(0,eL aI s0),(1,.fn (.func b5) b6 b7),(7,eI t7),(8,eI t8)]/\aN ⟨H0,[],[]⟩ H []/\nD f1 s0 t7 t8=some r) ?_ ⟨lN s0,(0:Int),aV,hO,h0⟩)));rintro T H ⟨t7,t8,hT,hO,h0⟩;unfold nD at h0;obtain⟨b8,c6,h0⟩:=aW h0;refine bB hT (eE (fun (s:Int) T H=>Has T [(0,eL aI s0),(1,.fn (.func b5) b6 b7),(7,eI t7),(8,eI s)]/\aN ⟨H0,[],[]⟩ H []) c6 ⟨aV,hO⟩ ?_);rintro k0 s c5 T H ⟨hT,hO⟩ h1 b9;obtain⟨t8,rfl⟩:∃ x,x=s:=⟨_,rfl⟩;replace h1:nE f1 s0 t7 t8=some c5:=h1;unfold nE at h1;refine bB hT (aY aG 1 [] [(9,aL (decide (t8<t7)))] (aO (bI h1 (fun h1=>?_) (fun h1=>?_))))
 ·obtain⟨c2,h1⟩:=aZ h1;obtain⟨x3,c7,h1⟩:=aW h1;refine bG (bD [(0,eL aI s0),(1,.fn (.func b5) b6 b7),(7,eI t7),(8,eI t8)] (aO (bS 1 (aY aG 2 [] [(5,eI t8)] (aO (aS aG 6 (nM 5 [0<=t8/\t8<(lN s0)] ⟨c2,trivial⟩ (cU (c4 (gD s0 t8) _ c7) hO (fun H hO=>eC (bT [] [(16,aL x3)] (bI h1 (fun h1=>?_) (fun h1=>?_))))))))))))
  ·obtain rfl:=oI h1;obtain rfl:_=b8:=b9;replace h0:some t8=some r:=h0;obtain rfl:=oI h0;exact bW aG 2 [(4,eI t8)] (bK (aJ (bH (aR (aR (bH (aR (Q_r hO))))))))
  exact bG (cN [(0,eL aI s0),(1,.fn (.func b5) b6 b7),(7,eI t7),(8,eI t8)] (aJ (aX (aH (aS aG 2 (bC (aJ (aH (⟨rfl,_,(oI h1).symm,aV,hO⟩)))))))))
 obtain rfl:=oI h1;obtain rfl:_=b8:=b9;replace h0:kA f1  = some r:=h0;exact dV 0 (aJ (aT (aT (bN (aH (⟨rfl,aV,hO,h0⟩))))))
theorem CG (s0:(List aF))(b5:Nat)(b6 b7:List V)(f1:aF->Option Bool)(b8:∀ a0 r,f1 a0=some r->cW Tryz.prog b5 (b6++[aI a0]++b7) (aL r))(r:Bool)(h0:iU s0 f1=some r):cW Tryz.prog 77 [eL aI s0,.fn (.func b5) b6 b7] (aL r):=by
 intro H0;have hO:=aN.start H0;unfold iU at h0;obtain⟨x1,b9,h0⟩:=aW h0;obtain rfl:=oI h0;exact cX Tryz.func77 (aY aG 1 [] [] (aO (aS aG 5 (bM 2 (cU (FB s0 b5 b6 b7 f1 b8 _ b9) hO (fun H hO=>bC (bD [(4,aL (decide (0<=x1)))] (bK (aJ (Q_r hO))))))))))
theorem HN (v0:aF)(r:(bY×Bool))(h0:rA v0=some r):cW Tryz.prog 101 [aI v0] (.tup [bU r.1,aL r.2]):=by
 intro H0;have hO:=aN.start H0;unfold rA at h0;refine cX Tryz.func101 (aO (aS aG 3 (AU 3 (aI v0) (bC (bD [(1,.rp (aI v0))] (aO (bS 0 (aY aG 9 [] [(4,aL ((decide (v0.Kind=1))&&(uU v0.Text (⟨#[]⟩:ByteArray))))] (bI h0 (fun h0=>?_) (fun h0=>?_))))))))))
 ·obtain rfl:=oI h0;exact bW aG 5 [(2,bU (bY.k_number v0.Num)),(3,aL true)] (bK (aJ (bH (aR (Q_r hO)))))
 refine aY aG 15 [4] [(16,aL (((decide (v0.Kind=2))&&(decide (v0.Num=0)))&&(decide (((ByteArray.size v0.Text:Nat):Int)<=64))))] (bI h0 (fun h0=>?_) (fun h0=>?_))
 ·obtain rfl:=oI h0;exact bW aG 5 [(2,bU (bY.k_words v0.Text)),(3,aL true)] (bK (aJ (bH (aR (Q_r hO)))))
 obtain rfl:=oI h0;exact bG (cN [] (aJ (aX (aH (bW aG 2 [(2,bU bY.none_),(3,aL false)] (bK (aJ (Q_r hO))))))))
theorem aG5 (v0:aF)(r:Bool)(h0:JZ v0=some r):cW Tryz.prog 79 [aI v0] (aL r):=by
 intro H0;have hO:=aN.start H0;unfold JZ at h0;obtain⟨⟨b6,b5⟩,b7,h0⟩:=aW h0;refine cX Tryz.func79 (aO (aS aG 2 (AU 3 (aI v0) (bC (bD [(1,.rp (aI v0))] (aO (aS aG 7 (bM 1 (cU (HN v0 _ b7) hO ?_)))))))));intro H hO;rcases b6 with _ | y4 | y5
 ·replace h0:(some b5)=some r:=h0;obtain rfl:=oI h0;exact bC (bD [(4,aL b5)] (bW aG 2 [(2,aL b5)] (bK (aJ (Q_r hO)))))
 ·replace h0:(some b5)=some r:=h0;obtain rfl:=oI h0;exact bC (bD [(4,aL b5)] (bW aG 2 [(2,aL b5)] (bK (aJ (Q_r hO)))))
 ·replace h0:(some b5)=some r:=h0;obtain rfl:=oI h0;exact bC (bD [(4,aL b5)] (bW aG 2 [(2,aL b5)] (bK (aJ (Q_r hO)))))
theorem aHb (v0:aF)(r:Bool)(h0:JN v0=some r):cW Tryz.prog 78 [aI v0] (aL r):=by
 intro H0;have hO:=aN.start H0;unfold JN at h0;obtain⟨x1,b5,h0⟩:=aW h0;obtain rfl:=oI h0;exact cX Tryz.func78 (aO (aS aG 2 (AU 3 (aI v0) (bC (bD [(1,.rp (aI v0))] (aO (aS aG 4 (bM 1 (cU (aG5 v0 _ b5) hO (fun H hO=>bC (bD [(2,aL (!x1))] (bK (aJ (Q_r hO))))))))))))))
theorem MU (r0:(List aF))(r:Bool)(h0:xB r0=some r):cW Tryz.prog 46 [eL aI r0] (aL r):=by
 intro H0;have hO:=aN.start H0;unfold xB at h0;refine cX Tryz.func46 (aY aG 1 [] [] (aO (aY aG 3 [] [(5,aL (decide (8<(lN r0))))] (bI h0 (fun h0=>?_) (fun h0=>?_)))))
 ·obtain rfl:=oI h0;exact bW aG 1 [(2,aL false)] (bK (aJ (aR (Q_r hO))))
 obtain⟨x2,b5,h0⟩:=aW h0;refine bG (bD [(0,eL aI r0)] (aO (aS aG 4 (bM 1 (cU (CG r0 78 [] [] (fun y0=>JN y0) (fun y0 r h=>aHb y0 r h) _ b5) hO ?_)))));obtain rfl:=oI h0;intro H hO;exact bC (bD [(2,aL (!x2))] (bK (aJ (Q_r hO))))
theorem aCz (t0:(List aF))(r:(Int×(List aF)))(h0:ER t0=some r):NP Tryz.prog 68 [.rp (eL aI t0)] (fun lo=>(.fn (.func 69) [] [.lp lo 0 0,.rp (eL aI r.2)])) 1 [eI r.1]:=by
 intro H0;have hO:=aN.start H0;unfold ER at h0;obtain rfl:=oI h0;exact cX Tryz.func68 (aY aG 1 [] [] (aO (aS aG 2 (nF 1 (eI 0) (by kernel_rfl) (by kernel_rfl) hO (fun b5 H hO=>mK 0 b5 1 0 (eI 0) (eI (-1:Int)) [eI 0] [(b5,1,[eI (-1:Int)])] hO rfl (by kernel_rfl) (fun H hO=>eC (bT [] [(2,.lp b5 0 0)] (aY aG 2 [0] [(1,.fn (.func 69) [] [.lp b5 0 0,.rp (eL aI t0)])] (bK (aJ (oO (x:=(.fn (.func 69) [] [.lp b5 0 0,.rp (eL aI t0)])) (by kernel_rfl) (sR) ⟨b5,rfl,hO⟩)))))))))))
theorem EG {σ:Type}(I:σ->Gs->Prop)(s0:(List aF))(b5:V)(f1:σ->aF->Option (σ×Bool))(c4:∀ st a0 b7 r,f1 st a0=some (b7,r)->SQ Tryz.prog b5 I st [aI a0] b7 (aL r))(b6:σ)(r:(σ×Int))(h0:mY s0 f1 b6=some r):BP Tryz.prog 67 I b6 [eL aI s0,b5] r.1 (eI r.2):=by
 intro H0 G0 hI hg;refine cX Tryz.func67 ?_;obtain⟨G,hO,hI⟩:∃ G,aN ⟨H0,List.map (fun p:Nat×fD=>p.1) G0,G⟩ H0 []/\I b6 G:=⟨G0,aN.YJ hg,hI⟩;clear hg;unfold mY at h0;refine aY aG 1 [] [] (dH (fun T H=>∃ sg:σ,∃ G:Gs,Has T []/\aN ⟨H0,List.map (fun p:Nat×fD=>p.1) G0,G⟩ H []/\I sg G/\iX f1 sg=some r) ?_ ?_)
 ·rintro T H ⟨sg,G,hT,hO,hI,h0⟩;unfold iX at h0;obtain rfl:=oI h0;exact bB hT (bW aG 1 [(4,eI (-1:Int))] (bK (aJ (oO (x:=(eI (-1:Int))) (by kernel_rfl) (sR) ⟨rfl,G,hI,hO.TZ⟩))))
 refine aY aG 3 [] [(7,eI (lN s0)),(8,eI 0)] (bS 0 (eA [(0,eL aI s0),(1,b5),(7,eI (lN s0)),(8,eI 0)] (dJ (fun T H=>∃ sg:σ,∃ t7 t8:Int,∃ G:Gs,Has T [(0,eL aI s0),(1,b5),(7,eI t7),(8,eI t8)]/\aN ⟨H0,List.map (fun p:Nat×fD=>p.1) G0,G⟩ H []/\I sg G/\mQ f1 sg s0 t7 t8=some r) ?_ ⟨b6,lN s0,(0:Int),G,aV,hO,hI,h0⟩)));rintro T H ⟨sg,t7,t8,G,hT,hO,hI,h0⟩;unfold mQ at h0;obtain⟨b8,c6,h0⟩:=aW h0;refine bB hT (eE (fun (s:σ×Int) T H=>∃ G:Gs,Has T [(0,eL aI s0),(1,b5),(7,eI t7),(8,eI s.2)]/\aN ⟨H0,List.map (fun p:Nat×fD=>p.1) G0,G⟩ H []/\I s.1 G) c6 ⟨G,aV,hO,hI⟩ ?_);rintro k0 s c5 T H ⟨G,hT,hO,hI⟩ h1 b9;obtain⟨sg,t8⟩:=s;replace h1:dK f1 s0 t7 sg t8=some c5:=h1
 try dsimp only at hT
 unfold dK at h1;refine bB hT (aY aG 1 [] [(9,aL (decide (t8<t7)))] (aO (bI h1 (fun h1=>?_) (fun h1=>?_))))
 ·obtain⟨c2,h1⟩:=aZ h1;obtain⟨x3,c7,h1⟩:=aW h1;refine bG (bD [(0,eL aI s0),(1,b5),(7,eI t7),(8,eI t8)] (aO (bS 1 (aY aG 2 [] [(5,eI t8)] (aO (aS aG 6 (nM 5 [0<=t8/\t8<(lN s0)] ⟨c2,trivial⟩ (aBp (I:=I) b5 [aI (gD s0 t8)] (aL x3.2) (by kernel_rfl) (by kernel_rfl) (c4 _ (gD s0 t8) x3.1 x3.2 c7) hO hI (fun G H hO hI=>eC (bT [] [(16,aL x3.2)] (bI h1 (fun h1=>?_) (fun h1=>?_))))))))))))
  ·obtain rfl:=oI h1;obtain rfl:_=b8:=b9;replace h0:some (x3.1,t8)=some r:=h0;obtain rfl:=oI h0;exact bW aG 2 [(4,eI t8)] (bK (aJ (bH (aR (aR (bH (aR (oO (x:=(eI t8)) (by kernel_rfl) (sR) ⟨rfl,G,hI,hO.TZ⟩))))))))
  exact bG (cN [(0,eL aI s0),(1,b5),(7,eI t7),(8,eI t8)] (aJ (aX (aH (aS aG 2 (bC (aJ (aH (⟨rfl,_,(oI h1).symm,_,aV,hO,hI⟩)))))))))
 obtain rfl:=oI h1;obtain rfl:_=b8:=b9;replace h0:iX f1 sg=some r:=h0;exact dV 0 (aJ (aT (aT (bN (aH (⟨rfl,_,_,aV,hO,hI,h0⟩))))))
theorem aBw (v0:aF)(b5:Nat)(t1:Int)(t2:(List aF))(r:(Bool×Int))(h0:pU v0 t1 t2=some r):wO Tryz.prog 69 b5 1 [eI t1] [eI r.2] [aI v0,.lp b5 0 0,.rp (eL aI t2)] (aL r.1):=by
 intro H0 b6;refine cX Tryz.func69 ?_;have hO:=aN.yZ b6;clear b6;unfold pU at h0;obtain⟨c1,h0⟩:=aZ h0;obtain rfl:=oI h0;exact aO (aS aG 2 (AU 3 (aI v0) (bC (bT [0] [(3,.rp (aI v0))] (aO (aS aG 3 (gW 0 b5 1 0 (eI t1) (eI t1) [eI t1] hO rfl (bM 2 (mK 0 b5 1 0 (eI t1) (eI (wR (t1+1))) [eI t1] [(b5,1,[eI (wR (t1+1))])] hO rfl (by kernel_rfl) (fun H hO=>eC (bT [] [] (aO (fF (fC [7,8,11]) aG 7 (jX 2 (jU 0 b5 1 0 (eI (wR (t1+1))) (eI (wR (t1+1))) [eI (wR (t1+1))] hO rfl (LL (Ds:=[0<=(wR (t1+1))/\(wR (t1+1))<(lN t2)]) (by kernel_rfl) ⟨c1,trivial⟩ (bD [(1,.lp b5 0 0),(4,aL (!((decide (v0.Kind=((gD t2 (wR (t1+1))).Kind)))&&((decide (v0.Num=((gD t2 (wR (t1+1))).Num)))&&((uU v0.Text ((gD t2 (wR (t1+1))).Text))&&true)))))] (bK (aJ (oO (x:=(aL (!((decide (v0.Kind=((gD t2 (wR (t1+1))).Kind)))&&((decide (v0.Num=((gD t2 (wR (t1+1))).Num)))&&((uU v0.Text ((gD t2 (wR (t1+1))).Text))&&true)))))) (by kernel_rfl) (sR) ⟨rfl,hO.ext,hO.at 0 (by kernel_rfl),rfl⟩))))))))))))))))))))
theorem WD (x0:Int)(r:Bool)(h0:rR x0=some r):cW Tryz.prog 100 [eI x0] (aL r):=by
 intro H0;have hO:=aN.start H0;unfold rR at h0;obtain rfl:=oI h0;exact cX Tryz.func100 (aY aG 1 [] [] (bW aG 4 [(2,aL (!decide (x0=x0)))] (bK (aJ (Q_r hO)))))
theorem aBr (x0 y1 r:Int)(h0:wH x0 y1=some r):cW Tryz.prog 70 [eI x0,eI y1] (eI r):=by
 intro H0;have hO:=aN.start H0;unfold wH at h0;obtain⟨x1,b5,h0⟩:=aW h0;obtain⟨x4,b6,h0⟩:=aW h0;refine cX Tryz.func70 (aY aG 1 [] [] (aO (aS aG 3 (bM 1 (cU (WD x0 _ b5) hO (fun H hO=>bC (bT [] [(5,aL x1)] (aO (aS aG 3 (bM 1 (cU (WD y1 _ b6) hO (fun H hO=>bC (bT [] [(6,aL x4)] (aO (aY aG 1 [5] [(11,aL x1)] (bI h0 (fun h0=>?_) (fun h0=>?_)))))))))))))))))
 ·refine aO (bW aG 1 [(12,aL x4)] (bI h0 (fun h0=>?_) (fun h0=>?_)))
  ·obtain rfl:=oI h0;exact bW aG 1 [(4,eI 0)] (bK (aJ (aR (aR (Q_r hO)))))
  obtain rfl:=oI h0;exact bG (bD [] (bW aG 1 [(4,eI (-1:Int))] (bK (aJ (aR (Q_r hO))))))
 refine bG (bD [(0,eI x0),(1,eI y1),(6,aL x4)] (aO (aY aG 1 [6] [(13,aL x4)] (bI h0 (fun h0=>?_) (fun h0=>?_)))))
 ·obtain rfl:=oI h0;exact bW aG 1 [(4,eI 1)] (bK (aJ (aR (Q_r hO))))
 refine bG (bD [(0,eI x0),(1,eI y1)] (aO (aY aG 3 [] [(16,aL (decide (x0<y1)))] (bI h0 (fun h0=>?_) (fun h0=>?_)))))
 ·obtain rfl:=oI h0;exact bW aG 1 [(4,eI (-1:Int))] (bK (aJ (aR (Q_r hO))))
 refine bG (bD [(0,eI x0),(1,eI y1)] (aO (bW aG 3 [(19,aL (decide (y1<x0)))] (bI h0 (fun h0=>?_) (fun h0=>?_)))))
 ·obtain rfl:=oI h0;exact bW aG 1 [(4,eI 1)] (bK (aJ (aR (Q_r hO))))
 obtain rfl:=oI h0;exact bG (bD [] (bW aG 1 [(4,eI 0)] (bK (aJ (Q_r hO)))))
theorem FT (x0:Int)(r:Bool)(h0:qQ x0=some r):cW Tryz.prog 112 [eI x0] (aL r):=by
 intro H0;have hO:=aN.start H0;unfold qQ at h0;obtain rfl:=oI h0;exact cX Tryz.func112 (aY aG 1 [] [] (bW aG 4 [(2,aL (!decide (x0=x0)))] (bK (aJ (Q_r hO)))))
theorem SB (x0 y1 r:Int)(h0:lC x0 y1=some r):cW Tryz.prog 102 [eI x0,eI y1] (eI r):=by
 intro H0;have hO:=aN.start H0;unfold lC at h0;obtain⟨x1,b5,h0⟩:=aW h0;obtain⟨x4,b6,h0⟩:=aW h0;refine cX Tryz.func102 (aY aG 1 [] [] (aO (aS aG 3 (bM 1 (cU (FT x0 _ b5) hO (fun H hO=>bC (bT [] [(5,aL x1)] (aO (aS aG 3 (bM 1 (cU (FT y1 _ b6) hO (fun H hO=>bC (bT [] [(6,aL x4)] (aO (aY aG 1 [5] [(11,aL x1)] (bI h0 (fun h0=>?_) (fun h0=>?_)))))))))))))))))
 ·refine aO (bW aG 1 [(12,aL x4)] (bI h0 (fun h0=>?_) (fun h0=>?_)))
  ·obtain rfl:=oI h0;exact bW aG 1 [(4,eI 0)] (bK (aJ (aR (aR (Q_r hO)))))
  obtain rfl:=oI h0;exact bG (bD [] (bW aG 1 [(4,eI (-1:Int))] (bK (aJ (aR (Q_r hO))))))
 refine bG (bD [(0,eI x0),(1,eI y1),(6,aL x4)] (aO (aY aG 1 [6] [(13,aL x4)] (bI h0 (fun h0=>?_) (fun h0=>?_)))))
 ·obtain rfl:=oI h0;exact bW aG 1 [(4,eI 1)] (bK (aJ (aR (Q_r hO))))
 refine bG (bD [(0,eI x0),(1,eI y1)] (aO (aY aG 3 [] [(16,aL (decide (x0<y1)))] (bI h0 (fun h0=>?_) (fun h0=>?_)))))
 ·obtain rfl:=oI h0;exact bW aG 1 [(4,eI (-1:Int))] (bK (aJ (aR (Q_r hO))))
 refine bG (bD [(0,eI x0),(1,eI y1)] (aO (bW aG 3 [(19,aL (decide (y1<x0)))] (bI h0 (fun h0=>?_) (fun h0=>?_)))))
 ·obtain rfl:=oI h0;exact bW aG 1 [(4,eI 1)] (bK (aJ (aR (Q_r hO))))
 obtain rfl:=oI h0;exact bG (bD [] (bW aG 1 [(4,eI 0)] (bK (aJ (Q_r hO)))))
theorem LU (a0 b1:ByteArray)(r:Int)(h0:pE a0 b1=some r):cW Tryz.prog 113 [tG a0,tG b1] (eI r):=by
 intro H0;have hO:=aN.start H0;unfold pE at h0;obtain rfl:=oI h0;exact cX Tryz.func113 (aY aG 1 [] [] (aO (aS aG 4 (bM 2 (aMR 115 [tG a0,tG b1] (eI (aDR a0 b1)) (by kernel_rfl) (by kernel_rfl) (aLx Tryz.func115 (by kernel_rfl) (by kernel_rfl) (by kernel_rfl) (by kernel_rfl) a0 b1) hO (fun H hO=>bC (bD [(4,eI (aDR a0 b1))] (bK (aJ (Q_r hO))))))))))
theorem aBs (a0 b1:ByteArray)(r:Int)(h0:tR a0 b1=some r):cW Tryz.prog 103 [tG a0,tG b1] (eI r):=by
 intro H0;have hO:=aN.start H0;unfold tR at h0;obtain⟨x1,b5,h0⟩:=aW h0;obtain rfl:=oI h0;exact cX Tryz.func103 (aY aG 1 [] [] (aO (aS aG 4 (bM 2 (cU (LU a0 b1 _ b5) hO (fun H hO=>bC (bD [(4,eI x1)] (bK (aJ (Q_r hO))))))))))
theorem aDr (a0 b1:aF)(r:Int)(h0:zJ a0 b1=some r):cW Tryz.prog 71 [aI a0,aI b1] (eI r):=by
 intro H0;have hO:=aN.start H0;unfold zJ at h0;obtain⟨⟨k4,b5⟩,k9,h0⟩:=aW h0;refine cX Tryz.func71 (aO (aS aG 3 (AU 3 (aI a0) (AU 3 (aI b1) (bC (bD [(2,.rp (aI a0)),(3,.rp (aI b1))] (aO (aS aG 7 (bM 1 (cU (HN a0 _ k9) hO ?_))))))))));intro H hO;rcases k4 with _ | y4 | y5
 ·replace h0:((rA b1).bind fun (e4,b8)=>match e4 with | .none_=>(cond ((!b5)||(!b8)) (some (0:Int)) (none)) | .k_number y9=>(cond ((!b5)||(!b8)) (some (0:Int)) (some (1:Int))) | .k_words c7=>(cond ((!b5)||(!b8)) (some (0:Int)) (none)))=some r:=h0;obtain⟨⟨e4,b8⟩,m0,h0⟩:=aW h0;refine bC (bT [2] [(5,bU bY.none_),(6,aL b5)] (aO (aS aG 7 (bM 1 (cU (HN b1 _ m0) hO ?_)))));intro H hO;rcases e4 with _ | y9 | c7
  ·replace h0:(cond ((!b5)||(!b8)) (some (0:Int)) (none))=some r:=h0;refine bC (bT [3] [(7,bU bY.none_),(8,aL b8)] (aO (aY aG 6 [6,8] [(28,aL ((!b5)||(!b8)))] (bI h0 (fun h0=>?_) (fun h0=>?_)))))
   ·obtain rfl:=oI h0;exact bW aG 1 [(4,eI 0)] (bK (aJ (aR (Q_r hO))))
   refine bG (bD [(5,bU bY.none_),(7,bU bY.none_)] (aY aG 7 [] [(9,eI 0),(10,aL false)] (aY aG 7 [] [(11,eI 0),(12,aL false)] (aO (bS 0 (aY aG 5 [] [(39,aL false)] (pX (false) (fun e5=>?_) (fun e5=>?_))))))))
   ·cases e5
   ·refine aY aG 2 [9,10,11,39] [(47,aL false)] (pX (false) (fun e6=>?_) (fun e6=>?_))
    ·cases e6
    ·refine bW aG 2 [(5,bU bY.none_),(7,bU bY.none_),(49,aL false)] (pX (false) (fun e7=>?_) (fun e7=>?_))
     ·cases e7
     ·refine bG (cN [(5,bU bY.none_),(7,bU bY.none_)] (aJ (aX (aH (aO (fF (fC []) aG 6 ?_))))))
      cases h0
  ·replace h0:(cond ((!b5)||(!b8)) (some (0:Int)) (some (1:Int)))=some r:=h0;refine bC (bT [3] [(7,bU (bY.k_number y9)),(8,aL b8)] (aO (aY aG 6 [6,8] [(28,aL ((!b5)||(!b8)))] (bI h0 (fun h0=>?_) (fun h0=>?_)))))
   ·obtain rfl:=oI h0;exact bW aG 1 [(4,eI 0)] (bK (aJ (aR (Q_r hO))))
   refine bG (bD [(5,bU bY.none_),(7,bU (bY.k_number y9))] (aY aG 7 [] [(9,eI 0),(10,aL false)] (aY aG 7 [] [(11,eI y9),(12,aL true)] (aO (bS 0 (aY aG 5 [] [(39,aL false)] (pX (false) (fun e8=>?_) (fun e8=>?_))))))))
   ·cases e8
   ·refine aY aG 2 [9,10,11,39] [(47,aL false)] (pX (false) (fun e9=>?_) (fun e9=>?_))
    ·cases e9
    ·refine bW aG 2 [(5,bU bY.none_),(7,bU (bY.k_number y9)),(49,aL true)] (pX (true) (fun g2=>?_) (fun g2=>?_))
     ·obtain rfl:=oI h0;exact bW aG 1 [(4,eI 1)] (bK (aJ (bH (aR (Q_r hO)))))
     ·cases g2
  ·replace h0:(cond ((!b5)||(!b8)) (some (0:Int)) (none))=some r:=h0;refine bC (bT [3] [(7,bU (bY.k_words c7)),(8,aL b8)] (aO (aY aG 6 [6,8] [(28,aL ((!b5)||(!b8)))] (bI h0 (fun h0=>?_) (fun h0=>?_)))))
   ·obtain rfl:=oI h0;exact bW aG 1 [(4,eI 0)] (bK (aJ (aR (Q_r hO))))
   refine bG (bD [(5,bU bY.none_),(7,bU (bY.k_words c7))] (aY aG 7 [] [(9,eI 0),(10,aL false)] (aY aG 7 [] [(11,eI 0),(12,aL false)] (aO (bS 0 (aY aG 5 [] [(39,aL false)] (pX (false) (fun g3=>?_) (fun g3=>?_))))))))
   ·cases g3
   ·refine aY aG 2 [9,10,11,39] [(47,aL false)] (pX (false) (fun g4=>?_) (fun g4=>?_))
    ·cases g4
    ·refine bW aG 2 [(5,bU bY.none_),(7,bU (bY.k_words c7)),(49,aL false)] (pX (false) (fun g5=>?_) (fun g5=>?_))
     ·cases g5
     ·refine bG (cN [(5,bU bY.none_),(7,bU (bY.k_words c7))] (aJ (aX (aH (aO (fF (fC []) aG 6 ?_))))))
      cases h0
 ·replace h0:((rA b1).bind fun (c5,b6)=>match c5 with | .none_=>(cond ((!b5)||(!b6)) (some (0:Int)) (some (-1:Int))) | .k_number c4=>(cond ((!b5)||(!b6)) (some (0:Int)) ((lC y4 c4).bind fun c8=>some c8)) | .k_words g6=>(cond ((!b5)||(!b6)) (some (0:Int)) (some (-1:Int))))=some r:=h0;obtain⟨⟨c5,b6⟩,k5,h0⟩:=aW h0;refine bC (bT [2] [(5,bU (bY.k_number y4)),(6,aL b5)] (aO (aS aG 7 (bM 1 (cU (HN b1 _ k5) hO ?_)))));intro H hO;rcases c5 with _ | c4 | g6
  ·replace h0:(cond ((!b5)||(!b6)) (some (0:Int)) (some (-1:Int)))=some r:=h0;refine bC (bT [3] [(7,bU bY.none_),(8,aL b6)] (aO (aY aG 6 [6,8] [(28,aL ((!b5)||(!b6)))] (bI h0 (fun h0=>?_) (fun h0=>?_)))))
   ·obtain rfl:=oI h0;exact bW aG 1 [(4,eI 0)] (bK (aJ (aR (Q_r hO))))
   refine bG (bD [(5,bU (bY.k_number y4)),(7,bU bY.none_)] (aY aG 7 [] [(9,eI y4),(10,aL true)] (aY aG 7 [] [(11,eI 0),(12,aL false)] (aO (bS 0 (aY aG 5 [] [(39,aL false)] (pX (false) (fun g7=>?_) (fun g7=>?_))))))))
   ·cases g7
   ·refine aY aG 2 [9,10,11,39] [(47,aL true)] (pX (true) (fun g8=>?_) (fun g8=>?_))
    ·obtain rfl:=oI h0;exact bW aG 1 [(4,eI (-1:Int))] (bK (aJ (bH (aR (Q_r hO)))))
    ·cases g8
  ·replace h0:(cond ((!b5)||(!b6)) (some (0:Int)) ((lC y4 c4).bind fun c8=>some c8))=some r:=h0;refine bC (bT [3] [(7,bU (bY.k_number c4)),(8,aL b6)] (aO (aY aG 6 [6,8] [(28,aL ((!b5)||(!b6)))] (bI h0 (fun h0=>?_) (fun h0=>?_)))))
   ·obtain rfl:=oI h0;exact bW aG 1 [(4,eI 0)] (bK (aJ (aR (Q_r hO))))
   refine bG (bD [(5,bU (bY.k_number y4)),(7,bU (bY.k_number c4))] (aY aG 7 [] [(9,eI y4),(10,aL true)] (aY aG 7 [] [(11,eI c4),(12,aL true)] (aO (bS 0 (aY aG 5 [] [(39,aL true)] (pX (true) (fun g9=>?_) (fun g9=>?_))))))))
   ·obtain⟨c8,k6,h0⟩:=aW h0;obtain rfl:=oI h0;exact aO (aS aG 4 (bM 2 (cU (SB y4 c4 _ k6) hO (fun H hO=>bC (bD [(4,eI c8)] (bK (aJ (bH (aR (Q_r hO))))))))))
   ·cases g9
  ·replace h0:(cond ((!b5)||(!b6)) (some (0:Int)) (some (-1:Int)))=some r:=h0;refine bC (bT [3] [(7,bU (bY.k_words g6)),(8,aL b6)] (aO (aY aG 6 [6,8] [(28,aL ((!b5)||(!b6)))] (bI h0 (fun h0=>?_) (fun h0=>?_)))))
   ·obtain rfl:=oI h0;exact bW aG 1 [(4,eI 0)] (bK (aJ (aR (Q_r hO))))
   refine bG (bD [(5,bU (bY.k_number y4)),(7,bU (bY.k_words g6))] (aY aG 7 [] [(9,eI y4),(10,aL true)] (aY aG 7 [] [(11,eI 0),(12,aL false)] (aO (bS 0 (aY aG 5 [] [(39,aL false)] (pX (false) (fun h8=>?_) (fun h8=>?_))))))))
   ·cases h8
   ·refine aY aG 2 [9,10,11,39] [(47,aL true)] (pX (true) (fun h9=>?_) (fun h9=>?_))
    ·obtain rfl:=oI h0;exact bW aG 1 [(4,eI (-1:Int))] (bK (aJ (bH (aR (Q_r hO)))))
    ·cases h9
 ·replace h0:((rA b1).bind fun (c6,b7)=>match c6 with | .none_=>(cond ((!b5)||(!b7)) (some (0:Int)) (none)) | .k_number c9=>(cond ((!b5)||(!b7)) (some (0:Int)) (some (1:Int))) | .k_words b9=>(cond ((!b5)||(!b7)) (some (0:Int)) ((tR y5 b9).bind fun e3=>some e3)))=some r:=h0;obtain⟨⟨c6,b7⟩,k7,h0⟩:=aW h0;refine bC (bT [2] [(5,bU (bY.k_words y5)),(6,aL b5)] (aO (aS aG 7 (bM 1 (cU (HN b1 _ k7) hO ?_)))));intro H hO;rcases c6 with _ | c9 | b9
  ·replace h0:(cond ((!b5)||(!b7)) (some (0:Int)) (none))=some r:=h0;refine bC (bT [3] [(7,bU bY.none_),(8,aL b7)] (aO (aY aG 6 [6,8] [(28,aL ((!b5)||(!b7)))] (bI h0 (fun h0=>?_) (fun h0=>?_)))))
   ·obtain rfl:=oI h0;exact bW aG 1 [(4,eI 0)] (bK (aJ (aR (Q_r hO))))
   refine bG (bD [(5,bU (bY.k_words y5)),(7,bU bY.none_)] (aY aG 7 [] [(9,eI 0),(10,aL false)] (aY aG 7 [] [(11,eI 0),(12,aL false)] (aO (bS 0 (aY aG 5 [] [(39,aL false)] (pX (false) (fun j0=>?_) (fun j0=>?_))))))))
   ·cases j0
   ·refine aY aG 2 [9,10,11,39] [(47,aL false)] (pX (false) (fun j3=>?_) (fun j3=>?_))
    ·cases j3
    ·refine bW aG 2 [(5,bU (bY.k_words y5)),(7,bU bY.none_),(49,aL false)] (pX (false) (fun j4=>?_) (fun j4=>?_))
     ·cases j4
     ·refine bG (cN [(5,bU (bY.k_words y5)),(7,bU bY.none_)] (aJ (aX (aH (aO (fF (fC []) aG 6 ?_))))))
      cases h0
  ·replace h0:(cond ((!b5)||(!b7)) (some (0:Int)) (some (1:Int)))=some r:=h0;refine bC (bT [3] [(7,bU (bY.k_number c9)),(8,aL b7)] (aO (aY aG 6 [6,8] [(28,aL ((!b5)||(!b7)))] (bI h0 (fun h0=>?_) (fun h0=>?_)))))
   ·obtain rfl:=oI h0;exact bW aG 1 [(4,eI 0)] (bK (aJ (aR (Q_r hO))))
   refine bG (bD [(5,bU (bY.k_words y5)),(7,bU (bY.k_number c9))] (aY aG 7 [] [(9,eI 0),(10,aL false)] (aY aG 7 [] [(11,eI c9),(12,aL true)] (aO (bS 0 (aY aG 5 [] [(39,aL false)] (pX (false) (fun j5=>?_) (fun j5=>?_))))))))
   ·cases j5
   ·refine aY aG 2 [9,10,11,39] [(47,aL false)] (pX (false) (fun j6=>?_) (fun j6=>?_))
    ·cases j6
    ·refine bW aG 2 [(5,bU (bY.k_words y5)),(7,bU (bY.k_number c9)),(49,aL true)] (pX (true) (fun j7=>?_) (fun j7=>?_))
     ·obtain rfl:=oI h0;exact bW aG 1 [(4,eI 1)] (bK (aJ (bH (aR (Q_r hO)))))
     ·cases j7
  ·replace h0:(cond ((!b5)||(!b7)) (some (0:Int)) ((tR y5 b9).bind fun e3=>some e3))=some r:=h0;refine bC (bT [3] [(7,bU (bY.k_words b9)),(8,aL b7)] (aO (aY aG 6 [6,8] [(28,aL ((!b5)||(!b7)))] (bI h0 (fun h0=>?_) (fun h0=>?_)))))
   ·obtain rfl:=oI h0;exact bW aG 1 [(4,eI 0)] (bK (aJ (aR (Q_r hO))))
   refine bG (bD [(5,bU (bY.k_words y5)),(7,bU (bY.k_words b9))] (aY aG 7 [] [(9,eI 0),(10,aL false)] (aY aG 7 [] [(11,eI 0),(12,aL false)] (aO (bS 0 (aY aG 5 [] [(39,aL false)] (pX (false) (fun j8=>?_) (fun j8=>?_))))))))
   ·cases j8
   ·refine aY aG 2 [9,10,11,39] [(47,aL false)] (pX (false) (fun j9=>?_) (fun j9=>?_))
    ·cases j9
    ·refine bW aG 2 [(5,bU (bY.k_words y5)),(7,bU (bY.k_words b9)),(49,aL false)] (pX (false) (fun k3=>?_) (fun k3=>?_))
     ·cases k3
     ·obtain⟨e3,k8,h0⟩:=aW h0;obtain rfl:=oI h0;exact bG (cN [(5,bU (bY.k_words y5)),(7,bU (bY.k_words b9))] (aJ (aX (aH (aO (fF (fC []) aG 6 (jX 4 (PZ (aBs y5 b9 _ k8) hO (fun H hO=>gT (bD [(4,eI e3)] (bK (aJ (Q_r hO)))))))))))))
theorem ZY (a0:(List aF))(b1:(List aF))(r:Int)(h0:yN a0 b1=some r):cW Tryz.prog 40 [eL aI a0,eL aI b1] (eI r):=by
 intro H0;have hO:=aN.start H0;unfold yN at h0;obtain⟨x1,c5,h0⟩:=aW h0;obtain⟨x4,c6,h0⟩:=aW h0;refine cX Tryz.func40 (aO (aS aG 2 (AU 1 (eL aI b1) (bC (bT [1] [(3,.rp (eL aI b1))] (aO (aO (aS aG 8 (bM 1 (cU (MU a0 _ c5) hO (fun H hO=>bM 5 (rY [(10,false)] 46 [eL aI b1] (aL x4) (!(!x1)) (by kernel_rfl) (by kernel_rfl) (by kernel_rfl) (fun c7=>(MU b1 _ (kW c6 c7))) hO (fun H hO=>bC (bT [] [(14,aL ((!x1)||(!x4)))] (bI h0 (fun h0=>?_) (fun h0=>?_))))))))))))))))
 ·obtain rfl:=oI h0;exact bW aG 1 [(4,eI 0)] (bK (aJ (aR (Q_r hO))))
 obtain⟨c8,h0⟩:=aZ h0;obtain⟨x9,b7,h0⟩:=aW h0;obtain⟨b6,b8,h0⟩:=aW h0;refine bG (bD [(0,eL aI a0),(3,.rp (eL aI b1))] (aY aG 6 [] [(5,eI (if (lN b1)<(lN a0) then (lN b1) else (lN a0)))] (aO (fF (fC []) aG 7 (cS 4 [0<=(if (lN b1)<(lN a0) then (lN b1) else (lN a0))/\(if (lN b1)<(lN a0) then (lN b1) else (lN a0))<=(lN a0)] ⟨c8,trivial⟩ (aNt (L':=fun b5=>[(b5,1,[eI x9.1])]) 1 [eI x9.1] 68 [.rp (eL aI b1)] (fun b5=>(.fn (.func 69) [] [.lp b5 0 0,.rp (eL aI x9.2)])) (by kernel_rfl) (by kernel_rfl) (aCz b1 _ b7) hO (fun _=>by kernel_rfl) (fun b5 H hO=>aNs (fun st G'=>G'=up [(b5,1,[eI st])]++[]) [(b5,1,[eI b6.1])] x9.1 b6.1 67 [.sl false (Int.toNat (if (lN b1)<(lN a0) then (lN b1) else (lN a0))) (fun i=>aI (a0.getD i default)),.fn (.func 69) [] [.lp b5 0 0,.rp (eL aI x9.2)]] (eI b6.2) (by kernel_rfl) (by kernel_rfl) (BP.sub (as0':=[eL aI (List.take (Int.toNat (if (lN b1)<(lN a0) then (lN b1) else (lN a0))) a0),.fn (.func 69) [] [.lp b5 0 0,.rp (eL aI x9.2)]]) (EG _ (List.take (Int.toNat (if (lN b1)<(lN a0) then (lN b1) else (lN a0))) a0) (.fn (.func 69) [] [.lp b5 0 0,.rp (eL aI x9.2)]) (fun st y0=>(pU y0 st x9.2).bind fun o=>some (o.2,o.1)) (fun st y0 e6 rr hr=>(aBw y0 b5 st x9.2 _ (aOz hr)).toV (ys:=[]) (zs:=[aI y0]) (cs:=[.lp b5 0 0,.rp (eL aI x9.2)]) (fun Gx hG=>⟨up [],up []++[],hG,rfl⟩)) _ _ b8) ⟨aM3 (Int.toNat_le.2 (And.right c8)),sR,trivial⟩) hO rfl (fun _ h=>h) (fun H hO=>gT ?_))))))));replace hO:=hO.pick (L':=[]) [] (by decide) (by kernel_rfl);refine bT [5] [(6,eI b6.2)] (aO (aY aG 2 [] [(27,aL (decide (b6.2<0)))] (bI h0 (fun h0=>?_) (fun h0=>?_))))
 ·obtain⟨c9,b9,h0⟩:=aW h0;obtain rfl:=oI h0;exact aO (aS aG 6 (bM 4 (cU (aBr (lN a0) (lN b1) _ b9) hO (fun H hO=>bC (bD [(4,eI c9)] (bK (aJ (aR (Q_r hO)))))))))
 obtain⟨e3,h0⟩:=aZ h0;obtain⟨e4,h0⟩:=aZ h0;obtain⟨e5,c4,h0⟩:=aW h0;obtain rfl:=oI h0;exact bG (bD [(0,eL aI a0),(3,.rp (eL aI b1)),(6,eI b6.2)] (aO (fF (fC [36,37,40,41]) aG 10 (cS 8 [0<=b6.2/\b6.2<(lN a0),0<=b6.2/\b6.2<(lN b1)] ⟨e3,e4,trivial⟩ (PZ (aDr (gD a0 b6.2) (gD b1 b6.2) _ c4) hO (fun H hO=>gT (bD [(4,eI e5)] (bK (aJ (Q_r hO))))))))))
theorem aBB (l0:(List aK))(b5:Nat)(b6 b7:List V)(GN:(List aB)->Option Bool)(c5:∀ a0 r,GN a0=some r->cW Tryz.prog b5 (b6++[eL aE a0]++b7) (aL r))(r:Bool)(h0:DX l0 GN=some r):cW Tryz.prog 48 [eL aM l0,.fn (.func b5) b6 b7] (aL r):=by
 intro H0;have hO:=aN.start H0;unfold DX at h0;refine aBk aG Tryz.func48 (by kernel_rfl) (by kernel_rfl) (by kernel_rfl) (aO (aS aG 2 (AU 1 (.fn (.func b5) b6 b7) (nF 1 (aL false) (by kernel_rfl) (by kernel_rfl) hO (fun b8 H hO=>eC (bT [1] [(3,.rp (.fn (.func b5) b6 b7)),(4,.lp b8 0 0)] (aO (aY aG 3 [] [(11,aL (decide (4096<(lN l0))))] (bI h0 (fun h0=>?_) (fun h0=>?_))))))))))
 ·obtain rfl:=oI h0;exact aO (aS aG 1 (mK 0 b8 1 0 (aL false) (aL false) [aL false] [(b8,1,[aL false])] hO rfl (by kernel_rfl) (fun H hO=>eC (bD [(4,.lp b8 0 0)] (bK (aJ (aR (QM0 (.inr rfl) (rs:=[.cell 4 4]) (xs:=[aL false]) (x:=(aL false)) (by kernel_rfl) (IF (lo:=b8) (k:=1) (y:=(aL false)) (x:=(aL false)) 0 hO (by kernel_rfl) (by kernel_rfl) (by kernel_rfl) (by kernel_rfl) wE) (by kernel_rfl) ⟨rfl,hO.out⟩))))))))
 obtain⟨x5,e7,h0⟩:=aW h0;refine bG (bD [(0,eL aM l0),(3,.rp (.fn (.func b5) b6 b7)),(4,.lp b8 0 0)] (aO (aS aG 1 (GD 1 (.sl true 0 (fun _=>.bad)) (eL aI ([])) (by kernel_rfl) (by kernel_rfl) (by kernel_rfl) (dN) (by kernel_rfl) (by kernel_rfl) hO (fun c4 H hO=>eC (bT [] [(5,.lp c4 0 0)] (aO (aS aG 2 (nF 1 (aL false) (by kernel_rfl) (by kernel_rfl) hO (fun b9 H hO=>mK 2 b9 1 0 (aL false) (aL false) [aL false] [(b8,1,[aL false]),(c4,1,[eL aI ([])]),(b9,1,[aL false])] hO rfl (by kernel_rfl) (fun H hO=>eC (bT [] [(6,.lp b9 0 0)] (aO (aO (aS aG 2 (bM 1 (cU (aBP l0 _ e7) hO (fun H hO=>eC (bT [0] [(13,.fn (.func 81) [] [.rp (eL aM x5)])] (bS 0 (eA [(3,.rp (.fn (.func b5) b6 b7)),(4,.lp b8 0 0),(5,.lp c4 0 0),(6,.lp b9 0 0),(13,.fn (.func 81) [] [.rp (eL aM x5)])] (dJ (fun T H=>∃ t4:Bool,∃ wW:(List aF),∃ qI:Bool,∃ HB:(List aK),Has T [(3,.rp (.fn (.func b5) b6 b7)),(4,.lp b8 0 0),(5,.lp c4 0 0),(6,.lp b9 0 0),(13,.fn (.func 81) [] [.rp (eL aM HB)])]/\aN ⟨H0,[],[]⟩ H [(b8,1,[aL t4]),(c4,1,[eL aI wW]),(b9,1,[aL qI])]/\NY GN t4 wW qI HB=some r) ?_ ⟨false,[],false,x5,aV,hO,h0⟩))))))))))))))))))))));rintro T H ⟨t4,wW,qI,HB,hT,hO,h0⟩;unfold NY at h0;obtain⟨o0,e8,h0⟩:=aW h0;refine bB (l:=[(3,.rp (.fn (.func b5) b6 b7)),(4,.lp b8 0 0),(5,.lp c4 0 0),(6,.lp b9 0 0),(13,.fn (.func 81) [] [.rp (eL aM HB)])]) hT (TX (fid:=81) (ys:=[]) (cs:=[.rp (eL aM HB)]) #[14,15] (fun (A:QM) (b lL:Nat) (st:(Bool×(List aF)×Bool)⊕(Bool×(List aF)×Bool)) (G':Gs)=>Sum.elim (fun (s:Bool×(List aF)×Bool)=>G'=(lL,.raw (qZ b A .ready none))::(up [(b8,1,[aL s.1]),(c4,1,[eL aI s.2.1]),(b9,1,[aL s.2.2])]++[])) (fun (s:Bool×(List aF)×Bool)=>G'=(lL,.raw (qZ b A .done (some .ret)))::(up [(b8,1,[aL s.1]),(c4,1,[eL aI s.2.1]),(b9,1,[aL s.2.2])]++[])) st) (.inl (t4,wW,qI)) o0 (.tup []) (by kernel_rfl) (by kernel_rfl) (by kernel_rfl) hO (fun _ _=>rfl) ?_ ?_)
 ·intro b lL;refine WN _ b (fun st t14 t15=>rnd (fun (s:Bool×(List aF)×Bool)=>xP GN HB s.1 s.2.1 s.2.2 t14 t15) st) ?_ HB _ _ e8;intro st t14 t15 c9 rr hr;obtain⟨s,rfl,h1,rfl⟩:=aGQ hr;clear hr;intro Hr Gr hi hg;obtain⟨t4,wW,qI⟩:=s;dsimp only [Sum.elim_inl] at hi;obtain rfl:=hi;replace h1:xP GN HB t4 wW qI t14 t15=some c9:=h1;unfold xP at h1;obtain⟨E1,hE,hO⟩:=KK hg;refine KH (TV (hO.gm 0 _ rfl).2 (by kernel_rfl) (by kernel_rfl) (eA [(3,.rp (.fn (.func b5) b6 b7)),(4,.lp b8 0 0),(5,.lp c4 0 0),(6,.lp b9 0 0),(13,.fn (.func 81) [] [.rp (eL aM HB)]),(14,eL aI t14),(15,eL aE t15)] (aY aG 1 [13,14] [(7,eL aI t14)] (aS aG 1 (bC (cN [(3,.rp (.fn (.func b5) b6 b7)),(4,.lp b8 0 0),(5,.lp c4 0 0),(6,.lp b9 0 0),(7,eL aI t14),(8,eL aE t15)] (aJ (⟨rfl,rfl,(hO.gm 0 _ rfl).2,?_⟩))))))));intro o1 c6;replace hO:=hO.wV o1;obtain⟨x7,e9,h1⟩:=aW h1;obtain⟨c7,e3,h1⟩:=aW h1;obtain⟨c8,e4,h1⟩:=aW h1;refine bS 1 (aO (aO (aS aG 18 (bM 1 (cU (MU t14 _ e9) hO (fun H hO=>bM 4 (TE [(19,false)] 2 b9 1 0 (aL qI) (aL qI) [aL qI] (by kernel_rfl) (by kernel_rfl) hO (by kernel_rfl) (!(!x7)) (by kernel_rfl) (fun g2=>rfl) (bM 6 (TE [(21,true),(19,false)] 1 c4 1 0 (eL aI wW) (eL aI wW) [eL aI wW] (by kernel_rfl) (by kernel_rfl) hO (by kernel_rfl) (qI&&(!(!x7))) (by kernel_rfl) (fun g3=>rfl) (bM 8 (rY [(21,true),(19,false)] 40 [eL aI wW,eL aI t14] (eI c7) (qI&&(!(!x7))) (by kernel_rfl) (by kernel_rfl) (by kernel_rfl) (fun e5=>(ZY wW t14 _ (kW e3 e5))) hO (fun H hO=>bM 15 (rY [(28,false)] b5 (b6++[eL aE t15]++b7) (aL c8) (!((!x7)||(qI&&(decide (0<=c7))))) (by kernel_rfl) (by kernel_rfl) (by kernel_rfl) (fun e6=>(c5 t15 _ (kW e4 e6))) hO (fun H hO=>bC (bT [3,8] [(33,aL (((!x7)||(qI&&(decide (0<=c7))))||(!c8)))] (bI h1 (fun h1=>?_) (fun h1=>?_)))))))))))))))))
  ·obtain rfl:=oI h1;exact aO (aS aG 1 (mK 0 b8 1 0 (aL t4) (aL false) [aL t4] [(b8,1,[aL false]),(c4,1,[eL aI wW]),(b9,1,[aL qI])] hO rfl (by kernel_rfl) (fun H hO=>eC (bT [7,33] [] (bK (cN [(4,.lp b8 0 0),(5,.lp c4 0 0),(6,.lp b9 0 0)] (aJ (aR (bH (⟨(pV hO hE c6 .dead).1,rfl,_,rfl,(pV hO hE c6 _).2⟩))))))))))
  obtain rfl:=oI h1;exact bG (bD [(4,.lp b8 0 0),(5,.lp c4 0 0),(6,.lp b9 0 0),(7,eL aI t14)] (aS aG 3 (bM 1 (mK 1 c4 1 0 (eL aI wW) (eL aI t14) [eL aI wW] [(b8,1,[aL t4]),(c4,1,[eL aI t14]),(b9,1,[aL qI])] hO rfl (by kernel_rfl) (fun H hO=>mK 2 b9 1 0 (aL qI) (aL true) [aL qI] [(b8,1,[aL t4]),(c4,1,[eL aI t14]),(b9,1,[aL true])] hO rfl (by kernel_rfl) (fun H hO=>eC (cN [(4,.lp b8 0 0),(5,.lp c4 0 0),(6,.lp b9 0 0)] (aJ (aX (⟨(pV hO hE c6 .dead).1,rfl,_,rfl,(pV hO hE c6 _).2⟩))))))))))
 ·intro b g4 lL H' G' hi hO;rcases o0 with s | s
  ·dsimp only [Sum.elim_inl] at hi;obtain rfl:=hi;replace h0:(some true)=some r:=h0;obtain⟨hlL,hO⟩:=zG hO;refine⟨_,_,hlL,(by intro e;cases e),?_⟩;refine cN [(4,.lp b8 0 0)] ?_;replace hO:=hO.pick (L':=[(b8,1,[aL s.1])]) [0] (by decide) (by kernel_rfl);obtain rfl:=oI h0;refine aJ (aX (aH (aO (aS aG 1 (mK 0 b8 1 0 (aL s.1) (aL true) [aL s.1] [(b8,1,[aL true])] hO rfl (by kernel_rfl) (fun H hO=>eC (bD [(4,.lp b8 0 0)] (bK ?_))))))));have hD:=(hO.gm 0 _ rfl).2;replace hO:=(hO.wV .dead).tC;exact aJ (QM1 (.inr rfl) hD (rs:=[.cell 4 4]) (xs:=[aL true]) (x:=(aL true)) (by kernel_rfl) (IF (lo:=b8) (k:=1) (y:=(aL true)) (x:=(aL true)) 0 hO (by kernel_rfl) (by kernel_rfl) (by kernel_rfl) (by kernel_rfl) wE) (by kernel_rfl) ⟨rfl,hO.out⟩)
  ·dsimp only [Sum.elim_inr] at hi;obtain rfl:=hi;replace h0:(some s.1)=some r:=h0;obtain⟨hlL,hO⟩:=zG hO;refine⟨_,_,hlL,(by intro e;cases e),?_⟩;refine bK ?_;replace hO:=hO.pick (L':=[(b8,1,[aL s.1])]) [0] (by decide) (by kernel_rfl);obtain rfl:=oI h0;have hD:=(hO.gm 0 _ rfl).2;replace hO:=(hO.wV .dead).tC;exact aJ (bH (aR (QM1 (.inr rfl) hD (rs:=[.cell 4 4]) (xs:=[aL s.1]) (x:=(aL s.1)) (by kernel_rfl) (IF (lo:=b8) (k:=1) (y:=(aL s.1)) (x:=(aL s.1)) 0 hO (by kernel_rfl) (by kernel_rfl) (by kernel_rfl) (by kernel_rfl) wE) (by kernel_rfl) ⟨rfl,hO.out⟩)))
theorem aG4 (n0:Int)(r:Bool)(h0:QK n0=some r):cW Tryz.prog 80 [eI n0] (aL r):=by
 intro H0;have hO:=aN.start H0;unfold QK at h0;obtain rfl:=oI h0;exact cX Tryz.func80 (aY aG 1 [] [] (bW aG 7 [(2,aL ((decide (n0<=1048576))&&(decide ((-1048576:Int)<=n0))))] (bK (aJ (Q_r hO)))))
theorem zC (f0:(List aB))(r:Bool)(h0:rH f0=some r):cW Tryz.prog 49 [eL aE f0] (aL r):=by
 intro H0;have hO:=aN.start H0;unfold rH at h0;refine cX Tryz.func49 (aY aG 1 [] [] (aO (aY aG 3 [] [(8,aL (decide (1024<(lN f0))))] (bI h0 (fun h0=>?_) (fun h0=>?_)))))
 ·obtain rfl:=oI h0;exact bW aG 1 [(2,aL false)] (bK (aJ (aR (Q_r hO))))
 refine bG (bD [(0,eL aE f0)] (aY aG 1 [] [(3,eI (-2:Int))] (dH (fun T H=>Has T []/\aN ⟨H0,[],[]⟩ H []/\JX  = some r) ?_ ?_)))
 ·rintro T H ⟨hT,hO,h0⟩;unfold JX at h0;obtain rfl:=oI h0;exact bB hT (bW aG 1 [(2,aL true)] (bK (aJ (Q_r hO))))
 refine aY aG 3 [0] [(9,eL aE f0),(10,eI (lN f0)),(11,eI 0)] (bS 0 (eA [(3,eI (-2:Int)),(9,eL aE f0),(10,eI (lN f0)),(11,eI 0)] (dJ (fun T H=>∃ AB:Int,∃ t9:(List aB),∃ t10 t11:Int,Has T [(3,eI AB),(9,eL aE t9),(10,eI t10),(11,eI t11)]/\aN ⟨H0,[],[]⟩ H []/\QT AB t9 t10 t11=some r) ?_ ⟨(-2:Int),f0,lN f0,(0:Int),aV,hO,h0⟩)));rintro T H ⟨AB,t9,t10,t11,hT,hO,h0⟩;unfold QT at h0;obtain⟨b6,c4,h0⟩:=aW h0;refine bB hT (eE (fun (s:Int×Int) T H=>Has T [(3,eI s.1),(9,eL aE t9),(10,eI t10),(11,eI s.2)]/\aN ⟨H0,[],[]⟩ H []) c4 ⟨aV,hO⟩ ?_);rintro k0 s b8 T H ⟨hT,hO⟩ h1 b7;obtain⟨AB,t11⟩:=s;replace h1:tJ t9 t10 AB t11=some b8:=h1
 try dsimp only at hT
 unfold tJ at h1;refine bB hT (aY aG 1 [] [(12,aL (decide (t11<t10)))] (aO (bI h1 (fun h1=>?_) (fun h1=>?_))))
 ·obtain⟨c3,h1⟩:=aZ h1;obtain⟨x8,c5,h1⟩:=aW h1;refine bG (bD [(3,eI AB),(9,eL aE t9),(10,eI t10),(11,eI t11)] (aO (bS 1 (aO (aS aG 4 (nM 2 [0<=t11/\t11<(lN t9)] ⟨c3,trivial⟩ (nF 2 (aE (aB.mk 0 0)) (by kernel_rfl) (by kernel_rfl) hO (fun b5 H hO=>mK 0 b5 2 0 (aE (aB.mk 0 0)) (aE (gD t9 t11)) [aE (aB.mk 0 0)] [(b5,2,[aE (gD t9 t11)])] hO rfl (by kernel_rfl) (fun H hO=>eC (bT [] [(5,.lp b5 0 0)] (aO (aO (aS aG 20 (bM 1 (gW 0 b5 2 0 (aE (gD t9 t11)) (eI ((gD t9 t11).At)) [aE (gD t9 t11)] hO rfl (bM 6 (TE [(19,false)] 0 b5 2 0 (aE (gD t9 t11)) (eI ((gD t9 t11).At)) [aE (gD t9 t11)] (by kernel_rfl) (by kernel_rfl) hO (by kernel_rfl) (!(decide (((gD t9 t11).At)<=AB))) (by kernel_rfl) (fun c6=>rfl) (bM 11 (TE [(24,false)] 0 b5 2 0 (aE (gD t9 t11)) (eI ((gD t9 t11).Net)) [aE (gD t9 t11)] (by kernel_rfl) (by kernel_rfl) hO (by kernel_rfl) (!((decide (((gD t9 t11).At)<=AB))||(decide (1125899906842624<=((gD t9 t11).At))))) (by kernel_rfl) (fun c7=>rfl) (bM 16 (TE [(29,false)] 0 b5 2 0 (aE (gD t9 t11)) (eI ((gD t9 t11).Net)) [aE (gD t9 t11)] (by kernel_rfl) (by kernel_rfl) hO (by kernel_rfl) (!(((decide (((gD t9 t11).At)<=AB))||(decide (1125899906842624<=((gD t9 t11).At))))||(decide (((gD t9 t11).Net)=0)))) (by kernel_rfl) (fun c8=>rfl) (rY [(29,false)] 80 [eI ((gD t9 t11).Net)] (aL x8) (!(((decide (((gD t9 t11).At)<=AB))||(decide (1125899906842624<=((gD t9 t11).At))))||(decide (((gD t9 t11).Net)=0)))) (by kernel_rfl) (by kernel_rfl) (by kernel_rfl) (fun b9=>(aG4 ((gD t9 t11).Net) _ (kW c5 b9))) hO (fun H hO=>bC (bT [3] [(34,aL ((((decide (((gD t9 t11).At)<=AB))||(decide (1125899906842624<=((gD t9 t11).At))))||(decide (((gD t9 t11).Net)=0)))||(!x8)))] (bI h1 (fun h1=>?_) (fun h1=>?_))))))))))))))))))))))))))
  ·refine aO (aS aG 1 (bC (cN [(2,aL false)] ?_)));replace hO:=hO.pick (L':=[]) [] (by decide) (by kernel_rfl);obtain rfl:=oI h1;obtain rfl:_=b6:=b7;replace h0:some false=some r:=h0;obtain rfl:=oI h0;exact aJ (aH (bK (aJ (aR (bH (aR (aR (bH (aR (Q_r hO))))))))))
  refine bG (bD [(5,.lp b5 0 0),(9,eL aE t9),(10,eI t10),(11,eI t11)] (aS aG 3 (bM 1 (gW 0 b5 2 0 (aE (gD t9 t11)) (eI ((gD t9 t11).At)) [aE (gD t9 t11)] hO rfl (bC (cN [(3,eI ((gD t9 t11).At)),(9,eL aE t9),(10,eI t10),(11,eI t11)] ?_))))));replace hO:=hO.pick (L':=[]) [] (by decide) (by kernel_rfl);exact aJ (aX (aH (aS aG 2 (bC (aJ (aH (⟨rfl,_,(oI h1).symm,aV,hO⟩)))))))
 obtain rfl:=oI h1;obtain rfl:_=b6:=b7;replace h0:JX  = some r:=h0;exact dV 0 (aJ (aT (aT (bN (aH (⟨rfl,aV,hO,h0⟩))))))
theorem YX (l0:(List aK))(r:Bool)(h0:BS l0=some r):cW Tryz.prog 24 [eL aM l0] (aL r):=by
 intro H0;have hO:=aN.start H0;unfold BS at h0;obtain⟨x1,b5,h0⟩:=aW h0;refine cX Tryz.func24 (aY aG 1 [] [] (aO (aS aG 3 (bM 1 (cU (aBB l0 49 [] [] (fun y0=>rH y0) (fun y0 r h=>zC y0 r h) _ b5) hO ?_)))));obtain rfl:=oI h0;intro H hO;exact bC (bD [(2,aL x1)] (bK (aJ (Q_r hO))))
theorem IW {σ:Type}(I:σ->Gs->Prop)(b5:Nat)(mB:σ->(List aF)->(List aB)->Option (σ×Bool))(b7:∀ st a0 a1 c4 r,mB st a0 a1=some (c4,r)->SQ Tryz.prog (yv b5) I st [eL aI a0,eL aE a1] c4 (aL r))(t1:(List aK))(b8:σ)(r:σ)(h0:rM mB t1 b8=some r):BP Tryz.prog 51 I b8 [yv b5,.rp (eL aM t1)] r (.tup []):=by
 intro H0 G0 hI hg;refine aBk aG Tryz.func51 (by kernel_rfl) (by kernel_rfl) (by kernel_rfl) ?_;obtain⟨G,hO,hI⟩:∃ G,aN ⟨H0,List.map (fun p:Nat×fD=>p.1) G0,G⟩ H0 []/\I b8 G:=⟨G0,aN.YJ hg,hI⟩;clear hg;unfold rM at h0;obtain⟨x1,c6,h0⟩:=aW h0;refine aO (aS aG 1 (AU 1 (yv b5) (eC (bT [0] [(2,.rp (yv b5))] (aO (aO (aS aG 3 (bM 1 (cU (YX t1 _ c6) hO (fun H hO=>bC (bT [] [(7,aL (!x1))] (bI h0 (fun h0=>?_) (fun h0=>?_)))))))))))))
 ·obtain rfl:=oI h0;exact bK (aJ (aR (QM0 (.inr rfl) (rs:=[]) (xs:=[]) (x:=(.tup [])) (by kernel_rfl) wE (by kernel_rfl) ⟨rfl,G,hI,hO.TZ⟩)))
 obtain⟨x5,c7,h0⟩:=aW h0;refine bG (bD [(1,.rp (eL aM t1)),(2,.rp (yv b5))] (aO (aS aG 2 (bM 1 (cU (aBP t1 _ c7) hO (fun H hO=>eC (bT [1] [(9,.fn (.func 81) [] [.rp (eL aM x5)])] (bS 0 (eA [(2,.rp (yv b5)),(9,.fn (.func 81) [] [.rp (eL aM x5)])] (dJ (fun T H=>∃ sg:σ,∃ b6:(List aK),∃ G:Gs,Has T [(2,.rp (yv b5)),(9,.fn (.func 81) [] [.rp (eL aM b6)])]/\aN ⟨H0,List.map (fun p:Nat×fD=>p.1) G0,G⟩ H []/\I sg G/\zH mB sg b6=some r) ?_ ⟨b8,x5,G,aV,hO,hI,h0⟩))))))))));rintro T H ⟨sg,b6,G,hT,hO,hI,h0⟩;unfold zH at h0;obtain⟨o0,c8,h0⟩:=aW h0;refine bB (l:=[(2,.rp (yv b5)),(9,.fn (.func 81) [] [.rp (eL aM b6)])]) hT (TX (fid:=81) (ys:=[]) (cs:=[.rp (eL aM b6)]) #[10,11] (fun (A:QM) (b lL:Nat) (st:(σ)⊕(σ)) (G':Gs)=>Sum.elim (fun (s:σ)=>∃ G:Gs,I s G/\G'=(lL,.raw (qZ b A .ready none))::(up []++G)) (fun (s:σ)=>∃ G:Gs,I s G/\G'=(lL,.raw (qZ b A .done (some .ret)))::(up []++G)) st) (.inl sg) o0 (.tup []) (by kernel_rfl) (by kernel_rfl) (by kernel_rfl) hO (fun _ _=>⟨G,hI,rfl⟩) ?_ ?_)
 ·intro b lL;refine WN _ b (fun st t10 t11=>rnd (fun (s:σ)=>qS mB b6 s t10 t11) st) ?_ b6 _ _ c8;intro st t10 t11 c5 rr hr;obtain⟨s,rfl,h1,rfl⟩:=aGQ hr;clear hr;intro Hr Gr hi hg;obtain⟨sg,rfl⟩:∃ x,x=s:=⟨_,rfl⟩;dsimp only [Sum.elim_inl] at hi;obtain⟨G,hI,rfl⟩:=hi;replace h1:qS mB b6 sg t10 t11=some c5:=h1;unfold qS at h1;obtain⟨E1,hE,hO⟩:=KK hg;refine KH (TV (hO.gm 0 _ rfl).2 (by kernel_rfl) (by kernel_rfl) (eA [(2,.rp (yv b5)),(9,.fn (.func 81) [] [.rp (eL aM b6)]),(10,eL aI t10),(11,eL aE t11)] (aY aG 1 [9,10] [(3,eL aI t10)] (aS aG 1 (bC (cN [(2,.rp (yv b5)),(3,eL aI t10),(4,eL aE t11)] (aJ (⟨rfl,rfl,(hO.gm 0 _ rfl).2,?_⟩))))))));intro o1 b9;replace hO:=hO.wV o1;obtain⟨x7,c9,h1⟩:=aW h1;refine bS 1 (aO (aS aG 5 (bM 3 (aL8 (I:=I) (yv b5) [eL aI t10,eL aE t11] (aL x7.2) (by kernel_rfl) (by kernel_rfl) (b7 _ t10 t11 x7.1 x7.2 c9) hO hI (fun G H hO hI=>bC (bD [(16,aL (!x7.2))] (bI h1 (fun h1=>?_) (fun h1=>?_))))))))
  ·obtain rfl:=oI h1;exact bK (cN [] (aJ (bH (⟨(pV hO hE b9 .dead).1,rfl,_,⟨G,hI,rfl⟩,(pV hO hE b9 _).2⟩))))
  obtain rfl:=oI h1;exact bG (cN [] (aJ (aX (⟨(pV hO hE b9 .dead).1,rfl,_,⟨G,hI,rfl⟩,(pV hO hE b9 _).2⟩))))
 ·intro b e3 lL H' G' hi hO;rcases o0 with s | s
  ·dsimp only [Sum.elim_inl] at hi;obtain⟨G,hI,rfl⟩:=hi;replace h0:(some s)=some r:=h0;obtain⟨hlL,hO⟩:=zG hO;refine⟨_,_,hlL,(by intro e;cases e),?_⟩;obtain rfl:=oI h0;have hD:=(hO.gm 0 _ rfl).2;replace hO:=(hO.wV .dead).tC;exact aJ (aX (QM1 (.inl rfl) hD (rs:=[]) (xs:=[]) (x:=(.tup [])) (by kernel_rfl) wE (by kernel_rfl) ⟨rfl,G,hI,hO.TZ⟩))
  ·dsimp only [Sum.elim_inr] at hi;obtain⟨G,hI,rfl⟩:=hi;replace h0:(some s)=some r:=h0;obtain⟨hlL,hO⟩:=zG hO;refine⟨_,_,hlL,(by intro e;cases e),?_⟩;obtain rfl:=oI h0;refine bK ?_;have hD:=(hO.gm 0 _ rfl).2;replace hO:=(hO.wV .dead).tC;exact aJ (bH (QM1 (.inr rfl) hD (rs:=[]) (xs:=[]) (x:=(.tup [])) (by kernel_rfl) wE (by kernel_rfl) ⟨rfl,G,hI,hO.TZ⟩))
theorem EF {σ:Type}(I:σ->Gs->Prop)(s0:(List aK))(b5:V)(f1:σ->aK->Option (σ×Bool))(c4:∀ st a0 b7 r,f1 st a0=some (b7,r)->SQ Tryz.prog b5 I st [aM a0] b7 (aL r))(b6:σ)(r:(σ×Int))(h0:mZ s0 f1 b6=some r):BP Tryz.prog 50 I b6 [eL aM s0,b5] r.1 (eI r.2):=by
 intro H0 G0 hI hg;refine cX Tryz.func50 ?_;obtain⟨G,hO,hI⟩:∃ G,aN ⟨H0,List.map (fun p:Nat×fD=>p.1) G0,G⟩ H0 []/\I b6 G:=⟨G0,aN.YJ hg,hI⟩;clear hg;unfold mZ at h0;refine aY aG 1 [] [] (dH (fun T H=>∃ sg:σ,∃ G:Gs,Has T []/\aN ⟨H0,List.map (fun p:Nat×fD=>p.1) G0,G⟩ H []/\I sg G/\mO f1 sg=some r) ?_ ?_)
 ·rintro T H ⟨sg,G,hT,hO,hI,h0⟩;unfold mO at h0;obtain rfl:=oI h0;exact bB hT (bW aG 1 [(4,eI (-1:Int))] (bK (aJ (oO (x:=(eI (-1:Int))) (by kernel_rfl) (sR) ⟨rfl,G,hI,hO.TZ⟩))))
 refine aY aG 3 [] [(7,eI (lN s0)),(8,eI 0)] (bS 0 (eA [(0,eL aM s0),(1,b5),(7,eI (lN s0)),(8,eI 0)] (dJ (fun T H=>∃ sg:σ,∃ t7 t8:Int,∃ G:Gs,Has T [(0,eL aM s0),(1,b5),(7,eI t7),(8,eI t8)]/\aN ⟨H0,List.map (fun p:Nat×fD=>p.1) G0,G⟩ H []/\I sg G/\mP f1 sg s0 t7 t8=some r) ?_ ⟨b6,lN s0,(0:Int),G,aV,hO,hI,h0⟩)));rintro T H ⟨sg,t7,t8,G,hT,hO,hI,h0⟩;unfold mP at h0;obtain⟨b8,c6,h0⟩:=aW h0;refine bB hT (eE (fun (s:σ×Int) T H=>∃ G:Gs,Has T [(0,eL aM s0),(1,b5),(7,eI t7),(8,eI s.2)]/\aN ⟨H0,List.map (fun p:Nat×fD=>p.1) G0,G⟩ H []/\I s.1 G) c6 ⟨G,aV,hO,hI⟩ ?_);rintro k0 s c5 T H ⟨G,hT,hO,hI⟩ h1 b9;obtain⟨sg,t8⟩:=s;replace h1:eW f1 s0 t7 sg t8=some c5:=h1
 try dsimp only at hT
 unfold eW at h1;refine bB hT (aY aG 1 [] [(9,aL (decide (t8<t7)))] (aO (bI h1 (fun h1=>?_) (fun h1=>?_))))
 ·obtain⟨c2,h1⟩:=aZ h1;obtain⟨x3,c7,h1⟩:=aW h1;refine bG (bD [(0,eL aM s0),(1,b5),(7,eI t7),(8,eI t8)] (aO (bS 1 (aY aG 2 [] [(5,eI t8)] (aO (aS aG 6 (nM 5 [0<=t8/\t8<(lN s0)] ⟨c2,trivial⟩ (aBp (I:=I) b5 [aM (gD s0 t8)] (aL x3.2) (by kernel_rfl) (by kernel_rfl) (c4 _ (gD s0 t8) x3.1 x3.2 c7) hO hI (fun G H hO hI=>eC (bT [] [(16,aL x3.2)] (bI h1 (fun h1=>?_) (fun h1=>?_))))))))))))
  ·obtain rfl:=oI h1;obtain rfl:_=b8:=b9;replace h0:some (x3.1,t8)=some r:=h0;obtain rfl:=oI h0;exact bW aG 2 [(4,eI t8)] (bK (aJ (bH (aR (aR (bH (aR (oO (x:=(eI t8)) (by kernel_rfl) (sR) ⟨rfl,G,hI,hO.TZ⟩))))))))
  exact bG (cN [(0,eL aM s0),(1,b5),(7,eI t7),(8,eI t8)] (aJ (aX (aH (aS aG 2 (bC (aJ (aH (⟨rfl,_,(oI h1).symm,_,aV,hO,hI⟩)))))))))
 obtain rfl:=oI h1;obtain rfl:_=b8:=b9;replace h0:mO f1 sg=some r:=h0;exact dV 0 (aJ (aT (aT (bN (aH (⟨rfl,_,_,aV,hO,hI,h0⟩))))))
theorem BH {σ:Type}(I:σ->Gs->Prop)(s0:(List aK))(b5:V)(f1:σ->aK->Option (σ×Bool))(b8:∀ st a0 b7 r,f1 st a0=some (b7,r)->SQ Tryz.prog b5 I st [aM a0] b7 (aL r))(b6:σ)(r:(σ×Bool))(h0:gX s0 f1 b6=some r):BP Tryz.prog 25 I b6 [eL aM s0,b5] r.1 (aL r.2):=by
 intro H0 G0 hI hg;refine cX Tryz.func25 ?_;obtain⟨G,hO,hI⟩:∃ G,aN ⟨H0,List.map (fun p:Nat×fD=>p.1) G0,G⟩ H0 []/\I b6 G:=⟨G0,aN.YJ hg,hI⟩;clear hg;unfold gX at h0;obtain⟨x1,b9,h0⟩:=aW h0;obtain rfl:=oI h0;exact aY aG 1 [] [] (aO (aS aG 5 (bM 2 (aBp (I:=I) (.fn (.func 50) [] []) [eL aM s0,b5] (eI x1.2) (by kernel_rfl) (by kernel_rfl) (BP.toV (EF I s0 b5 f1 b8 b6 _ b9)) hO hI (fun G H hO hI=>bC (bD [(4,aL (decide (0<=x1.2)))] (bK (aJ (oO (x:=(aL (decide (0<=x1.2)))) (by kernel_rfl) (sR) ⟨rfl,G,hI,hO.TZ⟩)))))))))
end Go.Abs
end
