/- What the law WindowClocks stands on: the framework, the given functions as plain functions, their walks, and the plain laws; part 6. -/
import Derived.Test.YteecjdpicjpnfabGreatWindowClocksZ5
set_option linter.unusedSimpArgs false
set_option linter.unusedVariables false
namespace Go.Abs
open Go
theorem VE {l:List aK}:(List.range l.length).any (GR l)=false↔(∀ e∈l,lA e.Row=true/\rD (-2) (jE e)=false)/\l.Pairwise ltE:=by
 rw [List.any_eq_false,aD8 (R:=ltE) (fun h1 h2=>aDS h1 h2)];constructor
 ·intro h;have h':∀ i,i<l.length->GR l i=false:=fun i hi=>by simpa using h i (List.mem_range.2 hi)
  refine⟨fun e he=>?_,fun i a b ha hb=>?_⟩
  ·obtain⟨i,hi,rfl⟩:=List.mem_iff_getElem.1 he;have:=h' i hi;unfold GR at this;rw [Bool.or_eq_false_iff] at this;have h1:=this.1;simp only [List.getD_eq_getElem?_getD,List.getElem?_eq_getElem hi,Option.getD_some,Bool.not_eq_false',Bool.and_eq_true,Bool.not_eq_true'] at h1;exact h1
  ·obtain⟨hi,rfl⟩:=List.getElem?_eq_some_iff.1 ha;obtain⟨hj,rfl⟩:=List.getElem?_eq_some_iff.1 hb;have:=h' (i+1) hj;have r1:=h' i hi;unfold GR at this r1;rw [Bool.or_eq_false_iff] at this r1;have h1:=this.2;have r2:=this.1;have r1:=r1.1;simp only [List.getD_eq_getElem?_getD,List.getElem?_eq_getElem hi,List.getElem?_eq_getElem hj,Option.getD_some,Bool.not_eq_false',Bool.and_eq_true,Bool.not_eq_true'] at r1 r2;simp only [List.getD_eq_getElem?_getD,Nat.add_sub_cancel,List.getElem?_eq_getElem hi,List.getElem?_eq_getElem hj,Option.getD_some,ne_eq,Nat.add_eq_zero_iff,Nat.one_ne_zero,and_false,not_false_eq_true,decide_true,Bool.true_and,Bool.or_eq_false_iff,decide_eq_false_iff_not,Bool.and_eq_false_iff,TB,r1.1,r2.1,Bool.and_self,if_true] at h1;by_cases hc:jD l[i].Row l[i+1].Row=0
   ·refine .inr ⟨(vF.eq _ _).1 hc,?_⟩;rcases h1.2 with h | h
    ·exact absurd hc h
    ·omega
   ·exact .inl (by omega)
 ·rintro ⟨h1,h2⟩ i hi;have hi:=List.mem_range.1 hi;unfold GR;have ge:l.getD i default=l[i]:=by simp [List.getD_eq_getElem?_getD,hi]
  have:=h1 l[i] (List.getElem_mem hi);rw [ge,this.1,this.2];by_cases h0:i=0
  ·simp [h0]
  ·have hi':i-1<l.length:=by omega
   have ge':l.getD (i-1) default=l[i-1]:=by simp [List.getD_eq_getElem?_getD,hi']
   have h3:=h2 (i-1) l[i-1] l[i] (List.getElem?_eq_getElem hi') (by rw [show i-1+1=i by omega]; exact List.getElem?_eq_getElem hi);rw [ge'];have r1:=(h1 l[i-1] (List.getElem_mem hi')).1;unfold TB;rw [r1,this.1];rcases h3 with h3 | ⟨h3,h4⟩
   ·have a:¬ 0<jD l[i-1].Row l[i].Row:=by omega
    have b:¬ jD l[i-1].Row l[i].Row=0:=by omega
    simp [a,b]
   ·have a:jD l[i-1].Row l[i].Row=0:=(vF.eq _ _).2 h3;have b:¬ l[i].At<=l[i-1].At:=by omega
    simp [a,b]

theorem IM {l:List aK}(hl:okL l):sX l=some (jZ l):=by
 unfold sX;by_cases hn:l.length<=4096
 ·have h1:decide ((4096:Int)<((l.length:Nat):Int))=false:=by simp; omega
  rw [h1,cond_false];unfold CB;have hlp:=KS (body:=fun s=>pM l s) (l:=List.range l.length) (fun i=>i) (GR l) (.inr false) (.inl ()) ?_ ?_
  ·rw [hlp]
   cases hb:(List.range l.length).any (GR l)
   ·obtain⟨h2,h3⟩:=VE.1 hb;have hr:=SO hl (fun e he=>(h2 e he).1) (by omega);simp only [Bool.false_eq_true,if_false,Option.bind_some,Sum.elim_inl,yI,hr,BD];have hrl:=RC l;rw [KS (l:=rowsOf l) (fun i=>i) (fun r=>decide (1024<(gJ l r).length)) (.inr false) (.inl ()) ?_ ?_]
    ·cases hc:(rowsOf l).any fun r=>decide (1024<(gJ l r).length)
     ·have : jZ l=true:=JI.2 ⟨hn,h2,h3,fun r hr=>by
       have:=List.any_eq_false.1 hc r hr;simp only [decide_eq_true_eq] at this; omega⟩
      rw [this]; rfl
     ·have : jZ l=false:=by
       rw [Bool.eq_false_iff];intro hm;obtain⟨r,hr,h4⟩:=List.any_eq_true.1 hc;have:=(JI.1 hm).2.2.2 r hr;simp only [decide_eq_true_eq] at h4; omega
      rw [this]; rfl
    ·intro i r hi;obtain⟨d1,d2,d3,d4⟩:=idx hi (by omega);show rL _ _ _=_;simp only [rL,d1,cond_true,aN d2,d3,d4,NP hl (show l.length<=1099511627776 by omega),Option.bind_some];by_cases h:1024<(gJ l r).length
     ·have h':(1024:Int)<(((gJ l r).length:Nat):Int):=by omega
      simp [h,h']
     ·have h':¬ (1024:Int)<(((gJ l r).length:Nat):Int):=by omega
      simp [h,h']
    ·show rL _ _ _=_;simp only [rL,gK,cond_false]
   ·have : jZ l=false:=by
     rw [Bool.eq_false_iff];intro hm;obtain⟨_,h2,h3,_⟩:=JI.1 hm;have:=VE.2 ⟨h2,h3⟩;rw [this] at hb; cases hb
    rw [this]; rfl
  ·intro i k hi;obtain⟨hi0,hk⟩:=List.getElem?_eq_some_iff.1 hi;rw [List.getElem_range] at hk;subst hk;have hi1:i<l.length:=by simpa using hi0
   have hx:=List.getElem?_eq_getElem hi1;obtain⟨d1,d2,d3,d4⟩:=idx hx (by omega);have hr:=hl.2 _ (List.getElem_mem hi1);have ge:l.getD i default=l[i]:=by simp [List.getD_eq_getElem?_getD,hi1]
   show pM _ _=_;simp only [pM,d1,cond_true,aN d2,d3,JA l[i].Row (by omega),Option.bind_some];rw [aN (fun _=>d2),aN (fun _=>d2)]
   have hm:tA [⟨l[i].At,l[i].Net⟩]=some (!rD (-2) (jE l[i])):=by
    rw [UY];simp only [iG,chk,List.length_cons,List.length_nil,jE]
    cases rD (-2) ⟨l[i].At,l[i].Net⟩ <;> rfl
   rw [hm];unfold GR;rw [ge]
   cases h2:lA l[i].Row
   ·simp [cW]
   ·cases h3:rD (-2) (jE l[i])
    ·simp only [cW,Bool.not_true,Bool.not_false,cond_true,Option.bind_some,Bool.or_self,cond_false,Bool.and_self];by_cases h0:i=0
     ·subst h0;simp [tO,cI]
     ·have hi':i-1<l.length:=by omega
      have hw:IntKind.i64.wrap ((i:Int)-1)=((i-1:Nat):Int):=by rw [cI (by omega) (by omega)]; omega
      have hx':=List.getElem?_eq_getElem hi';obtain⟨_,e2,e3,_⟩:=idx hx' (by omega);have ge':l.getD (i-1) default=l[i-1]:=by simp [List.getD_eq_getElem?_getD,hi']
      have hr':=hl.2 _ (List.getElem_mem hi');have hz:decide ((i:Int)=0)=false:=by simp; omega
      simp only [hz,cond_false,hw,aN e2,aN d2,e3,d3,ge'];rw [LH _ _ (by omega) (by omega),show (if (lA l[i-1].Row&&lA l[i].Row)=true then jD l[i-1].Row l[i].Row else 0)=TB l[i-1].Row l[i].Row from rfl];simp only [Option.bind_some,tO,d4];rw [aN (fun _=>e2),aN (fun _=>d2)]
      generalize TB l[i-1].Row l[i].Row=c
      cases hz2:(decide (0<c)||(decide (c=0)&&decide (l[i].At<=l[i-1].At)))
      ·simp
      ·simp [h0]
    ·simp [cW]
  ·show pM _ _=_;simp only [pM,List.length_range,gK,cond_false]
 ·have h1:decide ((4096:Int)<((l.length:Nat):Int))=true:=by simp; omega
  rw [h1,cond_true];simp [jZ,hn]

end Go.Abs
namespace Go.Abs
open Go
theorem aBi {c:Int}:∀ {l:List Int} {m:Int},c<=l.foldl mn m↔c<=m /\ ∀ x∈l,c<=x
 | [],m=>by simp
 | a::l,m=>by
  rw [List.foldl_cons,aBi];unfold mn;constructor
  ·rintro ⟨h1,h2⟩;have h3:c<=m/\c<=a:=by split at h1 <;> omega
   refine⟨h3.1,fun x hx=>?_⟩;rcases List.mem_cons.1 hx with rfl | hx
   ·exact h3.2
   ·exact h2 x hx
  ·rintro ⟨h1,h2⟩;have:=h2 a (by simp);exact⟨by split <;> omega,fun x hx=>h2 x (by simp [hx])⟩

theorem UG {t:Int}:∀ {f:List aI} {l v:Int},tZ l f->v+val f t=v∨v+val f t∈parts v f
 | [],l,v,_=>.inl (by simp [val])
 | j::r,l,v,h=>by
  unfold parts;rw [lZ];by_cases e:j.At<=t
  ·rw [if_pos e];right;rcases UG (t:=t) (v:=v+j.Net) h.2 with h1 | h1
   ·rw [show v+(j.Net+val r t)=v+j.Net by omega]; simp
   ·rw [show v+(j.Net+val r t)=v+j.Net+val r t by omega]; exact List.mem_cons_of_mem _ h1
  ·left;rw [if_neg e,h.2.aEA (by omega)]; omega

theorem GK {f:List aI}(hf:iG f=true):0<=yC f ↔ ∀ t,0<=val f t:=by
 have hr:=(oE.1 hf).2;unfold yC;rw [aBi];constructor
 ·rintro ⟨_,h2⟩ t;rcases UG (t:=t) (v:=0) hr with h | h
  ·omega
  ·rw [parts_eq hr] at h;obtain⟨j,hj,h⟩:=List.mem_map.1 h;have:=h2 _ (List.mem_map.2 ⟨j,hj,rfl⟩);omega
 ·intro h;refine⟨h _,fun x hx=>?_⟩;obtain⟨j,_,rfl⟩:=List.mem_map.1 hx;exact h _

theorem DY {l:List aK}:kS l=true↔jZ l=true /\ ∀ r t,0<=val (gJ l r) t:=by
 constructor
 ·intro h;unfold kS at h;rw [Bool.and_eq_true,AU] at h;obtain⟨h1,h2,h3,_⟩:=h
  have hm:jZ l=true:=by
   unfold jZ;rw [Bool.and_eq_true];exact⟨h1,AU.2 ⟨fun g hg=>⟨(h2 g hg).1,by have:=(h2 g hg).2; unfold TG at this; rw [Bool.and_eq_true] at this; exact this.1⟩,h3,fun q hq=>by cases hq⟩⟩
  refine⟨hm,fun r=>?_⟩;rw [←CC h3];rcases RB (groups l) r with ⟨e,_⟩ | ⟨g,hg,_,e⟩
  ·rw [e]; intro t; simp [val]
  ·rw [e];have:=(h2 g hg).2;unfold TG at this;rw [Bool.and_eq_true,decide_eq_true_eq] at this;exact (GK this.1).1 this.2
 ·rintro ⟨hm,h⟩;obtain⟨h1,h2,h3⟩:=oA hm;unfold kS;rw [Bool.and_eq_true];refine⟨by simpa using h1,AU.2 ⟨fun g hg=>⟨(h2 g hg).1,?_⟩,h3,fun q hq=>by cases hq⟩⟩;unfold TG;rw [Bool.and_eq_true,decide_eq_true_eq];refine⟨(h2 g hg).2,(GK (h2 g hg).2).2 ?_⟩;have : g.2=gJ l g.1:=by rw [←CC h3,OI h3 hg]
  rw [this]; exact h g.1

theorem ZY {l:List aK}{r:List aG}(h:r ∉ rowsOf l):gJ l r=[] :=
 aAC fun e he hr=>h (SE.2 ⟨e,he,hr⟩)

theorem MO {l:List aK}(hl:okL l):rX l=some (kS l):=by
 unfold rX;rw [IM hl]
 cases hm:jZ l
 ·have : kS l=false:=by
   rw [Bool.eq_false_iff]; intro h;rw [(DY.1 h).1] at hm; cases hm
  rw [this]; rfl
 ·obtain⟨h1,h2,_⟩:=JI.1 hm;simp only [Option.bind_some,Bool.not_true,cond_false,SO hl (fun e he=>(h2 e he).1) (show l.length<=1099511627776 by omega),yN];have hrl:=RC l;rw [KS (l:=rowsOf l) (fun i=>i) (fun r=>decide (yC (gJ l r)<0)) (.inr false) (.inl ()) ?_ ?_]
  ·cases hc:(rowsOf l).any fun r=>decide (yC (gJ l r)<0)
   ·have : kS l=true:=DY.2 ⟨hm,fun r=>by
     by_cases hr:r∈rowsOf l
     ·have:=List.any_eq_false.1 hc r hr;simp only [decide_eq_true_eq] at this;exact (GK (EC hm r)).1 (by omega)
     ·rw [ZY hr]; intro t; simp [val]⟩
    rw [this]; rfl
   ·have : kS l=false:=by
     rw [Bool.eq_false_iff]; intro h;obtain⟨r,_,hr⟩:=List.any_eq_true.1 hc;simp only [decide_eq_true_eq] at hr;have:=(GK (EC hm r)).2 ((DY.1 h).2 r);omega
    rw [this]; rfl
  ·intro i r hi;obtain⟨d1,d2,d3,d4⟩:=idx hi (by omega);show oW _ _ _=_;simp only [oW,d1,cond_true,aN d2,d3,d4,NP hl (show l.length<=1099511627776 by omega),Option.bind_some,aA0,EC hm r,if_true];by_cases h:yC (gJ l r)<0 <;> simp [h]
  ·show oW _ _ _=_;simp only [oW,gK,cond_false]

end Go.Abs
namespace Go.Abs
open Go
abbrev gN (d:List Int)(i:Nat):Int:=d.getD i default

def swp (d:List Int)(i j:Nat):List Int:=(d.set i (gN d j)).set j (gN d i)

theorem aDl {d:List Int}{i k:Nat}{x:Int}(h:i<d.length):gN (d.set i x) k=if k=i then x else gN d k:=by
 simp only [gN,List.getD_eq_getElem?_getD,List.getElem?_set];by_cases e:i=k
 ·subst e; simp [h]
 ·rw [if_neg e,if_neg (fun h=>e h.symm)]

theorem iR (d:List Int)(i j:Nat):(swp d i j).length=d.length:=by simp [swp]

theorem wJ {d:List Int}{i j:Nat}(hi:i<d.length)(hj:j<d.length)(k:Nat):gN (swp d i j) k=if k=j then gN d i else if k=i then gN d j else gN d k:=by
 unfold swp;rw [aDl (by simpa using hj),aDl hi]

theorem aD5 {d:List Int}{i j:Nat}(hi:i<d.length)(hj:j<d.length):(swp d i j).Perm d:=by
 have h1:gN d i=d[i]:=by simp [gN,List.getD_eq_getElem?_getD,List.getElem?_eq_getElem hi]
 have h2:gN d j=d[j]:=by simp [gN,List.getD_eq_getElem?_getD,List.getElem?_eq_getElem hj]
 unfold swp;rw [h1,h2];exact List.set_set_perm hi hj

structure Rel (a b:Nat) (d d':List Int):Prop where
 len:d'.length=d.length
 perm:d'.Perm d
 out:∀ k,k<a∨b<=k->gN d' k=gN d k
 src:∀ k,a<=k->k<b -> ∃ k',a<=k'/\k'<b/\gN d' k=gN d k'

theorem Rel.refl (a b:Nat)(d:List Int):Rel a b d d:=⟨rfl,.refl _,fun _ _=>rfl,fun k h1 h2=>⟨k,h1,h2,rfl⟩⟩

theorem Rel.trans {a b:Nat}{d d' d'':List Int}(h:Rel a b d d')(h':Rel a b d' d''):Rel a b d d'' :=
 ⟨h'.len.trans h.len,h'.perm.trans h.perm,fun k hk=>(h'.out k hk).trans (h.out k hk),fun k h1 h2=>by
  obtain⟨k1,a1,a2,a3⟩:=h'.src k h1 h2;obtain⟨k2,b1,b2,b3⟩:=h.src k1 a1 a2;exact⟨k2,b1,b2,a3.trans b3⟩⟩

theorem Rel.mono {a b a' b':Nat}{d d':List Int}(h:Rel a b d d')(h1:a'<=a)(h2:b<=b'):Rel a' b' d d' :=
 ⟨h.len,h.perm,fun k hk=>h.out k (by omega),fun k k1 k2=>by
  by_cases hk:a<=k/\k<b
  ·obtain⟨k',c1,c2,c3⟩:=h.src k hk.1 hk.2;exact⟨k',by omega,by omega,c3⟩
  ·exact⟨k,k1,k2,h.out k (by omega)⟩⟩

theorem Rel.swp {a b:Nat}{d:List Int}{i j:Nat}(hi:i<d.length)(hj:j<d.length)(h1:a<=i/\i<b)(h2:a<=j/\j<b):Rel a b d (swp d i j) :=
 ⟨iR ..,aD5 hi hj,fun k hk=>by rw [wJ hi hj,if_neg (by omega),if_neg (by omega)],fun k k1 k2=>by
  rw [wJ hi hj];split
  ·exact⟨i,h1.1,h1.2,rfl⟩
  ·split
   ·exact⟨j,h2.1,h2.2,rfl⟩
   ·exact⟨k,k1,k2,rfl⟩⟩

theorem Rel.all {a b:Nat}{d d':List Int}(h:Rel a b d d'){p:Int->Prop}(hp:∀ k,a<=k->k<b->p (gN d k)):∀ k,a<=k->k<b->p (gN d' k):=fun k k1 k2=>by
 obtain⟨k',c1,c2,c3⟩:=h.src k k1 k2;rw [c3]; exact hp k' c1 c2

def rV (a b:Nat)(d:List Int):Prop:=∀ p q,a<=p->p<=q->q<b->gN d p<=gN d q

theorem uQ (a b:Int):dH a b=some (decide (a<b)):=by simp [dH,lK,cW]

theorem wrN {x:Int}{n:Nat}(h:x=(n:Int))(hn:n<=9000000000000000000):IntKind.i64.wrap x=(n:Int):=by
 rw [cI (by omega) (by omega),h]

theorem asN {i n:Nat}(h:i<n):0<=(i:Int)/\(i:Int)<((n:Nat):Int):=by omega

theorem ZO {a b i:Int}{d:List Int}{lo j:Nat}(ha:a=(lo:Nat))(h1:lo<=j)(hj:j<d.length)(hl:d.length<4611686018427387904) :
  fN a b i d (j:Nat)=if lo<j/\gN d j<gN d (j-1) then some (.inl (swp d j (j-1),((j-1:Nat):Int))) else some (.inr d):=by
 subst ha;unfold fN;by_cases h:lo<j
 ·have e1:IntKind.i64.wrap ((j:Int)-1)=((j-1:Nat):Int):=wrN (by omega) (by omega);have d1:decide (((lo:Nat):Int)<((j:Nat):Int))=true:=by simp; omega
  rw [e1,d1];simp only [true_and,Int.toNat_natCast,uQ,cW,cond_true,Option.bind_some,Bool.true_and];rw [aN fun _=>asN hj,aN fun _=>asN (by omega)];by_cases h2:gN d j<gN d (j-1)
  ·rw [if_pos ⟨h,h2⟩];simp only [gN] at h2;simp only [h2,decide_true,cond_true];rw [aN (asN (by omega)),aN (asN hj),aN (asN hj),aN (asN (by omega))];rfl
  ·rw [if_neg (fun hh=>h2 hh.2)];simp only [gN] at h2;simp only [h2,decide_false,cond_false]
 ·have d1:decide (((lo:Nat):Int)<((j:Nat):Int))=false:=by simp; omega
  rw [if_neg (fun hh=>h hh.1),d1];simp only [Bool.false_eq_true,false_implies,cW,cond_false,Option.bind_some,Bool.false_and];rw [aN trivial,aN trivial]

structure LI (a j i:Nat) (d:List Int):Prop where
 oth:∀ p q,a<=p->p<=q->q<=i->p≠j->q≠j->gN d p<=gN d q
 up:∀ q,j<q->q<=i->gN d j<=gN d q

theorem LI.done {a j i:Nat}{d:List Int}(h:LI a j i d)(hj:a<=j)(hn:¬ (a<j/\gN d j<gN d (j-1))):rV a (i+1) d:=by
 intro p q h1 h2 h3;by_cases hp:p=j
 ·by_cases hq:q=j
  ·subst hp; subst hq; exact Int.le_refl _
  ·subst hp; exact h.up q (by omega) (by omega)
 ·by_cases hq:q=j
  ·subst hq;have h4:¬ gN d q<gN d (q-1):=fun hh=>hn ⟨by omega,hh⟩;have:=h.oth p (q-1) h1 (by omega) (by omega) hp (by omega);omega
  ·exact h.oth p q h1 h2 (by omega) hp hq

theorem LI.next {a j i:Nat}{d:List Int}(h:LI a j i d)(hj:a<j)(hji:j<=i)(hi:i<d.length)(hlt:gN d j<gN d (j-1)):LI a (j-1) i (swp d j (j-1)):=by
 have g:=wJ (d:=d) (i:=j) (j:=j-1) (by omega) (by omega);refine⟨fun p q h1 h2 h3 hp hq=>?_,fun q h1 h2=>?_⟩
 ·rw [g,g,if_neg hp,if_neg hq];by_cases hpj:p=j
  ·rw [if_pos hpj];by_cases hqj:q=j
   ·rw [if_pos hqj]; exact Int.le_refl _
   ·rw [if_neg hqj]; exact h.oth (j-1) q (by omega) (by omega) h3 (by omega) hqj
  ·rw [if_neg hpj];by_cases hqj:q=j
   ·rw [if_pos hqj]; exact h.oth p (j-1) h1 (by omega) (by omega) hpj (by omega)
   ·rw [if_neg hqj]; exact h.oth p q h1 h2 h3 hpj hqj
 ·rw [g,g,if_pos rfl,if_neg (by omega)];by_cases hqj:q=j
  ·rw [if_pos hqj]; omega
  ·rw [if_neg hqj]; exact h.up q (by omega) h2

theorem aGt {a b i:Int}{lo hi:Nat}(ha:a=(lo:Nat)):∀ (j:Nat) (d:List Int),lo<=j->j<=hi->hi<d.length->d.length<4611686018427387904->LI lo j hi d ->
  ∃ d',lp (fun s:List Int×Int=>fN a b i s.1 s.2) (d,(j:Int))=some d'/\Rel lo (hi+1) d d'/\rV lo (hi+1) d':=by
 intro j
 induction j with
 | zero =>
  intro d h1 h2 h3 h4 h5;have hs:=ZO (a:=a) (b:=b) (i:=i) ha h1 (by omega) h4 (d:=d);rw [if_neg (by omega)] at hs;exact⟨d,cV hs,Rel.refl ..,h5.done h1 (by omega)⟩
 | succ j ih =>
  intro d h1 h2 h3 h4 h5;have hs:=ZO (a:=a) (b:=b) (i:=i) ha h1 (by omega) h4 (d:=d);by_cases h:lo<j+1/\gN d (j+1)<gN d (j+1-1)
  ·rw [if_pos h] at hs;obtain⟨d',e,r,s⟩:=ih (swp d (j+1) (j+1-1)) (by omega) (by omega) (by rw [iR]; omega) (by rw [iR]; omega) (h5.next h.1 h2 h3 h.2);exact⟨d',(eW hs).trans e,(Rel.swp (by omega) (by omega) (by omega) (by omega)).trans r,s⟩
  ·rw [if_neg h] at hs;exact⟨d,cV hs,Rel.refl ..,h5.done h1 h⟩

theorem aA5 {a b:Int}{lo hi:Nat}(ha:a=(lo:Nat))(hb:b=(hi:Nat)):∀ (n i:Nat) (d:List Int),hi-i=n->lo<i->hi<=d.length->d.length<4611686018427387904->rV lo i d->(i<=hi∨hi<=i) ->
  ∃ d',lp (fun s:List Int×Int=>dX a b s.1 s.2) (d,(i:Int))=some d'/\Rel lo hi d d'/\rV lo hi d':=by
 intro n
 induction n with
 | zero =>
  intro i d h1 h2 h3 h4 h5 _;refine⟨d,cV ?_,Rel.refl ..,fun p q p1 p2 p3=>h5 p q p1 p2 (by omega)⟩;show dX _ _ _ _=_;have : decide (((i:Nat):Int)<b)=false:=by simp; omega
  simp only [dX,this,cond_false]
 | succ n ih =>
  intro i d h1 h2 h3 h4 h5 _;obtain⟨d1,e,r,s⟩:=aGt (a:=a) (b:=b) (i:=(i:Int)) (hi:=i) ha i d (by omega) (Nat.le_refl _) (by omega) h4 ⟨fun p q p1 p2 p3 p4 p5=>h5 p q p1 p2 (by omega),fun q q1 q2=>by omega⟩;obtain⟨d2,e2,r2,s2⟩:=ih (i+1) d1 (by omega) (by omega) (by rw [r.len]; exact h3) (by rw [r.len]; exact h4) s (by omega);refine⟨d2,?_,(r.mono (Nat.le_refl _) (by omega)).trans r2,s2⟩;rw [eW (s':=(d1,((i+1:Nat):Int))) ?_,e2];show dX _ _ _ _=_;have : decide (((i:Nat):Int)<b)=true:=by simp; omega
  simp only [dX,this,cond_true,kC];rw [e];simp only [Option.bind_some,iF];rw [wrN (n:=i+1) (by omega) (by omega)]

theorem PU (lo:Nat)(d:List Int):rV lo (lo+1) d:=fun p q p1 p2 p3=>by
 have : p=q:=by omega
 subst this;exact Int.le_refl _

theorem aEe {lo hi:Nat}{d:List Int}(h3:hi<=d.length)(h4:d.length<4611686018427387904)(h0:lo<=hi):∃ d',iL d (lo:Int) (hi:Int)=some d'/\Rel lo hi d d'/\rV lo hi d':=by
 unfold iL kA;obtain⟨d',e,r,s⟩:=aA5 (a:=(lo:Int)) (b:=(hi:Int)) (lo:=lo) (hi:=hi) rfl rfl (hi-(lo+1)) (lo+1) d rfl (by omega) h3 h4 (PU lo d) (by omega);rw [wrN (n:=lo+1) (by omega) (by omega),e];exact⟨d',rfl,r,s⟩

theorem aGm {lo hi:Nat}:∀ (n i j:Nat) (d:List Int),j+1-i=n->lo<=i->j+1<=hi∨j<=i->hi<=d.length->d.length<4611686018427387904->i<4611686018427387904->j<4611686018427387904 ->
  ∃ d',lp (fun s:List Int×Int×Int=>eC s.1 s.2.1 s.2.2) (d,(i:Int),(j:Int))=some d'/\Rel lo hi d d':=by
 intro n
 induction n using Nat.strongRecOn with
 | ind n ih =>
  intro i j d h1 h2 h3 h4 h5 h6 h7;by_cases h:i<j
  ·obtain⟨d',e,r⟩:=ih (j-1+1-(i+1)) (by omega) (i+1) (j-1) (swp d i j) rfl (by omega) (by omega) (by rw [iR]; exact h4) (by rw [iR]; exact h5) (by omega) (by omega);refine⟨d',?_,(Rel.swp (by omega) (by omega) (by omega) (by omega)).trans r⟩;rw [eW (s':=(swp d i j,((i+1:Nat):Int),((j-1:Nat):Int))) ?_,e];show eC _ _ _=_;have : decide (((i:Nat):Int)<((j:Nat):Int))=true:=by simp; omega
   simp only [eC,this,cond_true,Int.toNat_natCast];rw [aN (asN (by omega)),aN (asN (by omega)),aN (asN (by omega)),aN (asN (by omega)),wrN (n:=i+1) (by omega) (by omega),wrN (n:=j-1) (by omega) (by omega)];rfl
  ·refine⟨d,cV ?_,Rel.refl ..⟩;show eC _ _ _=_;have : decide (((i:Nat):Int)<((j:Nat):Int))=false:=by simp; omega
   simp only [eC,this,cond_false]

theorem aDp {lo hi:Nat}{d:List Int}(h0:lo<hi)(h3:hi<=d.length)(h4:d.length<4611686018427387904):∃ d',iV d (lo:Int) (hi:Int)=some d'/\Rel lo hi d d':=by
 unfold iV kL;obtain⟨d',e,r⟩:=aGm (lo:=lo) (hi:=hi) (hi-1+1-lo) lo (hi-1) d rfl (Nat.le_refl _) (by omega) h3 h4 (by omega) (by omega);rw [wrN (n:=hi-1) (by omega) (by omega),e];exact⟨d',rfl,r⟩

end Go.Abs
namespace Go.Abs
open Go
def BZ (f hi:Nat)(d:List Int)(r:Nat):Nat:=if 2*r+2<hi/\gN d (f+(2*r+1))<gN d (f+(2*r+2)) then 2*r+2 else 2*r+1

theorem TE {f hi r c:Nat}{d:List Int}(hf:f+hi<=d.length)(hr:r<hi)(hc:c<hi)(hl:d.length<2305843009213693951) :
  iH d (hi:Nat) (f:Nat) (r:Nat) (c:Nat)=if gN d (f+r)<gN d (f+c) then some (.inl (swp d (f+r) (f+c),(c:Int))) else some (.inr (.inr d)):=by
 unfold iH;have e1:IntKind.i64.wrap ((f:Int)+(r:Int))=((f+r:Nat):Int):=wrN (by omega) (by omega);have e2:IntKind.i64.wrap ((f:Int)+(c:Int))=((f+c:Nat):Int):=wrN (by omega) (by omega);rw [e1,e2];simp only [Int.toNat_natCast,uQ,Option.bind_some];rw [aN (asN (by omega)),aN (asN (by omega))];by_cases h:gN d (f+r)<gN d (f+c)
 ·rw [if_pos h];simp only [gN] at h;simp only [h,decide_true,Bool.not_true,cond_false];rw [aN (asN (by omega)),aN (asN (by omega)),aN (asN (by omega)),aN (asN (by omega))];rfl
 ·rw [if_neg h];simp only [gN] at h;simp only [h,decide_false,Bool.not_false,cond_true]

theorem aDO {f hi r:Nat}{d:List Int}(hf:f+hi<=d.length)(hr:r<hi)(hl:d.length<2305843009213693951) :
  dS (hi:Nat) (f:Nat) d (r:Nat)=if hi<=2*r+1 then some (.inr (.inl d)) else if gN d (f+r)<gN d (f+BZ f hi d r) then some (.inl (swp d (f+r) (f+BZ f hi d r),(BZ f hi d r:Int))) else some (.inr (.inr d)):=by
 unfold dS
 have e1:IntKind.i64.wrap (IntKind.i64.wrap ((2:Int)*(r:Int))+1)=((2*r+1:Nat):Int):=by
  rw [wrN (x:=(2:Int)*(r:Int)) (n:=2*r) (by omega) (by omega)]; exact wrN (by omega) (by omega)
 have e2:IntKind.i64.wrap (((2*r+1:Nat):Int)+1)=((2*r+2:Nat):Int):=wrN (by omega) (by omega);simp only [e1,e2];by_cases h:hi<=2*r+1
 ·rw [if_pos h];have : decide (((hi:Nat):Int)<=((2*r+1:Nat):Int))=true:=by simp; omega
  rw [this,cond_true]
 ·rw [if_neg h];have d1:decide (((hi:Nat):Int)<=((2*r+1:Nat):Int))=false:=by simp; omega
  rw [d1,cond_false];by_cases h2:2*r+2<hi
  ·have d2:decide (((2*r+2:Nat):Int)<((hi:Nat):Int))=true:=by simp; omega
   have e3:IntKind.i64.wrap ((f:Int)+((2*r+1:Nat):Int))=((f+(2*r+1):Nat):Int):=wrN (by omega) (by omega);have e4:IntKind.i64.wrap (((f+(2*r+1):Nat):Int)+1)=((f+(2*r+2):Nat):Int):=wrN (by omega) (by omega);simp only [d2,e3,e4,Int.toNat_natCast,uQ,cW,cond_true,Option.bind_some,Bool.true_and];rw [aN fun _=>asN (by omega),aN fun _=>asN (by omega)];by_cases h3:gN d (f+(2*r+1))<gN d (f+(2*r+2))
   ·have hb:BZ f hi d r=2*r+2:=if_pos ⟨h2,h3⟩;simp only [gN] at h3;simp only [h3,decide_true,cond_true];rw [TE hf hr h2 hl,hb]
   ·have hb:BZ f hi d r=2*r+1:=if_neg fun hh=>h3 hh.2;simp only [gN] at h3;simp only [h3,decide_false,cond_false];rw [TE hf hr (by omega) hl,hb]
  ·have d2:decide (((2*r+2:Nat):Int)<((hi:Nat):Int))=false:=by simp; omega
   have hb:BZ f hi d r=2*r+1:=if_neg fun hh=>h2 hh.1;simp only [d2,Bool.false_eq_true,false_implies,cW,cond_false,Option.bind_some,Bool.false_and];rw [aN trivial,aN trivial,TE hf hr (by omega) hl,hb]

def chd (c p:Nat):Prop:=c=2*p+1∨c=2*p+2

def Hp (f lo hi:Nat)(d:List Int):Prop:=∀ i c,lo<=i->chd c i->c<hi->gN d (f+c)<=gN d (f+i)

structure HpX (f lo hi r:Nat) (d:List Int):Prop where
 oth:∀ i c,lo<=i->i≠r->chd c i->c<hi->gN d (f+c)<=gN d (f+i)
 up:∀ p c,lo<=p->chd r p->chd c r->c<hi->gN d (f+c)<=gN d (f+p)

theorem aDa {f hi r:Nat}{d:List Int}(h:¬ hi<=2*r+1):chd (BZ f hi d r) r/\BZ f hi d r<hi /\ ∀ c,chd c r->c<hi->gN d (f+c)<=gN d (f+BZ f hi d r):=by
 unfold BZ;split
 ·rename_i h1
  refine⟨.inr rfl,h1.1,fun c hc hlt=>?_⟩;rcases hc with rfl | rfl
  ·omega
  ·exact Int.le_refl _
 ·rename_i h1
  refine⟨.inl rfl,by omega,fun c hc hlt=>?_⟩;rcases hc with rfl | rfl
  ·exact Int.le_refl _
  ·have : ¬ gN d (f+(2*r+1))<gN d (f+(2*r+2)):=fun hh=>h1 ⟨hlt,hh⟩;omega

theorem HpX.done {f lo hi r:Nat}{d:List Int}(h:HpX f lo hi r d)(hr:∀ c,chd c r->c<hi->gN d (f+c)<=gN d (f+r)):Hp f lo hi d:=by
 intro i c h1 h2 h3;by_cases e:i=r
 ·subst e; exact hr c h2 h3
 ·exact h.oth i c h1 e h2 h3

theorem HpX.next {f lo hi r c:Nat}{d:List Int}(h:HpX f lo hi r d)(hf:f+hi<=d.length)(hlo:lo<=r)(hrh:r<hi)(hc:chd c r)(hch:c<hi)(hbig:∀ k,chd k r->k<hi->gN d (f+k)<=gN d (f+c))(hlt:gN d (f+r)<gN d (f+c)):HpX f lo hi c (swp d (f+r) (f+c)):=by
 have g:=wJ (d:=d) (i:=f+r) (j:=f+c) (by omega) (by omega);have hcr:r<c:=by unfold chd at hc; omega
 refine⟨fun i k h1 h2 h3 h4=>?_,fun p k h1 h2 h3 h4=>?_⟩
 ·rw [g,g,if_neg (show ¬ f+i=f+c by omega)];by_cases hir:i=r
  ·subst hir;rw [if_pos (show f+i=f+i from rfl)];by_cases hkc:k=c
   ·subst hkc; rw [if_pos rfl]; omega
   ·rw [if_neg (by omega),if_neg (by unfold chd at h3; omega)];exact hbig k h3 h4
  ·rw [if_neg (show ¬ f+i=f+r by omega)];have hkc:k≠c:=by intro e; subst e; unfold chd at h3 hc; omega
   rw [if_neg (by omega)];by_cases hkr:k=r
   ·subst hkr;rw [if_pos rfl];exact h.up i c h1 h3 hc hch
   ·rw [if_neg (by omega)];exact h.oth i k h1 hir h3 h4
 ·have hp:p=r:=by unfold chd at h2 hc; omega
  subst hp;have hk:c<k:=by unfold chd at h3; omega
  rw [g,g,if_neg (by omega),if_neg (by omega),if_neg (by omega),if_pos rfl];exact h.oth c k (by omega) (by omega) h3 h4

theorem aFP {f lo hi:Nat}:∀ (n r:Nat) (d:List Int),hi-r=n->f+hi<=d.length->lo<=r->r<hi->d.length<2305843009213693951->HpX f lo hi r d ->
  ∃ d',(lp (fun s:List Int×Int=>dS (hi:Nat) (f:Nat) s.1 s.2) (d,(r:Int))=some (.inl d')∨lp (fun s:List Int×Int=>dS (hi:Nat) (f:Nat) s.1 s.2) (d,(r:Int))=some (.inr d'))/\Rel f (f+hi) d d'/\Hp f lo hi d':=by
 intro n
 induction n using Nat.strongRecOn with
 | ind n ih =>
  intro r d h1 h2 h3 h4 h5 h6;have hs:=aDO h2 h4 h5;by_cases h:hi<=2*r+1
  ·rw [if_pos h] at hs;exact⟨d,.inl (cV hs),Rel.refl ..,h6.done fun c hc hlt=>by unfold chd at hc; omega⟩
  ·rw [if_neg h] at hs;obtain⟨b1,b2,b3⟩:=aDa (f:=f) (d:=d) h;by_cases hlt:gN d (f+r)<gN d (f+BZ f hi d r)
   ·rw [if_pos hlt] at hs;have hb:r<BZ f hi d r:=by unfold chd at b1; omega
    obtain⟨d',e,rl,hp⟩:=ih (hi-BZ f hi d r) (by omega) (BZ f hi d r) _ rfl (by rw [iR]; exact h2) (by omega) b2 (by rw [iR]; exact h5) (h6.next h2 h3 h4 b1 b2 b3 hlt);exact⟨d',e.imp (fun e=>(eW hs).trans e) (fun e=>(eW hs).trans e),(Rel.swp (by omega) (by omega) (by omega) (by omega)).trans rl,hp⟩
   ·rw [if_neg hlt] at hs;exact⟨d,.inr (cV hs),Rel.refl ..,h6.done fun c hc hc2=>by have:=b3 c hc hc2; omega⟩

theorem aBF {f lo hi:Nat}{d:List Int}(h2:f+hi<=d.length)(h5:d.length<2305843009213693951)(hlo:lo<2305843009213693951)(h6:HpX f lo hi lo d) :
  ∃ d',gF d (lo:Nat) (hi:Nat) (f:Nat)=some d'/\Rel f (f+hi) d d'/\Hp f lo hi d':=by
 unfold gF lS;by_cases h:lo<hi
 ·obtain⟨d',e,r,p⟩:=aFP (hi-lo) lo d rfl h2 (Nat.le_refl _) h h5 h6;rcases e with e | e <;> rw [e] <;> exact ⟨d',rfl,r,p⟩
 ·refine⟨d,?_,Rel.refl ..,fun i c h1 hc hlt=>by unfold chd at hc; omega⟩
  have hs:dS (hi:Nat) (f:Nat) d (lo:Nat)=some (.inr (.inl d)):=by
   unfold dS
   have e1:IntKind.i64.wrap (IntKind.i64.wrap ((2:Int)*(lo:Int))+1)=((2*lo+1:Nat):Int):=by
    rw [wrN (x:=(2:Int)*(lo:Int)) (n:=2*lo) (by omega) (by omega)]; exact wrN (by omega) (by omega)
   have : decide (((hi:Nat):Int)<=((2*lo+1:Nat):Int))=true:=by simp; omega
   simp only [e1,this,cond_true]
  rw [cV (show (fun s:List Int×Int=>dS (hi:Nat) (f:Nat) s.1 s.2) (d,(lo:Int))=_ from hs)];rfl

theorem aD0 {f k:Nat}{d:List Int}(h:Hp f 0 k d):∀ i,i<k->gN d (f+i)<=gN d f:=by
 intro i
 induction i using Nat.strongRecOn with
 | ind i ih =>
  intro hi;by_cases h0:i=0
  ·subst h0; exact Int.le_refl _
  ·have h1:=h ((i-1) / 2) i (Nat.zero_le _) (by unfold chd; omega) hi;have h2:=ih ((i-1) / 2) (by omega) (by omega);omega

theorem aBr {f hi:Nat}:∀ (k:Nat) (d:List Int),f+hi<=d.length->k<2305843009213693951->d.length<2305843009213693951->Hp f k hi d ->
  ∃ d',lp (fun s:List Int×Int=>eR (f:Nat) 0 (hi:Nat) s.1 s.2) (d,(k:Int)-1)=some d'/\Rel f (f+hi) d d'/\Hp f 0 hi d'
 | 0,d,_,_,_,h=>by
  refine⟨d,cV ?_,Rel.refl ..,h⟩;show eR _ _ _ _ _=_;have : decide ((0:Int)<=((0:Nat):Int)-1)=false:=by simp
  simp only [eR,this,cond_false]
 | k+1,d,h1,h2,h3,h=>by
  obtain⟨d1,e,r,p⟩:=aBF (f:=f) (lo:=k) (hi:=hi) h1 h3 (by omega) ⟨fun i c a1 a2 a3 a4=>h i c (by omega) a3 a4,fun p c a1 a2=>by unfold chd at a2; omega⟩;obtain⟨d2,e2,r2,p2⟩:=aBr (f:=f) (hi:=hi) k d1 (by rw [r.len]; exact h1) (by omega) (by rw [r.len]; exact h3) p;refine⟨d2,?_,r.trans r2,p2⟩;rw [eW (s':=(d1,(k:Int)-1)) ?_,e2];show eR _ _ _ _ _=_;have g1:(((k+1:Nat):Int)-1)=(k:Int):=by omega
  have g2:decide ((0:Int)<=(k:Int))=true:=by simp
  simp only [eR,g1,g2,cond_true,e,Option.bind_some];rw [cI (by omega) (by omega)]

theorem aCO {f n:Nat}:∀ (k:Nat) (d:List Int),k<=n->f+n<=d.length->d.length<2305843009213693951->Hp f 0 k d->rV (f+k) (f+n) d->(∀ p q,f<=p->p<f+k->f+k<=q->q<f+n->gN d p<=gN d q) ->
  ∃ d',lp (fun s:List Int×Int=>eP (f:Nat) 0 s.1 s.2) (d,(k:Int)-1)=some d'/\Rel f (f+n) d d'/\rV f (f+n) d'
 | 0,d,_,_,_,_,hs,_=>by
  refine⟨d,cV ?_,Rel.refl ..,hs⟩;show eP _ _ _ _=_;have : decide ((0:Int)<=((0:Nat):Int)-1)=false:=by simp
  simp only [eP,this,cond_false]
 | k+1,d,h1,h2,h3,h,hs,hb=>by
  have g:=wJ (d:=d) (i:=f) (j:=f+k) (by omega) (by omega);have hroot:=aD0 h
  obtain⟨d1,e,r,p⟩:=aBF (f:=f) (lo:=0) (hi:=k) (d:=swp d f (f+k)) (by rw [iR]; omega) (by rw [iR]; exact h3) (by omega) ⟨fun i c a1 a2 a3 a4=>by
   rw [g,g,if_neg (by unfold chd at a3; omega),if_neg (by unfold chd at a3; omega),if_neg (by unfold chd at a3; omega),if_neg (by omega)];exact h i c (by omega) a3 (by omega),fun p c a1 a2=>by unfold chd at a2; omega⟩
  have rs:Rel f (f+n) d (swp d f (f+k)):=Rel.swp (i:=f) (j:=f+k) (by omega) (by omega) (by omega) (by omega);have top:gN d1 (f+k)=gN d f:=by rw [r.out _ (by omega),g,if_pos rfl]
  have tail:∀ q,f+k<q->gN d1 q=gN d q:=fun q hq=>by rw [r.out _ (by omega),g,if_neg (by omega),if_neg (by omega)]
  have low:∀ p,f<=p->p<f+k -> ∃ p',f<=p'/\p'<f+(k+1)/\gN d1 p=gN d p':=fun p p1 p2=>by
   obtain⟨p',a1,a2,a3⟩:=r.src p p1 p2;rw [g,if_neg (by omega)] at a3;by_cases hp:p'=f
   ·rw [if_pos hp] at a3; exact ⟨f+k,by omega,by omega,a3⟩
   ·rw [if_neg hp] at a3; exact ⟨p',a1,by omega,a3⟩
  obtain⟨d2,e2,r2,s2⟩:=aCO (f:=f) (n:=n) k d1 (by omega) (by rw [r.len,iR]; exact h2) (by rw [r.len,iR]; exact h3) p (fun p q p1 p2 p3=>by
   by_cases hq:q=f+k
   ·have : p=f+k:=by omega
    rw [hq,this]; exact Int.le_refl _
   ·rw [tail q (by omega)];by_cases hp:p=f+k
    ·rw [hp,top]; exact hb f q (Nat.le_refl _) (by omega) (by omega) p3
    ·rw [tail p (by omega)]; exact hs p q (by omega) p2 p3) (fun p q p1 p2 p3 p4=>by
   obtain⟨p',a1,a2,a3⟩:=low p p1 p2;rw [a3];by_cases hq:q=f+k
   ·rw [hq,top];have:=hroot (p'-f) (by omega);rw [show f+(p'-f)=p' by omega] at this;exact this
   ·rw [tail q (by omega)]; exact hb p' q a1 a2 (by omega) p4)
  refine⟨d2,?_,(rs.trans (r.mono (Nat.le_refl _) (by omega))).trans r2,s2⟩;rw [eW (s':=(d1,(k:Int)-1)) ?_,e2];show eP _ _ _ _=_;have g1:(((k+1:Nat):Int)-1)=(k:Int):=by omega
  have g2:decide ((0:Int)<=(k:Int))=true:=by simp
  have g3:IntKind.i64.wrap ((f:Int)+(k:Int))=((f+k:Nat):Int):=wrN (by omega) (by omega);simp only [eP,g1,g2,g3,cond_true,Int.toNat_natCast];rw [aN (asN (by omega)),aN (asN (by omega)),aN (asN (by omega)),aN (asN (by omega))];have e':gF (List.set (List.set d f (List.getD d (f+k) default)) (f+k) (List.getD d f default)) 0 (k:Int) (f:Int)=some d1:=e;rw [e'];simp only [Option.bind_some];rw [cI (by omega) (by omega)]

theorem aDu {lo hi:Nat}{d:List Int}(h0:lo<hi)(h1:hi<=d.length)(h3:d.length<2305843009213693951):∃ d',kH d (lo:Int) (hi:Int)=some d'/\Rel lo hi d d'/\rV lo hi d':=by
 unfold kH;rw [aN (by decide)];have e1:IntKind.i64.wrap ((hi:Int)-(lo:Int))=((hi-lo:Nat):Int):=wrN (by omega) (by omega);have e2:IntKind.i64.wrap (((hi-lo:Nat):Int)-1)=((hi-lo-1:Nat):Int):=wrN (by omega) (by omega)
 have e3:IntKind.i64.wrap (Int.tdiv ((hi-lo-1:Nat):Int) 2)=(((hi-lo-1) / 2+1:Nat):Int)-1:=by
  have : Int.tdiv ((hi-lo-1:Nat):Int) 2=(((hi-lo-1) / 2:Nat):Int):=by rw [Int.tdiv_eq_ediv_of_nonneg (by omega)]; omega
  rw [this,wrN (n:=(hi-lo-1) / 2) rfl (by omega)]; omega
 rw [e1,e2,e3];unfold lU;obtain⟨d1,a1,r1,p1⟩:=aBr (f:=lo) (hi:=hi-lo) ((hi-lo-1) / 2+1) d (by omega) (by omega) h3 (fun i c b1 b2 b3=>by unfold chd at b2; omega);rw [a1];simp only [Option.bind_some,jV,lT];obtain⟨d2,a2,r2,s2⟩:=aCO (f:=lo) (n:=hi-lo) (hi-lo) d1 (Nat.le_refl _) (by rw [r1.len]; omega) (by rw [r1.len]; exact h3) p1 (fun p q b1 b2 b3=>by omega) (fun p q b1 b2 b3 b4=>by omega);have e4:IntKind.i64.wrap (((hi-lo:Nat):Int)-1)=((hi-lo:Nat):Int)-1:=cI (by omega) (by omega);rw [e4,a2];have : lo+(hi-lo)=hi:=by omega
 rw [this] at r1 r2 s2;exact⟨d2,rfl,r1.trans r2,s2⟩

end Go.Abs
namespace Go.Abs
open Go
def PT:ByteArray:=⟨#[0,1,2,2,3,3,3,3,4,4,4,4,4,4,4,4,5,5,5,5,5,5,5,5,5,5,5,5,5,5,5,5,6,6,6,6,6,6,6,6,6,6,6,6,6,6,6,6,6,6,6,6,6,6,6,6,6,6,6,6,6,6,6,6,7,7,7,7,7,7,7,7,7,7,7,7,7,7,7,7,7,7,7,7,7,7,7,7,7,7,7,7,7,7,7,7,7,7,7,7,7,7,7,7,7,7,7,7,7,7,7,7,7,7,7,7,7,7,7,7,7,7,7,7,7,7,7,7,8,8,8,8,8,8,8,8,8,8,8,8,8,8,8,8,8,8,8,8,8,8,8,8,8,8,8,8,8,8,8,8,8,8,8,8,8,8,8,8,8,8,8,8,8,8,8,8,8,8,8,8,8,8,8,8,8,8,8,8,8,8,8,8,8,8,8,8,8,8,8,8,8,8,8,8,8,8,8,8,8,8,8,8,8,8,8,8,8,8,8,8,8,8,8,8,8,8,8,8,8,8,8,8,8,8,8,8,8,8,8,8,8,8,8,8,8,8,8,8,8,8,8,8,8,8,8,8]⟩

theorem aDr:∀ i:Fin 256,i.val≠0 -> ∃ k:Fin 8,bt PT (i.val:Int)=(k.val:Int)+1/\2 ^ k.val<=i.val:=by decide +kernel

theorem VK:ByteArray.size PT=256:=by decide +kernel

theorem aE5 {x:Int}(h:0<=x)(h2:x<=255):IntKind.u8.wrap x=x:=by
 simp only [IntKind.wrap,IntKind.bits,IntKind.signed];simp;omega

theorem KZ {x:Int}(h:0<=x)(h2:x<=9223372036854775807):IntKind.u64.wrap x=x:=by
 simp only [IntKind.wrap,IntKind.bits,IntKind.signed];simp;omega

theorem aDR {x n:Int}(h1:1<=x)(h2:x<=255)(hn:0<=n/\n<=100):∃ k:Nat,nH x n=some (n+k+1)/\k<=7/\(2:Int) ^ k<=x:=by
 obtain⟨k,e,hk⟩:=aDr ⟨x.toNat,by omega⟩ (by simp; omega);refine⟨k.val,?_,by omega,?_⟩
 ·show (bE (0<=(IntKind.u8.wrap x)/\(IntKind.u8.wrap x)<((ByteArray.size PT:Nat):Int)) <| some (IntKind.i64.wrap (n+(IntKind.i64.wrap (bt PT (IntKind.u8.wrap x))))))=_;rw [aE5 (by omega) h2,aN (by rw [VK]; omega)];simp only at e;rw [Int.toNat_of_nonneg (by omega)] at e;rw [e,cI (n:=(k.val:Int)+1) (by omega) (by omega),cI (by omega) (by omega)]
  congr 1
  omega
 ·simp only at hk;have : ((2 ^ k.val:Nat):Int)<=((x.toNat:Nat):Int):=by exact_mod_cast hk
  rw [Int.toNat_of_nonneg (by omega)] at this
  simpa using this

theorem PC {x m:Int}(hm:0<m):Int.fdiv x m=x / m:=Int.fdiv_eq_ediv_of_nonneg _ (by omega)

theorem aC5 {x n:Int}(h1:1<=x)(h2:x<=65535)(hn:0<=n/\n<=90):∃ k:Nat,mA x n=some (n+k+1)/\k<=15/\(2:Int) ^ k<=x:=by
 unfold mA;by_cases h:256<=x
 ·have hd:Int.fdiv x (2 ^ (min (Int.toNat (8:Int)) 64))=x / 256:=by rw [show (2 ^ (min (Int.toNat (8:Int)) 64):Int)=256 from by decide]; exact PC (by omega)
  obtain⟨k,e,h3,h4⟩:=aDR (x:=x / 256) (n:=n+8) (by omega) (by omega) (by omega);refine⟨k+8,?_,by omega,?_⟩
  ·simp only [h,decide_true,cond_true];rw [aN (by decide),hd,cI (n:=n+8) (by omega) (by omega),e]
   congr 1; omega
  ·rw [Int.pow_add]; have : (2:Int) ^ 8=256:=by decide
   rw [this]; omega
 ·obtain⟨k,e,h3,h4⟩:=aDR (x:=x) (n:=n) h1 (by omega) (by omega);exact⟨k,by simp only [h,decide_false,cond_false,e],by omega,h4⟩

theorem aCU {x n:Int}(h1:1<=x)(h2:x<=4294967295)(hn:0<=n/\n<=70):∃ k:Nat,lW x n=some (n+k+1)/\k<=31/\(2:Int) ^ k<=x:=by
 unfold lW;by_cases h:65536<=x
 ·have hd:Int.fdiv x (2 ^ (min (Int.toNat (16:Int)) 64))=x / 65536:=by rw [show (2 ^ (min (Int.toNat (16:Int)) 64):Int)=65536 from by decide]; exact PC (by omega)
  obtain⟨k,e,h3,h4⟩:=aC5 (x:=x / 65536) (n:=n+16) (by omega) (by omega) (by omega);refine⟨k+16,?_,by omega,?_⟩
  ·simp only [h,decide_true,cond_true];rw [aN (by decide),hd,cI (n:=n+16) (by omega) (by omega),e]
   congr 1; omega
  ·rw [Int.pow_add]; have : (2:Int) ^ 16=65536:=by decide
   rw [this]; omega
 ·obtain⟨k,e,h3,h4⟩:=aC5 (x:=x) (n:=n) h1 (by omega) (by omega);exact⟨k,by simp only [h,decide_false,cond_false,e],by omega,h4⟩

theorem aDh {x:Int}(h1:1<=x)(h2:x<=9223372036854775807):∃ k:Nat,lJ x=some ((k:Int)+1)/\k<=63/\(2:Int) ^ k<=x:=by
 unfold lJ qE;by_cases h:4294967296<=x
 ·have hd:Int.fdiv x (2 ^ (min (Int.toNat (32:Int)) 64))=x / 4294967296:=by rw [show (2 ^ (min (Int.toNat (32:Int)) 64):Int)=4294967296 from by decide]; exact PC (by omega)
  obtain⟨k,e,h3,h4⟩:=aCU (x:=x / 4294967296) (n:=32) (by omega) (by omega) (by omega);refine⟨k+32,?_,by omega,?_⟩
  ·simp only [h,decide_true,cond_true];rw [aN (by decide),hd,e];simp only [Option.bind_some]
   congr 1; omega
  ·rw [Int.pow_add]; have : (2:Int) ^ 32=4294967296:=by decide
   rw [this]; omega
 ·obtain⟨k,e,h3,h4⟩:=aCU (x:=x) (n:=0) h1 (by omega) (by omega);refine⟨k,?_,by omega,h4⟩;simp only [h,decide_false,cond_false,e,Option.bind_some]
  congr 1; omega

theorem aDL:bt PT 0=0:=by decide +kernel

theorem aEI:lJ 0=some 0:=by
 have h3:nH 0 0=some 0:=by
  show (bE (0<=(IntKind.u8.wrap 0)/\(IntKind.u8.wrap 0)<((ByteArray.size PT:Nat):Int)) <| some (IntKind.i64.wrap (0+(IntKind.i64.wrap (bt PT (IntKind.u8.wrap 0))))))=_;rw [aE5 (by omega) (by omega),aN (by rw [VK]; omega),aDL,cI (n:=0) (by omega) (by omega),cI (by omega) (by omega)];rfl
 have h2:mA 0 0=some 0:=h3;have h1:lW 0 0=some 0:=h2;unfold lJ qE;have : decide ((4294967296:Int)<=0)=false:=by decide
 rw [this,cond_false,h1];rfl

theorem aEQ {n:Nat}(h1:1<=n)(h2:n<2305843009213693951):∃ m:Int,mJ (n:Int)=some m/\1<=m/\m<=2*n:=by
 unfold mJ;rw [KZ (by omega) (by omega)];obtain⟨k,e,h3,h4⟩:=aDh (x:=(n:Int)) (by omega) (by omega);have hk:(2:Int) ^ (k+1)=2*2 ^ k:=by rw [Int.pow_succ]; omega
 have hp:(1:Int)<=2 ^ k:=by
  have : (0:Int)<2 ^ k:=Int.pow_pos (by decide);omega
 rw [e];simp only [Option.bind_some];rw [aN (by omega),show min (Int.toNat ((k:Int)+1)) 64=k+1 by omega,Int.one_mul,hk,KZ (by omega) (by omega)];exact⟨_,rfl,by omega,by omega⟩

theorem aGy (x:Int){m:Int}(h0:0<=m)(hm:m<=9223372036854775807):0<=bX .and .u64 x m/\bX .and .u64 x m<=m:=by
 have h1:(BitVec.ofInt IntKind.u64.bits x &&& BitVec.ofInt IntKind.u64.bits m).toNat<=m.toNat:=by
  rw [BitVec.toNat_and];refine Nat.le_trans Nat.and_le_right ?_;rw [BitVec.toNat_ofInt];have : IntKind.u64.bits=64:=rfl;rw [this];omega
 have h2:bX .and .u64 x m=((BitVec.ofInt IntKind.u64.bits x &&& BitVec.ofInt IntKind.u64.bits m).toNat:Int):=KZ (by omega) (by omega);rw [h2];omega

theorem aB6 (r:Int):∃ x,mS r=some x:=by
 unfold mS;rw [aN (by decide),aN (by decide),aN (by decide)];exact⟨_,rfl⟩

theorem aCF {lo i o:Nat}{d:List Int}(l r m:Int)(hi:i<d.length)(ho:lo+o<d.length)(hl:d.length<2305843009213693951) :
  fO d (lo:Nat) l r m (i:Nat) (o:Nat)=some (.inl (swp d i (lo+o),r,((i+1:Nat):Int))):=by
 unfold fO;rw [wrN (x:=(lo:Int)+(o:Int)) (n:=lo+o) (by omega) (by omega),wrN (n:=i+1) (by omega) (by omega)];simp only [Int.toNat_natCast];rw [aN (asN (by omega)),aN (asN (by omega)),aN (asN (by omega)),aN (asN (by omega))];rfl

theorem aGr {lo n:Nat}{m:Int}(hm:1<=m/\m<=2*n)(h8:8<=n):∀ (q i:Nat) (r:Int) (d:List Int),lo+n / 4*2+2-i=q->lo<=i->i<=lo+n / 4*2+2->lo+n<=d.length->d.length<2305843009213693951 ->
  ∃ d',lp (fun s:List Int×Int×Int=>dM (lo:Nat) (n:Nat) m s.1 s.2.1 s.2.2) (d,r,(i:Int))=some d'/\Rel lo (lo+n) d d':=by
 have t4:IntKind.i64.wrap (Int.tdiv (n:Int) 4)=((n / 4:Nat):Int)∨2305843009213693951<=n:=by
  by_cases h:n<2305843009213693951
  ·left;have : Int.tdiv (n:Int) 4=((n / 4:Nat):Int):=by rw [Int.tdiv_eq_ediv_of_nonneg (by omega)]; omega
   rw [this]; exact wrN rfl (by omega)
  ·right; omega
 intro q
 induction q with
 | zero =>
  intro i r d h1 h2 h3 h4 h5;have t4:=t4.resolve_right (by omega);refine⟨d,cV ?_,Rel.refl ..⟩;show dM _ _ _ _ _ _=_;unfold dM;rw [aN (by decide),t4,wrN (x:=((n / 4:Nat):Int)*2) (n:=n / 4*2) (by omega) (by omega),wrN (x:=(lo:Int)+((n / 4*2:Nat):Int)) (n:=lo+n / 4*2) (by omega) (by omega),wrN (x:=((lo+n / 4*2:Nat):Int)+1) (n:=lo+n / 4*2+1) (by omega) (by omega)];have : decide (((i:Nat):Int)<=((lo+n / 4*2+1:Nat):Int))=false:=by simp; omega
  rw [this,cond_false]
 | succ q ih =>
  intro i r d h1 h2 h3 h4 h5;have t4:=t4.resolve_right (by omega);obtain⟨x,hx⟩:=aB6 r;obtain⟨a1,a2⟩:=aGy x.1 (m:=m-1) (by omega) (by omega);have hd:decide (((i:Nat):Int)<=((lo+n / 4*2+1:Nat):Int))=true:=by simp; omega
  have step:∃ o,o<n/\dM (lo:Nat) (n:Nat) m d r (i:Nat)=some (.inl (swp d i (lo+o),x.2,((i+1:Nat):Int))):=by
   unfold dM;rw [aN (by decide),t4,wrN (x:=((n / 4:Nat):Int)*2) (n:=n / 4*2) (by omega) (by omega),wrN (x:=(lo:Int)+((n / 4*2:Nat):Int)) (n:=lo+n / 4*2) (by omega) (by omega),wrN (x:=((lo+n / 4*2:Nat):Int)+1) (n:=lo+n / 4*2+1) (by omega) (by omega),hd,cond_true,hx];simp only [Option.bind_some];rw [KZ (x:=m-1) (by omega) (by omega)];have e1:IntKind.i64.wrap (bX .and .u64 x.1 (m-1))=(((bX .and .u64 x.1 (m-1)).toNat:Nat):Int):=wrN (by omega) (by omega);rw [e1];by_cases h:(n:Int)<=(((bX .and .u64 x.1 (m-1)).toNat:Nat):Int)
   ·refine⟨(bX .and .u64 x.1 (m-1)).toNat-n,by omega,?_⟩;simp only [h,decide_true,cond_true];rw [wrN (x:=(((bX .and .u64 x.1 (m-1)).toNat:Nat):Int)-(n:Int)) (n:=(bX .and .u64 x.1 (m-1)).toNat-n) (by omega) (by omega)];exact aCF _ _ _ (by omega) (by omega) h5
   ·refine⟨(bX .and .u64 x.1 (m-1)).toNat,by omega,?_⟩;simp only [h,decide_false,cond_false];exact aCF _ _ _ (by omega) (by omega) h5
  obtain⟨o,ho,hs⟩:=step;obtain⟨d',e,rl⟩:=ih (i+1) x.2 (swp d i (lo+o)) (by omega) (by omega) (by omega) (by rw [iR]; exact h4) (by rw [iR]; exact h5);exact⟨d',(eW (show (fun s:List Int×Int×Int=>dM (lo:Nat) (n:Nat) m s.1 s.2.1 s.2.2) (d,r,(i:Int))=_ from hs)).trans e,(Rel.swp (i:=i) (j:=lo+o) (by omega) (by omega) (by omega) (by omega)).trans rl⟩

theorem aCZ {lo hi:Nat}{d:List Int}(h8:8<=hi-lo)(h1:hi<=d.length)(h2:d.length<2305843009213693951):∃ d',iO d (lo:Int) (hi:Int)=some d'/\Rel lo hi d d':=by
 unfold iO;have e1:IntKind.i64.wrap ((hi:Int)-(lo:Int))=((hi-lo:Nat):Int):=wrN (by omega) (by omega);have d1:decide ((8:Int)<=((hi-lo:Nat):Int))=true:=by simp; omega
 obtain⟨m,em,m1,m2⟩:=aEQ (n:=hi-lo) (by omega) (by omega)
 have t4:IntKind.i64.wrap (Int.tdiv ((hi-lo:Nat):Int) 4)=(((hi-lo) / 4:Nat):Int):=by
  have : Int.tdiv ((hi-lo:Nat):Int) 4=(((hi-lo) / 4:Nat):Int):=by rw [Int.tdiv_eq_ediv_of_nonneg (by omega)]; omega
  rw [this]; exact wrN rfl (by omega)
 rw [e1,d1,cond_true,em];simp only [Option.bind_some];rw [aN (by decide),t4,wrN (x:=(((hi-lo) / 4:Nat):Int)*2) (n:=(hi-lo) / 4*2) (by omega) (by omega),wrN (x:=(lo:Int)+(((hi-lo) / 4*2:Nat):Int)) (n:=lo+(hi-lo) / 4*2) (by omega) (by omega),wrN (x:=((lo+(hi-lo) / 4*2:Nat):Int)-1) (n:=lo+(hi-lo) / 4*2-1) (by omega) (by omega)];unfold kE;obtain⟨d',e,r⟩:=aGr (lo:=lo) (n:=hi-lo) (m:=m) ⟨m1,m2⟩ h8 (lo+(hi-lo) / 4*2+2-(lo+(hi-lo) / 4*2-1)) (lo+(hi-lo) / 4*2-1) (IntKind.u64.wrap ((hi-lo:Nat):Int)) d rfl (by omega) (by omega) (by omega) h2;rw [e];have : lo+(hi-lo)=hi:=by omega
 rw [this] at r;exact⟨d',rfl,r⟩

theorem aEX {a b:Nat}{d:List Int}(s:Int)(ha:a<d.length)(hb:b<d.length):∃ (p q:Nat) (s':Int),gX d (a:Int) (b:Int) s=some (((p:Int),(q:Int)),s')/\((p=a/\q=b)∨(p=b/\q=a)):=by
 unfold gX;rw [aN (asN hb),aN (asN ha),uQ];simp only [Option.bind_some]
 cases decide (d.getD (Int.toNat (b:Int)) default<d.getD (Int.toNat (a:Int)) default)
 ·exact⟨a,b,_,rfl,.inl ⟨rfl,rfl⟩⟩
 ·exact⟨b,a,_,rfl,.inr ⟨rfl,rfl⟩⟩

theorem med {a b c:Nat}{d:List Int}(s:Int)(ha:a<d.length)(hb:b<d.length)(hc:c<d.length):∃ (p:Nat) (s':Int),jG d (a:Int) (b:Int) (c:Int) s=some ((p:Int),s')/\(p=a∨p=b∨p=c):=by
 unfold jG;obtain⟨p1,q1,s1,e1,h1⟩:=aEX s ha hb;obtain⟨p2,q2,s2,e2,h2⟩:=aEX (a:=q1) (b:=c) (d:=d) s1 (by omega) hc;obtain⟨p3,q3,s3,e3,h3⟩:=aEX (a:=p1) (b:=p2) (d:=d) s2 (by omega) (by omega);rw [e1]; simp only [Option.bind_some];rw [e2]; simp only [Option.bind_some];rw [e3];exact⟨q3,s3,rfl,by omega⟩

theorem aEG {a:Nat}{d:List Int}(s:Int)(h1:1<=a)(ha:a+1<d.length)(hl:d.length<2305843009213693951):∃ (p:Nat) (s':Int),eK d (a:Int) s=some ((p:Int),s')/\a-1<=p/\p<=a+1:=by
 unfold eK;rw [wrN (x:=(a:Int)-1) (n:=a-1) (by omega) (by omega),wrN (x:=(a:Int)+1) (n:=a+1) (by omega) (by omega)];obtain⟨p,s',e,h⟩:=med (a:=a-1) (b:=a) (c:=a+1) (d:=d) s (by omega) (by omega) (by omega);rw [e];exact⟨p,s',rfl,by omega,by omega⟩

theorem aE1 (d:List Int)(s:Int)(j:Int):∃ h,gG d s j=some (j,h):=by
 unfold gG
 cases decide (s=0) <;> cases decide (s=12) <;> exact ⟨_,rfl⟩

theorem aCg {lo hi:Nat}{d:List Int}(h8:12<hi-lo)(h1:hi<=d.length)(h2:d.length<2305843009213693951):∃ (p:Nat) (h:Int),iZ d (lo:Int) (hi:Int)=some ((p:Int),h)/\lo<=p/\p<hi:=by
 unfold iZ;have e1:IntKind.i64.wrap ((hi:Int)-(lo:Int))=((hi-lo:Nat):Int):=wrN (by omega) (by omega)
 have t4:IntKind.i64.wrap (Int.tdiv ((hi-lo:Nat):Int) 4)=(((hi-lo) / 4:Nat):Int):=by
  have : Int.tdiv ((hi-lo:Nat):Int) 4=(((hi-lo) / 4:Nat):Int):=by rw [Int.tdiv_eq_ediv_of_nonneg (by omega)]; omega
  rw [this]; exact wrN rfl (by omega)
 have d1:decide ((8:Int)<=((hi-lo:Nat):Int))=true:=by simp; omega
 have q1:IntKind.i64.wrap ((lo:Int)+IntKind.i64.wrap ((((hi-lo) / 4:Nat):Int)*1))=((lo+(hi-lo) / 4:Nat):Int):=by
  rw [wrN (x:=(((hi-lo) / 4:Nat):Int)*1) (n:=(hi-lo) / 4) (by omega) (by omega)]; exact wrN (by omega) (by omega)
 have q2:IntKind.i64.wrap ((lo:Int)+IntKind.i64.wrap ((((hi-lo) / 4:Nat):Int)*2))=((lo+(hi-lo) / 4*2:Nat):Int):=by
  rw [wrN (x:=(((hi-lo) / 4:Nat):Int)*2) (n:=(hi-lo) / 4*2) (by omega) (by omega)]; exact wrN (by omega) (by omega)
 have q3:IntKind.i64.wrap ((lo:Int)+IntKind.i64.wrap ((((hi-lo) / 4:Nat):Int)*3))=((lo+(hi-lo) / 4*3:Nat):Int):=by
  rw [wrN (x:=(((hi-lo) / 4:Nat):Int)*3) (n:=(hi-lo) / 4*3) (by omega) (by omega)]; exact wrN (by omega) (by omega)
 rw [aN (by decide),aN (by decide),aN (by decide)];simp only [e1,t4,d1,q1,q2,q3,cond_true];by_cases h50:(50:Int)<=((hi-lo:Nat):Int)
 ·simp only [h50,decide_true,cond_true];obtain⟨p1,s1,f1,g1,g2⟩:=aEG (a:=lo+(hi-lo) / 4) (d:=d) 0 (by omega) (by omega) h2;obtain⟨p2,s2,f2,g3,g4⟩:=aEG (a:=lo+(hi-lo) / 4*2) (d:=d) s1 (by omega) (by omega) h2;obtain⟨p3,s3,f3,g5,g6⟩:=aEG (a:=lo+(hi-lo) / 4*3) (d:=d) s2 (by omega) (by omega) h2;obtain⟨p4,s4,f4,g7⟩:=med (a:=p1) (b:=p2) (c:=p3) (d:=d) s3 (by omega) (by omega) (by omega);obtain⟨h,f5⟩:=aE1 d s4 p4;rw [f1]; simp only [Option.bind_some];rw [f2]; simp only [Option.bind_some];rw [f3]; simp only [Option.bind_some,fZ];rw [f4]; simp only [Option.bind_some];exact⟨p4,h,f5,by omega,by omega⟩
 ·simp only [h50,decide_false,cond_false,fZ];obtain⟨p4,s4,f4,g7⟩:=med (a:=lo+(hi-lo) / 4) (b:=lo+(hi-lo) / 4*2) (c:=lo+(hi-lo) / 4*3) (d:=d) 0 (by omega) (by omega) (by omega);obtain⟨h,f5⟩:=aE1 d s4 p4;rw [f4]; simp only [Option.bind_some];exact⟨p4,h,f5,by omega,by omega⟩

end Go.Abs
namespace Go.Abs
open Go
theorem TX {body:List Int×Int->Option ((List Int×Int)⊕(List Int×Int))} {d:List Int} {p:Nat->Prop} [DecidablePred p] {j:Nat}
  (hs:∀ i,i<=j+1->body (d,(i:Int))=if i<=j/\p i then some (.inl (d,((i+1:Nat):Int))) else some (.inr (d,(i:Int)))) :
  ∀ (n i:Nat),j+1-i=n->i<=j+1 -> ∃ i':Nat,lp body (d,(i:Int))=some (d,(i':Int))/\i<=i'/\i'<=j+1/\(∀ k,i<=k->k<i'->p k)/\(i'<=j -> ¬ p i'):=by
 intro n
 induction n with
 | zero =>
  intro i h1 h2;have:=hs i h2;rw [if_neg (by omega)] at this;exact⟨i,cV this,Nat.le_refl _,h2,fun k a b=>by omega,fun h=>by omega⟩
 | succ n ih =>
  intro i h1 h2;have h:=hs i h2;by_cases hp:p i
  ·rw [if_pos ⟨by omega,hp⟩] at h;obtain⟨i',e,a1,a2,a3,a4⟩:=ih (i+1) (by omega) (by omega);refine⟨i',(eW h).trans e,by omega,a2,fun k b1 b2=>?_,a4⟩;by_cases hk:k=i
   ·rw [hk]; exact hp
   ·exact a3 k (by omega) b2
  ·rw [if_neg fun hh=>hp hh.2] at h;exact⟨i,cV h,Nat.le_refl _,h2,fun k a b=>by omega,fun _=>hp⟩

theorem MB {body:List Int×Int->Option ((List Int×Int)⊕(List Int×Int))} {d:List Int} {p:Nat->Prop} [DecidablePred p] {i m:Nat} (hi:1<=i)
  (hs:∀ j,j<=m->body (d,(j:Int))=if i<=j/\p j then some (.inl (d,((j-1:Nat):Int))) else some (.inr (d,(j:Int)))) :
  ∀ (j:Nat),j<=m->i<=j+1 -> ∃ j':Nat,lp body (d,(j:Int))=some (d,(j':Int))/\i<=j'+1/\j'<=j/\(∀ k,j'<k->k<=j->p k)/\(i<=j' -> ¬ p j'):=by
 intro j
 induction j with
 | zero =>
  intro h1 h2;have:=hs 0 h1;rw [if_neg (by omega)] at this;exact⟨0,cV this,by omega,Nat.le_refl _,fun k a b=>by omega,fun h=>by omega⟩
 | succ j ih =>
  intro h1 h2;have h:=hs (j+1) h1;by_cases hp:i<=j+1/\p (j+1)
  ·rw [if_pos hp] at h;obtain⟨j',e,a1,a2,a3,a4⟩:=ih (by omega) (by omega);refine⟨j',(eW h).trans e,a1,by omega,fun k b1 b2=>?_,a4⟩;by_cases hk:k=j+1
   ·rw [hk]; exact hp.2
   ·exact a3 k b1 (by omega)
  ·rw [if_neg hp] at h;exact⟨j+1,cV h,by omega,Nat.le_refl _,fun k a b=>by omega,fun h1 h2=>hp ⟨h1,h2⟩⟩

theorem aBj {α:Type}{i j u v:Nat}{d:List Int}{n:Bool}{x y:Option α}(hu:i<=j->u<d.length)(hv:i<=j->v<d.length) :
  (bE ((decide ((i:Int)<=(j:Int)))=true->0<=(u:Int)/\(u:Int)<((List.length d:Nat):Int)) <|
  bE ((decide ((i:Int)<=(j:Int)))=true->0<=(v:Int)/\(v:Int)<((List.length d:Nat):Int)) <|
  (cW (decide ((i:Int)<=(j:Int))) (dH (List.getD d (Int.toNat (u:Int)) default) (List.getD d (Int.toNat (v:Int)) default))).bind fun z =>
  cond ((decide ((i:Int)<=(j:Int)))&&(Bool.xor n z)) x y)=if i<=j/\(Bool.xor n (decide (gN d u<gN d v)))=true then x else y:=by
 by_cases h:i<=j
 ·have hd:decide ((i:Int)<=(j:Int))=true:=by simp; omega
  rw [hd];rw [aN fun _=>asN (hu h),aN fun _=>asN (hv h)];simp only [cW,cond_true,uQ,Option.bind_some,Bool.true_and,Int.toNat_natCast,h,true_and,gN]
  cases Bool.xor n (decide (d.getD u default<d.getD v default)) <;> simp
 ·have hd:decide ((i:Int)<=(j:Int))=false:=by simp; omega
  rw [hd,aN (fun h=>by cases h),aN (fun h=>by cases h)];simp [cW,h]

theorem OR {α:Type}{i j u v:Nat}{d:List Int}{x y:Option α}(hu:i<=j->u<d.length)(hv:i<=j->v<d.length) :
  (bE ((decide ((i:Int)<=(j:Int)))=true->0<=(u:Int)/\(u:Int)<((List.length d:Nat):Int)) <|
  bE ((decide ((i:Int)<=(j:Int)))=true->0<=(v:Int)/\(v:Int)<((List.length d:Nat):Int)) <|
  (cW (decide ((i:Int)<=(j:Int))) (dH (List.getD d (Int.toNat (u:Int)) default) (List.getD d (Int.toNat (v:Int)) default))).bind fun z =>
  cond ((decide ((i:Int)<=(j:Int)))&&z) x y)=if i<=j/\gN d u<gN d v then x else y:=by
 have:=aBj (n:=false) (x:=x) (y:=y) hu hv;simp only [Bool.false_xor] at this;exact this.trans (by simp)

theorem OW {α:Type}{i j u v:Nat}{d:List Int}{x y:Option α}(hu:i<=j->u<d.length)(hv:i<=j->v<d.length) :
  (bE ((decide ((i:Int)<=(j:Int)))=true->0<=(u:Int)/\(u:Int)<((List.length d:Nat):Int)) <|
  bE ((decide ((i:Int)<=(j:Int)))=true->0<=(v:Int)/\(v:Int)<((List.length d:Nat):Int)) <|
  (cW (decide ((i:Int)<=(j:Int))) (dH (List.getD d (Int.toNat (u:Int)) default) (List.getD d (Int.toNat (v:Int)) default))).bind fun z =>
  cond ((decide ((i:Int)<=(j:Int)))&&(!z)) x y)=if i<=j /\ ¬ gN d u<gN d v then x else y:=by
 have:=aBj (n:=true) (x:=x) (y:=y) hu hv;simp only [Bool.true_xor] at this;exact this.trans (by simp)

theorem aFJ {a j:Nat}{d:List Int}(ha:a<d.length)(hj:j<d.length)(hl:d.length<2305843009213693951):∀ i,i<=j+1->fA (a:Nat) (j:Nat) d (i:Nat)=if i<=j/\gN d i<gN d a then some (.inl (d,((i+1:Nat):Int))) else some (.inr (d,(i:Int))):=by
 intro i hi;unfold fA;rw [wrN (x:=(i:Int)+1) (n:=i+1) (by omega) (by omega)];exact OR (u:=i) (v:=a) (by omega) (by omega)

theorem aEC {a j:Nat}{d:List Int}(ha:a<d.length)(hj:j<d.length)(hl:d.length<2305843009213693951):∀ i,i<=j+1->fF (a:Nat) (j:Nat) d (i:Nat)=if i<=j/\gN d i<gN d a then some (.inl (d,((i+1:Nat):Int))) else some (.inr (d,(i:Int))):=by
 intro i hi;unfold fF;rw [wrN (x:=(i:Int)+1) (n:=i+1) (by omega) (by omega)];exact OR (u:=i) (v:=a) (by omega) (by omega)

theorem aCH {a i m:Nat}{d:List Int}(hi:1<=i)(ha:a<d.length)(hm:m<d.length)(hl:d.length<2305843009213693951):∀ j,j<=m->fG (a:Nat) (i:Nat) d (j:Nat)=if i<=j /\ ¬ gN d j<gN d a then some (.inl (d,((j-1:Nat):Int))) else some (.inr (d,(j:Int))):=by
 intro j hj;unfold fG;refine (OW (i:=i) (j:=j) (d:=d) (α:=(List Int×Int)⊕(List Int×Int)) (u:=j) (v:=a) (x:=some (.inl (d,IntKind.i64.wrap ((j:Int)-1)))) (y:=some (.inr (d,(j:Int)))) (by omega) (by omega)).trans ?_;by_cases h:i<=j /\ ¬ gN d j<gN d a
 ·rw [if_pos h,if_pos h,wrN (x:=(j:Int)-1) (n:=j-1) (by omega) (by omega)]
 ·rw [if_neg h,if_neg h]

theorem aB5 {a i m:Nat}{d:List Int}(hi:1<=i)(ha:a<d.length)(hm:m<d.length)(hl:d.length<2305843009213693951):∀ j,j<=m->fK (a:Nat) (i:Nat) d (j:Nat)=if i<=j /\ ¬ gN d j<gN d a then some (.inl (d,((j-1:Nat):Int))) else some (.inr (d,(j:Int))):=by
 intro j hj;unfold fK;refine (OW (i:=i) (j:=j) (d:=d) (α:=(List Int×Int)⊕(List Int×Int)) (u:=j) (v:=a) (x:=some (.inl (d,IntKind.i64.wrap ((j:Int)-1)))) (y:=some (.inr (d,(j:Int)))) (by omega) (by omega)).trans ?_;by_cases h:i<=j /\ ¬ gN d j<gN d a
 ·rw [if_pos h,if_pos h,wrN (x:=(j:Int)-1) (n:=j-1) (by omega) (by omega)]
 ·rw [if_neg h,if_neg h]

theorem aEN {a j:Nat}{d:List Int}(ha:a<d.length)(hj:j<d.length)(hl:d.length<2305843009213693951):∀ i,i<=j+1->eJ (a:Nat) (j:Nat) d (i:Nat)=if i<=j /\ ¬ gN d a<gN d i then some (.inl (d,((i+1:Nat):Int))) else some (.inr (d,(i:Int))):=by
 intro i hi;unfold eJ;rw [wrN (x:=(i:Int)+1) (n:=i+1) (by omega) (by omega)];exact OW (u:=a) (v:=i) (by omega) (by omega)

theorem aCn {a i m:Nat}{d:List Int}(hi:1<=i)(ha:a<d.length)(hm:m<d.length)(hl:d.length<2305843009213693951):∀ j,j<=m->eG (a:Nat) (i:Nat) d (j:Nat)=if i<=j/\gN d a<gN d j then some (.inl (d,((j-1:Nat):Int))) else some (.inr (d,(j:Int))):=by
 intro j hj;unfold eG;refine (OR (i:=i) (j:=j) (d:=d) (α:=(List Int×Int)⊕(List Int×Int)) (u:=a) (v:=j) (x:=some (.inl (d,IntKind.i64.wrap ((j:Int)-1)))) (y:=some (.inr (d,(j:Int)))) (by omega) (by omega)).trans ?_;by_cases h:i<=j/\gN d a<gN d j
 ·rw [if_pos h,if_pos h,wrN (x:=(j:Int)-1) (n:=j-1) (by omega) (by omega)]
 ·rw [if_neg h,if_neg h]

structure DO (a b i j:Nat) (d:List Int):Prop where
 hi:a<i
 hij:i<=j+1
 hj:j<b
 lo:∀ k,a<k->k<i->gN d k<gN d a
 up:∀ k,j<k->k<b->gN d a<=gN d k

theorem DO.swap {a b i j:Nat}{d:List Int}(h:DO a b i j d)(hb:b<=d.length)(hij:i<j)(h1:gN d a<=gN d i)(h2:gN d j<gN d a):DO a b (i+1) (j-1) (swp d i j):=by
 have:=h.hi; have:=h.hj;have g:=wJ (d:=d) (i:=i) (j:=j) (by omega) (by omega);have ga:gN (swp d i j) a=gN d a:=by rw [g,if_neg (by omega),if_neg (by omega)]
 refine⟨by omega,by omega,by omega,fun k k1 k2=>?_,fun k k1 k2=>?_⟩
 ·rw [ga,g,if_neg (by omega)];by_cases hk:k=i
  ·rw [if_pos hk]; exact h2
  ·rw [if_neg hk]; exact h.lo k k1 (by omega)
 ·rw [ga,g];by_cases hk:k=j
  ·rw [if_pos hk]; exact h1
  ·rw [if_neg hk,if_neg (by omega)]; exact h.up k (by omega) k2

theorem SH {a b i j:Nat}{d:List Int}(h:DO a b i j d)(hb:b<=d.length)(hl:d.length<2305843009213693951):∃ i' j':Nat,DO a b i' j' d/\i<=i'/\j'<=j/\(j'<i'->j'+1=i')/\(i'<=j'->i'<j'/\gN d a<=gN d i'/\gN d j'<gN d a) /\
  eA (a:Nat) d (i:Nat) (j:Nat)=fH d (a:Nat) (i':Nat) (j':Nat)/\gM d (a:Nat) (i:Nat) (j:Nat)=fL d (a:Nat) (i':Nat) (j':Nat):=by
 have h1:=h.hi; have h2:=h.hij; have h3:=h.hj;obtain⟨i',e1,a1,a2,a3,a4⟩:=TX (body:=fun s=>fF (a:Nat) (j:Nat) s.1 s.2) (d:=d) (p:=fun k=>gN d k<gN d a) (j:=j) (aEC (a:=a) (j:=j) (d:=d) (by omega) (by omega) hl) (j+1-i) i rfl h2;obtain⟨i2,e1',b1,b2,b3,b4⟩:=TX (body:=fun s=>fA (a:Nat) (j:Nat) s.1 s.2) (d:=d) (p:=fun k=>gN d k<gN d a) (j:=j) (aFJ (a:=a) (j:=j) (d:=d) (by omega) (by omega) hl) (j+1-i) i rfl h2
 have hii:i2=i':=by
  rcases Nat.lt_trichotomy i2 i' with hh | hh | hh
  ·exact absurd (a3 i2 b1 hh) (b4 (by omega))
  ·exact hh
  ·exact absurd (b3 i' a1 hh) (a4 (by omega))
 subst hii;obtain⟨j',f1,c1,c2,c3,c4⟩:=MB (body:=fun s=>fK (a:Nat) (i2:Nat) s.1 s.2) (d:=d) (p:=fun k => ¬ gN d k<gN d a) (i:=i2) (m:=j) (by omega) (aB5 (a:=a) (i:=i2) (m:=j) (d:=d) (by omega) (by omega) (by omega) hl) j (Nat.le_refl _) a2;obtain⟨j2,f1',g1,g2,g3,g4⟩:=MB (body:=fun s=>fG (a:Nat) (i2:Nat) s.1 s.2) (d:=d) (p:=fun k => ¬ gN d k<gN d a) (i:=i2) (m:=j) (by omega) (aCH (a:=a) (i:=i2) (m:=j) (d:=d) (by omega) (by omega) (by omega) hl) j (Nat.le_refl _) a2
 have hjj:j2=j':=by
  rcases Nat.lt_trichotomy j2 j' with hh | hh | hh
  ·exact absurd (g3 j' hh c2) (c4 (by omega))
  ·exact hh
  ·exact absurd (c3 j2 hh g2) (g4 (by omega))
 subst hjj
 have hend:i2<=j2->i2<j2/\gN d a<=gN d i2/\gN d j2<gN d a:=fun hh=>by
  have k1:¬ gN d i2<gN d a:=a4 (by omega);have k2:gN d j2<gN d a:=Classical.byContradiction fun hn=>c4 hh hn;refine⟨?_,by omega,k2⟩;rcases Nat.lt_or_ge i2 j2 with h | h
  ·exact h
  ·have : i2=j2:=by omega
   rw [this] at k1; exact absurd k2 k1
 refine⟨i2,j2,⟨by omega,by omega,by omega,fun k k1 k2=>?_,fun k k1 k2=>?_⟩,a1,c2,fun hh=>by omega,hend,?_,?_⟩
 ·by_cases hk:k<i
  ·exact h.lo k k1 hk
  ·exact a3 k (by omega) k2
 ·by_cases hk:j<k
  ·exact h.up k hk k2
  ·have:=c3 k k1 (by omega); omega
 ·unfold eA lR;rw [show lp (fun s:List Int×Int=>fF (a:Nat) (j:Nat) s.1 s.2) (d,(i:Int))=some (d,(i2:Int)) from e1];simp only [Option.bind_some];unfold jJ lQ;rw [show lp (fun s:List Int×Int=>fK (a:Nat) (i2:Nat) s.1 s.2) (d,(j:Int))=some (d,(j2:Int)) from f1];rfl
 ·unfold gM;rw [show lp (fun s:List Int×Int=>fA (a:Nat) (j:Nat) s.1 s.2) (d,(i:Int))=some (d,(i2:Int)) from e1'];simp only [Option.bind_some];unfold jH lO;rw [show lp (fun s:List Int×Int=>fG (a:Nat) (i2:Nat) s.1 s.2) (d,(j:Int))=some (d,(j2:Int)) from f1'];rfl

theorem DO.rel {a b i j:Nat}{d:List Int}(h:DO a b i j d)(hb:b<=d.length)(hij:i<=j):Rel (a+1) b d (swp d i j):=by
 have:=h.hi; have:=h.hj;exact Rel.swp (i:=i) (j:=j) (by omega) (by omega) (by omega) (by omega)

theorem aFn {a b:Nat}:∀ (n i j:Nat) (d:List Int),j+1-i=n->b<=d.length->d.length<2305843009213693951->DO a b i j d ->
  ∃ (d':List Int) (j':Nat),lp (fun s:List Int×Int×Int=>eA (a:Nat) s.1 s.2.1 s.2.2) (d,(i:Int),(j:Int))=some (d',(j':Int))/\Rel (a+1) b d d'/\DO a b (j'+1) j' d':=by
 intro n
 induction n using Nat.strongRecOn with
 | ind n ih =>
  intro i j d h1 h2 h3 h;obtain⟨i',j',p1,p2,p3,p4,p5,p6,_⟩:=SH h h2 h3;have q1:=p1.hi; have q2:=p1.hj; have q3:=p1.hij;by_cases hlt:j'<i'
  ·have hs:eA (a:Nat) d (i:Nat) (j:Nat)=some (.inr (d,(j':Int))):=by
    rw [p6];unfold fH;have : decide ((j':Int)<(i':Int))=true:=by simp; omega
    rw [this,cond_true]
   have:=p4 hlt;exact⟨d,j',cV hs,Rel.refl ..,by rw [this]; exact p1⟩
  ·obtain⟨k1,k2,k3⟩:=p5 (by omega)
   have hs:eA (a:Nat) d (i:Nat) (j:Nat)=some (.inl (swp d i' j',((i'+1:Nat):Int),((j'-1:Nat):Int))):=by
    rw [p6];unfold fH;have : decide ((j':Int)<(i':Int))=false:=by simp; omega
    rw [this,cond_false];simp only [Int.toNat_natCast];rw [aN (asN (by omega)),aN (asN (by omega)),aN (asN (by omega)),aN (asN (by omega)),wrN (x:=(i':Int)+1) (n:=i'+1) (by omega) (by omega),wrN (x:=(j':Int)-1) (n:=j'-1) (by omega) (by omega)];rfl
   obtain⟨d',j2,e,r,p⟩:=ih (j'-1+1-(i'+1)) (by omega) (i'+1) (j'-1) (swp d i' j') rfl (by rw [iR]; exact h2) (by rw [iR]; exact h3) (p1.swap h2 k1 k2 k3);exact⟨d',j2,(eW hs).trans e,(p1.rel h2 (by omega)).trans r,p⟩

theorem aAt {a b j:Nat}{d:List Int}(h:DO a b (j+1) j d)(hb:b<=d.length):Rel a b d (swp d j a)/\(∀ k,a<=k->k<j->gN (swp d j a) k<=gN (swp d j a) j)/\(∀ k,j<k->k<b->gN (swp d j a) j<=gN (swp d j a) k):=by
 have h1:=h.hi; have h3:=h.hj;have g:=wJ (d:=d) (i:=j) (j:=a) (by omega) (by omega)
 have gj:gN (swp d j a) j=gN d a:=by
  rw [g];by_cases hh:j=a
  ·rw [if_pos hh,hh]
  ·rw [if_neg hh,if_pos rfl]
 refine⟨Rel.swp (i:=j) (j:=a) (by omega) (by omega) (by omega) (by omega),fun k k1 k2=>?_,fun k k1 k2=>?_⟩
 ·rw [gj,g];by_cases hk:k=a
  ·rw [if_pos hk];have:=h.lo j (by omega) (by omega); omega
  ·rw [if_neg hk,if_neg (by omega)];have:=h.lo k (by omega) (by omega); omega
 ·rw [gj,g,if_neg (by omega),if_neg (by omega)];exact h.up k k1 k2

theorem aAe {lo hi p:Nat}{d:List Int}(h0:lo<hi)(hb:hi<=d.length)(hl:d.length<2305843009213693951)(hp:lo<=p/\p<hi) :
  ∃ (m:Nat) (fl:Bool) (d':List Int),iI d (lo:Int) (hi:Int) (p:Int)=some (((m:Int),fl),d')/\lo<=m/\m<hi/\Rel lo hi d d'/\(∀ k,lo<=k->k<m->gN d' k<=gN d' m)/\(∀ k,m<k->k<hi->gN d' m<=gN d' k):=by
 unfold iI;rw [aN (asN (by omega)),aN (asN (by omega)),aN (asN (by omega)),aN (asN (by omega)),wrN (x:=(lo:Int)+1) (n:=lo+1) (by omega) (by omega),wrN (x:=(hi:Int)-1) (n:=hi-1) (by omega) (by omega)];simp only [Int.toNat_natCast];have r0:Rel lo hi d (swp d lo p):=Rel.swp (i:=lo) (j:=p) (by omega) (by omega) (by omega) (by omega);have l0:(swp d lo p).length=d.length:=iR ..;have inv:DO lo hi (lo+1) (hi-1) (swp d lo p):=⟨by omega,by omega,by omega,fun k k1 k2=>by omega,fun k k1 k2=>by omega⟩;obtain⟨i',j',p1,p2,p3,p4,p5,_,p6⟩:=SH inv (by rw [l0]; exact hb) (by rw [l0]; exact hl);have e0:gM (List.set (List.set d lo (List.getD d p default)) p (List.getD d lo default)) (lo:Int) ((lo+1:Nat):Int) ((hi-1:Nat):Int)=fL (swp d lo p) (lo:Nat) (i':Nat) (j':Nat):=p6;rw [e0];have q1:=p1.hi; have q2:=p1.hj; have q3:=p1.hij
 generalize hg:swp d lo p=d1 at *
 unfold fL;by_cases hlt:j'<i'
 ·have : decide ((j':Int)<(i':Int))=true:=by simp; omega
  rw [this,cond_true];simp only [Int.toNat_natCast];rw [aN (asN (by omega)),aN (asN (by omega)),aN (asN (by omega)),aN (asN (by omega))];have hp1:DO lo hi (j'+1) j' d1:=by rw [p4 hlt]; exact p1
  obtain⟨r,a1,a2⟩:=aAt hp1 (by omega);exact⟨j',true,swp d1 j' lo,rfl,by omega,by omega,r0.trans r,a1,a2⟩
 ·obtain⟨k1,k2,k3⟩:=p5 (by omega);have : decide ((j':Int)<(i':Int))=false:=by simp; omega
  rw [this,cond_false];simp only [Int.toNat_natCast];rw [aN (asN (by omega)),aN (asN (by omega)),aN (asN (by omega)),aN (asN (by omega)),wrN (x:=(i':Int)+1) (n:=i'+1) (by omega) (by omega),wrN (x:=(j':Int)-1) (n:=j'-1) (by omega) (by omega)];obtain⟨d2,j2,e,r,pp⟩:=aFn (a:=lo) (b:=hi) (j'-1+1-(i'+1)) (i'+1) (j'-1) (swp d1 i' j') rfl (by rw [iR]; omega) (by rw [iR]; omega) (p1.swap (by omega) k1 k2 k3);have w1:=pp.hi; have w2:=pp.hj;have l2:d2.length=d1.length:=by rw [r.len,iR]
  unfold lP;rw [show lp (fun s:List Int×Int×Int=>eA (lo:Int) s.1 s.2.1 s.2.2) ((List.set (List.set d1 i' (List.getD d1 j' default)) j' (List.getD d1 i' default)),((i'+1:Nat):Int),((j'-1:Nat):Int))=some (d2,(j2:Int)) from e];simp only [Option.bind_some,jK,Int.toNat_natCast];rw [aN (asN (by omega)),aN (asN (by omega)),aN (asN (by omega)),aN (asN (by omega))];obtain⟨rr,a1,a2⟩:=aAt pp (by omega);exact⟨j2,false,swp d2 j2 lo,rfl,by omega,by omega,((r0.trans ((p1.rel (by omega) (by omega)).mono (by omega) (Nat.le_refl _))).trans (r.mono (by omega) (Nat.le_refl _))).trans rr,a1,a2⟩

end Go.Abs
namespace Go.Abs
open Go
structure LL (a b i j:Nat) (d:List Int):Prop where
 hi:a<i
 hij:i<=j+1
 hj:j<b
 lo:∀ k,a<k->k<i->gN d k<=gN d a
 up:∀ k,j<k->k<b->gN d a<gN d k

theorem LL.swap {a b i j:Nat}{d:List Int}(h:LL a b i j d)(hb:b<=d.length)(hij:i<j)(h1:gN d a<gN d i)(h2:gN d j<=gN d a):LL a b (i+1) (j-1) (swp d i j):=by
 have:=h.hi; have:=h.hj;have g:=wJ (d:=d) (i:=i) (j:=j) (by omega) (by omega);have ga:gN (swp d i j) a=gN d a:=by rw [g,if_neg (by omega),if_neg (by omega)]
 refine⟨by omega,by omega,by omega,fun k k1 k2=>?_,fun k k1 k2=>?_⟩
 ·rw [ga,g,if_neg (by omega)];by_cases hk:k=i
  ·rw [if_pos hk]; exact h2
  ·rw [if_neg hk]; exact h.lo k k1 (by omega)
 ·rw [ga,g];by_cases hk:k=j
  ·rw [if_pos hk]; exact h1
  ·rw [if_neg hk,if_neg (by omega)]; exact h.up k (by omega) k2

theorem aAL {a b i j:Nat}{d:List Int}(h:LL a b i j d)(hb:b<=d.length)(hl:d.length<2305843009213693951):∃ i' j':Nat,LL a b i' j' d/\i<=i'/\j'<=j/\(j'<i'->j'+1=i')/\(i'<=j'->i'<j'/\gN d a<gN d i'/\gN d j'<=gN d a) /\
  dJ (a:Nat) d (i:Nat) (j:Nat)=eF d (a:Nat) (i':Nat) (j':Nat):=by
 have h1:=h.hi; have h2:=h.hij; have h3:=h.hj;obtain⟨i',e1,a1,a2,a3,a4⟩:=TX (body:=fun s=>eJ (a:Nat) (j:Nat) s.1 s.2) (d:=d) (p:=fun k => ¬ gN d a<gN d k) (j:=j) (aEN (a:=a) (j:=j) (d:=d) (by omega) (by omega) hl) (j+1-i) i rfl h2;obtain⟨j',f1,c1,c2,c3,c4⟩:=MB (body:=fun s=>eG (a:Nat) (i':Nat) s.1 s.2) (d:=d) (p:=fun k=>gN d a<gN d k) (i:=i') (m:=j) (by omega) (aCn (a:=a) (i:=i') (m:=j) (d:=d) (by omega) (by omega) (by omega) hl) j (Nat.le_refl _) a2
 have hend:i'<=j'->i'<j'/\gN d a<gN d i'/\gN d j'<=gN d a:=fun hh=>by
  have k1:gN d a<gN d i':=Classical.byContradiction fun hn=>a4 (by omega) hn;have k2:¬ gN d a<gN d j':=c4 hh;refine⟨?_,k1,by omega⟩;rcases Nat.lt_or_ge i' j' with h | h
  ·exact h
  ·have : i'=j':=by omega
   rw [this] at k1; exact absurd k1 k2
 refine⟨i',j',⟨by omega,by omega,by omega,fun k k1 k2=>?_,fun k k1 k2=>?_⟩,a1,c2,fun hh=>by omega,hend,?_⟩
 ·by_cases hk:k<i
  ·exact h.lo k k1 hk
  ·have:=a3 k (by omega) k2; omega
 ·by_cases hk:j<k
  ·exact h.up k hk k2
  ·exact c3 k k1 (by omega)
 ·unfold dJ jQ;rw [show lp (fun s:List Int×Int=>eJ (a:Nat) (j:Nat) s.1 s.2) (d,(i:Int))=some (d,(i':Int)) from e1];simp only [Option.bind_some];unfold gS jR;rw [show lp (fun s:List Int×Int=>eG (a:Nat) (i':Nat) s.1 s.2) (d,(j:Int))=some (d,(j':Int)) from f1];rfl

theorem aEW {a b:Nat}:∀ (n i j:Nat) (d:List Int),j+1-i=n->b<=d.length->d.length<2305843009213693951->LL a b i j d ->
  ∃ (d':List Int) (j':Nat),lp (fun s:List Int×Int×Int=>dJ (a:Nat) s.1 s.2.1 s.2.2) (d,(i:Int),(j:Int))=some (d',((j'+1:Nat):Int))/\Rel (a+1) b d d'/\LL a b (j'+1) j' d':=by
 intro n
 induction n using Nat.strongRecOn with
 | ind n ih =>
  intro i j d h1 h2 h3 h;obtain⟨i',j',p1,p2,p3,p4,p5,p6⟩:=aAL h h2 h3;have q1:=p1.hi; have q2:=p1.hj; have q3:=p1.hij;by_cases hlt:j'<i'
  ·have hs:dJ (a:Nat) d (i:Nat) (j:Nat)=some (.inr (d,(i':Int))):=by
    rw [p6];unfold eF;have : decide ((j':Int)<(i':Int))=true:=by simp; omega
    rw [this,cond_true]
   have:=p4 hlt;exact⟨d,j',by rw [this]; exact cV hs,Rel.refl ..,by rw [this]; exact p1⟩
  ·obtain⟨k1,k2,k3⟩:=p5 (by omega)
   have hs:dJ (a:Nat) d (i:Nat) (j:Nat)=some (.inl (swp d i' j',((i'+1:Nat):Int),((j'-1:Nat):Int))):=by
    rw [p6];unfold eF;have : decide ((j':Int)<(i':Int))=false:=by simp; omega
    rw [this,cond_false];simp only [Int.toNat_natCast];rw [aN (asN (by omega)),aN (asN (by omega)),aN (asN (by omega)),aN (asN (by omega)),wrN (x:=(i':Int)+1) (n:=i'+1) (by omega) (by omega),wrN (x:=(j':Int)-1) (n:=j'-1) (by omega) (by omega)];rfl
   obtain⟨d',j2,e,r,p⟩:=ih (j'-1+1-(i'+1)) (by omega) (i'+1) (j'-1) (swp d i' j') rfl (by rw [iR]; exact h2) (by rw [iR]; exact h3) (p1.swap h2 k1 k2 k3);exact⟨d',j2,(eW hs).trans e,(Rel.swp (i:=i') (j:=j') (by omega) (by omega) (by omega) (by omega)).trans r,p⟩

theorem WS {lo hi p:Nat}{d:List Int}(h0:lo<hi)(hb:hi<=d.length)(hl:d.length<2305843009213693951)(hp:lo<=p/\p<hi) :
  ∃ (m:Nat) (d':List Int),fM d (lo:Int) (hi:Int) (p:Int)=some ((m:Int),d')/\lo<m/\m<=hi/\Rel lo hi d d'/\(∀ k,lo<=k->k<m->gN d' k<=gN d p)/\(∀ k,m<=k->k<hi->gN d p<gN d' k):=by
 unfold fM;rw [aN (asN (by omega)),aN (asN (by omega)),aN (asN (by omega)),aN (asN (by omega)),wrN (x:=(lo:Int)+1) (n:=lo+1) (by omega) (by omega),wrN (x:=(hi:Int)-1) (n:=hi-1) (by omega) (by omega)];simp only [Int.toNat_natCast];have r0:Rel lo hi d (swp d lo p):=Rel.swp (i:=lo) (j:=p) (by omega) (by omega) (by omega) (by omega);have l0:(swp d lo p).length=d.length:=iR ..;have g:=wJ (d:=d) (i:=lo) (j:=p) (by omega) (by omega)
 have g0:gN (swp d lo p) lo=gN d p:=by
  rw [g];by_cases hh:lo=p
  ·rw [if_pos hh,hh]
  ·rw [if_neg hh,if_pos rfl]
 have inv:LL lo hi (lo+1) (hi-1) (swp d lo p):=⟨by omega,by omega,by omega,fun k k1 k2=>by omega,fun k k1 k2=>by omega⟩;obtain⟨d',j',e,r,pp⟩:=aEW (a:=lo) (b:=hi) (hi-1+1-(lo+1)) (lo+1) (hi-1) (swp d lo p) rfl (by rw [l0]; exact hb) (by rw [l0]; exact hl) inv;have w1:=pp.hi; have w2:=pp.hj;have ga:gN d' lo=gN d p:=by rw [r.out lo (by omega),g0]
 unfold jT;rw [show lp (fun s:List Int×Int×Int=>dJ (lo:Int) s.1 s.2.1 s.2.2) ((List.set (List.set d lo (List.getD d p default)) p (List.getD d lo default)),((lo+1:Nat):Int),((hi-1:Nat):Int))=some (d',((j'+1:Nat):Int)) from e];refine⟨j'+1,d',rfl,by omega,by omega,r0.trans (r.mono (by omega) (Nat.le_refl _)),fun k k1 k2=>?_,fun k k1 k2=>?_⟩
 ·rw [←ga];by_cases hk:k=lo
  ·rw [hk]; exact Int.le_refl _
  ·exact pp.lo k (by omega) k2
 ·rw [←ga]; exact pp.up k (by omega) k2

theorem aBA {lo i:Nat}{d:List Int}:∀ (n i':Nat),i'-i=n->rV lo i d->lo<i->(∀ k,i<=k->k<i'->gN d (k-1)<=gN d k)->rV lo i' d
 | 0,i',h,hs,_,_=>fun p q p1 p2 p3=>hs p q p1 p2 (by omega)
 | n+1,i',h,hs,hl,hk=>by
  have ih:=aBA (d:=d) n (i'-1) (by omega) hs hl fun k k1 k2=>hk k k1 (by omega);intro p q p1 p2 p3;by_cases hq:q=i'-1
  ·by_cases hp:p=q
   ·rw [hp]; exact Int.le_refl _
   ·have h1:=hk q (by omega) (by omega);have h2:=ih p (q-1) p1 (by omega) (by omega);omega
  ·exact ih p q p1 p2 (by omega)

theorem aEq {lo hi:Nat}{d:List Int}(x:Int)(hb:hi<=d.length)(hl:d.length<2305843009213693951):∀ (n i:Nat),hi-i=n->1<=i->i<=hi ->
  ∃ i':Nat,lp (fun s:List Int×Int=>dB (lo:Nat) (hi:Nat) x s.1 s.2) (d,(i:Int))=some (d,(i':Int))/\i<=i'/\i'<=hi/\(∀ k,i<=k->k<i'->gN d (k-1)<=gN d k):=by
 intro n
 induction n with
 | zero =>
  intro i h1 h2 h3;refine⟨i,cV ?_,Nat.le_refl _,h3,fun k k1 k2=>by omega⟩;show dB _ _ _ _ _=_;have : decide ((i:Int)<(hi:Int))=false:=by simp; omega
  simp only [dB,this];rw [aN (fun h=>by cases h),aN (fun h=>by cases h)];rfl
 | succ n ih =>
  intro i h1 h2 h3;have hd:decide ((i:Int)<(hi:Int))=true:=by simp; omega
  have hs:dB (lo:Nat) (hi:Nat) x d (i:Nat)=if gN d i<gN d (i-1) then some (.inr (d,(i:Int))) else some (.inl (d,((i+1:Nat):Int))):=by
   unfold dB;rw [hd,wrN (x:=(i:Int)-1) (n:=i-1) (by omega) (by omega),wrN (x:=(i:Int)+1) (n:=i+1) (by omega) (by omega),aN fun _=>asN (by omega),aN fun _=>asN (by omega)];simp only [cW,cond_true,uQ,Option.bind_some,Bool.true_and,Int.toNat_natCast,gN];by_cases h:d.getD i default<d.getD (i-1) default <;> simp [h]
  by_cases h:gN d i<gN d (i-1)
  ·rw [if_pos h] at hs;exact⟨i,cV hs,Nat.le_refl _,h3,fun k k1 k2=>by omega⟩
  ·rw [if_neg h] at hs;obtain⟨i',e,a1,a2,a3⟩:=ih (i+1) (by omega) (by omega) (by omega);refine⟨i',(eW hs).trans e,by omega,a2,fun k k1 k2=>?_⟩;by_cases hk:k=i
   ·rw [hk]; omega
   ·exact a3 k (by omega) k2

theorem MT {lo hi:Nat}{d d':List Int}(r:Rel lo hi d d')(h:lo=0 ∨ ∀ k,lo<=k->k<hi->gN d (lo-1)<=gN d k):lo=0 ∨ ∀ k,lo<=k->k<hi->gN d' (lo-1)<=gN d' k:=by
 by_cases h0:lo=0
 ·exact .inl h0
 ·rcases h with h | h
  ·exact .inl h
  ·exact .inr fun k k1 k2=>by
    rw [r.out (lo-1) (by omega)];exact r.all (p:=fun v=>gN d (lo-1)<=v) h k k1 k2

theorem aEj {lo hi i:Nat}(x y:Int):∀ (j:Nat) (d:List Int),lo<=j->j<=i->i<d.length->d.length<2305843009213693951->LI lo j i d->(lo=0 ∨ ∀ k,lo<=k->k<=i->gN d (lo-1)<=gN d k) ->
  ∃ d',lp (fun s:List Int×Int=>cS (lo:Nat) (hi:Nat) x y s.1 s.2) (d,(j:Int))=some d'/\Rel lo (i+1) d d'/\rV lo (i+1) d':=by
 intro j
 induction j with
 | zero =>
  intro d h1 h2 h3 h4 h5 h6;refine⟨d,cV ?_,Rel.refl ..,h5.done h1 (by omega)⟩;show cS _ _ _ _ _ _=_;have : decide ((1:Int)<=((0:Nat):Int))=false:=by simp
  simp only [cS,this,cond_false]
 | succ j ih =>
  intro d h1 h2 h3 h4 h5 h6;have hd:decide ((1:Int)<=((j+1:Nat):Int))=true:=by simp; omega
  have hs:cS (lo:Nat) (hi:Nat) x y d ((j+1:Nat):Int)=if gN d (j+1)<gN d j then some (.inl (swp d (j+1) j,(j:Int))) else some (.inr d):=by
   unfold cS;rw [hd,cond_true,wrN (x:=((j+1:Nat):Int)-1) (n:=j) (by omega) (by omega),aN (asN (by omega)),aN (asN (by omega))];simp only [uQ,Option.bind_some,Int.toNat_natCast,gN];by_cases h:d.getD (j+1) default<d.getD j default
   ·simp only [h,decide_true,Bool.not_true,cond_false,if_true];rw [aN (asN (by omega)),aN (asN (by omega)),aN (asN (by omega)),aN (asN (by omega))];rfl
   ·simp only [h,decide_false,Bool.not_false,cond_true,if_false]
  by_cases h:gN d (j+1)<gN d j
  ·rw [if_pos h] at hs
   have hlo:lo<j+1:=by
    rcases h6 with h6 | h6
    ·omega
    ·rcases Nat.lt_or_ge lo (j+1) with hh | hh
     ·exact hh
     ·have : lo=j+1:=by omega
      have h7:=h6 (j+1) (by omega) h2;rw [this] at h7;simp only [Nat.add_sub_cancel] at h7;omega
   have r1:Rel lo (i+1) d (swp d (j+1) j):=Rel.swp (i:=j+1) (j:=j) (by omega) (by omega) (by omega) (by omega);obtain⟨d',e,r,s⟩:=ih (swp d (j+1) j) (by omega) (by omega) (by rw [iR]; exact h3) (by rw [iR]; exact h4) (h5.next hlo h2 h3 h) ((MT r1 (h6.imp id fun h k a b=>h k a (by omega))).imp id fun h k a b=>h k a (by omega));exact⟨d',(eW hs).trans e,r1.trans r,s⟩
  ·rw [if_neg h] at hs;exact⟨d,cV hs,Rel.refl ..,h5.done h1 fun hh=>h hh.2⟩

theorem aGi {lo hi i:Nat}(x y:Int):∀ (n j:Nat) (d:List Int),hi-j=n->i<j->hi<=d.length->d.length<2305843009213693951 ->
  ∃ d',lp (fun s:List Int×Int=>dA (lo:Nat) (hi:Nat) x y s.1 s.2) (d,(j:Int))=some d'/\Rel i hi d d':=by
 intro n
 induction n with
 | zero =>
  intro j d h1 h2 h3 h4;refine⟨d,cV ?_,Rel.refl ..⟩;show dA _ _ _ _ _ _=_;have : decide ((j:Int)<(hi:Int))=false:=by simp; omega
  simp only [dA,this,cond_false]
 | succ n ih =>
  intro j d h1 h2 h3 h4;have hd:decide ((j:Int)<(hi:Int))=true:=by simp; omega
  have hs:dA (lo:Nat) (hi:Nat) x y d (j:Nat)=if gN d j<gN d (j-1) then some (.inl (swp d j (j-1),((j+1:Nat):Int))) else some (.inr d):=by
   unfold dA;rw [hd,cond_true,wrN (x:=(j:Int)-1) (n:=j-1) (by omega) (by omega),wrN (x:=(j:Int)+1) (n:=j+1) (by omega) (by omega),aN (asN (by omega)),aN (asN (by omega))];simp only [uQ,Option.bind_some,Int.toNat_natCast,gN];by_cases h:d.getD j default<d.getD (j-1) default
   ·simp only [h,decide_true,Bool.not_true,cond_false,if_true];rw [aN (asN (by omega)),aN (asN (by omega)),aN (asN (by omega)),aN (asN (by omega))];rfl
   ·simp only [h,decide_false,Bool.not_false,cond_true,if_false]
  by_cases h:gN d j<gN d (j-1)
  ·rw [if_pos h] at hs;obtain⟨d',e,r⟩:=ih (j+1) (swp d j (j-1)) (by omega) (by omega) (by rw [iR]; exact h3) (by rw [iR]; exact h4);exact⟨d',(eW hs).trans e,(Rel.swp (i:=j) (j:=j-1) (by omega) (by omega) (by omega) (by omega)).trans r⟩
  ·rw [if_neg h] at hs;exact⟨d,cV hs,Rel.refl ..⟩

theorem aC0 {lo hi i:Nat}(x:Int){d:List Int}(h1:lo<i)(h2:i<hi)(h3:hi<=d.length)(h4:d.length<2305843009213693951) :
  ∃ d',cR d (lo:Nat) (hi:Nat) (i:Nat) x=some (.inl (d',(i:Int),IntKind.i64.wrap (x+1)))/\Rel i hi d d':=by
 unfold cR;rw [wrN (x:=(hi:Int)-(i:Int)) (n:=hi-i) (by omega) (by omega)];by_cases h:(2:Int)<=((hi-i:Nat):Int)
 ·simp only [h,decide_true,cond_true];unfold iD;rw [wrN (x:=(i:Int)+1) (n:=i+1) (by omega) (by omega)];obtain⟨d',e,r⟩:=aGi (lo:=lo) (hi:=hi) (i:=i) (i:Int) x (hi-(i+1)) (i+1) d rfl (by omega) h3 h4;rw [e];exact⟨d',rfl,r⟩
 ·simp only [h,decide_false,cond_false];exact⟨d,rfl,Rel.refl ..⟩

theorem aEw {lo hi i:Nat}(x:Int){d:List Int}(h1:lo<i)(h2:i<=hi)(h3:hi<=d.length)(h4:d.length<2305843009213693951)(hs:rV lo i d)(hb:lo=0 ∨ ∀ k,lo<=k->k<hi->gN d (lo-1)<=gN d k) :
  (∃ (fl:Bool) (d':List Int),dP d (lo:Nat) (hi:Nat) (i:Nat) x=some (.inr (.inr (fl,d')))/\Rel lo hi d d'/\(fl=true->rV lo hi d')) ∨
  (∃ (d':List Int) (i':Nat),dP d (lo:Nat) (hi:Nat) (i:Nat) x=some (.inl (d',(i':Int),IntKind.i64.wrap (x+1)))/\Rel lo hi d d'/\lo<i'/\i'<=hi/\rV lo i' d'):=by
 unfold dP;obtain⟨i',e,a1,a2,a3⟩:=aEq (lo:=lo) (hi:=hi) x h3 h4 (hi-i) i rfl (by omega) h2;rw [e];simp only [Option.bind_some];have hs':=aBA (i'-i) i' rfl hs h1 a3;unfold fB;by_cases hi':i'=hi
 ·have : decide ((i':Int)=(hi:Int))=true:=by simp; omega
  rw [this,cond_true];left;exact⟨true,d,rfl,Rel.refl ..,fun _=>hi' ▸ hs'⟩
 ·have hne:decide ((i':Int)=(hi:Int))=false:=by simp; omega
  rw [hne,cond_false,wrN (x:=(hi:Int)-(lo:Int)) (n:=hi-lo) (by omega) (by omega)];by_cases h50:((hi-lo:Nat):Int)<50
  ·simp only [h50,decide_true,cond_true];left;exact⟨false,d,rfl,Rel.refl ..,fun h=>by cases h⟩
  ·simp only [h50,decide_false,cond_false];rw [wrN (x:=(i':Int)-1) (n:=i'-1) (by omega) (by omega),wrN (x:=(i':Int)-(lo:Int)) (n:=i'-lo) (by omega) (by omega)];simp only [Int.toNat_natCast];rw [aN (asN (by omega)),aN (asN (by omega)),aN (asN (by omega)),aN (asN (by omega))];have r1:Rel lo hi d (swp d i' (i'-1)):=Rel.swp (i:=i') (j:=i'-1) (by omega) (by omega) (by omega) (by omega);have l1:(swp d i' (i'-1)).length=d.length:=iR ..;have g:=wJ (d:=d) (i:=i') (j:=i'-1) (by omega) (by omega);right;by_cases hge:(2:Int)<=((i'-lo:Nat):Int)
   ·simp only [hge,decide_true,cond_true];unfold iA
    have ins:LI lo (i'-1) (i'-1) (swp d i' (i'-1)):=⟨fun p q p1 p2 p3 p4 p5=>by
     rw [g,g,if_neg p4,if_neg p5,if_neg (by omega),if_neg (by omega)];exact hs' p q p1 p2 (by omega),fun q q1 q2=>by omega⟩
    obtain⟨d2,e2,r2,s2⟩:=aEj (lo:=lo) (hi:=hi) (i:=i'-1) (i':Int) x (i'-1) (swp d i' (i'-1)) (by omega) (Nat.le_refl _) (by rw [l1]; omega) (by rw [l1]; exact h4) ins ((MT r1 hb).imp id fun h k a b=>h k a (by omega));have e2':lp (fun s:List Int×Int=>cS (lo:Int) (hi:Int) (i':Int) x s.1 s.2) ((List.set (List.set d i' (List.getD d (i'-1) default)) (i'-1) (List.getD d i' default)),((i'-1:Nat):Int))=some d2:=e2;rw [e2'];simp only [Option.bind_some];rw [show i'-1+1=i' by omega] at r2 s2;have l2:d2.length=d.length:=by rw [r2.len,l1]
    obtain⟨d3,e3,r3⟩:=aC0 (lo:=lo) (hi:=hi) (i:=i') x (d:=d2) (by omega) (by omega) (by omega) (by omega);rw [e3];refine⟨d3,i',rfl,(r1.trans (r2.mono (Nat.le_refl _) (by omega))).trans (r3.mono (by omega) (Nat.le_refl _)),by omega,a2,fun p q p1 p2 p3=>?_⟩;rw [r3.out p (by omega),r3.out q (by omega)];exact s2 p q p1 p2 p3
   ·simp only [hge,decide_false,cond_false];obtain⟨d3,e3,r3⟩:=aC0 (lo:=lo) (hi:=hi) (i:=i') x (d:=swp d i' (i'-1)) (by omega) (by omega) (by omega) (by omega);have e3':cR (List.set (List.set d i' (List.getD d (i'-1) default)) (i'-1) (List.getD d i' default)) (lo:Int) (hi:Int) (i':Int) x=_:=e3;rw [e3'];refine⟨d3,i',rfl,r1.trans (r3.mono (by omega) (Nat.le_refl _)),by omega,a2,?_⟩;have : i'=lo+1:=by omega
    rw [this]; exact PU lo d3

theorem aGh {lo hi:Nat}:∀ (n x i:Nat) (d:List Int),5-x=n->lo<i->i<=hi->hi<=d.length->d.length<2305843009213693951->rV lo i d->(lo=0 ∨ ∀ k,lo<=k->k<hi->gN d (lo-1)<=gN d k)->x<=5 ->
  ∃ (fl:Bool) (d':List Int),(lp (fun s:List Int×Int×Int=>cD (lo:Nat) (hi:Nat) s.1 s.2.1 s.2.2) (d,(i:Int),(x:Int))).bind (Sum.elim (fun rr=>fC rr) (fun rr=>some (rr.1,rr.2)))=some (fl,d')/\Rel lo hi d d'/\(fl=true->rV lo hi d'):=by
 intro n
 induction n with
 | zero =>
  intro x i d h1 h2 h3 h4 h5 h6 h7 h8
  have hs:cD (lo:Nat) (hi:Nat) d (i:Nat) (x:Nat)=some (.inr (.inl d)):=by
   have : decide ((x:Int)<5)=false:=by simp; omega
   simp only [cD,this,cond_false]
  rw [cV (show (fun s:List Int×Int×Int=>cD (lo:Nat) (hi:Nat) s.1 s.2.1 s.2.2) (d,(i:Int),(x:Int))=_ from hs)];exact⟨false,d,rfl,Rel.refl ..,fun h=>by cases h⟩
 | succ n ih =>
  intro x i d h1 h2 h3 h4 h5 h6 h7 h8
  have hl2:cD (lo:Nat) (hi:Nat) d (i:Nat) (x:Nat)=dP d (lo:Nat) (hi:Nat) (i:Nat) (x:Nat):=by
   have : decide ((x:Int)<5)=true:=by simp; omega
   simp only [cD,this,cond_true]
  rcases aEw (lo:=lo) (hi:=hi) (x:Int) h2 h3 h4 h5 h6 h7 with ⟨fl,d',e,r,s⟩ | ⟨d',i',e,r,k1,k2,s⟩
  ·rw [cV (show (fun s:List Int×Int×Int=>cD (lo:Nat) (hi:Nat) s.1 s.2.1 s.2.2) (d,(i:Int),(x:Int))=_ from hl2.trans e)];exact⟨fl,d',rfl,r,s⟩
  ·rw [wrN (x:=(x:Int)+1) (n:=x+1) (by omega) (by omega)] at e;obtain⟨fl,d2,e2,r2,s2⟩:=ih (x+1) i' d' (by omega) k1 k2 (by rw [r.len]; exact h4) (by rw [r.len]; exact h5) s (MT r h7) (by omega);rw [eW (show (fun s:List Int×Int×Int=>cD (lo:Nat) (hi:Nat) s.1 s.2.1 s.2.2) (d,(i:Int),(x:Int))=_ from hl2.trans e)];exact⟨fl,d2,e2,r.trans r2,s2⟩

theorem aD4 {lo hi:Nat}{d:List Int}(h0:lo<hi)(h1:hi<=d.length)(h2:d.length<2305843009213693951)(hb:lo=0 ∨ ∀ k,lo<=k->k<hi->gN d (lo-1)<=gN d k) :
  ∃ (fl:Bool) (d':List Int),fE d (lo:Int) (hi:Int)=some (fl,d')/\Rel lo hi d d'/\(fl=true->rV lo hi d'):=by
 unfold fE hY;rw [wrN (x:=(lo:Int)+1) (n:=lo+1) (by omega) (by omega)];exact aGh (lo:=lo) (hi:=hi) (5-0) 0 (lo+1) d rfl (by omega) (by omega) h1 h2 (PU lo d) hb (by omega)

end Go.Abs
namespace Go.Abs
open Go
abbrev PS:=List Int×Int×Int×Int×Bool×Bool

abbrev PR:=List Int->Int->Int->Int->Option (List Int)

def CY (a b:Nat)(d d':List Int):Prop:=Rel a b d d'/\rV a b d'

structure CJ (a b lim:Nat) (d:List Int):Prop where
 ab:a<=b
 bl:b<=d.length
 len:d.length<2305843009213693951
 bnd:a=0 ∨ ∀ k,a<=k->k<b->gN d (a-1)<=gN d k
 lim:lim<=100

def MQ (rec:PR)(N:Nat):Prop:=∀ (d:List Int) (a b lim:Nat),CJ a b lim d->(rec d (a:Int) (b:Int) (lim:Int)=none/\N<=b-a) ∨ ∃ d',rec d (a:Int) (b:Int) (lim:Int)=some d'/\CY a b d d'

def IZ (N a b:Nat)(d:List Int)(F:Option (PS⊕List Int)):Prop :=
 (F=none/\N+1<=b-a)∨(∃ d',F=some (.inr d')/\CY a b d d') ∨
 ∃ (d':List Int) (a' b' lim':Nat) (wb wp:Bool),F=some (.inl (d',(a':Int),(b':Int),(lim':Int),wb,wp))/\b'-a'<b-a/\CJ a' b' lim' d' /\ ∀ d'',CY a' b' d' d''->CY a b d d''

theorem CY.pre {a b:Nat}{d d1 d':List Int}(r:Rel a b d d1)(h:CY a b d1 d'):CY a b d d':=⟨r.trans h.1,h.2⟩

theorem IZ.pre {N a b:Nat}{d d1:List Int}{F:Option (PS⊕List Int)}(r:Rel a b d d1)(h:IZ N a b d1 F):IZ N a b d F:=by
 rcases h with h | ⟨d',h1,h2⟩ | ⟨d',a',b',lim',wb,wp,h1,h2,h3,h4⟩
 ·exact .inl h
 ·exact .inr (.inl ⟨d',h1,h2.pre r⟩)
 ·exact .inr (.inr ⟨d',a',b',lim',wb,wp,h1,h2,h3,fun d'' hg=>(h4 d'' hg).pre r⟩)

theorem CJ.rel {a b lim:Nat}{d d1:List Int}(h:CJ a b lim d)(r:Rel a b d d1):CJ a b lim d1 :=
 ⟨h.ab,by rw [r.len]; exact h.bl,by rw [r.len]; exact h.len,MT r h.bnd,h.lim⟩

theorem XT {a m b:Nat}{d:List Int}(hm:m<b)(h1:∀ k,a<=k->k<m->gN d k<=gN d m)(h2:∀ k,m<k->k<b->gN d m<=gN d k)(s1:rV a m d)(s2:rV (m+1) b d):rV a b d:=by
 intro p q p1 p2 p3;by_cases hq:q<m
 ·exact s1 p q p1 p2 hq
 ·by_cases hp:m<p
  ·exact s2 p q hp p2 p3
  ·have g1:gN d p<=gN d m:=by
    by_cases e:p=m
    ·rw [e]; exact Int.le_refl _
    ·exact h1 p p1 (by omega)
   have g2:gN d m<=gN d q:=by
    by_cases e:q=m
    ·rw [e]; exact Int.le_refl _
    ·exact h2 q (by omega) p3
   omega

theorem aDn {rec:PR}{N a b lim p:Nat}{d:List Int}(hrec:MQ rec N)(hv:CJ a b lim d)(h12:12<b-a)(hp:a<=p/\p<b)(wb wp:Bool)(len:Int) :
  IZ N a b d (iQ rec d (a:Int) (b:Int) (lim:Int) wb wp len (p:Int)):=by
 have hb:=hv.bl; have hl:=hv.len
 -- with all equal ones on the left
 have eqc:0<a -> ¬ gN d (a-1)<gN d p->IZ N a b d ((fM d (a:Int) (b:Int) (p:Int)).bind fun x20=>some (.inl (x20.2,x20.1,(b:Int),(lim:Int),wb,wp))):=by
  intro ha hn;obtain⟨m,d',e,m1,m2,r,q1,q2⟩:=WS (lo:=a) (hi:=b) (p:=p) (d:=d) (by omega) hb hl hp
  have hall:∀ k,a<=k->k<b->gN d p<=gN d' k:=by
   refine r.all (p:=fun v=>gN d p<=v) fun k k1 k2=>?_;rcases hv.bnd with h | h
   ·omega
   ·have:=h k k1 k2; omega
  rw [e];refine .inr (.inr ⟨d',m,b,lim,wb,wp,rfl,by omega,⟨m2,by rw [r.len]; exact hb,by rw [r.len]; exact hl,.inr fun k k1 k2=>?_,hv.lim⟩,fun d'' hg=>⟨r.trans (hg.1.mono (by omega) (Nat.le_refl _)),fun x y x1 x2 x3=>?_⟩⟩)
  ·have:=q1 (m-1) (by omega) (by omega); have:=q2 k k1 k2; omega
  ·by_cases hx:m<=x
   ·exact hg.2 x y hx x2 x3
   ·rw [hg.1.out x (by omega)];have g1:=q1 x x1 (by omega);by_cases hy:y<m
    ·rw [hg.1.out y (by omega)];have g2:=hall y (by omega) (by omega); omega
    ·have g2:=hg.1.all (p:=fun v=>gN d p<v) q2 y (by omega) x3;omega
 -- a partition,and the lesser part first
 have ptc:IZ N a b d ((iI d (a:Int) (b:Int) (p:Int)).bind fun x23 =>
   bE ((8:Int)≠0) <|
   cond (decide ((IntKind.i64.wrap (x23.1.1-(a:Int)))<(IntKind.i64.wrap ((b:Int)-x23.1.1))))
   ((rec x23.2 (a:Int) x23.1.1 (lim:Int)).bind fun x28 =>
   some (.inl (x28,IntKind.i64.wrap (x23.1.1+(1:Int)),(b:Int),(lim:Int),decide ((IntKind.i64.wrap (Int.tdiv len (8:Int)))<=(IntKind.i64.wrap (x23.1.1-(a:Int)))),x23.1.2)))
   ((rec x23.2 (IntKind.i64.wrap (x23.1.1+(1:Int))) (b:Int) (lim:Int)).bind fun x31 =>
   some (.inl (x31,(a:Int),x23.1.1,(lim:Int),decide ((IntKind.i64.wrap (Int.tdiv len (8:Int)))<=(IntKind.i64.wrap ((b:Int)-x23.1.1))),x23.1.2)))):=by
  obtain⟨m,fl,d1,e,m1,m2,r,q1,q2⟩:=aAe (lo:=a) (hi:=b) (p:=p) (d:=d) (by omega) hb hl hp;have hv1:=hv.rel r;rw [e];simp only [Option.bind_some];rw [aN (by decide),wrN (x:=(m:Int)+1) (n:=m+1) (by omega) (by omega)];have vL:CJ a m lim d1:=⟨m1,by have:=hv1.bl; omega,hv1.len,hv1.bnd.imp id fun h k k1 k2=>h k k1 (by omega),hv.lim⟩;have vR:CJ (m+1) b lim d1:=⟨by omega,hv1.bl,hv1.len,.inr fun k k1 k2=>by simpa using q2 k (by omega) k2,hv.lim⟩
  cases decide ((IntKind.i64.wrap ((m:Int)-(a:Int)))<(IntKind.i64.wrap ((b:Int)-(m:Int)))) with
  | true =>
   rw [cond_true];rcases hrec d1 a m lim vL with ⟨hn,hN⟩ | ⟨d2,e2,g2⟩
   ·rw [hn]; exact .inl ⟨rfl,by omega⟩
   ·rw [e2];simp only [Option.bind_some];have top:gN d2 m=gN d1 m:=g2.1.out m (by omega);refine .inr (.inr ⟨d2,m+1,b,lim,_,_,rfl,by omega,⟨by omega,by rw [g2.1.len]; exact hv1.bl,by rw [g2.1.len]; exact hv1.len,.inr fun k k1 k2=>?_,hv.lim⟩,fun d3 hg=>⟨(r.trans (g2.1.mono (Nat.le_refl _) (by omega))).trans (hg.1.mono (by omega) (Nat.le_refl _)),?_⟩⟩)
    ·rw [show m+1-1=m by omega,top,g2.1.out k (by omega)]; exact q2 k (by omega) k2
    ·have o3:∀ k,k<=m->gN d3 k=gN d2 k:=fun k hk=>hg.1.out k (by omega);refine XT m2 (fun k k1 k2=>?_) (fun k k1 k2=>?_) (fun x y x1 x2 x3=>by rw [o3 x (by omega),o3 y (by omega)]; exact g2.2 x y x1 x2 x3) hg.2
     ·rw [o3 k (by omega),o3 m (by omega),top];exact g2.1.all (p:=fun v=>v<=gN d1 m) q1 k k1 k2
     ·rw [o3 m (by omega),top];exact hg.1.all (p:=fun v=>gN d1 m<=v) (fun k k1 k2=>by rw [g2.1.out k (by omega)]; exact q2 k (by omega) k2) k (by omega) k2
  | false =>
   rw [cond_false];rcases hrec d1 (m+1) b lim vR with ⟨hn,hN⟩ | ⟨d2,e2,g2⟩
   ·rw [hn]; exact .inl ⟨rfl,by omega⟩
   ·rw [e2];simp only [Option.bind_some];have low:∀ k,k<=m->gN d2 k=gN d1 k:=fun k hk=>g2.1.out k (by omega);refine .inr (.inr ⟨d2,a,m,lim,_,_,rfl,by omega,⟨m1,by rw [g2.1.len]; have:=hv1.bl; omega,by rw [g2.1.len]; exact hv1.len,?_,hv.lim⟩,fun d3 hg=>⟨(r.trans (g2.1.mono (by omega) (Nat.le_refl _))).trans (hg.1.mono (Nat.le_refl _) (by omega)),?_⟩⟩)
    ·rcases hv1.bnd with h | h
     ·exact .inl h
     ·exact .inr fun k k1 k2=>by rw [low (a-1) (by omega),low k (by omega)]; exact h k k1 (by omega)
    ·have o3:∀ k,m<=k->gN d3 k=gN d2 k:=fun k hk=>hg.1.out k (by omega);refine XT m2 (fun k k1 k2=>?_) (fun k k1 k2=>?_) hg.2 (fun x y x1 x2 x3=>by rw [o3 x (by omega),o3 y (by omega)]; exact g2.2 x y x1 x2 x3)
     ·rw [o3 m (Nat.le_refl _),low m (Nat.le_refl _)];exact hg.1.all (p:=fun v=>v<=gN d1 m) (fun k k1 k2=>by rw [low k (by omega)]; exact q1 k k1 k2) k k1 k2
     ·rw [o3 m (Nat.le_refl _),low m (Nat.le_refl _),o3 k (by omega)];exact g2.1.all (p:=fun v=>gN d1 m<=v) (fun k k1 k2=>q2 k (by omega) k2) k (by omega) k2
 unfold iQ;by_cases ha:0<a
 ·have hd:decide ((0:Int)<(a:Int))=true:=by simp; omega
  rw [hd,wrN (x:=(a:Int)-1) (n:=a-1) (by omega) (by omega),aN fun _=>asN (by omega),aN fun _=>asN (by omega)];simp only [cW,cond_true,uQ,Option.bind_some,Bool.true_and,Int.toNat_natCast];by_cases hlt:gN d (a-1)<gN d p
  ·simp only [gN] at hlt;simp only [hlt,decide_true,Bool.not_true,cond_false];exact ptc
  ·have:=eqc ha hlt;simp only [gN] at hlt;simp only [hlt,decide_false,Bool.not_false,cond_true];exact this
 ·have hd:decide ((0:Int)<(a:Int))=false:=by simp; omega
  rw [hd,aN (fun h=>by cases h),aN (fun h=>by cases h)];simp only [cW,cond_false,Option.bind_some,Bool.false_and];exact ptc

theorem aDJ {rec:PR}{N a b lim p:Nat}{d:List Int}(hrec:MQ rec N)(hv:CJ a b lim d)(h12:12<b-a)(hp:a<=p/\p<b)(wb wp:Bool)(len hint:Int) :
  IZ N a b d (iT rec d (a:Int) (b:Int) (lim:Int) wb wp len (p:Int) hint):=by
 unfold iT
 cases ((wb&&wp)&&(decide (hint=(1:Int)))) with
 | false=>exact aDn hrec hv h12 hp wb wp len
 | true =>
  rw [cond_true];obtain⟨fl,d',e,r,s⟩:=aD4 (lo:=a) (hi:=b) (d:=d) (by omega) hv.bl hv.len hv.bnd;rw [e];simp only [Option.bind_some]
  cases fl with
  | true=>exact .inr (.inl ⟨d',rfl,r,s rfl⟩)
  | false=>exact (aDn hrec (hv.rel r) h12 hp wb wp len).pre r

theorem aCK {rec:PR}{N a b lim:Nat}{d:List Int}(hrec:MQ rec N)(hv:CJ a b lim d)(h12:12<b-a)(wb wp:Bool)(len:Int) :
  IZ N a b d (iP rec d (a:Int) (b:Int) (lim:Int) wb wp len):=by
 have hb:=hv.bl; have hl:=hv.len;unfold iP;obtain⟨p,h,e,p1,p2⟩:=aCg (lo:=a) (hi:=b) (d:=d) h12 hb hl;rw [e];simp only [Option.bind_some];by_cases h2:h=2
 ·simp only [h2,decide_true,cond_true];obtain⟨d',e2,r⟩:=aDp (lo:=a) (hi:=b) (d:=d) (by omega) hb (by omega);rw [e2];simp only [Option.bind_some];rw [wrN (x:=(b:Int)-1) (n:=b-1) (by omega) (by omega),wrN (x:=(p:Int)-(a:Int)) (n:=p-a) (by omega) (by omega),wrN (x:=((b-1:Nat):Int)-((p-a:Nat):Int)) (n:=b-1-(p-a)) (by omega) (by omega)];exact (aDJ hrec (hv.rel r) h12 ⟨by omega,by omega⟩ wb wp len 1).pre r
 ·simp only [h2,decide_false,cond_false];exact aDJ hrec hv h12 ⟨p1,p2⟩ wb wp len h

theorem aGG {rec:PR}{N a b lim:Nat}{d:List Int}(hrec:MQ rec N)(hv:CJ a b lim d)(wb wp:Bool) :
  IZ N a b d (eY rec d (a:Int) (b:Int) (lim:Int) wb wp):=by
 have hb:=hv.bl; have hl:=hv.len; have hab:=hv.ab;unfold eY;rw [wrN (x:=(b:Int)-(a:Int)) (n:=b-a) (by omega) (by omega)];by_cases h12:((b-a:Nat):Int)<=12
 ·simp only [h12,decide_true,cond_true];obtain⟨d',e,r,s⟩:=aEe (lo:=a) (hi:=b) (d:=d) hb (by omega) hab;rw [e];exact .inr (.inl ⟨d',rfl,r,s⟩)
 ·simp only [h12,decide_false,cond_false];by_cases h0:lim=0
  ·have : decide ((lim:Int)=0)=true:=by simp; exact h0
   rw [this,cond_true];obtain⟨d',e,r,s⟩:=aDu (lo:=a) (hi:=b) (d:=d) (by omega) hb hl;rw [e];exact .inr (.inl ⟨d',rfl,r,s⟩)
  ·have : decide ((lim:Int)=0)=false:=by simp; exact h0
   rw [this,cond_false]
   cases wb with
   | true=>exact aCK hrec hv (by omega) true wp _
   | false =>
    simp only [Bool.not_false,cond_true];obtain⟨d',e,r⟩:=aCZ (lo:=a) (hi:=b) (d:=d) (by omega) hb hl;rw [e];simp only [Option.bind_some];have hlim:=hv.lim;rw [wrN (x:=(lim:Int)-1) (n:=lim-1) (by omega) (by omega)];have hv':=hv.rel r;exact (aCK hrec ⟨hv'.ab,hv'.bl,hv'.len,hv'.bnd,by omega⟩ (by omega) false wp _).pre r

theorem aFR {S R:Type}{body:S->Option (S⊕R)}{s:S}(h:body s=none):lp body s=none:=by
 cases e:lp body s with
 | none=>rfl
 | some r =>
  obtain⟨k,hk⟩:=NB.1 e
  cases k with
  | zero=>simp [iter] at hk
  | succ k=>simp [iter,h] at hk

theorem aGb {rec:PR}{N:Nat}(hrec:MQ rec N):∀ (n a b lim:Nat) (d:List Int) (wb wp:Bool),b-a=n->CJ a b lim d ->
  (lp (fun s:PS=>eY rec s.1 s.2.1 s.2.2.1 s.2.2.2.1 s.2.2.2.2.1 s.2.2.2.2.2) (d,(a:Int),(b:Int),(lim:Int),wb,wp)=none/\N+1<=b-a) ∨
  ∃ d',lp (fun s:PS=>eY rec s.1 s.2.1 s.2.2.1 s.2.2.2.1 s.2.2.2.2.1 s.2.2.2.2.2) (d,(a:Int),(b:Int),(lim:Int),wb,wp)=some d'/\CY a b d d':=by
 intro n
 induction n using Nat.strongRecOn with
 | ind n ih =>
  intro a b lim d wb wp hn hv;rcases aGG hrec hv wb wp with ⟨h1,h2⟩ | ⟨d',h1,h2⟩ | ⟨d',a',b',lim',wb',wp',h1,h2,h3,h4⟩
  ·exact .inl ⟨aFR h1,h2⟩
  ·exact .inr ⟨d',cV h1,h2⟩
  ·rw [eW (show (fun s:PS=>eY rec s.1 s.2.1 s.2.2.1 s.2.2.2.1 s.2.2.2.2.1 s.2.2.2.2.2) (d,(a:Int),(b:Int),(lim:Int),wb,wp)=_ from h1)];rcases ih (b'-a') (by omega) a' b' lim' d' wb' wp' rfl h3 with ⟨g1,g2⟩ | ⟨d2,g1,g2⟩
   ·exact .inl ⟨g1,by omega⟩
   ·exact .inr ⟨d2,g1,h4 d2 g2⟩

theorem aAz:∀ k:Nat,MQ (dW k) k
 | 0=>fun _ _ _ _ _=>.inl ⟨rfl,Nat.zero_le _⟩
 | k+1=>fun d a b lim hv=>by
  show (gW (dW k) d a b lim=none/\_) ∨ ∃ d',gW (dW k) d a b lim=some d'/\_;unfold gW mH;rcases aGb (aAz k) (b-a) a b lim d true true rfl hv with ⟨h1,h2⟩ | ⟨d',h1,h2⟩
  ·rw [h1]; exact .inl ⟨rfl,h2⟩
  ·rw [h1]; exact .inr ⟨d',rfl,h2⟩

theorem aF6 {a b lim:Nat}{d:List Int}(hv:CJ a b lim d):∃ d',kN d (a:Int) (b:Int) (lim:Int)=some d'/\CY a b d d':=by
 unfold kN
 obtain⟨d',e,g⟩:∃ d',dW (b-a+1) d (a:Int) (b:Int) (lim:Int)=some d'/\CY a b d d':=by
  rcases aAz (b-a+1) d a b lim hv with ⟨_,h⟩ | h
  ·omega
  ·exact h
 cases hf:XV (fun k=>dW k d (a:Int) (b:Int) (lim:Int)) with
 | none =>
  exfalso
  unfold XV at hf;have hex:∃ k r,dW k d (a:Int) (b:Int) (lim:Int)=some r:=⟨_,d',e⟩;rw [dif_pos hex] at hf;obtain⟨r,hr⟩:=Classical.choose_spec hex;have hf':dW (Classical.choose hex) d (a:Int) (b:Int) (lim:Int)=none:=hf;rw [hr] at hf'
  cases hf'
 | some r =>
  obtain⟨k,hk⟩:=WC hf;rcases aAz k d a b lim hv with ⟨h,_⟩ | ⟨d2,h,g2⟩
  ·rw [h] at hk; cases hk
  ·rw [h] at hk; cases hk; exact ⟨_,rfl,g2⟩

theorem aBw {d:List Int}(hl:d.length<2305843009213693951):∃ d',gT d=some d'/\d'.Perm d/\d'.Pairwise (· <= ·):=by
 unfold gT
 have hL:∃ L:Nat,lJ (IntKind.u64.wrap ((List.length d:Nat):Int))=some (L:Int)/\L<=100:=by
  rw [KZ (by omega) (by omega)];by_cases h0:d.length=0
  ·rw [h0]; exact ⟨0,aEI,by omega⟩
  ·obtain⟨k,e,h1,_⟩:=aDh (x:=((List.length d:Nat):Int)) (by omega) (by omega);exact⟨k+1,by rw [e]; rfl,by omega⟩
 obtain⟨L,eL,hL⟩:=hL;rw [eL];simp only [Option.bind_some];obtain⟨d',e,g⟩:=aF6 (a:=0) (b:=d.length) (lim:=L) (d:=d) ⟨Nat.zero_le _,Nat.le_refl _,hl,.inl rfl,hL⟩;have e':kN d 0 ((List.length d:Nat):Int) (L:Int)=some d':=e;rw [e'];refine⟨d',rfl,g.1.perm,List.pairwise_iff_getElem.2 fun i j hi hj hij=>?_⟩;have:=g.2 i j (Nat.zero_le _) (by omega) (by rw [g.1.len] at hj; exact hj);simp only [gN,List.getD_eq_getElem?_getD,List.getElem?_eq_getElem hi,List.getElem?_eq_getElem hj] at this;exact this

theorem aBk {d s:List Int}(hl:d.length<2305843009213693951)(hp:s.Perm d)(hs:s.Pairwise (· <= ·)):gT d=some s:=by
 obtain⟨d',e,p,q⟩:=aBw hl;rw [e]
 congr 1
 exact (p.trans hp.symm).eq_of_pairwise (le:=(· <= ·)) (fun a b _ _ h1 h2=>Int.le_antisymm h1 h2) q hs

end Go.Abs
namespace Go.Abs
open Go
def pH (frm:Int)(l:List aK)(c:List Int):List Int:=l.foldl (fun c e=>if frm<e.At then gU e.At c else c) c

def AB (frm:Int)(l:List aK)(m:List (Int×Int)):List (Int×Int):=l.foldl (fun m e=>if frm<e.At then fJ m e.At 1 else m) m

def tF (l:List aK)(frm:Int):List Int×Int :=
 if !jZ l then ([],2) else if !kS l then ([],20) else if frm<0∨1125899906842624<frm then ([],13) else if frm=1125899906842624 then ([],0) else (pH frm l [frm],0)

theorem KF {k v:Int}:∀ {m:List (Int×Int)},k∈m.map (·.1)->(fJ m k v).map (·.1)=m.map (·.1)
 | [],h=>by simp at h
 | p::m,h=>by
  by_cases hp:p.1=k
  ·simp [fJ,hp]
  ·simp only [List.map_cons,List.mem_cons] at h;rcases h with h | h
   ·exact absurd h.symm hp
   ·simp only [fJ,hp,if_false,List.map_cons,KF h]

theorem WU {k v:Int}{m:List (Int×Int)}(h:k ∉ m.map (·.1)):(fJ m k v).map (·.1)=m.map (·.1)++[k]:=by
 rw [JK fun p hp e=>h (List.mem_map.2 ⟨p,hp,e⟩)]; simp

theorem JH {t:Int}:∀ {ps:List Int},t ∉ ps->(gU t ps).Perm (t::ps)
 | [],_=>List.Perm.refl _
 | p::r,h=>by
  simp only [List.mem_cons,not_or] at h;unfold gU;rw [if_neg (fun e=>h.1 e.symm)];split
  ·exact List.Perm.refl _
  ·exact (List.Perm.cons p (JH h.2)).trans (List.Perm.swap ..)

theorem HA {frm:Int}:∀ {l:List aK} {c:List Int} {m:List (Int×Int)},(∀ e∈l,e.At<1125899906842624)->Inc (frm-1) c->(m.map (·.1)).Perm c ->
  ((AB frm l m).map (·.1)).Perm (pH frm l c)/\Inc (frm-1) (pH frm l c)
 | [],_,_,_,hi,hp=>⟨hp,hi⟩
 | e::l,c,m,he,hi,hp=>by
  have hl:∀ e∈l,e.At<1125899906842624:=fun q hq=>he q (List.mem_cons_of_mem _ hq);by_cases h:frm<e.At
  ·have e1:AB frm (e::l) m=AB frm l (fJ m e.At 1):=by simp [AB,h]
   have e2:pH frm (e::l) c=pH frm l (gU e.At c):=by simp [pH,h]
   rw [e1,e2];refine HA hl (AX hi (by omega) (he e (by simp))) ?_;by_cases hm:e.At∈m.map (·.1)
   ·rw [KF hm,EF hi (hp.mem_iff.1 hm)]; exact hp
   ·rw [WU hm];exact ((List.perm_append_comm).trans (List.Perm.cons _ hp)).trans (JH fun hc=>hm (hp.mem_iff.2 hc)).symm
  ·have e1:AB frm (e::l) m=AB frm l m:=by simp [AB,h]
   have e2:pH frm (e::l) c=pH frm l c:=by simp [pH,h]
   rw [e1,e2];exact HA hl hi hp

theorem GV {frm:Int}:∀ {l:List aK} {c:List Int},(pH frm l c).length<=c.length+l.length
 | [],c=>by simp [pH]
 | e::l,c=>by
  by_cases h:frm<e.At
  ·have e2:pH frm (e::l) c=pH frm l (gU e.At c):=by simp [pH,h]
   rw [e2];have h1:=GV (frm:=frm) (l:=l) (c:=gU e.At c);have h2:=HD (t:=e.At) (ps:=c);simp only [List.length_cons]; omega
  ·have e2:pH frm (e::l) c=pH frm l c:=by simp [pH,h]
   rw [e2];have h1:=GV (frm:=frm) (l:=l) (c:=c);simp only [List.length_cons]; omega

theorem IL:∀ {ps:List Int} {last:Int},Inc last ps->ps.Pairwise (· < ·)
 | [],_,_=>List.Pairwise.nil
 | p::r,last,h=>List.Pairwise.cons (fun x hx=>(h.2.above x hx).1) (IL h.2)

theorem TS {ps:List Int}{last:Int}(h:Inc last ps):ps.Pairwise (· <= ·):=(IL h).imp fun h=>by omega

theorem aAO {frm:Int}{l:List aK}(hl:l.length<=1000000)(m:List (Int×Int)):lp (fun s:List (Int×Int)×Int=>pJ frm l ((l.length:Nat):Int) s.1 s.2) (m,0)=some (AB frm l m):=by
 refine oU (l:=l) (body:=fun s:List (Int×Int)×Int=>pJ frm l ((l.length:Nat):Int) s.1 s.2) (fun (s:List (Int×Int)) i=>(s,i)) (fun s r=>AB frm r s) (fun _ _=>True) m ?_ ?_ trivial
 ·intro i a r s ha _;left;obtain⟨d1,d2,d3,d4⟩:=idx ha (by omega);by_cases h:frm<a.At
  ·refine⟨fJ s a.At 1,?_,trivial,by simp [AB,h]⟩;simp only [pJ,uL,d1,cond_true,aN d2,d3,d4,h,decide_true]
  ·refine⟨s,?_,trivial,by simp [AB,h]⟩;simp only [pJ,uL,d1,cond_true,aN d2,d3,d4,h,decide_false,cond_false]
 ·intro s _;simp only [pJ,gK,cond_false]; rfl

theorem VW {m:List (Int×Int)}:∀ {q:List (Int×Int)} {out:List Int},out.length+q.length<=1000000->dV (fun (s:List Int) (x:Int×Int)=>uG m s x.1 x.2) out q=some (out++q.map (·.1))
 | [],out,_=>by simp [dV]
 | x::q,out,h=>by
  simp only [List.length_cons] at h
  have e1:uG m out x.1 x.2=some (out++[x.1]):=by
   unfold uG;rw [aN (by simp only [List.length_cons,List.length_nil]; omega)]
  simp only [dV,e1,Option.bind_some];rw [VW (by simp only [List.length_append,List.length_cons,List.length_nil]; omega)];simp

theorem aBf {l:List aK}(hl:okL l)(frm:Int):zM l frm=some (tF l frm):=by
 unfold zM tF;rw [IE hl,Option.bind_some]
 cases hm:jZ l with
 | false=>simp
 | true =>
  simp only [Bool.not_true,cond_false,Bool.false_eq_true,if_false,HB hl,Option.bind_some]
  cases ht:kS l with
  | false=>simp
  | true =>
   simp only [Bool.not_true,cond_false,Bool.false_eq_true,if_false];by_cases h1:frm<0∨1125899906842624<frm
   ·have : (decide (frm<0)||decide (1125899906842624<frm))=true:=by simpa using h1
    rw [this,cond_true,if_pos h1]
   ·have : (decide (frm<0)||decide (1125899906842624<frm))=false:=by simpa using h1
    rw [this,cond_false,if_neg h1];by_cases h2:frm=1125899906842624
    ·simp [h2]
    ·rw [decide_eq_false h2,cond_false,if_neg h2];have hn:=(oA hm).1;have hat:∀ e∈l,e.At<1125899906842624:=fun e he=>(uP hm he).2.2.1;obtain⟨p1,p2⟩:=HA (frm:=frm) (l:=l) (c:=[frm]) (m:=[(frm,1)]) hat ⟨⟨by omega,by omega⟩,trivial⟩ (List.Perm.refl _);have hcl:=GV (frm:=frm) (l:=l) (c:=[frm]);have hsl:(AB frm l [(frm,1)]).length=(pH frm l [frm]).length:=by have:=p1.length_eq; simpa using this
     simp only [List.length_cons,List.length_nil] at hcl;have e0:fJ ([]:List (Int×Int)) frm 1=[(frm,1)]:=rfl;rw [e0];unfold BK;rw [aAO (by omega),Option.bind_some];unfold xT;rw [aN (by omega)];unfold BT;refine MI fun q hq=>?_;rw [VW (by have:=hq.length_eq; simp only [List.length_nil]; omega),Option.bind_some,List.nil_append];unfold BV BU;have hp:(pH frm l [frm]).Perm (q.map (·.1)):=((hq.map (·.1)).trans p1).symm;rw [aBk (s:=pH frm l [frm]) (by have:=hp.length_eq; omega) hp (TS p2)];rfl

theorem ZX {l:List aK}{frm:Int}(h:(tF l frm).2=0):jZ l=true/\kS l=true/\0<=frm/\((frm=1125899906842624/\(tF l frm).1=[])∨(frm<1125899906842624/\(tF l frm).1=pH frm l [frm])):=by
 unfold tF at h ⊢
 cases hm:jZ l with
 | false=>simp [hm] at h
 | true =>
  cases ht:kS l with
  | false=>simp [hm,ht] at h
  | true =>
   by_cases h1:frm<0∨1125899906842624<frm
   ·simp [hm,ht,h1] at h
   ·by_cases h2:frm=1125899906842624
    ·subst h2; simp
    ·simp only [hm,ht,h1,h2,Bool.not_true,Bool.false_eq_true,if_false,true_and,false_and,false_or,and_true];omega

theorem aDX {l:List aK}{frm:Int}(h:(tF l frm).2≠0):(tF l frm).1=[]:=by
 unfold tF at h ⊢;split
 ·rfl
 ·split
  ·rfl
  ·split
   ·rfl
   ·split
    ·rfl
    ·rename_i h1 h2 h3 h4; simp [h1,h2,h3,h4] at h

theorem aCL {l:List aK}{frm:Int}:Inc (frm-1) (tF l frm).1/\(tF l frm).1.length<=4097:=by
 by_cases h:(tF l frm).2=0
 ·obtain⟨hm,_,_,⟨_,h2⟩ | ⟨h1,h2⟩⟩:=ZX h
  ·rw [h2]; exact ⟨trivial,by simp⟩
  ·rw [h2];refine⟨(HA (frm:=frm) (l:=l) (c:=[frm]) (m:=[(frm,1)]) (fun e he=>(uP hm he).2.2.1) ⟨⟨by omega,h1⟩,trivial⟩ (List.Perm.refl _)).2,?_⟩;have h4:=(oA hm).1;have h3:=GV (frm:=frm) (l:=l) (c:=[frm]);simp only [List.length_cons,List.length_nil] at h3;omega
 ·rw [aDX h]; exact ⟨trivial,by simp⟩

end Go.Abs
namespace Go.Abs
open Go
def vK (t:Int)(gs:List (List aG×List aI)):List bK:=gs.filterMap fun g=>if 0<val g.2 t then some ⟨g.1,val g.2 t⟩ else none

def zF (al:Int->List bK):List Int->List aP
 | []=>[]
 | t::cs=>(if al t=[] then [] else [⟨⟨t,cs.headD 1125899906842624⟩,al t⟩])++zF al cs

def aGc (x:List aP):List aP×Int:=if 1024<x.length then ([],7) else (x,0)

def aAi (l:List aK)(frm:Int):List aP×Int:=if (tF l frm).2≠0 then ([],(tF l frm).2) else aGc (zF (fun t=>vK t (groups l)) (tF l frm).1)

theorem aBc (t:Int)(g:List aG×List aI)(gs:List (List aG×List aI)):vK t (g::gs)=(if 0<val g.2 t then [⟨g.1,val g.2 t⟩] else [])++vK t gs:=by
 unfold vK;rw [List.filterMap_cons];by_cases h:0<val g.2 t <;> simp [h]

theorem HS {r:List aG}(h:r.length<=4398046510976):gE r=some r:=by
 unfold gE;rw [aN (by omega)]

theorem YR {gs:List (List aG×List aI)}(hg:∀ g∈gs,iG g.2=true/\g.1.length<=4398046510976)(hn:gs.length<=1000000)(t:Int):tI t (gs.map fun g=>⟨g.1,g.2⟩)=some (vK t gs):=by
 unfold tI xA;rw [List.length_map]
 have key:=oU (l:=gs) (body:=fun s:List bK×Int=>nQ t (gs.map fun g=>⟨g.1,g.2⟩) ((gs.length:Nat):Int) s.1 s.2) (fun (s:List bK) i=>(s,i)) (fun s r=>s++vK t r)
  (fun s r=>s.length+r.length<=1000000 /\ ∀ g∈r,iG g.2=true/\g.1.length<=4398046510976) [] ?_ ?_ ⟨by simpa using hn,hg⟩
 ·rw [key]; rfl
 ·rintro i a r s ha ⟨hs,hr⟩;left;simp only [List.length_cons] at hs;have ha':(gs.map fun g=>(⟨g.1,g.2⟩:cE))[i]?=some ⟨a.1,a.2⟩:=by rw [List.getElem?_map,ha]; rfl
  obtain⟨d1,d2,d3,d4⟩:=idx ha' (by rw [List.length_map]; omega);rw [List.length_map] at d1;obtain⟨m1,m2⟩:=hr a (by simp);have hr':∀ g∈r,iG g.2=true/\g.1.length<=4398046510976:=fun g hg=>hr g (by simp [hg]);rw [aBc];by_cases h:0<val a.2 t
  ·refine⟨s++[⟨a.1,val a.2 t⟩],?_,⟨by simp only [List.length_append,List.length_cons,List.length_nil]; omega,hr'⟩,by simp [h]⟩;simp only [nQ,pT,d1,cond_true,aN d2,d3,d4,aCv,m1,if_true,Option.bind_some,h,decide_true,HS m2];rw [aN (by simp only [List.length_cons,List.length_nil]; omega)]
  ·refine⟨s,?_,⟨by omega,hr'⟩,by simp [h]⟩;simp only [nQ,pT,d1,cond_true,aN d2,d3,d4,aCv,m1,if_true,Option.bind_some,h,decide_false,cond_false]
 ·rintro s _;simp only [nQ,gK,cond_false];simp [vK]

theorem aET {cs r:List Int}{t:Int}{i:Nat}(hd:cs.drop i=t::r)(d:Int):(cs[i+1]?).getD d=r.headD d:=by
 have:=(drop_cons hd).2;rw [←List.head?_drop,this]
 cases r <;> rfl

theorem ZP {cuts:List Int}{gs:List (List aG×List aI)}(hc:cuts.length<=1000000)(hg:∀ g∈gs,iG g.2=true/\g.1.length<=4398046510976)(hn:gs.length<=1000000) :
  lp (fun s:List aP×Int=>oF cuts (gs.map fun g=>⟨g.1,g.2⟩) cuts ((cuts.length:Nat):Int) s.1 s.2) ([],0)=some (if 1024<(zF (fun t=>vK t gs) cuts).length then .inr ([],7) else .inl (zF (fun t=>vK t gs) cuts)):=by
 let al:=fun t=>vK t gs
 have key:∀ (r:List Int) (k:Nat) (s:List aP),cuts.drop k=r->k<=cuts.length->s.length<=1024 ->
   lp (fun s:List aP×Int=>oF cuts (gs.map fun g=>⟨g.1,g.2⟩) cuts ((cuts.length:Nat):Int) s.1 s.2) (s,(k:Int))=some (if 1024<(s++zF al r).length then .inr ([],7) else .inl (s++zF al r)):=by
  intro r
  induction r with
  | nil =>
   intro k s hd hk hs
   have : k=cuts.length:=by
    have:=congrArg List.length hd;simp only [List.length_drop,List.length_nil] at this; omega
   subst this;refine cV ?_;simp only [oF,gK,cond_false,zF,List.append_nil];rw [if_neg (by omega)]
  | cons t r ih =>
   intro k s hd hk hs;obtain⟨h1,h2⟩:=drop_cons hd;obtain⟨d1,d2,d3,d4⟩:=idx h1 (by omega);have hlt:k<cuts.length:=(List.getElem?_eq_some_iff.1 h1).1
   have hb:oF cuts (gs.map fun g=>⟨g.1,g.2⟩) cuts ((cuts.length:Nat):Int) s (k:Int) =
     some (if al t=[] then .inl (s,((k+1:Nat):Int)) else if s.length=1024 then .inr (.inr ([],7)) else .inl (s++[⟨⟨t,r.headD 1125899906842624⟩,al t⟩],((k+1:Nat):Int))):=by
    simp only [oF,vY,vM,d1,cond_true,aN d2,d3,d4,YR hg hn,Option.bind_some];by_cases ha:vK t gs=[]
    ·simp [al,ha]
    ·have ha1:decide (((vK t gs).length:Int)=0)=false:=by
      rw [decide_eq_false_iff_not]; intro e;exact ha (List.length_eq_zero_iff.1 (by omega))
     rw [ha1,cond_false,if_neg (show ¬ al t=[] from ha)];by_cases hs1:s.length=1024
     ·rw [if_pos hs1,decide_eq_true (by omega),cond_true]
     ·rw [if_neg hs1,decide_eq_false (by omega),cond_false];have hh:=aET hd 1125899906842624;by_cases hk1:k+1<cuts.length
      ·rw [decide_eq_true (by omega),cond_true,aN (by omega),aN (by simp only [List.length_cons,List.length_nil]; omega)]
       have : List.getD cuts (Int.toNat ((k+1:Nat):Int)) default=r.headD 1125899906842624:=by
        rw [←hh,Int.toNat_natCast,List.getD_eq_getElem?_getD,List.getElem?_eq_getElem hk1]; rfl
       rw [this]
      ·rw [decide_eq_false (by omega),cond_false,aN (by simp only [List.length_cons,List.length_nil]; omega)]
       have : r.headD 1125899906842624=1125899906842624:=by
        rw [←hh,List.getElem?_eq_none (by omega)]; rfl
       rw [this]
   by_cases ha:al t=[]
   ·rw [if_pos ha] at hb;rw [eW hb,ih (k+1) s h2 (by omega) hs];simp [zF,ha]
   ·rw [if_neg ha] at hb;by_cases hs1:s.length=1024
    ·rw [if_pos hs1] at hb;rw [cV hb,if_pos];simp [zF,ha]; omega
    ·rw [if_neg hs1] at hb;rw [eW hb,ih (k+1) _ h2 (by omega) (by simp only [List.length_append,List.length_cons,List.length_nil]; omega)];simp [zF,ha]
 exact key cuts 0 [] rfl (by omega) (by simp)

theorem PX (c0:List Int)(c:List aK):∀ (gs:List (List aG×List aI)) (out:List cE),out.length+gs.length<=1000000 ->
  itG (fun st t29 t30=>rnd (fun (s:List cE)=>oK c0 c s t29 t30) st) gs (.inl out:List cE⊕List cE)=some (.inl (out++gs.map fun g=>⟨g.1,g.2⟩))
 | [],out,_=>by simp [itG]
 | g::gs,out,h=>by
  simp only [List.length_cons] at h
  have e1:oK c0 c out g.1 g.2=some (.inl (out++[⟨g.1,g.2⟩])):=by
   unfold oK;rw [aN (by simp only [List.length_cons,List.length_nil]; omega)]
  have e2:rnd (fun (s:List cE)=>oK c0 c s g.1 g.2) (.inl out:List cE⊕List cE)=some (.inl (out++[⟨g.1,g.2⟩]),true):=by
   simp only [rnd,e1,Option.bind_some]; rfl
  unfold itG;rw [e2];simp only [Option.bind_some,if_true];rw [PX c0 c gs _ (by simp only [List.length_append,List.length_cons,List.length_nil]; omega)];simp

theorem aCB {l:List aK}(hl:okL l)(hm:jZ l=true):(∀ g∈groups l,iG g.2=true/\g.1.length<=4398046510976)/\(groups l).length<=4096:=by
 obtain⟨h1,h2,_⟩:=oA hm;exact⟨fun g hg=>⟨(h2 g hg).2,UF hl hg⟩,by have:=RY l; omega⟩

theorem YW {l:List aK}(hl:okL l)(frm:Int):yH l frm=some (aAi l frm):=by
 unfold yH aAi;rw [aBf hl,Option.bind_some];by_cases h:(tF l frm).2=0
 ·rw [if_neg (by simpa using h),decide_eq_true h,Bool.not_true,cond_false];have hm:=(ZX h).1;obtain⟨g1,g2⟩:=aCB hl hm;have hc:=(aCL (l:=l) (frm:=frm)).2;unfold rZ;rw [Option.bind_some];unfold zW;rw [RS hl (s':=.inl ([]++(groups l).map fun g=>(⟨g.1,g.2⟩:cE))) (by rw [hm,if_pos rfl]; exact PX _ _ _ _ (by simp; omega)),Option.bind_some,Sum.elim_inl,List.nil_append];unfold wD;rw [ZP (by omega) g1 (by omega)];unfold aGc;split <;> rfl
 ·rw [if_pos h,decide_eq_false h]; rfl

end Go.Abs
namespace Go.Abs
open Go
def iS (hop n:Int):Int:=if n<0 then 0 else (n / hop+1)*hop

def wV (size hop:Int):Bool:=(((decide ((1:Int)<=size))&&(decide (size<=(1099511627776:Int))))&&(decide ((1:Int)<=hop)))&&(decide (hop<=(1099511627776:Int)))

def oN (t:Int):Bool:=(decide ((0:Int)<=t))&&(decide (t<=(1125899906842624:Int)))

def EN (size hop t:Int):Int×Int :=
 if !wV size hop then (0,2) else if !oN t then (0,13) else if t=1125899906842624 then (1125899906842624,0) else (min (iS hop (t-size)) 1125899906842624,0)

theorem KX {size hop:Int}(h:wV size hop=true):1<=size/\size<=1099511627776/\1<=hop/\hop<=1099511627776:=by
 simp only [wV,Bool.and_eq_true,decide_eq_true_eq] at h; omega

theorem BG {t:Int}(h:oN t=true):0<=t/\t<=1125899906842624:=by
 simp only [oN,Bool.and_eq_true,decide_eq_true_eq] at h; omega

theorem OZ {n hop:Int}(h:0<=n):Int.tdiv n hop=n / hop:=Int.tdiv_eq_ediv_of_nonneg h

theorem GO {n hop:Int}(hh:1<=hop):n / hop*hop<=n/\n<(n / hop+1)*hop:=by
 have h1:=Int.mul_ediv_add_emod n hop;have h2:=Int.emod_nonneg n (show hop≠0 by omega);have h3:=Int.emod_lt_of_pos n (show 0<hop by omega);rw [Int.add_mul,Int.mul_comm (n / hop) hop];omega

theorem xU {hop n:Int}(hh:1<=hop):0<=iS hop n/\n<iS hop n/\(0<=n->iS hop n<=n+hop)/\(n<0->iS hop n=0) /\ ∃ k:Int,iS hop n=k*hop:=by
 unfold iS;split
 ·exact⟨Int.le_refl _,by omega,by omega,fun _=>rfl,0,by simp⟩
 ·rename_i h
  have:=GO (n:=n) hh;rw [Int.add_mul] at this ⊢;refine⟨by omega,by omega,by omega,by omega,n / hop+1,by rw [Int.add_mul]⟩

theorem ML {hop n:Int}(h1:1<=hop)(h2:hop<=1099511627776)(h3:n<=4503599627370496):rH hop n=some (iS hop n):=by
 unfold rH;by_cases hn:n<0
 ·simp [hn,iS]
 ·have hn0:0<=n:=by omega
  have hm:Int.tmod n hop=n % hop:=Int.tmod_eq_emod_of_nonneg hn0;have hr:¬ n % hop<0:=by have:=Int.emod_nonneg n (show hop≠0 by omega); omega
  have hd0:0<=n / hop:=Int.ediv_nonneg hn0 (by omega);have hd1:n / hop<=n:=Int.ediv_le_self _ hn0;have hf:=GO (n:=n) h1;have e1:wR (Int.tdiv n hop)=n / hop:=by rw [OZ hn0]; exact cI (by omega) (by omega)
  have e2:IntKind.i64.wrap (n / hop+1)=n / hop+1:=cI (by omega) (by omega);have e3:IntKind.i64.wrap ((n / hop+1)*hop)=(n / hop+1)*hop:=cI (by omega) (by rw [Int.add_mul]; omega)
  have e0:zS n hop=some (n / hop,n % hop,0):=by
   unfold zS;have hb:decide (hop<1)=false:=by simp; omega
   rw [hb,cond_false,aN (by omega),aN (by omega),hm,decide_eq_false hr,cond_false];unfold xZ;rw [show IntKind.i64.wrap (Int.tdiv n hop)=n / hop from e1]
  have hb:decide (n<(0:Int))=false:=decide_eq_false hn;rw [hb,cond_false,e0];simp only [Option.bind_some,e2,e3,iS,if_neg hn]

theorem aFm {size hop t:Int}:BM size hop t=some (EN size hop t):=by
 unfold BM EN;simp only [AV,uS,Option.bind_some];rw [show ((((decide ((1:Int)<=size))&&(decide (size<=(1099511627776:Int))))&&(decide ((1:Int)<=hop)))&&(decide (hop<=(1099511627776:Int))))=wV size hop from rfl,show ((decide ((0:Int)<=t))&&(decide (t<=(1125899906842624:Int))))=oN t from rfl]
 cases hm:wV size hop with
 | false=>rfl
 | true =>
  cases ht:oN t with
  | false=>rfl
  | true =>
   have hm':=KX hm; have ht':=BG ht;by_cases hf:t=1125899906842624
   ·simp [hf]
   ·have e1:IntKind.i64.wrap (t-size)=t-size:=cI (by omega) (by omega);simp only [Bool.not_true,cond_false,decide_eq_false hf,Bool.false_eq_true,if_false,if_neg hf,e1];rw [ML hm'.2.2.1 hm'.2.2.2 (by omega)];simp only [Option.bind_some]
    have : (if (1125899906842624:Int)<iS hop (t-size) then (1125899906842624:Int) else iS hop (t-size))=min (iS hop (t-size)) 1125899906842624:=by
     rw [Int.min_def]; split <;> split <;> omega
    rw [this]

theorem aAy {size hop t:Int}:xS size hop t=some (EN size hop t):=by
 unfold xS EN
 have hmay:qO size hop=some (wV size hop):=by
  unfold qO wV;have a:decide ((0:Int)<size)=decide ((1:Int)<=size):=decide_eq_decide.2 (by omega);have b:decide ((0:Int)<hop)=decide ((1:Int)<=hop):=decide_eq_decide.2 (by omega);rw [a,b]
 have htk:pK t=some (oN t):=rfl;rw [hmay,htk];simp only [Option.bind_some]
 cases hm:wV size hop with
 | false=>rfl
 | true =>
  cases ht:oN t with
  | false=>rfl
  | true =>
   have hm':=KX hm; have ht':=BG ht;by_cases hf:t=1125899906842624
   ·simp [hf]
   ·have e1:IntKind.i64.wrap (t-size)=t-size:=cI (by omega) (by omega);have hh:1<=hop:=hm'.2.2.1;simp only [Bool.not_true,cond_false,decide_eq_false hf,Bool.false_eq_true,if_false,if_neg hf,e1];rw [aN (by omega)]
    -- the loop
    have stop:∀ k:Int,0<=k->k*hop<=4503599627370496->t-size<k*hop->(lp (fun s=>mC size hop t s) k).bind (fun rr=>sD hop rr)=some (min (k*hop) 1125899906842624,0):=by
     intro k hk hk2 hk3;have hk0:0<=k*hop:=Int.mul_nonneg hk (by omega);have w1:IntKind.i64.wrap (k*hop)=k*hop:=cI (by omega) (by omega);have w2:IntKind.i64.wrap (k*hop+size)=k*hop+size:=cI (by omega) (by omega)
     have hE:wQ size (k*hop)=some (min (k*hop+size) 1125899906842624):=by
      unfold wQ;rw [w2];by_cases hc:1125899906842624<k*hop+size
      ·rw [decide_eq_true hc,cond_true]; congr 1; omega
      ·rw [decide_eq_false hc,cond_false]; congr 1; omega
     have hb:(fun s=>mC size hop t s) k=some (.inr k):=by
      show mC size hop t k=_;unfold mC;rw [w1,hE];simp only [Option.bind_some];have : decide (min (k*hop+size) 1125899906842624<=t)=false:=by simp only [decide_eq_false_iff_not]; omega
      rw [this]; rfl
     rw [cV hb];simp only [Option.bind_some,sD,w1];by_cases hc:1125899906842624<=k*hop
     ·rw [decide_eq_true hc,cond_true]; congr 2; omega
     ·rw [decide_eq_false hc,cond_false]; congr 2; omega
    by_cases hn:t-size<0
    ·have hq:¬ 0<Int.tdiv (t-size) hop:=by
      have:=Int.tdiv_nonneg (a := -(t-size)) (b:=hop) (by omega) (by omega);rw [Int.neg_tdiv] at this; omega
     have hw:IntKind.i64.wrap (Int.tdiv (t-size) hop)<=0:=by
      have h2 : -(Int.tdiv (t-size) hop) <= -(t-size):=by
       rw [←Int.neg_tdiv,OZ (by omega)];exact Int.ediv_le_self _ (by omega)
      rw [cI (by omega) (by omega)]; omega
     have hz:iS hop (t-size)=0:=(xU hh).2.2.2.1 hn;have h0:=stop 0 (Int.le_refl _) (by omega) (by omega);simp only [Int.zero_mul] at h0;rw [hz];by_cases hw0:IntKind.i64.wrap (Int.tdiv (t-size) hop)<0
     ·rw [decide_eq_true hw0,cond_true]; exact h0
     ·rw [decide_eq_false hw0,cond_false,show IntKind.i64.wrap (Int.tdiv (t-size) hop)=0 by omega]; exact h0
    ·have hn0:0<=t-size:=by omega
     have hd0:0<=(t-size) / hop:=Int.ediv_nonneg hn0 (by omega);have hd1:(t-size) / hop<=t-size:=Int.ediv_le_self _ hn0;have hfl:=GO (n:=t-size) hh;have hw:IntKind.i64.wrap (Int.tdiv (t-size) hop)=(t-size) / hop:=by rw [OZ hn0]; exact cI (by omega) (by omega)
     rw [hw,decide_eq_false (by omega),cond_false];have hq0:0<=(t-size) / hop*hop:=Int.mul_nonneg hd0 (by omega);have w1:IntKind.i64.wrap ((t-size) / hop*hop)=(t-size) / hop*hop:=cI (by omega) (by omega);have w2:IntKind.i64.wrap ((t-size) / hop*hop+size)=(t-size) / hop*hop+size:=cI (by omega) (by omega);have w3:IntKind.i64.wrap ((t-size) / hop+1)=(t-size) / hop+1:=cI (by omega) (by omega)
     have hb:(fun s=>mC size hop t s) ((t-size) / hop)=some (.inl ((t-size) / hop+1)):=by
      show mC size hop t ((t-size) / hop)=_;unfold mC wQ;rw [w1,w2,decide_eq_false (by omega),cond_false];simp only [Option.bind_some];rw [decide_eq_true (show (t-size) / hop*hop+size<=t by omega),decide_eq_true (show (t-size) / hop*hop<1125899906842624 by omega),w3]; rfl
     show (lp _ _).bind _=_;rw [eW hb,stop _ (by omega) (by rw [Int.add_mul]; omega) hfl.2];simp only [iS,if_neg hn]

def aE9 (hop:Int):Nat->Int->List Int
 | 0,_=>[]
 | n+1,t=>t::aE9 hop n (t+hop)

def FV (hop t b:Int):List Int:=aE9 hop ((b-t+hop-1) / hop).toNat t

theorem OY {hop t b:Int}(hh:1<=hop)(h:b<=t):FV hop t b=[]:=by
 unfold FV
 have : (b-t+hop-1) / hop<=0:=by
  have h1:b-t+hop-1<1*hop:=by omega
  have:=Int.ediv_lt_of_lt_mul (by omega) h1;omega
 rw [show ((b-t+hop-1) / hop).toNat=0 by omega]; rfl

theorem MP {hop t b:Int}(hh:1<=hop)(h:t<b):FV hop t b=t::FV hop (t+hop) b:=by
 unfold FV
 have h1:(b-t+hop-1) / hop=(b-(t+hop)+hop-1) / hop+1:=by
  rw [show b-t+hop-1=(b-(t+hop)+hop-1)+hop by omega,Int.add_ediv_of_dvd_right (Int.dvd_refl hop),Int.ediv_self (by omega)]
 have h2:0<=(b-(t+hop)+hop-1) / hop:=Int.ediv_nonneg (by omega) (by omega);rw [h1,show ((b-(t+hop)+hop-1) / hop+1).toNat=((b-(t+hop)+hop-1) / hop).toNat+1 by omega];rfl

theorem PI {hop b:Int}(hh:1<=hop){C:Int->Prop}(h0:∀ t,b<=t->C t)(h1:∀ t,t<b->C (t+hop)->C t)(t:Int):C t:=by
 generalize hn:(b-t).toNat=n
 induction n using Nat.strongRecOn generalizing t with
 | ind n ih =>
  by_cases h:t<b
  ·exact h1 t h (ih (b-(t+hop)).toNat (by omega) _ rfl)
  ·exact h0 t (by omega)

theorem aAd {hop b x:Int}(hh:1<=hop):∀ t,x∈FV hop t b ↔ ∃ k:Nat,x=t+k*hop/\x<b:=by
 refine PI hh (b:=b) (fun t h=>?_) (fun t h ih=>?_)
 ·rw [OY hh h];simp only [List.not_mem_nil,false_iff,not_exists,not_and];intro k hk;have : 0<=(k:Int)*hop:=Int.mul_nonneg (by omega) (by omega);omega
 ·rw [MP hh h,List.mem_cons,ih];constructor
  ·rintro (rfl | ⟨k,rfl,hk⟩)
   ·exact⟨0,by simp,h⟩
   ·refine⟨k+1,?_,hk⟩;rw [Int.natCast_add,Int.add_mul]; omega
  ·rintro ⟨k,hk1,hk2⟩
   match k with
   | 0=>left; simpa using hk1
   | k+1 =>
    right;refine⟨k,?_,hk2⟩;rw [Int.natCast_add,Int.add_mul] at hk1; omega

theorem aD1 {hop b:Int}(hh:1<=hop):∀ t,(FV hop t b).Pairwise (· < ·) /\ ∀ x∈FV hop t b,t<=x:=by
 refine PI hh (b:=b) (fun t h=>?_) (fun t h ih=>?_)
 ·rw [OY hh h]; simp
 ·rw [MP hh h];refine⟨List.pairwise_cons.2 ⟨fun x hx=>?_,ih.1⟩,fun x hx=>?_⟩
  ·have:=ih.2 x hx; omega
  ·rcases List.mem_cons.1 hx with rfl | hx
   ·exact Int.le_refl _
   ·have:=ih.2 x hx; omega

def AM {σ α:Type}(y:σ->α->Option (σ×Bool)):List α->σ->Option σ
 | [],s=>some s
 | a::r,s=>(y s a).bind fun x=>if x.2 then AM y r x.1 else some x.1

def wE (size hop frm:Int)(s:bL):Int:=max (iS hop (s.From-size)) (iS hop (frm-1))

def xO (front:Int)(s:bL):Int:=min (min s.To front) 1125899906842624

def tM (size hop frm front:Int)(s:bL):List Int:=FV hop (wE size hop frm s) (xO front s)

structure OkH (size hop frm front:Int):Prop where
 s0:1<=size
 s1:size<=1099511627776
 h0:1<=hop
 h1:hop<=1099511627776
 f0:0<=frm
 f1:frm<=1125899906842624
 r0:0<=front
 r1:front<=1125899906842624

theorem ZM {σ:Type}{y:σ->Int->Option (σ×Bool)}{hop front:Int}{sp:bL}(hh:1<=hop)(hh1:hop<=1099511627776):∀ (t:Int) (s s':σ),0<=t->AM y (FV hop t (xO front sp)) s=some s'->qF y s hop sp front t=some s':=by
 have main:∀ (t:Int),∀ (s s':σ),0<=t->AM y (FV hop t (xO front sp)) s=some s' -> ∃ x,lp (fun s=>kB y hop sp front s.1 s.2) (s,t)=some x/\Sum.elim id id x=s':=by
  have hbe:(if (1125899906842624:Int)<(if front<sp.To then front else sp.To) then (1125899906842624:Int) else (if front<sp.To then front else sp.To))=xO front sp:=by
   unfold xO; simp only [Int.min_def]; split <;> split <;> split <;> split <;> omega
  refine PI hh (b:=xO front sp) (fun t h s s' ht hi=>?_) (fun t h ih s s' ht hi=>?_)
  ·rw [OY hh h] at hi;simp only [AM,Option.some.injEq] at hi;refine⟨.inl s,cV ?_,hi⟩;show kB _ _ _ _ _ _=_;simp only [kB,hbe];rw [decide_eq_false (by omega),cond_false]
  ·rw [MP hh h] at hi;simp only [AM] at hi;obtain⟨x,hx,hi⟩:=aW hi;have hb1:xO front sp<=1125899906842624:=Int.min_le_right _ _;have hw:IntKind.i64.wrap (t+hop)=t+hop:=cI (by omega) (by omega)
   have hb:(fun s:σ×Int=>kB y hop sp front s.1 s.2) (s,t)=some (if x.2 then .inl (x.1,t+hop) else .inr (.inr x.1)):=by
    show kB _ _ _ _ _ _=_;simp only [kB,hbe];rw [decide_eq_true h,cond_true,hx];simp only [Option.bind_some,hw]
    cases x.2 <;> rfl
   cases hx2:x.2
   ·rw [hx2] at hb hi;simp only [Bool.false_eq_true,if_false,Option.some.injEq] at hb hi;exact⟨_,cV hb,hi⟩
   ·rw [hx2] at hb hi;simp only [if_true] at hb hi;obtain⟨z,hz1,hz2⟩:=ih x.1 s' (by omega) hi;exact⟨z,by rw [eW hb]; exact hz1,hz2⟩
 intro t s s' ht hi;obtain⟨x,h1,h2⟩:=main t s s' ht hi;unfold qF;rw [h1]
 cases x <;> simpa using h2

theorem aB0 {σ:Type}{y:σ->Int->Option (σ×Bool)}{size hop frm front:Int}{sp:bL}(ok:OkH size hop frm front)(h1 : -1<=sp.From)(h2:sp.From<=1125899906842624){s s':σ}(h:AM y (tM size hop frm front sp) s=some s') :
  rG y hop sp size frm front s=some s':=by
 obtain⟨a1,a2,a3,a4,a5,a6,a7,a8⟩:=ok;unfold rG;have w1:IntKind.i64.wrap (sp.From-size)=sp.From-size:=cI (by omega) (by omega);have w2:IntKind.i64.wrap (frm-1)=frm-1:=cI (by omega) (by omega);rw [w1,w2,ML a3 a4 (by omega),ML a3 a4 (by omega)];simp only [Option.bind_some]
 have e:(if iS hop (frm-1)>iS hop (sp.From-size) then iS hop (frm-1) else iS hop (sp.From-size))=wE size hop frm sp:=by
  unfold wE; rw [Int.max_def]; split <;> split <;> omega
 rw [e];refine ZM a3 a4 _ _ _ ?_ h;have:=(xU (n:=sp.From-size) a3).1;unfold wE; omega

end Go.Abs
namespace Go.Abs
open Go
def XF:aG:=⟨1,1,ByteArray.empty⟩

end Go.Abs
namespace Go.Abs
open Go
def mV (e:aK):Bool:=decide (0<e.Net)&&decide (-1<e.At)

def cX (l:List aK):List Int:=(l.filter mV).foldl (fun c e=>gU e.At c) []

theorem RM {S:Type} {body:S->aK->Option (S⊕S)} {l:List aK} (hl:l.length<=1000000) (f:S->aK->S) (Inv:S->List aK->Prop)
  (h:∀ s e r,Inv s (e::r)->(mV e=true->body s e=some (.inl (f s e))/\Inv (f s e) r)/\(mV e=false->Inv s r)) {s:S} (hi:Inv s l) :
  nC (fun st e=>rnd (fun s=>body s e) st) l (.inl s:S⊕S)=some (.inl ((l.filter mV).foldl f s)):=by
 unfold nC rS;rw [oU (l:=l) (body:=fun s:(S⊕S)×Int=>lC (fun st e=>rnd (fun s=>body s e) st) l ((l.length:Nat):Int) s.1 s.2) (fun (s:S) i=>(.inl s,i)) (fun s r=>.inl (.inl ((r.filter mV).foldl f s))) Inv s ?_ ?_ hi]
 ·rfl
 ·intro i e r s he hI;left;obtain⟨d1,d2,d3,d4⟩:=idx he (by omega);obtain⟨h1,h2⟩:=h s e r hI
  cases hr:mV e with
  | true =>
   obtain⟨b1,b2⟩:=h1 hr;refine⟨f s e,?_,b2,by simp [hr]⟩;have hc:(decide (0<e.Net)&&decide (-1<e.At))=true:=hr;simp only [lC,d1,cond_true,aN d2,d3,d4,hc,DE,rnd,b1,Option.bind_some,Bool.true_and];rfl
  | false =>
   refine⟨s,?_,h2 hr,by simp [hr]⟩;have hc:(decide (0<e.Net)&&decide (-1<e.At))=false:=hr;simp only [lC,d1,cond_true,aN d2,d3,d4,hc,DE,cond_false,Option.bind_some,Bool.false_and]
 ·intro s _;simp only [lC,gK,cond_false];rfl

theorem VX:∀ {a b:List Int},a.Pairwise (· < ·)->b.Pairwise (· < ·)->(∀ x,x∈a↔x∈b)->a=b
 | [],[],_,_,_=>rfl
 | [],y::b,_,_,h=>by have:=(h y).2 (by simp); simp at this
 | x::a,[],_,_,h=>by have:=(h x).1 (by simp); simp at this
 | x::a,y::b,ha,hb,h=>by
  obtain⟨a1,a2⟩:=List.pairwise_cons.1 ha;obtain⟨b1,b2⟩:=List.pairwise_cons.1 hb
  have hxy:x=y:=by
   rcases List.mem_cons.1 ((h x).1 (by simp)) with h1 | h1
   ·exact h1
   ·rcases List.mem_cons.1 ((h y).2 (by simp)) with h2 | h2
    ·exact h2.symm
    ·have:=a1 y h2; have:=b1 x h1; omega
  subst hxy;rw [VX a2 b2 fun z=>?_];constructor
  ·intro hz;rcases List.mem_cons.1 ((h z).1 (by simp [hz])) with h1 | h1
   ·have:=a1 z hz; omega
   ·exact h1
  ·intro hz;rcases List.mem_cons.1 ((h z).2 (by simp [hz])) with h1 | h1
   ·have:=b1 z hz; omega
   ·exact h1

theorem SS {d:List Int}(hd:d.Pairwise (· <= ·)){i j:Nat}(hij:i<=j)(hj:j<d.length):d.getD i 0<=d.getD j 0:=by
 rw [List.getD_eq_getElem?_getD,List.getD_eq_getElem?_getD,List.getElem?_eq_getElem (by omega),List.getElem?_eq_getElem hj];rcases Nat.lt_or_ge i j with h | h
 ·exact List.pairwise_iff_getElem.1 hd i j (by omega) hj h
 ·have : i=j:=by omega
  subst this; exact Int.le_refl _

theorem KO {d:List Int}{p:Nat}(hp:p<d.length):d.take (p+1)=d.take p++[d.getD p 0]:=by
 rw [List.take_add_one,List.getElem?_eq_getElem hp,List.getD_eq_getElem?_getD,List.getElem?_eq_getElem hp]; rfl

theorem aA7 {d:List Int}(hd:d.Pairwise (· <= ·)){p:Nat}(hp:p<d.length){x:Int}(hx:x∈d.take (p+1)):x<=d.getD p 0:=by
 obtain⟨i,hi⟩:=List.getElem?_of_mem hx;rw [List.getElem?_take] at hi;split at hi
 ·rename_i hlt
  have:=SS hd (i:=i) (j:=p) (by omega) hp;rw [List.getD_eq_getElem?_getD (i:=i),hi] at this;exact this
 ·cases hi

def Kept (d c:List Int)(p:Nat):Prop:=c.Pairwise (· < ·) /\ ∀ x,x∈c↔x∈d.take p

theorem Kept.same {d c:List Int}{p:Nat}(h:Kept d c p)(h0:0<p)(hp:p<d.length)(e:d.getD p 0=d.getD (p-1) 0):Kept d c (p+1):=by
 refine⟨h.1,fun x=>?_⟩;rw [h.2 x,KO hp,List.mem_append];constructor
 ·exact .inl
 ·rintro (h1 | h1)
  ·exact h1
  ·rw [List.mem_singleton.1 h1,e];have : p-1<p:=by omega
   refine List.mem_of_getElem? (i:=p-1) ?_;rw [List.getElem?_take,if_pos this,List.getD_eq_getElem?_getD,List.getElem?_eq_getElem (by omega)]; rfl

theorem Kept.more {d c:List Int}{p:Nat}(hd:d.Pairwise (· <= ·))(h:Kept d c p)(h0:0<p)(hp:p<d.length)(e:d.getD p 0≠d.getD (p-1) 0):Kept d (c++[d.getD p 0]) (p+1):=by
 have hle:=SS hd (i:=p-1) (j:=p) (by omega) hp;refine⟨?_,fun x=>by rw [KO hp,List.mem_append,List.mem_append,h.2 x]⟩;rw [List.pairwise_append];refine⟨h.1,by simp,fun a ha b hb=>?_⟩;rw [List.mem_singleton.1 hb];have ha':=(h.2 a).1 ha
 have : a<=d.getD (p-1) 0:=by
  refine aA7 hd (by omega) ?_
  rwa [show p-1+1=p by omega]
 omega

theorem uN (d:List Int)(i:Nat):d.getD i default=d.getD i 0:=rfl

theorem ZR {d:List Int}(hd:d.Pairwise (· <= ·))(hl:d.length<=1000000){k:Nat}(hk0:0<k)(hk:k<d.length){c:List Int}(hc:Kept d c (k+1))(hck:c=d.take k) :
  ∃ r,lp (fun s:List Int×Int×Int=>fV (0+Int.toNat ((k:Nat):Int)) (d.length-Int.toNat ((k:Nat):Int)) s.1 s.2.1 s.2.2) (d,((k:Nat):Int),1)=some r /\
   ∃ c' k3:Nat->Nat,True /\ ∃ (cc:List Int) (m:Nat),r.2=((m:Nat):Int)/\r.1.length=d.length/\m<=d.length/\r.1.take m=cc/\Kept d cc d.length:=by
 have key:=aAo (body:=fun s:List Int×Int×Int=>fV (0+Int.toNat ((k:Nat):Int)) (d.length-Int.toNat ((k:Nat):Int)) s.1 s.2.1 s.2.2)
  (I:=fun s=>∃ (k2 m:Nat),s.2.2=((k2:Nat):Int)/\s.2.1=((m:Nat):Int)/\0<k2/\k+k2<=d.length/\s.1.length=d.length/\m+1<=k+k2/\(∀ j,m<=j->s.1[j]?=d[j]?)/\Kept d (s.1.take m) (k+k2))
  (m:=fun s=>d.length+1-s.2.2.toNat) (Post:=fun r=>∃ m:Nat,r.2=((m:Nat):Int)/\r.1.length=d.length/\m<=d.length/\Kept d (r.1.take m) d.length) ?_ (s:=(d,((k:Nat):Int),1)) ?_
 ·obtain⟨r,h1,m,h2,h3,h4,h5⟩:=key;exact⟨r,h1,id,id,trivial,_,m,h2,h3,h4,rfl,h5⟩
 ·rintro ⟨s0,k3,k25⟩ ⟨k2,m,e1,e2,g1,g2,g3,g4,g5,g6⟩;simp only at e1 e2 g3 g5 g6;subst e1 e2;by_cases hlt:k+k2<d.length
  ·left
   have hat:∀ j,m<=j->s0.getD j 0=d.getD j 0:=fun j hj=>by
    rw [List.getD_eq_getElem?_getD,List.getD_eq_getElem?_getD,g5 j hj]
   have w1:IntKind.i64.wrap (((k2:Nat):Int)-1)=((k2-1:Nat):Int):=by rw [cI (by omega) (by omega)]; omega
   have w2:IntKind.i64.wrap (((k2:Nat):Int)+1)=((k2+1:Nat):Int):=by rw [cI (by omega) (by omega)]; omega
   have w3:IntKind.i64.wrap (((m:Nat):Int)+1)=((m+1:Nat):Int):=by rw [cI (by omega) (by omega)]; omega
   have c1:decide (((k2:Nat):Int)<((d.length-Int.toNat ((k:Nat):Int):Nat):Int))=true:=by
    rw [decide_eq_true_eq]; simp only [Int.toNat_natCast]; omega
   have c2:(0:Int)<=((k2:Nat):Int)/\((k2:Nat):Int)<((d.length-Int.toNat ((k:Nat):Int):Nat):Int):=⟨by omega,by simp only [Int.toNat_natCast]; omega⟩;have c3:0+Int.toNat ((k:Nat):Int)+Int.toNat ((k2:Nat):Int)<s0.length:=by simp only [Int.toNat_natCast]; omega
   have c4:(0:Int)<=((k2-1:Nat):Int)/\((k2-1:Nat):Int)<((d.length-Int.toNat ((k:Nat):Int):Nat):Int):=⟨by omega,by simp only [Int.toNat_natCast]; omega⟩;have c5:0+Int.toNat ((k:Nat):Int)+Int.toNat ((k2-1:Nat):Int)<s0.length:=by simp only [Int.toNat_natCast]; omega
   have c6:(0:Int)<=((m:Nat):Int)/\((m:Nat):Int)<((s0.length:Nat):Int):=⟨by omega,by omega⟩
   have i1:s0.getD (0+Int.toNat ((k:Nat):Int)+Int.toNat ((k2:Nat):Int)) default=d.getD (k+k2) 0:=by
    rw [uN,show 0+Int.toNat ((k:Nat):Int)+Int.toNat ((k2:Nat):Int)=k+k2 by simp only [Int.toNat_natCast]; omega]; exact hat _ (by omega)
   have i2:s0.getD (0+Int.toNat ((k:Nat):Int)+Int.toNat ((k2-1:Nat):Int)) default=d.getD (k+k2-1) 0:=by
    rw [uN,show 0+Int.toNat ((k:Nat):Int)+Int.toNat ((k2-1:Nat):Int)=k+k2-1 by simp only [Int.toNat_natCast]; omega]; exact hat _ (by omega)
   by_cases he:d.getD (k+k2) 0=d.getD (k+k2-1) 0
   ·refine⟨(s0,((m:Nat):Int),((k2+1:Nat):Int)),?_,⟨k2+1,m,rfl,rfl,by omega,by omega,g3,by omega,g5,?_⟩,by simp only [Int.toNat_natCast]; omega⟩
    ·simp only [fV,jU,c1,cond_true,aN c2,aN c3,w1,aN c4,aN c5,i1,i2,he,decide_true,Bool.not_true,cond_false,w2]
    ·exact g6.same (by omega) hlt he
   ·refine⟨(s0.set m (d.getD (k+k2) 0),((m+1:Nat):Int),((k2+1:Nat):Int)),?_,⟨k2+1,m+1,rfl,rfl,by omega,by omega,by simpa using g3,by omega,fun j hj=>?_,?_⟩,by simp only [Int.toNat_natCast]; omega⟩
    ·simp only [fV,jU,c1,cond_true,aN c2,aN c3,w1,aN c4,aN c5,i1,i2,decide_eq_false he,Bool.not_false,aN c6,w2,w3];rfl
    ·simp only;rw [List.getElem?_set_ne (by omega)]; exact g5 j (by omega)
    ·have h1:=g6.more hd (by omega) hlt he
     have h2:(s0.set m (d.getD (k+k2) 0)).take (m+1)=s0.take m++[d.getD (k+k2) 0]:=by
      rw [List.take_add_one,List.take_set_of_le (Nat.le_refl m),List.getElem?_set_self (by omega)]; rfl
     simp only;rw [h2]; exact h1
  ·right;have hk2:k+k2=d.length:=by omega
   refine⟨(s0,((m:Nat):Int)),?_,m,rfl,g3,by omega,by rw [←hk2]; exact g6⟩
   have c1:decide (((k2:Nat):Int)<((d.length-Int.toNat ((k:Nat):Int):Nat):Int))=false:=by
    rw [decide_eq_false_iff_not]; simp only [Int.toNat_natCast]; omega
   simp only [fV,c1,cond_false]
 ·refine⟨1,k,rfl,rfl,by omega,by omega,rfl,by omega,fun _ _=>rfl,?_⟩;rw [←hck]; exact hc

theorem aCu {k:Nat}{d:List Int}:(kR k d).take k=d.take k:=by
 unfold kR;by_cases h:k<=d.length
 ·rw [List.take_append_of_le_length (by simp; omega),List.take_take]; simp
 ·have e1:d.take k=d:=List.take_of_length_le (by omega);rw [e1,show d.length-k=0 by omega,List.replicate_zero,List.append_nil,e1]

theorem aB2 {d:List Int}(hd:d.Pairwise (· <= ·))(hl:d.length<=1000000):∃ c,kK d=some c/\Kept d c d.length:=by
 unfold kK;by_cases h2:d.length<2
 ·rw [decide_eq_true (by omega),cond_true];refine⟨d,rfl,?_,fun x=>by rw [List.take_length]⟩
  match d,h2 with
  | [],_=>exact List.Pairwise.nil
  | [x],_=>exact List.pairwise_singleton ..
  | _::_::_,h=>simp at h; omega
 ·rw [decide_eq_false (by omega),cond_false];unfold nK
  have key:=aAo (body:=fun s:List Int×Int=>iK s.1 s.2)
   (I:=fun s=>s.1=d /\ ∃ k:Nat,s.2=((k:Nat):Int)/\0<k/\k<=d.length/\(d.take k).Pairwise (· < ·)) (m:=fun s=>d.length+1-s.2.toNat)
   (Post:=fun r=>∃ c,Sum.elim (fun rr:List Int=>lG rr) (fun rr=>some rr) r=some c/\Kept d c d.length) ?_ (s:=(d,1)) ?_
  ·obtain⟨r,h3,c,h4,h5⟩:=key;rw [h3,Option.bind_some];exact⟨c,h4,h5⟩
  ·rintro ⟨s0,k3⟩ ⟨e1,k,e2,g1,g2,g3⟩;simp only at e1 e2;subst e1 e2;by_cases hlt:k<s0.length
   ·have w1:IntKind.i64.wrap (((k:Nat):Int)-1)=((k-1:Nat):Int):=by rw [cI (by omega) (by omega)]; omega
    have w2:IntKind.i64.wrap (((k:Nat):Int)+1)=((k+1:Nat):Int):=by rw [cI (by omega) (by omega)]; omega
    have c1:(0:Int)<=((k:Nat):Int)/\((k:Nat):Int)<((s0.length:Nat):Int):=⟨by omega,by omega⟩;have c2:(0:Int)<=((k-1:Nat):Int)/\((k-1:Nat):Int)<((s0.length:Nat):Int):=⟨by omega,by omega⟩;have hK:Kept s0 (s0.take k) k:=⟨g3,fun _=>Iff.rfl⟩;by_cases he:s0.getD k 0=s0.getD (k-1) 0
    ·right;obtain⟨r,h3,_,_,_,cc,m,h4,h5,h6,h7,h8⟩:=ZR hd hl g1 hlt (hK.same g1 hlt he) rfl;refine⟨.inr cc,?_,cc,rfl,h8⟩;have c3:(0:Int)<=((k:Nat):Int)/\((k:Nat):Int)<=((s0.length:Nat):Int):=⟨by omega,by omega⟩;simp only [iK,decide_eq_true c1.2,cond_true,aN c1,w1,aN c2,Int.toNat_natCast,uN,he,decide_true,aN c3,nL];rw [Int.toNat_natCast] at h3;rw [h3,Option.bind_some];unfold lF;rw [h4,aN (by omega),aN (by rw [clearL_len]; omega),aN (by rw [clearL_len,Int.toNat_natCast]; omega),Int.toNat_natCast,Nat.zero_add,aCu,h7]
    ·left;refine⟨(s0,((k+1:Nat):Int)),?_,⟨rfl,k+1,rfl,by omega,by omega,?_⟩,by simp only [Int.toNat_natCast]; omega⟩
     ·simp only [iK,nJ,decide_eq_true c1.2,cond_true,aN c1,w1,aN c2,Int.toNat_natCast,uN,decide_eq_false he,cond_false,w2]
     ·rw [KO hlt];exact (hK.more hd g1 hlt he).1
   ·right;have hk:k=s0.length:=by omega
    subst hk;refine⟨.inl s0,?_,s0,rfl,?_,fun x=>by rw [List.take_length]⟩
    ·simp only [iK,gK,cond_false]
    ·rwa [List.take_length] at g3
  ·refine⟨rfl,1,rfl,by omega,by omega,?_⟩
   match d,h2 with
   | x::r,_=>simp
   | [],h=>simp at h

theorem RL {l:List aK}:∀ {c:List Int},(∀ e∈l,mV e=true/\e.At<1125899906842624)->Inc (-1) c->Inc (-1) (l.foldl (fun c e=>gU e.At c) c)/\(∀ x,x∈l.foldl (fun c e=>gU e.At c) c↔x∈c ∨ ∃ e∈l,e.At=x):=by
 induction l with
 | nil=>intro c _ hi; exact ⟨hi,fun x=>by simp⟩
 | cons e l ih =>
  intro c he hi;have h1:=he e (by simp);have hr : -1<e.At:=by have:=h1.1; simp [mV] at this; omega
  obtain⟨i1,i2⟩:=ih (c:=gU e.At c) (fun q hq=>he q (by simp [hq])) (AX hi hr h1.2);refine⟨i1,fun x=>?_⟩;rw [List.foldl_cons,i2 x,LS];constructor
  ·rintro ((h | h) | ⟨q,h,h'⟩)
   ·exact .inr ⟨e,by simp,h.symm⟩
   ·exact .inl h
   ·exact .inr ⟨q,by simp [h],h'⟩
  ·rintro (h | ⟨q,h,h'⟩)
   ·exact .inl (.inr h)
   ·rcases List.mem_cons.1 h with rfl | h
    ·exact .inl (.inl h'.symm)
    ·exact .inr ⟨q,h,h'⟩

theorem NZ {l:List aK}(h:∀ e∈l,e.At<1125899906842624):Inc (-1) (cX l) :=
 (RL (c:=[]) (fun e he=>by have:=List.mem_filter.1 he; exact ⟨this.2,h e this.1⟩) trivial).1

theorem aAT {l:List aK}(h:∀ e∈l,e.At<1125899906842624){x:Int}:x∈cX l ↔ ∃ e∈l,mV e=true/\e.At=x:=by
 unfold cX;rw [(RL (c:=[]) (fun e he=>by have:=List.mem_filter.1 he; exact ⟨this.2,h e this.1⟩) trivial).2 x];constructor
 ·rintro (h1 | ⟨e,h1,h2⟩)
  ·simp at h1
  ·have:=List.mem_filter.1 h1; exact ⟨e,this.1,this.2,h2⟩
 ·rintro ⟨e,h1,h2,h3⟩;exact .inr ⟨e,List.mem_filter.2 ⟨h1,h2⟩,h3⟩

theorem aDb {l:List aK}:∀ {c:List Int},l.foldl (fun c e=>c++[e.At]) c=c++l.map (·.At):=by
 induction l with
 | nil=>intro c; simp
 | cons e l ih=>intro c; rw [List.foldl_cons,ih]; simp

theorem GM {l:List aK}(hn:l.length<=4096)(hat:∀ e∈l,e.At<1125899906842624):pS l=some (cX l):=by
 unfold pS qU;rw [Option.bind_some];unfold uW;rw [RM (by omega) (fun s e=>s++[e.At]) (fun s r=>s.length+r.length<=1000000) (fun s e r hI=>⟨fun _=>⟨?_,?_⟩,fun _=>?_⟩) (by simp; omega),Option.bind_some,Sum.elim_inl,aDb,List.nil_append]
 ·have hfl:=List.length_filter_le mV l;obtain⟨d',h1,h2,h3⟩:=aBw (d:=(l.filter mV).map (·.At)) (by simp; omega);have hdl:d'.length<=4096:=by rw [h2.length_eq,List.length_map]; omega
  obtain⟨c,h4,h5⟩:=aB2 h3 (by omega);rw [h1,Option.bind_some,h4,Option.bind_some]
  congr 1
  refine VX h5.1 (IL (NZ hat)) fun x=>?_;rw [h5.2 x,List.take_length,h2.mem_iff,aAT hat,List.mem_map];constructor
  ·rintro ⟨e,q1,q2⟩;have:=List.mem_filter.1 q1; exact ⟨e,this.1,this.2,q2⟩
  ·rintro ⟨e,q1,q2,q3⟩;exact⟨e,List.mem_filter.2 ⟨q1,q2⟩,q3⟩
 ·simp only [List.length_cons] at hI;unfold qZ;rw [aN (by simp only [List.length_cons,List.length_nil]; omega)]
 ·simp only [List.length_cons,List.length_append,List.length_nil] at hI ⊢; omega
 ·simp only [List.length_cons] at hI; omega

theorem aAS (l:List aK):(cX l).length<=l.length:=by
 have key:∀ (l:List aK) (c:List Int),(l.foldl (fun c e=>gU e.At c) c).length<=c.length+l.length:=by
  intro l
  induction l with
  | nil=>intro c; simp
  | cons e l ih=>intro c; rw [List.foldl_cons]; have:=ih (gU e.At c); have:=HD (t:=e.At) (ps:=c); simp only [List.length_cons]; omega
 have h1:=key (l.filter mV) [];have h2:=List.length_filter_le mV l;simp only [List.length_nil] at h1;unfold cX; omega

end Go.Abs
namespace Go.Abs
open Go
theorem aEv {a:List Int}{t:Int}{m:Nat}(h1:∀ x∈a.take m,x<t)(h2:∀ x∈a.drop m,t<=x):(a.filter fun x=>decide (x<t))=a.take m/\(a.filter fun x=>decide (t<=x))=a.drop m:=by
 have e:a=a.take m++a.drop m:=(List.take_append_drop m a).symm;have e1:(a.take m).filter (fun x=>decide (x<t))=a.take m:=List.filter_eq_self.2 fun x hx=>by simpa using h1 x hx
 have e2:(a.drop m).filter (fun x=>decide (x<t))=[]:=List.filter_eq_nil_iff.2 fun x hx=>by have:=h2 x hx; simp; omega
 have e3:(a.take m).filter (fun x=>decide (t<=x))=[]:=List.filter_eq_nil_iff.2 fun x hx=>by have:=h1 x hx; simp; omega
 have e4:(a.drop m).filter (fun x=>decide (t<=x))=a.drop m:=List.filter_eq_self.2 fun x hx=>by simpa using h2 x hx
 constructor
 ·conv=>lhs; rw [e]
  rw [List.filter_append,e1,e2,List.append_nil]
 ·conv=>lhs; rw [e]
  rw [List.filter_append,e3,e4,List.nil_append]

theorem aBN (x y:Int):dH x y=some (decide (x<y)):=by simp [dH,lK,cW]

theorem aG0 {a:List Int}(hd:a.Pairwise (· <= ·))(hl:a.length<=1000000)(t:Int):∃ (m:Nat) (b:Bool),fR a t=some (((m:Nat):Int),b)/\m<=a.length/\(a.filter fun x=>decide (x<t))=a.take m/\(a.filter fun x=>decide (t<=x))=a.drop m:=by
 unfold fR lH
 have key:=aAo (body:=fun s:Int×Int=>fI a t ((a.length:Nat):Int) s.1 s.2)
  (I:=fun s=>∃ i j:Nat,s.1=((i:Nat):Int)/\s.2=((j:Nat):Int)/\i<=j/\j<=a.length/\(∀ k,k<i->a.getD k 0<t) /\ ∀ k,j<=k->k<a.length->t<=a.getD k 0)
  (m:=fun s=>s.2.toNat-s.1.toNat) (Post:=fun r=>∃ m:Nat,r=((m:Nat):Int)/\m<=a.length/\(∀ k,k<m->a.getD k 0<t) /\ ∀ k,m<=k->k<a.length->t<=a.getD k 0) ?_ (s:=(0,((a.length:Nat):Int))) ?_
 ·obtain⟨r,h1,m,rfl,h2,h3,h4⟩:=key;rw [h1,Option.bind_some]
  have hs:=aEv (a:=a) (t:=t) (m:=m) (fun x hx=>by
   obtain⟨k,hk⟩:=List.getElem?_of_mem hx;rw [List.getElem?_take] at hk;split at hk
   ·rename_i hlt
    have:=h3 k hlt
    rwa [List.getD_eq_getElem?_getD,hk] at this
   ·cases hk) (fun x hx=>by
   obtain⟨k,hk⟩:=List.getElem?_of_mem hx;rw [List.getElem?_drop] at hk;have hlt:=(List.getElem?_eq_some_iff.1 hk).1;have:=h4 (m+k) (by omega) hlt
   rwa [List.getD_eq_getElem?_getD,hk] at this)
  unfold jI
  have c1:∀ b:Bool,(b&&decide (((m:Nat):Int)<((a.length:Nat):Int)))=true->(0:Int)<=((m:Nat):Int)/\((m:Nat):Int)<((a.length:Nat):Int):=fun b hb=>by
   simp only [Bool.and_eq_true,decide_eq_true_eq] at hb; omega
  rw [aN (fun hb=>by have:=of_decide_eq_true hb; omega),aN (c1 _)];simp only [pP,cW]
  cases (!decide (a.getD (Int.toNat ((m:Nat):Int)) default=t)&&decide (((m:Nat):Int)<((a.length:Nat):Int))) <;> simp only [cond_true,cond_false,Option.bind_some,Bool.and_true,Bool.and_false,decide_true,Bool.not_true]
  ·exact⟨m,_,rfl,h2,hs.1,hs.2⟩
  ·exact⟨m,_,rfl,h2,hs.1,hs.2⟩
 ·rintro ⟨x,y⟩ ⟨i,j,e1,e2,g1,g2,g3,g4⟩;simp only at e1 e2;subst e1 e2;by_cases hij:i<j
  ·left
   have hm:IntKind.i64.wrap (Int.fdiv (IntKind.u64.wrap (IntKind.i64.wrap (((i:Nat):Int)+((j:Nat):Int)))) (2 ^ (min (Int.toNat (1:Int)) 64)))=(((i+j) / 2:Nat):Int):=by
    rw [←Int.natCast_add]; exact half (by omega)
   have c1:(0:Int)<=(((i+j) / 2:Nat):Int)/\(((i+j) / 2:Nat):Int)<((a.length:Nat):Int):=⟨by omega,by omega⟩;have w1:IntKind.i64.wrap ((((i+j) / 2:Nat):Int)+1)=(((i+j) / 2+1:Nat):Int):=by rw [cI (by omega) (by omega)]; omega
   by_cases hc:a.getD ((i+j) / 2) 0<t
   ·refine⟨((((i+j) / 2+1:Nat):Int),((j:Nat):Int)),?_,⟨(i+j) / 2+1,j,rfl,rfl,by omega,g2,fun k hk=>?_,g4⟩,by simp only [Int.toNat_natCast]; omega⟩
    ·simp only [fI,decide_eq_true (show ((i:Nat):Int)<((j:Nat):Int) by omega),cond_true,aN (show (0:Int)<=1 by decide),hm,aN c1,Int.toNat_natCast,uN,aBN,Option.bind_some,w1];rw [decide_eq_true hc,cond_true]
    ·have:=SS hd (i:=k) (j:=(i+j) / 2) (by omega) (by omega); omega
   ·refine⟨(((i:Nat):Int),(((i+j) / 2:Nat):Int)),?_,⟨i,(i+j) / 2,rfl,rfl,by omega,by omega,g3,fun k hk hkl=>?_⟩,by simp only [Int.toNat_natCast]; omega⟩
    ·simp only [fI,decide_eq_true (show ((i:Nat):Int)<((j:Nat):Int) by omega),cond_true,aN (show (0:Int)<=1 by decide),hm,aN c1,Int.toNat_natCast,uN,aBN,Option.bind_some,w1];rw [decide_eq_false hc,cond_false]
    ·have:=SS hd (i:=(i+j) / 2) (j:=k) (by omega) hkl; omega
  ·right;refine⟨((i:Nat):Int),?_,i,rfl,by omega,g3,fun k hk hkl=>g4 k (by omega) hkl⟩;simp only [fI,decide_eq_false (show ¬ ((i:Nat):Int)<((j:Nat):Int) by omega),cond_false]
 ·exact⟨0,a.length,rfl,rfl,by omega,Nat.le_refl _,fun k hk=>by omega,fun k h1 h2=>by omega⟩

def nE (l:List aK)(n:Int):Int:=if !jZ l||decide (n<1)||decide (64<n) then 2 else if !kS l then 20 else 0

theorem LB {l:List aK}(hl:okL l)(n:Int):uI l n=some (nE l n):=by
 unfold uI nE;rw [IE hl,Option.bind_some]
 cases (!jZ l||decide (n<1)||decide (64<n)) with
 | true=>rfl
 | false =>
  rw [cond_false,HB hl,Option.bind_some]
  cases kS l <;> rfl

theorem NX {l:List aK}(hl:okL l)(n:Int):sH l n=some (nE l n):=by
 unfold sH nE;rw [IM hl,Option.bind_some]
 cases (!jZ l||decide (n<1)||decide (64<n)) with
 | true=>rfl
 | false =>
  rw [cond_false,MO hl,Option.bind_some]
  cases kS l <;> rfl

theorem GP {l:List aK}{n:Int}(h:nE l n=0):jZ l=true/\kS l=true/\1<=n/\n<=64:=by
 unfold nE at h
 cases hm:jZ l with
 | false=>simp [hm] at h
 | true =>
  cases ht:kS l with
  | false=>rw [hm,ht] at h; split at h <;> simp at h
  | true =>
   rw [hm,ht] at h;split at h
   ·simp at h
   ·rename_i c; simp at c; exact ⟨rfl,rfl,by omega,by omega⟩

theorem aC4 {l:List aK}{n:Int}(hm:jZ l=true)(ht:kS l=true)(h1:1<=n)(h2:n<=64):nE l n=0:=by
 unfold nE;have e1:decide (n<1)=false:=by simp; omega
 have e2:decide (64<n)=false:=by simp; omega
 rw [hm,ht,e1,e2]; rfl

theorem QE {l:List aK}(hm:jZ l=true):∀ e∈l,e.At<1125899906842624:=fun e he=>(uP hm he).2.2.1

def MX (l:List aK):List Int×Int:=if nE l 1≠0 then ([],nE l 1) else (cX l,0)

theorem ZT {l:List aK}(hl:l.length<=1000000)(hat:∀ e∈l,e.At<1125899906842624):lp (fun s:List Int×Int=>mO l s.1 s.2) ([],0)=some (cX l):=by
 refine oU (l:=l) (body:=fun s:List Int×Int=>mO l s.1 s.2) (fun (s:List Int) i=>(s,i)) (fun s r=>(r.filter mV).foldl (fun c e=>gU e.At c) s) (fun s r=>Inc (-1) s/\s.length+r.length<=1000001 /\ ∀ e∈r,e.At<1125899906842624) [] ?_ ?_ ⟨trivial,by simp; omega,hat⟩
 ·rintro i a r s ha ⟨hi,hs,hr⟩;left;obtain⟨d1,d2,d3,d4⟩:=idx ha (by omega);simp only [List.length_cons] at hs;have ha1:=hr a (by simp);have hr':∀ e∈r,e.At<1125899906842624:=fun e he=>hr e (by simp [he])
  have ec:(decide (0<a.Net)&&decide (0<=a.At))=mV a:=by
   unfold mV
   congr 1
  cases h:mV a with
  | true =>
   have h0 : -1<a.At:=by simp [mV] at h; omega
   refine⟨gU a.At s,?_,⟨AX hi h0 ha1,by have:=HD (t:=a.At) (ps:=s); omega,hr'⟩,by simp [h]⟩;simp only [mO,pX,d1,cond_true,aN d2,d3,d4];rw [aN (fun _=>d2),ec,h,cond_true,aFo hi (by omega)]; rfl
  | false =>
   refine⟨s,?_,⟨hi,by omega,hr'⟩,by simp [h]⟩;simp only [mO,pX,d1,cond_true,aN d2,d3,d4];rw [aN (fun _=>d2),ec,h,cond_false]
 ·rintro s _;simp only [mO,gK,cond_false]; rfl

theorem WM {l:List aK}(hl:okL l):uC l=some (MX l):=by
 unfold uC MX;rw [NX hl,Option.bind_some];by_cases h:nE l 1=0
 ·obtain⟨hm,_⟩:=GP h;rw [decide_eq_true h,Bool.not_true,cond_false,if_neg (by simpa using h)];unfold wZ;rw [ZT (by have:=(oA hm).1; omega) (QE hm)]; rfl
 ·rw [decide_eq_false h,Bool.not_false,cond_true,if_pos h]

def iX (a:List Int)(t:Int):Nat:=(a.filter fun x=>decide (x<t)).length

def firstM (a:List Int)(n t:Int):Nat:=((iX a t:Int)-n+1).toNat

def HC (a:List Int)(n t:Int):Int:=if firstM a n t=iX a t then t else a.getD (firstM a n t) 0

def DC (l:List aK)(n t:Int):Int×Int :=
 if nE l n≠0 then (0,nE l n) else if t<0∨1125899906842624<t then (0,13) else if t=1125899906842624 then (t,0) else (HC (cX l) n t,0)

theorem GA (a:List Int)(t:Int):iX a t<=a.length:=List.length_filter_le ..

theorem XA {a:List Int}(hd:a.Pairwise (· <= ·))(hl:a.length<=1000000)(t:Int):(∃ b:Bool,fR a t=some (((iX a t:Nat):Int),b))/\(a.filter fun x=>decide (x<t))=a.take (iX a t)/\(a.filter fun x=>decide (t<=x))=a.drop (iX a t):=by
 obtain⟨m,b,h1,h2,h3,h4⟩:=aG0 hd hl t;have hm:iX a t=m:=by unfold iX; rw [h3,List.length_take]; omega
 rw [hm]; exact ⟨⟨b,h1⟩,h3,h4⟩

theorem BJ {l:List aK}(hm:jZ l=true):(cX l).Pairwise (· < ·)/\(cX l).Pairwise (· <= ·)/\(cX l).length<=4096 /\ ∀ x∈cX l,0<=x/\x<1125899906842624:=by
 have hi:=NZ (QE hm);refine⟨IL hi,TS hi,by have:=aAS l; have:=(oA hm).1; omega,fun x hx=>by have:=hi.above x hx; omega⟩

theorem WR {l:List aK}(hl:okL l)(n t:Int):wG l n t=some (DC l n t):=by
 unfold wG DC;rw [LB hl,Option.bind_some];by_cases h:nE l n=0
 ·obtain⟨hm,_,n1,n2⟩:=GP h;obtain⟨f1,f2,f3,f4⟩:=BJ hm;rw [decide_eq_true h,Bool.not_true,cond_false,if_neg (by simpa using h)];by_cases h1:t<0∨1125899906842624<t
  ·have : (decide (t<0)||decide (1125899906842624<t))=true:=by simpa using h1
   rw [this,cond_true,if_pos h1]
  ·have : (decide (t<0)||decide (1125899906842624<t))=false:=by simpa using h1
   rw [this,cond_false,if_neg h1];by_cases h2:t=1125899906842624
   ·rw [decide_eq_true h2,cond_true,if_pos h2]
   ·rw [decide_eq_false h2,cond_false,if_neg h2,GM (oA hm).1 (QE hm),Option.bind_some];obtain⟨⟨b,hb⟩,hs1,hs2⟩:=XA f2 (by omega) t;have hle:=GA (cX l) t;rw [hb,Option.bind_some]
    have w1:IntKind.i64.wrap (IntKind.i64.wrap (((iX (cX l) t:Nat):Int)-n)+1)=((iX (cX l) t:Nat):Int)-n+1:=by
     rw [cI (n:=((iX (cX l) t:Nat):Int)-n) (by omega) (by omega),cI (by omega) (by omega)]
    have e1:(if IntKind.i64.wrap (IntKind.i64.wrap (((iX (cX l) t:Nat):Int)-n)+1)>0 then IntKind.i64.wrap (IntKind.i64.wrap (((iX (cX l) t:Nat):Int)-n)+1) else 0)=((firstM (cX l) n t:Nat):Int):=by
     rw [w1]; unfold firstM;split <;> omega
    simp only [e1];unfold HC;by_cases hf:firstM (cX l) n t=iX (cX l) t
    ·rw [decide_eq_true (by omega),cond_true,if_pos hf]
    ·have hlt:firstM (cX l) n t<iX (cX l) t:=by unfold firstM at hf ⊢; omega
     rw [decide_eq_false (by omega),cond_false,if_neg hf,aN (by omega),Int.toNat_natCast]; rfl
 ·rw [decide_eq_false h,Bool.not_false,cond_true,if_pos h]

theorem aBP {a:List Int}(hl:a.length<=1000000)(n t:Int):lp (fun s:List Int×Int=>oH n t a s.1 s.2) ([],0)=some (a.filter fun x=>decide (x<t)):=by
 have:=oU (l:=a) (body:=fun s:List Int×Int=>oH n t a s.1 s.2) (fun (s:List Int) i=>(s,i)) (fun s r=>s++r.filter fun x=>decide (x<t)) (fun s r=>s.length+r.length<=1000000) [] ?_ ?_ (by simp; omega)
 ·rw [this]; simp
 ·intro i x r s ha hs;left;obtain⟨d1,d2,d3,d4⟩:=idx ha (by omega);simp only [List.length_cons] at hs;by_cases h:x<t
  ·refine⟨s++[x],?_,by simp only [List.length_append,List.length_cons,List.length_nil]; omega,by simp [h]⟩;simp only [oH,rY,d1,cond_true,aN d2,d3,d4,h,decide_true];rw [aN (by simp only [List.length_cons,List.length_nil]; omega)]
  ·refine⟨s,?_,by omega,by simp [h]⟩;simp only [oH,rY,d1,cond_true,aN d2,d3,d4,h,decide_false,cond_false]
 ·intro s _;simp only [oH,gK,cond_false]; simp

theorem aCs {l:List aK}(hl:okL l)(n t:Int):xQ l n t=some (DC l n t):=by
 unfold xQ DC;rw [NX hl,Option.bind_some];by_cases h:nE l n=0
 ·obtain⟨hm,ht,n1,n2⟩:=GP h;obtain⟨f1,f2,f3,f4⟩:=BJ hm;rw [decide_eq_true h,Bool.not_true,cond_false,if_neg (by simpa using h)];simp only [pK,Option.bind_some];by_cases h1:t<0∨1125899906842624<t
  ·have : (!(decide (0<=t)&&decide (t<=1125899906842624)))=true:=by
    simp only [Bool.not_eq_true',Bool.and_eq_false_iff,decide_eq_false_iff_not]; omega
   rw [this,cond_true,if_pos h1]
  ·have : (!(decide (0<=t)&&decide (t<=1125899906842624)))=false:=by
    simp only [Bool.not_eq_false',Bool.and_eq_true,decide_eq_true_eq]; omega
   rw [this,cond_false,if_neg h1,WM hl,Option.bind_some]
   have hse:(MX l).1=cX l:=by
    unfold MX;rw [aC4 hm ht (by omega) (by omega)]; rfl
   rw [hse];unfold AJ;rw [aBP (by omega),Option.bind_some];have hlen:(List.filter (fun x=>decide (x<t)) (cX l)).length=iX (cX l) t:=rfl;obtain⟨_,hs1,_⟩:=XA f2 (by omega) t;have hle:=GA (cX l) t
   have hat:∀ i:Nat,i<iX (cX l) t->(List.filter (fun x=>decide (x<t)) (cX l)).getD i default=(cX l).getD i 0:=by
    intro i hi;rw [hs1,List.getD_eq_getElem?_getD,List.getD_eq_getElem?_getD,List.getElem?_take,if_pos hi]; rfl
   unfold wC;rw [hlen];by_cases h2:t=1125899906842624
   ·rw [decide_eq_true h2,if_pos h2]; rfl
   ·rw [decide_eq_false h2,if_neg h2,Bool.false_or];unfold HC;by_cases h3:iX (cX l) t=0
    ·rw [decide_eq_true (by omega),Bool.true_or,cond_true,if_pos (by unfold firstM; omega)]
    ·rw [decide_eq_false (by omega),Bool.false_or];by_cases h4:n=1
     ·rw [decide_eq_true h4,cond_true,if_pos (by unfold firstM; omega)]
     ·have w1:IntKind.i64.wrap (n-1)=n-1:=cI (by omega) (by omega);rw [decide_eq_false h4,cond_false,w1,if_neg (by unfold firstM; omega)];by_cases h5:n-1<=((iX (cX l) t:Nat):Int)
      ·have w2:IntKind.i64.wrap (((iX (cX l) t:Nat):Int)-(n-1))=((firstM (cX l) n t:Nat):Int):=by
        rw [cI (by omega) (by omega)]; unfold firstM; omega
       have hlt:firstM (cX l) n t<iX (cX l) t:=by unfold firstM; omega
       rw [decide_eq_true h5,cond_true,w2,aN (by omega),Int.toNat_natCast,hat _ hlt]
      ·have h6:firstM (cX l) n t=0:=by unfold firstM; omega
       rw [decide_eq_false h5,cond_false,aN (by omega),h6];have:=hat 0 (by omega);rw [show Int.toNat (0:Int)=0 from rfl,this]
 ·rw [decide_eq_false h,Bool.not_false,cond_true,if_pos h]

end Go.Abs
namespace Go.Abs
open Go
theorem aCd (a b:List aG)(hl:a.length<=17592186044416):gC a b=some (decide (a=b)):=by
 have:=JR a b hl;unfold sR at this
 simpa using this

def inW (a b:Int)(j:aI):Bool:=decide (0<j.Net)&&(decide (a<=j.At)&&decide (j.At<b))

def qB (a b:Int)(f:List aI):Int:=((f.filter (inW a b)).map aI.Net).sum

def MY (a b:Int)(gs:List (List aG×List aI)):List bK:=gs.filterMap fun g=>if 0<qB a b g.2 then some ⟨g.1,qB a b g.2⟩ else none

def nI (rs:List bK):bK:=rs.getD (rs.length-1) default

def DS (rs:List bK)(e:aK):List bK:=if 0<rs.length/\(nI rs).Row=e.Row then rs.set (rs.length-1) ⟨(nI rs).Row,(nI rs).N+e.Net⟩ else rs++[⟨e.Row,e.Net⟩]

def FF (p:aP)(e:aK):aP:=if e.At<p.Span.From∨p.Span.To<=e.At then p else ⟨p.Span,DS p.Rows e⟩

def rR (a b:Int)(rs:List bK)(e:aK):List bK:=if inW a b (jE e) then DS rs e else rs

theorem AY (a b:Int)(j:aI)(f:List aI):qB a b (j::f)=(if inW a b j then j.Net else 0)+qB a b f:=by
 unfold qB;by_cases h:inW a b j <;> simp [h]

theorem NN (a b:Int):∀ f:List aI,0<=qB a b f/\(qB a b f=0↔f.filter (inW a b)=[])
 | []=>by simp [qB]
 | j::f=>by
  obtain⟨h1,h2⟩:=NN a b f;rw [AY];by_cases h:inW a b j
  ·have : 0<j.Net:=by simp [inW] at h; omega
   rw [if_pos h];refine⟨by omega,?_⟩;constructor
   ·intro e; omega
   ·intro e; simp [h] at e
  ·rw [if_neg h,Int.zero_add];refine⟨h1,?_⟩;rw [h2]; simp [h]

theorem aBR (a b:Int)(g:List aG×List aI)(gs:List (List aG×List aI)):MY a b (g::gs)=(if 0<qB a b g.2 then [⟨g.1,qB a b g.2⟩] else [])++MY a b gs:=by
 unfold MY;rw [List.filterMap_cons];by_cases h:0<qB a b g.2 <;> simp [h]

theorem aCa (R:List bK)(c:bK):nI (R++[c])=c:=by
 unfold nI;simp [List.getD_eq_getElem?_getD]

theorem aD3 (R:List bK)(c d:bK):(R++[c]).set ((R++[c]).length-1) d=R++[d]:=by
 simp [List.set_append_right]

theorem TF (a b:Int)(r:List aG):∀ (f:List aI) (R:List bK) (v:Int),(qN r f).foldl (rR a b) (R++[⟨r,v⟩])=R++[⟨r,v+qB a b f⟩]
 | [],R,v=>by simp [qN,qB]
 | j::f,R,v=>by
  have e:qN r (j::f)=⟨r,j.At,j.Net⟩::qN r f:=rfl;rw [e,List.foldl_cons,AY];have ej:jE ⟨r,j.At,j.Net⟩=j:=rfl;by_cases h:inW a b j
  ·have e1:rR a b (R++[⟨r,v⟩]) ⟨r,j.At,j.Net⟩=R++[⟨r,v+j.Net⟩]:=by
    unfold rR DS;rw [ej,if_pos h,aCa,if_pos ⟨by simp,rfl⟩,aD3]
   rw [e1,TF a b r f,if_pos h,Int.add_assoc]
  ·have e1:rR a b (R++[⟨r,v⟩]) ⟨r,j.At,j.Net⟩=R++[⟨r,v⟩]:=by
    unfold rR;rw [ej,if_neg h]
   rw [e1,TF a b r f,if_neg h,Int.zero_add]

theorem KM {rs:List bK}(h:0<rs.length):nI rs∈rs:=by
 unfold nI;rw [List.getD_eq_getElem?_getD,List.getElem?_eq_getElem (by omega)];exact List.getElem_mem _

theorem ZB (a b:Int)(r:List aG):∀ (f:List aI) (rs:List bK),(∀ c∈rs,c.Row≠r)->(qN r f).foldl (rR a b) rs=rs++(if 0<qB a b f then [⟨r,qB a b f⟩] else [])
 | [],rs,_=>by simp [qN,qB]
 | j::f,rs,hr=>by
  have e:qN r (j::f)=⟨r,j.At,j.Net⟩::qN r f:=rfl;have ej:jE ⟨r,j.At,j.Net⟩=j:=rfl;rw [e,List.foldl_cons,AY];have hg:=(NN a b f).1;by_cases h:inW a b j
  ·have hj:0<j.Net:=by simp [inW] at h; omega
   have e1:rR a b rs ⟨r,j.At,j.Net⟩=rs++[⟨r,j.Net⟩]:=by
    unfold rR DS;rw [ej,if_pos h,if_neg fun hc=>hr _ (KM hc.1) hc.2]
   rw [e1,TF,if_pos h,if_pos (by omega)]
  ·have e1:rR a b rs ⟨r,j.At,j.Net⟩=rs:=by
    unfold rR;rw [ej,if_neg h]
   rw [e1,ZB a b r f rs hr,if_neg h,Int.zero_add]

theorem NS (a b:Int):∀ {gs:List (List aG×List aI)} {rs:List bK},EY gs->(∀ c∈rs,∀ g∈gs,c.Row≠g.1)->(flat gs).foldl (rR a b) rs=rs++MY a b gs
 | [],rs,_,_=>by simp [flat,MY]
 | g::gs,rs,hs,hr=>by
  obtain⟨h1,h2⟩:=List.pairwise_cons.1 hs;rw [VA,List.foldl_append,ZB a b g.1 g.2 rs fun c hc=>hr c hc g (by simp),NS a b h2 fun c hc q hq=>?_,aBR,List.append_assoc];rcases List.mem_append.1 hc with hc | hc
  ·exact hr c hc q (by simp [hq])
  ·split at hc
   ·simp at hc; subst hc;intro e;have : jD g.1 q.1<0:=h1 q hq;simp only at e;rw [e] at this;exact CM this
   ·simp at hc

theorem TJ {a b:Int}{e:aK}:inW a b (jE e)=true↔0<e.Net/\a<=e.At/\e.At<b:=by
 unfold inW jE;simp only [Bool.and_eq_true,decide_eq_true_eq]

theorem JD {a b:Int}(ha:0<=a):∀ (l:List aK) (rs:List bK),(l.filter mV).foldl FF ⟨⟨a,b⟩,rs⟩=⟨⟨a,b⟩,l.foldl (rR a b) rs⟩
 | [],rs=>rfl
 | e::l,rs=>by
  cases h:mV e with
  | true =>
   have hp:0<e.Net /\ -1<e.At:=by simpa [mV] using h
   simp only [List.filter_cons,h,if_true,List.foldl_cons];by_cases hw:e.At<a∨b<=e.At
   ·have e1:FF ⟨⟨a,b⟩,rs⟩ e=⟨⟨a,b⟩,rs⟩:=by unfold FF; rw [if_pos hw]
    have e2:rR a b rs e=rs:=by
     unfold rR
     have : inW a b (jE e)=false:=by
      cases hq:inW a b (jE e) with
      | false=>rfl
      | true=>have:=TJ.1 hq; omega
     rw [this]; rfl
    rw [e1,e2,JD ha l rs]
   ·have e1:FF ⟨⟨a,b⟩,rs⟩ e=⟨⟨a,b⟩,DS rs e⟩:=by unfold FF; rw [if_neg hw]
    have e2:rR a b rs e=DS rs e:=by
     unfold rR;have : inW a b (jE e)=true:=TJ.2 ⟨hp.1,by omega,by omega⟩;rw [this]; rfl
    rw [e1,e2,JD ha l (DS rs e)]
  | false =>
   have hp:¬ (0<e.Net /\ -1<e.At):=by simpa [mV] using h
   have e2:rR a b rs e=rs:=by
    unfold rR
    have : inW a b (jE e)=false:=by
     cases hq:inW a b (jE e) with
     | false=>rfl
     | true=>have:=TJ.1 hq; omega
    rw [this]; rfl
   simp only [List.filter_cons,h,Bool.false_eq_true,if_false,List.foldl_cons,e2];exact JD ha l rs

def aCp (l:List aK)(run:List Int):aP:=⟨⟨run.getD 0 0,run.getD (run.length-1) 0+1⟩,MY (run.getD 0 0) (run.getD (run.length-1) 0+1) (groups l)⟩

def UA (rs:List bK)(r:List aK):Prop:=rs.length+r.length<=1000000/\(∀ c∈rs,c.Row.length<=17592186044416/\0<=c.N/\c.N+1048576*r.length<=4503599627370496) /\ ∀ e∈r,e.Row.length<=4398046510976/\e.Net<=1048576

theorem UU {rs:List bK}{e:aK}{r:List aK}(h:UA rs (e::r)):UA rs r:=by
 obtain⟨h1,h2,h3⟩:=h;simp only [List.length_cons] at h1 h2;exact⟨by omega,fun c hc=>by have:=h2 c hc; omega,fun q hq=>h3 q (by simp [hq])⟩

theorem aEL {rs:List bK}{e:aK}{r:List aK}(h:UA rs (e::r))(hn:0<e.Net):UA (DS rs e) r:=by
 obtain⟨h1,h2,h3⟩:=h;have he:=h3 e (by simp);simp only [List.length_cons] at h1 h2;unfold DS;split
 ·rename_i hc
  have hm:=h2 _ (KM hc.1);refine⟨by rw [List.length_set]; omega,fun c hcm=>?_,fun q hq=>h3 q (by simp [hq])⟩;rcases List.mem_or_eq_of_mem_set hcm with hcm | rfl
  ·have:=h2 c hcm; omega
  ·refine⟨hm.1,?_⟩; simp only; omega
 ·refine⟨by simp only [List.length_append,List.length_cons,List.length_nil]; omega,fun c hcm=>?_,fun q hq=>h3 q (by simp [hq])⟩;rcases List.mem_append.1 hcm with hcm | hcm
  ·have:=h2 c hcm; omega
  ·simp at hcm; subst hcm; simp only; omega

theorem aCA {l:List aK}{t p:aP}{e:aK}{r:List aK}(h:UA p.Rows (e::r))(hr:mV e=true):oT l t p e=some (.inl (t,FF p e)):=by
 obtain⟨h1,h2,h3⟩:=h;have he:=h3 e (by simp);have hn:0<e.Net:=by simp [mV] at hr; omega
 simp only [List.length_cons] at h1 h2;unfold oT FF;by_cases hw:e.At<p.Span.From∨p.Span.To<=e.At
 ·have : (decide (e.At<p.Span.From)||decide (p.Span.To<=e.At))=true:=by simpa using hw
  rw [this,cond_true,if_pos hw]
 ·have : (decide (e.At<p.Span.From)||decide (p.Span.To<=e.At))=false:=by simpa using hw
  rw [this,cond_false,if_neg hw];have w1:IntKind.i64.wrap (((p.Rows.length:Nat):Int)-1)=((p.Rows.length:Nat):Int)-1:=cI (by omega) (by omega);rw [w1];by_cases h0:0<p.Rows.length
  ·have c1:(0:Int)<=((p.Rows.length:Nat):Int)-1/\((p.Rows.length:Nat):Int)-1<((p.Rows.length:Nat):Int):=⟨by omega,by omega⟩;have e1:Int.toNat (((p.Rows.length:Nat):Int)-1)=p.Rows.length-1:=by omega
   have e2:p.Rows.getD (p.Rows.length-1) default=nI p.Rows:=rfl;have hm:=h2 _ (KM h0);rw [aN (fun _=>c1),decide_eq_true c1.1];simp only [cW,cond_true,e1,e2,aCd _ e.Row hm.1,Option.bind_some,Bool.true_and];by_cases hq:(nI p.Rows).Row=e.Row
   ·rw [decide_eq_true hq,cond_true,aN c1,aN c1];unfold DS;rw [if_pos ⟨h0,hq⟩,cI (by omega) (by omega)]
   ·rw [decide_eq_false hq,cond_false,HS he.1,Option.bind_some,aN (by simp only [List.length_cons,List.length_nil]; omega)];unfold DS;rw [if_neg fun hc=>hq hc.2]
  ·have c0:decide ((0:Int)<=((p.Rows.length:Nat):Int)-1)=false:=by rw [decide_eq_false_iff_not]; omega
   rw [aN (fun hc=>by rw [c0] at hc; cases hc),c0];simp only [cW,cond_false,Option.bind_some,Bool.false_and];rw [HS he.1,Option.bind_some,aN (by simp only [List.length_cons,List.length_nil]; omega)];unfold DS;rw [if_neg fun hc=>h0 hc.1]

theorem RE {l:List aK}(hl:okL l)(hm:jZ l=true){run:List Int}(h0:0<run.length)(h1:run.length<=1000000)(hr:∀ x∈run,0<=x/\x<1125899906842624):sM l run=some (aCp l run):=by
 unfold sM qU uY;have w1:IntKind.i64.wrap (((run.length:Nat):Int)-1)=((run.length:Nat):Int)-1:=cI (by omega) (by omega);have e1:Int.toNat (((run.length:Nat):Int)-1)=run.length-1:=by omega
 have hg:∀ i,i<run.length->0<=run.getD i 0/\run.getD i 0<1125899906842624:=fun i hi=>by
  rw [List.getD_eq_getElem?_getD,List.getElem?_eq_getElem hi]; exact hr _ (List.getElem_mem _)
 have ha:=hg 0 h0;have hb:=hg (run.length-1) (by omega);rw [aN (by omega),w1,aN (by omega),Option.bind_some,e1,uN,uN,show Int.toNat (0:Int)=0 from rfl,cI (by omega) (by omega)];have hn:=(oA hm).1
 rw [RM (by omega) (fun (s:aP×aP) e=>(s.1,FF s.2 e)) (fun s r=>UA s.2.Rows r) (fun s e r hI=>⟨fun hrise=>⟨aCA hI hrise,?_⟩,fun _=>UU hI⟩)
  ⟨by simp; omega,by simp,fun e he=>⟨hl.2 e he,(uP hm he).2.2.2.2.1⟩⟩,Option.bind_some,Sum.elim_inl]
 ·have key:∀ (es:List aK) (s:aP×aP),(es.foldl (fun (s:aP×aP) e=>(s.1,FF s.2 e)) s).2=es.foldl FF s.2:=by
   intro es
   induction es with
   | nil=>intro s; rfl
   | cons e es ih=>intro s; rw [List.foldl_cons,List.foldl_cons,ih]
  rw [key];simp only;rw [JD ha.1];have hfl:=DB l;have hsg:=NS (run.getD 0 0) (run.getD (run.length-1) 0+1) (gs:=groups l) (rs:=[]) (oA hm).2.2 (by simp);rw [hfl] at hsg;rw [hsg,List.nil_append];rfl
 ·simp only;unfold FF;split
  ·exact UU hI
  ·exact aEL hI (by simp [mV] at hrise; omega)

def IY (n:Nat)(mk:List Int->aP):List Int->List aP
 | []=>[]
 | x::r=>(if n<=r.length+1 then [mk ((x::r).take n)] else [])++IY n mk r

theorem NL {n:Nat}{mk:List Int->aP}:∀ {r:List Int},r.length<n->IY n mk r=[]
 | [],_=>rfl
 | x::r,h=>by
  simp only [List.length_cons] at h;unfold IY;rw [if_neg (by omega),NL (by omega)]; rfl

theorem IG {l:List aK}(hl:okL l)(hm:jZ l=true){n:Int}(h1:1<=n)(h2:n<=64):∀ (rest:List Int) (out:List aP),(∀ x∈rest,0<=x/\x<1125899906842624)->out.length+rest.length<=1000000 ->
  lp (fun s:List Int×List aP=>mQ l n s.1 s.2) (rest,out)=some (out++IY n.toNat (aCp l) rest)
 | [],out,_,_=>by
  refine cV ?_;simp only [mQ,decide_eq_false (show ¬ n<=((([]:List Int).length:Nat):Int) by simp; omega),cond_false];simp [IY]
 | x::r,out,hr,ho=>by
  simp only [List.length_cons] at ho;by_cases hc:n<=(((x::r).length:Nat):Int)
  ·have hlen:n.toNat<=(x::r).length:=by omega
   have ht:((x::r).take n.toNat).length=n.toNat:=by rw [List.length_take]; omega
   have hw:=RE hl hm (run:=(x::r).take n.toNat) (by omega) (by omega) (fun y hy=>hr y (List.mem_of_mem_take hy))
   have hb:mQ l n (x::r) out=some (.inl (r,out++[aCp l ((x::r).take n.toNat)])):=by
    simp only [mQ,decide_eq_true hc,cond_true];rw [aN ⟨by omega,Int.le_refl _,hc⟩,hw,Option.bind_some,aN (by simp only [List.length_cons,List.length_nil]; omega),aN ⟨by omega,by simp only [List.length_cons]; omega⟩];rfl
   rw [eW hb,IG hl hm h1 h2 r _ (fun y hy=>hr y (by simp [hy])) (by simp only [List.length_append,List.length_cons,List.length_nil]; omega)]
   conv=>rhs; unfold IY
   simp only [List.length_cons] at hlen;rw [if_pos hlen,List.append_assoc]
  ·have hlen:(x::r).length<n.toNat:=by omega
   rw [NL hlen];refine cV ?_;simp only [mQ,decide_eq_false hc,cond_false,List.append_nil]

def aAg (l:List aK)(n frm:Int):List aP×Int :=
 if nE l n≠0 then ([],nE l n) else if frm<0∨1125899906842624<frm then ([],13) else
 if 1024<(((cX l).drop (iX (cX l) frm)).length:Int)-n+1 then ([],7) else (IY n.toNat (aCp l) ((cX l).drop (iX (cX l) frm)),0)

theorem TW {l:List aK}(hl:okL l)(n frm:Int):tV l n frm=some (aAg l n frm):=by
 unfold tV aAg;rw [LB hl,Option.bind_some];by_cases h:nE l n=0
 ·obtain⟨hm,ht,n1,n2⟩:=GP h;obtain⟨f1,f2,f3,f4⟩:=BJ hm;rw [decide_eq_true h,Bool.not_true,cond_false,if_neg (by simpa using h)];by_cases h1:frm<0∨1125899906842624<frm
  ·have : (decide (frm<0)||decide (1125899906842624<frm))=true:=by simpa using h1
   rw [this,cond_true,if_pos h1]
  ·have : (decide (frm<0)||decide (1125899906842624<frm))=false:=by simpa using h1
   rw [this,cond_false,if_neg h1,GM (oA hm).1 (QE hm),Option.bind_some];obtain⟨⟨b,hb⟩,_,_⟩:=XA f2 (by omega) frm;have hle:=GA (cX l) frm;rw [hb,Option.bind_some,aN ⟨by omega,by omega,Int.le_refl _,Int.le_refl _⟩];simp only [Int.toNat_natCast,List.take_length];have hdl:((cX l).drop (iX (cX l) frm)).length<=4096:=by rw [List.length_drop]; omega
   have w1:IntKind.i64.wrap (IntKind.i64.wrap (((((cX l).drop (iX (cX l) frm)).length:Nat):Int)-n)+1)=((((cX l).drop (iX (cX l) frm)).length:Nat):Int)-n+1:=by
    rw [cI (n:=((((cX l).drop (iX (cX l) frm)).length:Nat):Int)-n) (by omega) (by omega),cI (by omega) (by omega)]
   rw [w1];by_cases h3:1024<((((cX l).drop (iX (cX l) frm)).length:Nat):Int)-n+1
   ·rw [decide_eq_true h3,cond_true,if_pos h3]
   ·rw [decide_eq_false h3,cond_false,if_neg h3];unfold xK;rw [IG hl hm n1 n2 _ [] (fun x hx=>f4 x (List.mem_of_mem_drop hx)) (by simp only [List.length_nil]; omega)];rfl
 ·rw [decide_eq_false h,Bool.not_false,cond_true,if_pos h]

end Go.Abs
namespace Go.Abs
open Go
theorem w00:IntKind.i64.wrap 0=0:=cI (by omega) (by omega)

def qH:Int->Int->List aI->List bL
 | n,fr,[]=>if 0<n then [⟨fr,1125899906842624⟩] else []
 | n,fr,j::r=>if n+j.Net=0 then ⟨if n=0 then j.At else fr,j.At⟩::qH 0 (if n=0 then j.At else fr) r else qH (n+j.Net) (if n=0 then j.At else fr) r

def GD (f:List aI):List bL:=qH 0 0 f

def EI (n:Int)(f:List aI):Prop:=n<=1048576*(2048-f.length) /\ -(1048576*(2048-f.length))<=n/\f.length<=1024

theorem EI.next {n:Int}{j:aI}{r:List aI}(h:EI n (j::r))(hj:j.Net<=1048576 /\ -1048576<=j.Net):EI (n+j.Net) r:=by
 obtain⟨h1,h2,h3⟩:=h;simp only [List.length_cons] at h1 h2 h3;exact⟨by omega,by omega,by omega⟩

theorem EI.small {n:Int}{f:List aI}(h:EI n f):n<=4294967296 /\ -4294967296<=n:=by
 obtain⟨h1,h2,h3⟩:=h;omega

theorem EI.zero {n:Int}{f:List aI}(h:EI n f):EI 0 f:=by
 obtain⟨h1,h2,h3⟩:=h;exact⟨by omega,by omega,h3⟩

theorem ZU {σ:Type}{y:σ->bL->Option (σ×Bool)}{f:List aI}(hl:f.length<=1024):∀ (r:List aI) (k:Nat) (last n fr:Int) (s s':σ),f.drop k=r->k<=f.length->tZ last r->EI n r->AM y (qH n fr r) s=some s' ->
  ∃ x,lp (fun s:σ×Int×Int×Int=>gZ y f ((f.length:Nat):Int) s.1 s.2.1 s.2.2.1 s.2.2.2) (s,n,fr,(k:Int))=some x/\Sum.elim (fun rr=>oS y rr.1 rr.2.1 rr.2.2) (fun rr=>some rr) x=some s':=by
 intro r
 induction r with
 | nil =>
  intro k last n fr s s' hd hk _ _ h
  have hk':k=f.length:=by
   have:=congrArg List.length hd;simp at this; omega
  subst hk';refine⟨.inl (s,n,fr),cV ?_,?_⟩
  ·show gZ _ _ _ _ _ _ _=_;simp only [gZ,gK,cond_false]
  ·simp only [Sum.elim_inl,oS];by_cases hn:0<n
   ·simp only [qH,hn,if_true,AM] at h;obtain⟨x,hx,h⟩:=aW h;rw [decide_eq_true hn,cond_true,hx];simp only [Option.bind_some]
    cases hx2:x.2 <;> rw [hx2] at h <;> simpa using h
   ·simp only [qH,hn,if_false,AM] at h;rw [decide_eq_false hn,cond_false]; exact h
 | cons j r ih =>
  intro k last n fr s s' hd hk hr hroom h;obtain⟨hget,hd'⟩:=drop_cons hd;have hlt:k<f.length:=(List.getElem?_eq_some_iff.1 hget).1;obtain⟨d1,d2,d3,d4⟩:=idx hget (by omega);have hj:=hr.1;have hnx:=hroom.next ⟨hj.2.2.2.1,hj.2.2.2.2⟩;have hsm:=hnx.small;have hw:IntKind.i64.wrap (n+j.Net)=n+j.Net:=cI (by omega) (by omega)
  -- what the body does
  have body:gZ y f ((f.length:Nat):Int) s n fr (k:Int)=nA y s n (if n=0 then j.At else fr) j f ((f.length:Nat):Int) (k:Int):=by
   simp only [gZ,d1,cond_true,aN d2,d3];by_cases hn:n=0 <;> simp [hn]
  by_cases hz:n+j.Net=0
  ·simp only [qH,hz,if_true,AM] at h;obtain⟨x,hx,h⟩:=aW h
   have hb:(fun s:σ×Int×Int×Int=>gZ y f ((f.length:Nat):Int) s.1 s.2.1 s.2.2.1 s.2.2.2) (s,n,fr,(k:Int))=some (if x.2 then .inl (x.1,0,(if n=0 then j.At else fr),((k+1:Nat):Int)) else .inr (.inr x.1)):=by
    show gZ _ _ _ _ _ _ _=_;rw [body];simp only [nA,hw,d4,hz,w00,decide_true,DE,cond_true,hx,Option.bind_some,Bool.true_and]
    cases x.2 <;> rfl
   cases hx2:x.2
   ·rw [hx2] at hb h;simp only [Bool.false_eq_true,if_false,Option.some.injEq] at hb h;exact⟨_,cV hb,by simpa using h⟩
   ·rw [hx2] at hb h;simp only [if_true] at hb h;obtain⟨z,hz1,hz2⟩:=ih (k+1) j.At 0 _ x.1 s' hd' (by omega) hr.2 hnx.zero h;exact⟨z,by rw [eW hb]; exact hz1,hz2⟩
  ·simp only [qH,hz,if_false] at h
   have hb:(fun s:σ×Int×Int×Int=>gZ y f ((f.length:Nat):Int) s.1 s.2.1 s.2.2.1 s.2.2.2) (s,n,fr,(k:Int))=some (.inl (s,n+j.Net,(if n=0 then j.At else fr),((k+1:Nat):Int))):=by
    show gZ _ _ _ _ _ _ _=_;rw [body];simp only [nA,hw,d4,decide_eq_false hz,DE,cond_false,Option.bind_some,Bool.false_and]
   obtain⟨z,hz1,hz2⟩:=ih (k+1) j.At (n+j.Net) _ s s' hd' (by omega) hr.2 hnx h;exact⟨z,by rw [eW hb]; exact hz1,hz2⟩

theorem aCi {σ:Type}{y:σ->bL->Option (σ×Bool)}{f:List aI}(hf:iG f=true){s s':σ}(h:AM y (GD f) s=some s'):sO y f s=some s':=by
 obtain⟨hl,hr⟩:=oE.1 hf;obtain⟨x,h1,h2⟩:=ZU (y:=y) hl f 0 (-2) 0 0 s s' rfl (by omega) hr ⟨by omega,by omega,hl⟩ h;unfold sO uT;simp only [Int.natCast_zero] at h1;rw [h1];exact h2

theorem JT {x:Int}(hx:x<1125899906842624):∀ {f:List aI} {last n fr:Int},tZ last f->(∀ t,0<=n+val f t)->(n≠0->fr<=last) ->
  ((∃ s∈qH n fr f,s.From<=x/\x<s.To)↔(n≠0->fr<=x)/\0<n+val f x)
 | [],last,n,fr,_,hn,_=>by
  have h0:=hn 0;simp only [aBx,Int.add_zero] at h0 ⊢;unfold qH;by_cases h:0<n
  ·rw [if_pos h];simp only [List.mem_singleton];constructor
   ·rintro ⟨s,rfl,h1,h2⟩; exact ⟨fun _=>h1,h⟩
   ·rintro ⟨h1,_⟩; exact ⟨_,rfl,h1 (by omega),hx⟩
  ·rw [if_neg h];simp [h]
 | j::r,last,n,fr,hr,hn,hf=>by
  have hj:=hr.1;have hab:=hr.2.above;have hv:∀ t,t<=j.At->val r t=0:=fun t ht=>AZ fun k hk=>by have:=(hab k hk).1; omega
  have hn0:0<=n:=by
   have:=hn (j.At-1);rw [lZ,if_neg (by omega),hv _ (by omega)] at this; omega
  have hn1:0<=n+j.Net:=by
   have:=hn j.At;rw [lZ,if_pos (by omega),hv _ (by omega)] at this; omega
  have hn2:∀ t,0<=(n+j.Net)+val r t:=fun t=>by
   by_cases ht:j.At<=t
   ·have:=hn t;rw [lZ,if_pos ht] at this; omega
   ·rw [hv t (by omega)]; omega
  rw [lZ];unfold qH;by_cases hz:n+j.Net=0
  ·rw [if_pos hz];have ih:=JT hx (f:=r) (last:=j.At) (n:=0) (fr:=if n=0 then j.At else fr) hr.2 (fun t=>by have:=hn2 t; omega) (by simp)
   have e:(∃ s∈(⟨if n=0 then j.At else fr,j.At⟩:bL)::qH 0 (if n=0 then j.At else fr) r,s.From<=x/\x<s.To)↔((if n=0 then j.At else fr)<=x/\x<j.At)∨(∃ s∈qH 0 (if n=0 then j.At else fr) r,s.From<=x/\x<s.To):=by
    simp only [List.mem_cons,or_and_right,exists_or,exists_eq_left]
   rw [e,ih];by_cases hnz:n=0
   ·omega
   ·rw [if_neg hnz];have hfl:=hf hnz;by_cases hxj:j.At<=x
    ·rw [if_pos hxj];constructor
     ·rintro (h | h)
      ·omega
      ·exact⟨fun _=>by omega,by have:=h.2; omega⟩
     ·rintro ⟨_,h⟩; right; exact ⟨by simp,by omega⟩
    ·rw [if_neg hxj,hv x (by omega)];constructor
     ·rintro (h | h)
      ·exact⟨fun _=>h.1,by omega⟩
      ·have:=h.2; omega
     ·rintro ⟨h,_⟩; left; exact ⟨h hnz,by omega⟩
  ·rw [if_neg hz,JT hx (f:=r) (last:=j.At) (n:=n+j.Net) (fr:=if n=0 then j.At else fr) hr.2 hn2 (fun _=>by
    split
    ·exact Int.le_refl _
    ·rename_i h; have:=hf h; omega)]
   by_cases hnz:n=0
   ·simp only [hnz,if_true];by_cases hxj:j.At<=x
    ·rw [if_pos hxj];constructor
     ·rintro ⟨_,h⟩; exact ⟨by simp,by omega⟩
     ·rintro ⟨_,h⟩; exact ⟨fun _=>hxj,by omega⟩
    ·rw [if_neg hxj,hv x (by omega)];constructor
     ·rintro ⟨h,_⟩; exact absurd (h (by omega)) hxj
     ·rintro ⟨_,h⟩; omega
   ·rw [if_neg hnz];by_cases hxj:j.At<=x
    ·rw [if_pos hxj];constructor
     ·rintro ⟨h,h2⟩; exact ⟨fun _=>h hz,by omega⟩
     ·rintro ⟨h,h2⟩; exact ⟨fun _=>h hnz,by omega⟩
    ·rw [if_neg hxj,hv x (by omega)];constructor
     ·rintro ⟨h,h2⟩; exact ⟨fun _=>h hz,by omega⟩
     ·rintro ⟨h,h2⟩; exact ⟨fun _=>h hnz,by omega⟩

theorem HI:∀ {f:List aI} {last n fr:Int},tZ last f -> -2<=last->last<1125899906842624->(n≠0->fr<=last /\ -1<=fr) -> ∀ s∈qH n fr f,-1<=s.From/\s.From<s.To/\s.To<=1125899906842624
 | [],last,n,fr,_,h1,h2,hf,s,hs=>by
  unfold qH at hs;split at hs
  ·simp only [List.mem_singleton] at hs; subst hs;have:=hf (by omega);exact⟨this.2,by show fr<1125899906842624; omega,Int.le_refl _⟩
  ·simp at hs
 | j::r,last,n,fr,hr,h1,h2,hf,s,hs=>by
  have hj:=hr.1
  have key:(if n=0 then j.At else fr)<=j.At /\ -1<=(if n=0 then j.At else fr):=by
   split
   ·omega
   ·rename_i h; have:=hf h; omega
  unfold qH at hs;split at hs
  ·rcases List.mem_cons.1 hs with rfl | hs
   ·rename_i hz
    have hnz:n≠0:=by omega
    have:=hf hnz;refine⟨key.2,?_,by show j.At<=_; omega⟩;show (if n=0 then j.At else fr)<j.At;rw [if_neg hnz]; omega
   ·exact HI hr.2 (by omega) (by omega) (by simp) s hs
  ·exact HI hr.2 (by omega) (by omega) (fun _=>key) s hs

theorem RP {f:List aI}(hf:iG f=true)(hv:∀ t,0<=val f t){x:Int}(hx:x<1125899906842624):(∃ s∈GD f,s.From<=x/\x<s.To)↔0<val f x:=by
 rw [GD,JT hx (oE.1 hf).2 (fun t=>by have:=hv t; omega) (by simp)];simp

theorem NJ {f:List aI}(hf:iG f=true):∀ s∈GD f,-1<=s.From/\s.From<s.To/\s.To<=1125899906842624 :=
 HI (oE.1 hf).2 (by omega) (by omega) (by simp)

def nT (f:List aI)(a b:Int):Int:=val f a+qB (a+1) b f

theorem SN (a b:Int):∀ {f:List aI},(∀ j∈f,j.Net<=1048576)->0<=qB a b f/\qB a b f<=1048576*f.length
 | [],_=>by simp [qB]
 | j::r,h=>by
  have ih:=SN a b (f:=r) fun k hk=>h k (List.mem_cons_of_mem _ hk);have hj:=h j (by simp);rw [AY];simp only [List.length_cons,Int.natCast_add,Int.natCast_one,Int.mul_add,Int.mul_one];by_cases hi:inW a b j=true
  ·rw [if_pos hi];simp only [inW,Bool.and_eq_true,decide_eq_true_eq] at hi;omega
  ·rw [if_neg hi]; omega

theorem QD {f:List aI}(hf:iG f=true){w:bL}:vT f w=some (nT f w.From w.To):=by
 obtain⟨hl,hr⟩:=oE.1 hf;have hb:=hr.above;have hv:=VF (f:=f) w.From (show (0:Int)<=1048576 by omega) fun j hj=>⟨(hb j hj).2.2.2.1,(hb j hj).2.2.2.2⟩;unfold vT;rw [aCv,hf];simp only [if_true,Option.bind_some];unfold yM
 have key:=oU (l:=f) (body:=fun s:Int×Int=>qV w f ((f.length:Nat):Int) s.1 s.2) (fun (n:Int) i=>(n,i)) (fun n r=>n+qB (w.From+1) w.To r)
  (fun n r=>n<=1048576*(2048-r.length) /\ -(1048576*(2048-r.length))<=n/\r.length<=1024 /\ ∀ j∈r,j.Net<=1048576 /\ -1048576<=j.Net) (val f w.From) ?_ ?_ ⟨by omega,by omega,hl,fun j hj=>⟨(hb j hj).2.2.2.1,(hb j hj).2.2.2.2⟩⟩
 ·rw [key];rfl
 ·intro i j r n hj hI;left;obtain⟨d1,d2,d3,d4⟩:=idx hj (by omega);obtain⟨i1,i2,i3,i4⟩:=hI;simp only [List.length_cons] at i1 i2 i3;have i5:=i4 j (by simp);have hmx:(if (0:Int)>j.Net then (0:Int) else j.Net)=if 0<j.Net then j.Net else 0:=by split <;> split <;> omega
  refine⟨n+(if inW (w.From+1) w.To j then j.Net else 0),?_,⟨?_,?_,by omega,fun k hk=>i4 k (List.mem_cons_of_mem _ hk)⟩,by rw [AY]; omega⟩
  ·have e1:inW (w.From+1) w.To j=(decide (0<j.Net)&&((decide (w.From<j.At))&&(decide (j.At<w.To)))):=by
    unfold inW;have : decide (w.From+1<=j.At)=decide (w.From<j.At):=decide_eq_decide.2 (by omega);rw [this]
   simp only [qV,d1,cond_true,aN d2,d3,hmx,e1]
   cases hw:(decide (w.From<j.At))&&(decide (j.At<w.To)) with
   | false =>
    simp only [cond_false,qY,d4,Bool.and_false,Bool.false_eq_true,if_false,Int.add_zero]
   | true =>
    have : IntKind.i64.wrap (n+(if 0<j.Net then j.Net else 0))=n+(if 0<j.Net then j.Net else 0):=cI (by split <;> omega) (by split <;> omega);simp only [cond_true,qY,d4,this,Bool.and_true,decide_eq_true_eq]
  ·split <;> omega
  ·split <;> omega
 ·intro n _;simp only [qV,gK,cond_false];simp [qB]

theorem XK {a b x:Int}(h1:a<=x)(h2:x<b):∀ f:List aI,val f x<=val f a+qB (a+1) b f
 | []=>by simp [qB,aBx]
 | j::r=>by
  have ih:=XK h1 h2 r;rw [lZ,lZ,AY];by_cases hi:inW (a+1) b j=true
  ·rw [if_pos hi];simp only [inW,Bool.and_eq_true,decide_eq_true_eq] at hi;split <;> split <;> omega
  ·rw [if_neg hi];have hi:¬ (0<j.Net/\a+1<=j.At/\j.At<b):=by simpa [inW] using hi
   split <;> split <;> omega

theorem YB:∀ {f:List aI} {last:Int},tZ last f -> ∀ j∈f,val f j.At=val f (j.At-1)+j.Net
 | [],_,_,j,hj=>by simp at hj
 | k::r,last,hr,j,hj=>by
  have hab:=hr.2.above;rw [lZ,lZ];rcases List.mem_cons.1 hj with rfl | hj
  ·rw [if_pos (by omega),if_neg (by omega),AZ (f:=r) fun q hq=>(hab q hq).1,AZ (f:=r) fun q hq=>by have:=(hab q hq).1; omega];omega
  ·have:=(hab j hj).1;rw [if_pos (by omega),if_pos (by omega),YB hr.2 j hj];omega

theorem OB {f:List aI}(hf:iG f=true)(hv:∀ t,0<=val f t){a b:Int}(hab:a<b):0<nT f a b ↔ ∃ x,a<=x/\x<b/\0<val f x:=by
 obtain⟨hl,hr⟩:=oE.1 hf;have hb:=hr.above;have hg:=SN (a+1) b (f:=f) fun j hj=>(hb j hj).2.2.2.1;unfold nT;constructor
 ·intro h;by_cases h0:0<val f a
  ·exact⟨a,Int.le_refl _,hab,h0⟩
  ·have hva:=hv a
   have hne:f.filter (inW (a+1) b)≠[]:=by
    intro hc;unfold qB at h;rw [hc] at h;simp at h; omega
   obtain⟨j,hj⟩:=List.exists_mem_of_ne_nil _ hne;obtain⟨hj1,hj2⟩:=List.mem_filter.1 hj;simp only [inW,Bool.and_eq_true,decide_eq_true_eq] at hj2;have:=YB hr j hj1;have:=hv (j.At-1);exact⟨j.At,by omega,by omega,by omega⟩
 ·rintro ⟨x,h1,h2,h3⟩;have:=XK h1 h2 f;omega

end Go.Abs
namespace Go.Abs
open Go
theorem VU {β:Type}{k:Int}{v:β}:∀ {m:List (Int×β)},k∈m.map (·.1)->(fJ m k v).map (·.1)=m.map (·.1)
 | [],h=>by simp at h
 | p::m,h=>by
  by_cases hp:p.1=k
  ·simp [fJ,hp]
  ·simp only [List.map_cons,List.mem_cons] at h;rcases h with h | h
   ·exact absurd h.symm hp
   ·simp only [fJ,hp,if_false,List.map_cons,VU h]

theorem VS {β:Type}{k:Int}{v:β}{m:List (Int×β)}(h:k ∉ m.map (·.1)):(fJ m k v).map (·.1)=m.map (·.1)++[k]:=by
 rw [JK fun p hp e=>h (List.mem_map.2 ⟨p,hp,e⟩)]; simp

theorem KK {β:Type}{k:Int}:∀ {m:List (Int×β)},gI m k=none↔k ∉ m.map (·.1)
 | []=>by simp [gI]
 | p::m=>by
  rw [gI];by_cases hp:p.1=k
  ·simp [hp]
  ·rw [if_neg hp,KK (m:=m)];simp only [List.map_cons,List.mem_cons,not_or];exact⟨fun h=>⟨fun e=>hp e.symm,h⟩,fun h=>h.2⟩

theorem MA {β:Type}{k x:Int}{v:β}:∀ {m:List (Int×β)},gI (fJ m k v) x=if x=k then some v else gI m x
 | []=>by
  simp only [fJ,gI];by_cases h:k=x
  ·simp [h]
  ·rw [if_neg h,if_neg (fun e=>h e.symm)]
 | p::m=>by
  by_cases hp:p.1=k
  ·simp only [fJ,if_pos hp,gI];by_cases h:k=x
   ·simp [h]
   ·rw [if_neg h,if_neg (fun e=>h e.symm),if_neg (by rw [hp]; exact h)]
  ·simp only [fJ,if_neg hp,gI];by_cases h:p.1=x
   ·rw [if_pos h,if_pos h,if_neg (fun e=>hp (h.trans e))]
   ·rw [if_neg h,if_neg h,MA (m:=m)]

theorem LP {S α:Type}{f:S->α->Option S}:∀ {a b:List α} {s:S},dV f s (a++b)=(dV f s a).bind fun s'=>dV f s' b
 | [],b,s=>rfl
 | x::a,b,s=>by
  simp only [List.cons_append,dV]
  cases f s x with
  | none=>rfl
  | some s'=>exact LP (a:=a)

def mkW (size t:Int):aP:=⟨⟨t,min (t+size) 1125899906842624⟩,[]⟩

def jW (g:List aG×List aI)(p:aP):aP :=
 if p.Rows=[]∨(nI p.Rows).Row≠g.1 then ⟨p.Span,p.Rows++[⟨g.1,nT g.2 p.Span.From p.Span.To⟩]⟩ else p

def mZ (size:Int)(g:List aG×List aI)(m:List (Int×aP))(t:Int):Option (List (Int×aP)) :=
 match gI m t with
 | none=>if m.length=1024 then none else some (fJ m t (jW g (mkW size t)))
 | some p=>some (fJ m t (jW g p))

theorem BQ (rs:List bK)(c:bK):nI (rs++[c])=c:=by
 unfold nI;have : (rs++[c]).length-1=rs.length:=by simp
 rw [this,List.getD_eq_getElem?_getD,List.getElem?_append_right (Nat.le_refl _)];simp

theorem aA9 (g:List aG×List aI)(p:aP):(jW g p).Rows≠[]/\(nI (jW g p).Rows).Row=g.1:=by
 unfold jW;split
 ·exact⟨by simp,by rw [BQ]⟩
 ·rename_i h
  simp only [not_or,Decidable.not_not] at h;exact h

theorem XR (g:List aG×List aI)(p:aP):jW g (jW g p)=jW g p:=by
 obtain⟨h1,h2⟩:=aA9 g p
 have key:∀ q:aP,q.Rows≠[]->(nI q.Rows).Row=g.1->jW g q=q:=fun q a b=>by
  unfold jW;rw [if_neg (by simp [a,b])]
 exact key _ h1 h2

theorem MD {g:List aG×List aI}(hg:iG g.2=true)(hr:g.1.length<=4398046510976){p:aP}(hp:p.Rows.length<=1000000)(hlr:p.Rows≠[]->(nI p.Rows).Row.length<=4398046510976):qC g.1 g.2 p=some (jW g p):=by
 unfold qC;have hlen:IntKind.i64.wrap (((List.length p.Rows:Nat):Int)-1)=((List.length p.Rows:Nat):Int)-1:=cI (by omega) (by omega);simp only [wR,lN,gD,hlen]
 cases hR:p.Rows with
 | nil =>
  have h0:decide ((((List.length ([]:List bK):Nat):Int)-1)<0)=true:=by decide
  simp only [h0,Bool.not_true,Bool.true_or,cond_true,cW,cond_false,Option.bind_some];rw [aN (by simp)];rw [JB hr,Option.bind_some,QD hg,Option.bind_some,aN (by simp)];unfold jW;rw [if_pos (.inl hR),hR]
 | cons c rs =>
  have hl2:(c::rs).length<=1000000:=by rw [←hR]; exact hp
  have hge:0<=(((List.length (c::rs):Nat):Int)-1)/\(((List.length (c::rs):Nat):Int)-1)<((List.length (c::rs):Nat):Int):=by simp only [List.length_cons]; omega
  have h0:decide ((((List.length (c::rs):Nat):Int)-1)<0)=false:=decide_eq_false (by omega)
  have hlast:List.getD (c::rs) (Int.toNat (((List.length (c::rs):Nat):Int)-1)) default=nI (c::rs):=by
   unfold nI
   congr 1
   omega
  rw [h0];simp only [Bool.not_false,Bool.false_or,cW,cond_true];rw [aN (fun _=>hge),hlast]
  have hsame:sR (nI (c::rs)).Row g.1=some (decide ((nI (c::rs)).Row=g.1)):=by
   have:=hlr (by rw [hR]; simp);rw [hR] at this;exact JR _ _ (by omega)
  rw [hsame,Option.bind_some];unfold jW;rw [hR];by_cases hq:(nI (c::rs)).Row=g.1
  ·rw [decide_eq_true hq,if_neg (by simp [hq])]; rfl
  ·rw [decide_eq_false hq,if_pos (.inr hq)];simp only [Bool.not_false,cond_true];rw [JB hr,Option.bind_some,QD hg,Option.bind_some,aN (by simp only [List.length_cons,List.length_nil] at hl2 ⊢; omega)]

def OK (n:Nat)(r:List aG)(p:aP):Prop:=(p.Rows.length<=n∨(p.Rows≠[]/\(nI p.Rows).Row=r/\p.Rows.length<=n+1))/\(p.Rows≠[]->(nI p.Rows).Row.length<=4398046510976)

theorem OK.add {n:Nat}{g:List aG×List aI}(hr:g.1.length<=4398046510976){p:aP}(h:OK n g.1 p):OK n g.1 (jW g p):=by
 obtain⟨h,h'⟩:=h;unfold jW;split
 ·rename_i hc
  refine⟨.inr ⟨by simp,by rw [BQ],?_⟩,fun _=>by rw [BQ]; exact hr⟩;rcases h with h | ⟨h1,h2,h3⟩
  ·simp; omega
  ·rcases hc with hc | hc
   ·exact absurd hc h1
   ·exact absurd h2 hc
 ·exact⟨h,h'⟩

def JG (n:Nat)(r:List aG)(m:List (Int×aP)):Prop:=∀ t p,gI m t=some p->OK n r p

theorem aEV {size:Int}{g:List aG×List aI}(hg:iG g.2=true)(hr:g.1.length<=4398046510976){n:Nat}(hn:n<=900000){m:List (Int×aP)}(hm:JG n g.1 m){t:Int}(h0:0<=t)(h1:t<1125899906842624)(hs0:0<=size)(hs:size<=1099511627776)(b:Bool) :
  (∀ m',mZ size g m t=some m'->oJ g.1 g.2 size b m t=some (.inl (b,m'))/\JG n g.1 m')/\(mZ size g m t=none->oJ g.1 g.2 size b m t=some (.inr (false,m))):=by
 unfold mZ oJ;have small:∀ p,OK n g.1 p->p.Rows.length<=1000000:=fun p hp=>by rcases hp.1 with h | ⟨_,_,h⟩ <;> omega
 have put:∀ p,OK n g.1 p->JG n g.1 (fJ m t (jW g p)):=by
  intro p hp t' p' h;rw [MA] at h;split at h
  ·cases h; exact hp.add hr
  ·exact hm t' p' h
 cases hgt:gI m t with
 | none =>
  simp only;have hw:IntKind.i64.wrap (t+size)=t+size:=cI (by omega) (by omega)
  have hmk:(aP.mk (bL.mk t (if (1125899906842624:Int)<(wR (t+size)) then (1125899906842624:Int) else (wR (t+size)))) [])=mkW size t:=by
   unfold mkW;simp only [wR,hw]
   congr 2
   rw [Int.min_def]; split <;> split <;> omega
  have hf:OK n g.1 (mkW size t):=⟨.inl (by simp [mkW]),fun h=>absurd rfl h⟩;rw [hmk,MD hg hr (small _ hf) hf.2];by_cases hl:m.length=1024
  ·have : decide ((lN m)=(1024:Int))=true:=decide_eq_true (by simp only [lN]; omega);rw [this,if_pos hl];exact⟨fun m' h=>(by cases h),fun _=>rfl⟩
  ·have : decide ((lN m)=(1024:Int))=false:=decide_eq_false (by simp only [lN]; omega);rw [this,if_neg hl];refine⟨fun m' h=>?_,fun h=>(by cases h)⟩
   cases h
   exact⟨rfl,put _ hf⟩
 | some p =>
  simp only;have hf:=hm t p hgt;rw [MD hg hr (small _ hf) hf.2];refine⟨fun m' h=>?_,fun h=>(by cases h)⟩
  cases h
  exact⟨rfl,put _ hf⟩

theorem YI {size:Int}{g:List aG×List aI}(hg:iG g.2=true)(hr:g.1.length<=4398046510976){n:Nat}(hn:n<=900000)(hs0:0<=size)(hs:size<=1099511627776)(b:Bool):∀ (ts:List Int) (m:List (Int×aP)),JG n g.1 m->(∀ t∈ts,0<=t/\t<1125899906842624) ->
  ∃ x,AM (fun st t=>rnd (fun (q:Bool×List (Int×aP))=>oJ g.1 g.2 size q.1 q.2 t) st) ts (.inl (b,m))=some x/\(∀ m',dV (mZ size g) m ts=some m'->x=.inl (b,m')/\JG n g.1 m')/\(dV (mZ size g) m ts=none -> ∃ q,q.1=false/\x=.inr q)
 | [],m,hm,_=>⟨_,rfl,fun m' h=>by simp only [dV,Option.some.injEq] at h; subst h; exact ⟨rfl,hm⟩,fun h=>by simp [dV] at h⟩
 | t::ts,m,hm,ht=>by
  obtain⟨h0,h1⟩:=ht t (by simp);obtain⟨a1,a2⟩:=aEV hg hr hn hm h0 h1 hs0 hs b;simp only [AM,dV]
  cases hst:mZ size g m t with
  | none =>
   have e:=a2 hst;refine⟨.inr (false,m),?_,fun m' h=>(by simp at h),fun _=>⟨_,rfl,rfl⟩⟩;simp only [rnd,e,Option.bind_some,Sum.isLeft_inr,Bool.false_eq_true,if_false]
  | some m1 =>
   obtain⟨e,hm1⟩:=a1 m1 hst;obtain⟨x,e1,e2,e3⟩:=YI hg hr hn hs0 hs b ts m1 hm1 fun t' h'=>ht t' (by simp [h']);refine⟨x,?_,e2,e3⟩;simp only [rnd,e,Option.bind_some,Sum.isLeft_inl,if_true];exact e1

def pQ (size hop frm front:Int)(f:List aI):List Int:=(GD f).flatMap (tM size hop frm front)

theorem KB {size hop frm front:Int}(ok:OkH size hop frm front)(s:bL):∀ t∈tM size hop frm front s,0<=t/\t<1125899906842624:=by
 intro t ht;unfold tM at ht;have h1:=(aD1 (b:=xO front s) ok.h0 (wE size hop frm s)).2 t ht;obtain⟨k,_,h2⟩:=(aAd ok.h0 _).1 ht;have h3:=(xU (n:=s.From-size) ok.h0).1;have h4:iS hop (s.From-size)<=wE size hop frm s:=Int.le_max_left _ _;have h5:xO front s<=1125899906842624:=Int.min_le_right _ _;omega

theorem aAn {size hop frm front:Int}(ok:OkH size hop frm front){g:List aG×List aI}(hg:iG g.2=true)(hr:g.1.length<=4398046510976){n:Nat}(hn:n<=900000)(b:Bool):∀ (ss:List bL) (m:List (Int×aP)),JG n g.1 m->(∀ s∈ss,-1<=s.From/\s.From<s.To/\s.To<=1125899906842624) ->
  ∃ x,AM (fun st s=>rnd (fun (q:Bool×List (Int×aP))=>pY g.1 g.2 size hop frm front q.1 q.2 s) st) ss (.inl (b,m))=some x/\(∀ m',dV (mZ size g) m (ss.flatMap (tM size hop frm front))=some m'->x=.inl (b,m')/\JG n g.1 m')/\(dV (mZ size g) m (ss.flatMap (tM size hop frm front))=none -> ∃ q,q.1=false/\x=.inr q)
 | [],m,hm,_=>⟨_,rfl,fun m' h=>by simp only [List.flatMap_nil,dV,Option.some.injEq] at h; subst h; exact ⟨rfl,hm⟩,fun h=>by simp [dV] at h⟩
 | s::ss,m,hm,hs=>by
  have hsp:=hs s (by simp);obtain⟨x,e1,e2,e3⟩:=YI hg hr hn (size:=size) (by have:=ok.s0; omega) ok.s1 b (tM size hop frm front s) m hm (KB ok s)
  have hl:pY g.1 g.2 size hop frm front b m s=(Sum.elim (fun q=>some (.inl q)) (fun q=>some (.inr q)) x:Option ((Bool×List (Int×aP))⊕(Bool×List (Int×aP)))):=by
   unfold pY;simp only [BW,Option.bind_some];rw [aB0 ok hsp.1 (by omega) e1];rfl
  simp only [AM,List.flatMap_cons,LP]
  cases hst:dV (mZ size g) m (tM size hop frm front s) with
  | none =>
   obtain⟨q,hq,rfl⟩:=e3 hst;refine⟨.inr q,?_,fun m' h=>(by simp at h),fun _=>⟨_,hq,rfl⟩⟩;simp only [rnd,hl,Sum.elim_inr,Option.bind_some,Sum.isLeft_inr,Bool.false_eq_true,if_false]
  | some m1 =>
   obtain⟨rfl,hm1⟩:=e2 m1 hst;obtain⟨x,f1,f2,f3⟩:=aAn ok hg hr hn b ss m1 hm1 fun s' h'=>hs s' (by simp [h']);refine⟨x,?_,f2,f3⟩;simp only [rnd,hl,Sum.elim_inl,Option.bind_some,Sum.isLeft_inl,if_true];exact f1

theorem aDH {size hop frm front:Int}(ok:OkH size hop frm front){g:List aG×List aI}(hg:iG g.2=true)(hr:g.1.length<=4398046510976){n:Nat}(hn:n<=900000){m:List (Int×aP)}(hm:JG n g.1 m) :
  ∃ x,yG m g.1 g.2 size hop frm front=some x/\(∀ m',dV (mZ size g) m (pQ size hop frm front g.2)=some m'->x=(true,m')/\JG n g.1 m')/\(dV (mZ size g) m (pQ size hop frm front g.2)=none->x.1=false):=by
 obtain⟨x,e1,e2,e3⟩:=aAn ok hg hr hn false (GD g.2) m hm (NJ hg);unfold yG;simp only [CZ,Option.bind_some];rw [aCi hg e1,Option.bind_some];unfold pQ
 cases hst:dV (mZ size g) m ((GD g.2).flatMap (tM size hop frm front)) with
 | none =>
  obtain⟨q,hq,rfl⟩:=e3 hst;exact⟨_,rfl,fun m' h=>(by cases h),fun _=>hq⟩
 | some m1 =>
  obtain⟨rfl,hm1⟩:=e2 m1 hst;exact⟨_,rfl,fun m' h=>(by cases h; exact ⟨rfl,hm1⟩),fun h=>(by cases h)⟩

end Go.Abs
namespace Go.Abs
open Go
theorem JY {hop n x:Int}(hh:1<=hop)(h0:0<=x)(hx:∃ k:Int,x=k*hop)(h:n<x):iS hop n<=x:=by
 unfold iS;split
 ·exact h0
 ·obtain⟨k,rfl⟩:=hx;have hf:=GO (n:=n) hh
  have : n / hop<k:=by
   rcases Int.lt_or_le (n / hop) k with h1 | h1
   ·exact h1
   ·have:=Int.mul_le_mul_of_nonneg_right h1 (show 0<=hop by omega);omega
  exact Int.mul_le_mul_of_nonneg_right (show n / hop+1<=k by omega) (by omega)

theorem aAR {size hop frm:Int}{s:bL}(hh:1<=hop)(hf:0<=frm):0<=wE size hop frm s/\(∃ k:Int,wE size hop frm s=k*hop)/\s.From-size<wE size hop frm s/\frm<=wE size hop frm s /\
  ∀ x:Int,0<=x->(∃ k:Int,x=k*hop)->s.From-size<x->frm<=x->wE size hop frm s<=x:=by
 obtain⟨a1,a2,_,_,a5⟩:=xU (n:=s.From-size) hh;obtain⟨b1,b2,_,_,b5⟩:=xU (n:=frm-1) hh;unfold wE;refine⟨by omega,?_,by omega,by omega,fun x x0 xk x1 x2=>?_⟩
 ·rcases Int.le_total (iS hop (s.From-size)) (iS hop (frm-1)) with h | h
  ·rw [Int.max_eq_right h]; exact b5
  ·rw [Int.max_eq_left h]; exact a5
 ·have c1:=JY hh x0 xk x1;have c2:=JY hh x0 xk (show frm-1<x by omega);omega

theorem NT {size hop frm front:Int}(ok:OkH size hop frm front){s:bL}{x:Int}:x∈tM size hop frm front s↔0<=x/\(∃ k:Int,x=k*hop)/\frm<=x/\x<front/\x<1125899906842624/\s.From-size<x/\x<s.To:=by
 obtain⟨f1,⟨q,f2⟩,f3,f4,f5⟩:=aAR (size:=size) (s:=s) ok.h0 ok.f0;have hb:x<xO front s↔x<s.To/\x<front/\x<1125899906842624:=by unfold xO; omega
 unfold tM;rw [aAd ok.h0];constructor
 ·rintro ⟨k,h1,h2⟩;have h3:=hb.1 h2;have h4:0<=(k:Int)*hop:=Int.mul_nonneg (by omega) (by have:=ok.h0; omega);refine⟨by omega,⟨q+k,?_⟩,by omega,h3.2.1,h3.2.2,by omega,h3.1⟩;rw [Int.add_mul]; omega
 ·rintro ⟨h1,⟨k,hk⟩,h2,h3,h4,h5,h6⟩;have h7:=f5 x h1 ⟨k,hk⟩ h5 h2
  have h8:q<=k:=by
   rcases Int.lt_or_le k q with hlt | hle
   ·have u:=Int.mul_le_mul_of_nonneg_right (show k+1<=q by omega) (show 0<=hop by have:=ok.h0; omega);have u0:=ok.h0;rw [Int.add_mul] at u;omega
   ·exact hle
  refine⟨(k-q).toNat,?_,hb.2 ⟨h6,h3,h4⟩⟩;rw [Int.toNat_of_nonneg (by omega),Int.sub_mul]; omega

theorem aGX {size hop frm front:Int}(hm:wV size hop=true)(h1:oN frm=true)(h2:oN front=true):OkH size hop frm front:=by
 have a:=KX hm; have b:=BG h1; have c:=BG h2;exact⟨a.1,a.2.1,a.2.2.1,a.2.2.2,b.1,b.2,c.1,c.2⟩

end Go.Abs
namespace Go.Abs
open Go
abbrev G1:=List aG×List aI

def rT (size t:Int):Int:=min (t+size) 1125899906842624

def WZ (size t:Int)(gs:List G1):List bK:=gs.filterMap fun g=>if 0<nT g.2 t (rT size t) then some ⟨g.1,nT g.2 t (rT size t)⟩ else none

def tH (size hop frm front:Int)(gs:List G1)(m:List (Int×aP)):Option (List (Int×aP)):=dV (fun m g=>dV (mZ size g) m (pQ size hop frm front g.2)) m gs

def zT (size hop frm front:Int)(gs:List G1):List Int:=gs.flatMap fun g=>pQ size hop frm front g.2

def IN (size hop frm front:Int)(gs:List G1):List Int:=(zT size hop frm front gs).foldl (fun c t=>gU t c) []

def zD (c:List Int)(ts:List Int):List Int:=ts.foldl (fun c t=>gU t c) c

theorem GI (c:List Int)(t:Int)(ts:List Int):zD c (t::ts)=zD (gU t c) ts:=rfl

theorem aAG (c a b:List Int):zD c (a++b)=zD (zD c a) b:=List.foldl_append ..

theorem OM {last:Int}:∀ {ts c:List Int},Inc last c->(∀ t∈ts,last<t/\t<1125899906842624)->Inc last (zD c ts)
 | [],c,h,_=>h
 | t::ts,c,h,ht=>by
  rw [GI];exact OM (AX h (ht t (by simp)).1 (ht t (by simp)).2) fun x hx=>ht x (by simp [hx])

theorem aAA {x:Int}:∀ {ts c:List Int},x∈zD c ts↔x∈ts∨x∈c
 | [],c=>by simp [zD]
 | t::ts,c=>by
  rw [GI,aAA,LS];simp only [List.mem_cons];constructor
  ·rintro (h | h | h)
   ·exact .inl (.inr h)
   ·exact .inl (.inl h)
   ·exact .inr h
  ·rintro ((h | h) | h)
   ·exact .inr (.inl h)
   ·exact .inl h
   ·exact .inr (.inr h)

theorem QG {t:Int}:∀ {ps:List Int},ps.length<=(gU t ps).length
 | []=>by simp [gU]
 | p::r=>by
  unfold gU;split
  ·exact Nat.le_refl _
  ·split
   ·simp
   ·simp only [List.length_cons];have:=QG (t:=t) (ps:=r);omega

theorem KN:∀ {ts c:List Int},c.length<=(zD c ts).length
 | [],c=>Nat.le_refl _
 | t::ts,c=>by
  rw [GI];exact Nat.le_trans QG KN

theorem SJ {size:Int}{g:G1}{last:Int}:∀ {ts:List Int} {m:List (Int×aP)} {c:List Int},Inc last c->(∀ t∈ts,last<t/\t<1125899906842624)->(m.map (·.1)).Perm c->m.length<=1024 ->
  (∀ m',dV (mZ size g) m ts=some m'->(m'.map (·.1)).Perm (zD c ts)/\m'.length<=1024)/\(dV (mZ size g) m ts=none->1024<(zD c ts).length)
 | [],m,c,_,_,hp,hl=>⟨fun m' h=>by simp only [dV,Option.some.injEq] at h; subst h; exact ⟨hp,hl⟩,fun h=>by simp [dV] at h⟩
 | t::ts,m,c,hi,ht,hp,hl=>by
  have ht0:=ht t (by simp);have hi':=AX hi ht0.1 ht0.2;have rec1:=fun (m1:List (Int×aP))=>SJ (size:=size) (g:=g) (last:=last) (ts:=ts) (m:=m1) (c:=gU t c) hi' (fun x hx=>ht x (by simp [hx]));simp only [dV,GI]
  cases hg:gI m t with
  | none =>
   have hk:t ∉ m.map (·.1):=KK.1 hg;have hk':t ∉ c:=fun h=>hk (hp.mem_iff.2 h);have hw:=JH hk';by_cases hf:m.length=1024
   ·have e:mZ size g m t=none:=by unfold mZ; rw [hg]; simp [hf]
    rw [e];refine⟨fun m' h=>(by simp at h),fun _=>?_⟩;have h1:=hw.length_eq;have h2:=hp.length_eq;have h3:=KN (ts:=ts) (c:=gU t c);simp only [List.length_map,List.length_cons] at h1 h2;omega
   ·have e:mZ size g m t=some (fJ m t (jW g (mkW size t))):=by unfold mZ; rw [hg]; simp [hf]
    rw [e]
    have hp':((fJ m t (jW g (mkW size t))).map (·.1)).Perm (gU t c):=by
     rw [VS hk];exact (List.perm_append_comm.trans (List.Perm.cons _ hp)).trans hw.symm
    refine rec1 _ hp' ?_;have h1:=congrArg List.length (VS (v:=jW g (mkW size t)) hk);simp only [List.length_map,List.length_append,List.length_cons,List.length_nil] at h1;omega
  | some p =>
   have e:mZ size g m t=some (fJ m t (jW g p)):=by unfold mZ; rw [hg]
   rw [e]
   have hk:t∈m.map (·.1):=by
    refine Decidable.byContradiction fun h=>?_;rw [KK.2 h] at hg; cases hg
   have hw:gU t c=c:=EF hi (hp.mem_iff.1 hk);have hk2:=VU (v:=jW g p) hk;refine rec1 _ (by rw [hk2,hw]; exact hp) ?_;have h1:=congrArg List.length hk2;simp only [List.length_map] at h1;omega

theorem FZ {size hop frm front:Int}(ok:OkH size hop frm front)(f:List aI):∀ t∈pQ size hop frm front f,-1<t/\t<1125899906842624:=by
 intro t ht;obtain⟨s,_,hs⟩:=List.mem_flatMap.1 ht;have:=KB ok s t hs;omega

theorem QF {size hop frm front:Int}(ok:OkH size hop frm front):∀ {gs:List G1} {m:List (Int×aP)} {c:List Int},Inc (-1) c->(m.map (·.1)).Perm c->m.length<=1024 ->
  (∀ m',tH size hop frm front gs m=some m'->(m'.map (·.1)).Perm (zD c (zT size hop frm front gs))/\m'.length<=1024)/\(tH size hop frm front gs m=none->1024<(zD c (zT size hop frm front gs)).length)
 | [],m,c,_,hp,hl=>⟨fun m' h=>by simp only [tH,dV,Option.some.injEq] at h; subst h; exact ⟨hp,hl⟩,fun h=>by simp [tH,dV] at h⟩
 | g::gs,m,c,hi,hp,hl=>by
  obtain⟨k1,k2⟩:=SJ (size:=size) (g:=g) hi (FZ ok g.2) hp hl;have e:zT size hop frm front (g::gs)=pQ size hop frm front g.2++zT size hop frm front gs:=rfl;rw [e,aAG];simp only [tH,dV]
  cases hs:dV (mZ size g) m (pQ size hop frm front g.2) with
  | none =>
   refine⟨fun m' h=>(by simp at h),fun _=>?_⟩;have:=k2 hs;have:=KN (ts:=zT size hop frm front gs) (c:=zD c (pQ size hop frm front g.2));omega
  | some m1 =>
   obtain⟨p1,p2⟩:=k1 m1 hs;exact QF ok (gs:=gs) (m:=m1) (OM hi (FZ ok g.2)) p1 p2

theorem VI {size:Int}{g:G1}(x:Int):∀ {ts:List Int} {m m':List (Int×aP)},dV (mZ size g) m ts=some m'->gI m' x=if x∈ts then some (jW g ((gI m x).getD (mkW size x))) else gI m x
 | [],m,m',h=>by simp only [dV,Option.some.injEq] at h; subst h; simp
 | t::ts,m,m',h=>by
  simp only [dV] at h;obtain⟨m1,h1,h2⟩:=aW h
  have e:∃ p,m1=fJ m t (jW g p)/\p=(gI m t).getD (mkW size t):=by
   unfold mZ at h1
   cases hg:gI m t with
   | none =>
    rw [hg] at h1;simp only at h1;split at h1
    ·cases h1
    ·cases h1; exact ⟨_,rfl,rfl⟩
   | some p=>rw [hg] at h1; cases h1; exact ⟨_,rfl,rfl⟩
  obtain⟨p,rfl,rfl⟩:=e;rw [VI x h2,MA];by_cases hx:x=t
  ·subst hx;simp only [if_true,List.mem_cons,true_or,Option.getD_some,XR,ite_self]
  ·simp only [hx,if_false,List.mem_cons,false_or]

def BO (size hop frm front x:Int)(o:Option aP)(gs:List G1):Option aP :=
 gs.foldl (fun o g=>if x∈pQ size hop frm front g.2 then some (jW g (o.getD (mkW size x))) else o) o

theorem VM {size hop frm front:Int}(x:Int):∀ {gs:List G1} {m m':List (Int×aP)},tH size hop frm front gs m=some m'->gI m' x=BO size hop frm front x (gI m x) gs
 | [],m,m',h=>by simp only [tH,dV,Option.some.injEq] at h; subst h; rfl
 | g::gs,m,m',h=>by
  simp only [tH,dV] at h;obtain⟨m1,h1,h2⟩:=aW h;have:=VM x (gs:=gs) h2;rw [this,VI x h1];rfl

def xB (size hop frm front x:Int)(gs:List G1):List bK:=gs.filterMap fun g=>if x∈pQ size hop frm front g.2 then some ⟨g.1,nT g.2 x (rT size x)⟩ else none

theorem JL {size hop frm front x:Int}:∀ {gs:List G1} {rs:List bK},EY gs->rs≠[]->(∀ g∈gs,(nI rs).Row≠g.1)->BO size hop frm front x (some ⟨⟨x,rT size x⟩,rs⟩) gs=some ⟨⟨x,rT size x⟩,rs++xB size hop frm front x gs⟩
 | [],rs,_,_,_=>by simp [BO,xB]
 | g::gs,rs,hs,hn,hl=>by
  have hs':=List.pairwise_cons.1 hs;have hg:=hl g (by simp);simp only [BO,List.foldl_cons,Option.getD_some];by_cases hx:x∈pQ size hop frm front g.2
  ·rw [if_pos hx]
   have e:jW g ⟨⟨x,rT size x⟩,rs⟩=⟨⟨x,rT size x⟩,rs++[⟨g.1,nT g.2 x (rT size x)⟩]⟩:=by
    unfold jW;rw [if_pos (.inr hg)]
   rw [e]
   have:=JL (size:=size) (hop:=hop) (frm:=frm) (front:=front) (x:=x) (gs:=gs) (rs:=rs++[⟨g.1,nT g.2 x (rT size x)⟩]) hs'.2 (by simp) (fun q hq=>by
    rw [BQ];intro h;have:=hs'.1 q hq;unfold ltG at this;rw [show g.1=q.1 from h] at this;exact CM this)
   unfold BO at this;rw [this];simp [xB,hx]
  ·rw [if_neg hx];have:=JL (size:=size) (hop:=hop) (frm:=frm) (front:=front) (x:=x) (gs:=gs) (rs:=rs) hs'.2 hn (fun q hq=>hl q (by simp [hq]));unfold BO at this;rw [this];simp [xB,hx]

theorem SQ {size hop frm front x:Int}:∀ {gs:List G1},EY gs->BO size hop frm front x none gs=if xB size hop frm front x gs=[] then none else some ⟨⟨x,rT size x⟩,xB size hop frm front x gs⟩
 | [],_=>by simp [BO,xB]
 | g::gs,hs=>by
  have hs':=List.pairwise_cons.1 hs;simp only [BO,List.foldl_cons,Option.getD_none];by_cases hx:x∈pQ size hop frm front g.2
  ·rw [if_pos hx]
   have e:jW g (mkW size x)=⟨⟨x,rT size x⟩,[⟨g.1,nT g.2 x (rT size x)⟩]⟩:=by
    unfold jW mkW;rw [if_pos (.inl rfl)]; rfl
   rw [e]
   have:=JL (size:=size) (hop:=hop) (frm:=frm) (front:=front) (x:=x) (gs:=gs) (rs:=[⟨g.1,nT g.2 x (rT size x)⟩]) hs'.2 (by simp) (fun q hq h=>by
    have h1:=hs'.1 q hq;unfold ltG at h1;have h2:g.1=q.1:=h;rw [h2] at h1;exact CM h1)
   unfold BO at this;rw [this];simp [xB,hx]
  ·rw [if_neg hx];have:=SQ (size:=size) (hop:=hop) (frm:=frm) (front:=front) (x:=x) (gs:=gs) hs'.2;unfold BO at this;rw [this];have e:xB size hop frm front x (g::gs)=xB size hop frm front x gs:=by simp [xB,hx]
   rw [e]

theorem QY {size hop frm front:Int}(ok:OkH size hop frm front){f:List aI}(hf:iG f=true)(hv:∀ t,0<=val f t){x:Int}:x∈pQ size hop frm front f↔(0<=x/\(∃ k:Int,x=k*hop)/\frm<=x/\x<front/\x<1125899906842624)/\0<nT f x (rT size x):=by
 have hs0:=ok.s0;unfold pQ;rw [List.mem_flatMap];constructor
 ·rintro ⟨s,h1,h2⟩;obtain⟨a1,a2,a3,a4,a5,a6,a7⟩:=(NT ok).1 h2;have hsp:=NJ hf s h1;refine⟨⟨a1,a2,a3,a4,a5⟩,(OB hf hv (by unfold rT; omega)).2 ⟨max x s.From,by omega,by unfold rT; omega,?_⟩⟩;exact (RP hf hv (by omega)).1 ⟨s,h1,by omega,by omega⟩
 ·rintro ⟨⟨a1,a2,a3,a4,a5⟩,h⟩;obtain⟨y,y1,y2,y3⟩:=(OB hf hv (by unfold rT; omega)).1 h;unfold rT at y2;obtain⟨s,h1,h2,h3⟩:=(RP hf hv (by omega)).2 y3;exact⟨s,h1,(NT ok).2 ⟨a1,a2,a3,a4,a5,by omega,by omega⟩⟩

theorem filterMap_eq {α β:Type}{f h:α->Option β}:∀ {l:List α},(∀ a∈l,f a=h a)->l.filterMap f=l.filterMap h
 | [],_=>rfl
 | a::l,H=>by
  rw [List.filterMap_cons,List.filterMap_cons,H a (by simp),filterMap_eq fun b hb=>H b (by simp [hb])]

theorem aC1 {size hop frm front x:Int}(ok:OkH size hop frm front)(hx:0<=x/\(∃ k:Int,x=k*hop)/\frm<=x/\x<front/\x<1125899906842624){gs:List G1}(hg:∀ g∈gs,iG g.2=true /\ ∀ t,0<=val g.2 t):xB size hop frm front x gs=WZ size x gs:=by
 unfold xB WZ;refine filterMap_eq fun g h=>?_;have:=QY ok (hg g h).1 (hg g h).2 (x:=x);by_cases hb:0<nT g.2 x (rT size x)
 ·rw [if_pos (this.2 ⟨hx,hb⟩),if_pos hb]
 ·rw [if_neg (fun q=>hb (this.1 q).2),if_neg hb]

def aGj (size hop frm front:Int)(gs:List G1):List aP:=(IN size hop frm front gs).map fun t=>⟨⟨t,rT size t⟩,WZ size t gs⟩

theorem aEM {size hop frm front x:Int}{gs:List G1}:x∈IN size hop frm front gs ↔ ∃ g∈gs,x∈pQ size hop frm front g.2:=by
 have : IN size hop frm front gs=zD [] (zT size hop frm front gs):=rfl;rw [this,aAA];simp [zT,List.mem_flatMap]

theorem aEU {size hop frm front:Int}(ok:OkH size hop frm front)(gs:List G1):Inc (-1) (IN size hop frm front gs):=by
 refine OM (ts:=zT size hop frm front gs) (c:=[]) trivial fun t ht=>?_;obtain⟨g,_,h⟩:=List.mem_flatMap.1 ht;exact FZ ok g.2 t h

theorem aEb {size hop frm front:Int}(ok:OkH size hop frm front){gs:List G1}(hs:EY gs)(hg:∀ g∈gs,iG g.2=true /\ ∀ t,0<=val g.2 t) :
  (∀ m',tH size hop frm front gs []=some m'->(IN size hop frm front gs).length<=1024/\(m'.map (·.1)).Perm (IN size hop frm front gs) /\ ∀ x∈IN size hop frm front gs,gI m' x=some ⟨⟨x,rT size x⟩,WZ size x gs⟩) /\
  (tH size hop frm front gs []=none->1024<(IN size hop frm front gs).length):=by
 obtain⟨k1,k2⟩:=QF ok (gs:=gs) (m:=[]) (c:=[]) trivial (List.Perm.refl _) (by simp);refine⟨fun m' h=>?_,k2⟩;obtain⟨p1,p2⟩:=k1 m' h;refine⟨?_,p1,fun x hx=>?_⟩
 ·have:=p1.length_eq;simp only [List.length_map] at this;show (zD [] (zT size hop frm front gs)).length<=1024;omega
 ·rw [VM x h];obtain⟨g,hgm,hxg⟩:=aEM.1 hx;have hxx:=(QY ok (hg g hgm).1 (hg g hgm).2).1 hxg;have e:gI ([]:List (Int×aP)) x=none:=rfl;rw [e,SQ hs,←aC1 ok hxx.1 hg,if_neg];intro hc;have : (⟨g.1,nT g.2 x (rT size x)⟩:bK)∈xB size hop frm front x gs:=List.mem_filterMap.2 ⟨g,hgm,by rw [if_pos hxg]⟩;rw [hc] at this;simp at this

end Go.Abs
namespace Go.Abs
open Go
def TY (l:List aK)(size hop frm front:Int):List aP×Int :=
 if !(wV size hop&&jZ l) then ([],2) else if !kS l then ([],20) else if !(oN frm&&oN front) then ([],13)
 else if 1024<(IN size hop frm front (groups l)).length then ([],7) else (aGj size hop frm front (groups l),0)

def aGp (n:Nat)(m:List (Int×aP)):Prop:=∀ t p,gI m t=some p->p.Rows.length<=n/\(p.Rows≠[]->(nI p.Rows).Row.length<=4398046510976)

theorem RQ {size hop frm front:Int}(ok:OkH size hop frm front)(a:List aP)(b:Int):∀ (gs:List G1) (n:Nat) (m:List (Int×aP)),(∀ g∈gs,iG g.2=true/\g.1.length<=4398046510976)->n+gs.length<=900000->aGp n m ->
  ∃ x,itG (fun st r f=>rnd (fun (q:List aP×Int×List (Int×aP))=>nO size hop frm front q.1 q.2.1 q.2.2 r f) st) gs (.inl (a,b,m))=some x/\(∀ m',tH size hop frm front gs m=some m'->x=.inl (a,b,m'))/\(tH size hop frm front gs m=none -> ∃ q,x=.inr ([],7,q))
 | [],n,m,_,_,_=>⟨_,rfl,fun m' h=>by simp only [tH,dV,Option.some.injEq] at h; subst h; rfl,fun h=>by simp [tH,dV] at h⟩
 | g::gs,n,m,hg,hn,hm=>by
  obtain⟨h1,h2⟩:=hg g (by simp);simp only [List.length_cons] at hn;obtain⟨y,e1,e2,e3⟩:=aDH ok (g:=g) h1 h2 (n:=n) (by omega) (m:=m) (fun t p h=>⟨.inl (hm t p h).1,(hm t p h).2⟩);simp only [itG,tH,dV]
  cases hs:dV (mZ size g) m (pQ size hop frm front g.2) with
  | none =>
   have e4:=e3 hs;refine⟨.inr ([],7,y.2),?_,fun m' h=>(by simp at h),fun _=>⟨_,rfl⟩⟩
   have hb:nO size hop frm front a b m g.1 g.2=some (.inr ([],7,y.2)):=by
    unfold nO;rw [e1,Option.bind_some,e4]; rfl
   simp only [rnd,hb,Option.bind_some,Sum.isLeft_inr,Bool.false_eq_true,if_false]
  | some m1 =>
   obtain⟨rfl,hf⟩:=e2 m1 hs
   have hm1:aGp (n+1) m1:=fun t p h=>by
    obtain⟨q1,q2⟩:=hf t p h;refine⟨?_,q2⟩;rcases q1 with q | ⟨_,_,q⟩ <;> omega
   obtain⟨x,f1,f2,f3⟩:=RQ ok a b gs (n+1) m1 (fun q hq=>hg q (by simp [hq])) (by omega) hm1;refine⟨x,?_,f2,f3⟩
   have hb:nO size hop frm front a b m g.1 g.2=some (.inl (a,b,m1)):=by
    unfold nO;rw [e1,Option.bind_some]; rfl
   simp only [rnd,hb,Option.bind_some,Sum.isLeft_inl,if_true];exact f1

theorem QU:∀ (q s:List Int),s.length+q.length<=100000->dV tN s q=some (s++q)
 | [],s,_=>by simp [dV]
 | t::q,s,h=>by
  simp only [List.length_cons] at h
  have e:tN s t=some (s++[t]):=by
   unfold tN;rw [aN (by simp only [List.length_cons,List.length_nil]; omega)]
  simp only [dV,e,Option.bind_some];rw [QU q (s++[t]) (by simp; omega)];simp

theorem aGP {m:List (Int×aP)}{B:List Int}{mk:Int->aP}(hp:(m.map (·.1)).Perm B)(hs:B.Pairwise (· <= ·))(hl:B.length<=1024)(hg:∀ x∈B,gI m x=some (mk x)):yD m=some (B.map mk,0):=by
 have hml:m.length=B.length:=by simpa using hp.length_eq
 unfold yD;rw [aN (by simp only [lN]; omega)];refine MI fun q hq=>?_;have hqB:q.Perm B:=hq.trans hp;have hql:=hqB.length_eq;rw [QU q [] (by simp only [List.length_nil]; omega),Option.bind_some,List.nil_append];unfold FE;rw [aBk (by omega) hqB.symm hs,Option.bind_some,aN (by simp only [lN]; omega)]
 have key:=oU (l:=B) (body:=fun s:List aP×Int=>tX m B (lN B) s.1 s.2) (fun (s:List aP) i=>(s,i)) (fun s r=>s++r.map mk)
  (fun s r=>s.length+r.length<=100000 /\ ∀ x∈r,x∈B) [] ?_ ?_ ⟨by simp only [List.length_nil]; omega,fun x hx=>hx⟩
 ·rw [key];simp
 ·rintro i x r s hx ⟨h1,h2⟩;left;simp only [List.length_cons] at h1;obtain⟨d1,d2,d3,d4⟩:=idx hx (by omega);refine⟨s++[mk x],?_,⟨by simp; omega,fun y hy=>h2 y (by simp [hy])⟩,by simp⟩;simp only [tX,lN,gD,wR,d1,cond_true,aN d2,d3,d4,hg x (h2 x (by simp))];rw [aN (by simp only [List.length_cons,List.length_nil]; omega)]
 ·rintro s _;simp only [tX,lN,gK,cond_false];simp

theorem aAZ {l:List aK}(hl:okL l)(size hop frm front:Int):zE l size hop frm front=some (TY l size hop frm front):=by
 unfold zE TY;simp only [AV,uS,Option.bind_some];rw [show ((((decide ((1:Int)<=size))&&(decide (size<=(1099511627776:Int))))&&(decide ((1:Int)<=hop)))&&(decide (hop<=(1099511627776:Int))))=wV size hop from rfl,show ((decide ((0:Int)<=frm))&&(decide (frm<=(1125899906842624:Int))))=oN frm from rfl,show ((decide ((0:Int)<=front))&&(decide (front<=(1125899906842624:Int))))=oN front from rfl];rw [IE hl,HB hl]
 cases hm:wV size hop with
 | false=>rfl
 | true =>
  cases he:jZ l with
  | false=>rfl
  | true =>
   simp only [Bool.not_true,Bool.not_false,cW,cond_true,Option.bind_some,Bool.or_self,cond_false,Bool.and_self,Bool.false_eq_true,if_false]
   cases ht:kS l with
   | false=>rfl
   | true =>
    simp only [Bool.not_true,cond_false,Bool.false_eq_true,if_false]
    cases h1:oN frm with
    | false=>rfl
    | true =>
     cases h2:oN front with
     | false=>rfl
     | true =>
      simp only [Bool.not_true,Bool.not_false,cond_true,Option.bind_some,Bool.or_self,cond_false,Bool.and_self,Bool.false_eq_true,if_false];have ok:=aGX hm h1 h2;obtain⟨e1,e2,e3⟩:=oA he;have hn:=RY l
      have hv:∀ g∈groups l,iG g.2=true /\ ∀ t,0<=val g.2 t:=fun g hg=>by
       refine⟨(e2 g hg).2,fun t=>?_⟩;have:=(DY.1 ht).2 g.1 t
       rwa [←CC e3,OI e3 hg] at this
      have hrow:∀ g∈groups l,iG g.2=true/\g.1.length<=4398046510976:=fun g hg=>⟨(e2 g hg).2,UF hl hg⟩;unfold FG;simp only [rZ,Option.bind_some];obtain⟨x,f1,f2,f3⟩:=RQ ok [] 0 (groups l) 0 [] hrow (by omega) (fun t p h=>by simp [gI] at h);rw [RS hl (s':=x) (by rw [he]; exact f1),Option.bind_some];obtain⟨k1,k2⟩:=aEb ok e3 hv
      cases hs:tH size hop frm front (groups l) [] with
      | none =>
       obtain⟨q,rfl⟩:=f3 hs;rw [if_pos (k2 hs)]; rfl
      | some m1 =>
       obtain rfl:=f2 m1 hs;obtain⟨p1,p2,p3⟩:=k1 m1 hs;rw [if_neg (by omega)];simp only [Sum.elim_inl];exact aGP p2 (TS (aEU ok _)) p1 p3

end Go.Abs
namespace Go.Abs
open Go
theorem aCo {S:List Int}(hS:S.Pairwise (· < ·))(hl:S.length<=1000000)(t:Int):(∀ i,i<iX S t->S.getD i 0<t)/\(∀ i,iX S t<=i->i<S.length->t<=S.getD i 0):=by
 have hle:=GA S t;obtain⟨_,hs1,hs2⟩:=XA (hS.imp fun h=>by omega) hl t;refine⟨fun i hi=>?_,fun i hi hil=>?_⟩
 ·have hm1:S.getD i 0∈S.take (iX S t):=by
   refine List.mem_of_getElem? (i:=i) ?_;rw [List.getElem?_take,if_pos hi,List.getD_eq_getElem?_getD,List.getElem?_eq_getElem (by omega)]; rfl
  rw [←hs1] at hm1
  simpa using (List.mem_filter.1 hm1).2
 ·have hm1:S.getD i 0∈S.drop (iX S t):=by
   refine List.mem_of_getElem? (i:=i-iX S t) ?_;rw [List.getElem?_drop,show iX S t+(i-iX S t)=i by omega,List.getD_eq_getElem?_getD,List.getElem?_eq_getElem hil]; rfl
  rw [←hs2] at hm1
  simpa using (List.mem_filter.1 hm1).2

theorem aEK {S:List Int}(hS:S.Pairwise (· < ·))(hl:S.length<=1000000){n:Int}(hn:1<=n)(t:Int):HC S n t<=t/\(HC S n t=t∨HC S n t∈S):=by
 obtain⟨g1,g2⟩:=aCo hS hl t;have hle:=GA S t;unfold HC;by_cases hfm:firstM S n t=iX S t
 ·rw [if_pos hfm]; exact ⟨Int.le_refl _,.inl rfl⟩
 ·rw [if_neg hfm];have hf:firstM S n t<iX S t:=by unfold firstM at hfm ⊢; omega
  refine⟨by have:=g1 _ hf; omega,.inr ?_⟩;rw [List.getD_eq_getElem?_getD,List.getElem?_eq_getElem (by omega)];exact List.getElem_mem _

theorem aEd {l:List aK}{n t:Int}(h:(DC l n t).2=0):nE l n=0/\0<=t/\t<=1125899906842624/\(t<1125899906842624->(DC l n t).1=HC (cX l) n t)/\(t=1125899906842624->(DC l n t).1=t):=by
 unfold DC at h ⊢;by_cases hc:nE l n=0
 ·rw [if_neg (by simpa using hc)] at h ⊢;by_cases h1:t<0∨1125899906842624<t
  ·rw [if_pos h1] at h; simp at h
  ·rw [if_neg h1];refine⟨hc,by omega,by omega,fun h2=>by rw [if_neg (by omega)],fun h2=>by rw [if_pos h2]⟩
 ·rw [if_pos hc] at h; exact absurd h hc

end Go.Abs
namespace Go.Abs
open Go
def l28:List aK:=[⟨[XF],3,1⟩,⟨[XF],7,-1⟩]

theorem aC7:okL l28:=⟨by decide,by decide⟩

end Go.Abs
namespace Go.Abs
open Go
theorem aGg {l:List aK}(m:∀ a∈l,zU a)(y:List.length l*40<=140737488351232):okL l :=
 ⟨by omega,fun e he=>by have:=(m e he).1.2; omega⟩

end Go.Abs
namespace Go.Abs
open Go
def tC (w:bW):Bool :=
 if w.Kind=1 then decide (w.Size=0)&&decide (w.Hop=0) else if w.Kind=2 then wV w.Size w.Hop
 else if w.Kind=3 then (decide (1<=w.Size)&&decide (w.Size<=64))&&decide (w.Hop=0) else false

def oD (w:bW)(l:List aK)(t:Int):Int:=if !tC w || !jZ l then 2 else if !kS l then 20 else if !oN t then 13 else 0

theorem CS (w:bW):oV w=some (if tC w then 0 else 2):=by
 unfold oV tC;by_cases h1:w.Kind=1
 ·rw [decide_eq_true h1,cond_true,if_pos h1];unfold lI
  cases decide (w.Size=0)&&decide (w.Hop=0) <;> rfl
 ·by_cases h2:w.Kind=2
  ·rw [decide_eq_false h1,cond_false,decide_eq_true h2,cond_true,if_neg h1,if_pos h2];unfold rF lI wV
   cases decide (1<=w.Size) <;> cases decide (w.Size<=1099511627776) <;> cases decide (1<=w.Hop) <;> cases decide (w.Hop<=1099511627776) <;> rfl
  ·rw [decide_eq_false h1,cond_false,decide_eq_false h2,cond_false,if_neg h1,if_neg h2];by_cases h3:w.Kind=3
   ·rw [decide_eq_true h3,cond_true,if_pos h3];unfold lI
    cases (decide (1<=w.Size)&&decide (w.Size<=64))&&decide (w.Hop=0) <;> rfl
   ·rw [decide_eq_false h3,cond_false,if_neg h3];rfl

theorem IA {l:List aK}(hl:okL l)(w:bW)(t:Int):qW w l t=some (oD w l t):=by
 unfold qW oD;rw [CS,Option.bind_some]
 cases hk:tC w with
 | false=>rfl
 | true =>
  simp only [if_true,decide_true,Bool.not_true,Bool.not_false,Bool.false_or,cW,cond_true,IE hl,Option.bind_some,HB hl]
  cases jZ l with
  | false=>rfl
  | true =>
   cases kS l with
   | false=>rfl
   | true =>
    simp only [Bool.not_true,cond_false,Bool.false_eq_true,if_false];unfold oN;by_cases h1:t<0
    ·have h2:¬ (0:Int)<=t:=by omega
     simp [h1,h2]
    ·have h2:(0:Int)<=t:=by omega
     by_cases h3:(1125899906842624:Int)<t
     ·have h4:¬ t<=(1125899906842624:Int):=by omega
      simp [h2,h3,h4]
     ·have h4:t<=(1125899906842624:Int):=by omega
      simp [h1,h2,h3,h4]

theorem EM {w:bW}{l:List aK}{t:Int}(h:oD w l t=0):tC w=true/\jZ l=true/\kS l=true/\0<=t/\t<=1125899906842624:=by
 unfold oD at h
 cases h1:tC w <;> cases h2:jZ l <;> cases h3:kS l <;> cases h4:oN t <;> simp [h1,h2,h3,h4] at h
 exact⟨rfl,rfl,rfl,BG h4⟩

theorem aGT {w:bW}(h:tC w=true)(h2:w.Kind=2):wV w.Size w.Hop=true:=by
 unfold tC at h;rw [if_neg (by omega),if_pos h2] at h; exact h

theorem aG1 {w:bW}(h:tC w=true)(h3:w.Kind=3):1<=w.Size/\w.Size<=64:=by
 unfold tC at h;rw [if_neg (by omega),if_neg (by omega),if_pos h3] at h;simp only [Bool.and_eq_true,decide_eq_true_eq] at h; omega

def wF (w:bW)(l:List aK)(t:Int):Int×Int :=
 if oD w l t≠0 then (0,oD w l t) else if w.Kind=2 then (min (EN w.Size w.Hop t).1 t,0) else if w.Kind=3 then DC l w.Size t else (t,0)

theorem aEZ {size hop t:Int}(hm:wV size hop=true)(h0:0<=t)(h1:t<=1125899906842624):EN size hop t=(if t=1125899906842624 then 1125899906842624 else min (iS hop (t-size)) 1125899906842624,0):=by
 unfold EN;have : oN t=true:=by unfold oN; simp [h0,h1]
 rw [hm,this];simp only [Bool.not_true,Bool.false_eq_true,if_false];split <;> rfl

theorem IJ {l:List aK}(hl:okL l)(w:bW)(t:Int):qX w l t=some (wF w l t):=by
 unfold qX wF;rw [IA hl,Option.bind_some];by_cases hc:oD w l t=0
 ·obtain⟨hk,_,_,t0,t1⟩:=EM hc;rw [if_neg (by simpa using hc),hc,decide_eq_true rfl,Bool.not_true,cond_false];by_cases h2:w.Kind=2
  ·rw [decide_eq_true h2,cond_true,if_pos h2,aFm,Option.bind_some,aEZ (aGT hk h2) t0 t1];simp only [Int.min_def]
   congr 2
   split <;> split <;> (try split) <;> omega
  ·rw [decide_eq_false h2,cond_false,if_neg h2];by_cases h3:w.Kind=3
   ·rw [decide_eq_true h3,cond_true,if_pos h3,WR hl,Option.bind_some]
   ·rw [decide_eq_false h3,cond_false,if_neg h3]
 ·rw [if_pos hc,decide_eq_false hc]; rfl

def RR (t:Int)(e:aK):Int:=if 0<e.Net then max t (e.At+1) else t

def aCM (l:List aK)(t:Int):Int:=l.foldl RR t

theorem front_eq {l:List aK}(hn:l.length<=1000000)(ha:∀ e∈l,-1<=e.At/\e.At<1125899906842624)(t:Int):uE l t=some (aCM l t):=by
 unfold uE xG;have:=oU (l:=l) (body:=fun s:Int×Int=>pU l ((l.length:Nat):Int) s.1 s.2) (fun (s:Int) i=>(s,i)) (fun s r=>r.foldl RR s) (fun _ r=>∀ e∈r,-1<=e.At/\e.At<1125899906842624) t ?_ ?_ ha
 ·rw [this]; rfl
 ·intro i e r s he hI;left;have hb:=hI e (by simp);refine⟨RR s e,?_,fun q hq=>hI q (by simp [hq]),rfl⟩;obtain⟨d1,d2,d3,d4⟩:=idx he (by omega);have w1:IntKind.i64.wrap (e.At+1)=e.At+1:=cI (by omega) (by omega);simp only [pU,sP,d1,cond_true,aN d2,d3,d4,w1];unfold RR;by_cases h:0<e.Net
  ·rw [decide_eq_true h,cond_true,if_pos h]
   congr 3
   rw [Int.max_def]; split <;> split <;> omega
  ·rw [decide_eq_false h,cond_false,if_neg h]
 ·intro s _;simp only [pU,gK,cond_false]; simp

def ZF (w:bW)(l:List aK)(frm t:Int):List aP×Int :=
 if oD w l t≠0 then ([],oD w l t) else if w.Kind=2 then TY l w.Size w.Hop frm (aCM l t) else if w.Kind=3 then aAg l w.Size frm else aAi l frm

theorem aFQ {l:List aK}(hm:jZ l=true):l.length<=1000000 /\ ∀ e∈l,-1<=e.At/\e.At<1125899906842624:=by
 have:=(oA hm).1;exact⟨by omega,fun e he=>⟨by have:=(uP hm he).2.1; omega,(uP hm he).2.2.1⟩⟩

theorem UD {l:List aK}(hl:okL l)(w:bW)(frm t:Int):uH w l frm t=some (ZF w l frm t):=by
 unfold uH ZF;rw [IA hl,Option.bind_some];by_cases hc:oD w l t=0
 ·obtain⟨hk,hm,_,t0,t1⟩:=EM hc;obtain⟨a1,a2⟩:=aFQ hm;rw [if_neg (by simpa using hc),hc,decide_eq_true rfl,Bool.not_true,cond_false];by_cases h2:w.Kind=2
  ·rw [decide_eq_true h2,cond_true,if_pos h2,front_eq a1 a2,Option.bind_some,aAZ hl,Option.bind_some]
  ·rw [decide_eq_false h2,cond_false,if_neg h2];by_cases h3:w.Kind=3
   ·rw [decide_eq_true h3,cond_true,if_pos h3,TW hl,Option.bind_some]
   ·rw [decide_eq_false h3,cond_false,if_neg h3,YW hl,Option.bind_some]
 ·rw [if_pos hc,decide_eq_false hc]; rfl

theorem aCS {w:bW}{l:List aK}{t:Int}(h:oD w l t=0):wF w l t=if w.Kind=2 then (min (EN w.Size w.Hop t).1 t,0) else if w.Kind=3 then DC l w.Size t else (t,0):=by
 unfold wF; rw [h]; rfl

theorem aC9 {l:List aK}{w:bW}{t:Int}(h:(wF w l t).2=0):oD w l t=0:=by
 unfold wF at h;by_cases c1:oD w l t=0
 ·exact c1
 ·rw [if_pos c1] at h; exact absurd h c1

def w30:bW:=⟨2,10,5⟩

theorem aFD:wF w30 l28 12=(5,0):=by decide +kernel

theorem aFV:ZF w30 l28 0 2=([⟨⟨0,10⟩,[⟨[XF],1⟩]⟩],0):=by decide +kernel

theorem VC:tP=some true:=by
 unfold tP;have h1:=UD aC7 w30 0 2;have h2:=IJ aC7 w30 12;rw [aFV] at h1;rw [aFD] at h2;simp only [l28,XF,w30] at h1 h2;rw [h2,Option.bind_some,h1,Option.bind_some,CS,aN (fun _=>by decide)];rfl

end Go.Abs
namespace Go.Abs
open Go
theorem aEz {l:List aK}(hl:l.length<=4611686018427387900):∃ b,zP l=some b:=by
 unfold zP BX;rw [KS (l:=l.take 61) (body:=fun s=>uK l s) (fun i=>i) (fun e=>decide ((10:Int)<e.Net)) (.inr false) (.inl ()) ?_ ?_]
 ·split
  ·exact⟨_,rfl⟩
  ·exact⟨_,rfl⟩
 ·intro i e he;have hi:i<(l.take 61).length:=(List.getElem?_eq_some_iff.1 he).1;rw [List.length_take] at hi;have he':l[i]?=some e:=by rw [List.getElem?_take,if_pos (by omega)] at he; exact he
  obtain⟨d1,d2,d3,d4⟩:=idx he' (by omega);simp only [uK,d1,decide_eq_true (show ((i:Nat):Int)<=60 by omega),Bool.and_self,cond_true,aN d2,d3,d4]
  cases decide ((10:Int)<e.Net) <;> rfl
 ·have : (decide ((((l.take 61).length:Nat):Int)<((List.length l:Nat):Int))&&decide ((((l.take 61).length:Nat):Int)<=60))=false:=by
   rw [List.length_take,Bool.and_eq_false_iff,decide_eq_false_iff_not,decide_eq_false_iff_not]; omega
  simp only [uK,this,cond_false]

theorem aA2 (size hop:Int):qO size hop=some (wV size hop):=by
 unfold qO wV;have a:decide ((0:Int)<size)=decide ((1:Int)<=size):=decide_eq_decide.2 (by omega);have b:decide ((0:Int)<hop)=decide ((1:Int)<=hop):=decide_eq_decide.2 (by omega);rw [a,b]

theorem NO (w:bW):wL w=some (tC w):=by
 unfold wL tC;by_cases h2:w.Kind=2
 ·rw [decide_eq_true h2,cond_true,if_neg (by omega),if_pos h2,aA2]; rfl
 ·rw [decide_eq_false h2,cond_false];by_cases h0:w.Hop=0
  ·rw [decide_eq_true h0,Bool.not_true,cond_false];by_cases h1:w.Kind=1
   ·have h3:¬ w.Kind=3:=by omega
    simp [h1]
   ·by_cases h3:w.Kind=3
    ·have a:decide ((0:Int)<w.Size)=decide ((1:Int)<=w.Size):=decide_eq_decide.2 (by omega);rw [if_neg h1,if_neg h2,if_pos h3,a];simp [h3]
    ·rw [if_neg h1,if_neg h2,if_neg h3];simp [h1,h3]
  ·rw [decide_eq_false h0,Bool.not_false,cond_true];split
   ·simp
   ·split
    ·simp
    ·rfl

theorem WI {l:List aK}(hl:okL l)(w:bW)(t:Int):wA w l t=some (oD w l t):=by
 unfold wA oD;rw [NO,Option.bind_some];have ht:pK t=some (oN t):=rfl
 cases hk:tC w with
 | false=>rfl
 | true =>
  simp only [Bool.not_true,Bool.not_false,Bool.false_or,cW,cond_true,IM hl,Option.bind_some,MO hl,ht]
  cases jZ l with
  | false=>rfl
  | true =>
   cases kS l with
   | false=>rfl
   | true=>cases oN t <;> rfl

theorem WN {l:List aK}(hl:okL l)(w:bW)(t:Int):vV w l t=some (wF w l t):=by
 unfold vV wF tU;rw [WI hl,Option.bind_some];by_cases hc:oD w l t=0
 ·obtain⟨hk,_,_,t0,t1⟩:=EM hc;rw [if_neg (by simpa using hc),hc,decide_eq_true rfl,Bool.not_true,cond_false];by_cases h3:w.Kind=3
  ·rw [decide_eq_true h3,cond_true,if_neg (by omega),if_pos h3,aCs hl,Option.bind_some]
  ·rw [decide_eq_false h3,cond_false];by_cases h2:w.Kind=2
   ·rw [decide_eq_true h2,cond_true,if_pos h2,aAy,Option.bind_some];by_cases h:(EN w.Size w.Hop t).1<t
    ·rw [decide_eq_true h,cond_true]; congr 2; omega
    ·rw [decide_eq_false h,cond_false]; congr 2; omega
   ·rw [decide_eq_false h2,cond_false,if_neg h2,if_neg h3]
 ·rw [if_pos hc,decide_eq_false hc]; rfl

end Go.Abs
namespace Go.Abs
open Go
theorem aDt {w:bW}{l:List aK}{t:Int}(h:(wF w l t).2=0):(wF w l t).1<=t:=by
 have c1:=aC9 h;obtain⟨kw,ml,_,t0,t1⟩:=EM c1;rw [aCS c1] at h ⊢;by_cases k2:w.Kind=2
 ·rw [if_pos k2]; simp only; omega
 ·rw [if_neg k2] at h ⊢;by_cases k3:w.Kind=3
  ·rw [if_pos k3] at h ⊢;obtain⟨_,_,_,q1,q2⟩:=aEd h;by_cases ht:t=1125899906842624
   ·rw [q2 ht]; exact Int.le_refl _
   ·rw [q1 (by omega)];obtain⟨f1,_,f3,_⟩:=BJ ml;exact (aEK f1 (by omega) (aG1 kw k3).1 t).1
  ·rw [if_neg k3]; exact Int.le_refl _

theorem NC (l0:bW)(m0:zX l0)(l1:(List aK))(m1:∀ a∈l1,zU a)(y1:List.length l1*40<=140737488351232)(a2:Int)(w2:wT a2):qJ l0 l1 a2=some true:=by
 have k1:=aGg m1 y1;unfold qJ;obtain⟨b,hb⟩:=aEz (l:=l1) (by have:=k1.1; omega);rw [hb,Option.bind_some]
 cases b with
 | false=>simp only [Bool.not_false,cond_true,VC,Option.bind_some]
 | true =>
  rw [Bool.not_true,cond_false,IJ k1,Option.bind_some,WN k1,Option.bind_some,VC,Option.bind_some,CS,NO];simp only [decide_true,Bool.and_self,cW,cond_true,Option.bind_some,Bool.true_and]
  have h1:(decide ((if tC l0=true then (0:Int) else 2)=0)==tC l0)=true:=by
   cases tC l0 <;> rfl
  rw [h1,Bool.true_and];by_cases h:(wF l0 l1 a2).2=0
  ·rw [decide_eq_true (aDt h),Bool.or_true]
  ·rw [decide_eq_false h]; rfl

end Go.Abs
