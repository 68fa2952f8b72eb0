/- What the law BagDoes stands on: the framework, the given functions as plain functions, their walks, and the plain laws; part 7. -/
import Derived.Test.YtapehjfhmhfaoaaGreatBagDoesZ6
set_option linter.unusedSimpArgs false
set_option linter.unusedVariables false
namespace Go.Abs
open Go IntKind
theorem aOk {lo n:Nat}{m:Int}(hm:1<=m/\m<=2*n)(h8:8<=n):∀ (q i:Nat) (r:Int) (d:List Int),lo+n / 4*2+2-i=q->lo<=i->i<=lo+n / 4*2+2->lo+n<=d.length->d.length<2305843009213693951 ->
  ∃ d',lp (fun s:List Int×Int×Int=>eG (lo:Nat) (n:Nat) m s.1 s.2.1 s.2.2) (d,r,(i:Int))=some d'/\Rel lo (lo+n) d d':=by
 have t4:i64.wrap (Int.tdiv (n:Int) 4)=((n / 4:Nat):Int)∨2305843009213693951<=n:=by
  by_cases h:n<2305843009213693951
  ·left;have : Int.tdiv (n:Int) 4=((n / 4:Nat):Int):=by rw [Int.tdiv_eq_ediv_of_nonneg (by omega)];omega
   rw [this];exact wrN rfl (by omega)
  ·right;omega
 intro q
 induction q with
 | zero =>
  intro i r d h1 h2 h3 h4 h5;have t4:=t4.resolve_right (by omega);refine⟨d,cY ?_,Rel.refl ..⟩;show eG _ _ _ _ _ _=_;unfold eG;rw [aQ (by decide),t4,wrN (x:=((n / 4:Nat):Int)*2) (n:=n / 4*2) (by omega) (by omega),wrN (x:=(lo:Int)+((n / 4*2:Nat):Int)) (n:=lo+n / 4*2) (by omega) (by omega),wrN (x:=((lo+n / 4*2:Nat):Int)+1) (n:=lo+n / 4*2+1) (by omega) (by omega)];have : decide (((i:Nat):Int)<=((lo+n / 4*2+1:Nat):Int))=false:=by simp;omega
  rw [this,cond_false]
 | succ q ih =>
  intro i r d h1 h2 h3 h4 h5;have t4:=t4.resolve_right (by omega);obtain⟨x,hx⟩:=aIM r;obtain⟨a1,a2⟩:=aNw x.1 (m:=m-1) (by omega) (by omega);have hd:decide (((i:Nat):Int)<=((lo+n / 4*2+1:Nat):Int))=true:=by simp;omega
  have step:∃ o,o<n/\eG (lo:Nat) (n:Nat) m d r (i:Nat)=some (.inl (swp d i (lo+o),x.2,((i+1:Nat):Int))):=by
   unfold eG;rw [aQ (by decide),t4,wrN (x:=((n / 4:Nat):Int)*2) (n:=n / 4*2) (by omega) (by omega),wrN (x:=(lo:Int)+((n / 4*2:Nat):Int)) (n:=lo+n / 4*2) (by omega) (by omega),wrN (x:=((lo+n / 4*2:Nat):Int)+1) (n:=lo+n / 4*2+1) (by omega) (by omega),hd,cond_true,hx];simp only [Option.bind_some];rw [aAL (x:=m-1) (by omega) (by omega)];have e1:i64.wrap (cI .and .u64 x.1 (m-1))=(((cI .and .u64 x.1 (m-1)).toNat:Nat):Int):=wrN (by omega) (by omega);rw [e1];by_cases h:(n:Int)<=(((cI .and .u64 x.1 (m-1)).toNat:Nat):Int)
   ·refine⟨(cI .and .u64 x.1 (m-1)).toNat-n,by omega,?_⟩;simp only [h,decide_true,cond_true];rw [wrN (x:=(((cI .and .u64 x.1 (m-1)).toNat:Nat):Int)-(n:Int)) (n:=(cI .and .u64 x.1 (m-1)).toNat-n) (by omega) (by omega)];exact aJF _ _ _ (by omega) (by omega) h5
   ·refine⟨(cI .and .u64 x.1 (m-1)).toNat,by omega,?_⟩;simp only [h,decide_false,cond_false];exact aJF _ _ _ (by omega) (by omega) h5
  obtain⟨o,ho,hs⟩:=step;obtain⟨d',e,rl⟩:=ih (i+1) x.2 (swp d i (lo+o)) (by omega) (by omega) (by omega) (by rw [mJ];exact h4) (by rw [mJ];exact h5);exact⟨d',(fA (show (fun s:List Int×Int×Int=>eG (lo:Nat) (n:Nat) m s.1 s.2.1 s.2.2) (d,r,(i:Int))=_ from hs)).trans e,(Rel.swp (i:=i) (j:=lo+o) (by omega) (by omega) (by omega) (by omega)).trans rl⟩
theorem aJT {lo hi:Nat}{d:List Int}(h8:8<=hi-lo)(h1:hi<=d.length)(h2:d.length<2305843009213693951):∃ d',mG d (lo:Int) (hi:Int)=some d'/\Rel lo hi d d':=by
 unfold mG;have e1:i64.wrap ((hi:Int)-(lo:Int))=((hi-lo:Nat):Int):=wrN (by omega) (by omega);have d1:decide (8<=((hi-lo:Nat):Int))=true:=by simp;omega
 obtain⟨m,em,m1,m2⟩:=aLl (n:=hi-lo) (by omega) (by omega)
 have t4:i64.wrap (Int.tdiv ((hi-lo:Nat):Int) 4)=(((hi-lo) / 4:Nat):Int):=by
  have : Int.tdiv ((hi-lo:Nat):Int) 4=(((hi-lo) / 4:Nat):Int):=by rw [Int.tdiv_eq_ediv_of_nonneg (by omega)];omega
  rw [this];exact wrN rfl (by omega)
 rw [e1,d1,cond_true,em];simp only [Option.bind_some];rw [aQ (by decide),t4,wrN (x:=(((hi-lo) / 4:Nat):Int)*2) (n:=(hi-lo) / 4*2) (by omega) (by omega),wrN (x:=(lo:Int)+(((hi-lo) / 4*2:Nat):Int)) (n:=lo+(hi-lo) / 4*2) (by omega) (by omega),wrN (x:=((lo+(hi-lo) / 4*2:Nat):Int)-1) (n:=lo+(hi-lo) / 4*2-1) (by omega) (by omega)];unfold oC;obtain⟨d',e,r⟩:=aOk (lo:=lo) (n:=hi-lo) (m:=m) ⟨m1,m2⟩ h8 (lo+(hi-lo) / 4*2+2-(lo+(hi-lo) / 4*2-1)) (lo+(hi-lo) / 4*2-1) (u64.wrap ((hi-lo:Nat):Int)) d rfl (by omega) (by omega) (by omega) h2;rw [e];have : lo+(hi-lo)=hi:=by omega
 rw [this] at r;exact⟨d',rfl,r⟩
theorem aLM {a b:Nat}{d:List Int}(s:Int)(ha:a<d.length)(hb:b<d.length):∃ (p q:Nat) (s':Int),lE d (a:Int) (b:Int) s=some (((p:Int),(q:Int)),s')/\((p=a/\q=b)∨(p=b/\q=a)):=by
 unfold lE;rw [aQ (asN hb),aQ (asN ha),zQ];simp only [Option.bind_some]
 cases decide (d.getD (Int.toNat (b:Int)) default<d.getD (Int.toNat (a:Int)) default)
 ·exact⟨a,b,_,rfl,.inl ⟨rfl,rfl⟩⟩
 ·exact⟨b,a,_,rfl,.inr ⟨rfl,rfl⟩⟩
theorem med {a b c:Nat}{d:List Int}(s:Int)(ha:a<d.length)(hb:b<d.length)(hc:c<d.length):∃ (p:Nat) (s':Int),nG d (a:Int) (b:Int) (c:Int) s=some ((p:Int),s')/\(p=a∨p=b∨p=c):=by
 unfold nG;obtain⟨p1,q1,s1,e1,h1⟩:=aLM s ha hb;obtain⟨p2,q2,s2,e2,h2⟩:=aLM (a:=q1) (b:=c) (d:=d) s1 (by omega) hc;obtain⟨p3,q3,s3,e3,h3⟩:=aLM (a:=p1) (b:=p2) (d:=d) s2 (by omega) (by omega);rw [e1];simp only [Option.bind_some];rw [e2];simp only [Option.bind_some];rw [e3];exact⟨q3,s3,rfl,by omega⟩
theorem aLc {a:Nat}{d:List Int}(s:Int)(h1:1<=a)(ha:a+1<d.length)(hl:d.length<2305843009213693951):∃ (p:Nat) (s':Int),gE d (a:Int) s=some ((p:Int),s')/\a-1<=p/\p<=a+1:=by
 unfold gE;rw [wrN (x:=(a:Int)-1) (n:=a-1) (by omega) (by omega),wrN (x:=(a:Int)+1) (n:=a+1) (by omega) (by omega)];obtain⟨p,s',e,h⟩:=med (a:=a-1) (b:=a) (c:=a+1) (d:=d) s (by omega) (by omega) (by omega);rw [e];exact⟨p,s',rfl,by omega,by omega⟩
theorem aMn (d:List Int)(s j:Int):∃ h,jY d s j=some (j,h):=by
 unfold jY
 cases decide (s=0) <;> cases decide (s=12) <;> exact ⟨_,rfl⟩
theorem aIX {lo hi:Nat}{d:List Int}(h8:12<hi-lo)(h1:hi<=d.length)(h2:d.length<2305843009213693951):∃ (p:Nat) (h:Int),nC d (lo:Int) (hi:Int)=some ((p:Int),h)/\lo<=p/\p<hi:=by
 unfold nC;have e1:i64.wrap ((hi:Int)-(lo:Int))=((hi-lo:Nat):Int):=wrN (by omega) (by omega)
 have t4:i64.wrap (Int.tdiv ((hi-lo:Nat):Int) 4)=(((hi-lo) / 4:Nat):Int):=by
  have : Int.tdiv ((hi-lo:Nat):Int) 4=(((hi-lo) / 4:Nat):Int):=by rw [Int.tdiv_eq_ediv_of_nonneg (by omega)];omega
  rw [this];exact wrN rfl (by omega)
 have d1:decide (8<=((hi-lo:Nat):Int))=true:=by simp;omega
 have q1:i64.wrap ((lo:Int)+i64.wrap ((((hi-lo) / 4:Nat):Int)*1))=((lo+(hi-lo) / 4:Nat):Int):=by
  rw [wrN (x:=(((hi-lo) / 4:Nat):Int)*1) (n:=(hi-lo) / 4) (by omega) (by omega)];exact wrN (by omega) (by omega)
 have q2:i64.wrap ((lo:Int)+i64.wrap ((((hi-lo) / 4:Nat):Int)*2))=((lo+(hi-lo) / 4*2:Nat):Int):=by
  rw [wrN (x:=(((hi-lo) / 4:Nat):Int)*2) (n:=(hi-lo) / 4*2) (by omega) (by omega)];exact wrN (by omega) (by omega)
 have q3:i64.wrap ((lo:Int)+i64.wrap ((((hi-lo) / 4:Nat):Int)*3))=((lo+(hi-lo) / 4*3:Nat):Int):=by
  rw [wrN (x:=(((hi-lo) / 4:Nat):Int)*3) (n:=(hi-lo) / 4*3) (by omega) (by omega)];exact wrN (by omega) (by omega)
 rw [aQ (by decide),aQ (by decide),aQ (by decide)];simp only [e1,t4,d1,q1,q2,q3,cond_true];by_cases b5:50<=((hi-lo:Nat):Int)
 ·simp only [b5,decide_true,cond_true];obtain⟨p1,s1,f1,g1,g2⟩:=aLc (a:=lo+(hi-lo) / 4) (d:=d) 0 (by omega) (by omega) h2;obtain⟨p2,s2,f2,g3,g4⟩:=aLc (a:=lo+(hi-lo) / 4*2) (d:=d) s1 (by omega) (by omega) h2;obtain⟨p3,s3,f3,g5,g6⟩:=aLc (a:=lo+(hi-lo) / 4*3) (d:=d) s2 (by omega) (by omega) h2;obtain⟨p4,s4,f4,g7⟩:=med (a:=p1) (b:=p2) (c:=p3) (d:=d) s3 (by omega) (by omega) (by omega);obtain⟨h,f5⟩:=aMn d s4 p4;rw [f1];simp only [Option.bind_some];rw [f2];simp only [Option.bind_some];rw [f3];simp only [Option.bind_some,jZ];rw [f4];simp only [Option.bind_some];exact⟨p4,h,f5,by omega,by omega⟩
 ·simp only [b5,decide_false,cond_false,jZ];obtain⟨p4,s4,f4,g7⟩:=med (a:=lo+(hi-lo) / 4) (b:=lo+(hi-lo) / 4*2) (c:=lo+(hi-lo) / 4*3) (d:=d) 0 (by omega) (by omega) (by omega);obtain⟨h,f5⟩:=aMn d s4 p4;rw [f4];simp only [Option.bind_some];exact⟨p4,h,f5,by omega,by omega⟩
theorem aDN {body:List Int×Int->Option ((List Int×Int)⊕(List Int×Int))} {d:List Int} {p:Nat->Prop} [DecidablePred p] {j:Nat}
  (hs:∀ i,i<=j+1->body (d,(i:Int))=if i<=j/\p i then some (.inl (d,((i+1:Nat):Int))) else some (.inr (d,(i:Int)))) :
  ∀ (n i:Nat),j+1-i=n->i<=j+1 -> ∃ i':Nat,lp body (d,(i:Int))=some (d,(i':Int))/\i<=i'/\i'<=j+1/\(∀ k,i<=k->k<i'->p k)/\(i'<=j -> ¬ p i'):=by
 intro n
 induction n with
 | zero =>
  intro i h1 h2;have:=hs i h2;rw [if_neg (by omega)] at this;exact⟨i,cY this,Nat.le_refl _,h2,fun k a b=>by omega,fun h=>by omega⟩
 | succ n ih =>
  intro i h1 h2;have h:=hs i h2;by_cases hp:p i
  ·rw [if_pos ⟨by omega,hp⟩] at h;obtain⟨i',e,a1,a2,a3,a4⟩:=ih (i+1) (by omega) (by omega);refine⟨i',(fA h).trans e,by omega,a2,fun k b1 b2=>?_,a4⟩;by_cases hk:k=i
   ·rw [hk];exact hp
   ·exact a3 k (by omega) b2
  ·rw [if_neg fun hh=>hp hh.2] at h;exact⟨i,cY h,Nat.le_refl _,h2,fun k a b=>by omega,fun _=>hp⟩
theorem aA9 {body:List Int×Int->Option ((List Int×Int)⊕(List Int×Int))} {d:List Int} {p:Nat->Prop} [DecidablePred p] {i m:Nat} (hi:1<=i)
  (hs:∀ j,j<=m->body (d,(j:Int))=if i<=j/\p j then some (.inl (d,((j-1:Nat):Int))) else some (.inr (d,(j:Int)))) :
  ∀ (j:Nat),j<=m->i<=j+1 -> ∃ j':Nat,lp body (d,(j:Int))=some (d,(j':Int))/\i<=j'+1/\j'<=j/\(∀ k,j'<k->k<=j->p k)/\(i<=j' -> ¬ p j'):=by
 intro j
 induction j with
 | zero =>
  intro h1 h2;have:=hs 0 h1;rw [if_neg (by omega)] at this;exact⟨0,cY this,by omega,Nat.le_refl _,fun k a b=>by omega,fun h=>by omega⟩
 | succ j ih =>
  intro h1 h2;have h:=hs (j+1) h1;by_cases hp:i<=j+1/\p (j+1)
  ·rw [if_pos hp] at h;obtain⟨j',e,a1,a2,a3,a4⟩:=ih (by omega) (by omega);refine⟨j',(fA h).trans e,a1,by omega,fun k b1 b2=>?_,a4⟩;by_cases hk:k=j+1
   ·rw [hk];exact hp.2
   ·exact a3 k b1 (by omega)
  ·rw [if_neg hp] at h;exact⟨j+1,cY h,by omega,Nat.le_refl _,fun k a b=>by omega,fun h1 h2=>hp ⟨h1,h2⟩⟩
theorem aIs {α:Type}{i j u v:Nat}{d:List Int}{n:Bool}{x y:Option α}(hu:i<=j->u<d.length)(hv:i<=j->v<d.length) :
  (aU ((decide ((i:Int)<=(j:Int)))=true->0<=(u:Int)/\(u:Int)<(d.length:Int)) <|
  aU ((decide ((i:Int)<=(j:Int)))=true->0<=(v:Int)/\(v:Int)<(d.length:Int)) <|
  (cR (decide ((i:Int)<=(j:Int))) (fG (d.getD (Int.toNat (u:Int)) default) (d.getD (Int.toNat (v:Int)) default))).bind fun z =>
  cond ((decide ((i:Int)<=(j:Int)))&&(Bool.xor n z)) x y)=if i<=j/\(Bool.xor n (decide (gN d u<gN d v)))=true then x else y:=by
 by_cases h:i<=j
 ·have hd:decide ((i:Int)<=(j:Int))=true:=by simp;omega
  rw [hd];rw [aQ fun _=>asN (hu h),aQ fun _=>asN (hv h)];simp only [cR,cond_true,zQ,Option.bind_some,Bool.true_and,Int.toNat_natCast,h,true_and,gN]
  cases Bool.xor n (decide (d.getD u default<d.getD v default)) <;> simp
 ·have hd:decide ((i:Int)<=(j:Int))=false:=by simp;omega
  rw [hd,aQ (fun h=>by cases h),aQ (fun h=>by cases h)];simp [cR,h]
theorem aCr {α:Type}{i j u v:Nat}{d:List Int}{x y:Option α}(hu:i<=j->u<d.length)(hv:i<=j->v<d.length) :
  (aU ((decide ((i:Int)<=(j:Int)))=true->0<=(u:Int)/\(u:Int)<(d.length:Int)) <|
  aU ((decide ((i:Int)<=(j:Int)))=true->0<=(v:Int)/\(v:Int)<(d.length:Int)) <|
  (cR (decide ((i:Int)<=(j:Int))) (fG (d.getD (Int.toNat (u:Int)) default) (d.getD (Int.toNat (v:Int)) default))).bind fun z =>
  cond ((decide ((i:Int)<=(j:Int)))&&z) x y)=if i<=j/\gN d u<gN d v then x else y:=by
 have:=aIs (n:=false) (x:=x) (y:=y) hu hv;simp only [Bool.false_xor] at this;exact this.trans (by simp)
theorem aCs {α:Type}{i j u v:Nat}{d:List Int}{x y:Option α}(hu:i<=j->u<d.length)(hv:i<=j->v<d.length) :
  (aU ((decide ((i:Int)<=(j:Int)))=true->0<=(u:Int)/\(u:Int)<(d.length:Int)) <|
  aU ((decide ((i:Int)<=(j:Int)))=true->0<=(v:Int)/\(v:Int)<(d.length:Int)) <|
  (cR (decide ((i:Int)<=(j:Int))) (fG (d.getD (Int.toNat (u:Int)) default) (d.getD (Int.toNat (v:Int)) default))).bind fun z =>
  cond ((decide ((i:Int)<=(j:Int)))&&(!z)) x y)=if i<=j /\ ¬ gN d u<gN d v then x else y:=by
 have:=aIs (n:=true) (x:=x) (y:=y) hu hv;simp only [Bool.true_xor] at this;exact this.trans (by simp)
theorem aMJ {a j:Nat}{d:List Int}(ha:a<d.length)(hj:j<d.length)(hl:d.length<2305843009213693951):∀ i,i<=j+1->gV (a:Nat) (j:Nat) d (i:Nat)=if i<=j/\gN d i<gN d a then some (.inl (d,((i+1:Nat):Int))) else some (.inr (d,(i:Int))):=by
 intro i hi;unfold gV;rw [wrN (x:=(i:Int)+1) (n:=i+1) (by omega) (by omega)];exact aCr (u:=i) (v:=a) (by omega) (by omega)
theorem aLq {a j:Nat}{d:List Int}(ha:a<d.length)(hj:j<d.length)(hl:d.length<2305843009213693951):∀ i,i<=j+1->iH (a:Nat) (j:Nat) d (i:Nat)=if i<=j/\gN d i<gN d a then some (.inl (d,((i+1:Nat):Int))) else some (.inr (d,(i:Int))):=by
 intro i hi;unfold iH;rw [wrN (x:=(i:Int)+1) (n:=i+1) (by omega) (by omega)];exact aCr (u:=i) (v:=a) (by omega) (by omega)
theorem aKO {a i m:Nat}{d:List Int}(hi:1<=i)(ha:a<d.length)(hm:m<d.length)(hl:d.length<2305843009213693951):∀ j,j<=m->iK (a:Nat) (i:Nat) d (j:Nat)=if i<=j /\ ¬ gN d j<gN d a then some (.inl (d,((j-1:Nat):Int))) else some (.inr (d,(j:Int))):=by
 intro j hj;unfold iK;refine (aCs (i:=i) (j:=j) (d:=d) (α:=(List Int×Int)⊕(List Int×Int)) (u:=j) (v:=a) (x:=some (.inl (d,i64.wrap ((j:Int)-1)))) (y:=some (.inr (d,(j:Int)))) (by omega) (by omega)).trans ?_;by_cases h:i<=j /\ ¬ gN d j<gN d a
 ·rw [if_pos h,if_pos h,wrN (x:=(j:Int)-1) (n:=j-1) (by omega) (by omega)]
 ·rw [if_neg h,if_neg h]
theorem aIH {a i m:Nat}{d:List Int}(hi:1<=i)(ha:a<d.length)(hm:m<d.length)(hl:d.length<2305843009213693951):∀ j,j<=m->iI (a:Nat) (i:Nat) d (j:Nat)=if i<=j /\ ¬ gN d j<gN d a then some (.inl (d,((j-1:Nat):Int))) else some (.inr (d,(j:Int))):=by
 intro j hj;unfold iI;refine (aCs (i:=i) (j:=j) (d:=d) (α:=(List Int×Int)⊕(List Int×Int)) (u:=j) (v:=a) (x:=some (.inl (d,i64.wrap ((j:Int)-1)))) (y:=some (.inr (d,(j:Int)))) (by omega) (by omega)).trans ?_;by_cases h:i<=j /\ ¬ gN d j<gN d a
 ·rw [if_pos h,if_pos h,wrN (x:=(j:Int)-1) (n:=j-1) (by omega) (by omega)]
 ·rw [if_neg h,if_neg h]
theorem aLh {a j:Nat}{d:List Int}(ha:a<d.length)(hj:j<d.length)(hl:d.length<2305843009213693951):∀ i,i<=j+1->fN (a:Nat) (j:Nat) d (i:Nat)=if i<=j /\ ¬ gN d a<gN d i then some (.inl (d,((i+1:Nat):Int))) else some (.inr (d,(i:Int))):=by
 intro i hi;unfold fN;rw [wrN (x:=(i:Int)+1) (n:=i+1) (by omega) (by omega)];exact aCs (u:=a) (v:=i) (by omega) (by omega)
theorem aI0 {a i m:Nat}{d:List Int}(hi:1<=i)(ha:a<d.length)(hm:m<d.length)(hl:d.length<2305843009213693951):∀ j,j<=m->fO (a:Nat) (i:Nat) d (j:Nat)=if i<=j/\gN d a<gN d j then some (.inl (d,((j-1:Nat):Int))) else some (.inr (d,(j:Int))):=by
 intro j hj;unfold fO;refine (aCr (i:=i) (j:=j) (d:=d) (α:=(List Int×Int)⊕(List Int×Int)) (u:=a) (v:=j) (x:=some (.inl (d,i64.wrap ((j:Int)-1)))) (y:=some (.inr (d,(j:Int)))) (by omega) (by omega)).trans ?_;by_cases h:i<=j/\gN d a<gN d j
 ·rw [if_pos h,if_pos h,wrN (x:=(j:Int)-1) (n:=j-1) (by omega) (by omega)]
 ·rw [if_neg h,if_neg h]
structure SH (a b i j:Nat) (d:List Int):Prop where
 hi:a<i
 hij:i<=j+1
 hj:j<b
 lo:∀ k,a<k->k<i->gN d k<gN d a
 up:∀ k,j<k->k<b->gN d a<=gN d k
theorem SH.swap {a b i j:Nat}{d:List Int}(h:SH a b i j d)(hb:b<=d.length)(hij:i<j)(h1:gN d a<=gN d i)(h2:gN d j<gN d a):SH a b (i+1) (j-1) (swp d i j):=by
 have:=h.hi;have:=h.hj;have g:=DR (d:=d) (i:=i) (j:=j) (by omega) (by omega);have ga:gN (swp d i j) a=gN d a:=by rw [g,if_neg (by omega),if_neg (by omega)]
 refine⟨by omega,by omega,by omega,fun k k1 k2=>?_,fun k k1 k2=>?_⟩
 ·rw [ga,g,if_neg (by omega)];by_cases hk:k=i
  ·rw [if_pos hk];exact h2
  ·rw [if_neg hk];exact h.lo k k1 (by omega)
 ·rw [ga,g];by_cases hk:k=j
  ·rw [if_pos hk];exact h1
  ·rw [if_neg hk,if_neg (by omega)];exact h.up k (by omega) k2
theorem aCT {a b i j:Nat}{d:List Int}(h:SH a b i j d)(hb:b<=d.length)(hl:d.length<2305843009213693951):∃ i' j':Nat,SH a b i' j' d/\i<=i'/\j'<=j/\(j'<i'->j'+1=i')/\(i'<=j'->i'<j'/\gN d a<=gN d i'/\gN d j'<gN d a) /\
  fB (a:Nat) d (i:Nat) (j:Nat)=kZ d (a:Nat) (i':Nat) (j':Nat)/\kF d (a:Nat) (i:Nat) (j:Nat)=lB d (a:Nat) (i':Nat) (j':Nat):=by
 have h1:=h.hi;have h2:=h.hij;have h3:=h.hj;obtain⟨i',e1,a1,a2,a3,a4⟩:=aDN (body:=fun s=>iH (a:Nat) (j:Nat) s.1 s.2) (d:=d) (p:=fun k=>gN d k<gN d a) (j:=j) (aLq (a:=a) (j:=j) (d:=d) (by omega) (by omega) hl) (j+1-i) i rfl h2;obtain⟨i2,e1',b1,b2,b3,b4⟩:=aDN (body:=fun s=>gV (a:Nat) (j:Nat) s.1 s.2) (d:=d) (p:=fun k=>gN d k<gN d a) (j:=j) (aMJ (a:=a) (j:=j) (d:=d) (by omega) (by omega) hl) (j+1-i) i rfl h2
 have hii:i2=i':=by
  rcases Nat.lt_trichotomy i2 i' with hh | hh | hh
  ·exact absurd (a3 i2 b1 hh) (b4 (by omega))
  ·exact hh
  ·exact absurd (b3 i' a1 hh) (a4 (by omega))
 subst hii;obtain⟨j',f1,c1,c2,c3,c4⟩:=aA9 (body:=fun s=>iI (a:Nat) (i2:Nat) s.1 s.2) (d:=d) (p:=fun k => ¬ gN d k<gN d a) (i:=i2) (m:=j) (by omega) (aIH (a:=a) (i:=i2) (m:=j) (d:=d) (by omega) (by omega) (by omega) hl) j (Nat.le_refl _) a2;obtain⟨j2,f1',g1,g2,g3,g4⟩:=aA9 (body:=fun s=>iK (a:Nat) (i2:Nat) s.1 s.2) (d:=d) (p:=fun k => ¬ gN d k<gN d a) (i:=i2) (m:=j) (by omega) (aKO (a:=a) (i:=i2) (m:=j) (d:=d) (by omega) (by omega) (by omega) hl) j (Nat.le_refl _) a2
 have hjj:j2=j':=by
  rcases Nat.lt_trichotomy j2 j' with hh | hh | hh
  ·exact absurd (g3 j' hh c2) (c4 (by omega))
  ·exact hh
  ·exact absurd (c3 j2 hh g2) (g4 (by omega))
 subst hjj
 have hend:i2<=j2->i2<j2/\gN d a<=gN d i2/\gN d j2<gN d a:=fun hh=>by
  have k1:¬ gN d i2<gN d a:=a4 (by omega);have k2:gN d j2<gN d a:=Classical.byContradiction fun hn=>c4 hh hn;refine⟨?_,by omega,k2⟩;rcases Nat.lt_or_ge i2 j2 with h | h
  ·exact h
  ·have : i2=j2:=by omega
   rw [this] at k1;exact absurd k2 k1
 refine⟨i2,j2,⟨by omega,by omega,by omega,fun k k1 k2=>?_,fun k k1 k2=>?_⟩,a1,c2,fun hh=>by omega,hend,?_,?_⟩
 ·by_cases hk:k<i
  ·exact h.lo k k1 hk
  ·exact a3 k (by omega) k2
 ·by_cases hk:j<k
  ·exact h.up k hk k2
  ·have:=c3 k k1 (by omega);omega
 ·unfold fB qB;rw [show lp (fun s:List Int×Int=>iH (a:Nat) (j:Nat) s.1 s.2) (d,(i:Int))=some (d,(i2:Int)) from e1];simp only [Option.bind_some];unfold pY qG;rw [show lp (fun s:List Int×Int=>iI (a:Nat) (i2:Nat) s.1 s.2) (d,(j:Int))=some (d,(j2:Int)) from f1];rfl
 ·unfold kF;rw [show lp (fun s:List Int×Int=>gV (a:Nat) (j:Nat) s.1 s.2) (d,(i:Int))=some (d,(i2:Int)) from e1'];simp only [Option.bind_some];unfold qF qE;rw [show lp (fun s:List Int×Int=>iK (a:Nat) (i2:Nat) s.1 s.2) (d,(j:Int))=some (d,(j2:Int)) from f1'];rfl
theorem SH.rel {a b i j:Nat}{d:List Int}(h:SH a b i j d)(hb:b<=d.length)(hij:i<=j):Rel (a+1) b d (swp d i j):=by
 have:=h.hi;have:=h.hj;exact Rel.swp (i:=i) (j:=j) (by omega) (by omega) (by omega) (by omega)
theorem aMw {a b:Nat}:∀ (n i j:Nat) (d:List Int),j+1-i=n->b<=d.length->d.length<2305843009213693951->SH a b i j d ->
  ∃ (d':List Int) (j':Nat),lp (fun s:List Int×Int×Int=>fB (a:Nat) s.1 s.2.1 s.2.2) (d,(i:Int),(j:Int))=some (d',(j':Int))/\Rel (a+1) b d d'/\SH a b (j'+1) j' d':=by
 intro n
 induction n using Nat.strongRecOn with
 | ind n ih =>
  intro i j d h1 h2 h3 h;obtain⟨i',j',p1,p2,p3,p4,p5,p6,_⟩:=aCT h h2 h3;have q1:=p1.hi;have q2:=p1.hj;have q3:=p1.hij;by_cases hlt:j'<i'
  ·have hs:fB (a:Nat) d (i:Nat) (j:Nat)=some (.inr (d,(j':Int))):=by
    rw [p6];unfold kZ;have : decide ((j':Int)<(i':Int))=true:=by simp;omega
    rw [this,cond_true]
   have:=p4 hlt;exact⟨d,j',cY hs,Rel.refl ..,by rw [this];exact p1⟩
  ·obtain⟨k1,k2,k3⟩:=p5 (by omega)
   have hs:fB (a:Nat) d (i:Nat) (j:Nat)=some (.inl (swp d i' j',((i'+1:Nat):Int),((j'-1:Nat):Int))):=by
    rw [p6];unfold kZ;have : decide ((j':Int)<(i':Int))=false:=by simp;omega
    rw [this,cond_false];simp only [Int.toNat_natCast];rw [aQ (asN (by omega)),aQ (asN (by omega)),aQ (asN (by omega)),aQ (asN (by omega)),wrN (x:=(i':Int)+1) (n:=i'+1) (by omega) (by omega),wrN (x:=(j':Int)-1) (n:=j'-1) (by omega) (by omega)];rfl
   obtain⟨d',j2,e,r,p⟩:=ih (j'-1+1-(i'+1)) (by omega) (i'+1) (j'-1) (swp d i' j') rfl (by rw [mJ];exact h2) (by rw [mJ];exact h3) (p1.swap h2 k1 k2 k3);exact⟨d',j2,(fA hs).trans e,(p1.rel h2 (by omega)).trans r,p⟩
theorem aFR {a b j:Nat}{d:List Int}(h:SH a b (j+1) j d)(hb:b<=d.length):Rel a b d (swp d j a)/\(∀ k,a<=k->k<j->gN (swp d j a) k<=gN (swp d j a) j)/\(∀ k,j<k->k<b->gN (swp d j a) j<=gN (swp d j a) k):=by
 have h1:=h.hi;have h3:=h.hj;have g:=DR (d:=d) (i:=j) (j:=a) (by omega) (by omega)
 have gj:gN (swp d j a) j=gN d a:=by
  rw [g];by_cases hh:j=a
  ·rw [if_pos hh,hh]
  ·rw [if_neg hh,if_pos rfl]
 refine⟨Rel.swp (i:=j) (j:=a) (by omega) (by omega) (by omega) (by omega),fun k k1 k2=>?_,fun k k1 k2=>?_⟩
 ·rw [gj,g];by_cases hk:k=a
  ·rw [if_pos hk];have:=h.lo j (by omega) (by omega);omega
  ·rw [if_neg hk,if_neg (by omega)];have:=h.lo k (by omega) (by omega);omega
 ·rw [gj,g,if_neg (by omega),if_neg (by omega)];exact h.up k k1 k2
theorem aGA {lo hi p:Nat}{d:List Int}(h0:lo<hi)(hb:hi<=d.length)(hl:d.length<2305843009213693951)(hp:lo<=p/\p<hi) :
  ∃ (m:Nat) (fl:Bool) (d':List Int),lW d (lo:Int) (hi:Int) (p:Int)=some (((m:Int),fl),d')/\lo<=m/\m<hi/\Rel lo hi d d'/\(∀ k,lo<=k->k<m->gN d' k<=gN d' m)/\(∀ k,m<k->k<hi->gN d' m<=gN d' k):=by
 unfold lW;rw [aQ (asN (by omega)),aQ (asN (by omega)),aQ (asN (by omega)),aQ (asN (by omega)),wrN (x:=(lo:Int)+1) (n:=lo+1) (by omega) (by omega),wrN (x:=(hi:Int)-1) (n:=hi-1) (by omega) (by omega)];simp only [Int.toNat_natCast];have r0:Rel lo hi d (swp d lo p):=Rel.swp (i:=lo) (j:=p) (by omega) (by omega) (by omega) (by omega);have l0:(swp d lo p).length=d.length:=mJ ..;have inv:SH lo hi (lo+1) (hi-1) (swp d lo p):=⟨by omega,by omega,by omega,fun k k1 k2=>by omega,fun k k1 k2=>by omega⟩;obtain⟨i',j',p1,p2,p3,p4,p5,_,p6⟩:=aCT inv (by rw [l0];exact hb) (by rw [l0];exact hl);have e0:kF (List.set (d.set lo (d.getD p default)) p (d.getD lo default)) (lo:Int) ((lo+1:Nat):Int) ((hi-1:Nat):Int)=lB (swp d lo p) (lo:Nat) (i':Nat) (j':Nat):=p6;rw [e0];have q1:=p1.hi;have q2:=p1.hj;have q3:=p1.hij
 generalize hg:swp d lo p=d1 at *
 unfold lB;by_cases hlt:j'<i'
 ·have : decide ((j':Int)<(i':Int))=true:=by simp;omega
  rw [this,cond_true];simp only [Int.toNat_natCast];rw [aQ (asN (by omega)),aQ (asN (by omega)),aQ (asN (by omega)),aQ (asN (by omega))];have b5:SH lo hi (j'+1) j' d1:=by rw [p4 hlt];exact p1
  obtain⟨r,a1,a2⟩:=aFR b5 (by omega);exact⟨j',true,swp d1 j' lo,rfl,by omega,by omega,r0.trans r,a1,a2⟩
 ·obtain⟨k1,k2,k3⟩:=p5 (by omega);have : decide ((j':Int)<(i':Int))=false:=by simp;omega
  rw [this,cond_false];simp only [Int.toNat_natCast];rw [aQ (asN (by omega)),aQ (asN (by omega)),aQ (asN (by omega)),aQ (asN (by omega)),wrN (x:=(i':Int)+1) (n:=i'+1) (by omega) (by omega),wrN (x:=(j':Int)-1) (n:=j'-1) (by omega) (by omega)];obtain⟨d2,j2,e,r,pp⟩:=aMw (a:=lo) (b:=hi) (j'-1+1-(i'+1)) (i'+1) (j'-1) (swp d1 i' j') rfl (by rw [mJ];omega) (by rw [mJ];omega) (p1.swap (by omega) k1 k2 k3);have w1:=pp.hi;have w2:=pp.hj;have l2:d2.length=d1.length:=by rw [r.len,mJ]
  unfold qD;rw [show lp (fun s:List Int×Int×Int=>fB (lo:Int) s.1 s.2.1 s.2.2) (List.set (d1.set i' (d1.getD j' default)) j' (d1.getD i' default),((i'+1:Nat):Int),((j'-1:Nat):Int))=some (d2,(j2:Int)) from e];simp only [Option.bind_some,qH,Int.toNat_natCast];rw [aQ (asN (by omega)),aQ (asN (by omega)),aQ (asN (by omega)),aQ (asN (by omega))];obtain⟨rr,a1,a2⟩:=aFR pp (by omega);exact⟨j2,false,swp d2 j2 lo,rfl,by omega,by omega,((r0.trans ((p1.rel (by omega) (by omega)).mono (by omega) (Nat.le_refl _))).trans (r.mono (by omega) (Nat.le_refl _))).trans rr,a1,a2⟩
structure aAt (a b i j:Nat) (d:List Int):Prop where
 hi:a<i
 hij:i<=j+1
 hj:j<b
 lo:∀ k,a<k->k<i->gN d k<=gN d a
 up:∀ k,j<k->k<b->gN d a<gN d k
theorem aAt.swap {a b i j:Nat}{d:List Int}(h:aAt a b i j d)(hb:b<=d.length)(hij:i<j)(h1:gN d a<gN d i)(h2:gN d j<=gN d a):aAt a b (i+1) (j-1) (swp d i j):=by
 have:=h.hi;have:=h.hj;have g:=DR (d:=d) (i:=i) (j:=j) (by omega) (by omega);have ga:gN (swp d i j) a=gN d a:=by rw [g,if_neg (by omega),if_neg (by omega)]
 refine⟨by omega,by omega,by omega,fun k k1 k2=>?_,fun k k1 k2=>?_⟩
 ·rw [ga,g,if_neg (by omega)];by_cases hk:k=i
  ·rw [if_pos hk];exact h2
  ·rw [if_neg hk];exact h.lo k k1 (by omega)
 ·rw [ga,g];by_cases hk:k=j
  ·rw [if_pos hk];exact h1
  ·rw [if_neg hk,if_neg (by omega)];exact h.up k (by omega) k2
theorem aHS {a b i j:Nat}{d:List Int}(h:aAt a b i j d)(hb:b<=d.length)(hl:d.length<2305843009213693951):∃ i' j':Nat,aAt a b i' j' d/\i<=i'/\j'<=j/\(j'<i'->j'+1=i')/\(i'<=j'->i'<j'/\gN d a<gN d i'/\gN d j'<=gN d a) /\
  eD (a:Nat) d (i:Nat) (j:Nat)=iC d (a:Nat) (i':Nat) (j':Nat):=by
 have h1:=h.hi;have h2:=h.hij;have h3:=h.hj;obtain⟨i',e1,a1,a2,a3,a4⟩:=aDN (body:=fun s=>fN (a:Nat) (j:Nat) s.1 s.2) (d:=d) (p:=fun k => ¬ gN d a<gN d k) (j:=j) (aLh (a:=a) (j:=j) (d:=d) (by omega) (by omega) hl) (j+1-i) i rfl h2;obtain⟨j',f1,c1,c2,c3,c4⟩:=aA9 (body:=fun s=>fO (a:Nat) (i':Nat) s.1 s.2) (d:=d) (p:=fun k=>gN d a<gN d k) (i:=i') (m:=j) (by omega) (aI0 (a:=a) (i:=i') (m:=j) (d:=d) (by omega) (by omega) (by omega) hl) j (Nat.le_refl _) a2
 have hend:i'<=j'->i'<j'/\gN d a<gN d i'/\gN d j'<=gN d a:=fun hh=>by
  have k1:gN d a<gN d i':=Classical.byContradiction fun hn=>a4 (by omega) hn;have k2:¬ gN d a<gN d j':=c4 hh;refine⟨?_,k1,by omega⟩;rcases Nat.lt_or_ge i' j' with h | h
  ·exact h
  ·have : i'=j':=by omega
   rw [this] at k1;exact absurd k1 k2
 refine⟨i',j',⟨by omega,by omega,by omega,fun k k1 k2=>?_,fun k k1 k2=>?_⟩,a1,c2,fun hh=>by omega,hend,?_⟩
 ·by_cases hk:k<i
  ·exact h.lo k k1 hk
  ·have:=a3 k (by omega) k2;omega
 ·by_cases hk:j<k
  ·exact h.up k hk k2
  ·exact c3 k k1 (by omega)
 ·unfold eD nW;rw [show lp (fun s:List Int×Int=>fN (a:Nat) (j:Nat) s.1 s.2) (d,(i:Int))=some (d,(i':Int)) from e1];simp only [Option.bind_some];unfold nV nY;rw [show lp (fun s:List Int×Int=>fO (a:Nat) (i':Nat) s.1 s.2) (d,(j:Int))=some (d,(j':Int)) from f1];rfl
theorem aL6 {a b:Nat}:∀ (n i j:Nat) (d:List Int),j+1-i=n->b<=d.length->d.length<2305843009213693951->aAt a b i j d ->
  ∃ (d':List Int) (j':Nat),lp (fun s:List Int×Int×Int=>eD (a:Nat) s.1 s.2.1 s.2.2) (d,(i:Int),(j:Int))=some (d',((j'+1:Nat):Int))/\Rel (a+1) b d d'/\aAt a b (j'+1) j' d':=by
 intro n
 induction n using Nat.strongRecOn with
 | ind n ih =>
  intro i j d h1 h2 h3 h;obtain⟨i',j',p1,p2,p3,p4,p5,p6⟩:=aHS h h2 h3;have q1:=p1.hi;have q2:=p1.hj;have q3:=p1.hij;by_cases hlt:j'<i'
  ·have hs:eD (a:Nat) d (i:Nat) (j:Nat)=some (.inr (d,(i':Int))):=by
    rw [p6];unfold iC;have : decide ((j':Int)<(i':Int))=true:=by simp;omega
    rw [this,cond_true]
   have:=p4 hlt;exact⟨d,j',by rw [this];exact cY hs,Rel.refl ..,by rw [this];exact p1⟩
  ·obtain⟨k1,k2,k3⟩:=p5 (by omega)
   have hs:eD (a:Nat) d (i:Nat) (j:Nat)=some (.inl (swp d i' j',((i'+1:Nat):Int),((j'-1:Nat):Int))):=by
    rw [p6];unfold iC;have : decide ((j':Int)<(i':Int))=false:=by simp;omega
    rw [this,cond_false];simp only [Int.toNat_natCast];rw [aQ (asN (by omega)),aQ (asN (by omega)),aQ (asN (by omega)),aQ (asN (by omega)),wrN (x:=(i':Int)+1) (n:=i'+1) (by omega) (by omega),wrN (x:=(j':Int)-1) (n:=j'-1) (by omega) (by omega)];rfl
   obtain⟨d',j2,e,r,p⟩:=ih (j'-1+1-(i'+1)) (by omega) (i'+1) (j'-1) (swp d i' j') rfl (by rw [mJ];exact h2) (by rw [mJ];exact h3) (p1.swap h2 k1 k2 k3);exact⟨d',j2,(fA hs).trans e,(Rel.swp (i:=i') (j:=j') (by omega) (by omega) (by omega) (by omega)).trans r,p⟩
theorem aES {lo hi p:Nat}{d:List Int}(h0:lo<hi)(hb:hi<=d.length)(hl:d.length<2305843009213693951)(hp:lo<=p/\p<hi) :
  ∃ (m:Nat) (d':List Int),iO d (lo:Int) (hi:Int) (p:Int)=some ((m:Int),d')/\lo<m/\m<=hi/\Rel lo hi d d'/\(∀ k,lo<=k->k<m->gN d' k<=gN d p)/\(∀ k,m<=k->k<hi->gN d p<gN d' k):=by
 unfold iO;rw [aQ (asN (by omega)),aQ (asN (by omega)),aQ (asN (by omega)),aQ (asN (by omega)),wrN (x:=(lo:Int)+1) (n:=lo+1) (by omega) (by omega),wrN (x:=(hi:Int)-1) (n:=hi-1) (by omega) (by omega)];simp only [Int.toNat_natCast];have r0:Rel lo hi d (swp d lo p):=Rel.swp (i:=lo) (j:=p) (by omega) (by omega) (by omega) (by omega);have l0:(swp d lo p).length=d.length:=mJ ..;have g:=DR (d:=d) (i:=lo) (j:=p) (by omega) (by omega)
 have g0:gN (swp d lo p) lo=gN d p:=by
  rw [g];by_cases hh:lo=p
  ·rw [if_pos hh,hh]
  ·rw [if_neg hh,if_pos rfl]
 have inv:aAt lo hi (lo+1) (hi-1) (swp d lo p):=⟨by omega,by omega,by omega,fun k k1 k2=>by omega,fun k k1 k2=>by omega⟩;obtain⟨d',j',e,r,pp⟩:=aL6 (a:=lo) (b:=hi) (hi-1+1-(lo+1)) (lo+1) (hi-1) (swp d lo p) rfl (by rw [l0];exact hb) (by rw [l0];exact hl) inv;have w1:=pp.hi;have w2:=pp.hj;have ga:gN d' lo=gN d p:=by rw [r.out lo (by omega),g0]
 unfold nU;rw [show lp (fun s:List Int×Int×Int=>eD (lo:Int) s.1 s.2.1 s.2.2) (List.set (d.set lo (d.getD p default)) p (d.getD lo default),((lo+1:Nat):Int),((hi-1:Nat):Int))=some (d',((j'+1:Nat):Int)) from e];refine⟨j'+1,d',rfl,by omega,by omega,r0.trans (r.mono (by omega) (Nat.le_refl _)),fun k k1 k2=>?_,fun k k1 k2=>?_⟩
 ·rw [←ga];by_cases hk:k=lo
  ·rw [hk];exact Int.le_refl _
  ·exact pp.lo k (by omega) k2
 ·rw [←ga];exact pp.up k (by omega) k2
theorem aH3 {lo i:Nat}{d:List Int}:∀ (n i':Nat),i'-i=n->yB lo i d->lo<i->(∀ k,i<=k->k<i'->gN d (k-1)<=gN d k)->yB lo i' d
 | 0,i',h,hs,_,_=>fun p q p1 p2 p3=>hs p q p1 p2 (by omega)
 | n+1,i',h,hs,hl,hk=>by
  have ih:=aH3 (d:=d) n (i'-1) (by omega) hs hl fun k k1 k2=>hk k k1 (by omega);intro p q p1 p2 p3;by_cases hq:q=i'-1
  ·by_cases hp:p=q
   ·rw [hp];exact Int.le_refl _
   ·have h1:=hk q (by omega) (by omega);have h2:=ih p (q-1) p1 (by omega) (by omega);omega
  ·exact ih p q p1 p2 (by omega)
theorem aL1 {lo hi:Nat}{d:List Int}(x:Int)(hb:hi<=d.length)(hl:d.length<2305843009213693951):∀ (n i:Nat),hi-i=n->1<=i->i<=hi ->
  ∃ i':Nat,lp (fun s:List Int×Int=>dZ (lo:Nat) (hi:Nat) x s.1 s.2) (d,(i:Int))=some (d,(i':Int))/\i<=i'/\i'<=hi/\(∀ k,i<=k->k<i'->gN d (k-1)<=gN d k):=by
 intro n
 induction n with
 | zero =>
  intro i h1 h2 h3;refine⟨i,cY ?_,Nat.le_refl _,h3,fun k k1 k2=>by omega⟩;show dZ _ _ _ _ _=_;have : decide ((i:Int)<(hi:Int))=false:=by simp;omega
  simp only [dZ,this];rw [aQ (fun h=>by cases h),aQ (fun h=>by cases h)];rfl
 | succ n ih =>
  intro i h1 h2 h3;have hd:decide ((i:Int)<(hi:Int))=true:=by simp;omega
  have hs:dZ (lo:Nat) (hi:Nat) x d (i:Nat)=if gN d i<gN d (i-1) then some (.inr (d,(i:Int))) else some (.inl (d,((i+1:Nat):Int))):=by
   unfold dZ;rw [hd,wrN (x:=(i:Int)-1) (n:=i-1) (by omega) (by omega),wrN (x:=(i:Int)+1) (n:=i+1) (by omega) (by omega),aQ fun _=>asN (by omega),aQ fun _=>asN (by omega)];simp only [cR,cond_true,zQ,Option.bind_some,Bool.true_and,Int.toNat_natCast,gN];by_cases h:d.getD i default<d.getD (i-1) default <;> simp [h]
  by_cases h:gN d i<gN d (i-1)
  ·rw [if_pos h] at hs;exact⟨i,cY hs,Nat.le_refl _,h3,fun k k1 k2=>by omega⟩
  ·rw [if_neg h] at hs;obtain⟨i',e,a1,a2,a3⟩:=ih (i+1) (by omega) (by omega) (by omega);refine⟨i',(fA hs).trans e,by omega,a2,fun k k1 k2=>?_⟩;by_cases hk:k=i
   ·rw [hk];omega
   ·exact a3 k (by omega) k2
theorem aBo {lo hi:Nat}{d d':List Int}(r:Rel lo hi d d')(h:lo=0 ∨ ∀ k,lo<=k->k<hi->gN d (lo-1)<=gN d k):lo=0 ∨ ∀ k,lo<=k->k<hi->gN d' (lo-1)<=gN d' k:=by
 by_cases h0:lo=0
 ·exact .inl h0
 ·rcases h with h | h
  ·exact .inl h
  ·exact .inr fun k k1 k2=>by
    rw [r.out (lo-1) (by omega)];exact r.all (p:=fun v=>gN d (lo-1)<=v) h k k1 k2
theorem aLZ {lo hi i:Nat}(x y:Int):∀ (j:Nat) (d:List Int),lo<=j->j<=i->i<d.length->d.length<2305843009213693951->aAX lo j i d->(lo=0 ∨ ∀ k,lo<=k->k<=i->gN d (lo-1)<=gN d k) ->
  ∃ d',lp (fun s:List Int×Int=>dP (lo:Nat) (hi:Nat) x y s.1 s.2) (d,(j:Int))=some d'/\Rel lo (i+1) d d'/\yB lo (i+1) d':=by
 intro j
 induction j with
 | zero =>
  intro d h1 h2 h3 h4 h5 h6;refine⟨d,cY ?_,Rel.refl ..,h5.done h1 (by omega)⟩;show dP _ _ _ _ _ _=_;have : decide (1<=((0:Nat):Int))=false:=by simp
  simp only [dP,this,cond_false]
 | succ j ih =>
  intro d h1 h2 h3 h4 h5 h6;have hd:decide (1<=((j+1:Nat):Int))=true:=by simp;omega
  have hs:dP (lo:Nat) (hi:Nat) x y d ((j+1:Nat):Int)=if gN d (j+1)<gN d j then some (.inl (swp d (j+1) j,(j:Int))) else some (.inr d):=by
   unfold dP;rw [hd,cond_true,wrN (x:=((j+1:Nat):Int)-1) (n:=j) (by omega) (by omega),aQ (asN (by omega)),aQ (asN (by omega))];simp only [zQ,Option.bind_some,Int.toNat_natCast,gN];by_cases h:d.getD (j+1) default<d.getD j default
   ·simp only [h,decide_true,Bool.not_true,cond_false,if_true];rw [aQ (asN (by omega)),aQ (asN (by omega)),aQ (asN (by omega)),aQ (asN (by omega))];rfl
   ·simp only [h,decide_false,Bool.not_false,cond_true,if_false]
  by_cases h:gN d (j+1)<gN d j
  ·rw [if_pos h] at hs
   have hlo:lo<j+1:=by
    rcases h6 with h6 | h6
    ·omega
    ·rcases Nat.lt_or_ge lo (j+1) with hh | hh
     ·exact hh
     ·have : lo=j+1:=by omega
      have h7:=h6 (j+1) (by omega) h2;rw [this] at h7;simp only [Nat.add_sub_cancel] at h7;omega
   have r1:Rel lo (i+1) d (swp d (j+1) j):=Rel.swp (i:=j+1) (j:=j) (by omega) (by omega) (by omega) (by omega);obtain⟨d',e,r,s⟩:=ih (swp d (j+1) j) (by omega) (by omega) (by rw [mJ];exact h3) (by rw [mJ];exact h4) (h5.next hlo h2 h3 h) ((aBo r1 (h6.imp id fun h k a b=>h k a (by omega))).imp id fun h k a b=>h k a (by omega));exact⟨d',(fA hs).trans e,r1.trans r,s⟩
  ·rw [if_neg h] at hs;exact⟨d,cY hs,Rel.refl ..,h5.done h1 fun hh=>h hh.2⟩
theorem aOb {lo hi i:Nat}(x y:Int):∀ (n j:Nat) (d:List Int),hi-j=n->i<j->hi<=d.length->d.length<2305843009213693951 ->
  ∃ d',lp (fun s:List Int×Int=>dY (lo:Nat) (hi:Nat) x y s.1 s.2) (d,(j:Int))=some d'/\Rel i hi d d':=by
 intro n
 induction n with
 | zero =>
  intro j d h1 h2 h3 h4;refine⟨d,cY ?_,Rel.refl ..⟩;show dY _ _ _ _ _ _=_;have : decide ((j:Int)<(hi:Int))=false:=by simp;omega
  simp only [dY,this,cond_false]
 | succ n ih =>
  intro j d h1 h2 h3 h4;have hd:decide ((j:Int)<(hi:Int))=true:=by simp;omega
  have hs:dY (lo:Nat) (hi:Nat) x y d (j:Nat)=if gN d j<gN d (j-1) then some (.inl (swp d j (j-1),((j+1:Nat):Int))) else some (.inr d):=by
   unfold dY;rw [hd,cond_true,wrN (x:=(j:Int)-1) (n:=j-1) (by omega) (by omega),wrN (x:=(j:Int)+1) (n:=j+1) (by omega) (by omega),aQ (asN (by omega)),aQ (asN (by omega))];simp only [zQ,Option.bind_some,Int.toNat_natCast,gN];by_cases h:d.getD j default<d.getD (j-1) default
   ·simp only [h,decide_true,Bool.not_true,cond_false,if_true];rw [aQ (asN (by omega)),aQ (asN (by omega)),aQ (asN (by omega)),aQ (asN (by omega))];rfl
   ·simp only [h,decide_false,Bool.not_false,cond_true,if_false]
  by_cases h:gN d j<gN d (j-1)
  ·rw [if_pos h] at hs;obtain⟨d',e,r⟩:=ih (j+1) (swp d j (j-1)) (by omega) (by omega) (by rw [mJ];exact h3) (by rw [mJ];exact h4);exact⟨d',(fA hs).trans e,(Rel.swp (i:=j) (j:=j-1) (by omega) (by omega) (by omega) (by omega)).trans r⟩
  ·rw [if_neg h] at hs;exact⟨d,cY hs,Rel.refl ..⟩
theorem aJ7 {lo hi i:Nat}(x:Int){d:List Int}(h1:lo<i)(h2:i<hi)(h3:hi<=d.length)(h4:d.length<2305843009213693951) :
  ∃ d',eM d (lo:Nat) (hi:Nat) (i:Nat) x=some (.inl (d',(i:Int),i64.wrap (x+1)))/\Rel i hi d d':=by
 unfold eM;rw [wrN (x:=(hi:Int)-(i:Int)) (n:=hi-i) (by omega) (by omega)];by_cases h:2<=((hi-i:Nat):Int)
 ·simp only [h,decide_true,cond_true];unfold lI;rw [wrN (x:=(i:Int)+1) (n:=i+1) (by omega) (by omega)];obtain⟨d',e,r⟩:=aOb (lo:=lo) (hi:=hi) (i:=i) (i:Int) x (hi-(i+1)) (i+1) d rfl (by omega) h3 h4;rw [e];exact⟨d',rfl,r⟩
 ·simp only [h,decide_false,cond_false];exact⟨d,rfl,Rel.refl ..⟩
theorem aMa {lo hi i:Nat}(x:Int){d:List Int}(h1:lo<i)(h2:i<=hi)(h3:hi<=d.length)(h4:d.length<2305843009213693951)(hs:yB lo i d)(hb:lo=0 ∨ ∀ k,lo<=k->k<hi->gN d (lo-1)<=gN d k) :
  (∃ (fl:Bool) (d':List Int),eN d (lo:Nat) (hi:Nat) (i:Nat) x=some (.inr (.inr (fl,d')))/\Rel lo hi d d'/\(fl=true->yB lo hi d')) ∨
  (∃ (d':List Int) (i':Nat),eN d (lo:Nat) (hi:Nat) (i:Nat) x=some (.inl (d',(i':Int),i64.wrap (x+1)))/\Rel lo hi d d'/\lo<i'/\i'<=hi/\yB lo i' d'):=by
 unfold eN;obtain⟨i',e,a1,a2,a3⟩:=aL1 (lo:=lo) (hi:=hi) x h3 h4 (hi-i) i rfl (by omega) h2;rw [e];simp only [Option.bind_some];have hs':=aH3 (i'-i) i' rfl hs h1 a3;unfold lH;by_cases hi':i'=hi
 ·have : decide ((i':Int)=(hi:Int))=true:=by simp;omega
  rw [this,cond_true];left;exact⟨true,d,rfl,Rel.refl ..,fun _=>hi' ▸ hs'⟩
 ·have hne:decide ((i':Int)=(hi:Int))=false:=by simp;omega
  rw [hne,cond_false,wrN (x:=(hi:Int)-(lo:Int)) (n:=hi-lo) (by omega) (by omega)];by_cases b5:((hi-lo:Nat):Int)<50
  ·simp only [b5,decide_true,cond_true];left;exact⟨false,d,rfl,Rel.refl ..,fun h=>by cases h⟩
  ·simp only [b5,decide_false,cond_false];rw [wrN (x:=(i':Int)-1) (n:=i'-1) (by omega) (by omega),wrN (x:=(i':Int)-(lo:Int)) (n:=i'-lo) (by omega) (by omega)];simp only [Int.toNat_natCast];rw [aQ (asN (by omega)),aQ (asN (by omega)),aQ (asN (by omega)),aQ (asN (by omega))];have r1:Rel lo hi d (swp d i' (i'-1)):=Rel.swp (i:=i') (j:=i'-1) (by omega) (by omega) (by omega) (by omega);have l1:(swp d i' (i'-1)).length=d.length:=mJ ..;have g:=DR (d:=d) (i:=i') (j:=i'-1) (by omega) (by omega);right;by_cases hge:2<=((i'-lo:Nat):Int)
   ·simp only [hge,decide_true,cond_true];unfold lG
    have ins:aAX lo (i'-1) (i'-1) (swp d i' (i'-1)):=⟨fun p q p1 p2 p3 p4 p5=>by
     rw [g,g,if_neg p4,if_neg p5,if_neg (by omega),if_neg (by omega)];exact hs' p q p1 p2 (by omega),fun q q1 q2=>by omega⟩
    obtain⟨d2,e2,r2,s2⟩:=aLZ (lo:=lo) (hi:=hi) (i:=i'-1) (i':Int) x (i'-1) (swp d i' (i'-1)) (by omega) (Nat.le_refl _) (by rw [l1];omega) (by rw [l1];exact h4) ins ((aBo r1 hb).imp id fun h k a b=>h k a (by omega));have e2':lp (fun s:List Int×Int=>dP (lo:Int) (hi:Int) (i':Int) x s.1 s.2) (List.set (d.set i' (d.getD (i'-1) default)) (i'-1) (d.getD i' default),((i'-1:Nat):Int))=some d2:=e2;rw [e2'];simp only [Option.bind_some];rw [show i'-1+1=i' by omega] at r2 s2;have l2:d2.length=d.length:=by rw [r2.len,l1]
    obtain⟨d3,e3,r3⟩:=aJ7 (lo:=lo) (hi:=hi) (i:=i') x (d:=d2) (by omega) (by omega) (by omega) (by omega);rw [e3];refine⟨d3,i',rfl,(r1.trans (r2.mono (Nat.le_refl _) (by omega))).trans (r3.mono (by omega) (Nat.le_refl _)),by omega,a2,fun p q p1 p2 p3=>?_⟩;rw [r3.out p (by omega),r3.out q (by omega)];exact s2 p q p1 p2 p3
   ·simp only [hge,decide_false,cond_false];obtain⟨d3,e3,r3⟩:=aJ7 (lo:=lo) (hi:=hi) (i:=i') x (d:=swp d i' (i'-1)) (by omega) (by omega) (by omega) (by omega);have e3':eM (List.set (d.set i' (d.getD (i'-1) default)) (i'-1) (d.getD i' default)) (lo:Int) (hi:Int) (i':Int) x=_:=e3;rw [e3'];refine⟨d3,i',rfl,r1.trans (r3.mono (by omega) (Nat.le_refl _)),by omega,a2,?_⟩;have : i'=lo+1:=by omega
    rw [this];exact aCn lo d3
theorem aNS {lo hi:Nat}:∀ (n x i:Nat) (d:List Int),5-x=n->lo<i->i<=hi->hi<=d.length->d.length<2305843009213693951->yB lo i d->(lo=0 ∨ ∀ k,lo<=k->k<hi->gN d (lo-1)<=gN d k)->x<=5 ->
  ∃ (fl:Bool) (d':List Int),(lp (fun s:List Int×Int×Int=>cQ (lo:Nat) (hi:Nat) s.1 s.2.1 s.2.2) (d,(i:Int),(x:Int))).bind (Sum.elim (fun rr=>lJ rr) (fun rr=>some (rr.1,rr.2)))=some (fl,d')/\Rel lo hi d d'/\(fl=true->yB lo hi d'):=by
 intro n
 induction n with
 | zero =>
  intro x i d h1 h2 h3 h4 h5 h6 h7 h8
  have hs:cQ (lo:Nat) (hi:Nat) d (i:Nat) (x:Nat)=some (.inr (.inl d)):=by
   have : decide ((x:Int)<5)=false:=by simp;omega
   simp only [cQ,this,cond_false]
  rw [cY (show (fun s:List Int×Int×Int=>cQ (lo:Nat) (hi:Nat) s.1 s.2.1 s.2.2) (d,(i:Int),(x:Int))=_ from hs)];exact⟨false,d,rfl,Rel.refl ..,fun h=>by cases h⟩
 | succ n ih =>
  intro x i d h1 h2 h3 h4 h5 h6 h7 h8
  have b5:cQ (lo:Nat) (hi:Nat) d (i:Nat) (x:Nat)=eN d (lo:Nat) (hi:Nat) (i:Nat) (x:Nat):=by
   have : decide ((x:Int)<5)=true:=by simp;omega
   simp only [cQ,this,cond_true]
  rcases aMa (lo:=lo) (hi:=hi) (x:Int) h2 h3 h4 h5 h6 h7 with ⟨fl,d',e,r,s⟩ | ⟨d',i',e,r,k1,k2,s⟩
  ·rw [cY (show (fun s:List Int×Int×Int=>cQ (lo:Nat) (hi:Nat) s.1 s.2.1 s.2.2) (d,(i:Int),(x:Int))=_ from b5.trans e)];exact⟨fl,d',rfl,r,s⟩
  ·rw [wrN (x:=(x:Int)+1) (n:=x+1) (by omega) (by omega)] at e;obtain⟨fl,d2,e2,r2,s2⟩:=ih (x+1) i' d' (by omega) k1 k2 (by rw [r.len];exact h4) (by rw [r.len];exact h5) s (aBo r h7) (by omega);rw [fA (show (fun s:List Int×Int×Int=>cQ (lo:Nat) (hi:Nat) s.1 s.2.1 s.2.2) (d,(i:Int),(x:Int))=_ from b5.trans e)];exact⟨fl,d2,e2,r.trans r2,s2⟩
theorem aLQ {lo hi:Nat}{d:List Int}(h0:lo<hi)(h1:hi<=d.length)(h2:d.length<2305843009213693951)(hb:lo=0 ∨ ∀ k,lo<=k->k<hi->gN d (lo-1)<=gN d k) :
  ∃ (fl:Bool) (d':List Int),iM d (lo:Int) (hi:Int)=some (fl,d')/\Rel lo hi d d'/\(fl=true->yB lo hi d'):=by
 unfold iM lF;rw [wrN (x:=(lo:Int)+1) (n:=lo+1) (by omega) (by omega)];exact aNS (lo:=lo) (hi:=hi) (5-0) 0 (lo+1) d rfl (by omega) (by omega) h1 h2 (aCn lo d) hb (by omega)
abbrev PS:=List Int×Int×Int×Int×Bool×Bool
abbrev PR:=List Int->Int->Int->Int->Option (List Int)
def WJ (a b:Nat)(d d':List Int):Prop:=Rel a b d d'/\yB a b d'
structure OZ (a b lim:Nat) (d:List Int):Prop where
 ab:a<=b
 bl:b<=d.length
 len:d.length<2305843009213693951
 bnd:a=0 ∨ ∀ k,a<=k->k<b->gN d (a-1)<=gN d k
 lim:lim<=100
def aBj (rec:PR)(N:Nat):Prop:=∀ (d:List Int) (a b lim:Nat),OZ a b lim d->(rec d (a:Int) (b:Int) (lim:Int)=none/\N<=b-a) ∨ ∃ d',rec d (a:Int) (b:Int) (lim:Int)=some d'/\WJ a b d d'
def YZ (N a b:Nat)(d:List Int)(F:Option (PS⊕List Int)):Prop :=
 (F=none/\N+1<=b-a)∨(∃ d',F=some (.inr d')/\WJ a b d d') ∨
 ∃ (d':List Int) (a' b' lim':Nat) (wb wp:Bool),F=some (.inl (d',(a':Int),(b':Int),(lim':Int),wb,wp))/\b'-a'<b-a/\OZ a' b' lim' d' /\ ∀ d'',WJ a' b' d' d''->WJ a b d d''
theorem WJ.pre {a b:Nat}{d d1 d':List Int}(r:Rel a b d d1)(h:WJ a b d1 d'):WJ a b d d':=⟨r.trans h.1,h.2⟩
theorem YZ.pre {N a b:Nat}{d d1:List Int}{F:Option (PS⊕List Int)}(r:Rel a b d d1)(h:YZ N a b d1 F):YZ N a b d F:=by
 rcases h with h | ⟨d',h1,h2⟩ | ⟨d',a',b',lim',wb,wp,h1,h2,h3,h4⟩
 ·exact .inl h
 ·exact .inr (.inl ⟨d',h1,h2.pre r⟩)
 ·exact .inr (.inr ⟨d',a',b',lim',wb,wp,h1,h2,h3,fun d'' hg=>(h4 d'' hg).pre r⟩)
theorem OZ.rel {a b lim:Nat}{d d1:List Int}(h:OZ a b lim d)(r:Rel a b d d1):OZ a b lim d1 :=
 ⟨h.ab,by rw [r.len];exact h.bl,by rw [r.len];exact h.len,aBo r h.bnd,h.lim⟩
theorem aGw {a m b:Nat}{d:List Int}(hm:m<b)(h1:∀ k,a<=k->k<m->gN d k<=gN d m)(h2:∀ k,m<k->k<b->gN d m<=gN d k)(s1:yB a m d)(s2:yB (m+1) b d):yB a b d:=by
 intro p q p1 p2 p3;by_cases hq:q<m
 ·exact s1 p q p1 p2 hq
 ·by_cases hp:m<p
  ·exact s2 p q hp p2 p3
  ·have g1:gN d p<=gN d m:=by
    by_cases e:p=m
    ·rw [e];exact Int.le_refl _
    ·exact h1 p p1 (by omega)
   have g2:gN d m<=gN d q:=by
    by_cases e:q=m
    ·rw [e];exact Int.le_refl _
    ·exact h2 q (by omega) p3
   omega
theorem aKC {rec:PR}{N a b lim p:Nat}{d:List Int}(hrec:aBj rec N)(hv:OZ a b lim d)(h12:12<b-a)(hp:a<=p/\p<b)(wb wp:Bool)(len:Int) :
  YZ N a b d (mN rec d (a:Int) (b:Int) (lim:Int) wb wp len (p:Int)):=by
 have hb:=hv.bl;have hl:=hv.len
 -- with all equal ones on the left
 have eqc:0<a -> ¬ gN d (a-1)<gN d p->YZ N a b d ((iO d (a:Int) (b:Int) (p:Int)).bind fun b7=>some (.inl (b7.2,b7.1,(b:Int),(lim:Int),wb,wp))):=by
  intro ha hn;obtain⟨m,d',e,m1,m2,r,q1,q2⟩:=aES (lo:=a) (hi:=b) (p:=p) (d:=d) (by omega) hb hl hp
  have hall:∀ k,a<=k->k<b->gN d p<=gN d' k:=by
   refine r.all (p:=fun v=>gN d p<=v) fun k k1 k2=>?_;rcases hv.bnd with h | h
   ·omega
   ·have:=h k k1 k2;omega
  rw [e];refine .inr (.inr ⟨d',m,b,lim,wb,wp,rfl,by omega,⟨m2,by rw [r.len];exact hb,by rw [r.len];exact hl,.inr fun k k1 k2=>?_,hv.lim⟩,fun d'' hg=>⟨r.trans (hg.1.mono (by omega) (Nat.le_refl _)),fun x y x1 x2 x3=>?_⟩⟩)
  ·have:=q1 (m-1) (by omega) (by omega);have:=q2 k k1 k2;omega
  ·by_cases hx:m<=x
   ·exact hg.2 x y hx x2 x3
   ·rw [hg.1.out x (by omega)];have g1:=q1 x x1 (by omega);by_cases hy:y<m
    ·rw [hg.1.out y (by omega)];have g2:=hall y (by omega) (by omega);omega
    ·have g2:=hg.1.all (p:=fun v=>gN d p<v) q2 y (by omega) x3;omega
 -- a partition,and the lesser part first
 have ptc:YZ N a b d ((lW d (a:Int) (b:Int) (p:Int)).bind fun b5 =>
   aU ((8:Int)≠0) <|
   cond (decide ((i64.wrap (b5.1.1-(a:Int)))<(i64.wrap ((b:Int)-b5.1.1))))
   ((rec b5.2 (a:Int) b5.1.1 (lim:Int)).bind fun b8 =>
   some (.inl (b8,i64.wrap (b5.1.1+1),(b:Int),(lim:Int),decide ((i64.wrap (Int.tdiv len (8:Int)))<=(i64.wrap (b5.1.1-(a:Int)))),b5.1.2)))
   ((rec b5.2 (i64.wrap (b5.1.1+1)) (b:Int) (lim:Int)).bind fun b9 =>
   some (.inl (b9,(a:Int),b5.1.1,(lim:Int),decide ((i64.wrap (Int.tdiv len (8:Int)))<=(i64.wrap ((b:Int)-b5.1.1))),b5.1.2)))):=by
  obtain⟨m,fl,d1,e,m1,m2,r,q1,q2⟩:=aGA (lo:=a) (hi:=b) (p:=p) (d:=d) (by omega) hb hl hp;have b6:=hv.rel r;rw [e];simp only [Option.bind_some];rw [aQ (by decide),wrN (x:=(m:Int)+1) (n:=m+1) (by omega) (by omega)];have vL:OZ a m lim d1:=⟨m1,by have:=b6.bl;omega,b6.len,b6.bnd.imp id fun h k k1 k2=>h k k1 (by omega),hv.lim⟩;have vR:OZ (m+1) b lim d1:=⟨by omega,b6.bl,b6.len,.inr fun k k1 k2=>by simpa using q2 k (by omega) k2,hv.lim⟩
  cases decide ((i64.wrap ((m:Int)-(a:Int)))<(i64.wrap ((b:Int)-(m:Int)))) with
  | true =>
   rw [cond_true];rcases hrec d1 a m lim vL with ⟨hn,hN⟩ | ⟨d2,e2,g2⟩
   ·rw [hn];exact .inl ⟨rfl,by omega⟩
   ·rw [e2];simp only [Option.bind_some];have top:gN d2 m=gN d1 m:=g2.1.out m (by omega);refine .inr (.inr ⟨d2,m+1,b,lim,_,_,rfl,by omega,⟨by omega,by rw [g2.1.len];exact b6.bl,by rw [g2.1.len];exact b6.len,.inr fun k k1 k2=>?_,hv.lim⟩,fun d3 hg=>⟨(r.trans (g2.1.mono (Nat.le_refl _) (by omega))).trans (hg.1.mono (by omega) (Nat.le_refl _)),?_⟩⟩)
    ·rw [show m+1-1=m by omega,top,g2.1.out k (by omega)];exact q2 k (by omega) k2
    ·have o3:∀ k,k<=m->gN d3 k=gN d2 k:=fun k hk=>hg.1.out k (by omega);refine aGw m2 (fun k k1 k2=>?_) (fun k k1 k2=>?_) (fun x y x1 x2 x3=>by rw [o3 x (by omega),o3 y (by omega)];exact g2.2 x y x1 x2 x3) hg.2
     ·rw [o3 k (by omega),o3 m (by omega),top];exact g2.1.all (p:=fun v=>v<=gN d1 m) q1 k k1 k2
     ·rw [o3 m (by omega),top];exact hg.1.all (p:=fun v=>gN d1 m<=v) (fun k k1 k2=>by rw [g2.1.out k (by omega)];exact q2 k (by omega) k2) k (by omega) k2
  | false =>
   rw [cond_false];rcases hrec d1 (m+1) b lim vR with ⟨hn,hN⟩ | ⟨d2,e2,g2⟩
   ·rw [hn];exact .inl ⟨rfl,by omega⟩
   ·rw [e2];simp only [Option.bind_some];have low:∀ k,k<=m->gN d2 k=gN d1 k:=fun k hk=>g2.1.out k (by omega);refine .inr (.inr ⟨d2,a,m,lim,_,_,rfl,by omega,⟨m1,by rw [g2.1.len];have:=b6.bl;omega,by rw [g2.1.len];exact b6.len,?_,hv.lim⟩,fun d3 hg=>⟨(r.trans (g2.1.mono (by omega) (Nat.le_refl _))).trans (hg.1.mono (Nat.le_refl _) (by omega)),?_⟩⟩)
    ·rcases b6.bnd with h | h
     ·exact .inl h
     ·exact .inr fun k k1 k2=>by rw [low (a-1) (by omega),low k (by omega)];exact h k k1 (by omega)
    ·have o3:∀ k,m<=k->gN d3 k=gN d2 k:=fun k hk=>hg.1.out k (by omega);refine aGw m2 (fun k k1 k2=>?_) (fun k k1 k2=>?_) hg.2 (fun x y x1 x2 x3=>by rw [o3 x (by omega),o3 y (by omega)];exact g2.2 x y x1 x2 x3)
     ·rw [o3 m (Nat.le_refl _),low m (Nat.le_refl _)];exact hg.1.all (p:=fun v=>v<=gN d1 m) (fun k k1 k2=>by rw [low k (by omega)];exact q1 k k1 k2) k k1 k2
     ·rw [o3 m (Nat.le_refl _),low m (Nat.le_refl _),o3 k (by omega)];exact g2.1.all (p:=fun v=>gN d1 m<=v) (fun k k1 k2=>q2 k (by omega) k2) k (by omega) k2
 unfold mN;by_cases ha:0<a
 ·have hd:decide (0<(a:Int))=true:=by simp;omega
  rw [hd,wrN (x:=(a:Int)-1) (n:=a-1) (by omega) (by omega),aQ fun _=>asN (by omega),aQ fun _=>asN (by omega)];simp only [cR,cond_true,zQ,Option.bind_some,Bool.true_and,Int.toNat_natCast];by_cases hlt:gN d (a-1)<gN d p
  ·simp only [gN] at hlt;simp only [hlt,decide_true,Bool.not_true,cond_false];exact ptc
  ·have:=eqc ha hlt;simp only [gN] at hlt;simp only [hlt,decide_false,Bool.not_false,cond_true];exact this
 ·have hd:decide (0<(a:Int))=false:=by simp;omega
  rw [hd,aQ (fun h=>by cases h),aQ (fun h=>by cases h)];simp only [cR,cond_false,Option.bind_some,Bool.false_and];exact ptc
theorem aJu {rec:PR}{N a b lim p:Nat}{d:List Int}(hrec:aBj rec N)(hv:OZ a b lim d)(h12:12<b-a)(hp:a<=p/\p<b)(wb wp:Bool)(len hint:Int) :
  YZ N a b d (mH rec d (a:Int) (b:Int) (lim:Int) wb wp len (p:Int) hint):=by
 unfold mH
 cases ((wb&&wp)&&(decide (hint=1))) with
 | false=>exact aKC hrec hv h12 hp wb wp len
 | true =>
  rw [cond_true];obtain⟨fl,d',e,r,s⟩:=aLQ (lo:=a) (hi:=b) (d:=d) (by omega) hv.bl hv.len hv.bnd;rw [e];simp only [Option.bind_some]
  cases fl with
  | true=>exact .inr (.inl ⟨d',rfl,r,s rfl⟩)
  | false=>exact (aKC hrec (hv.rel r) h12 hp wb wp len).pre r
theorem aKV {rec:PR}{N a b lim:Nat}{d:List Int}(hrec:aBj rec N)(hv:OZ a b lim d)(h12:12<b-a)(wb wp:Bool)(len:Int) :
  YZ N a b d (mI rec d (a:Int) (b:Int) (lim:Int) wb wp len):=by
 have hb:=hv.bl;have hl:=hv.len;unfold mI;obtain⟨p,h,e,p1,p2⟩:=aIX (lo:=a) (hi:=b) (d:=d) h12 hb hl;rw [e];simp only [Option.bind_some];by_cases h2:h=2
 ·simp only [h2,decide_true,cond_true];obtain⟨d',e2,r⟩:=aKU (lo:=a) (hi:=b) (d:=d) (by omega) hb (by omega);rw [e2];simp only [Option.bind_some];rw [wrN (x:=(b:Int)-1) (n:=b-1) (by omega) (by omega),wrN (x:=(p:Int)-(a:Int)) (n:=p-a) (by omega) (by omega),wrN (x:=((b-1:Nat):Int)-((p-a:Nat):Int)) (n:=b-1-(p-a)) (by omega) (by omega)];exact (aJu hrec (hv.rel r) h12 ⟨by omega,by omega⟩ wb wp len 1).pre r
 ·simp only [h2,decide_false,cond_false];exact aJu hrec hv h12 ⟨p1,p2⟩ wb wp len h
theorem aNT {rec:PR}{N a b lim:Nat}{d:List Int}(hrec:aBj rec N)(hv:OZ a b lim d)(wb wp:Bool) :
  YZ N a b d (gR rec d (a:Int) (b:Int) (lim:Int) wb wp):=by
 have hb:=hv.bl;have hl:=hv.len;have hab:=hv.ab;unfold gR;rw [wrN (x:=(b:Int)-(a:Int)) (n:=b-a) (by omega) (by omega)];by_cases h12:((b-a:Nat):Int)<=12
 ·simp only [h12,decide_true,cond_true];obtain⟨d',e,r,s⟩:=aLW (lo:=a) (hi:=b) (d:=d) hb (by omega) hab;rw [e];exact .inr (.inl ⟨d',rfl,r,s⟩)
 ·simp only [h12,decide_false,cond_false];by_cases h0:lim=0
  ·have : decide ((lim:Int)=0)=true:=by simp;exact h0
   rw [this,cond_true];obtain⟨d',e,r,s⟩:=aJQ (lo:=a) (hi:=b) (d:=d) (by omega) hb hl;rw [e];exact .inr (.inl ⟨d',rfl,r,s⟩)
  ·have : decide ((lim:Int)=0)=false:=by simp;exact h0
   rw [this,cond_false]
   cases wb with
   | true=>exact aKV hrec hv (by omega) true wp _
   | false =>
    simp only [Bool.not_false,cond_true];obtain⟨d',e,r⟩:=aJT (lo:=a) (hi:=b) (d:=d) (by omega) hb hl;rw [e];simp only [Option.bind_some];have hlim:=hv.lim;rw [wrN (x:=(lim:Int)-1) (n:=lim-1) (by omega) (by omega)];have hv':=hv.rel r;exact (aKV hrec ⟨hv'.ab,hv'.bl,hv'.len,hv'.bnd,by omega⟩ (by omega) false wp _).pre r
theorem aM7 {S R:Type}{body:S->Option (S⊕R)}{s:S}(h:body s=none):lp body s=none:=by
 cases e:lp body s with
 | none=>rfl
 | some r =>
  obtain⟨k,hk⟩:=MK.1 e
  cases k with
  | zero=>simp [iter] at hk
  | succ k=>simp [iter,h] at hk
theorem aOe {rec:PR}{N:Nat}(hrec:aBj rec N):∀ (n a b lim:Nat) (d:List Int) (wb wp:Bool),b-a=n->OZ a b lim d ->
  (lp (fun s:PS=>gR rec s.1 s.2.1 s.2.2.1 s.2.2.2.1 s.2.2.2.2.1 s.2.2.2.2.2) (d,(a:Int),(b:Int),(lim:Int),wb,wp)=none/\N+1<=b-a) ∨
  ∃ d',lp (fun s:PS=>gR rec s.1 s.2.1 s.2.2.1 s.2.2.2.1 s.2.2.2.2.1 s.2.2.2.2.2) (d,(a:Int),(b:Int),(lim:Int),wb,wp)=some d'/\WJ a b d d':=by
 intro n
 induction n using Nat.strongRecOn with
 | ind n ih =>
  intro a b lim d wb wp hn hv;rcases aNT hrec hv wb wp with ⟨h1,h2⟩ | ⟨d',h1,h2⟩ | ⟨d',a',b',lim',wb',wp',h1,h2,h3,h4⟩
  ·exact .inl ⟨aM7 h1,h2⟩
  ·exact .inr ⟨d',cY h1,h2⟩
  ·rw [fA (show (fun s:PS=>gR rec s.1 s.2.1 s.2.2.1 s.2.2.2.1 s.2.2.2.2.1 s.2.2.2.2.2) (d,(a:Int),(b:Int),(lim:Int),wb,wp)=_ from h1)];rcases ih (b'-a') (by omega) a' b' lim' d' wb' wp' rfl h3 with ⟨g1,g2⟩ | ⟨d2,g1,g2⟩
   ·exact .inl ⟨g1,by omega⟩
   ·exact .inr ⟨d2,g1,h4 d2 g2⟩
theorem aJK:∀ k:Nat,aBj (oJ k) k
 | 0=>fun _ _ _ _ _=>.inl ⟨rfl,Nat.zero_le _⟩
 | k+1=>fun d a b lim hv=>by
  show (kX (oJ k) d a b lim=none/\_) ∨ ∃ d',kX (oJ k) d a b lim=some d'/\_;unfold kX rE;rcases aOe (aJK k) (b-a) a b lim d true true rfl hv with ⟨h1,h2⟩ | ⟨d',h1,h2⟩
  ·rw [h1];exact .inl ⟨rfl,h2⟩
  ·rw [h1];exact .inr ⟨d',rfl,h2⟩
section
variable {k:aD->Int} {U:aD->Prop} {cmp:aD->aD->Option Int}
theorem nN (hs:dR k U cmp){x y:aD}(hx:U x∨x=default)(hy:U y∨y=default):OR rC (cmp x y) (fG (k x) (k y)):=by
 obtain⟨n,e,h⟩:=hs.c x y hx hy;rw [e,zQ];exact decide_eq_decide.2 h
theorem RR (hs:dR k U cmp)(aA:List aD)(hU:∀ x∈aA,U x)(a1 b2 i8:Int):OR (rS (rP (rL k U) Eq) (rL k U)) (gC cmp aA a1 b2 i8) (oD (aA.map k) a1 b2 i8):=by
 unfold gC oD
 try simp only [List.length_map,dA hs.d0,dW]
 exact dI (by (repeat' constructor) <;> first | rfl | assumption | exact cT hU (by assumption) (by assumption))
theorem RI (hs:dR k U cmp)(a1 b2 i8:Int)(aA:List aD)(hU:∀ x∈aA,U x)(j9:Int):OR (rS (rP (rL k U) Eq) (rL k U)) (iW cmp a1 b2 i8 aA j9) (iT a1 b2 i8 (aA.map k) j9):=by
 unfold iW iT
 try simp only [List.length_map,dA hs.d0,dW]
 refine cG fun h1=>?_;refine cG fun h2=>?_;refine dQ (R:=rC) (zR fun _=>nN hs (jD hU _) (jD hU _)) ?_;intro x_ y_ h_;obtain rfl:=h_;refine eX (fun h3=>?_) (fun h4=>?_)
 ·refine cG fun h5=>?_;refine cG fun h6=>?_;refine cG fun h7=>?_;refine cG fun h8=>?_;exact dI (by (repeat' constructor) <;> first | rfl | assumption | exact cT hU (by assumption) (by assumption))
 ·exact dI (by (repeat' constructor) <;> first | rfl | assumption | exact cT hU (by assumption) (by assumption))
theorem RH (hs:dR k U cmp)(aA:List aD)(hU:∀ x∈aA,U x)(a1 b2:Int)(i8 j9:Int):OR (rS (rP (rL k U) Eq) (rL k U)) (iY cmp aA a1 b2 i8 j9) (oB (aA.map k) a1 b2 i8 j9):=by
 unfold iY oB
 try simp only [List.length_map,dA hs.d0,dW]
 refine dQ (vV (R:=(rP (rL k U) Eq)) (Q:=(rL k U)) ?_ ?_) ?_
 ·rintro ⟨d1,v2⟩ ⟨_,_⟩ ⟨⟨rfl,hU⟩,rfl⟩;exact RI hs _ _ _ d1 hU v2
 ·exact⟨qK hU,rfl⟩
 ·rintro d1 _ ⟨rfl,hU⟩;apply RR hs <;> assumption
theorem RT (hs:dR k U cmp)(a1 b2:Int)(aA:List aD)(hU:∀ x∈aA,U x)(i8:Int):OR (rS (rP (rL k U) Eq) (rL k U)) (iZ cmp a1 b2 aA i8) (eY a1 b2 (aA.map k) i8):=by
 unfold iZ eY
 try simp only [List.length_map,dA hs.d0,dW]
 refine eX (fun h1=>?_) (fun h2=>?_)
 ·exact RH hs _ hU _ _ _ _
 ·exact dI (by (repeat' constructor) <;> first | rfl | assumption | exact cT hU (by assumption) (by assumption))
theorem RQ (hs:dR k U cmp)(aA:List aD)(hU:∀ x∈aA,U x)(a1 b2 i8:Int):OR (rL k U) (jC cmp aA a1 b2 i8) (oE (aA.map k) a1 b2 i8):=by
 unfold jC oE
 try simp only [List.length_map,dA hs.d0,dW]
 refine dQ (vV (R:=(rP (rL k U) Eq)) (Q:=(rL k U)) ?_ ?_) ?_
 ·rintro ⟨d1,v2⟩ ⟨_,_⟩ ⟨⟨rfl,hU⟩,rfl⟩;exact RT hs _ _ d1 hU v2
 ·exact⟨qK hU,rfl⟩
 ·exact fun x y h=>h
theorem RY (hs:dR k U cmp)(aA:List aD)(hU:∀ x∈aA,U x)(a1 b2:Int):OR (rL k U) (jR aA a1 b2 cmp) (mE (aA.map k) a1 b2):=by
 unfold jR mE
 try simp only [List.length_map,dA hs.d0,dW]
 exact RQ hs _ hU _ _ _
theorem JR (hs:dR k U cmp)(aA:List aD)(hU:∀ x∈aA,U x)(hi2 bL:Int)(cK eK:Int):OR (rS (rP (rL k U) Eq) (rS (rL k U) (rL k U))) (iS cmp aA hi2 bL cK eK) (lY (aA.map k) hi2 bL cK eK):=by
 unfold iS lY
 try simp only [List.length_map,dA hs.d0,dW]
 refine cG fun h1=>?_;refine cG fun h2=>?_;refine dQ (R:=rC) (nN hs (jD hU _) (jD hU _)) ?_;intro x_ y_ h_;obtain rfl:=h_;refine eX (fun h3=>?_) (fun h4=>?_)
 ·exact dI (by (repeat' constructor) <;> first | rfl | assumption | exact cT hU (by assumption) (by assumption))
 ·refine cG fun h5=>?_;refine cG fun h6=>?_;refine cG fun h7=>?_;refine cG fun h8=>?_;exact dI (by (repeat' constructor) <;> first | rfl | assumption | exact cT hU (by assumption) (by assumption))
theorem WW (hs:dR k U cmp)(hi2 bL:Int)(aA:List aD)(hU:∀ x∈aA,U x)(cK:Int):OR (rS (rP (rL k U) Eq) (rS (rL k U) (rL k U))) (lT cmp hi2 bL aA cK) (eT hi2 bL (aA.map k) cK):=by
 unfold lT eT
 try simp only [List.length_map,dA hs.d0,dW]
 refine eX (fun h1=>?_) (fun h2=>?_)
 ·exact dI (by (repeat' constructor) <;> first | rfl | assumption | exact cT hU (by assumption) (by assumption))
 ·refine cG fun h3=>?_;refine cG fun h4=>?_;refine dQ (R:=rC) (zR fun _=>nN hs (jD hU _) (jD hU _)) ?_;intro x_ y_ h_;obtain rfl:=h_;refine eX (fun h5=>?_) (fun h6=>?_)
  ·exact JR hs _ hU _ _ _ _
  ·exact JR hs _ hU _ _ _ _
theorem XO (hs:dR k U cmp)(aA:List aD)(hU:∀ x∈aA,U x)(hi2 bL cK:Int):OR (rL k U) (lP cmp aA hi2 bL cK) (qM (aA.map k) hi2 bL cK):=by
 unfold lP qM
 try simp only [List.length_map,dA hs.d0,dW]
 refine dQ (vV (R:=(rP (rL k U) Eq)) (Q:=(rS (rL k U) (rL k U))) ?_ ?_) ?_
 ·rintro ⟨d1,v2⟩ ⟨_,_⟩ ⟨⟨rfl,hU⟩,rfl⟩;exact WW hs _ _ d1 hU v2
 ·exact⟨qK hU,rfl⟩
 ·rintro (x | x) (y | y) h
  ·exact h
  ·exact h.elim
  ·exact h.elim
  ·exact h
theorem MJ (hs:dR k U cmp)(aA:List aD)(hU:∀ x∈aA,U x)(b5 hi2 bL:Int):OR (rL k U) (jJ aA b5 hi2 bL cmp) (jV (aA.map k) b5 hi2 bL):=by
 unfold jJ jV
 try simp only [List.length_map,dA hs.d0,dW]
 exact XO hs _ hU _ _ _
theorem XQ (hs:dR k U cmp)(cH b5:Int)(aA:List aD)(hU:∀ x∈aA,U x)(i12:Int):OR (rS (rP (rL k U) Eq) (rL k U)) (lU cmp cH b5 aA i12) (gG cH b5 (aA.map k) i12):=by
 unfold lU gG
 try simp only [List.length_map,dA hs.d0,dW]
 refine eX (fun h1=>?_) (fun h2=>?_)
 ·refine cG fun h3=>?_;refine cG fun h4=>?_;refine cG fun h5=>?_;refine cG fun h6=>?_;refine dQ (MJ hs _ (cT hU (by assumption) (by assumption)) _ _ _) ?_;rintro b6 _ ⟨rfl,hU⟩;exact dI (by (repeat' constructor) <;> first | rfl | assumption | exact cT hU (by assumption) (by assumption))
 ·exact dI (by (repeat' constructor) <;> first | rfl | assumption | exact cT hU (by assumption) (by assumption))
theorem WX (hs:dR k U cmp)(aA:List aD)(hU:∀ x∈aA,U x)(cH b5 i12:Int):OR (rL k U) (lQ cmp aA cH b5 i12) (qO (aA.map k) cH b5 i12):=by
 unfold lQ qO
 try simp only [List.length_map,dA hs.d0,dW]
 refine dQ (vV (R:=(rP (rL k U) Eq)) (Q:=(rL k U)) ?_ ?_) ?_
 ·rintro ⟨d1,v2⟩ ⟨_,_⟩ ⟨⟨rfl,hU⟩,rfl⟩;exact XQ hs _ _ d1 hU v2
 ·exact⟨qK hU,rfl⟩
 ·exact fun x y h=>h
theorem XR (hs:dR k U cmp)(aA:List aD)(hU:∀ x∈aA,U x)(cH b6 b5:Int):OR (rL k U) (iP cmp aA cH b6 b5) (qP (aA.map k) cH b6 b5):=by
 unfold iP qP
 try simp only [List.length_map,dA hs.d0,dW]
 exact WX hs _ hU _ _ _
theorem XM (hs:dR k U cmp)(cH b6 b5:Int)(aA:List aD)(hU:∀ x∈aA,U x)(i11:Int):OR (rS (rP (rL k U) Eq) (rL k U)) (lR cmp cH b6 b5 aA i11) (gH cH b6 b5 (aA.map k) i11):=by
 unfold lR gH
 try simp only [List.length_map,dA hs.d0,dW]
 refine eX (fun h1=>?_) (fun h2=>?_)
 ·refine dQ (MJ hs _ hU _ _ _) ?_;rintro b7 _ ⟨rfl,hU⟩;exact dI (by (repeat' constructor) <;> first | rfl | assumption | exact cT hU (by assumption) (by assumption))
 ·exact dI (by (repeat' constructor) <;> first | rfl | assumption | exact cT hU (by assumption) (by assumption))
theorem XA (hs:dR k U cmp)(aA:List aD)(hU:∀ x∈aA,U x)(cH b6:Int)(b5 i11:Int):OR (rL k U) (lS cmp aA cH b6 b5 i11) (qN (aA.map k) cH b6 b5 i11):=by
 unfold lS qN
 try simp only [List.length_map,dA hs.d0,dW]
 refine dQ (vV (R:=(rP (rL k U) Eq)) (Q:=(rL k U)) ?_ ?_) ?_
 ·rintro ⟨d1,v2⟩ ⟨_,_⟩ ⟨⟨rfl,hU⟩,rfl⟩;exact XM hs _ _ _ d1 hU v2
 ·exact⟨qK hU,rfl⟩
 ·rintro d1 _ ⟨rfl,hU⟩;apply XR hs <;> assumption
theorem YK (hs:dR k U cmp)(aA:List aD)(hU:∀ x∈aA,U x)(a1 b2:Int):OR (rL k U) (mC aA a1 b2 cmp) (oN (aA.map k) a1 b2):=by
 unfold mC oN
 try simp only [List.length_map,dA hs.d0,dW]
 refine cG fun h1=>?_;exact XA hs _ hU _ _ _ _
theorem BL (hs:dR k U cmp)(aA:List aD)(hU:∀ x∈aA,U x)(a1 kE:Int)(mM fP:Int)(fY iR:Int):OR (rS (rP (rL k U) (rP Eq Eq)) (rL k U)) (fZ cmp aA a1 kE mM fP fY iR) (iQ (aA.map k) a1 kE mM fP fY iR):=by
 unfold fZ iQ
 try simp only [List.length_map,dA hs.d0,dW]
 refine cG fun h1=>?_;refine cG fun h2=>?_;refine cG fun h3=>?_;refine cG fun h4=>?_;exact dI (by (repeat' constructor) <;> first | rfl | assumption | exact cT hU (by assumption) (by assumption))
theorem RC (hs:dR k U cmp)(a1 kE fP:Int)(aA:List aD)(hU:∀ x∈aA,U x)(mM fY:Int):OR (rS (rP (rL k U) (rP Eq Eq)) (rL k U)) (jA cmp a1 kE fP aA mM fY) (eG a1 kE fP (aA.map k) mM fY):=by
 unfold jA eG
 try simp only [List.length_map,dA hs.d0,dW]
 refine cG fun h1=>?_;refine eX (fun h2=>?_) (fun h3=>?_)
 ·refine dQ (R:=Eq) (aMo _) ?_;rintro x_ _ rfl;refine eX (fun h4=>?_) (fun h5=>?_)
  ·exact BL hs _ hU _ _ _ _ _ _
  ·exact BL hs _ hU _ _ _ _ _ _
 ·exact dI (by (repeat' constructor) <;> first | rfl | assumption | exact cT hU (by assumption) (by assumption))
theorem RO (hs:dR k U cmp)(aA:List aD)(hU:∀ x∈aA,U x)(a1 kE:Int)(mM fP fY:Int):OR (rL k U) (jB cmp aA a1 kE mM fP fY) (oC (aA.map k) a1 kE mM fP fY):=by
 unfold jB oC
 try simp only [List.length_map,dA hs.d0,dW]
 refine dQ (vV (R:=(rP (rL k U) (rP Eq Eq))) (Q:=(rL k U)) ?_ ?_) ?_
 ·rintro ⟨d1,⟨v2,v3⟩⟩ ⟨_,⟨_,_⟩⟩ ⟨⟨rfl,hU⟩,⟨rfl,rfl⟩⟩;exact RC hs _ _ _ d1 hU v2 v3
 ·exact⟨qK hU,⟨rfl,rfl⟩⟩
 ·exact fun x y h=>h
theorem SA (hs:dR k U cmp)(aA:List aD)(hU:∀ x∈aA,U x)(a1 b2:Int):OR (rL k U) (jP aA a1 b2 cmp) (mG (aA.map k) a1 b2):=by
 unfold jP mG
 try simp only [List.length_map,dA hs.d0,dW]
 refine eX (fun h1=>?_) (fun h2=>?_)
 ·refine dQ (R:=Eq) (aMo _) ?_;rintro x_ _ rfl;refine cG fun h3=>?_;exact RO hs _ hU _ _ _ _ _
 ·exact dI (by (repeat' constructor) <;> first | rfl | assumption | exact cT hU (by assumption) (by assumption))
theorem EH (hs:dR k U cmp)(aA:List aD)(hU:∀ x∈aA,U x)(a1 b2 uE:Int):OR (rP (rP Eq Eq) Eq) (gS aA a1 b2 uE cmp) (lE (aA.map k) a1 b2 uE):=by
 unfold gS lE
 try simp only [List.length_map,dA hs.d0,dW]
 refine cG fun h1=>?_;refine cG fun h2=>?_;refine dQ (R:=rC) (nN hs (jD hU _) (jD hU _)) ?_;intro x_ y_ h_;obtain rfl:=h_;refine eX (fun h3=>?_) (fun h4=>?_)
 ·exact dI (by (repeat' constructor) <;> first | rfl | assumption | exact cT hU (by assumption) (by assumption))
 ·exact dI (by (repeat' constructor) <;> first | rfl | assumption | exact cT hU (by assumption) (by assumption))
theorem OW (hs:dR k U cmp)(aA:List aD)(hU:∀ x∈aA,U x)(a1 b2:Int)(c3 JS:Int):OR (rP Eq Eq) (kG aA a1 b2 c3 JS cmp) (nG (aA.map k) a1 b2 c3 JS):=by
 unfold kG nG
 try simp only [List.length_map,dA hs.d0,dW]
 refine dQ (EH hs _ hU _ _ _) ?_;rintro ⟨⟨w1,w2⟩,w3⟩ ⟨⟨_,_⟩,_⟩ ⟨⟨rfl,rfl⟩,rfl⟩;refine dQ (EH hs _ hU _ _ _) ?_;rintro ⟨⟨b5,b6⟩,b7⟩ ⟨⟨_,_⟩,_⟩ ⟨⟨rfl,rfl⟩,rfl⟩;refine dQ (EH hs _ hU _ _ _) ?_;rintro ⟨⟨b8,b9⟩,c4⟩ ⟨⟨_,_⟩,_⟩ ⟨⟨rfl,rfl⟩,rfl⟩;exact dI (by (repeat' constructor) <;> first | rfl | assumption | exact cT hU (by assumption) (by assumption))
theorem vA (hs:dR k U cmp)(aA:List aD)(hU:∀ x∈aA,U x)(a1 JU:Int):OR (rP Eq Eq) (eV aA a1 JU cmp) (gE (aA.map k) a1 JU):=by
 unfold eV gE
 try simp only [List.length_map,dA hs.d0,dW]
 refine dQ (OW hs _ hU _ _ _ _) ?_;rintro ⟨w1,w2⟩ ⟨_,_⟩ ⟨rfl,rfl⟩;exact dI (by (repeat' constructor) <;> first | rfl | assumption | exact cT hU (by assumption) (by assumption))
theorem EI (hs:dR k U cmp)(aA:List aD)(hU:∀ x∈aA,U x)(nH b5:Int):OR (rP Eq Eq) (gL cmp aA nH b5) (jY (aA.map k) nH b5):=by
 unfold gL jY
 try simp only [List.length_map,dA hs.d0,dW]
 refine eX (fun h1=>?_) (fun h2=>?_)
 ·exact dI (by (repeat' constructor) <;> first | rfl | assumption | exact cT hU (by assumption) (by assumption))
 ·refine eX (fun h3=>?_) (fun h4=>?_)
  ·exact dI (by (repeat' constructor) <;> first | rfl | assumption | exact cT hU (by assumption) (by assumption))
  ·exact dI (by (repeat' constructor) <;> first | rfl | assumption | exact cT hU (by assumption) (by assumption))
theorem EM (hs:dR k U cmp)(aA:List aD)(hU:∀ x∈aA,U x)(nH i12:Int)(b5 b6:Int):OR (rP Eq Eq) (gK cmp aA nH i12 b5 b6) (jZ (aA.map k) nH i12 b5 b6):=by
 unfold gK jZ
 try simp only [List.length_map,dA hs.d0,dW]
 refine dQ (OW hs _ hU _ _ _ _) ?_;rintro ⟨w1,w2⟩ ⟨_,_⟩ ⟨rfl,rfl⟩;exact EI hs _ hU _ _
theorem TM (hs:dR k U cmp)(aA:List aD)(hU:∀ x∈aA,U x)(a1 b2:Int):OR (rP Eq Eq) (kH aA a1 b2 cmp) (nC (aA.map k) a1 b2):=by
 unfold kH nC
 try simp only [List.length_map,dA hs.d0,dW]
 refine cG fun h1=>?_;refine cG fun h2=>?_;refine cG fun h3=>?_;refine eX (fun h4=>?_) (fun h5=>?_)
 ·refine eX (fun h6=>?_) (fun h7=>?_)
  ·refine dQ (vA hs _ hU _ _) ?_;rintro ⟨b5,b6⟩ ⟨_,_⟩ ⟨rfl,rfl⟩;refine dQ (vA hs _ hU _ _) ?_;rintro ⟨b7,b8⟩ ⟨_,_⟩ ⟨rfl,rfl⟩;refine dQ (vA hs _ hU _ _) ?_;rintro ⟨b9,c4⟩ ⟨_,_⟩ ⟨rfl,rfl⟩;exact EM hs _ hU _ _ _ _
  ·exact EM hs _ hU _ _ _ _
 ·exact EI hs _ hU _ _
theorem SG (hs:dR k U cmp)(aA:List aD)(hU:∀ x∈aA,U x)(i8 j9:Int):OR (rS (rP (rL k U) (rP Eq Eq)) (rL k U)) (jQ cmp aA i8 j9) (fE (aA.map k) i8 j9):=by
 unfold jQ fE
 try simp only [List.length_map,dA hs.d0,dW]
 refine eX (fun h1=>?_) (fun h2=>?_)
 ·refine cG fun h3=>?_;refine cG fun h4=>?_;refine cG fun h5=>?_;refine cG fun h6=>?_;exact dI (by (repeat' constructor) <;> first | rfl | assumption | exact cT hU (by assumption) (by assumption))
 ·exact dI (by (repeat' constructor) <;> first | rfl | assumption | exact cT hU (by assumption) (by assumption))
theorem SE (hs:dR k U cmp)(aA:List aD)(hU:∀ x∈aA,U x)(i8 j9:Int):OR (rL k U) (jN cmp aA i8 j9) (oR (aA.map k) i8 j9):=by
 unfold jN oR
 try simp only [List.length_map,dA hs.d0,dW]
 refine dQ (vV (R:=(rP (rL k U) (rP Eq Eq))) (Q:=(rL k U)) ?_ ?_) ?_
 ·rintro ⟨d1,⟨v2,v3⟩⟩ ⟨_,⟨_,_⟩⟩ ⟨⟨rfl,hU⟩,⟨rfl,rfl⟩⟩;exact SG hs  d1 hU v2 v3
 ·exact⟨qK hU,⟨rfl,rfl⟩⟩
 ·exact fun x y h=>h
theorem SO (hs:dR k U cmp)(aA:List aD)(hU:∀ x∈aA,U x)(a1 b2:Int):OR (rL k U) (kB aA a1 b2 cmp) (mV (aA.map k) a1 b2):=by
 unfold kB mV
 try simp only [List.length_map,dA hs.d0,dW]
 exact SE hs _ hU _ _
theorem IY (hs:dR k U cmp)(aA:List aD)(hU:∀ x∈aA,U x):OR (rP Eq (rL k U)) (eO cmp aA) (lJ (aA.map k)):=by
 unfold eO lJ
 try simp only [List.length_map,dA hs.d0,dW]
 exact dI (by (repeat' constructor) <;> first | rfl | assumption | exact cT hU (by assumption) (by assumption))
theorem wK (hs:dR k U cmp)(aA:List aD)(hU:∀ x∈aA,U x)(a1 b2:Int)(i9 b5:Int):OR (rS (rP (rL k U) (rP Eq Eq)) (rS (rL k U) (rP Eq (rL k U)))) (dL cmp aA a1 b2 i9 b5) (lM (aA.map k) a1 b2 i9 b5):=by
 unfold dL lM
 try simp only [List.length_map,dA hs.d0,dW]
 exact dI (by (repeat' constructor) <;> first | rfl | assumption | exact cT hU (by assumption) (by assumption))
theorem JF (hs:dR k U cmp)(a1 b2:Int)(i9 b5:Int)(aA:List aD)(hU:∀ x∈aA,U x)(b6:Int):OR (rS (rP (rL k U) Eq) (rL k U)) (fT cmp a1 b2 i9 b5 aA b6) (dY a1 b2 i9 b5 (aA.map k) b6):=by
 unfold fT dY
 try simp only [List.length_map,dA hs.d0,dW]
 refine eX (fun h1=>?_) (fun h2=>?_)
 ·refine cG fun h3=>?_;refine cG fun h4=>?_;refine dQ (R:=rC) (nN hs (jD hU _) (jD hU _)) ?_;intro x_ y_ h_;obtain rfl:=h_;refine eX (fun h5=>?_) (fun h6=>?_)
  ·exact dI (by (repeat' constructor) <;> first | rfl | assumption | exact cT hU (by assumption) (by assumption))
  ·refine cG fun h7=>?_;refine cG fun h8=>?_;refine cG fun h9=>?_;refine cG fun b7=>?_;exact dI (by (repeat' constructor) <;> first | rfl | assumption | exact cT hU (by assumption) (by assumption))
 ·exact dI (by (repeat' constructor) <;> first | rfl | assumption | exact cT hU (by assumption) (by assumption))
theorem JK (hs:dR k U cmp)(aA:List aD)(hU:∀ x∈aA,U x)(a1 b2:Int)(i9 b5 b6:Int):OR (rS (rP (rL k U) (rP Eq Eq)) (rS (rL k U) (rP Eq (rL k U)))) (fV cmp aA a1 b2 i9 b5 b6) (lI (aA.map k) a1 b2 i9 b5 b6):=by
 unfold fV lI
 try simp only [List.length_map,dA hs.d0,dW]
 refine dQ (vV (R:=(rP (rL k U) Eq)) (Q:=(rL k U)) ?_ ?_) ?_
 ·rintro ⟨d1,v2⟩ ⟨_,_⟩ ⟨⟨rfl,hU⟩,rfl⟩;exact JF hs _ _ _ _ d1 hU v2
 ·exact⟨qK hU,rfl⟩
 ·rintro d1 _ ⟨rfl,hU⟩;apply wK hs <;> assumption
theorem wG (hs:dR k U cmp)(aA:List aD)(hU:∀ x∈aA,U x)(a1 b2:Int)(i9 b5:Int):OR (rS (rP (rL k U) (rP Eq Eq)) (rS (rL k U) (rP Eq (rL k U)))) (dM cmp aA a1 b2 i9 b5) (eM (aA.map k) a1 b2 i9 b5):=by
 unfold dM eM
 try simp only [List.length_map,dA hs.d0,dW]
 refine eX (fun h1=>?_) (fun h2=>?_)
 ·exact JK hs _ hU _ _ _ _ _
 ·exact wK hs _ hU _ _ _ _
theorem JA (hs:dR k U cmp)(a1 b2:Int)(i9 b5:Int)(aA:List aD)(hU:∀ x∈aA,U x)(b6:Int):OR (rS (rP (rL k U) Eq) (rL k U)) (fQ cmp a1 b2 i9 b5 aA b6) (dP a1 b2 i9 b5 (aA.map k) b6):=by
 unfold fQ dP
 try simp only [List.length_map,dA hs.d0,dW]
 refine eX (fun h1=>?_) (fun h2=>?_)
 ·refine cG fun h3=>?_;refine cG fun h4=>?_;refine dQ (R:=rC) (nN hs (jD hU _) (jD hU _)) ?_;intro x_ y_ h_;obtain rfl:=h_;refine eX (fun h5=>?_) (fun h6=>?_)
  ·exact dI (by (repeat' constructor) <;> first | rfl | assumption | exact cT hU (by assumption) (by assumption))
  ·refine cG fun h7=>?_;refine cG fun h8=>?_;refine cG fun h9=>?_;refine cG fun b7=>?_;exact dI (by (repeat' constructor) <;> first | rfl | assumption | exact cT hU (by assumption) (by assumption))
 ·exact dI (by (repeat' constructor) <;> first | rfl | assumption | exact cT hU (by assumption) (by assumption))
theorem IQ (hs:dR k U cmp)(aA:List aD)(hU:∀ x∈aA,U x)(a1 b2:Int)(i9 b5 b6:Int):OR (rS (rP (rL k U) (rP Eq Eq)) (rS (rL k U) (rP Eq (rL k U)))) (fR cmp aA a1 b2 i9 b5 b6) (lG (aA.map k) a1 b2 i9 b5 b6):=by
 unfold fR lG
 try simp only [List.length_map,dA hs.d0,dW]
 refine dQ (vV (R:=(rP (rL k U) Eq)) (Q:=(rL k U)) ?_ ?_) ?_
 ·rintro ⟨d1,v2⟩ ⟨_,_⟩ ⟨⟨rfl,hU⟩,rfl⟩;exact JA hs _ _ _ _ d1 hU v2
 ·exact⟨qK hU,rfl⟩
 ·rintro d1 _ ⟨rfl,hU⟩;apply wG hs <;> assumption
theorem JC (hs:dR k U cmp)(aA:List aD)(hU:∀ x∈aA,U x)(a1 b2:Int)(i9 b5:Int):OR (rS (rP (rL k U) (rP Eq Eq)) (rS (rL k U) (rP Eq (rL k U)))) (eR cmp aA a1 b2 i9 b5) (lH (aA.map k) a1 b2 i9 b5):=by
 unfold eR lH
 try simp only [List.length_map,dA hs.d0,dW]
 refine eX (fun h1=>?_) (fun h2=>?_)
 ·exact dI (by (repeat' constructor) <;> first | rfl | assumption | exact cT hU (by assumption) (by assumption))
 ·refine eX (fun h3=>?_) (fun h4=>?_)
  ·exact dI (by (repeat' constructor) <;> first | rfl | assumption | exact cT hU (by assumption) (by assumption))
  ·refine cG fun h5=>?_;refine cG fun h6=>?_;refine cG fun h7=>?_;refine cG fun h8=>?_;refine eX (fun h9=>?_) (fun b6=>?_)
   ·exact IQ hs _ (cT hU (by assumption) (by assumption)) _ _ _ _ _
   ·exact wG hs _ (cT hU (by assumption) (by assumption)) _ _ _ _
theorem JJ (hs:dR k U cmp)(a1 b2 b5:Int)(aA:List aD)(hU:∀ x∈aA,U x)(i9:Int):OR (rS (rP (rL k U) Eq) (rP (rL k U) Eq)) (fW cmp a1 b2 b5 aA i9) (dZ a1 b2 b5 (aA.map k) i9):=by
 unfold fW dZ
 try simp only [List.length_map,dA hs.d0,dW]
 refine cG fun h1=>?_;refine cG fun h2=>?_;refine dQ (R:=rC) (zR fun _=>nN hs (jD hU _) (jD hU _)) ?_;intro x_ y_ h_;obtain rfl:=h_;refine eX (fun h3=>?_) (fun h4=>?_)
 ·exact dI (by (repeat' constructor) <;> first | rfl | assumption | exact cT hU (by assumption) (by assumption))
 ·exact dI (by (repeat' constructor) <;> first | rfl | assumption | exact cT hU (by assumption) (by assumption))
theorem IV (hs:dR k U cmp)(aA:List aD)(hU:∀ x∈aA,U x)(a1 b2:Int)(i9 b5:Int):OR (rS (rP (rL k U) (rP Eq Eq)) (rS (rL k U) (rP Eq (rL k U)))) (fS cmp aA a1 b2 i9 b5) (eN (aA.map k) a1 b2 i9 b5):=by
 unfold fS eN
 try simp only [List.length_map,dA hs.d0,dW]
 refine dQ (vV (R:=(rP (rL k U) Eq)) (Q:=(rP (rL k U) Eq)) ?_ ?_) ?_
 ·rintro ⟨d1,v2⟩ ⟨_,_⟩ ⟨⟨rfl,hU⟩,rfl⟩;exact JJ hs _ _ _ d1 hU v2
 ·exact⟨qK hU,rfl⟩
 ·rintro ⟨d1,v2⟩ ⟨_,_⟩ ⟨⟨rfl,hU⟩,rfl⟩;apply JC hs <;> assumption
theorem IM (hs:dR k U cmp)(a1 b2:Int)(aA:List aD)(hU:∀ x∈aA,U x)(i9 b5:Int):OR (rS (rP (rL k U) (rP Eq Eq)) (rS (rL k U) (rP Eq (rL k U)))) (fU cmp a1 b2 aA i9 b5) (cQ a1 b2 (aA.map k) i9 b5):=by
 unfold fU cQ
 try simp only [List.length_map,dA hs.d0,dW]
 refine eX (fun h1=>?_) (fun h2=>?_)
 ·exact IV hs _ hU _ _ _ _
 ·exact dI (by (repeat' constructor) <;> first | rfl | assumption | exact cT hU (by assumption) (by assumption))
theorem JL (hs:dR k U cmp)(aA:List aD)(hU:∀ x∈aA,U x)(a1 b2:Int)(i9 b5:Int):OR (rP Eq (rL k U)) (fX cmp aA a1 b2 i9 b5) (lF (aA.map k) a1 b2 i9 b5):=by
 unfold fX lF
 try simp only [List.length_map,dA hs.d0,dW]
 refine dQ (vV (R:=(rP (rL k U) (rP Eq Eq))) (Q:=(rS (rL k U) (rP Eq (rL k U)))) ?_ ?_) ?_
 ·rintro ⟨d1,⟨v2,v3⟩⟩ ⟨_,⟨_,_⟩⟩ ⟨⟨rfl,hU⟩,⟨rfl,rfl⟩⟩;exact IM hs _ _ d1 hU v2 v3
 ·exact⟨qK hU,⟨rfl,rfl⟩⟩
 ·rintro (x | x) (y | y) h
  ·obtain⟨rfl,hU⟩:=h;apply IY hs <;> assumption
  ·exact h.elim
  ·exact h.elim
  ·exact h
theorem KM (hs:dR k U cmp)(aA:List aD)(hU:∀ x∈aA,U x)(a1 b2:Int):OR (rP Eq (rL k U)) (gF aA a1 b2 cmp) (iM (aA.map k) a1 b2):=by
 unfold gF iM
 try simp only [List.length_map,dA hs.d0,dW]
 exact JL hs _ hU _ _ _ _
theorem PI (hs:dR k U cmp)(aA:List aD)(hU:∀ x∈aA,U x)(i11:Int):OR (rP Eq (rL k U)) (fL cmp aA i11) (rB (aA.map k) i11):=by
 unfold fL rB
 try simp only [List.length_map,dA hs.d0,dW]
 exact dI (by (repeat' constructor) <;> first | rfl | assumption | exact cT hU (by assumption) (by assumption))
theorem PM (hs:dR k U cmp)(aA:List aD)(hU:∀ x∈aA,U x)(a1 i11 b5:Int):OR (rS (rP (rL k U) (rP Eq Eq)) (rP (rL k U) Eq)) (fK cmp aA a1 i11 b5) (iC (aA.map k) a1 i11 b5):=by
 unfold fK iC
 try simp only [List.length_map,dA hs.d0,dW]
 refine eX (fun h1=>?_) (fun h2=>?_)
 ·exact dI (by (repeat' constructor) <;> first | rfl | assumption | exact cT hU (by assumption) (by assumption))
 ·refine cG fun h3=>?_;refine cG fun h4=>?_;refine cG fun h5=>?_;refine cG fun h6=>?_;exact dI (by (repeat' constructor) <;> first | rfl | assumption | exact cT hU (by assumption) (by assumption))
theorem PX (hs:dR k U cmp)(a1 i11:Int)(aA:List aD)(hU:∀ x∈aA,U x)(b5:Int):OR (rS (rP (rL k U) Eq) (rP (rL k U) Eq)) (iJ cmp a1 i11 aA b5) (fO a1 i11 (aA.map k) b5):=by
 unfold iJ fO
 try simp only [List.length_map,dA hs.d0,dW]
 refine cG fun h1=>?_;refine cG fun h2=>?_;refine dQ (R:=rC) (zR fun _=>nN hs (jD hU _) (jD hU _)) ?_;intro x_ y_ h_;obtain rfl:=h_;refine eX (fun h3=>?_) (fun h4=>?_)
 ·exact dI (by (repeat' constructor) <;> first | rfl | assumption | exact cT hU (by assumption) (by assumption))
 ·exact dI (by (repeat' constructor) <;> first | rfl | assumption | exact cT hU (by assumption) (by assumption))
theorem PC (hs:dR k U cmp)(aA:List aD)(hU:∀ x∈aA,U x)(a1 i11 b5:Int):OR (rS (rP (rL k U) (rP Eq Eq)) (rP (rL k U) Eq)) (iE cmp aA a1 i11 b5) (nY (aA.map k) a1 i11 b5):=by
 unfold iE nY
 try simp only [List.length_map,dA hs.d0,dW]
 refine dQ (vV (R:=(rP (rL k U) Eq)) (Q:=(rP (rL k U) Eq)) ?_ ?_) ?_
 ·rintro ⟨d1,v2⟩ ⟨_,_⟩ ⟨⟨rfl,hU⟩,rfl⟩;exact PX hs _ _ d1 hU v2
 ·exact⟨qK hU,rfl⟩
 ·rintro ⟨d1,v2⟩ ⟨_,_⟩ ⟨⟨rfl,hU⟩,rfl⟩;apply PM hs <;> assumption
theorem OX (hs:dR k U cmp)(aA:List aD)(hU:∀ x∈aA,U x)(a1 i11 b5:Int):OR (rS (rP (rL k U) (rP Eq Eq)) (rP (rL k U) Eq)) (fM cmp aA a1 i11 b5) (nV (aA.map k) a1 i11 b5):=by
 unfold fM nV
 try simp only [List.length_map,dA hs.d0,dW]
 exact PC hs _ hU _ _ _
theorem QA (hs:dR k U cmp)(a1 b5:Int)(aA:List aD)(hU:∀ x∈aA,U x)(i11:Int):OR (rS (rP (rL k U) Eq) (rP (rL k U) Eq)) (iG cmp a1 b5 aA i11) (fN a1 b5 (aA.map k) i11):=by
 unfold iG fN
 try simp only [List.length_map,dA hs.d0,dW]
 refine cG fun h1=>?_;refine cG fun h2=>?_;refine dQ (R:=rC) (zR fun _=>nN hs (jD hU _) (jD hU _)) ?_;intro x_ y_ h_;obtain rfl:=h_;refine eX (fun h3=>?_) (fun h4=>?_)
 ·exact dI (by (repeat' constructor) <;> first | rfl | assumption | exact cT hU (by assumption) (by assumption))
 ·exact dI (by (repeat' constructor) <;> first | rfl | assumption | exact cT hU (by assumption) (by assumption))
theorem PV (hs:dR k U cmp)(aA:List aD)(hU:∀ x∈aA,U x)(a1 i11 b5:Int):OR (rS (rP (rL k U) (rP Eq Eq)) (rP (rL k U) Eq)) (iF cmp aA a1 i11 b5) (nW (aA.map k) a1 i11 b5):=by
 unfold iF nW
 try simp only [List.length_map,dA hs.d0,dW]
 refine dQ (vV (R:=(rP (rL k U) Eq)) (Q:=(rP (rL k U) Eq)) ?_ ?_) ?_
 ·rintro ⟨d1,v2⟩ ⟨_,_⟩ ⟨⟨rfl,hU⟩,rfl⟩;exact QA hs _ _ d1 hU v2
 ·exact⟨qK hU,rfl⟩
 ·rintro ⟨d1,v2⟩ ⟨_,_⟩ ⟨⟨rfl,hU⟩,rfl⟩;apply OX hs <;> assumption
theorem PU (hs:dR k U cmp)(a1:Int)(aA:List aD)(hU:∀ x∈aA,U x)(i11 b5:Int):OR (rS (rP (rL k U) (rP Eq Eq)) (rP (rL k U) Eq)) (iN cmp a1 aA i11 b5) (eD a1 (aA.map k) i11 b5):=by
 unfold iN eD
 try simp only [List.length_map,dA hs.d0,dW]
 exact PV hs _ hU _ _ _
theorem PO (hs:dR k U cmp)(aA:List aD)(hU:∀ x∈aA,U x)(a1 i11 b5:Int):OR (rP Eq (rL k U)) (iL cmp aA a1 i11 b5) (nU (aA.map k) a1 i11 b5):=by
 unfold iL nU
 try simp only [List.length_map,dA hs.d0,dW]
 refine dQ (vV (R:=(rP (rL k U) (rP Eq Eq))) (Q:=(rP (rL k U) Eq)) ?_ ?_) ?_
 ·rintro ⟨d1,⟨v2,v3⟩⟩ ⟨_,⟨_,_⟩⟩ ⟨⟨rfl,hU⟩,⟨rfl,rfl⟩⟩;exact PU hs _ d1 hU v2 v3
 ·exact⟨qK hU,⟨rfl,rfl⟩⟩
 ·rintro ⟨d1,v2⟩ ⟨_,_⟩ ⟨⟨rfl,hU⟩,rfl⟩;apply PI hs <;> assumption
theorem RP (hs:dR k U cmp)(aA:List aD)(hU:∀ x∈aA,U x)(a1 b2 cL:Int):OR (rP Eq (rL k U)) (iV aA a1 b2 cL cmp) (iO (aA.map k) a1 b2 cL):=by
 unfold iV iO
 try simp only [List.length_map,dA hs.d0,dW]
 refine cG fun h1=>?_;refine cG fun h2=>?_;refine cG fun h3=>?_;refine cG fun h4=>?_;exact PO hs _ (cT hU (by assumption) (by assumption)) _ _ _
theorem VH (hs:dR k U cmp)(aA:List aD)(hU:∀ x∈aA,U x)(a1 b5:Int):OR (rP (rP Eq Eq) (rL k U)) (iB cmp aA a1 b5) (qH (aA.map k) a1 b5):=by
 unfold iB qH
 try simp only [List.length_map,dA hs.d0,dW]
 refine cG fun h1=>?_;refine cG fun h2=>?_;refine cG fun h3=>?_;refine cG fun h4=>?_;exact dI (by (repeat' constructor) <;> first | rfl | assumption | exact cT hU (by assumption) (by assumption))
theorem VK (hs:dR k U cmp)(aA:List aD)(hU:∀ x∈aA,U x)(a1 i12 b5:Int):OR (rS (rP (rL k U) (rP Eq Eq)) (rP (rL k U) Eq)) (iA cmp aA a1 i12 b5) (kZ (aA.map k) a1 i12 b5):=by
 unfold iA kZ
 try simp only [List.length_map,dA hs.d0,dW]
 refine eX (fun h1=>?_) (fun h2=>?_)
 ·exact dI (by (repeat' constructor) <;> first | rfl | assumption | exact cT hU (by assumption) (by assumption))
 ·refine cG fun h3=>?_;refine cG fun h4=>?_;refine cG fun h5=>?_;refine cG fun h6=>?_;exact dI (by (repeat' constructor) <;> first | rfl | assumption | exact cT hU (by assumption) (by assumption))
theorem VJ (hs:dR k U cmp)(a1 i12:Int)(aA:List aD)(hU:∀ x∈aA,U x)(b5:Int):OR (rS (rP (rL k U) Eq) (rP (rL k U) Eq)) (kM cmp a1 i12 aA b5) (iI a1 i12 (aA.map k) b5):=by
 unfold kM iI
 try simp only [List.length_map,dA hs.d0,dW]
 refine cG fun h1=>?_;refine cG fun h2=>?_;refine dQ (R:=rC) (zR fun _=>nN hs (jD hU _) (jD hU _)) ?_;intro x_ y_ h_;obtain rfl:=h_;refine eX (fun h3=>?_) (fun h4=>?_)
 ·exact dI (by (repeat' constructor) <;> first | rfl | assumption | exact cT hU (by assumption) (by assumption))
 ·exact dI (by (repeat' constructor) <;> first | rfl | assumption | exact cT hU (by assumption) (by assumption))
theorem VE (hs:dR k U cmp)(aA:List aD)(hU:∀ x∈aA,U x)(a1 i12 b5:Int):OR (rS (rP (rL k U) (rP Eq Eq)) (rP (rL k U) Eq)) (kO cmp aA a1 i12 b5) (qG (aA.map k) a1 i12 b5):=by
 unfold kO qG
 try simp only [List.length_map,dA hs.d0,dW]
 refine dQ (vV (R:=(rP (rL k U) Eq)) (Q:=(rP (rL k U) Eq)) ?_ ?_) ?_
 ·rintro ⟨d1,v2⟩ ⟨_,_⟩ ⟨⟨rfl,hU⟩,rfl⟩;exact VJ hs _ _ d1 hU v2
 ·exact⟨qK hU,rfl⟩
 ·rintro ⟨d1,v2⟩ ⟨_,_⟩ ⟨⟨rfl,hU⟩,rfl⟩;apply VK hs <;> assumption
theorem VI (hs:dR k U cmp)(aA:List aD)(hU:∀ x∈aA,U x)(a1 i12 b5:Int):OR (rS (rP (rL k U) (rP Eq Eq)) (rP (rL k U) Eq)) (gZ cmp aA a1 i12 b5) (pY (aA.map k) a1 i12 b5):=by
 unfold gZ pY
 try simp only [List.length_map,dA hs.d0,dW]
 exact VE hs _ hU _ _ _
theorem VP (hs:dR k U cmp)(a1 b5:Int)(aA:List aD)(hU:∀ x∈aA,U x)(i12:Int):OR (rS (rP (rL k U) Eq) (rP (rL k U) Eq)) (kV cmp a1 b5 aA i12) (iH a1 b5 (aA.map k) i12):=by
 unfold kV iH
 try simp only [List.length_map,dA hs.d0,dW]
 refine cG fun h1=>?_;refine cG fun h2=>?_;refine dQ (R:=rC) (zR fun _=>nN hs (jD hU _) (jD hU _)) ?_;intro x_ y_ h_;obtain rfl:=h_;refine eX (fun h3=>?_) (fun h4=>?_)
 ·exact dI (by (repeat' constructor) <;> first | rfl | assumption | exact cT hU (by assumption) (by assumption))
 ·exact dI (by (repeat' constructor) <;> first | rfl | assumption | exact cT hU (by assumption) (by assumption))
theorem VO (hs:dR k U cmp)(aA:List aD)(hU:∀ x∈aA,U x)(a1 i12 b5:Int):OR (rS (rP (rL k U) (rP Eq Eq)) (rP (rL k U) Eq)) (kS cmp aA a1 i12 b5) (qB (aA.map k) a1 i12 b5):=by
 unfold kS qB
 try simp only [List.length_map,dA hs.d0,dW]
 refine dQ (vV (R:=(rP (rL k U) Eq)) (Q:=(rP (rL k U) Eq)) ?_ ?_) ?_
 ·rintro ⟨d1,v2⟩ ⟨_,_⟩ ⟨⟨rfl,hU⟩,rfl⟩;exact VP hs _ _ d1 hU v2
 ·exact⟨qK hU,rfl⟩
 ·rintro ⟨d1,v2⟩ ⟨_,_⟩ ⟨⟨rfl,hU⟩,rfl⟩;apply VI hs <;> assumption
theorem VG (hs:dR k U cmp)(a1:Int)(aA:List aD)(hU:∀ x∈aA,U x)(i12 b5:Int):OR (rS (rP (rL k U) (rP Eq Eq)) (rP (rL k U) Eq)) (kQ cmp a1 aA i12 b5) (fB a1 (aA.map k) i12 b5):=by
 unfold kQ fB
 try simp only [List.length_map,dA hs.d0,dW]
 exact VO hs _ hU _ _ _
theorem VC (hs:dR k U cmp)(aA:List aD)(hU:∀ x∈aA,U x)(a1 i12 b5:Int):OR (rP (rP Eq Eq) (rL k U)) (kK cmp aA a1 i12 b5) (qD (aA.map k) a1 i12 b5):=by
 unfold kK qD
 try simp only [List.length_map,dA hs.d0,dW]
 refine dQ (vV (R:=(rP (rL k U) (rP Eq Eq))) (Q:=(rP (rL k U) Eq)) ?_ ?_) ?_
 ·rintro ⟨d1,⟨v2,v3⟩⟩ ⟨_,⟨_,_⟩⟩ ⟨⟨rfl,hU⟩,⟨rfl,rfl⟩⟩;exact VG hs _ d1 hU v2 v3
 ·exact⟨qK hU,⟨rfl,rfl⟩⟩
 ·rintro ⟨d1,v2⟩ ⟨_,_⟩ ⟨⟨rfl,hU⟩,rfl⟩;apply VH hs <;> assumption
theorem VL (hs:dR k U cmp)(aA:List aD)(hU:∀ x∈aA,U x)(a1 i12 b5:Int):OR (rP (rP Eq Eq) (rL k U)) (hY cmp aA a1 i12 b5) (lB (aA.map k) a1 i12 b5):=by
 unfold hY lB
 try simp only [List.length_map,dA hs.d0,dW]
 refine eX (fun h1=>?_) (fun h2=>?_)
 ·refine cG fun h3=>?_;refine cG fun h4=>?_;refine cG fun h5=>?_;refine cG fun h6=>?_;exact dI (by (repeat' constructor) <;> first | rfl | assumption | exact cT hU (by assumption) (by assumption))
 ·refine cG fun h7=>?_;refine cG fun h8=>?_;refine cG fun h9=>?_;refine cG fun b6=>?_;exact VC hs _ (cT hU (by assumption) (by assumption)) _ _ _
theorem VN (hs:dR k U cmp)(a1 i12:Int)(aA:List aD)(hU:∀ x∈aA,U x)(b5:Int):OR (rS (rP (rL k U) Eq) (rP (rL k U) Eq)) (kR cmp a1 i12 aA b5) (iK a1 i12 (aA.map k) b5):=by
 unfold kR iK
 try simp only [List.length_map,dA hs.d0,dW]
 refine cG fun h1=>?_;refine cG fun h2=>?_;refine dQ (R:=rC) (zR fun _=>nN hs (jD hU _) (jD hU _)) ?_;intro x_ y_ h_;obtain rfl:=h_;refine eX (fun h3=>?_) (fun h4=>?_)
 ·exact dI (by (repeat' constructor) <;> first | rfl | assumption | exact cT hU (by assumption) (by assumption))
 ·exact dI (by (repeat' constructor) <;> first | rfl | assumption | exact cT hU (by assumption) (by assumption))
theorem VD (hs:dR k U cmp)(aA:List aD)(hU:∀ x∈aA,U x)(a1 i12 b5:Int):OR (rP (rP Eq Eq) (rL k U)) (lA cmp aA a1 i12 b5) (qE (aA.map k) a1 i12 b5):=by
 unfold lA qE
 try simp only [List.length_map,dA hs.d0,dW]
 refine dQ (vV (R:=(rP (rL k U) Eq)) (Q:=(rP (rL k U) Eq)) ?_ ?_) ?_
 ·rintro ⟨d1,v2⟩ ⟨_,_⟩ ⟨⟨rfl,hU⟩,rfl⟩;exact VN hs _ _ d1 hU v2
 ·exact⟨qK hU,rfl⟩
 ·rintro ⟨d1,v2⟩ ⟨_,_⟩ ⟨⟨rfl,hU⟩,rfl⟩;apply VL hs <;> assumption
theorem VQ (hs:dR k U cmp)(aA:List aD)(hU:∀ x∈aA,U x)(a1 i12 b5:Int):OR (rP (rP Eq Eq) (rL k U)) (iD cmp aA a1 i12 b5) (qF (aA.map k) a1 i12 b5):=by
 unfold iD qF
 try simp only [List.length_map,dA hs.d0,dW]
 exact VD hs _ hU _ _ _
theorem UJ (hs:dR k U cmp)(a1 b5:Int)(aA:List aD)(hU:∀ x∈aA,U x)(i12:Int):OR (rS (rP (rL k U) Eq) (rP (rL k U) Eq)) (kJ cmp a1 b5 aA i12) (gV a1 b5 (aA.map k) i12):=by
 unfold kJ gV
 try simp only [List.length_map,dA hs.d0,dW]
 refine cG fun h1=>?_;refine cG fun h2=>?_;refine dQ (R:=rC) (zR fun _=>nN hs (jD hU _) (jD hU _)) ?_;intro x_ y_ h_;obtain rfl:=h_;refine eX (fun h3=>?_) (fun h4=>?_)
 ·exact dI (by (repeat' constructor) <;> first | rfl | assumption | exact cT hU (by assumption) (by assumption))
 ·exact dI (by (repeat' constructor) <;> first | rfl | assumption | exact cT hU (by assumption) (by assumption))
theorem UH (hs:dR k U cmp)(aA:List aD)(hU:∀ x∈aA,U x)(a1 i12 b5:Int):OR (rP (rP Eq Eq) (rL k U)) (kI cmp aA a1 i12 b5) (kF (aA.map k) a1 i12 b5):=by
 unfold kI kF
 try simp only [List.length_map,dA hs.d0,dW]
 refine dQ (vV (R:=(rP (rL k U) Eq)) (Q:=(rP (rL k U) Eq)) ?_ ?_) ?_
 ·rintro ⟨d1,v2⟩ ⟨_,_⟩ ⟨⟨rfl,hU⟩,rfl⟩;exact UJ hs _ _ d1 hU v2
 ·exact⟨qK hU,rfl⟩
 ·rintro ⟨d1,v2⟩ ⟨_,_⟩ ⟨⟨rfl,hU⟩,rfl⟩;apply VQ hs <;> assumption
theorem XD (hs:dR k U cmp)(aA:List aD)(hU:∀ x∈aA,U x)(a1 b2 cL:Int):OR (rP (rP Eq Eq) (rL k U)) (lV aA a1 b2 cL cmp) (lW (aA.map k) a1 b2 cL):=by
 unfold lV lW
 try simp only [List.length_map,dA hs.d0,dW]
 refine cG fun h1=>?_;refine cG fun h2=>?_;refine cG fun h3=>?_;refine cG fun h4=>?_;exact UH hs _ (cT hU (by assumption) (by assumption)) _ _ _
theorem MQ (hs:dR k U cmp){rec:List aD->Int->Int->Int->Option (List aD)}{b5:List Int->Int->Int->Int->Option (List Int)}(hrec:∀ d a b l,(∀ x∈d,U x)->OR (rL k U) (rec d a b l) (b5 (d.map k) a b l))(aA:List aD)(hU:∀ x∈aA,U x)(a1 b2 cB:Int)(bX bQ:Bool)(eF gP:Int):OR (rS (rP (rL k U) (rP Eq (rP Eq (rP Eq (rP Eq Eq))))) (rL k U)) (jH cmp rec aA a1 b2 cB bX bQ eF gP) (mN b5 (aA.map k) a1 b2 cB bX bQ eF gP):=by
 unfold jH mN
 try simp only [List.length_map,dA hs.d0,dW]
 refine cG fun h1=>?_;refine cG fun h2=>?_;refine dQ (R:=rC) (zR fun _=>nN hs (jD hU _) (jD hU _)) ?_;intro x_ y_ h_;obtain rfl:=h_;refine eX (fun h3=>?_) (fun h4=>?_)
 ·refine dQ (RP hs _ hU _ _ _) ?_;rintro ⟨b6,b7⟩ ⟨_,_⟩ ⟨rfl,⟨rfl,hU⟩⟩;exact dI (by (repeat' constructor) <;> first | rfl | assumption | exact cT hU (by assumption) (by assumption))
 ·refine dQ (XD hs _ hU _ _ _) ?_;rintro ⟨⟨b8,b9⟩,c4⟩ ⟨⟨_,_⟩,_⟩ ⟨⟨rfl,rfl⟩,⟨rfl,hU⟩⟩;refine cG fun h5=>?_;refine eX (fun h6=>?_) (fun h7=>?_)
  ·refine dQ (hrec _ _ _ _ hU) ?_;rintro d_ _ ⟨rfl,hU⟩;exact dI (by (repeat' constructor) <;> first | rfl | assumption | exact cT hU (by assumption) (by assumption))
  ·refine dQ (hrec _ _ _ _ hU) ?_;rintro d_ _ ⟨rfl,hU⟩;exact dI (by (repeat' constructor) <;> first | rfl | assumption | exact cT hU (by assumption) (by assumption))
theorem MG (hs:dR k U cmp){rec:List aD->Int->Int->Int->Option (List aD)}{b5:List Int->Int->Int->Int->Option (List Int)}(hrec:∀ d a b l,(∀ x∈d,U x)->OR (rL k U) (rec d a b l) (b5 (d.map k) a b l))(aA:List aD)(hU:∀ x∈aA,U x)(a1 b2 cB:Int)(bX bQ:Bool)(eF gP OD:Int):OR (rS (rP (rL k U) (rP Eq (rP Eq (rP Eq (rP Eq Eq))))) (rL k U)) (jI cmp rec aA a1 b2 cB bX bQ eF gP OD) (mH b5 (aA.map k) a1 b2 cB bX bQ eF gP OD):=by
 unfold jI mH
 try simp only [List.length_map,dA hs.d0,dW]
 refine eX (fun h1=>?_) (fun h2=>?_)
 ·refine dQ (KM hs _ hU _ _) ?_;rintro ⟨b6,b7⟩ ⟨_,_⟩ ⟨rfl,⟨rfl,hU⟩⟩;refine eX (fun h3=>?_) (fun h4=>?_)
  ·exact dI (by (repeat' constructor) <;> first | rfl | assumption | exact cT hU (by assumption) (by assumption))
  ·exact MQ hs hrec _ hU _ _ _ _ _ _ _
 ·exact MQ hs hrec _ hU _ _ _ _ _ _ _
theorem MO (hs:dR k U cmp){rec:List aD->Int->Int->Int->Option (List aD)}{b5:List Int->Int->Int->Int->Option (List Int)}(hrec:∀ d a b l,(∀ x∈d,U x)->OR (rL k U) (rec d a b l) (b5 (d.map k) a b l))(aA:List aD)(hU:∀ x∈aA,U x)(a1 b2 cB:Int)(bX bQ:Bool)(eF:Int):OR (rS (rP (rL k U) (rP Eq (rP Eq (rP Eq (rP Eq Eq))))) (rL k U)) (jF cmp rec aA a1 b2 cB bX bQ eF) (mI b5 (aA.map k) a1 b2 cB bX bQ eF):=by
 unfold jF mI
 try simp only [List.length_map,dA hs.d0,dW]
 refine dQ (TM hs _ hU _ _) ?_;rintro ⟨w1,w2⟩ ⟨_,_⟩ ⟨rfl,rfl⟩;refine eX (fun h1=>?_) (fun h2=>?_)
 ·refine dQ (SO hs _ hU _ _) ?_;rintro b6 _ ⟨rfl,hU⟩;exact MG hs hrec _ hU _ _ _ _ _ _ _ _
 ·exact MG hs hrec _ hU _ _ _ _ _ _ _ _
theorem YA (hs:dR k U cmp){rec:List aD->Int->Int->Int->Option (List aD)}{b5:List Int->Int->Int->Int->Option (List Int)}(hrec:∀ d a b l,(∀ x∈d,U x)->OR (rL k U) (rec d a b l) (b5 (d.map k) a b l))(aA:List aD)(hU:∀ x∈aA,U x)(a1 b2 cB:Int)(bX bQ:Bool):OR (rS (rP (rL k U) (rP Eq (rP Eq (rP Eq (rP Eq Eq))))) (rL k U)) (mD cmp rec aA a1 b2 cB bX bQ) (gR b5 (aA.map k) a1 b2 cB bX bQ):=by
 unfold mD gR
 try simp only [List.length_map,dA hs.d0,dW]
 refine eX (fun h1=>?_) (fun h2=>?_)
 ·refine dQ (RY hs _ hU _ _) ?_;rintro b7 _ ⟨rfl,hU⟩;exact dI (by (repeat' constructor) <;> first | rfl | assumption | exact cT hU (by assumption) (by assumption))
 ·refine eX (fun h3=>?_) (fun h4=>?_)
  ·refine dQ (YK hs _ hU _ _) ?_;rintro b8 _ ⟨rfl,hU⟩;exact dI (by (repeat' constructor) <;> first | rfl | assumption | exact cT hU (by assumption) (by assumption))
  ·refine eX (fun h5=>?_) (fun h6=>?_)
   ·refine dQ (SA hs _ hU _ _) ?_;rintro b6 _ ⟨rfl,hU⟩;exact MO hs hrec _ hU _ _ _ _ _ _
   ·exact MO hs hrec _ hU _ _ _ _ _ _
theorem YF (hs:dR k U cmp){rec:List aD->Int->Int->Int->Option (List aD)}{b5:List Int->Int->Int->Int->Option (List Int)}(hrec:∀ d a b l,(∀ x∈d,U x)->OR (rL k U) (rec d a b l) (b5 (d.map k) a b l))(aA:List aD)(hU:∀ x∈aA,U x)(a1 b2 cB:Int)(bX bQ:Bool):OR (rL k U) (mA cmp rec aA a1 b2 cB bX bQ) (rE b5 (aA.map k) a1 b2 cB bX bQ):=by
 unfold mA rE
 try simp only [List.length_map,dA hs.d0,dW]
 refine dQ (vV (R:=(rP (rL k U) (rP Eq (rP Eq (rP Eq (rP Eq Eq)))))) (Q:=(rL k U)) ?_ ?_) ?_
 ·rintro ⟨d1,⟨v2,⟨v3,⟨v4,⟨v5,v6⟩⟩⟩⟩⟩ ⟨_,⟨_,⟨_,⟨_,⟨_,_⟩⟩⟩⟩⟩ ⟨⟨rfl,hU⟩,⟨rfl,⟨rfl,⟨rfl,⟨rfl,rfl⟩⟩⟩⟩⟩;exact YA hs hrec  d1 hU v2 v3 v4 v5 v6
 ·exact⟨qK hU,⟨rfl,⟨rfl,⟨rfl,⟨rfl,rfl⟩⟩⟩⟩⟩
 ·exact fun x y h=>h
theorem VF (hs:dR k U cmp){rec:List aD->Int->Int->Int->Option (List aD)}{b5:List Int->Int->Int->Int->Option (List Int)}(hrec:∀ d a b l,(∀ x∈d,U x)->OR (rL k U) (rec d a b l) (b5 (d.map k) a b l))(aA:List aD)(hU:∀ x∈aA,U x)(a1 b2 cB:Int):OR (rL k U) (kY cmp rec aA a1 b2 cB) (kX b5 (aA.map k) a1 b2 cB):=by
 unfold kY kX
 try simp only [List.length_map,dA hs.d0,dW]
 exact YF hs hrec _ hU _ _ _ _ _
theorem MI (hs:dR k U cmp):∀ n d a b l,(∀ x∈d,U x)->OR (rL k U) (jK cmp n d a b l) (oJ n (d.map k) a b l)
 | 0,_,_,_,_,_=>trivial
 | n+1,d,a,b,l,hU=>VF hs (MI hs n) d hU a b l
theorem aDp (hs:dR k U cmp) {xs zs:List aD} (hl:xs.length<2305843009213693951) (hU:∀ x∈xs,U x) (hi:∀ x y,U x->U y->k x=k y->x=y)
  (hp:zs.Perm xs) (ho:(zs.map k).Pairwise (· <= ·)):gY xs cmp=some zs:=by
 have hz:∀ x∈zs,U x:=fun x hx=>hU x (hp.mem_iff.1 hx)
 have key:∀ L:Nat,L<=100 -> ∀ n,jK cmp n xs 0 (xs.length:Int) (L:Int)=none/\n<xs.length+1∨jK cmp n xs 0 (xs.length:Int) (L:Int)=some zs:=by
  intro L hL n;have hv:OZ 0 (xs.map k).length L (xs.map k):=⟨Nat.zero_le _,Nat.le_refl _,by simpa using hl,.inl rfl,hL⟩;have h1:=MI hs n xs 0 (xs.length:Int) (L:Int) hU;have h2:=aJK n (xs.map k) 0 (xs.map k).length L hv;rw [List.length_map] at h2;rcases aJc h1 with ⟨e1,e2⟩ | ⟨x,y,e1,e2,rfl,hx⟩
  ·rcases h2 with ⟨_,h⟩ | ⟨d',h,_⟩
   ·exact .inl ⟨e1,by omega⟩
   ·exact absurd (e2.symm.trans h) (by simp)
  ·right;rw [e1]
   congr 1
   rcases h2 with ⟨h,_⟩ | ⟨d',h,g⟩
   ·exact absurd (e2.symm.trans h) (by simp)
   ·have hd:d'=x.map k:=by have:=e2.symm.trans h;simpa using this.symm
    subst hd
    have b5:(x.map k).Pairwise (· <= ·):=by
     refine List.pairwise_iff_getElem.2 fun i j hi hj hij=>?_;have hlen:=g.1.len;have:=g.2 i j (Nat.zero_le _) (by omega) (by rw [hlen] at hj;simpa using hj);simp only [gN,List.getD_eq_getElem?_getD,List.getElem?_eq_getElem hi,List.getElem?_eq_getElem hj] at this;exact this
    have hpp:(x.map k).Perm (zs.map k):=g.1.perm.trans (hp.map k).symm;have he:=hpp.eq_of_pairwise (le:=(· <= ·)) (fun a b _ _ h1 h2=>Int.le_antisymm h1 h2) b5 ho;clear hpp b5 g h e1 e2 h1 ho hp hU
    induction x generalizing zs with
    | nil=>cases zs with
     | nil=>rfl
     | cons _ _=>simp at he
    | cons a x ih=>cases zs with
     | nil=>simp at he
     | cons b zs =>
      simp only [List.map_cons,List.cons.injEq] at he;rw [hi a b (hx a List.mem_cons_self) (hz b List.mem_cons_self) he.1,ih (fun y hy=>hz y (List.mem_cons_of_mem _ hy)) (fun y hy=>hx y (List.mem_cons_of_mem _ hy)) he.2]
 unfold gY sN
 have hL:∃ L:Nat,pZ (u64.wrap (xs.length:Int))=some (L:Int)/\L<=100:=by
  rw [aAL (by omega) (by omega)];by_cases h0:xs.length=0
  ·rw [h0];exact ⟨0,aLy,by omega⟩
  ·obtain⟨k,e,h1,_⟩:=aJD (x:=(xs.length:Int)) (by omega) (by omega);exact⟨k+1,by rw [e];rfl,by omega⟩
 obtain⟨L,eL,hL⟩:=hL;rw [eL];simp only [Option.bind_some];rw [aNn (r:=zs)]
 ·rfl
 ·rcases key L hL (xs.length+1) with ⟨_,h⟩ | h
  ·omega
  ·exact⟨_,h⟩
 ·intro n r' h;rcases key L hL n with ⟨h',_⟩ | h'
  ·rw [h] at h';cases h'
  ·rw [h] at h';exact (Option.some.inj h')
end
abbrev gsB (m:List (ByteArray×aD)):List (List aF×List aB):=m.map fun p=>(p.2.row,p.2.jumps)
structure nP (b:cE) (T:List aK):Prop where
 key:∀ p∈b.cells,p.1=keyOf p.2.row
 perm:(gsB b.cells).Perm (groups T)
 tab:oT T=true
 num:∀ e∈T,∀ v∈e.Row,sE v.Num
 edges:b.edges=T.length
theorem aFY (a b:List aF):jW a b<0∨a=b∨jW b a<0:=by
 rcases Int.lt_trichotomy (jW a b) 0 with h | h | h
 ·exact .inl h
 ·exact .inr (.inl ((uJ.eq a b).1 h))
 ·exact .inr (.inr ((uJ.anti b a).2 h))
theorem ZP {gs:List (List aF×List aB)}(h:AM gs):(gs.map (·.1)).Nodup:=by
 rw [List.Nodup,List.pairwise_map]
 exact h.imp fun {a b} hab e=>by
  rw [ltG,e] at hab;exact CA hab
theorem nP.may {b:cE}{T:List aK}(h:nP b T):lZ T=true:=(nQ.1 h.tab).1
theorem nP.srt {b:cE}{T:List aK}(h:nP b T):AM (groups T):=(gQ h.may).2.2
theorem nP.mem {b:cE}{T:List aK}(h:nP b T){p:ByteArray×aD}(hp:p∈b.cells):(p.2.row,p.2.jumps)∈groups T:=h.perm.mem_iff.1 (List.mem_map.2 ⟨p,hp,rfl⟩)
theorem nP.rows {b:cE}{T:List aK}(h:nP b T){g:List aF×List aB}(hg:g∈groups T):rOk g.1/\dU g.2=true/\g.2≠[]:=by
 obtain⟨h1,h2⟩:=(gQ h.may).2.1 g hg;obtain⟨h3,e,he,h4⟩:=HA hg;exact⟨⟨h1,fun v hv=>h.num e he v (h4 ▸ hv)⟩,h2,h3⟩
theorem nP.cell {b:cE}{T:List aK}(h:nP b T){p:ByteArray×aD}(hp:p∈b.cells):rOk p.2.row/\dU p.2.jumps=true/\p.2.jumps≠[]:=h.rows (h.mem hp)
theorem nP.aEh {b:cE}{T:List aK}(h:nP b T):(b.cells.map fun p=>p.2.row).Nodup:=by
 have h1:(b.cells.map fun p=>p.2.row).Perm ((groups T).map (·.1)):=by
  have:=h.perm.map (fun g:List aF×List aB=>g.1);rw [List.map_map] at this;exact this
 exact h1.nodup_iff.2 (ZP h.srt)
theorem nP.WB {b:cE}{T:List aK}(h:nP b T):(b.cells.map (·.1)).Nodup:=by
 have e:b.cells.map (·.1)=b.cells.map fun p=>keyOf p.2.row:=List.map_congr_left fun p hp=>h.key p hp;rw [e];have h1:=h.aEh;rw [List.Nodup,List.pairwise_map] at h1 ⊢;refine List.Pairwise.imp_of_mem ?_ h1;intro p q hp hq hne he;exact hne (WA (h.cell hp).1.1 (h.cell hq).1.1 he)
theorem nP.len {b:cE}{T:List aK}(h:nP b T):b.cells.length<=4096:=by
 have h1:=h.perm.length_eq;rw [List.length_map] at h1;have h2:=SV T;have h3:=(gQ h.may).1;omega
theorem nP.was {b:cE}{T:List aK}(h:nP b T){r:List aF}(hr:gI r=true):kC b.cells (keyOf r)=look (groups T) r:=by
 unfold kC;by_cases hx:∃ p∈b.cells,p.2.row=r
 ·obtain⟨p,hp,rfl⟩:=hx;obtain⟨j,hj⟩:=List.getElem?_of_mem hp;have e:b.cells[j]?=some (keyOf p.2.row,p.2):=by rw [hj,←h.key p hp]
  rw [QJ h.WB e];exact (xO h.srt (h.mem hp)).symm
 ·have h1:∀ p∈b.cells,p.1≠keyOf r:=by
   intro p hp e;rw [h.key p hp] at e;exact hx ⟨p,hp,WA (h.cell hp).1.1 hr e⟩
  rw [QV h1,VX]
  ·rfl
  ·intro g hg e;obtain⟨p,hp,e'⟩:=List.mem_map.1 (h.perm.mem_iff.2 hg);refine hx ⟨p,hp,?_⟩;rw [←e,←e']
theorem filter_lt {α:Type}{p q:α->Bool}:∀ {l:List α} {a:α},(∀ x∈l,p x=true->q x=true)->a∈l->p a=false->q a=true->(l.filter p).length<(l.filter q).length
 | [],_,_,ha,_,_=>by cases ha
 | x::l,a,h,ha,hp,hq=>by
  have le:(l.filter p).length<=(l.filter q).length:=by
   have : ∀ (m:List α),(∀ x∈m,p x=true->q x=true)->(m.filter p).length<=(m.filter q).length:=by
    intro m
    induction m with
    | nil=>intro _; exact Nat.le_refl _
    | cons y m ih =>
     intro hm;have:=ih fun z hz=>hm z (List.mem_cons_of_mem _ hz);rw [List.filter_cons,List.filter_cons];split
     ·rw [if_pos (hm y (List.mem_cons_self ..) (by assumption))];simpa using this
     ·split
      ·rw [List.length_cons];omega
      ·exact this
   exact this l fun z hz=>h z (List.mem_cons_of_mem _ hz)
  rcases List.mem_cons.1 ha with rfl | ha
  ·rw [List.filter_cons,List.filter_cons,hp,hq];simp only [Bool.false_eq_true,if_false,if_true,List.length_cons];omega
  ·have:=filter_lt (fun z hz=>h z (List.mem_cons_of_mem _ hz)) ha hp hq;rw [List.filter_cons,List.filter_cons];split
   ·rw [if_pos (h x (List.mem_cons_self ..) (by assumption))];simpa using this
   ·split
    ·rw [List.length_cons];omega
    ·exact this
def rkR (L:List (List aF))(r:List aF):Int:=(((L.filter fun s=>decide (jW s r<0)).length:Nat):Int)
theorem TK {L:List (List aF)}{a b:List aF}(ha:a∈L)(h:jW a b<0):rkR L a<rkR L b:=by
 unfold rkR
 have:=filter_lt (p:=fun s=>decide (jW s a<0)) (q:=fun s=>decide (jW s b<0)) (l:=L) (a:=a) (fun s _ hs=>by
  simp only [decide_eq_true_eq] at hs ⊢;exact uJ.trans _ _ _ hs h) ha (by simpa using CA) (by simpa using h)
 omega
theorem aM4 {L:List (List aF)}{a b:List aF}(ha:a∈L)(hb:b∈L):jW a b<0↔rkR L a<rkR L b:=by
 refine⟨TK ha,fun h=>?_⟩;rcases aFY a b with h1 | h1 | h1
 ·exact h1
 ·subst h1;omega
 ·have:=TK hb h1;omega
theorem aNb {L:List (List aF)}{a b:List aF}(ha:a∈L)(hb:b∈L)(h:rkR L a=rkR L b):a=b:=by
 rcases aFY a b with h1 | h1 | h1
 ·have:=TK ha h1;omega
 ·exact h1
 ·have:=TK hb h1;omega
theorem aM6 (L:List (List aF)):rkR L []=0:=by
 unfold rkR
 have : (L.filter fun s=>decide (jW s []<0))=[]:=by
  rw [List.filter_eq_nil_iff];intro s _
  cases s <;> simp [jW,nA]
 rw [this];rfl
abbrev mkC (g:List aF×List aB):aD:=⟨g.1,g.2⟩
theorem aMv {x y:aD}(hx:gI x.row=true)(hy:gI y.row=true):rQ x y=some (jW x.row y.row):=by
 unfold rQ;rw [aD6,hx,hy];rfl
theorem aOB {b:cE}{T:List aK}(h:nP b T){q:List (ByteArray×aD)}(hq:q.Perm b.cells):gY (q.map (·.2)) (fun x y=>rQ x y)=some ((groups T).map mkC):=by
 have hp:((groups T).map mkC).Perm (q.map (·.2)):=by
  have h1:=(h.perm.symm.trans ((hq.map fun p=>(p.2.row,p.2.jumps)).symm)).map mkC;rw [List.map_map] at h1;exact h1
 have hmem:∀ c∈(groups T).map mkC,(c.row,c.jumps)∈groups T:=by
  intro c hc;obtain⟨g,hg,rfl⟩:=List.mem_map.1 hc;exact hg
 have hrow:∀ c,(c∈(groups T).map mkC∨c=default)->c.row∈[]::(groups T).map (·.1)/\gI c.row=true:=by
  rintro c (hc | rfl)
  ·exact⟨List.mem_cons_of_mem _ (List.mem_map.2 ⟨_,hmem c hc,rfl⟩),(h.rows (hmem c hc)).1.1⟩
  ·exact⟨List.mem_cons_self ..,rfl⟩
 refine aDp (k:=fun c=>rkR ([]::(groups T).map (·.1)) c.row) (U:=fun c=>c∈(groups T).map mkC) ⟨aM6 _,?_⟩ ?_ ?_ ?_ hp ?_
 ·intro x y hx hy;obtain⟨x1,x2⟩:=hrow x hx;obtain⟨y1,y2⟩:=hrow y hy;exact⟨_,aMv x2 y2,aM4 x1 y1⟩
 ·have:=h.len;rw [List.length_map,hq.length_eq];omega
 ·exact fun x hx=>hp.mem_iff.2 hx
 ·intro x y hx hy e;have e1:=aNb (hrow x (.inl hx)).1 (hrow y (.inl hy)).1 e;have j1:=xO h.srt (hmem x hx);have j2:=xO h.srt (hmem y hy);obtain⟨xr,xj⟩:=x;obtain⟨yr,yj⟩:=y;simp only at e1 j1 j2;subst e1;rw [←j1,←j2]
 ·rw [List.map_map,List.pairwise_map];refine List.Pairwise.imp_of_mem ?_ h.srt;intro a c ha hc hlt;exact Int.le_of_lt (TK (List.mem_cons_of_mem _ (List.mem_map.2 ⟨a,ha,rfl⟩)) hlt)
theorem aKy:∀ (q:List (ByteArray×aD)) (s:List aD),s.length+q.length<=100000->oP wY s q=some (s++q.map (·.2))
 | [],s,_=>by simp [oP]
 | p::q,s,h=>by
  rw [List.length_cons] at h
  have e:wY s p=some (s++[p.2]):=by
   unfold wY;rw [aQ (by simp;omega)]
  show (wY s p).bind (fun s'=>oP wY s' q)=_;rw [e];simp only [Option.bind_some];rw [aKy q _ (by simp;omega)];simp
theorem aB6 {b:cE}{T:List aK}(h:nP b T):zZ b=some T:=by
 have hl:=h.len;unfold zZ;rw [aQ (by simp only [lN];omega)];refine RN fun q hq=>?_;rw [aKy q [] (by rw [hq.length_eq];simp;omega)];simp only [Option.bind_some,List.nil_append,XG];rw [aOB h hq];simp only [Option.bind_some];have hT:=(gQ h.may).1;rw [kP (l:=(groups T).map mkC) (st:=List aK) (fun s i=>(s,i)) (fun s r=>s++r.flatMap fun c=>lK c.row c.jumps) (fun s r=>s.length+(r.flatMap fun c=>lK c.row c.jumps).length<=4096 /\ ∀ c∈r,gI c.row=true/\dU c.jumps=true) [] ?_ ?_ ?_]
 ·rw [List.nil_append,List.flatMap_map];exact congrArg some (uX T)
 ·intro i a r s hi hinv;obtain⟨h1,h2⟩:=hinv;have hlt:=(List.getElem?_eq_some_iff.1 hi).1;obtain⟨ha,hb⟩:=h2 a (List.mem_cons_self ..);rw [List.flatMap_cons,List.length_append] at h1;have h8:=(tS ha).1;have hgl:((groups T).map mkC).length<=4096:=by rw [List.length_map];have:=SV T;omega
  refine .inl ⟨s++lK a.row a.jumps,?_,⟨by rw [List.length_append];omega,fun c hc=>h2 c (List.mem_cons_of_mem _ hc)⟩,by simp⟩;simp only [JO,lN,gD];rw [show decide ((i:Int)<((((groups T).map mkC).length:Nat):Int))=true from by simp only [decide_eq_true_eq];omega];simp only [cond_true];rw [aQ (by omega),Int.toNat_natCast,List.getD_eq_getElem?_getD,hi,Option.getD_some,aJ0 (by omega)];simp only [Option.bind_some,aGL,ha,hb,Bool.and_self,if_true];rw [aQ (by omega),wR,cZ (by omega) (by omega)];rfl
 ·intro s _;simp only [JO,lN];rw [show decide (((((groups T).map mkC).length:Nat):Int)<((((groups T).map mkC).length:Nat):Int))=false from by simp];simp
 ·refine⟨?_,fun c hc=>?_⟩
  ·rw [List.flatMap_map];have : (List.flatMap (fun a=>lK (mkC a).row (mkC a).jumps) (groups T))=T:=uX T;rw [this];simpa using hT
  ·obtain⟨g,hg,rfl⟩:=List.mem_map.1 hc;obtain⟨h1,h2,_⟩:=h.rows hg;exact⟨h1.1,h2⟩
theorem aK0:nP ⟨[],0,-1⟩ [] where
 key:=by simp
 perm:=.nil
 tab:=by decide +kernel
 num:=by simp
 edges:=rfl
theorem aCf {a b:List Nat}(h:a.Perm b):a.sum=b.sum:=by
 induction h with
 | nil=>rfl
 | cons x _ ih=>simp [ih]
 | swap x y l=>simp; omega
 | trans _ _ i1 i2=>exact i1.trans i2
def wP (m:List (ByteArray×aD))(c:aD):List (ByteArray×aD):=if c.jumps=[] then sQ m (keyOf c.row) else pH m (keyOf c.row) c
def tH (m:List (ByteArray×aD)):Nat:=(m.map fun p=>p.2.jumps.length).sum
structure Cells (m:List (ByteArray×aD)) (L:List aF->List aB):Prop where
 key:∀ p∈m,p.1=keyOf p.2.row/\rOk p.2.row/\p.2.jumps≠[]/\L p.2.row=p.2.jumps
 nd:(m.map (·.1)).Nodup
 no:∀ r,gI r=true->L r≠[] -> ∃ p∈m,p.2.row=r
theorem aCc {m:List (ByteArray×aD)}{k:ByteArray}{p:ByteArray×aD}:p∈sQ m k↔p∈m/\p.1≠k:=by
 unfold sQ;rw [List.mem_filter];simp
theorem aD8 {k:ByteArray}{v:aD}:∀ {m:List (ByteArray×aD)} {x:ByteArray},x∈(pH m k v).map (·.1)↔x=k∨x∈m.map (·.1)
 | [],x=>by simp [pH]
 | p::m,x=>by
  unfold pH;split
  ·rename_i e
   simp only [List.map_cons,List.mem_cons,e];constructor
   ·rintro (h | h)
    ·exact .inl h
    ·exact .inr (.inr h)
   ·rintro (h | h | h)
    ·exact .inl h
    ·exact .inl h
    ·exact .inr h
  ·simp only [List.map_cons,List.mem_cons];rw [aD8];constructor
   ·rintro (h | h | h)
    ·exact .inr (.inl h)
    ·exact .inl h
    ·exact .inr (.inr h)
   ·rintro (h | h | h)
    ·exact .inr (.inl h)
    ·exact .inl h
    ·exact .inr (.inr h)
theorem aIp {k:ByteArray}{v:aD}:∀ {m:List (ByteArray×aD)},(m.map (·.1)).Nodup->((pH m k v).map (·.1)).Nodup
 | [],_=>by simp [pH]
 | p::m,h=>by
  rw [List.map_cons,List.nodup_cons] at h;unfold pH;split
  ·rename_i e
   rw [List.map_cons,List.nodup_cons];exact⟨e ▸ h.1,h.2⟩
  ·rename_i e
   rw [List.map_cons,List.nodup_cons];refine⟨fun hm=>?_,aIp h.2⟩;rcases aD8.1 hm with h1 | h1
   ·exact e h1
   ·exact h.1 h1
theorem VB {k:ByteArray}{v:aD}:∀ {m:List (ByteArray×aD)} {p:ByteArray×aD},(m.map (·.1)).Nodup->(p∈pH m k v↔p=(k,v)∨(p∈m/\p.1≠k))
 | [],p,_=>by simp [pH]
 | q::m,p,h=>by
  rw [List.map_cons,List.nodup_cons] at h;unfold pH;split
  ·rename_i e
   simp only [List.mem_cons];constructor
   ·rintro (h1 | h1)
    ·exact .inl h1
    ·refine .inr ⟨.inr h1,fun e'=>h.1 ?_⟩;rw [e,←e'];exact List.mem_map_of_mem h1
   ·rintro (h1 | ⟨h1 | h1,h2⟩)
    ·exact .inl h1
    ·subst h1;exact absurd e h2
    ·exact .inr h1
  ·rename_i e
   simp only [List.mem_cons];rw [VB h.2];constructor
   ·rintro (h1 | h1 | ⟨h1,h2⟩)
    ·subst h1;exact .inr ⟨.inl rfl,e⟩
    ·exact .inl h1
    ·exact .inr ⟨.inr h1,h2⟩
   ·rintro (h1 | ⟨h1 | h1,h2⟩)
    ·exact .inr (.inl h1)
    ·exact .inl h1
    ·exact .inr (.inr ⟨h1,h2⟩)
theorem aFU (p:ByteArray×aD)(m:List (ByteArray×aD))(k:ByteArray):kC (p::m) k=if p.1=k then p.2.jumps else kC m k:=by
 unfold kC;rw [CS];split <;> rfl
theorem aBc (c:aD):∀ {m:List (ByteArray×aD)},(m.map (·.1)).Nodup->tH (wP m c)+(kC m (keyOf c.row)).length=tH m+c.jumps.length
 | [],_=>by
  have e:kC [] (keyOf c.row)=[]:=rfl;rw [e];unfold wP;split
  ·rename_i h;simp [sQ,tH,h]
  ·simp [pH,tH]
 | p::m,h=>by
  rw [List.map_cons,List.nodup_cons] at h;have ih:=aBc c h.2;rw [aFU];by_cases e:p.1=keyOf c.row
  ·rw [if_pos e];unfold wP;split
   ·rename_i hj
    have : sQ (p::m) (keyOf c.row)=m:=by
     unfold sQ;rw [List.filter_cons,if_neg (by simp [e])];refine List.filter_eq_self.2 fun q hq=>?_;have : q.1≠keyOf c.row:=fun e'=>h.1 (by rw [e,←e'];exact List.mem_map_of_mem hq)
     simpa using this
    rw [this,hj];simp [tH];omega
   ·rw [pH,if_pos e];simp [tH];omega
  ·rw [if_neg e]
   have hp:wP (p::m) c=p::wP m c:=by
    unfold wP;split
    ·unfold sQ;rw [List.filter_cons,if_pos (by simpa using e)]
    ·rw [pH,if_neg e]
   rw [hp];have : ∀ x:List (ByteArray×aD),tH (p::x)=p.2.jumps.length+tH x:=fun x=>by simp [tH]
   rw [this,this];omega
theorem aJ5 (c:aD){m:List (ByteArray×aD)}(h:(m.map (·.1)).Nodup):((wP m c).map (·.1)).Nodup:=by
 unfold wP;split
 ·unfold sQ;exact h.sublist (List.filter_sublist.map _)
 ·exact aIp h
abbrev JE (L:List aF->List aB)(c:aD):List aF->List aB:=fun r=>if r=c.row then c.jumps else L r
theorem aJV {m:List (ByteArray×aD)}{L:List aF->List aB}(h:Cells m L){c:aD}(hc:rOk c.row):Cells (wP m c) (JE L c):=by
 have hne:∀ p∈m,p.1≠keyOf c.row->p.2.row≠c.row:=fun p hp e e'=>e (by rw [(h.key p hp).1,e']);have hne':∀ p∈m,p.2.row≠c.row->p.1≠keyOf c.row:=fun p hp e e'=>e (WA (h.key p hp).2.1.1 hc.1 ((h.key p hp).1 ▸ e'));refine⟨fun p hp=>?_,aJ5 c h.nd,fun r hr hL=>?_⟩
 ·unfold wP at hp;split at hp
  ·obtain⟨h1,h2⟩:=aCc.1 hp;obtain⟨k1,k2,k3,k4⟩:=h.key p h1;exact⟨k1,k2,k3,by rw [JE,if_neg (hne p h1 h2)];exact k4⟩
  ·rcases (VB h.nd).1 hp with rfl | ⟨h1,h2⟩
   ·rename_i hj
    exact⟨rfl,hc,hj,by rw [JE,if_pos rfl]⟩
   ·obtain⟨k1,k2,k3,k4⟩:=h.key p h1;exact⟨k1,k2,k3,by rw [JE,if_neg (hne p h1 h2)];exact k4⟩
 ·by_cases e:r=c.row
  ·rw [JE,if_pos e] at hL;unfold wP;rw [if_neg hL];exact⟨_,(VB h.nd).2 (.inl rfl),e.symm⟩
  ·rw [JE,if_neg e] at hL;obtain⟨p,hp,hpr⟩:=h.no r hr hL;have hk:=hne' p hp (by rw [hpr];exact e);refine⟨p,?_,hpr⟩;unfold wP;split
   ·exact aCc.2 ⟨hp,hk⟩
   ·exact (VB h.nd).2 (.inr ⟨hp,hk⟩)
theorem Cells.was {m:List (ByteArray×aD)}{L:List aF->List aB}(h:Cells m L){r:List aF}(hr:gI r=true):kC m (keyOf r)=L r:=by
 unfold kC;by_cases hx:∃ p∈m,p.2.row=r
 ·obtain⟨p,hp,rfl⟩:=hx;obtain⟨j,hj⟩:=List.getElem?_of_mem hp;have e:m[j]?=some (keyOf p.2.row,p.2):=by rw [hj,←(h.key p hp).1]
  rw [QJ h.nd e];exact (h.key p hp).2.2.2.symm
 ·have h1:∀ p∈m,p.1≠keyOf r:=by
   intro p hp e;rw [(h.key p hp).1] at e;exact hx ⟨p,hp,WA (h.key p hp).2.1.1 hr e⟩
  rw [QV h1]
  cases hL:L r with
  | nil=>rfl
  | cons j f=>exact absurd (h.no r hr (by rw [hL]; simp)) hx
def DZ (b:cE)(c:aD):cE:=⟨wP b.cells c,((tH (wP b.cells c):Nat):Int),b.mark⟩
theorem aNu {b:cE}{c:aD}(hc:rOk c.row)(hnd:(b.cells.map (·.1)).Nodup)(he:b.edges=((tH b.cells:Nat):Int))(hs:tH b.cells<=1000000000)(hj:c.jumps.length<=1024):RJ b c=some (DZ b c):=by
 unfold RJ;rw [aAo hc];simp only [Option.bind_some];have h1:=aBc c hnd
 have hw:(kC b.cells (keyOf c.row)).length<=tH b.cells:=by
  clear h1 hj hs he hc
  generalize b.cells=m at *
  induction m with
  | nil=>exact Nat.zero_le _
  | cons p m ih =>
   rw [aFU];have:=ih (List.nodup_cons.1 hnd).2;have e:tH (p::m)=p.2.jumps.length+tH m:=by simp [tH]
   split <;> omega
 have hsum:xM b c (keyOf c.row)=((tH (wP b.cells c):Nat):Int):=by
  unfold xM;simp only [lN,wR];rw [cZ (n:=(c.jumps.length:Int)-_) (by omega) (by omega),cZ (by omega) (by omega)];omega
 rw [hsum];unfold DZ wP;by_cases hz:c.jumps=[]
 ·rw [show decide ((lN c.jumps)=0)=true from by rw [hz];rfl,if_pos hz];rfl
 ·rw [show decide ((lN c.jumps)=0)=false from by
   simp only [lN,decide_eq_false_iff_not];have : c.jumps.length≠0:=fun e=>hz (List.length_eq_zero_iff.1 e);omega,if_neg hz];rfl
structure CJ (b:cE) (L:List aF->List aB):Prop where
 cells:Cells b.cells L
 sum:b.edges=((tH b.cells:Nat):Int)
theorem aB9 {b:cE}{L:List aF->List aB}(h:CJ b L){c:aD}(hc:rOk c.row):CJ (DZ b c) (JE L c):=⟨aJV h.cells hc,rfl⟩
theorem aMY {b:cE}{c:aD}(hnd:(b.cells.map (·.1)).Nodup):tH (DZ b c).cells<=tH b.cells+c.jumps.length:=by
 have:=aBc c hnd;show tH (wP b.cells c)<=_;omega
theorem aHZ {tu:List aD}{b:cE}{L:List aF->List aB}(h:CJ b L)(hs:tH b.cells<=4096)(hl:tu.length<=100000)(htu:∀ c∈tu,rOk c.row/\c.jumps.length<=1024) :
  lp (fun s=>pJ tu (lN tu) s.1 s.2) (b,(0:Int))=some (tu.foldl DZ b)/\CJ (tu.foldl DZ b) (tu.foldl JE L)/\(tu.foldl DZ b).mark=b.mark:=by
 refine⟨?_,?_,?_⟩
 ·rw [kP (l:=tu) (st:=cE) (fun s i=>(s,i)) (fun s r=>r.foldl DZ s) (fun s r=>(∃ L,CJ s L)/\tH s.cells+1024*r.length<=1000000000 /\ ∀ c∈r,rOk c.row/\c.jumps.length<=1024) b ?_ ?_ ⟨⟨L,h⟩,by omega,htu⟩]
  ·intro i a r s hi hinv;obtain⟨⟨L1,h1⟩,h2,h3⟩:=hinv;have hlt:=(List.getElem?_eq_some_iff.1 hi).1;obtain⟨ha,hb⟩:=h3 a (List.mem_cons_self ..);rw [List.length_cons] at h2;have hle:=aMY (c:=a) h1.cells.nd;refine .inl ⟨DZ s a,?_,⟨⟨_,aB9 h1 ha⟩,by omega,fun c hc=>h3 c (List.mem_cons_of_mem _ hc)⟩,rfl⟩;simp only [pJ,lN,gD];rw [show decide ((i:Int)<((tu.length:Nat):Int))=true from by simp only [decide_eq_true_eq];omega];simp only [cond_true];rw [aQ (by omega),Int.toNat_natCast,List.getD_eq_getElem?_getD,hi,Option.getD_some,aNu ha h1.cells.nd h1.sum (by omega) hb];simp only [Option.bind_some];rw [wR,cZ (by omega) (by omega)];rfl
  ·intro s _;simp only [pJ,lN];rw [show decide (((tu.length:Nat):Int)<((tu.length:Nat):Int))=false from by simp];simp
 ·clear hs hl
  induction tu generalizing b L with
  | nil=>exact h
  | cons c tu ih=>exact ih (aB9 h (htu c (List.mem_cons_self ..)).1) fun x hx=>htu x (List.mem_cons_of_mem _ hx)
 ·clear hs hl h
  induction tu generalizing b with
  | nil=>rfl
  | cons c tu ih=>rw [List.foldl_cons,ih fun x hx=>htu x (List.mem_cons_of_mem _ hx)]; rfl
theorem WR:∀ {tu:List aD} {L:List aF->List aB} {r:List aF},(∀ c∈tu,c.row≠r)->tu.foldl JE L r=L r
 | [],_,_,_=>rfl
 | c::tu,L,r,h=>by
  rw [List.foldl_cons,WR fun x hx=>h x (List.mem_cons_of_mem _ hx),JE,if_neg fun e=>h c (List.mem_cons_self ..) e.symm]
theorem aB2:∀ {tu:List aD} {L:List aF->List aB} {c:aD},(tu.map (·.row)).Nodup->c∈tu->tu.foldl JE L c.row=c.jumps
 | [],_,_,_,h=>by cases h
 | x::tu,L,c,hn,h=>by
  rw [List.map_cons,List.nodup_cons] at hn;rw [List.foldl_cons];rcases List.mem_cons.1 h with rfl | h
  ·rw [WR fun y hy e=>hn.1 (by rw [←e];exact List.mem_map_of_mem hy),JE,if_pos rfl]
  ·exact aB2 hn.2 h
theorem CJ.aMd {b:cE}{L:List aF->List aB}(h:CJ b L){gs:List (List aF×List aB)}(hs:AM gs)(hf:Full gs)(hr:∀ g∈gs,gI g.1=true)(hL:∀ r,gI r=true->look gs r=L r):(gsB b.cells).Perm gs/\b.edges=((flat gs).length:Nat):=by
 have hp:(gsB b.cells).Perm gs:=by
  refine (List.perm_ext_iff_of_nodup ?_ ?_).2 fun g=>?_
  ·have h1:=h.cells.nd;rw [List.Nodup,List.pairwise_map] at h1 ⊢;refine List.Pairwise.imp_of_mem ?_ h1;intro p q hp hq hne e;have e1:p.2.row=q.2.row:=congrArg Prod.fst e;exact hne (by rw [(h.cells.key p hp).1,(h.cells.key q hq).1,e1])
  ·have h1:=ZP hs;rw [List.Nodup,List.pairwise_map] at h1;exact h1.imp fun hne e=>hne (congrArg Prod.fst e)
  ·constructor
   ·intro hg;obtain⟨p,hp,rfl⟩:=List.mem_map.1 hg;obtain⟨_,k2,k3,k4⟩:=h.cells.key p hp;rw [←hL _ k2.1] at k4;rcases zM gs p.2.row with ⟨e,_⟩ | ⟨g,hg,e1,e2⟩
    ·rw [e] at k4;exact absurd k4.symm k3
    ·rw [k4] at e2;obtain⟨g1,g2⟩:=g;simp only at e1 e2;rw [e2,←e1];exact hg
   ·intro hg;have h1:=xO hs hg;have hr:=hr g hg;have hne:=hf g hg;rw [hL _ hr] at h1;obtain⟨p,hp,hpr⟩:=h.cells.no g.1 hr (by rw [h1];exact hne);refine List.mem_map.2 ⟨p,hp,?_⟩;have k4:=(h.cells.key p hp).2.2.2;rw [hpr,h1] at k4;obtain⟨g1,g2⟩:=g;simp only at hpr k4;rw [hpr,k4]
 refine⟨hp,?_⟩;rw [h.sum];have h1:=hp.map (fun g:List aF×List aB=>g.2.length);rw [aCl gs,←aCf h1,List.map_map];rfl
theorem CJ.is {b:cE}{L:List aF->List aB}(h:CJ b L){T:List aK}(ht:oT T=true)(hn:∀ e∈T,∀ v∈e.Row,sE v.Num)(hL:∀ r,gI r=true->look (groups T) r=L r):nP b T:=by
 have hm:=(nQ.1 ht).1;obtain⟨hp,he⟩:=h.aMd (gQ hm).2.2 (aHU T) (fun g hg=>((gQ hm).2.1 g hg).1) hL;rw [uX] at he;exact⟨fun p hp=>(h.cells.key p hp).1,hp,ht,hn,he⟩
theorem nP.pre {b:cE}{T:List aK}(h:nP b T):CJ b (look (groups T)):=by
 refine⟨⟨fun p hp=>?_,h.WB,fun r hr hL=>?_⟩,?_⟩
 ·obtain⟨h1,_,h3⟩:=h.cell hp;exact⟨h.key p hp,h1,h3,xO h.srt (h.mem hp)⟩
 ·rcases zM (groups T) r with ⟨e,_⟩ | ⟨g,hg,e1,_⟩
  ·exact absurd e hL
  ·obtain⟨p,hp,e⟩:=List.mem_map.1 (h.perm.mem_iff.2 hg);exact⟨p,hp,by rw [←e1,←e]⟩
 ·rw [h.edges];have h1:=h.perm.map (fun g:List aF×List aB=>g.2.length);have h2:=aCl (groups T);rw [uX] at h2;rw [h2,←aCf h1,List.map_map];rfl
theorem ID {f:List aB}(h:dU f=true):∀ j∈f,-2<j.At/\j.At<1125899906842624/\j.Net≠0/\j.Net<=1048576 /\ -1048576<=j.Net:=(eU.1 h).2.above
theorem aGJ {f g:List aB}(hf:dU f=true)(hg:dU g=true):two (· + ·) f g=fJ (f++g):=by
 have hb:∀ j∈f++g,-2<j.At/\j.At<1125899906842624/\j.Net≠0/\j.Net<=1048576 /\ -1048576<=j.Net:=fun j hj=>(List.mem_append.1 hj).elim (ID hf j) (ID hg j);have hp:∀ j∈f++g,-2<j.At:=fun j hj=>(hb j hj).1;rw [aIm hf hg];unfold fJ;rw [aEm fun j hj=>⟨(hb j hj).2.2.2.1,(hb j hj).2.2.2.2⟩,aH4 fun j hj=>⟨(hb j hj).1,by have:=(hb j hj).2.1;omega⟩];simp only [Bool.false_eq_true,if_false]
 congr 1
 exact aMC rfl hf hg (aLE hp) fun t h1 h2=>by rw [aJL hp h1 h2,zO]
theorem aAZ {f:List aB}(hf:dU f=true):fJ f=(f,0) :=
 aLO (aEm fun j hj=>(ID hf j hj).2.2.2) (aH4 fun j hj=>⟨(ID hf j hj).1,by have:=(ID hf j hj).2.1;omega⟩) hf fun _ _ _=>rfl
theorem aFK {l:List aK}{f:Unit->aK->Option (Unit×Bool)}{g:aK->Bool}(hl:l.length<=3518437208783)(hf:∀ x∈l,f () x=some ((),g x)):gX l f ()=some ((),l.any g):=by
 unfold gX mZ mP
 have key:∀ (r:List aK) (k:Nat),l.drop k=r->k<=l.length -> ∃ x,lp (fun s:Unit×Int=>eW f l ((l.length:Nat):Int) s.1 s.2) ((),(k:Int))=some x/\((r.any g=false/\x=.inl ())∨(r.any g=true /\ ∃ i:Nat,x=.inr ((),(i:Int)))):=by
  intro r
  induction r with
  | nil =>
   intro k hd hk
   have : k=l.length:=by
    have:=congrArg List.length hd;simp only [List.length_drop,List.length_nil] at this;omega
   subst this;refine⟨.inl (),cY ?_,.inl ⟨rfl,rfl⟩⟩;simp only [eW];rw [show decide (((l.length:Nat):Int)<((l.length:Nat):Int))=false from by simp];rfl
  | cons a r ih =>
   intro k hd hk;obtain⟨h1,h2⟩:=drop_cons hd;have hlt:k<l.length:=(List.getElem?_eq_some_iff.1 h1).1;have hfa:=hf a (List.mem_of_getElem? h1)
   have hb:eW f l ((l.length:Nat):Int) () (k:Int)=cond (g a) (some (.inr (.inr ((),(k:Int))))) (some (.inl ((),((k+1:Nat):Int)))):=by
    simp only [eW];rw [show decide ((k:Int)<((l.length:Nat):Int))=true from by simp only [decide_eq_true_eq];omega];simp only [cond_true];rw [aQ (by omega),Int.toNat_natCast,List.getD_eq_getElem?_getD,h1,Option.getD_some,hfa];simp only [Option.bind_some];rw [cZ (by omega) (by omega)];rfl
   cases hg:g a with
   | true =>
    rw [hg] at hb;exact⟨_,cY hb,.inr ⟨by simp [hg],k,rfl⟩⟩
   | false =>
    rw [hg] at hb;obtain⟨x,hx,hc⟩:=ih (k+1) h2 (by omega);refine⟨x,by rw [fA hb];exact hx,?_⟩
    simpa [hg] using hc
 obtain⟨x,hx,hc⟩:=key l 0 rfl (Nat.zero_le _);rw [show ((0:Nat):Int)=0 from rfl] at hx;rw [hx];rcases hc with ⟨h1,rfl⟩ | ⟨h1,i,rfl⟩
 ·rw [h1];rfl
 ·rw [h1];simp only [Option.bind_some,Sum.elim_inr];rw [show decide (0<=(i:Int))=true from by simp only [decide_eq_true_eq];omega]
abbrev cellOf (T:List aK)(g:List aF×List aB):aD:=⟨g.1,(fJ (bR T g.1++g.2)).1⟩
def QS (T:List aK)(gs:List (List aF×List aB)):Int:=(gs.map fun g=>(((cellOf T g).jumps.length:Nat):Int)-(((bR T g.1).length:Nat):Int)).sum
abbrev aAW (T:List aK)(g:List aF×List aB):Bool:=decide (xQ (cellOf T g).jumps<0)
theorem aMT {b:cE}{T:List aK}(h:nP b T){r:List aF}{f:List aB}(hr:rOk r)(hf:dU f=true){e n:Int}{tu:List aD}{bl:Bool}(ht:tu.length<=5000)(b6 : -1000000000<=n)(hn2:n<=1000000000) :
  GL b e tu n bl r f=some (if (fJ (bR T r++f)).2=0 then .inl (e,tu++[cellOf T (r,f)],n+((((cellOf T (r,f)).jumps.length:Nat):Int)-(((bR T r).length:Nat):Int)),bl||aAW T (r,f)) else .inr (7,tu,n,bl)):=by
 have hw:kC b.cells (keyOf r)=bR T r:=by rw [h.was hr.1,oA h.srt]
 have hm:=nO h.may r;unfold GL;rw [aAo hr];simp only [Option.bind_some];rw [hw,add_eq,aGJ hm hf];simp only [Option.bind_some];by_cases he:(fJ (bR T r++f)).2=0
 ·obtain⟨_,_,hm2,hnf⟩:=YM he;rw [if_pos he,he];simp only [decide_true,Bool.not_true,cond_false];have b7:(fJ (bR T r++f)).1.length<=1024:=RL _;have b8:(bR T r).length<=1024:=(eU.1 hm).1;have b5:dU (fJ (bR T r++f)).1=true:=by rw [hnf];exact hm2
  rw [aFb,if_pos b5];simp only [lN,wR];rw [cZ (n:=(((fJ (bR T r++f)).1.length:Nat):Int)-_) (by omega) (by omega),cZ (by omega) (by omega)];have hz:(tu.length+[(⟨r,(fJ (bR T r++f)).1⟩:aD)].length)*48<=140737488355328/\tu.length+[(⟨r,(fJ (bR T r++f)).1⟩:aD)].length<=9223372036854775807:=by simp;omega
  cases bl
  ·simp only [cR,Bool.not_false,cond_true,Option.bind_some];rw [aQ hz]
  ·simp only [cR,Bool.not_true,cond_false,Option.bind_some];rw [aQ hz];rfl
 ·rw [if_neg he]
  have h7:(fJ (bR T r++f)).2=7:=by
   rw [←aGJ hm hf,aIm hm hf] at he ⊢;rcases ZI (comb (· + ·) (bR T r) f) with h1 | h1
   ·exact absurd h1 he
   ·exact h1
  rw [h7];rfl
noncomputable abbrev aDC (b:cE)(st:(Int×List aD×Int×Bool)⊕(Int×List aD×Int×Bool))(r:List aF)(f:List aB):=rnd (fun (q:Int×List aD×Int×Bool)=>GL b q.1 q.2.1 q.2.2.1 q.2.2.2 r f) st
theorem aN7 {b:cE}{T:List aK}(h:nP b T):∀ (gs:List (List aF×List aB)) (tu:List aD) (n:Int) (bl:Bool),(∀ g∈gs,rOk g.1/\dU g.2=true)->tu.length+gs.length<=5000 -> -1000000000+2000*(gs.length:Int)<=n->n<=1000000000-2000*(gs.length:Int) ->
  ((∀ g∈gs,(fJ (bR T g.1++g.2)).2=0)->itG (aDC b) gs (.inl (0,tu,n,bl))=some (.inl (0,tu++gs.map (cellOf T),n+QS T gs,bl||gs.any (aAW T)))) /\
  ((∃ g∈gs,(fJ (bR T g.1++g.2)).2≠0) -> ∃ x,itG (aDC b) gs (.inl (0,tu,n,bl))=some (.inr (7,x))):=by
 intro gs
 induction gs with
 | nil =>
  intro tu n bl _ _ _ _;exact⟨fun _=>by simp [itG,QS],fun ⟨g,hg,_⟩=>by cases hg⟩
 | cons g gs ihgs =>
  intro tu n bl hg hl h1 h2;rw [List.length_cons] at hl h1 h2;obtain⟨hr,hf⟩:=hg g (List.mem_cons_self ..);have hm:=nO h.may g.1;have b5:(fJ (bR T g.1++g.2)).1.length<=1024:=RL _;have b6:(bR T g.1).length<=1024:=(eU.1 hm).1;have hs:=aMT h hr hf (e:=0) (n:=n) (tu:=tu) (bl:=bl) (by omega) (by omega) (by omega);by_cases he:(fJ (bR T g.1++g.2)).2=0
  ·rw [if_pos he] at hs;have ih:=ihgs (tu++[cellOf T g]) (n+((((cellOf T g).jumps.length:Nat):Int)-(((bR T g.1).length:Nat):Int))) (bl||aAW T g) (fun q hq=>hg q (List.mem_cons_of_mem _ hq)) (by simp; omega) (by simp only [cellOf]; push_cast at h1; omega) (by simp only [cellOf]; push_cast at h2; omega)
   have hstep:itG (aDC b) (g::gs) (.inl (0,tu,n,bl))=itG (aDC b) gs (.inl (0,tu++[cellOf T g],n+((((cellOf T g).jumps.length:Nat):Int)-(((bR T g.1).length:Nat):Int)),bl||aAW T g)):=by
    simp only [itG,aDC,rnd];rw [hs];rfl
   rw [hstep];refine⟨fun hall=>?_,fun ⟨q,hq,hne⟩=>?_⟩
   ·rw [ih.1 fun q hq=>hall q (List.mem_cons_of_mem _ hq)];have e1:QS T (g::gs)=((((cellOf T g).jumps.length:Nat):Int)-(((bR T g.1).length:Nat):Int))+QS T gs:=by simp [QS]
    rw [e1,←Int.add_assoc];simp [Bool.or_assoc]
   ·rcases List.mem_cons.1 hq with rfl | hq
    ·exact absurd he hne
    ·exact ih.2 ⟨q,hq,hne⟩
  ·rw [if_neg he] at hs;refine⟨fun hall=>absurd (hall g (List.mem_cons_self ..)) he,fun _=>⟨(tu,n,bl),?_⟩⟩;simp only [itG,aDC,rnd];rw [hs];rfl
theorem aFt:∀ {tu:List aD} {b:cE} {L:List aF->List aB},CJ b L->(∀ c∈tu,rOk c.row)->(tu.map (·.row)).Nodup ->
  ((tH (tu.foldl DZ b).cells:Nat):Int)=((tH b.cells:Nat):Int)+(tu.map fun c=>((c.jumps.length:Nat):Int)-(((L c.row).length:Nat):Int)).sum
 | [],b,L,_,_,_=>by simp
 | c::tu,b,L,h,hr,hn=>by
  rw [List.map_cons,List.nodup_cons] at hn;have hc:=hr c (List.mem_cons_self ..);have ih:=aFt (aB9 h hc) (fun x hx=>hr x (List.mem_cons_of_mem _ hx)) hn.2;rw [List.foldl_cons,ih];have h1:=aBc c h.cells.nd;rw [h.cells.was hc.1] at h1
  have e:(tu.map fun x=>((x.jumps.length:Nat):Int)-(((JE L c x.row).length:Nat):Int))=tu.map fun x=>((x.jumps.length:Nat):Int)-(((L x.row).length:Nat):Int):=by
   refine List.map_congr_left fun x hx=>?_;have hne:x.row≠c.row:=fun e=>hn.1 (by rw [←e];exact List.mem_map_of_mem hx);rw [JE,if_neg hne]
  rw [e,List.map_cons,List.sum_cons];show ((tH (wP b.cells c):Nat):Int)+_=_;omega
def AR (T:List aK)(mark:Int)(l:List aK):Int :=
 if lZ l=false then 2 else if (l.any fun e=>decide (e.At<mark))=true then 16 else if (jL (T++l)).2≠0 then 7 else if oT (jL (T++l)).1=true then 0 else 20
abbrev SU (l:List aK):Prop:=∀ e∈l,∀ v∈e.Row,sE v.Num
theorem aI5 {l:List aK}(hm:lZ l=true)(hn:SU l):∀ g∈groups l,rOk g.1/\dU g.2=true:=by
 intro g hg;obtain⟨h1,h2⟩:=(gQ hm).2.1 g hg;obtain⟨_,e,he,h4⟩:=HA hg;exact⟨⟨h1,fun v hv=>hn e he v (h4 ▸ hv)⟩,h2⟩
theorem aF0 {l:List aK}(hm:lZ l=true){g:List aF×List aB}(hg:g∈groups l):g.2=bR l g.1:=by
 rw [←oA (gQ hm).2.2,xO (gQ hm).2.2 hg]
theorem XK {l:List aK}(hm:lZ l=true)(r:List aF):(bR l r=[] /\ ∀ g∈groups l,g.1≠r) ∨ ∃ g∈groups l,g.1=r/\bR l r=g.2:=by
 have:=zM (groups l) r;rw [oA (gQ hm).2.2] at this;exact this
theorem aKX {l:List aK}(h:(jL l).2=0)(hn:SU l):SU (jL l).1:=by
 intro e he v hv;have hr:e.Row∈rowsOf (jL l).1:=tL.2 ⟨e,he,rfl⟩
 have hj:bR (jL l).1 e.Row≠[]:=by
  intro e0;have : jE e∈bR (jL l).1 e.Row:=List.mem_map.2 ⟨e,List.mem_filter.2 ⟨he,by simp⟩,rfl⟩;rw [e0] at this;cases this
 rw [aBS h] at hj;by_cases hx:∃ x∈l,x.Row=e.Row
 ·obtain⟨x,hx,e1⟩:=hx;exact hn x hx v (e1 ▸ hv)
 ·have : bR l e.Row=[]:=QY fun x hx' e1=>hx ⟨x,hx',e1⟩;rw [this] at hj;exact absurd rfl hj
theorem aGf {b:cE}{T l:List aK}(h:nP b T)(hl:okL l)(hn:SU l) :
  ∃ b',BI b l=some (AR T b.mark l,b')/\b'.mark=b.mark/\(AR T b.mark l=0->nP b' (jL (T++l)).1)/\(AR T b.mark l≠0->b'=b):=by
 unfold BI;rw [aDW hl];simp only [Option.bind_some]
 cases hm:lZ l with
 | false =>
  have ha:AR T b.mark l=2:=by unfold AR;rw [if_pos hm]
  refine⟨b,?_,rfl,fun h0=>?_,fun _=>rfl⟩
  ·rw [ha];rfl
  ·rw [ha] at h0;cases h0
 | true =>
 simp only [Bool.not_true,cond_false];rw [aFK (g:=fun e=>decide (e.At<b.mark)) hl.1 (fun x _=>rfl)];simp only [Option.bind_some]
 cases hlate:(l.any fun e=>decide (e.At<b.mark)) with
 | true =>
  have ha:AR T b.mark l=16:=by unfold AR;rw [if_neg (by simp [hm]),if_pos hlate]
  refine⟨b,?_,rfl,fun h0=>?_,fun _=>rfl⟩
  ·rw [ha];rfl
  ·rw [ha] at h0;cases h0
 | false =>
 simp only [cond_false,tU,Option.bind_some]
 have ha0:AR T b.mark l=if (jL (T++l)).2≠0 then 7 else if oT (jL (T++l)).1=true then 0 else 20:=by
  unfold AR;rw [if_neg (by simp [hm]),if_neg (by simp [hlate])]
 have hgs:=aI5 hm hn;have hJ:∀ g∈groups l,bR T g.1++g.2=bR (T++l) g.1:=fun g hg=>by rw [xH,←aF0 hm hg]
 have hlen:(groups l).length<=4096:=by have:=SV l;have:=(gQ hm).1;omega
 have hTl:T.length<=4096:=(gQ h.may).1;have hed:=h.edges;have hit:=aN7 h (groups l) [] b.edges false hgs (by simp;omega) (by omega) (by omega);unfold aA8;by_cases hbad:∃ g∈groups l,(fJ (bR T g.1++g.2)).2≠0
 ·-- a row that has no room
  obtain⟨x,hx⟩:=hit.2 hbad;rw [SM hl (s':=.inr (7,x)) (by rw [hm];exact hx)]
  have h7:(jL (T++l)).2≠0:=by
   intro h0;obtain⟨g,hg,hne⟩:=hbad;rw [hJ g hg] at hne;exact hne (aEB h0 g.1)
  have ha:AR T b.mark l=7:=by rw [ha0,if_pos h7]
  refine⟨b,?_,rfl,fun h0=>?_,fun _=>rfl⟩
  ·rw [ha];rfl
  ·rw [ha] at h0;cases h0
 have hall:∀ g∈groups l,(fJ (bR T g.1++g.2)).2=0:=fun g hg=>by
  cases Classical.em ((fJ (bR T g.1++g.2)).2=0) with
  | inl h=>exact h
  | inr h=>exact absurd ⟨g,hg,h⟩ hbad
 have hx:=hit.1 hall;rw [SM hl (by rw [hm];exact hx)];simp only [Option.bind_some,Sum.elim_inl,List.nil_append,Bool.false_or]
 -- what is put
 have hru:∀ c∈(groups l).map (cellOf T),rOk c.row/\c.jumps.length<=1024:=by
  intro c hc;obtain⟨g,hg,rfl⟩:=List.mem_map.1 hc;exact⟨(hgs g hg).1,RL _⟩
 have hnd:(((groups l).map (cellOf T)).map (·.row)).Nodup:=by
  rw [List.map_map];exact ZP (gQ hm).2.2
 have hpre:=h.pre;have hsumT:((tH b.cells:Nat):Int)=(T.length:Int):=by rw [←hpre.sum,hed]
 obtain⟨p1,p2,p3⟩:=aHZ hpre (by omega) (tu:=(groups l).map (cellOf T)) (by rw [List.length_map];omega) hru
 -- the new table's rows
 have hnorm:∀ r,(fJ (bR (T++l) r)).2=0:=by
  intro r;rcases XK hm r with ⟨e,_⟩ | ⟨g,hg,rfl,_⟩
  ·rw [xH,e,List.append_nil,aAZ (nO h.may r)]
  ·rw [←hJ g hg];exact hall g hg
 have hL:∀ r,(fJ (bR (T++l) r)).1=((groups l).map (cellOf T)).foldl JE (look (groups T)) r:=by
  intro r;rcases XK hm r with ⟨e,hno⟩ | ⟨g,hg,rfl,_⟩
  ·rw [WR (fun c hc=>by
    obtain⟨g,hg,rfl⟩:=List.mem_map.1 hc;exact hno g hg),xH,e,List.append_nil,aAZ (nO h.may r),oA h.srt]
  ·have:=aB2 (L:=look (groups T)) hnd (List.mem_map_of_mem (f:=cellOf T) hg);rw [this,←hJ g hg]
 have hS:AM (uN fJ (yC (T++l))):=UL (aBY _);have hnon:groups (flat (uN fJ (yC (T++l))))=UY (uN fJ (yC (T++l))):=NU hS
 have hlook:∀ r,look (UY (uN fJ (yC (T++l)))) r=(fJ (bR (T++l) r)).1:=by
  intro r;rw [←hnon,aAR hS,WL (by rw [aEM]),WE]
 have hmayrow:∀ e∈T++l,gI e.Row=true:=fun e he=>(List.mem_append.1 he).elim (fun h1=>(BO h.may h1).1) (fun h1=>(BO hm h1).1)
 obtain⟨_,hedges⟩:=p2.aMd (gs:=UY (uN fJ (yC (T++l)))) (hS.sublist List.filter_sublist) (aEl _) (fun g hg=>by
  obtain⟨g',hg',rfl⟩:=List.mem_map.1 (List.mem_filter.1 hg).1;obtain⟨r,hr,rfl⟩:=List.mem_map.1 hg';obtain⟨e,he,rfl⟩:=tL.1 hr;exact hmayrow e he) (fun r _=>by rw [hlook];exact hL r)
 rw [RB] at hedges
 have hcount:b.edges+QS T (groups l)=(((flat (uN fJ (yC (T++l)))).length:Nat):Int):=by
  rw [←hedges,p2.sum,aFt hpre (fun c hc=>(hru c hc).1) hnd,hsumT,hed]
  congr 1
  unfold QS;rw [List.map_map]
  congr 1
  refine List.map_congr_left fun g hg=>?_;show _=_-(((look (groups T) g.1).length:Nat):Int);rw [oA h.srt]
 have b5:=TF h.may;have b6:=TF hm
 have hun:(T++l).any unE=false/\(T++l).any PY=false:=by
  rw [List.any_append,List.any_append,b5.1,b5.2,b6.1,b6.2];exact ⟨rfl,rfl⟩
 unfold WO;by_cases hbig:4096<b.edges+QS T (groups l)
 ·have h7:(jL (T++l)).2≠0:=by
   intro h0;obtain⟨_,_,_,h4,h5⟩:=UP h0;rw [h4] at h5;rw [hcount] at hbig;omega
  have ha:AR T b.mark l=7:=by rw [ha0,if_pos h7]
  refine⟨b,?_,rfl,fun h0=>?_,fun _=>rfl⟩
  ·rw [ha,show decide (4096<b.edges+QS T (groups l))=true from by simpa using hbig];rfl
  ·rw [ha] at h0;cases h0
 rw [show decide (4096<b.edges+QS T (groups l))=false from by simpa using hbig];simp only [cond_false]
 have hnE:jL (T++l)=(flat (uN fJ (yC (T++l))),0):=by
  unfold jL;rw [hun.1,hun.2];simp only [Bool.false_eq_true,if_false]
  rw [aCp (fun g hg=>by
   obtain⟨r,hr,rfl⟩:=List.mem_map.1 hg;exact hnorm r) (by rw [List.nil_append];rw [hcount] at hbig;omega)]
  rfl
 have h0:(jL (T++l)).2=0:=by rw [hnE]
 have hjn:∀ r,bR (jL (T++l)).1 r=(fJ (bR (T++l) r)).1:=fun r=>by rw [aBS h0,(YM (hnorm r)).2.2.2]
 have hcell:∀ g∈groups l,(cellOf T g).jumps=bR (jL (T++l)).1 g.1:=fun g hg=>by rw [hjn,←hJ g hg]
 have htab:oT (jL (T++l)).1=true↔(groups l).any (aAW T)=false:=by
  constructor
  ·intro ht;rw [List.any_eq_false];intro g hg;have hv:=(nQ.1 ht).2 g.1;have hml:=nO (VT h0) g.1;have:=(BJ hml).2 hv;unfold aAW;rw [hcell g hg]
   simpa using this
  ·intro hlow;refine nQ.2 ⟨VT h0,fun r=>?_⟩;rcases XK hm r with ⟨e,_⟩ | ⟨g,hg,rfl,_⟩
   ·rw [hjn,xH,e,List.append_nil,aAZ (nO h.may r)];exact (nQ.1 h.tab).2 r
   ·have hlo:=List.any_eq_false.1 hlow g hg;unfold aAW at hlo;rw [hcell g hg] at hlo;exact (BJ (nO (VT h0) g.1)).1 (by simpa using hlo)
 cases hbl:(groups l).any (aAW T) with
 | true =>
  have ha:AR T b.mark l=20:=by
   rw [ha0,if_neg (by simp [h0]),if_neg (fun ht=>by rw [htab.1 ht] at hbl;cases hbl)]
  refine⟨b,?_,rfl,fun h0=>?_,fun _=>rfl⟩
  ·rw [ha];rfl
  ·rw [ha] at h0;cases h0
 | false =>
  have ht:=htab.2 hbl;have ha:AR T b.mark l=0:=by rw [ha0,if_neg (by simp [h0]),if_pos ht]
  refine⟨((groups l).map (cellOf T)).foldl DZ b,?_,p3,fun _=>?_,fun hne=>absurd ha hne⟩
  ·simp only [cond_false];rw [p1,ha];rfl
  ·refine p2.is ht (aKX h0 fun e he=>(List.mem_append.1 he).elim (h.num e) (hn e)) fun r _=>?_;rw [aCN h0];exact hL r
theorem aNi {f:List aB}{t:Int}(hf:dU f=true)(h0:0<=t)(ht:t<1125899906842624)(h:(rest f t).2=0):(rest f t).1=SN t f:=by
 unfold rest at h ⊢;rw [if_pos hf,if_neg (by omega),if_neg (by omega)] at h ⊢;unfold told at h ⊢;split at h
 ·rename_i c;rw [if_pos c]
 ·simp at h
theorem zP {l:List aK}(h:lZ l=true)(r:List aF):look (groups l) r=bR l r:=oA (gQ h).2.2 r
theorem aLz {by1:List aB->List aB×Int}{l:List aK}(hb:∀ f,dU f=true->(by1 f).2=0->dU (by1 f).1=true)(h:(LW by1 l).2=0):lZ (LW by1 l).1=true:=by
 obtain⟨h1,h2,h3,h4⟩:=QC h;obtain⟨_,g1,g2⟩:=gQ h1;rw [h3] at h4 ⊢;refine aEF (UL g2) (fun g hg=>?_) h4;obtain⟨q,hq,rfl⟩:=List.mem_map.1 hg;exact⟨(g1 q hq).1,hb _ (g1 q hq).2 (h2 q hq)⟩
theorem aMy {f:List aB}(h:(told f).2=0):dU (told f).1=true:=by
 unfold told at h ⊢;split at h
 ·rename_i c;rw [if_pos c];exact c
 ·simp at h
theorem aL9 {f:List aB}{t:Int}(hf:dU f=true)(h:(rest f t).2=0):dU (rest f t).1=true:=by
 unfold rest at h ⊢;rw [if_pos hf] at h ⊢;split
 ·exact aDE
 ·rename_i c
  rw [if_neg c] at h;split
  ·exact hf
  ·rename_i c2;rw [if_neg c2] at h;exact aMy h
theorem WQ {l:List aK}{t:Int}(h:(nX l t).2=0):lZ (nX l t).1=true:=aLz (fun _ a b=>aL9 a b) h
theorem aHr {l:List aK}{t:Int}(h0:0<=t)(ht:t<1125899906842624)(h:(nX l t).2=0)(r:List aF):bR (nX l t).1 r=SN t (bR l r):=by
 have hm:=(QC h).1;have h1:=aEu (by1:=fun f=>rest f t) (by rw [TL]) h r;have h2:=aMb (by1:=fun f=>rest f t) (by rw [TL]) h r;rw [zP hm] at h1 h2;have:=zP (WQ h) r;unfold nX at this ⊢;rw [←this,h1,aNi (nO hm r) h0 ht h2]
theorem aG3 {f:List aB}{t:Int}(hf:dU f=true):(rest f t).2=0∨(rest f t).2=7:=by
 unfold rest;rw [if_pos hf];split
 ·exact .inl rfl
 ·split
  ·exact .inl rfl
  ·exact ZI _
theorem UC {l:List aK}{t:Int}(h:(nX l t).2=0)(r:List aF):bR (nX l t).1 r=(rest (bR l r) t).1:=by
 have hm:=(QC h).1;have h1:=aEu (by1:=fun f=>rest f t) (by rw [TL]) h r;rw [zP hm] at h1;have:=zP (WQ h) r;unfold nX at this ⊢;rw [←this,h1]
theorem aLs {l:List aK}{t:Int}(ht:oT l=true)(h0:0<=t)(h:(nX l t).2=0):oT (nX l t).1=true:=by
 have hl:=(nQ.1 ht).1;have mr:=WQ h;refine nQ.2 ⟨mr,fun r=>?_⟩;by_cases h1:t<1125899906842624
 ·rw [aHr h0 h1 h];refine aK3 (aG2 (nO hl r) (by omega)) fun s s1 s2=>?_;rw [aEr (nO hl r) s (by omega)];exact (nQ.1 ht).2 r _
 ·rw [UC h];unfold rest;rw [if_pos (nO hl r),if_pos (by omega)];intro s;simp [val]
def PT (tu:List aD)(p:ByteArray×aD):Option (ByteArray×aD):=match tu.find? (fun c=>decide (keyOf c.row=p.1)) with
 | none=>some p
 | some c=>if c.jumps=[] then none else some (p.1,c)
theorem aCa (c:aD)(p:ByteArray×aD):PT [c] p=if keyOf c.row=p.1 then (if c.jumps=[] then none else some (p.1,c)) else some p:=by
 unfold PT;by_cases e:keyOf c.row=p.1
 ·simp [e]
 ·simp [e]
theorem aC6 {α:Type}{f g:α->Option α}:∀ {m:List α},(∀ x∈m,f x=g x)->m.filterMap f=m.filterMap g
 | [],_=>rfl
 | x::m,h=>by
  rw [List.filterMap_cons,List.filterMap_cons,h x (List.mem_cons_self ..),aC6 fun y hy=>h y (List.mem_cons_of_mem _ hy)]
theorem aDT {α:Type}{f:α->Option α}:∀ {m:List α},(∀ x∈m,f x=some x)->m.filterMap f=m
 | [],_=>rfl
 | x::m,h=>by
  rw [List.filterMap_cons,h x (List.mem_cons_self ..),aDT fun y hy=>h y (List.mem_cons_of_mem _ hy)]
theorem aFB {c:aD}:∀ {m:List (ByteArray×aD)},(m.map (·.1)).Nodup->(∃ p∈m,p.1=keyOf c.row)->wP m c=m.filterMap (PT [c])
 | [],_,⟨p,hp,_⟩=>by cases hp
 | q::m,hn,⟨p,hp,hk⟩=>by
  rw [List.map_cons,List.nodup_cons] at hn;rw [List.filterMap_cons,aCa];by_cases e:keyOf c.row=q.1
  ·rw [if_pos e];have hrest:∀ x∈m,x.1≠keyOf c.row:=fun x hx e'=>hn.1 (by rw [←e,←e'];exact List.mem_map_of_mem hx);have h1:m.filterMap (PT [c])=m:=aDT fun x hx=>by rw [aCa,if_neg fun e'=>hrest x hx e'.symm]
   unfold wP;by_cases hj:c.jumps=[]
   ·rw [if_pos hj,if_pos hj,h1];unfold sQ;rw [List.filter_cons,if_neg (by simp [e])];exact List.filter_eq_self.2 fun x hx=>by simpa using hrest x hx
   ·rw [if_neg hj,if_neg hj,h1,pH,if_pos e.symm,e]
  ·rw [if_neg e]
   have hm:∃ p∈m,p.1=keyOf c.row:=by
    rcases List.mem_cons.1 hp with rfl | hp
    ·exact absurd hk.symm e
    ·exact⟨p,hp,hk⟩
   have ih:=aFB hn.2 hm;show _=q::m.filterMap (PT [c]);rw [←ih];unfold wP;split
   ·unfold sQ;rw [List.filter_cons,if_pos (by simpa using fun e'=>e e'.symm)]
   ·rw [pH,if_neg fun e'=>e e'.symm]
theorem aFE:∀ {tu:List aD} {m:List (ByteArray×aD)},(m.map (·.1)).Nodup->(tu.map fun c=>keyOf c.row).Nodup->(∀ c∈tu,∃ p∈m,p.1=keyOf c.row)->tu.foldl wP m=m.filterMap (PT tu)
 | [],m,_,_,_=>(aDT fun _ _=>rfl).symm
 | c::tu,m,hm,ht,he=>by
  rw [List.map_cons,List.nodup_cons] at ht
  rw [List.foldl_cons,aFE (aJ5 c hm) ht.2 (fun d hd=>by
   obtain⟨p,hp,hk⟩:=he d (List.mem_cons_of_mem _ hd);have hne:p.1≠keyOf c.row:=fun e=>ht.1 (by rw [←e,hk];exact List.mem_map_of_mem (f:=fun c:aD=>keyOf c.row) hd);refine⟨p,?_,hk⟩;unfold wP;split
   ·exact aCc.2 ⟨hp,hne⟩
   ·exact (VB hm).2 (.inr ⟨hp,hne⟩)),aFB hm (he c (List.mem_cons_self ..)),List.filterMap_filterMap]
  congr 1
  funext p
  rw [aCa];by_cases e:keyOf c.row=p.1
  ·rw [if_pos e]
   have h2:PT (c::tu) p=if c.jumps=[] then none else some (p.1,c):=by
    unfold PT;rw [List.find?_cons,show decide (keyOf c.row=p.1)=true from by simpa using e]
   rw [h2];by_cases hj:c.jumps=[]
   ·rw [if_pos hj];rfl
   ·rw [if_neg hj];show PT tu (p.1,c)=_
    have : tu.find? (fun d=>decide (keyOf d.row=p.1))=none:=by
     rw [List.find?_eq_none];intro d hd;have : keyOf d.row≠p.1:=fun e'=>ht.1 (by rw [e,←e'];exact List.mem_map_of_mem (f:=fun c:aD=>keyOf c.row) hd)
     simpa using this
    unfold PT;rw [this]
  ·rw [if_neg e];show PT tu p=_
   have h2:(c::tu).find? (fun d=>decide (keyOf d.row=p.1))=tu.find? (fun d=>decide (keyOf d.row=p.1)):=by
    rw [List.find?_cons,show decide (keyOf c.row=p.1)=false from by simpa using e]
   unfold PT;rw [h2]
theorem aCE:∀ (tu:List aD) (b:cE),(tu.foldl DZ b).cells=tu.foldl wP b.cells
 | [],_=>rfl
 | c::tu,b=>by rw [List.foldl_cons,aCE]; rfl
theorem aGv:∀ {tu:List aD} {c:aD},(tu.map fun c=>keyOf c.row).Nodup->c∈tu->tu.find? (fun d=>decide (keyOf d.row=keyOf c.row))=some c
 | [],_,_,h=>by cases h
 | d::tu,c,hn,h=>by
  rw [List.map_cons,List.nodup_cons] at hn;rw [List.find?_cons];rcases List.mem_cons.1 h with rfl | h
  ·simp
  ·have hne:keyOf d.row≠keyOf c.row:=fun e=>hn.1 (by rw [e];exact List.mem_map_of_mem (f:=fun c:aD=>keyOf c.row) h);rw [show decide (keyOf d.row=keyOf c.row)=false from by simpa using hne];exact aGv hn.2 h
abbrev sH (t:Int)(p:ByteArray×aD):aD:=⟨p.2.row,(rest p.2.jumps t).1⟩
def aBi (t:Int)(p:ByteArray×aD):Option (ByteArray×aD):=if (rest p.2.jumps t).1=[] then none else some (p.1,sH t p)
theorem aBM (t e:Int):∀ q:List (ByteArray×aD),oP (mR t) (.inr e) q=some (.inr e)
 | []=>rfl
 | p::q=>by
  show (mR t (.inr e) p).bind (fun s=>oP (mR t) s q)=_;rw [show mR t (.inr e) p=some (.inr e) from rfl];exact aBM t e q
theorem aGq (t:Int):∀ (q:List (ByteArray×aD)) (out:List aD),(∀ p∈q,dU p.2.jumps=true)->out.length+q.length<=100000 ->
  ((∀ p∈q,(rest p.2.jumps t).2=0)->oP (mR t) (.inl out) q=some (.inl (out++q.map (sH t)))) /\
  ((∃ p∈q,(rest p.2.jumps t).2≠0)->oP (mR t) (.inl out) q=some (.inr 7)):=by
 intro q
 induction q with
 | nil=>intro out _ _; exact ⟨fun _=>by simp [oP],fun ⟨p,hp,_⟩=>by cases hp⟩
 | cons p q ih =>
  intro out hm hl;rw [List.length_cons] at hl
  have hstep:mR t (.inl out) p=some (if (rest p.2.jumps t).2=0 then .inl (out++[sH t p]) else .inr 7):=by
   simp only [mR];rw [aMz];simp only [Option.bind_some];by_cases e:(rest p.2.jumps t).2=0
   ·rw [if_pos e,e,aQ (by simp;omega)];rfl
   ·rw [if_neg e];have h7:=(aG3 (t:=t) (hm p (List.mem_cons_self ..))).resolve_left e;rw [h7];rfl
  have hfold:oP (mR t) (.inl out) (p::q)=oP (mR t) (if (rest p.2.jumps t).2=0 then .inl (out++[sH t p]) else .inr 7) q:=by
   show (mR t (.inl out) p).bind (fun s=>oP (mR t) s q)=_;rw [hstep];rfl
  rw [hfold];by_cases e:(rest p.2.jumps t).2=0
  ·rw [if_pos e];obtain⟨i1,i2⟩:=ih (out++[sH t p]) (fun x hx=>hm x (List.mem_cons_of_mem _ hx)) (by simp;omega);refine⟨fun h=>?_,fun ⟨x,hx,hne⟩=>?_⟩
   ·rw [i1 fun x hx=>h x (List.mem_cons_of_mem _ hx)];simp
   ·rcases List.mem_cons.1 hx with rfl | hx
    ·exact absurd e hne
    ·exact i2 ⟨x,hx,hne⟩
  ·rw [if_neg e];exact⟨fun h=>absurd (h p (List.mem_cons_self ..)) e,fun _=>aBM t 7 q⟩
theorem aLn {tu:List aD}(hl:tu.length<=100000)(hj:∀ c∈tu,c.jumps.length<=1024):lp (fun s=>tX tu (lN tu) s.1 s.2) ((0:Int),(0:Int))=some (((tu.map fun c=>c.jumps.length).sum:Nat):Int):=by
 rw [show ((0:Int),(0:Int))=((((0:Nat)):Int),(0:Int)) from rfl];rw [kP (l:=tu) (st:=Nat) (fun s i=>((s:Int),i)) (fun s r=>((s+(r.map fun c=>c.jumps.length).sum:Nat):Int)) (fun s r=>s+1024*r.length<=1000000000 /\ ∀ c∈r,c.jumps.length<=1024) 0 ?_ ?_ ⟨by omega,hj⟩]
 ·simp
 ·intro i a r s hi hinv;obtain⟨h1,h2⟩:=hinv;have hlt:=(List.getElem?_eq_some_iff.1 hi).1;have ha:=h2 a (List.mem_cons_self ..);rw [List.length_cons] at h1;refine .inl ⟨s+a.jumps.length,?_,⟨by omega,fun c hc=>h2 c (List.mem_cons_of_mem _ hc)⟩,by simp [Nat.add_assoc]⟩;simp only [tX,lN,gD,wR];rw [show decide ((i:Int)<((tu.length:Nat):Int))=true from by simp only [decide_eq_true_eq];omega];simp only [cond_true];rw [aQ (by omega),Int.toNat_natCast,List.getD_eq_getElem?_getD,hi,Option.getD_some,cZ (by omega) (by omega),cZ (by omega) (by omega)];rfl
 ·intro s _;simp only [tX,lN];rw [show decide (((tu.length:Nat):Int)<((tu.length:Nat):Int))=false from by simp];simp
theorem aEx {b:cE}{T:List aK}(h:nP b T)(hmk : -1<=b.mark)(t:Int) :
  (t<=b.mark->oK b t=some (0,b))/\(b.mark<t->(nX T t).2≠0->oK b t=some (7,b)) /\
  (b.mark<t->(nX T t).2=0 -> ∃ b',oK b t=some (0,b')/\nP b' (nX T t).1/\b'.mark=t):=by
 by_cases ht':t<=b.mark
 ·refine⟨fun _=>?_,fun h1=>absurd ht' (by omega),fun h1=>absurd ht' (by omega)⟩;unfold oK;rw [show decide (t<=b.mark)=true from by simpa using ht'];rfl
 have ht:b.mark<t:=by omega
 suffices hh:((nX T t).2≠0->oK b t=some (7,b))/\((nX T t).2=0 -> ∃ b',oK b t=some (0,b')/\nP b' (nX T t).1/\b'.mark=t) from ⟨fun h1=>absurd h1 ht',fun _=>hh.1,fun _=>hh.2⟩
 have hl:=h.len;have hmB:∀ p∈b.cells,dU p.2.jumps=true:=fun p hp=>(h.cell hp).2.1
 have hun:oK b t=BQ b.cells (fun q=>(oP (mR t) (.inl []) q).bind (OC b t)):=by
  unfold oK;rw [show decide (t<=b.mark)=false from by simpa using ht];rfl
 rw [hun]
 have hrE:nX T t=wB (fun f=>rest f t) (groups T) []:=by
  unfold nX LW;rw [if_pos h.may]
 -- all orders alike
 by_cases hbad:∃ p∈b.cells,(rest p.2.jumps t).2≠0
 ·have h7:(nX T t).2≠0:=by
   intro h0;obtain⟨p,hp,hne⟩:=hbad;exact hne ((QC h0).2.1 _ (h.mem hp))
  refine⟨fun _=>RN fun q hq=>?_,fun h0=>absurd h0 h7⟩;obtain⟨p,hp,hne⟩:=hbad;rw [(aGq t q [] (fun x hx=>hmB x (hq.mem_iff.1 hx)) (by rw [hq.length_eq];simp;omega)).2 ⟨p,hq.mem_iff.2 hp,hne⟩];rfl
 have hall:∀ p∈b.cells,(rest p.2.jumps t).2=0:=fun p hp=>by
  cases Classical.em ((rest p.2.jumps t).2=0) with
  | inl h=>exact h
  | inr h=>exact absurd ⟨p,hp,h⟩ hbad
 have hallG:∀ g∈groups T,(rest g.2 t).2=0:=fun g hg=>by
  obtain⟨p,hp,rfl⟩:=List.mem_map.1 (h.perm.mem_iff.2 hg);exact hall p hp
 have hcount:∀ q:List (ByteArray×aD),q.Perm b.cells->((q.map (sH t)).map fun c=>c.jumps.length).sum=(flat (uN (fun f=>rest f t) (groups T))).length:=by
  intro q hq;rw [aCl];have h1:=((hq.map fun p=>(p.2.row,p.2.jumps)).trans h.perm).map fun g:List aF×List aB=>(rest g.2 t).1.length;rw [List.map_map] at h1;rw [List.map_map];unfold uN;rw [List.map_map];exact aCf h1
 have hstart:∀ q:List (ByteArray×aD),q.Perm b.cells->oP (mR t) (.inl []) q=some (.inl (q.map (sH t))):=fun q hq=>by
  rw [(aGq t q [] (fun x hx=>hmB x (hq.mem_iff.1 hx)) (by rw [hq.length_eq];simp;omega)).1 fun p hp=>hall p (hq.mem_iff.1 hp)];rfl
 have hnn:∀ q:List (ByteArray×aD),q.Perm b.cells->lp (fun s=>tX (q.map (sH t)) (lN (q.map (sH t))) s.1 s.2) ((0:Int),(0:Int))=some (((flat (uN (fun f=>rest f t) (groups T))).length:Nat):Int):=fun q hq=>by
  rw [aLn (by rw [List.length_map,hq.length_eq];omega) (fun c hc=>by
   obtain⟨p,_,rfl⟩:=List.mem_map.1 hc;exact aCq _ _),hcount q hq]
 by_cases hbig:4096<(flat (uN (fun f=>rest f t) (groups T))).length
 ·have h7:(nX T t).2≠0:=by
   intro h0;obtain⟨_,_,h3,h4⟩:=QC h0;rw [h3] at h4;omega
  refine⟨fun _=>RN fun q hq=>?_,fun h0=>absurd h0 h7⟩;rw [hstart q hq];simp only [Option.bind_some,OC];rw [hnn q hq];simp only [Option.bind_some];rw [show decide (4096<(((flat (uN (fun f=>rest f t) (groups T))).length:Nat):Int))=true from by simp only [decide_eq_true_eq];omega];rfl
 have h0:(nX T t).2=0:=by
  rw [hrE,aCp hallG (by rw [List.nil_append];omega)]
 refine⟨fun h7=>absurd h0 h7,fun _=>?_⟩;have hpre:=h.pre;have hsumT:((tH b.cells:Nat):Int)=(T.length:Int):=by rw [←hpre.sum,h.edges]
 have hTl:T.length<=4096:=(gQ h.may).1
 -- what comes of it,in whatever order
 have hputs:∀ q:List (ByteArray×aD),q.Perm b.cells->(q.map (sH t)).foldl DZ b=⟨b.cells.filterMap (aBi t),((tH (b.cells.filterMap (aBi t)):Nat):Int),b.mark⟩ /\
   lp (fun s=>pJ (q.map (sH t)) (lN (q.map (sH t))) s.1 s.2) (b,(0:Int))=some ((q.map (sH t)).foldl DZ b)/\CJ ((q.map (sH t)).foldl DZ b) ((q.map (sH t)).foldl JE (look (groups T))):=by
  intro q hq
  have hru:∀ c∈q.map (sH t),rOk c.row/\c.jumps.length<=1024:=by
   intro c hc;obtain⟨p,hp,rfl⟩:=List.mem_map.1 hc;exact⟨(h.cell (hq.mem_iff.1 hp)).1,aCq _ _⟩
  obtain⟨p1,p2,p3⟩:=aHZ hpre (by omega) (tu:=q.map (sH t)) (by rw [List.length_map,hq.length_eq];omega) hru
  have hkeys:((q.map (sH t)).map fun c=>keyOf c.row).Nodup:=by
   rw [List.map_map];have e:q.map ((fun c:aD=>keyOf c.row)∘sH t)=q.map (·.1):=List.map_congr_left fun p hp=>(h.key p (hq.mem_iff.1 hp)).symm;rw [e];exact ((hq.map (·.1)).nodup_iff).2 h.WB
  have hc:((q.map (sH t)).foldl DZ b).cells=b.cells.filterMap (aBi t):=by
   rw [aCE,aFE h.WB hkeys (fun c hc=>by
    obtain⟨p,hp,rfl⟩:=List.mem_map.1 hc;exact⟨p,hq.mem_iff.1 hp,h.key p (hq.mem_iff.1 hp)⟩)]
   refine aC6 fun p hp=>?_;have hf:=aGv hkeys (List.mem_map_of_mem (f:=sH t) (hq.mem_iff.2 hp));rw [←h.key p hp] at hf;unfold PT aBi;rw [hf]
  refine⟨?_,p1,p2⟩;have hs:=p2.sum;rw [hc] at hs
  generalize hx:(q.map (sH t)).foldl DZ b=x at hc hs p3
  obtain⟨xc,xe,xm⟩:=x;simp only at hc hs p3;rw [hc,hs,p3]
 refine⟨⟨b.cells.filterMap (aBi t),((tH (b.cells.filterMap (aBi t)):Nat):Int),t⟩,RN fun q hq=>?_,?_,rfl⟩
 ·rw [hstart q hq];simp only [Option.bind_some,OC];rw [hnn q hq];simp only [Option.bind_some];rw [show decide (4096<(((flat (uN (fun f=>rest f t) (groups T))).length:Nat):Int))=false from by simp only [decide_eq_false_iff_not];omega];simp only [cond_false];obtain⟨h1,h2,_⟩:=hputs q hq;rw [h2,h1];rfl
 ·obtain⟨h1,_,h3⟩:=hputs b.cells (.refl _)
  have hrows:((b.cells.map (sH t)).map (·.row)).Nodup:=by
   rw [List.map_map];exact h.aEh
  have his:nP ((b.cells.map (sH t)).foldl DZ b) (nX T t).1:=by
   refine h3.is (aLs h.tab (by omega) h0) ?_ fun r _=>?_
   ·intro e he v hv
    have hj:bR (nX T t).1 e.Row≠[]:=by
     intro e0;have : jE e∈bR (nX T t).1 e.Row:=List.mem_map.2 ⟨e,List.mem_filter.2 ⟨he,by simp⟩,rfl⟩;rw [e0] at this;cases this
    rw [UC h0] at hj;by_cases hx:∃ x∈T,x.Row=e.Row
    ·obtain⟨x,hx,e1⟩:=hx;exact h.num x hx v (e1 ▸ hv)
    ·have : bR T e.Row=[]:=QY fun x hx' e1=>hx ⟨x,hx',e1⟩;rw [this,TL] at hj;exact absurd rfl hj
   ·rw [zP (WQ h0),UC h0];by_cases hx:∃ p∈b.cells,p.2.row=r
    ·obtain⟨p,hp,rfl⟩:=hx;have h4:=aB2 (L:=look (groups T)) hrows (List.mem_map_of_mem (f:=sH t) hp);have e:bR T p.2.row=p.2.jumps:=by rw [←oA h.srt];exact xO h.srt (h.mem hp)
     rw [e];exact h4.symm
    ·rw [WR (fun c hc e=>by
      obtain⟨p,hp,rfl⟩:=List.mem_map.1 hc;exact hx ⟨p,hp,e⟩)]
     have e:look (groups T) r=[]:=VX fun g hg e=>by
      obtain⟨p,hp,e'⟩:=List.mem_map.1 (h.perm.mem_iff.2 hg);exact hx ⟨p,hp,by rw [←e,←e']⟩
     rw [e,←oA h.srt,e,TL]
  rw [h1] at his;exact⟨his.key,his.perm,his.tab,his.num,his.edges⟩
theorem aJy {a b:List Int}(h:a.Perm b):a.sum=b.sum:=by
 induction h with
 | nil=>rfl
 | cons x _ ih=>simp [ih]
 | swap x y l=>simp; omega
 | trans _ _ i1 i2=>exact i1.trans i2
def pos (x:Int):Int:=if 0>x then 0 else x
def yU (f:List aB):Int:=(f.map fun j=>pos j.Net).sum
def RG (T:List aK):Int:=(T.map fun e=>pos e.Net).sum
theorem aAB {x b:Int}(h0:0<=b)(h:x<=b):0<=pos x/\pos x<=b:=by unfold pos;split <;> omega
theorem aAS:∀ {f:List aB},(∀ j∈f,j.Net<=1048576)->0<=yU f/\yU f<=1048576*(f.length:Int)
 | [],_=>by simp [yU]
 | j::f,h=>by
  have h1:=aAS fun x hx=>h x (List.mem_cons_of_mem _ hx);have h2:=aAB (by omega) (h j (List.mem_cons_self ..));have e:yU (j::f)=pos j.Net+yU f:=by simp [yU]
  rw [e,List.length_cons]
  push_cast
  omega
theorem aMH {js:List aB}(hl:js.length<=1024)(hj:∀ j∈js,j.Net<=1048576){n:Int}(h0:0<=n)(hn:n<=100000000000000):lp (fun s=>uS js (lN js) s.1 s.2) (n,(0:Int))=some (n+yU js):=by
 rw [kP (l:=js) (st:=Int) (fun s i=>(s,i)) (fun s r=>s+yU r) (fun s r=>0<=s/\s+1048576*(r.length:Int)<=200000000000000 /\ ∀ j∈r,j.Net<=1048576) n ?_ ?_ ⟨h0,by omega,hj⟩]
 ·intro i a r s hi hinv;obtain⟨h1,h2,h3⟩:=hinv;have hlt:=(List.getElem?_eq_some_iff.1 hi).1;have ha:=aAB (by omega) (h3 a (List.mem_cons_self ..));rw [List.length_cons] at h2
  push_cast at h2
  refine .inl ⟨s+pos a.Net,?_,⟨by omega,by omega,fun c hc=>h3 c (List.mem_cons_of_mem _ hc)⟩,by simp [yU,Int.add_assoc]⟩;simp only [uS,lN,gD,wR];rw [show decide ((i:Int)<((js.length:Nat):Int))=true from by simp only [decide_eq_true_eq];omega];simp only [cond_true];rw [aQ (by omega),Int.toNat_natCast,List.getD_eq_getElem?_getD,hi,Option.getD_some];show some (Sum.inl (i64.wrap (s+pos a.Net),i64.wrap ((i:Int)+1)))=_;rw [cZ (by omega) (by omega),cZ (by omega) (by omega)];rfl
 ·intro s _;simp only [uS,lN];rw [show decide (((js.length:Nat):Int)<((js.length:Nat):Int))=false from by simp];simp [yU]
theorem aM0:∀ (q:List (ByteArray×aD)) (n:Int),(∀ p∈q,dU p.2.jumps=true)->0<=n->n+1073741824*(q.length:Int)<=100000000000000 ->
  oP (fun (n:Int) (p:ByteArray×aD)=>lp (fun s=>uS p.2.jumps (lN p.2.jumps) s.1 s.2) (n,(0:Int))) n q=some (n+(q.map fun p=>yU p.2.jumps).sum):=by
 intro q
 induction q with
 | nil=>intro n _ _ _; simp [oP]
 | cons p q ih =>
  intro n hm h0 hn;have hp:=hm p (List.mem_cons_self ..);have hb:∀ j∈p.2.jumps,j.Net<=1048576:=fun j hj=>(ID hp j hj).2.2.2.1;have hl:=(eU.1 hp).1;have hc:=aAS hb;rw [List.length_cons] at hn
  push_cast at hn
  show (lp (fun s=>uS p.2.jumps (lN p.2.jumps) s.1 s.2) (n,(0:Int))).bind _=_;rw [aMH hl hb h0 (by omega)];simp only [Option.bind_some];rw [ih _ (fun x hx=>hm x (List.mem_cons_of_mem _ hx)) (by omega) (by omega)];simp [Int.add_assoc]
theorem aCO:∀ gs:List (List aF×List aB),RG (flat gs)=(gs.map fun g=>yU g.2).sum
 | []=>rfl
 | g::gs=>by
  have h1:=aCO gs;unfold RG at h1 ⊢;rw [zL,List.map_append,List.sum_append,h1,List.map_cons,List.sum_cons]
  congr 1
  unfold lK yU;rw [List.map_map];rfl
theorem aFm {b:cE}{T:List aK}(h:nP b T):DV b=some (RG T):=by
 unfold DV;refine RN fun q hq=>?_;have hl:=h.len;rw [aM0 q 0 (fun p hp=>(h.cell (hq.mem_iff.1 hp)).2.1) (by omega) (by rw [hq.length_eq];omega)];simp only [Option.bind_some];have h1:=((hq.map fun p=>(p.2.row,p.2.jumps)).trans h.perm).map fun g:List aF×List aB=>yU g.2;rw [List.map_map] at h1;have h2:=aCO (groups T);rw [uX] at h2;rw [h2,←aJy h1,Int.zero_add];rfl
abbrev zW:List aF:=[⟨1,1,ByteArray.empty⟩]
theorem aOi {l:List aK}(h:∀ e∈l,e.Row=zW):SU l:=by
 intro e he v hv;rw [h e he] at hv;simp only [List.mem_singleton] at hv;subst hv;exact⟨by decide,by decide⟩
theorem lv1:AR [] (-1) [⟨zW,2,1⟩,⟨zW,9,-1⟩]=0:=by decide +kernel
theorem lv2:jL ([]++[⟨zW,2,1⟩,⟨zW,9,-1⟩])=([⟨zW,2,1⟩,⟨zW,9,-1⟩],0):=by decide +kernel
theorem lv3:nX [⟨zW,2,1⟩,⟨zW,9,-1⟩] 5=([⟨zW,-1,1⟩,⟨zW,9,-1⟩],0):=by decide +kernel
theorem lv4:AR [⟨zW,-1,1⟩,⟨zW,9,-1⟩] 5 [⟨zW,4,1⟩]=16:=by decide +kernel
theorem lv5:RG [⟨zW,-1,1⟩,⟨zW,9,-1⟩]=1:=by decide +kernel
theorem aFs:AT=some true:=by
 obtain⟨b1,a1,a2,a3,_⟩:=aGf aK0 (l:=[⟨zW,2,1⟩,⟨zW,9,-1⟩]) (aDu (by simp) (by simp)) (aOi (by simp));have a3:=a3 lv1;rw [lv2] at a3;have lv1':AR [] (⟨[],0,-1⟩:cE).mark [⟨zW,2,1⟩,⟨zW,9,-1⟩]=0:=lv1;rw [lv1'] at a1;obtain⟨_,_,f3⟩:=aEx a3 (by rw [a2];decide) 5;obtain⟨b2,f3,f4,f5⟩:=f3 (by rw [a2];decide) (by rw [lv3]);rw [lv3] at f4;obtain⟨b3,c1,c2,_,c4⟩:=aGf f4 (l:=[⟨zW,4,1⟩]) (aDu (by simp) (by simp)) (aOi (by simp));rw [f5] at c1 c2 c4;rw [lv4] at c1 c4;have c4:=c4 (by decide);subst c4;unfold AT;simp only [MT,Option.bind_some];rw [a1];simp only [Option.bind_some];rw [f3];simp only [Option.bind_some];rw [c1];simp only [Option.bind_some,decide_true,Bool.and_self,cond_true,GZ,f5];rw [aFm f4,lv5];simp only [Option.bind_some,decide_true,Bool.and_self,cond_true];rw [aB6 f4];simp only [Option.bind_some];rw [aBW (aDu (by simp) (by simp))];simp [cR]
theorem aNW {l:List aK}(m:∀ a∈l,DT a):SU l:=fun e he v hv=>((m e he).1.1 v hv).2.1
theorem YH {T:List aK}(h:oT T=true):okL T:=by
 have hm:=(nQ.1 h).1;exact aDu (gQ hm).1 fun e he=>(tS (BO hm he).1).1
def sA (f:List aB):List Int:=f.flatMap fun j=>List.replicate j.Net.toNat j.At
def ends (f:List aB):List Int:=f.flatMap fun j=>List.replicate (-j.Net).toNat j.At
def oX (f:List aB):Int:=(f.map fun j=>if 0<j.Net then j.Net else 0).sum
def pairs (d:Int):List Int->List Int->List bE
 | [],_=>[]
 | b::bs,[]=>⟨b,d⟩::pairs d bs []
 | b::bs,e::es=>⟨b,e⟩::pairs d bs es
theorem tI (j:aB)(f:List aB):sA (j::f)=List.replicate j.Net.toNat j.At++sA f:=rfl
theorem MS (j:aB)(f:List aB):ends (j::f)=List.replicate (-j.Net).toNat j.At++ends f:=rfl
theorem HV (j:aB)(f:List aB):oX (j::f)=(if 0<j.Net then j.Net else 0)+oX f:=by simp [oX]
theorem GH:∀ f:List aB,0<=oX f
 | []=>by simp [oX]
 | j::f=>by rw [HV]; have:=GH f; split <;> omega
theorem NT:∀ f:List aB,oX f=((sA f).length:Nat)
 | []=>rfl
 | j::f=>by
  rw [HV,tI,List.length_append,List.length_replicate,NT f];split <;> omega
theorem FA (d:Int):∀ (B E:List Int),(pairs d B E).length=B.length
 | [],_=>rfl
 | _::bs,[]=>by simp [pairs,FA d bs []]
 | _::bs,_::es=>by simp [pairs,FA d bs es]
theorem ZB (d t:Int):∀ (B E:List Int),E.length<=B.length->pairs d (B++[t]) E=pairs d B E++[⟨t,d⟩]
 | [],[],_=>rfl
 | [],_::_,h=>by simp at h
 | b::bs,[],_=>by simp only [List.cons_append,pairs,ZB d t bs [] (by simp)]
 | b::bs,e::es,h=>by simp only [List.cons_append,pairs,ZB d t bs es (by simpa using h)]
theorem aEL (d t:Int):∀ (B E:List Int),E.length<B.length->(pairs d B E).set E.length ⟨((pairs d B E).getD E.length default).From,t⟩=pairs d B (E++[t])
 | [],_,h=>by simp at h
 | b::bs,[],_=>by simp [pairs]
 | b::bs,e::es,h=>by
  have:=aEL d t bs es (by simpa using h);simp only [pairs,List.length_cons,List.set_cons_succ,List.cons_append,List.getD_cons_succ];rw [this]
theorem aCZ (d d':Int):∀ (B E:List Int),B.length<=E.length->pairs d B E=pairs d' B E
 | [],_,_=>rfl
 | _::_,[],h=>by simp at h
 | b::bs,e::es,h=>by simp only [pairs,aCZ d d' bs es (by simpa using h)]
theorem SK (d d':Int):∀ (B E:List Int),pairs d' B E=pairs d B (E++List.replicate (B.length-E.length) d')
 | [],E=>by simp [pairs]
 | b::bs,[]=>by
  have:=SK d d' bs [];simp only [List.nil_append,List.length_nil,Nat.sub_zero,List.length_cons,List.replicate_succ,pairs] at this ⊢;rw [this]
 | b::bs,e::es=>by
  have:=SK d d' bs es;simp only [List.cons_append,List.length_cons,Nat.add_sub_add_right,pairs];rw [this]
def YL (v:Int):List aB->Prop
 | []=>True
 | j::r=>0<=v+j.Net/\YL (v+j.Net) r
theorem aBA:∀ {f:List aB} {v:Int},(∀ x∈parts v f,0<=x)->YL v f
 | [],_,_=>trivial
 | j::r,v,h=>⟨h _ (by simp [parts]),aBA fun x hx=>h x (by simp [parts,hx])⟩
theorem aAP {f:List aB}(hf:dU f=true)(h:∀ t,0<=val f t):YL 0 f:=by
 refine aBA fun x hx=>?_;rw [parts_eq (eU.1 hf).2] at hx;obtain⟨j,_,rfl⟩:=List.mem_map.1 hx;have:=h j.At;omega
theorem aML {f:List aB}(hf:∀ j∈f,j.Net<=1048576 /\ -1048576<=j.Net)(hl:f.length<=1099511627776):zS f=some (oX f):=by
 unfold zS OU
 rw [kP (l:=f) (body:=fun s:Int×Int=>uY f (f.length:Nat) s.1 s.2) (fun v i=>(v,i)) (fun v r=>v+oX r)
  (fun v r=>(∀ j∈r,j.Net<=1048576 /\ -1048576<=j.Net)/\0<=v/\v<=1048576*(1099511627776-r.length)/\r.length<=1099511627776) 0 ?_ ?_ ⟨hf,by omega,by omega,hl⟩]
 ·simp [GG]
 ·rintro i a r v ha ⟨h1,h2,h3,h4⟩;have hlt:=(List.getElem?_eq_some_iff.1 ha).1;obtain⟨d1,d2,d3,d4⟩:=idx ha (by omega);have hj:=h1 a (List.mem_cons_self ..);simp only [List.length_cons] at h3 h4;have hif:(if 0>a.Net then 0 else a.Net)=(if 0<a.Net then a.Net else 0):=by split <;> split <;> omega
  have hb:0<=(if 0<a.Net then a.Net else 0)/\(if 0<a.Net then a.Net else 0)<=1048576:=by split <;> omega
  have hw:i64.wrap (v+(if 0<a.Net then a.Net else 0))=v+(if 0<a.Net then a.Net else 0):=cZ (by omega) (by omega);left;refine⟨v+(if 0<a.Net then a.Net else 0),?_,⟨fun j hj=>h1 j (List.mem_cons_of_mem _ hj),by omega,by omega,by omega⟩,by rw [HV];omega⟩;show uY _ _ _ _=_;simp only [uY,d1,cond_true,aQ d2,d3,d4,hif,hw]
 ·rintro v _;show uY _ _ _ _=_;simp only [uY,eP,cond_false];simp [oX]
theorem aIz {f:List aB}(hf:dU f=true):zS f=some (oX f):=aML (FE hf) (by have:=(eU.1 hf).1;omega)
theorem aHP {f:List aB}(hf:∀ j∈f,j.Net<=1048576):oX f<=1048576*f.length:=by
 induction f with
 | nil=>simp [oX]
 | cons j f ih =>
  rw [HV,List.length_cons];have:=ih fun k hk=>hf k (by simp [hk]);have:=hf j (by simp);split <;> omega
theorem aJq {B E:List Int}{t:Int}(h:E.length<B.length)(hB:B.length<=1000000):sY t (pairs 0 B E) (E.length:Nat)=some (pairs 0 B (E++[t]),((E.length+1:Nat):Int)):=by
 unfold sY;rw [aQ ⟨by omega,by rw [FA];omega⟩,Int.toNat_natCast,aEL 0 t B E h,cZ (by omega) (by omega)];rfl
theorem aFx {f:List aB}{i:Int}{j:aB}{E:List Int}(t13:Int)(hN:j.Net<=4294967296):∀ (n:Nat) (k:Nat) (B:List Int),E.length<=B.length->j.Net.toNat=k+n->B.length+n<=1000000 ->
  lp (fun s:List bE×Int×aB×Int=>sI f t13 i j.Net s.1 s.2.1 s.2.2.1 s.2.2.2) (pairs 0 B E,((E.length:Nat):Int),j,(k:Int))=some (pairs 0 (B++List.replicate n j.At) E,((E.length:Nat):Int),j)
 | 0,k,B,_,hk,_=>by
  refine cY ?_;show sI _ _ _ _ _ _ _ _=_;have : decide ((k:Int)<j.Net)=false:=by simp;omega
  simp only [sI,this,cond_false,List.replicate_zero,List.append_nil]
 | n+1,k,B,hE,hk,hB=>by
  have h1:decide ((k:Int)<j.Net)=true:=by simp;omega
  have hb:(fun s:List bE×Int×aB×Int=>sI f t13 i j.Net s.1 s.2.1 s.2.2.1 s.2.2.2) (pairs 0 B E,((E.length:Nat):Int),j,(k:Int))=some (.inl (pairs 0 (B++[j.At]) E,((E.length:Nat):Int),j,((k+1:Nat):Int))):=by
   show sI _ _ _ _ _ _ _ _=_;simp only [sI,h1,cond_true];rw [aQ (by rw [FA];simp only [List.length_cons,List.length_nil];omega),ZB 0 j.At B E hE,cZ (by omega) (by omega)];rfl
  rw [fA hb,aFx t13 hN n (k+1) (B++[j.At]) (by simp;omega) (by omega) (by simp;omega),List.append_assoc,List.replicate_succ];rfl
theorem aJG {f:List aB}{i:Int}{j:aB}{B:List Int}(t13:Int)(hB:B.length<=1000000)(hN : -4294967296<=j.Net):∀ (n:Nat) (k:Nat) (E:List Int),(-j.Net).toNat=k+n->E.length+n<=B.length ->
  lp (fun s:List bE×Int×aB×Int=>sG f t13 i (-j.Net) s.1 s.2.1 s.2.2.1 s.2.2.2) (pairs 0 B E,((E.length:Nat):Int),j,(k:Int))=some (pairs 0 B (E++List.replicate n j.At),((E.length+n:Nat):Int))
 | 0,k,E,hk,_=>by
  refine cY ?_;show sG _ _ _ _ _ _ _ _=_;have : decide ((k:Int) < -j.Net)=false:=by simp;omega
  simp only [sG,this,cond_false,List.replicate_zero,List.append_nil,Nat.add_zero]
 | n+1,k,E,hk,hE=>by
  have h1:decide ((k:Int) < -j.Net)=true:=by simp;omega
  have hb:(fun s:List bE×Int×aB×Int=>sG f t13 i (-j.Net) s.1 s.2.1 s.2.2.1 s.2.2.2) (pairs 0 B E,((E.length:Nat):Int),j,(k:Int))=some (.inl (pairs 0 B (E++[j.At]),(((E++[j.At]).length:Nat):Int),j,((k+1:Nat):Int))):=by
   show sG _ _ _ _ _ _ _ _=_;simp only [sG,h1,cond_true,aJq (show E.length<B.length by omega) hB,Option.bind_some];rw [cZ (by omega) (by omega)];simp
  rw [fA hb,aJG t13 hB hN n (k+1) (E++[j.At]) (by omega) (by simp;omega),List.append_assoc,List.replicate_succ];have : (E++[j.At]).length+n=E.length+(n+1):=by simp;omega
  rw [this];rfl
theorem aH8 {B:List Int}(hB:B.length<=1000000):∀ (n:Nat) (E:List Int),E.length+n=B.length ->
  lp (fun s:List bE×Int=>sJ s.1 s.2) (pairs 0 B E,((E.length:Nat):Int))=some (pairs 1125899906842624 B E)
 | 0,E,h=>by
  refine cY ?_;show sJ _ _=_;have : decide (((E.length:Nat):Int)<(((pairs 0 B E).length:Nat):Int))=false:=by simp [FA];omega
  simp only [sJ,this,cond_false];rw [aCZ 0 1125899906842624 B E (by omega)]
 | n+1,E,h=>by
  have h1:decide (((E.length:Nat):Int)<(((pairs 0 B E).length:Nat):Int))=true:=by simp [FA];omega
  have hb:(fun s:List bE×Int=>sJ s.1 s.2) (pairs 0 B E,((E.length:Nat):Int))=some (.inl (pairs 0 B (E++[1125899906842624]),(((E++[1125899906842624]).length:Nat):Int))):=by
   show sJ _ _=_;simp only [sJ,h1,cond_true,aJq (show E.length<B.length by omega) hB,Option.bind_some];simp
  rw [fA hb,aH8 hB n (E++[1125899906842624]) (by simp;omega)];rw [SK 1125899906842624 1125899906842624 B E,SK 1125899906842624 1125899906842624 B (E++[1125899906842624])];have : B.length-E.length=B.length-(E++[(1125899906842624:Int)]).length+1:=by simp;omega
  rw [this,List.replicate_succ,List.append_assoc];rfl
def zK (f:List aB):List bE:=pairs 1125899906842624 (sA f) (ends f)
theorem YW:∀ {f:List aB} {v:Int},YL v f->((ends f).length:Int)<=v+(sA f).length∨f=[]
 | [],_,_=>.inr rfl
 | j::r,v,h=>by
  left;rw [MS,tI,List.length_append,List.length_append,List.length_replicate,List.length_replicate];rcases YW h.2 with h1 | h1
  ·omega
  ·subst h1;have:=h.1;simp [sA,ends];omega
theorem aLe {f:List aB}(hf:dU f=true)(hn:∀ t,0<=val f t)(hm:oX f<=1000000):FI f=some (zK f):=by
 have hok:=aAP hf hn;have hlen:=(eU.1 hf).1;have hb0:=NT f;unfold FI;rw [aIz hf];simp only [Option.bind_some];have h0:=GH f;rw [aQ ⟨h0,by omega,by omega⟩];unfold KY
 have key:=kP (l:=f) (body:=fun s:List bE×Int×Int=>uB f (f.length:Nat) s.1 s.2.1 s.2.2) (fun (s:List Int×List Int) i=>(pairs 0 s.1 s.2,((s.2.length:Nat):Int),i)) (fun s r=>(pairs 0 (s.1++sA r) (s.2++ends r),(((s.2++ends r).length:Nat):Int)))
  (fun s r=>s.2.length<=s.1.length/\YL ((s.1.length:Int)-s.2.length) r/\s.1.length+(sA r).length<=1000000 /\ ∀ j∈r,j.Net<=1048576 /\ -1048576<=j.Net) ([],[]) ?_ ?_ ⟨by simp,by simpa using hok,by simp;omega,FE hf⟩
 ·simp only [pairs,List.length_nil,Int.natCast_zero,List.nil_append] at key;rw [key];simp only [Option.bind_some,DB,LO]
  have he:(ends f).length<=(sA f).length:=by
   rcases YW hok with h | h
   ·omega
   ·subst h;simp [ends]
  rw [aH8 (by omega) ((sA f).length-(ends f).length) (ends f) (by omega)];rfl
 ·rintro i j r ⟨B,E⟩ ha ⟨h1,h2,h3,h4⟩;left;simp only at h1 h2 h3;obtain⟨d1,d2,d3,d4⟩:=idx ha (by omega);have hj:=h4 j (by simp);have hv:=h2.1;rw [tI,List.length_append,List.length_replicate] at h3;have hw:i64.wrap (0-j.Net) = -j.Net:=by rw [cZ (by omega) (by omega)];omega
  refine⟨(B++List.replicate j.Net.toNat j.At,E++List.replicate (-j.Net).toNat j.At),?_,⟨by simp;omega,?_,by simp;omega,fun k hk=>h4 k (by simp [hk])⟩,?_⟩
  ·show uB _ _ _ _ _=_;simp only [uB,d1,cond_true,aQ d2,d3,LN];have b1:=aFx (f:=f) (i:=(i:Int)) (j:=j) (E:=E) (f.length:Nat) (by omega) j.Net.toNat 0 B h1 (by omega) (by omega);have e1:=aJG (f:=f) (i:=(i:Int)) (j:=j) (B:=B++List.replicate j.Net.toNat j.At) (f.length:Nat) (by simp;omega) (by omega) (-j.Net).toNat 0 E (by omega) (by simp;omega);simp only [Int.natCast_zero] at b1 e1;rw [b1];simp only [Option.bind_some,DK,hw,LJ];rw [e1];simp only [Option.bind_some,DE,d4];simp
  ·have : (((B++List.replicate j.Net.toNat j.At).length:Nat):Int)-(((E++List.replicate (-j.Net).toNat j.At).length:Nat):Int)=(B.length:Int)-E.length+j.Net:=by simp;omega
   simp only;rw [this];exact h2.2
  ·simp only [tI,MS,List.append_assoc]
 ·rintro ⟨B,E⟩ _;show uB _ _ _ _ _=_;simp only [uB,eP,cond_false];simp [sA,ends]
def aDe (f:List aB):List bE×Int:=if !dU f then ([],2) else if decide (xQ f<0) then ([],20) else if decide (4096<oX f) then ([],7) else (zK f,0)
def GU (r:List aF)(ss:List bE):List bF:=ss.map fun s=>⟨r,s⟩
def OS (gs:List (List aF×List aB)):List bF:=gs.flatMap fun g=>GU g.1 (zK g.2)
def wS (gs:List (List aF×List aB)):Int:=(gs.map fun g=>oX g.2).sum
theorem ZF (g:List aF×List aB)(gs:List (List aF×List aB)):OS (g::gs)=GU g.1 (zK g.2)++OS gs:=rfl
theorem MY (g:List aF×List aB)(gs:List (List aF×List aB)):wS (g::gs)=oX g.2+wS gs:=by simp [wS]
theorem OT:∀ gs:List (List aF×List aB),0<=wS gs
 | []=>by simp [wS]
 | g::gs=>by rw [MY]; have:=OT gs; have:=GH g.2; omega
theorem ZD (f:List aB):((zK f).length:Int)=oX f:=by rw [zK,FA,NT]
theorem aEb:∀ gs:List (List aF×List aB),((OS gs).length:Int)=wS gs
 | []=>rfl
 | g::gs=>by
  rw [ZF,MY,List.length_append,←aEb gs,←ZD];simp [GU]
def DU (l:List aK):List bF×Int:=if !lZ l then ([],2) else if !oT l then ([],20) else if decide (4096<wS (groups l)) then ([],7) else (OS (groups l),0)
theorem aGY (l0 c:List aK):∀ (gs:List (List aF×List aB)) (n:Int),(∀ g∈gs,dU g.2=true)->0<=n->n+1073741824*gs.length<=4611686018427387904 ->
  itG (fun st t22 t23=>rnd (fun (s:Int)=>uL l0 c s t22 t23) st) gs (.inl n)=some (.inl (n+wS gs))
 | [],n,_,_,_=>by simp [itG,wS]
 | g::gs,n,hg,hn,hb=>by
  have hm:=hg g (by simp);have h0:=GH g.2;have h1:=aHP (f:=g.2) fun j hj=>(FE hm j hj).1;have h2:=(eU.1 hm).1;simp only [List.length_cons] at hb;have hw:i64.wrap (n+oX g.2)=n+oX g.2:=cZ (by omega) (by omega)
  have hl:uL l0 c n g.1 g.2=some (.inl (n+oX g.2)):=by
   unfold uL;rw [aIz hm];simp only [Option.bind_some,hw]
  simp only [itG,rnd,hl,Option.bind_some,Sum.isLeft_inl,if_true];have:=aGY l0 c gs (n+oX g.2) (fun q hq=>hg q (by simp [hq])) (by omega) (by omega);simp only [rnd] at this;rw [this,MY,Int.add_assoc]
theorem aOg {r:List aF}(hr:r.length<=4398046510976)(ss:List bE)(out:List bF)(h:out.length+ss.length<=1000000):AG out r ss ((ss.length:Nat):Int) 0=some (.inl (out++GU r ss)):=by
 unfold AG;rw [kP (l:=ss) (body:=fun s:List bF×Int=>sX r ss (ss.length:Nat) s.1 s.2) (fun o i=>(o,i)) (fun o t=>o++GU r t) (fun o t=>o.length+t.length<=1000000) out ?_ ?_ h]
 ·rfl
 ·intro i a t o ha hi;left;obtain⟨d1,d2,d3,d4⟩:=idx ha (by omega);simp only [List.length_cons] at hi;refine⟨o++[⟨r,a⟩],?_,by simp;omega,by simp [GU]⟩;show sX _ _ _ _ _=_;simp only [sX,d1,cond_true,aQ d2,d3,d4,YT hr,Option.bind_some];exact aQ (by simp only [List.length_cons,List.length_nil];omega)
 ·intro o _;show sX _ _ _ _ _=_;simp only [sX,eP,cond_false];simp [GU]
theorem aEk (c:List aK):∀ (gs:List (List aF×List aB)) (out:List bF),(∀ g∈gs,dU g.2=true/\(∀ t,0<=val g.2 t)/\g.1.length<=4398046510976)->out.length+wS gs<=1000000 ->
  itG (fun st t34 t35=>rnd (fun (s:List bF)=>uQ c s t34 t35) st) gs (.inl out)=some (.inl (out++OS gs))
 | [],out,_,_=>by simp [itG,OS]
 | g::gs,out,hg,hb=>by
  obtain⟨hm,hn,hr⟩:=hg g (by simp);have h0:=GH g.2;have h1:=OT gs;rw [MY] at hb;have hs:=ZD g.2
  have hl:uQ c out g.1 g.2=some (.inl (out++GU g.1 (zK g.2))):=by
   unfold uQ;rw [aLe hm hn (by omega)];simp only [Option.bind_some];rw [aOg hr _ _ (by omega)]
  simp only [itG,rnd,hl,Option.bind_some,Sum.isLeft_inl,if_true];have:=aEk c gs (out++GU g.1 (zK g.2)) (fun q hq=>hg q (by simp [hq])) (by simp only [List.length_append,GU,List.length_map];omega);simp only [rnd] at this;rw [this,ZF,List.append_assoc]
theorem GQ {l:List aK}(ht:oT l=true){g:List aF×List aB}(hg:g∈groups l):dU g.2=true /\ ∀ t,0<=val g.2 t:=by
 obtain⟨hm,hv⟩:=nQ.1 ht;obtain⟨_,h2,h3⟩:=gQ hm;have : g.2=bR l g.1:=by rw [←oA h3,xO h3 hg]
 exact⟨(h2 g hg).2,by rw [this];exact hv g.1⟩
theorem aJr {l:List aK}(hl:okL l):CT l=some (DU l):=by
 unfold CT DU;rw [aDW hl]
 cases hm:lZ l
 ·simp
 ·simp only [Option.bind_some,Bool.not_true,cond_false,aJ4 hl,Bool.false_eq_true,if_false]
  cases ht:oT l
  ·simp
  ·have hn:=(gQ hm).1;have hgl:=SV l;have h0:=OT (groups l);simp only [Bool.not_true,cond_false,Bool.false_eq_true,if_false,tU,Option.bind_some,HE];have hc:=aGY l l (groups l) 0 (fun g hg=>(GQ ht hg).1) (by omega) (by omega);rw [SM hl (s':=.inl (0+wS (groups l))) (by rw [hm];simpa using hc)];simp only [Option.bind_some,Sum.elim_inl,Int.zero_add];by_cases h7:4096<wS (groups l)
   ·simp [h7]
   ·simp only [h7,decide_false,cond_false,Bool.false_eq_true,if_false];rw [aQ ⟨h0,by omega,by omega⟩];unfold AJ;have hp:=aEk l (groups l) [] (fun g hg=>⟨(GQ ht hg).1,(GQ ht hg).2,aJN hl hg⟩) (by simp;omega);rw [SM hl (s':=.inl ([]++OS (groups l))) (by rw [hm];simpa using hp)];rfl
def aE7 (s:bE):Bool:=aMp s||((decide (s.From = -1)&&decide (0<=s.To))&&decide (s.To<=1125899906842624))
def aL4 (p:bF):Bool:=gI p.Row&&aE7 p.Span
theorem aJU {s:bE}:aE7 s=true ↔ -1<=s.From/\s.From<s.To/\0<=s.To/\s.To<=1125899906842624:=by
 unfold aE7 aMp;simp only [Bool.or_eq_true,Bool.and_eq_true,decide_eq_true_eq];omega
def okP (l:List bF):Prop:=l.length<=3518437208783 /\ ∀ e∈l,e.Row.length<=4398046510976
theorem aNl {f:List aB}(h:YL 0 f):(ends f).length<=(sA f).length:=by
 rcases YW h with h | h
 ·omega
 ·subst h;simp [ends]
theorem aBQ (d e:Int):∀ (n:Nat) (Q B E:List Int),Q.length=n->pairs d (Q++B) (List.replicate n e++E)=Q.map (fun b=>⟨b,e⟩)++pairs d B E
 | 0,Q,B,E,h=>by
  have : Q=[]:=List.length_eq_zero_iff.1 h;subst this;simp
 | n+1,[],B,E,h=>by simp at h
 | n+1,q::Q,B,E,h=>by
  simp only [List.cons_append,List.replicate_succ,pairs,List.map_cons,aBQ d e n Q B E (by simpa using h)]
theorem aB4 {d:Int}:∀ {f:List aB} {last:Int} {Q:List Int},pI last f->YL (Q.length:Int) f->(∀ q∈Q,q<=last)->(∀ q∈Q,q<d)->(∀ j∈f,j.At<d) -> ∀ s∈pairs d (Q++sA f) (ends f),s.From<s.To/\s.To<=d/\(s.From∈Q∨s.From∈sA f)
 | [],last,Q,_,_,hq,hd,_,s,hs=>by
  simp only [sA,ends,List.flatMap_nil,List.append_nil] at hs ⊢
  have key:∀ Q:List Int,(∀ q∈Q,q<d) -> ∀ s∈pairs d Q [],s.From<s.To/\s.To<=d/\s.From∈Q:=by
   intro Q
   induction Q with
   | nil=>intro _ s hs; simp [pairs] at hs
   | cons q Q ih =>
    intro hd s hs;rw [pairs] at hs;rcases List.mem_cons.1 hs with rfl | hs
    ·exact⟨hd q (by simp),Int.le_refl _,by simp⟩
    ·obtain⟨h1,h2,h3⟩:=ih (fun x hx=>hd x (by simp [hx])) s hs;exact⟨h1,h2,by simp [h3]⟩
  obtain⟨h1,h2,h3⟩:=key Q hd s hs;exact⟨h1,h2,.inl h3⟩
 | j::r,last,Q,hr,hv,hq,hd,hf,s,hs=>by
  have hj:=hr.1;have hjd:=hf j (by simp);by_cases hn:0<j.Net
  ·have h0:(-j.Net).toNat=0:=by omega
   rw [tI,MS,h0,List.replicate_zero,List.nil_append,←List.append_assoc] at hs
   obtain⟨h1,h2,h3⟩:=aB4 (d:=d) (Q:=Q++List.replicate j.Net.toNat j.At) hr.2 (by
     have:=hv.2;rw [show (((Q++List.replicate j.Net.toNat j.At).length:Nat):Int)=(Q.length:Int)+j.Net by simp;omega];exact this) (fun q hq'=>by
     rcases List.mem_append.1 hq' with h | h
     ·have:=hq q h;omega
     ·rw [(List.mem_replicate.1 h).2];exact Int.le_refl _) (fun q hq'=>by
     rcases List.mem_append.1 hq' with h | h
     ·exact hd q h
     ·rw [(List.mem_replicate.1 h).2];exact hjd) (fun k hk=>hf k (by simp [hk])) s hs
   refine⟨h1,h2,?_⟩;rw [tI,List.mem_append];rcases h3 with h3 | h3
   ·rcases List.mem_append.1 h3 with h | h
    ·exact .inl h
    ·exact .inr (.inl h)
   ·exact .inr (.inr h3)
  ·have h0:j.Net.toNat=0:=by omega
   have hlen:(-j.Net).toNat<=Q.length:=by have:=hv.1;omega
   rw [tI,MS,h0,List.replicate_zero,List.nil_append] at hs;have hQ:Q=Q.take (-j.Net).toNat++Q.drop (-j.Net).toNat:=(List.take_append_drop _ _).symm;rw [hQ,List.append_assoc,aBQ d j.At _ _ _ _ (by simp; omega)] at hs;rcases List.mem_append.1 hs with hs | hs
   ·obtain⟨q,hq',rfl⟩:=List.mem_map.1 hs;have hm:=List.mem_of_mem_take hq';have:=hq q hm;exact⟨by simp only;omega,by simp only;omega,.inl hm⟩
   ·obtain⟨h1,h2,h3⟩:=aB4 (d:=d) (Q:=Q.drop (-j.Net).toNat) hr.2 (by
      have:=hv.2;rw [show (((Q.drop (-j.Net).toNat).length:Nat):Int)=(Q.length:Int)+j.Net by simp;omega];exact this) (fun q hq'=>by have:=hq q (List.mem_of_mem_drop hq');omega) (fun q hq'=>hd q (List.mem_of_mem_drop hq')) (fun k hk=>hf k (by simp [hk])) s hs
    refine⟨h1,h2,?_⟩;rw [tI,h0,List.replicate_zero,List.nil_append];rcases h3 with h3 | h3
    ·exact .inl (List.mem_of_mem_drop h3)
    ·exact .inr h3
theorem aG9 {f:List aB}(hf:dU f=true)(h:∀ t,0<=val f t){s:bE}(hs:s∈zK f):aE7 s=true:=by
 have hp:=OK hf;obtain⟨h1,h2,h3⟩:=aB4 (d:=1125899906842624) (Q:=[]) (eU.1 hf).2 (by simpa using aAP hf h) (by simp) (by simp) (fun j hj=>(hp j hj).2) s (by simpa [zK] using hs);rcases h3 with h3 | h3
 ·simp at h3
 ·obtain⟨j,hj,h4⟩:=List.mem_flatMap.1 h3;have e:=(List.mem_replicate.1 h4).2;have:=hp j hj;exact aJU.2 (by omega)
theorem aKq {gs:List (List aF×List aB)}{p:bF}(h:p∈OS gs):∃ g∈gs,p.Row=g.1/\p.Span∈zK g.2:=by
 obtain⟨g,hg,h1⟩:=List.mem_flatMap.1 h;obtain⟨s,hs,rfl⟩:=List.mem_map.1 h1;exact⟨g,hg,rfl,hs⟩
theorem aJs {x:List aK}(ht:oT x=true){p:bF}(h:p∈OS (groups x)):aL4 p=true:=by
 obtain⟨g,hg,h1,h2⟩:=aKq h;obtain⟨a,b⟩:=GQ ht hg;unfold aL4;rw [h1,((gQ (nQ.1 ht).1).2.1 g hg).1,aG9 a b h2];rfl
theorem US (x y:bF):x=y↔(x.Span.From=y.Span.From/\x.Span.To=y.Span.To)/\x.Row=y.Row:=by
 obtain⟨r,a,b⟩:=x;obtain⟨q,c,d⟩:=y;simp only [bF.mk.injEq,bE.mk.injEq];constructor
 ·rintro ⟨h1,h2,h3⟩;exact ⟨⟨h2,h3⟩,h1⟩
 ·rintro ⟨⟨h2,h3⟩,h1⟩;exact ⟨h1,h2,h3⟩
theorem aHe {a b:List bF}(hl:okP a):GJ a b=some (decide (a=b)):=by
 unfold GJ;have hlen:=hl.1;by_cases he:a.length=b.length
 ·rw [aCG he,cond_false];unfold KU;have:=aDt (f:=a) (g:=b) (body:=fun s=>yP a b s) he ?_ ?_ a.length 0 rfl (Nat.zero_le _)
  ·simp only [Int.natCast_zero,List.drop_zero] at this;rw [this];by_cases h:a=b <;> simp [h,CK]
  ·intro i x y hx hy;obtain⟨d1,d2,d3,d4⟩:=idx hx (by omega);obtain⟨_,e2,e3,_⟩:=idx hy (by omega);have hr:=hl.2 x (List.mem_of_getElem? hx);simp only [yP,d1,cond_true,aQ d2,aQ e2,d3,e3,d4];rw [aQ fun _=>d2,aQ fun _=>e2,LI _ _ (by omega)];by_cases h:x.Span.From=y.Span.From/\x.Span.To=y.Span.To
   ·by_cases h2:x.Row=y.Row
    ·simp [h.1,h.2,h2,cR,US]
    ·simp [h.1,h.2,h2,cR,US]
   ·have : ((decide (x.Span.From=y.Span.From))&&((decide (x.Span.To=y.Span.To))&&true))=false:=by
     simp only [Bool.and_true,Bool.and_eq_false_iff,decide_eq_false_iff_not];by_cases h1:x.Span.From=y.Span.From
     ·exact .inr fun h2=>h ⟨h1,h2⟩
     ·exact .inl h1
    have hn:¬ x=y:=fun e=>h ((US x y).1 e).1;rw [this];simp [cR,hn]
  ·simp only [yP,eP,cond_false]
 ·rw [aCy he,cond_true];have : a≠b:=fun h=>he (by rw [h]);simp [this]
theorem aOo {l:List bF}(h:l.length<=4096)(hr:∀ e∈l,e.Row.length<=8):okP l:=⟨by omega,fun e he=>by have:=hr e he;omega⟩
theorem aOc {f:List aB}(hf:∀ j∈f,j.Net<=1048576 /\ -1048576<=j.Net)(hl:f.length<=1024):zD f [] [] 0 0=xD f [] [] (oX f):=by
 unfold zD;rw [kP (l:=f) (body:=fun s:List Int×List Int×Int×Int=>rT f s.1 s.2.1 s.2.2.1 s.2.2.2) (fun n i=>([],[],n,i)) (fun n r=>([],[],n+oX r)) (fun n r=>0<=n/\n+1048576*r.length<=1073741824 /\ ∀ j∈r,j∈f) 0 ?_ ?_ ⟨by omega,by omega,fun _ h=>h⟩]
 ·simp
 ·intro i a r n ha hi;left;obtain⟨d1,d2,d3,d4⟩:=idx ha (by omega);obtain⟨h0,h1,h2⟩:=hi;have b5:=hf a (h2 a (by simp));simp only [List.length_cons] at h1;show ∃ s',rT _ _ _ _ _=_/\_;simp only [rT,d1,cond_true,aQ d2,d3];by_cases h:0<a.Net
  ·refine⟨n+a.Net,?_,⟨by omega,by omega,fun j hj=>h2 j (by simp [hj])⟩,by rw [HV,if_pos h,Int.add_assoc]⟩;simp only [h,decide_true,cond_true,vW,d4];rw [cZ (by omega) (by omega)]
  ·refine⟨n,?_,⟨by omega,by omega,fun j hj=>h2 j (by simp [hj])⟩,by rw [HV,if_neg h,Int.zero_add]⟩;simp only [h,decide_false,cond_false,vW,d4]
 ·intro n _;show rT _ _ _ _ _=_;simp only [rT,eP,cond_false];simp [oX]
theorem aEd {f:List aB}{i:Int}{j:aB}{E:List Int}(d2:0<=i/\i<(f.length:Int))(d3:List.getD f i.toNat default=j)(hN:j.Net<=1048576):∀ (n k:Nat) (B:List Int),j.Net.toNat=k+n->B.length+n<=1000000 ->
  lp (fun s:List Int×List Int×Int=>rV f i s.1 s.2.1 s.2.2) (B,E,(k:Int))=some (B++List.replicate n j.At,E)
 | 0,k,B,h,_=>cY (by
   show rV _ _ _ _ _=_;have : decide ((k:Int)<j.Net)=false:=by simp;omega
   simp only [rV,aQ d2,d3,this,cond_false];simp)
 | n+1,k,B,h,hB=>by
  rw [fA (s':=(B++[j.At],E,((k+1:Nat):Int))) ?_,aEd d2 d3 hN n (k+1) (B++[j.At]) (by omega) (by simp;omega)]
  ·rw [List.append_assoc];rfl
  ·show rV _ _ _ _ _=_;have : decide ((k:Int)<j.Net)=true:=by simp;omega
   simp only [rV,aQ d2,d3,this,cond_true];rw [aQ (by simp only [List.length_cons,List.length_nil];omega),cZ (by omega) (by omega)];rfl
theorem aH0 {f:List aB}{i:Int}{j:aB}{B:List Int}(d2:0<=i/\i<(f.length:Int))(d3:List.getD f i.toNat default=j)(hN : -1048576<=j.Net/\j.Net<=1048576):∀ (n k:Nat) (E:List Int),(-j.Net).toNat=k+n->E.length+n<=1000000 ->
  lp (fun s:List Int×List Int×Int=>sO f i s.1 s.2.1 s.2.2) (B,E,(k:Int))=some (B,E++List.replicate n j.At)
 | 0,k,E,h,_=>cY (by
   show sO _ _ _ _ _=_;have : decide ((k:Int)<i64.wrap (0-j.Net))=false:=by rw [cZ (by omega) (by omega)];simp;omega
   simp only [sO,aQ d2,d3,this,cond_false];simp)
 | n+1,k,E,h,hB=>by
  rw [fA (s':=(B,E++[j.At],((k+1:Nat):Int))) ?_,aH0 d2 d3 hN n (k+1) (E++[j.At]) (by omega) (by simp;omega)]
  ·rw [List.append_assoc];rfl
  ·show sO _ _ _ _ _=_;have : decide ((k:Int)<i64.wrap (0-j.Net))=true:=by rw [cZ (by omega) (by omega)];simp;omega
   simp only [sO,aQ d2,d3,this,cond_true];rw [aQ (by simp only [List.length_cons,List.length_nil];omega),cZ (by omega) (by omega)];rfl
theorem aKb (B E:List Int)(hB:B.length<=1000000)(b6:E.length<=1000000):BD B E [] 0=some (pairs 1125899906842624 B E,0):=by
 unfold BD
 have key:∀ (n:Nat) (k:Nat) (o:List bE),B.length-k=n->k<=B.length->o.length=k ->
   lp (fun s:List Int×List Int×List bE×Int=>pQ s.1 s.2.1 s.2.2.1 s.2.2.2) (B,E,o,(k:Int))=some (o++pairs 1125899906842624 (B.drop k) (E.drop k)):=by
  intro n
  induction n with
  | zero =>
   intro k o h1 h2 h3;have : k=B.length:=by omega
   subst this;refine cY ?_;show pQ _ _ _ _=_;simp only [pQ,eP,cond_false];simp [pairs]
  | succ n ih =>
   intro k o h1 h2 h3;have hk:k<B.length:=by omega
   obtain⟨d1,d2,d3,d4⟩:=idx (List.getElem?_eq_getElem hk) (by omega);have hd:B.drop k=B[k]::B.drop (k+1):=List.drop_eq_getElem_cons hk;by_cases hE:k<E.length
   ·obtain⟨e1,e2,e3,_⟩:=idx (List.getElem?_eq_getElem hE) (by omega);have he:E.drop k=E[k]::E.drop (k+1):=List.drop_eq_getElem_cons hE;rw [fA (s':=(B,E,o++[⟨B[k],E[k]⟩],((k+1:Nat):Int))) ?_,ih (k+1) _ (by omega) (by omega) (by simp [h3]),hd,he]
    ·rw [pairs,List.append_assoc];rfl
    ·show pQ _ _ _ _=_;simp only [pQ,d1,cond_true,aQ d2,d3,e1,aQ e2,e3,xF,d4];rw [aQ (by simp only [List.length_cons,List.length_nil];omega)]
   ·have e1:decide ((k:Int)<(E.length:Int))=false:=by simp;omega
    have he:E.drop k=[]:=List.drop_eq_nil_of_le (by omega);have b5:E.drop (k+1)=[]:=List.drop_eq_nil_of_le (by omega);rw [fA (s':=(B,E,o++[⟨B[k],1125899906842624⟩],((k+1:Nat):Int))) ?_,ih (k+1) _ (by omega) (by omega) (by simp [h3]),hd,he,b5]
    ·rw [pairs,List.append_assoc];rfl
    ·show pQ _ _ _ _=_;simp only [pQ,d1,cond_true,aQ d2,d3,e1,cond_false,xF,d4];rw [aQ (by simp only [List.length_cons,List.length_nil];omega)]
 have:=key B.length 0 [] (by omega) (by omega) rfl;simp only [Int.natCast_zero,List.drop_zero,List.nil_append] at this;rw [this];rfl
theorem aNx {f:List aB}(hf:∀ j∈f,j.Net<=1048576 /\ -1048576<=j.Net)(hl:f.length<=1024)(h1:(sA f).length<=1000000)(h2:(ends f).length<=1000000):AZ f [] [] 0=AY (sA f) (ends f):=by
 unfold AZ;rw [kP (l:=f) (body:=fun s:List Int×List Int×Int=>sP f s.1 s.2.1 s.2.2) (fun (s:List Int×List Int) i=>(s.1,s.2,i)) (fun s r=>(s.1++sA r,s.2++ends r)) (fun s r=>s.1.length+(sA r).length<=1000000/\s.2.length+(ends r).length<=1000000 /\ ∀ j∈r,j∈f) ([],[]) ?_ ?_ ⟨by simpa using h1,by simpa using h2,fun _ h=>h⟩]
 ·simp
 ·intro i a r s ha hi;obtain⟨B,E⟩:=s;left;obtain⟨d1,d2,d3,d4⟩:=idx ha (by omega);obtain⟨g1,g2,g3⟩:=hi;have b5:=hf a (g3 a (by simp));rw [tI,List.length_append,List.length_replicate] at g1;rw [MS,List.length_append,List.length_replicate] at g2;simp only at g1 g2;refine⟨(B++List.replicate a.Net.toNat a.At,E++List.replicate (-a.Net).toNat a.At),?_,⟨by simp only [List.length_append,List.length_replicate];omega,by simp only [List.length_append,List.length_replicate];omega,fun j hj=>g3 j (by simp [hj])⟩,by simp [tI,MS]⟩;show sP _ _ _ _=_;simp only [sP,d1,cond_true,EO];have p1:=aEd (E:=E) d2 d3 b5.1 a.Net.toNat 0 B (by omega) (by omega);have p2:=aH0 (B:=B++List.replicate a.Net.toNat a.At) d2 d3 ⟨b5.2,b5.1⟩ (-a.Net).toNat 0 E (by omega) (by omega);simp only [Int.natCast_zero] at p1 p2;rw [p1];simp only [Option.bind_some,AN,GW];rw [p2];simp only [Option.bind_some,BB,d4]
 ·intro s _;show sP _ _ _ _=_;simp only [sP,eP,cond_false];simp [sA,ends]
theorem aHg (f:List aB):CI f=some (aDe f):=by
 unfold CI aDe;rw [FL];simp only [Option.bind_some];by_cases hm:dU f=true
 ·rw [aBL,hm];simp only [Bool.not_true,cond_false,if_true,Option.bind_some,Bool.false_eq_true,if_false];by_cases h2:xQ f<0
  ·simp [h2]
  ·have hl:=(eU.1 hm).1;simp only [h2,decide_false,cond_false,Bool.false_eq_true,if_false];rw [aOc (FE hm) hl];unfold xD;by_cases h3:4096<oX f
   ·simp [h3]
   ·simp only [h3,decide_false,cond_false,Bool.false_eq_true,if_false];have hb:(sA f).length<=4096:=by have:=NT f;omega
    have he:=aNl (aAP hm ((BJ hm).1 (by omega)));rw [aNx (FE hm) hl (by omega) (by omega)];exact aKb _ _ (by omega) (by omega)
 ·simp [hm]
theorem aMA {l0:List aK}{rows:List (List aF)}{r:List aF}{i:Int}(d2:0<=i/\i<(rows.length:Int))(d3:List.getD rows i.toNat default=r)(hr:r.length<=4398046510976)(ss:List bE)(out:List bF)(h:out.length+ss.length<=1000000):yW l0 out rows i ss 0=vN l0 (out++GU r ss) rows i:=by
 unfold yW;rw [kP (l:=ss) (body:=fun s:List bF×Int=>rW l0 rows i ss s.1 s.2) (fun o i=>(o,i)) (fun o t=>o++GU r t) (fun o t=>o.length+t.length<=1000000) out ?_ ?_ h]
 ·rfl
 ·intro k a t o ha hi;left;obtain⟨e1,e2,e3,e4⟩:=idx ha (by omega);simp only [List.length_cons] at hi;refine⟨o++[⟨r,a⟩],?_,by simp;omega,by simp [GU]⟩;show rW _ _ _ _ _ _=_;simp only [rW,e1,cond_true,aQ d2,d3,aQ e2,e3,e4];rw [aQ (by omega)];exact aQ (by simp only [List.length_cons,List.length_nil];omega)
 ·intro o _;show rW _ _ _ _ _ _=_;simp only [rW,eP,cond_false];simp [GU]
theorem aFo {l:List aK}(hl:okL l):AF l=some (DU l):=by
 unfold AF DU;rw [HH hl]
 cases hm:lZ l
 ·simp
 ·simp only [Option.bind_some,Bool.not_true,cond_false,aAm hl,Bool.false_eq_true,if_false]
  cases ht:oT l
  ·simp
  ·have hn:=(gQ hm).1;have hrows:∀ e∈l,gI e.Row=true:=fun e he=>((MD.1 hm).2.1 e he).1;simp only [Bool.not_true,cond_false,Bool.false_eq_true,if_false,OB hl hrows (show l.length<=1099511627776 by omega),Option.bind_some,EN];have hg:groups l=yC l:=(aBD hm).symm;have hrl:=HR l;rw [kP (l:=rowsOf l) (body:=fun s:List bF×Int=>qA l (rowsOf l) s.1 s.2) (fun o i=>(o,i)) (fun o rs=>if 4096<(o.length:Int)+wS (rs.map fun r=>(r,bR l r)) then .inr ([],7) else .inl (o++OS (rs.map fun r=>(r,bR l r)))) (fun o rs=>o.length<=4096 /\ ∀ r∈rs,r∈rowsOf l) [] ?_ ?_ ⟨by simp,fun _ h=>h⟩]
   ·rw [hg];by_cases h7:4096<wS (yC l)
    ·have h7':4096<wS ((rowsOf l).map fun r=>(r,bR l r)):=h7;simp [h7,h7']
    ·have h7':¬ 4096<wS ((rowsOf l).map fun r=>(r,bR l r)):=h7;simp [h7,h7',yY,yC]
   ·intro i r rs o hi hv;obtain⟨d1,d2,d3,d4⟩:=idx hi (by omega);have hr:=hv.2 r (by simp);obtain⟨e,he,hre⟩:=tL.1 hr;have b5:=(tS (hrows e he)).1;rw [hre] at b5;have hgr:(r,bR l r)∈groups l:=by rw [hg];exact List.mem_map.2 ⟨r,hr,rfl⟩
    obtain⟨g1,g2⟩:=GQ ht hgr;have g3:¬ xQ (bR l r)<0:=by have:=(BJ g1).2 g2;simp only at this;omega
    have hrest:=OT (rs.map fun r=>(r,bR l r));show (∃ s',qA _ _ _ _=_/\_)∨qA _ _ _ _=_;simp only [qA,d1,cond_true,aQ d2,d3,DQ hl (show l.length<=1099511627776 by omega),aHg,Option.bind_some,List.map_cons,MY,ZF]
    have hs:aDe (bR l r)=if 4096<oX (bR l r) then ([],7) else (zK (bR l r),0):=by
     simp only at g1;simp [aDe,g1,g3]
    rw [hs];by_cases h7:4096<oX (bR l r)
    ·right;have : 4096<(o.length:Int)+(oX (bR l r)+wS (rs.map fun r=>(r,bR l r))):=by omega
     simp [h7,this]
    ·have hsl:=ZD (bR l r);simp only [h7,if_false,decide_true,Bool.not_true,cond_false];rw [aMA d2 d3 (by omega) _ _ (by omega)];simp only [vN,ET,d4]
     have hlen:(((o++GU r (zK (bR l r))).length:Nat):Int)=(o.length:Int)+oX (bR l r):=by
      rw [List.length_append,GU,List.length_map];omega
     rw [hlen];by_cases h8:4096<(o.length:Int)+oX (bR l r)
     ·right;have : 4096<(o.length:Int)+(oX (bR l r)+wS (rs.map fun r=>(r,bR l r))):=by omega
      simp [h8,this]
     ·left;refine⟨o++GU r (zK (bR l r)),by simp only [h8,decide_false,cond_false],⟨by omega,fun q hq=>hv.2 q (by simp [hq])⟩,?_⟩;rw [hlen,Int.add_assoc,List.append_assoc]
   ·intro o hv;show qA _ _ _ _=_;have : ¬ 4096<(o.length:Int):=by have:=hv.1;omega
    simp only [qA,eP,cond_false];simp [wS,OS];omega
theorem aHW {a b:List aK}(ha:lZ a=true)(hb:lZ b=true)(h:(jL (a++b)).2≠0):(jL (a++b)).2=7:=by
 have hu:(a++b).any unE=false:=by rw [List.any_append,(TF ha).1,(TF hb).1];rfl
 have ho:(a++b).any PY=false:=by rw [List.any_append,(TF ha).2,(TF hb).2];rfl
 have he:=aFP hu ho;unfold jL at h ⊢;rw [hu,ho] at h ⊢;simp only [Bool.false_eq_true,if_false] at h ⊢
 have : ∀ (gs:List (List aF×List aB)) (out:List aK),(∀ g∈gs,(fJ g.2).2=0∨(fJ g.2).2=7)->(wB fJ gs out).2=0∨(wB fJ gs out).2=7:=by
  intro gs
  induction gs with
  | nil=>intro _ _; exact .inl rfl
  | cons g gs ih =>
   intro out hg;unfold wB;split
   ·exact hg g (List.mem_cons_self ..)
   ·split
    ·exact .inr rfl
    ·exact ih _ fun x hx=>hg x (List.mem_cons_of_mem _ hx)
 exact (this _ _ he).resolve_left h
theorem aHK {T:List aK}(hT:lZ T=true){t:Int}(h:(nX T t).2≠0):(nX T t).2=7:=by
 have hg:∀ g∈groups T,(rest g.2 t).2=0∨(rest g.2 t).2=7:=fun g hg=>aG3 ((gQ hT).2.1 g hg).2;unfold nX LW at h ⊢;rw [if_pos hT] at h ⊢
 have : ∀ (gs:List (List aF×List aB)) (out:List aK),(∀ g∈gs,(rest g.2 t).2=0∨(rest g.2 t).2=7)->(wB (fun f=>rest f t) gs out).2=0∨(wB (fun f=>rest f t) gs out).2=7:=by
  intro gs
  induction gs with
  | nil=>intro _ _; exact .inl rfl
  | cons g gs ih =>
   intro out hg;unfold wB;split
   ·exact hg g (List.mem_cons_self ..)
   ·split
    ·exact .inr rfl
    ·exact ih _ fun x hx=>hg x (List.mem_cons_of_mem _ hx)
 exact (this _ _ hg).resolve_left h
theorem aKx {T l:List aK}{m:Int}(hT:oT T=true)(hl:okL l) :
  vS ⟨T,m⟩ l=some (AR T m l,if AR T m l=0 then ⟨(jL (T++l)).1,m⟩ else ⟨T,m⟩):=by
 have mT:=(nQ.1 hT).1;unfold vS AR;rw [HH hl];simp only [Option.bind_some]
 cases hm:lZ l with
 | false=>simp
 | true =>
  simp only [Bool.not_true,cond_false,CB];have hn:=(gQ hm).1;rw [kP (l:=l) (st:=Unit) (fun _ i=>((⟨T,m⟩:cJ),i)) (fun _ r=>if (r.any fun e=>decide (e.At<m))=true then Sum.inr ((16:Int),(⟨T,m⟩:cJ)) else Sum.inl (⟨T,m⟩:cJ)) (fun _ _=>True) () ?_ ?_ trivial]
  ·cases hlate:(l.any fun e=>decide (e.At<m)) with
   | true=>simp
   | false =>
    simp only [Bool.false_eq_true,if_false,Option.bind_some,Sum.elim_inl,xS];rw [aIV (YH hT) hl];have ha:aI3 T l=jL (T++l):=by unfold aI3;rw [mT,hm];rfl
    rw [ha];simp only [Option.bind_some];by_cases h0:(jL (T++l)).2=0
    ·rw [h0];simp only [decide_true,Bool.not_true,cond_false];rw [aAm (aKQ (aDs (YH hT) hl (by have:=(gQ mT).1;omega)))]
     cases ht:oT (jL (T++l)).1 <;> simp
    ·rw [aHW mT hm h0];simp
  ·intro i a r s hi _;have hlt:=(List.getElem?_eq_some_iff.1 hi).1
   have hb:uO l ⟨T,m⟩ (i:Int)=cond (decide (a.At<m)) (some (.inr (.inr ((16:Int),⟨T,m⟩)))) (some (.inl (⟨T,m⟩,((i+1:Nat):Int)))):=by
    simp only [uO];rw [show decide ((i:Int)<((l.length:Nat):Int))=true from by simp only [decide_eq_true_eq];omega];simp only [cond_true];rw [aQ (by omega),Int.toNat_natCast,List.getD_eq_getElem?_getD,hi,Option.getD_some,cZ (by omega) (by omega)];rfl
   cases hd:decide (a.At<m) with
   | true =>
    rw [hd] at hb;right;rw [hb];simp [hd]
   | false =>
    rw [hd] at hb;left;exact⟨(),by rw [hb];rfl,trivial,by simp [hd]⟩
  ·intro s _;simp only [uO];rw [show decide (((l.length:Nat):Int)<((l.length:Nat):Int))=false from by simp];simp
theorem aFZ {T:List aK}{m t:Int}(hT:oT T=true)(ht:sE t) :
  sZ ⟨T,m⟩ t=some (if t<=m then (0,⟨T,m⟩) else if (nX T t).2=0 then (0,⟨(nX T t).1,t⟩) else (7,⟨T,m⟩)):=by
 unfold sZ;by_cases h:t<=m
 ·simp [h]
 ·rw [show decide (t<=(⟨T,m⟩:cJ).Mark)=false from by simpa using h,if_neg h];simp only [cond_false];rw [aJw (YH hT) ht]
  have e:LW (LV 2 t) T=nX T t:=by
   unfold nX
   congr 1
  rw [e];simp only [Option.bind_some];by_cases h0:(nX T t).2=0
  ·rw [if_pos h0,h0];rfl
  ·rw [if_neg h0,aHK (nQ.1 hT).1 h0];rfl
theorem aHJ {T:List aK}{m:Int}(hT:oT T=true):wL ⟨T,m⟩=some (RG T):=by
 have mT:=(nQ.1 hT).1;have hn:=(gQ mT).1;unfold wL zB;rw [kP (l:=T) (st:=Int) (fun s i=>(s,i)) (fun s r=>s+RG r) (fun s r=>0<=s/\s+1048576*(r.length:Int)<=100000000000000 /\ ∀ e∈r,e.Net<=1048576) 0 ?_ ?_ ⟨by omega,by omega,fun e he=>(BO mT he).2.2.2.2.1⟩]
 ·simp [vD]
 ·intro i a r s hi hinv;obtain⟨h1,h2,h3⟩:=hinv;have hlt:=(List.getElem?_eq_some_iff.1 hi).1;have ha:=aAB (by omega) (h3 a (List.mem_cons_self ..));rw [List.length_cons] at h2
  push_cast at h2
  refine .inl ⟨s+pos a.Net,?_,⟨by omega,by omega,fun c hc=>h3 c (List.mem_cons_of_mem _ hc)⟩,by simp [RG,Int.add_assoc]⟩;simp only [vC,vF];rw [show decide ((i:Int)<((T.length:Nat):Int))=true from by simp only [decide_eq_true_eq];omega];simp only [cond_true];rw [aQ (by omega),aQ (by omega),Int.toNat_natCast,List.getD_eq_getElem?_getD,hi,Option.getD_some];have hw:i64.wrap ((i:Int)+1)=((i+1:Nat):Int):=by rw [cZ (by omega) (by omega)];rfl
  rw [hw];by_cases hp:0<a.Net
  ·have e:pos a.Net=a.Net:=by unfold pos;rw [if_neg (by omega)]
   rw [show decide (0<a.Net)=true from by simpa using hp,e];rw [e] at ha;simp only [cond_true];rw [cZ (by omega) (by omega)]
  ·have e:pos a.Net=0:=by unfold pos;split <;> omega
   rw [show decide (0<a.Net)=false from by simpa using hp,e];simp
 ·intro s _;simp only [vC];rw [show decide (((T.length:Nat):Int)<((T.length:Nat):Int))=false from by simp];simp [RG]
def aA7 (b:cE)(c:cJ):Prop:=nP b c.Table/\c.Mark=b.mark /\ -1<=b.mark
theorem aLg {b:cE}{c:cJ}(h:aA7 b c){l:List aK}(hl:okL l)(hn:SU l):∃ e b' c',BI b l=some (e,b')/\vS c l=some (e,c')/\aA7 b' c':=by
 obtain⟨hb,hm,h1⟩:=h;obtain⟨T,m⟩:=c;simp only at hb hm;subst hm;obtain⟨b',a1,a2,a3,a4⟩:=aGf hb hl hn;have hr:=aKx (m:=b.mark) hb.tab hl;by_cases e:AR T b.mark l=0
 ·rw [if_pos e] at hr;exact⟨_,_,_,a1,hr,a3 e,a2.symm,by rw [a2];exact h1⟩
 ·rw [if_neg e] at hr;rw [a4 e] at a1;exact⟨_,_,_,a1,hr,hb,rfl,h1⟩
theorem aHV {b:cE}{c:cJ}(h:aA7 b c){t:Int}(ht:sE t):∃ e b' c',oK b t=some (e,b')/\sZ c t=some (e,c')/\aA7 b' c':=by
 obtain⟨hb,hm,h1⟩:=h;obtain⟨T,m⟩:=c;simp only at hb hm;subst hm;obtain⟨f1,f2,f3⟩:=aEx hb h1 t;have hr:=aFZ (m:=b.mark) hb.tab ht;by_cases hle:t<=b.mark
 ·rw [if_pos hle] at hr;exact⟨_,_,_,f1 hle,hr,hb,rfl,h1⟩
 ·rw [if_neg hle] at hr;by_cases h0:(nX T t).2=0
  ·rw [if_pos h0] at hr;obtain⟨b',g1,g2,g3⟩:=f3 (by omega) h0;exact⟨_,_,_,g1,hr,g2,g3.symm,by rw [g3];omega⟩
  ·rw [if_neg h0] at hr;exact⟨_,_,_,f2 (by omega) h0,hr,hb,rfl,h1⟩
theorem aIa {b:cE}{c:cJ}(h:aA7 b c)(l0:List oM)(r1:List aF){i:Int}(hi:0<=i/\i<9223372036854775807):uI l0 r1 b c i=some (.inl (b,c,i+1)):=by
 obtain⟨hb,hm,h1⟩:=h;obtain⟨T,m⟩:=c;simp only at hb hm;subst hm;unfold uI;simp only [GZ,Option.bind_some,decide_true,Bool.not_true,Bool.not_false,cR,cond_true];rw [aFm hb];simp only [Option.bind_some];rw [aHJ hb.tab];simp only [Option.bind_some,decide_true,Bool.not_true,Bool.or_self,Bool.not_false,cond_true];rw [aB6 hb];simp only [Option.bind_some];rw [aBW (YH hb.tab),cZ (by omega) (by omega)];simp
theorem aNj {l0:List oM}(r1:List aF)(hlen:l0.length<=3518437208783)(hop:∀ o∈l0,okL o.Edges/\SU o.Edges/\sE o.At):∀ (r:List oM) (k:Nat) (b:cE) (c:cJ),l0.drop k=r->k<=l0.length->aA7 b c ->
  ∃ b' c',lp (fun s:cE×cJ×Int=>sM l0 r1 s.1 s.2.1 s.2.2) (b,c,(k:Int))=some (.inl (b',c'))/\aA7 b' c':=by
 intro r
 induction r with
 | nil =>
  intro k b c hd hk h
  have : k=l0.length:=by
   have:=congrArg List.length hd;simp only [List.length_drop,List.length_nil] at this;omega
  subst this;refine⟨b,c,cY ?_,h⟩;simp only [sM];rw [show decide (((l0.length:Nat):Int)<((l0.length:Nat):Int))=false from by simp];rfl
 | cons o r ih =>
  intro k b c hd hk h;obtain⟨g1,g2⟩:=drop_cons hd;have hlt:k<l0.length:=(List.getElem?_eq_some_iff.1 g1).1;obtain⟨p1,p2,p3⟩:=hop o (List.mem_of_getElem? g1)
  have hstep:∃ b' c',sM l0 r1 b c (k:Int)=some (.inl (b',c',((k+1:Nat):Int)))/\aA7 b' c':=by
   simp only [sM];rw [show decide ((k:Int)<((l0.length:Nat):Int))=true from by simp only [decide_eq_true_eq];omega];simp only [cond_true];rw [aQ (by omega),Int.toNat_natCast,List.getD_eq_getElem?_getD,g1,Option.getD_some];by_cases hK:o.Kind=0
   ·obtain⟨e,b',c',a1,a2,a3⟩:=aLg h p1 p2;refine⟨b',c',?_,a3⟩;rw [show decide (o.Kind=0)=true from by simpa using hK];simp only [cond_true];rw [aQ (by omega),a1];simp only [Option.bind_some];rw [aQ (by omega),a2];simp only [Option.bind_some,decide_true,Bool.not_true,cond_false];rw [aIa a3 l0 r1 (by omega)];rfl
   ·obtain⟨e,b',c',a1,a2,a3⟩:=aHV h p3;refine⟨b',c',?_,a3⟩;rw [show decide (o.Kind=0)=false from by simpa using hK];simp only [cond_false];rw [aQ (by omega),a1];simp only [Option.bind_some];rw [aQ (by omega),a2];simp only [Option.bind_some,decide_true,Bool.not_true,cond_false];rw [aIa a3 l0 r1 (by omega)];rfl
  obtain⟨b',c',e1,e2⟩:=hstep;obtain⟨b2,c2,e3,e4⟩:=ih (k+1) b' c' g2 (by omega) e2;exact⟨b2,c2,by rw [fA e1];exact e3,e4⟩
theorem aIT {l0:List oM}(hlen:l0.length<=3518437208783):∃ x,DF l0=some x:=by
 unfold DF GV
 have key:∀ (r:List oM) (k:Nat) (n:Int),l0.drop k=r->k<=l0.length->0<=n->n<=4000000000000 -> ∃ y,lp (fun s:Int×Int=>uM l0 s.1 s.2) (n,(k:Int))=some y:=by
  intro r
  induction r with
  | nil =>
   intro k n hd hk _ _
   have : k=l0.length:=by
    have:=congrArg List.length hd;simp only [List.length_drop,List.length_nil] at this;omega
   subst this;refine⟨n,cY ?_⟩;simp only [uM];rw [show decide (((l0.length:Nat):Int)<((l0.length:Nat):Int))=false from by simp];rfl
  | cons o r ih =>
   intro k n hd hk h0 h1;obtain⟨g1,g2⟩:=drop_cons hd;have hlt:k<l0.length:=(List.getElem?_eq_some_iff.1 g1).1;by_cases hn:n<=60
   ·have hm:∃ d:Int,0<=d/\d<=61/\(if 61<((List.length (l0.getD (Int.toNat (k:Int)) default).Edges:Nat):Int) then (61:Int) else ((List.length ((l0.getD (Int.toNat (k:Int)) default).Edges):Nat):Int))=d:=⟨_,by split <;> omega,by split <;> omega,rfl⟩;obtain⟨d,d0,d1,e⟩:=hm;obtain⟨y,hy⟩:=ih (k+1) (n+d) g2 (by omega) (by omega) (by omega);refine⟨y,?_⟩;rw [fA (s':=(n+d,((k+1:Nat):Int)))]
    ·exact hy
    ·simp only [uM];rw [show decide ((k:Int)<((l0.length:Nat):Int))=true from by simp only [decide_eq_true_eq];omega,show decide (n<=60)=true from by simpa using hn];simp only [Bool.and_self,cond_true];rw [aQ (by omega),e,cZ (by omega) (by omega),cZ (by omega) (by omega)];rfl
   ·refine⟨n,cY ?_⟩;simp only [uM];rw [show decide (n<=60)=false from by simpa using hn,Bool.and_false];rfl
 obtain⟨y,hy⟩:=key l0 0 ((l0.length:Nat):Int) rfl (Nat.zero_le _) (by omega) (by omega);exact⟨_,by rw [show ((0:Nat):Int)=0 from rfl] at hy;rw [hy];rfl⟩
theorem aFy (l:List aK)(hl:okL l):okP (DU l).1:=by
 unfold DU;split
 ·exact⟨by simp,by simp⟩
 ·split
  ·exact⟨by simp,by simp⟩
  ·split
   ·exact⟨by simp,by simp⟩
   ·rename_i h1 h2 h3
    have hm:lZ l=true:=by simpa using h1
    have ht:oT l=true:=by simpa using h2
    have hf:=aEb (groups l);refine aOo (by simp only [decide_eq_true_eq] at h3;simp only;omega) fun p hp=>?_;have:=aJs ht hp;unfold aL4 at this;rw [Bool.and_eq_true] at this;exact (tS this.1).1
theorem aJZ {b:cE}{T:List aK}(h:nP b T){r:List aF}(hn:∀ v∈r,sE v.Num):JQ b r=some (if gI r then bR T r else []):=by
 unfold JQ;rw [TH];simp only [Option.bind_some]
 cases hr:gI r with
 | false=>simp
 | true =>
  simp only [Bool.not_true,cond_false,if_true];rw [aAo ⟨hr,hn⟩];simp only [Option.bind_some];rw [h.was hr,oA h.srt];have:=(eU.1 (nO h.may r)).1;unfold gO;rw [aQ (by omega)]
theorem aFL (l0:(List oM))(m0:∀ a∈l0,QL a)(y0:List.length l0*40<=140737488351232)(l1:(List aF))(m1:∀ a∈l1,GC a)(y1:List.length l1*32<=140737488351232):EU l0 l1=some true:=by
 unfold EU;obtain⟨x,hx⟩:=aIT (l0:=l0) (by omega);rw [hx];simp only [Option.bind_some]
 cases x with
 | false=>simp only [Bool.not_false,cond_true,aFs,Option.bind_some]
 | true =>
  simp only [Bool.not_true,cond_false,MT,QO,Option.bind_some];unfold BV
  have hop:∀ o∈l0,okL o.Edges/\SU o.Edges/\sE o.At:=fun o ho=>by
   obtain⟨_,⟨e1,e2⟩,e3,_⟩:=m0 o ho;exact⟨aNX e1 e2,aNW e1,e3⟩
  obtain⟨b,c,e1,hb,hm,_⟩:=aNj l1 (by omega) hop l0 0 ⟨[],0,-1⟩ ⟨[],-1⟩ rfl (Nat.zero_le _) ⟨aK0,rfl,by decide⟩;rw [show ((0:Nat):Int)=0 from rfl] at e1;rw [e1];obtain⟨T,m⟩:=c;simp only at hb hm;have kT:=YH hb.tab;have hTl:=(gQ hb.may).1;simp only [Option.bind_some,Sum.elim_inl,xR,OA];rw [aB6 hb];simp only [Option.bind_some];rw [aJr kT];simp only [Option.bind_some];rw [aFo kT];simp only [Option.bind_some];rw [NJ l1 (by omega)];simp only [Option.bind_some];have hn:∀ v∈l1,sE v.Num:=fun v hv=>(m1 v hv).2.1
  have hj2:∀ want:List aB,(want=if gI l1 then bR T l1 else [])->uK l1 b (DU T).1 (DU T).2 (DU T).1 (DU T).2 want=some true:=by
   intro want hw;unfold uK;rw [aFs];simp only [Option.bind_some,decide_true,Bool.and_self,cR,cond_true];rw [aHe (aFy T kT)];simp only [Option.bind_some,decide_true,Bool.and_self,cond_true];rw [aJZ hb hn,←hw];simp only [Option.bind_some]
   rw [aNq want want (by
    rw [hw];split
    ·have:=aBE T l1;omega
    ·simp)]
   simp
  cases hr:gI l1 with
  | true =>
   rw [hr] at hj2;simp only [cond_true];rw [DQ kT (by omega)];simp only [Option.bind_some];exact hj2 _ rfl
  | false =>
   rw [hr] at hj2;exact hj2 _ rfl
end Go.Abs
