/- What the law WindowSettles stands on: the framework, the given functions as plain functions, their walks, and the plain laws; part 6. -/
import Derived.Test.YteecjdpicjpnfabGreatWindowSettlesZ5
set_option linter.unusedSimpArgs false
set_option linter.unusedVariables false
namespace Go.Abs
open Go
theorem aF7 {lo hi i:Nat}(x y:Int):∀ (n j:Nat) (d:List Int),hi-j=n->i<j->hi<=d.length->d.length<2305843009213693951 ->
  ∃ d',lp (fun s:List Int×Int=>cV (lo:Nat) (hi:Nat) x y s.1 s.2) (d,(j:Int))=some d'/\Rel i hi d d':=by
 intro n
 induction n with
 | zero =>
  intro j d h1 h2 h3 h4;refine⟨d,dF ?_,Rel.refl ..⟩;show cV _ _ _ _ _ _=_;have : decide ((j:Int)<(hi:Int))=false:=by simp; omega
  simp only [cV,this,cond_false]
 | succ n ih =>
  intro j d h1 h2 h3 h4;have hd:decide ((j:Int)<(hi:Int))=true:=by simp; omega
  have hs:cV (lo:Nat) (hi:Nat) x y d (j:Nat)=if gN d j<gN d (j-1) then some (.inl (swp d j (j-1),((j+1:Nat):Int))) else some (.inr d):=by
   unfold cV;rw [hd,cond_true,wrN (x:=(j:Int)-1) (n:=j-1) (by omega) (by omega),wrN (x:=(j:Int)+1) (n:=j+1) (by omega) (by omega),aQ (asN (by omega)),aQ (asN (by omega))];simp only [uF,Option.bind_some,Int.toNat_natCast,gN];by_cases h:d.getD j default<d.getD (j-1) default
   ·simp only [h,decide_true,Bool.not_true,cond_false,if_true];rw [aQ (asN (by omega)),aQ (asN (by omega)),aQ (asN (by omega)),aQ (asN (by omega))];rfl
   ·simp only [h,decide_false,Bool.not_false,cond_true,if_false]
  by_cases h:gN d j<gN d (j-1)
  ·rw [if_pos h] at hs;obtain⟨d',e,r⟩:=ih (j+1) (swp d j (j-1)) (by omega) (by omega) (by rw [iP]; exact h3) (by rw [iP]; exact h4);exact⟨d',(fT hs).trans e,(Rel.swp (i:=j) (j:=j-1) (by omega) (by omega) (by omega) (by omega)).trans r⟩
  ·rw [if_neg h] at hs;exact⟨d,dF hs,Rel.refl ..⟩

theorem aDo {lo hi i:Nat}(x:Int){d:List Int}(h1:lo<i)(h2:i<hi)(h3:hi<=d.length)(h4:d.length<2305843009213693951) :
  ∃ d',cN d (lo:Nat) (hi:Nat) (i:Nat) x=some (.inl (d',(i:Int),IntKind.i64.wrap (x+1)))/\Rel i hi d d':=by
 unfold cN;rw [wrN (x:=(hi:Int)-(i:Int)) (n:=hi-i) (by omega) (by omega)];by_cases h:(2:Int)<=((hi-i:Nat):Int)
 ·simp only [h,decide_true,cond_true];unfold gY;rw [wrN (x:=(i:Int)+1) (n:=i+1) (by omega) (by omega)];obtain⟨d',e,r⟩:=aF7 (lo:=lo) (hi:=hi) (i:=i) (i:Int) x (hi-(i+1)) (i+1) d rfl (by omega) h3 h4;rw [e];exact⟨d',rfl,r⟩
 ·simp only [h,decide_false,cond_false];exact⟨d,rfl,Rel.refl ..⟩

theorem aEz {lo hi i:Nat}(x:Int){d:List Int}(h1:lo<i)(h2:i<=hi)(h3:hi<=d.length)(h4:d.length<2305843009213693951)(hs:rT lo i d)(hb:lo=0 ∨ ∀ k,lo<=k->k<hi->gN d (lo-1)<=gN d k) :
  (∃ (fl:Bool) (d':List Int),dO d (lo:Nat) (hi:Nat) (i:Nat) x=some (.inr (.inr (fl,d')))/\Rel lo hi d d'/\(fl=true->rT lo hi d')) ∨
  (∃ (d':List Int) (i':Nat),dO d (lo:Nat) (hi:Nat) (i:Nat) x=some (.inl (d',(i':Int),IntKind.i64.wrap (x+1)))/\Rel lo hi d d'/\lo<i'/\i'<=hi/\rT lo i' d'):=by
 unfold dO;obtain⟨i',e,a1,a2,a3⟩:=aD3 (lo:=lo) (hi:=hi) x h3 h4 (hi-i) i rfl (by omega) h2;rw [e];simp only [Option.bind_some];have hs':=aBm (i'-i) i' rfl hs h1 a3;unfold eY;by_cases hi':i'=hi
 ·have : decide ((i':Int)=(hi:Int))=true:=by simp; omega
  rw [this,cond_true];left;exact⟨true,d,rfl,Rel.refl ..,fun _=>hi' ▸ hs'⟩
 ·have hne:decide ((i':Int)=(hi:Int))=false:=by simp; omega
  rw [hne,cond_false,wrN (x:=(hi:Int)-(lo:Int)) (n:=hi-lo) (by omega) (by omega)];by_cases h50:((hi-lo:Nat):Int)<50
  ·simp only [h50,decide_true,cond_true];left;exact⟨false,d,rfl,Rel.refl ..,fun h=>by cases h⟩
  ·simp only [h50,decide_false,cond_false];rw [wrN (x:=(i':Int)-1) (n:=i'-1) (by omega) (by omega),wrN (x:=(i':Int)-(lo:Int)) (n:=i'-lo) (by omega) (by omega)];simp only [Int.toNat_natCast];rw [aQ (asN (by omega)),aQ (asN (by omega)),aQ (asN (by omega)),aQ (asN (by omega))];have r1:Rel lo hi d (swp d i' (i'-1)):=Rel.swp (i:=i') (j:=i'-1) (by omega) (by omega) (by omega) (by omega);have l1:(swp d i' (i'-1)).length=d.length:=iP ..;have g:=vW (d:=d) (i:=i') (j:=i'-1) (by omega) (by omega);right;by_cases hge:(2:Int)<=((i'-lo:Nat):Int)
   ·simp only [hge,decide_true,cond_true];unfold gZ
    have ins:LJ lo (i'-1) (i'-1) (swp d i' (i'-1)):=⟨fun p q p1 p2 p3 p4 p5=>by
     rw [g,g,if_neg p4,if_neg p5,if_neg (by omega),if_neg (by omega)];exact hs' p q p1 p2 (by omega),fun q q1 q2=>by omega⟩
    obtain⟨d2,e2,r2,s2⟩:=aD6 (lo:=lo) (hi:=hi) (i:=i'-1) (i':Int) x (i'-1) (swp d i' (i'-1)) (by omega) (Nat.le_refl _) (by rw [l1]; omega) (by rw [l1]; exact h4) ins ((MI r1 hb).imp id fun h k a b=>h k a (by omega));have e2':lp (fun s:List Int×Int=>cO (lo:Int) (hi:Int) (i':Int) x s.1 s.2) ((List.set (List.set d i' (List.getD d (i'-1) default)) (i'-1) (List.getD d i' default)),((i'-1:Nat):Int))=some d2:=e2;rw [e2'];simp only [Option.bind_some];rw [show i'-1+1=i' by omega] at r2 s2;have l2:d2.length=d.length:=by rw [r2.len,l1]
    obtain⟨d3,e3,r3⟩:=aDo (lo:=lo) (hi:=hi) (i:=i') x (d:=d2) (by omega) (by omega) (by omega) (by omega);rw [e3];refine⟨d3,i',rfl,(r1.trans (r2.mono (Nat.le_refl _) (by omega))).trans (r3.mono (by omega) (Nat.le_refl _)),by omega,a2,fun p q p1 p2 p3=>?_⟩;rw [r3.out p (by omega),r3.out q (by omega)];exact s2 p q p1 p2 p3
   ·simp only [hge,decide_false,cond_false];obtain⟨d3,e3,r3⟩:=aDo (lo:=lo) (hi:=hi) (i:=i') x (d:=swp d i' (i'-1)) (by omega) (by omega) (by omega) (by omega);have e3':cN (List.set (List.set d i' (List.getD d (i'-1) default)) (i'-1) (List.getD d i' default)) (lo:Int) (hi:Int) (i':Int) x=_:=e3;rw [e3'];refine⟨d3,i',rfl,r1.trans (r3.mono (by omega) (Nat.le_refl _)),by omega,a2,?_⟩;have : i'=lo+1:=by omega
    rw [this]; exact OJ lo d3

theorem aF8 {lo hi:Nat}:∀ (n x i:Nat) (d:List Int),5-x=n->lo<i->i<=hi->hi<=d.length->d.length<2305843009213693951->rT lo i d->(lo=0 ∨ ∀ k,lo<=k->k<hi->gN d (lo-1)<=gN d k)->x<=5 ->
  ∃ (fl:Bool) (d':List Int),(lp (fun s:List Int×Int×Int=>cB (lo:Nat) (hi:Nat) s.1 s.2.1 s.2.2) (d,(i:Int),(x:Int))).bind (Sum.elim (fun rr=>eZ rr) (fun rr=>some (rr.1,rr.2)))=some (fl,d')/\Rel lo hi d d'/\(fl=true->rT lo hi d'):=by
 intro n
 induction n with
 | zero =>
  intro x i d h1 h2 h3 h4 h5 h6 h7 h8
  have hs:cB (lo:Nat) (hi:Nat) d (i:Nat) (x:Nat)=some (.inr (.inl d)):=by
   have : decide ((x:Int)<5)=false:=by simp; omega
   simp only [cB,this,cond_false]
  rw [dF (show (fun s:List Int×Int×Int=>cB (lo:Nat) (hi:Nat) s.1 s.2.1 s.2.2) (d,(i:Int),(x:Int))=_ from hs)];exact⟨false,d,rfl,Rel.refl ..,fun h=>by cases h⟩
 | succ n ih =>
  intro x i d h1 h2 h3 h4 h5 h6 h7 h8
  have hl2:cB (lo:Nat) (hi:Nat) d (i:Nat) (x:Nat)=dO d (lo:Nat) (hi:Nat) (i:Nat) (x:Nat):=by
   have : decide ((x:Int)<5)=true:=by simp; omega
   simp only [cB,this,cond_true]
  rcases aEz (lo:=lo) (hi:=hi) (x:Int) h2 h3 h4 h5 h6 h7 with ⟨fl,d',e,r,s⟩ | ⟨d',i',e,r,k1,k2,s⟩
  ·rw [dF (show (fun s:List Int×Int×Int=>cB (lo:Nat) (hi:Nat) s.1 s.2.1 s.2.2) (d,(i:Int),(x:Int))=_ from hl2.trans e)];exact⟨fl,d',rfl,r,s⟩
  ·rw [wrN (x:=(x:Int)+1) (n:=x+1) (by omega) (by omega)] at e;obtain⟨fl,d2,e2,r2,s2⟩:=ih (x+1) i' d' (by omega) k1 k2 (by rw [r.len]; exact h4) (by rw [r.len]; exact h5) s (MI r h7) (by omega);rw [fT (show (fun s:List Int×Int×Int=>cB (lo:Nat) (hi:Nat) s.1 s.2.1 s.2.2) (d,(i:Int),(x:Int))=_ from hl2.trans e)];exact⟨fl,d2,e2,r.trans r2,s2⟩

theorem aEk {lo hi:Nat}{d:List Int}(h0:lo<hi)(h1:hi<=d.length)(h2:d.length<2305843009213693951)(hb:lo=0 ∨ ∀ k,lo<=k->k<hi->gN d (lo-1)<=gN d k) :
  ∃ (fl:Bool) (d':List Int),fI d (lo:Int) (hi:Int)=some (fl,d')/\Rel lo hi d d'/\(fl=true->rT lo hi d'):=by
 unfold fI hY;rw [wrN (x:=(lo:Int)+1) (n:=lo+1) (by omega) (by omega)];exact aF8 (lo:=lo) (hi:=hi) (5-0) 0 (lo+1) d rfl (by omega) (by omega) h1 h2 (OJ lo d) hb (by omega)

end Go.Abs
namespace Go.Abs
open Go
abbrev PS:=List Int×Int×Int×Int×Bool×Bool

abbrev PR:=List Int->Int->Int->Int->Option (List Int)

def CC (a b:Nat)(d d':List Int):Prop:=Rel a b d d'/\rT a b d'

structure BS (a b lim:Nat) (d:List Int):Prop where
 ab:a<=b
 bl:b<=d.length
 len:d.length<2305843009213693951
 bnd:a=0 ∨ ∀ k,a<=k->k<b->gN d (a-1)<=gN d k
 lim:lim<=100

def MG (rec:PR)(N:Nat):Prop:=∀ (d:List Int) (a b lim:Nat),BS a b lim d->(rec d (a:Int) (b:Int) (lim:Int)=none/\N<=b-a) ∨ ∃ d',rec d (a:Int) (b:Int) (lim:Int)=some d'/\CC a b d d'

def IX (N a b:Nat)(d:List Int)(F:Option (PS⊕List Int)):Prop :=
 (F=none/\N+1<=b-a)∨(∃ d',F=some (.inr d')/\CC a b d d') ∨
 ∃ (d':List Int) (a' b' lim':Nat) (wb wp:Bool),F=some (.inl (d',(a':Int),(b':Int),(lim':Int),wb,wp))/\b'-a'<b-a/\BS a' b' lim' d' /\ ∀ d'',CC a' b' d' d''->CC a b d d''

theorem CC.pre {a b:Nat}{d d1 d':List Int}(r:Rel a b d d1)(h:CC a b d1 d'):CC a b d d':=⟨r.trans h.1,h.2⟩

theorem IX.pre {N a b:Nat}{d d1:List Int}{F:Option (PS⊕List Int)}(r:Rel a b d d1)(h:IX N a b d1 F):IX N a b d F:=by
 rcases h with h | ⟨d',h1,h2⟩ | ⟨d',a',b',lim',wb,wp,h1,h2,h3,h4⟩
 ·exact .inl h
 ·exact .inr (.inl ⟨d',h1,h2.pre r⟩)
 ·exact .inr (.inr ⟨d',a',b',lim',wb,wp,h1,h2,h3,fun d'' hg=>(h4 d'' hg).pre r⟩)

theorem BS.rel {a b lim:Nat}{d d1:List Int}(h:BS a b lim d)(r:Rel a b d d1):BS a b lim d1 :=
 ⟨h.ab,by rw [r.len]; exact h.bl,by rw [r.len]; exact h.len,MI r h.bnd,h.lim⟩

theorem ZC {a m b:Nat}{d:List Int}(hm:m<b)(h1:∀ k,a<=k->k<m->gN d k<=gN d m)(h2:∀ k,m<k->k<b->gN d m<=gN d k)(s1:rT a m d)(s2:rT (m+1) b d):rT a b d:=by
 intro p q p1 p2 p3;by_cases hq:q<m
 ·exact s1 p q p1 p2 hq
 ·by_cases hp:m<p
  ·exact s2 p q hp p2 p3
  ·have g1:gN d p<=gN d m:=by
    by_cases e:p=m
    ·rw [e]; exact Int.le_refl _
    ·exact h1 p p1 (by omega)
   have g2:gN d m<=gN d q:=by
    by_cases e:q=m
    ·rw [e]; exact Int.le_refl _
    ·exact h2 q (by omega) p3
   omega

theorem aDI {rec:PR}{N a b lim p:Nat}{d:List Int}(hrec:MG rec N)(hv:BS a b lim d)(h12:12<b-a)(hp:a<=p/\p<b)(wb wp:Bool)(len:Int) :
  IX N a b d (iR rec d (a:Int) (b:Int) (lim:Int) wb wp len (p:Int)):=by
 have hb:=hv.bl; have hl:=hv.len
 -- with all equal ones on the left
 have eqc:0<a -> ¬ gN d (a-1)<gN d p->IX N a b d ((fK d (a:Int) (b:Int) (p:Int)).bind fun x20=>some (.inl (x20.2,x20.1,(b:Int),(lim:Int),wb,wp))):=by
  intro ha hn;obtain⟨m,d',e,m1,m2,r,q1,q2⟩:=VP (lo:=a) (hi:=b) (p:=p) (d:=d) (by omega) hb hl hp
  have hall:∀ k,a<=k->k<b->gN d p<=gN d' k:=by
   refine r.all (p:=fun v=>gN d p<=v) fun k k1 k2=>?_;rcases hv.bnd with h | h
   ·omega
   ·have:=h k k1 k2; omega
  rw [e];refine .inr (.inr ⟨d',m,b,lim,wb,wp,rfl,by omega,⟨m2,by rw [r.len]; exact hb,by rw [r.len]; exact hl,.inr fun k k1 k2=>?_,hv.lim⟩,fun d'' hg=>⟨r.trans (hg.1.mono (by omega) (Nat.le_refl _)),fun x y x1 x2 x3=>?_⟩⟩)
  ·have:=q1 (m-1) (by omega) (by omega); have:=q2 k k1 k2; omega
  ·by_cases hx:m<=x
   ·exact hg.2 x y hx x2 x3
   ·rw [hg.1.out x (by omega)];have g1:=q1 x x1 (by omega);by_cases hy:y<m
    ·rw [hg.1.out y (by omega)];have g2:=hall y (by omega) (by omega); omega
    ·have g2:=hg.1.all (p:=fun v=>gN d p<v) q2 y (by omega) x3;omega
 -- a partition,and the lesser part first
 have ptc:IX N a b d ((iE d (a:Int) (b:Int) (p:Int)).bind fun x23 =>
   bE ((8:Int)≠0) <|
   cond (decide ((IntKind.i64.wrap (x23.1.1-(a:Int)))<(IntKind.i64.wrap ((b:Int)-x23.1.1))))
   ((rec x23.2 (a:Int) x23.1.1 (lim:Int)).bind fun x28 =>
   some (.inl (x28,IntKind.i64.wrap (x23.1.1+(1:Int)),(b:Int),(lim:Int),decide ((IntKind.i64.wrap (Int.tdiv len (8:Int)))<=(IntKind.i64.wrap (x23.1.1-(a:Int)))),x23.1.2)))
   ((rec x23.2 (IntKind.i64.wrap (x23.1.1+(1:Int))) (b:Int) (lim:Int)).bind fun x31 =>
   some (.inl (x31,(a:Int),x23.1.1,(lim:Int),decide ((IntKind.i64.wrap (Int.tdiv len (8:Int)))<=(IntKind.i64.wrap ((b:Int)-x23.1.1))),x23.1.2)))):=by
  obtain⟨m,fl,d1,e,m1,m2,r,q1,q2⟩:=XB (lo:=a) (hi:=b) (p:=p) (d:=d) (by omega) hb hl hp;have hv1:=hv.rel r;rw [e];simp only [Option.bind_some];rw [aQ (by decide),wrN (x:=(m:Int)+1) (n:=m+1) (by omega) (by omega)];have vL:BS a m lim d1:=⟨m1,by have:=hv1.bl; omega,hv1.len,hv1.bnd.imp id fun h k k1 k2=>h k k1 (by omega),hv.lim⟩;have vR:BS (m+1) b lim d1:=⟨by omega,hv1.bl,hv1.len,.inr fun k k1 k2=>by simpa using q2 k (by omega) k2,hv.lim⟩
  cases decide ((IntKind.i64.wrap ((m:Int)-(a:Int)))<(IntKind.i64.wrap ((b:Int)-(m:Int)))) with
  | true =>
   rw [cond_true];rcases hrec d1 a m lim vL with ⟨hn,hN⟩ | ⟨d2,e2,g2⟩
   ·rw [hn]; exact .inl ⟨rfl,by omega⟩
   ·rw [e2];simp only [Option.bind_some];have top:gN d2 m=gN d1 m:=g2.1.out m (by omega);refine .inr (.inr ⟨d2,m+1,b,lim,_,_,rfl,by omega,⟨by omega,by rw [g2.1.len]; exact hv1.bl,by rw [g2.1.len]; exact hv1.len,.inr fun k k1 k2=>?_,hv.lim⟩,fun d3 hg=>⟨(r.trans (g2.1.mono (Nat.le_refl _) (by omega))).trans (hg.1.mono (by omega) (Nat.le_refl _)),?_⟩⟩)
    ·rw [show m+1-1=m by omega,top,g2.1.out k (by omega)]; exact q2 k (by omega) k2
    ·have o3:∀ k,k<=m->gN d3 k=gN d2 k:=fun k hk=>hg.1.out k (by omega);refine ZC m2 (fun k k1 k2=>?_) (fun k k1 k2=>?_) (fun x y x1 x2 x3=>by rw [o3 x (by omega),o3 y (by omega)]; exact g2.2 x y x1 x2 x3) hg.2
     ·rw [o3 k (by omega),o3 m (by omega),top];exact g2.1.all (p:=fun v=>v<=gN d1 m) q1 k k1 k2
     ·rw [o3 m (by omega),top];exact hg.1.all (p:=fun v=>gN d1 m<=v) (fun k k1 k2=>by rw [g2.1.out k (by omega)]; exact q2 k (by omega) k2) k (by omega) k2
  | false =>
   rw [cond_false];rcases hrec d1 (m+1) b lim vR with ⟨hn,hN⟩ | ⟨d2,e2,g2⟩
   ·rw [hn]; exact .inl ⟨rfl,by omega⟩
   ·rw [e2];simp only [Option.bind_some];have low:∀ k,k<=m->gN d2 k=gN d1 k:=fun k hk=>g2.1.out k (by omega);refine .inr (.inr ⟨d2,a,m,lim,_,_,rfl,by omega,⟨m1,by rw [g2.1.len]; have:=hv1.bl; omega,by rw [g2.1.len]; exact hv1.len,?_,hv.lim⟩,fun d3 hg=>⟨(r.trans (g2.1.mono (by omega) (Nat.le_refl _))).trans (hg.1.mono (Nat.le_refl _) (by omega)),?_⟩⟩)
    ·rcases hv1.bnd with h | h
     ·exact .inl h
     ·exact .inr fun k k1 k2=>by rw [low (a-1) (by omega),low k (by omega)]; exact h k k1 (by omega)
    ·have o3:∀ k,m<=k->gN d3 k=gN d2 k:=fun k hk=>hg.1.out k (by omega);refine ZC m2 (fun k k1 k2=>?_) (fun k k1 k2=>?_) hg.2 (fun x y x1 x2 x3=>by rw [o3 x (by omega),o3 y (by omega)]; exact g2.2 x y x1 x2 x3)
     ·rw [o3 m (Nat.le_refl _),low m (Nat.le_refl _)];exact hg.1.all (p:=fun v=>v<=gN d1 m) (fun k k1 k2=>by rw [low k (by omega)]; exact q1 k k1 k2) k k1 k2
     ·rw [o3 m (Nat.le_refl _),low m (Nat.le_refl _),o3 k (by omega)];exact g2.1.all (p:=fun v=>gN d1 m<=v) (fun k k1 k2=>q2 k (by omega) k2) k (by omega) k2
 unfold iR;by_cases ha:0<a
 ·have hd:decide ((0:Int)<(a:Int))=true:=by simp; omega
  rw [hd,wrN (x:=(a:Int)-1) (n:=a-1) (by omega) (by omega),aQ fun _=>asN (by omega),aQ fun _=>asN (by omega)];simp only [cX,cond_true,uF,Option.bind_some,Bool.true_and,Int.toNat_natCast];by_cases hlt:gN d (a-1)<gN d p
  ·simp only [gN] at hlt;simp only [hlt,decide_true,Bool.not_true,cond_false];exact ptc
  ·have:=eqc ha hlt;simp only [gN] at hlt;simp only [hlt,decide_false,Bool.not_false,cond_true];exact this
 ·have hd:decide ((0:Int)<(a:Int))=false:=by simp; omega
  rw [hd,aQ (fun h=>by cases h),aQ (fun h=>by cases h)];simp only [cX,cond_false,Option.bind_some,Bool.false_and];exact ptc

theorem aDN {rec:PR}{N a b lim p:Nat}{d:List Int}(hrec:MG rec N)(hv:BS a b lim d)(h12:12<b-a)(hp:a<=p/\p<b)(wb wp:Bool)(len hint:Int) :
  IX N a b d (iQ rec d (a:Int) (b:Int) (lim:Int) wb wp len (p:Int) hint):=by
 unfold iQ
 cases ((wb&&wp)&&(decide (hint=(1:Int)))) with
 | false=>exact aDI hrec hv h12 hp wb wp len
 | true =>
  rw [cond_true];obtain⟨fl,d',e,r,s⟩:=aEk (lo:=a) (hi:=b) (d:=d) (by omega) hv.bl hv.len hv.bnd;rw [e];simp only [Option.bind_some]
  cases fl with
  | true=>exact .inr (.inl ⟨d',rfl,r,s rfl⟩)
  | false=>exact (aDI hrec (hv.rel r) h12 hp wb wp len).pre r

theorem aDZ {rec:PR}{N a b lim:Nat}{d:List Int}(hrec:MG rec N)(hv:BS a b lim d)(h12:12<b-a)(wb wp:Bool)(len:Int) :
  IX N a b d (iS rec d (a:Int) (b:Int) (lim:Int) wb wp len):=by
 have hb:=hv.bl; have hl:=hv.len;unfold iS;obtain⟨p,h,e,p1,p2⟩:=aBJ (lo:=a) (hi:=b) (d:=d) h12 hb hl;rw [e];simp only [Option.bind_some];by_cases h2:h=2
 ·simp only [h2,decide_true,cond_true];obtain⟨d',e2,r⟩:=aC8 (lo:=a) (hi:=b) (d:=d) (by omega) hb (by omega);rw [e2];simp only [Option.bind_some];rw [wrN (x:=(b:Int)-1) (n:=b-1) (by omega) (by omega),wrN (x:=(p:Int)-(a:Int)) (n:=p-a) (by omega) (by omega),wrN (x:=((b-1:Nat):Int)-((p-a:Nat):Int)) (n:=b-1-(p-a)) (by omega) (by omega)];exact (aDN hrec (hv.rel r) h12 ⟨by omega,by omega⟩ wb wp len 1).pre r
 ·simp only [h2,decide_false,cond_false];exact aDN hrec hv h12 ⟨p1,p2⟩ wb wp len h

theorem aGg {rec:PR}{N a b lim:Nat}{d:List Int}(hrec:MG rec N)(hv:BS a b lim d)(wb wp:Bool) :
  IX N a b d (eV rec d (a:Int) (b:Int) (lim:Int) wb wp):=by
 have hb:=hv.bl; have hl:=hv.len; have hab:=hv.ab;unfold eV;rw [wrN (x:=(b:Int)-(a:Int)) (n:=b-a) (by omega) (by omega)];by_cases h12:((b-a:Nat):Int)<=12
 ·simp only [h12,decide_true,cond_true];obtain⟨d',e,r,s⟩:=aEx (lo:=a) (hi:=b) (d:=d) hb (by omega) hab;rw [e];exact .inr (.inl ⟨d',rfl,r,s⟩)
 ·simp only [h12,decide_false,cond_false];by_cases h0:lim=0
  ·have : decide ((lim:Int)=0)=true:=by simp; exact h0
   rw [this,cond_true];obtain⟨d',e,r,s⟩:=aCY (lo:=a) (hi:=b) (d:=d) (by omega) hb hl;rw [e];exact .inr (.inl ⟨d',rfl,r,s⟩)
  ·have : decide ((lim:Int)=0)=false:=by simp; exact h0
   rw [this,cond_false]
   cases wb with
   | true=>exact aDZ hrec hv (by omega) true wp _
   | false =>
    simp only [Bool.not_false,cond_true];obtain⟨d',e,r⟩:=aCP (lo:=a) (hi:=b) (d:=d) (by omega) hb hl;rw [e];simp only [Option.bind_some];have hlim:=hv.lim;rw [wrN (x:=(lim:Int)-1) (n:=lim-1) (by omega) (by omega)];have hv':=hv.rel r;exact (aDZ hrec ⟨hv'.ab,hv'.bl,hv'.len,hv'.bnd,by omega⟩ (by omega) false wp _).pre r

theorem aFG {S R:Type}{body:S->Option (S⊕R)}{s:S}(h:body s=none):lp body s=none:=by
 cases e:lp body s with
 | none=>rfl
 | some r =>
  obtain⟨k,hk⟩:=ML.1 e
  cases k with
  | zero=>simp [iter] at hk
  | succ k=>simp [iter,h] at hk

theorem aGr {rec:PR}{N:Nat}(hrec:MG rec N):∀ (n a b lim:Nat) (d:List Int) (wb wp:Bool),b-a=n->BS a b lim d ->
  (lp (fun s:PS=>eV rec s.1 s.2.1 s.2.2.1 s.2.2.2.1 s.2.2.2.2.1 s.2.2.2.2.2) (d,(a:Int),(b:Int),(lim:Int),wb,wp)=none/\N+1<=b-a) ∨
  ∃ d',lp (fun s:PS=>eV rec s.1 s.2.1 s.2.2.1 s.2.2.2.1 s.2.2.2.2.1 s.2.2.2.2.2) (d,(a:Int),(b:Int),(lim:Int),wb,wp)=some d'/\CC a b d d':=by
 intro n
 induction n using Nat.strongRecOn with
 | ind n ih =>
  intro a b lim d wb wp hn hv;rcases aGg hrec hv wb wp with ⟨h1,h2⟩ | ⟨d',h1,h2⟩ | ⟨d',a',b',lim',wb',wp',h1,h2,h3,h4⟩
  ·exact .inl ⟨aFG h1,h2⟩
  ·exact .inr ⟨d',dF h1,h2⟩
  ·rw [fT (show (fun s:PS=>eV rec s.1 s.2.1 s.2.2.1 s.2.2.2.1 s.2.2.2.2.1 s.2.2.2.2.2) (d,(a:Int),(b:Int),(lim:Int),wb,wp)=_ from h1)];rcases ih (b'-a') (by omega) a' b' lim' d' wb' wp' rfl h3 with ⟨g1,g2⟩ | ⟨d2,g1,g2⟩
   ·exact .inl ⟨g1,by omega⟩
   ·exact .inr ⟨d2,g1,h4 d2 g2⟩

theorem YM:∀ k:Nat,MG (dS k) k
 | 0=>fun _ _ _ _ _=>.inl ⟨rfl,Nat.zero_le _⟩
 | k+1=>fun d a b lim hv=>by
  show (gU (dS k) d a b lim=none/\_) ∨ ∃ d',gU (dS k) d a b lim=some d'/\_;unfold gU mC;rcases aGr (YM k) (b-a) a b lim d true true rfl hv with ⟨h1,h2⟩ | ⟨d',h1,h2⟩
  ·rw [h1]; exact .inl ⟨rfl,h2⟩
  ·rw [h1]; exact .inr ⟨d',rfl,h2⟩

theorem aGd {a b lim:Nat}{d:List Int}(hv:BS a b lim d):∃ d',kK d (a:Int) (b:Int) (lim:Int)=some d'/\CC a b d d':=by
 unfold kK
 obtain⟨d',e,g⟩:∃ d',dS (b-a+1) d (a:Int) (b:Int) (lim:Int)=some d'/\CC a b d d':=by
  rcases YM (b-a+1) d a b lim hv with ⟨_,h⟩ | h
  ·omega
  ·exact h
 cases hf:ZQ (fun k=>dS k d (a:Int) (b:Int) (lim:Int)) with
 | none =>
  exfalso
  unfold ZQ at hf;have hex:∃ k r,dS k d (a:Int) (b:Int) (lim:Int)=some r:=⟨_,d',e⟩;rw [dif_pos hex] at hf;obtain⟨r,hr⟩:=Classical.choose_spec hex;have hf':dS (Classical.choose hex) d (a:Int) (b:Int) (lim:Int)=none:=hf;rw [hr] at hf'
  cases hf'
 | some r =>
  obtain⟨k,hk⟩:=TU hf;rcases YM k d a b lim hv with ⟨h,_⟩ | ⟨d2,h,g2⟩
  ·rw [h] at hk; cases hk
  ·rw [h] at hk; cases hk; exact ⟨_,rfl,g2⟩

theorem aBu {d:List Int}(hl:d.length<2305843009213693951):∃ d',gR d=some d'/\d'.Perm d/\d'.Pairwise (· <= ·):=by
 unfold gR
 have hL:∃ L:Nat,lM (IntKind.u64.wrap ((List.length d:Nat):Int))=some (L:Int)/\L<=100:=by
  rw [KV (by omega) (by omega)];by_cases h0:d.length=0
  ·rw [h0]; exact ⟨0,aD7,by omega⟩
  ·obtain⟨k,e,h1,_⟩:=aDi (x:=((List.length d:Nat):Int)) (by omega) (by omega);exact⟨k+1,by rw [e]; rfl,by omega⟩
 obtain⟨L,eL,hL⟩:=hL;rw [eL];simp only [Option.bind_some];obtain⟨d',e,g⟩:=aGd (a:=0) (b:=d.length) (lim:=L) (d:=d) ⟨Nat.zero_le _,Nat.le_refl _,hl,.inl rfl,hL⟩;have e':kK d 0 ((List.length d:Nat):Int) (L:Int)=some d':=e;rw [e'];refine⟨d',rfl,g.1.perm,List.pairwise_iff_getElem.2 fun i j hi hj hij=>?_⟩;have:=g.2 i j (Nat.zero_le _) (by omega) (by rw [g.1.len] at hj; exact hj);simp only [gN,List.getD_eq_getElem?_getD,List.getElem?_eq_getElem hi,List.getElem?_eq_getElem hj] at this;exact this

theorem aA5 {d s:List Int}(hl:d.length<2305843009213693951)(hp:s.Perm d)(hs:s.Pairwise (· <= ·)):gR d=some s:=by
 obtain⟨d',e,p,q⟩:=aBu hl;rw [e]
 congr 1
 exact (p.trans hp.symm).eq_of_pairwise (le:=(· <= ·)) (fun a b _ _ h1 h2=>Int.le_antisymm h1 h2) q hs

end Go.Abs
namespace Go.Abs
open Go
def lG (frm:Int)(l:List aF)(c:List Int):List Int:=l.foldl (fun c e=>if frm<e.At then jP e.At c else c) c

def zB (frm:Int)(l:List aF)(m:List (Int×Int)):List (Int×Int):=l.foldl (fun m e=>if frm<e.At then fB m e.At 1 else m) m

def mY (l:List aF)(frm:Int):List Int×Int :=
 if !eO l then ([],2) else if !mJ l then ([],20) else if frm<0∨1125899906842624<frm then ([],13) else if frm=1125899906842624 then ([],0) else (lG frm l [frm],0)

theorem JK {k v:Int}:∀ {m:List (Int×Int)},k∈m.map (·.1)->(fB m k v).map (·.1)=m.map (·.1)
 | [],h=>by simp at h
 | p::m,h=>by
  by_cases hp:p.1=k
  ·simp [fB,hp]
  ·simp only [List.map_cons,List.mem_cons] at h;rcases h with h | h
   ·exact absurd h.symm hp
   ·simp only [fB,hp,if_false,List.map_cons,JK h]

theorem VZ {k v:Int}{m:List (Int×Int)}(h:k ∉ m.map (·.1)):(fB m k v).map (·.1)=m.map (·.1)++[k]:=by
 rw [IE fun p hp e=>h (List.mem_map.2 ⟨p,hp,e⟩)]; simp

theorem IN {t:Int}:∀ {ps:List Int},t ∉ ps->(jP t ps).Perm (t::ps)
 | [],_=>List.Perm.refl _
 | p::r,h=>by
  simp only [List.mem_cons,not_or] at h;unfold jP;rw [if_neg (fun e=>h.1 e.symm)];split
  ·exact List.Perm.refl _
  ·exact (List.Perm.cons p (IN h.2)).trans (List.Perm.swap ..)

theorem FX {frm:Int}:∀ {l:List aF} {c:List Int} {m:List (Int×Int)},(∀ e∈l,e.At<1125899906842624)->Inc (frm-1) c->(m.map (·.1)).Perm c ->
  ((zB frm l m).map (·.1)).Perm (lG frm l c)/\Inc (frm-1) (lG frm l c)
 | [],_,_,_,hi,hp=>⟨hp,hi⟩
 | e::l,c,m,he,hi,hp=>by
  have hl:∀ e∈l,e.At<1125899906842624:=fun q hq=>he q (List.mem_cons_of_mem _ hq);by_cases h:frm<e.At
  ·have e1:zB frm (e::l) m=zB frm l (fB m e.At 1):=by simp [zB,h]
   have e2:lG frm (e::l) c=lG frm l (jP e.At c):=by simp [lG,h]
   rw [e1,e2];refine FX hl (CQ hi (by omega) (he e (by simp))) ?_;by_cases hm:e.At∈m.map (·.1)
   ·rw [JK hm,JB hi (hp.mem_iff.1 hm)]; exact hp
   ·rw [VZ hm];exact ((List.perm_append_comm).trans (List.Perm.cons _ hp)).trans (IN fun hc=>hm (hp.mem_iff.2 hc)).symm
  ·have e1:zB frm (e::l) m=zB frm l m:=by simp [zB,h]
   have e2:lG frm (e::l) c=lG frm l c:=by simp [lG,h]
   rw [e1,e2];exact FX hl hi hp

theorem GJ {frm:Int}:∀ {l:List aF} {c:List Int},(lG frm l c).length<=c.length+l.length
 | [],c=>by simp [lG]
 | e::l,c=>by
  by_cases h:frm<e.At
  ·have e2:lG frm (e::l) c=lG frm l (jP e.At c):=by simp [lG,h]
   rw [e2];have h1:=GJ (frm:=frm) (l:=l) (c:=jP e.At c);have h2:=LY (t:=e.At) (ps:=c);simp only [List.length_cons]; omega
  ·have e2:lG frm (e::l) c=lG frm l c:=by simp [lG,h]
   rw [e2];have h1:=GJ (frm:=frm) (l:=l) (c:=c);simp only [List.length_cons]; omega

theorem FY {frm x:Int}:∀ {l:List aF} {c:List Int},x∈lG frm l c↔x∈c ∨ ∃ e∈l,e.At=x/\frm<x
 | [],c=>by simp [lG]
 | e::l,c=>by
  by_cases h:frm<e.At
  ·have e2:lG frm (e::l) c=lG frm l (jP e.At c):=by simp [lG,h]
   rw [e2,FY,GI];constructor
   ·rintro ((h1 | h1) | ⟨q,h1,h2⟩)
    ·exact .inr ⟨e,by simp,h1.symm,by omega⟩
    ·exact .inl h1
    ·exact .inr ⟨q,by simp [h1],h2⟩
   ·rintro (h1 | ⟨q,h1,h2,h3⟩)
    ·exact .inl (.inr h1)
    ·rcases List.mem_cons.1 h1 with rfl | h1
     ·exact .inl (.inl h2.symm)
     ·exact .inr ⟨q,h1,h2,h3⟩
  ·have e2:lG frm (e::l) c=lG frm l c:=by simp [lG,h]
   rw [e2,FY];constructor
   ·rintro (h1 | ⟨q,h1,h2⟩)
    ·exact .inl h1
    ·exact .inr ⟨q,by simp [h1],h2⟩
   ·rintro (h1 | ⟨q,h1,h2,h3⟩)
    ·exact .inl h1
    ·rcases List.mem_cons.1 h1 with rfl | h1
     ·exact absurd (h2 ▸ h3) h
     ·exact .inr ⟨q,h1,h2,h3⟩

theorem zK:∀ {ps:List Int} {last:Int},Inc last ps->ps.Pairwise (· < ·)
 | [],_,_=>List.Pairwise.nil
 | p::r,last,h=>List.Pairwise.cons (fun x hx=>(h.2.above x hx).1) (zK h.2)

theorem TI {ps:List Int}{last:Int}(h:Inc last ps):ps.Pairwise (· <= ·):=(zK h).imp fun h=>by omega

theorem aAu {frm:Int}{l:List aF}(hl:l.length<=1000000)(m:List (Int×Int)):lp (fun s:List (Int×Int)×Int=>pJ frm l ((l.length:Nat):Int) s.1 s.2) (m,0)=some (zB frm l m):=by
 refine vV (l:=l) (body:=fun s:List (Int×Int)×Int=>pJ frm l ((l.length:Nat):Int) s.1 s.2) (fun (s:List (Int×Int)) i=>(s,i)) (fun s r=>zB frm r s) (fun _ _=>True) m ?_ ?_ trivial
 ·intro i a r s ha _;left;obtain⟨d1,d2,d3,d4⟩:=idx ha (by omega);by_cases h:frm<a.At
  ·refine⟨fB s a.At 1,?_,trivial,by simp [zB,h]⟩;simp only [pJ,tH,d1,cond_true,aQ d2,d3,d4,h,decide_true]
  ·refine⟨s,?_,trivial,by simp [zB,h]⟩;simp only [pJ,tH,d1,cond_true,aQ d2,d3,d4,h,decide_false,cond_false]
 ·intro s _;simp only [pJ,jS,cond_false]; rfl

theorem TX {m:List (Int×Int)}:∀ {q:List (Int×Int)} {out:List Int},out.length+q.length<=1000000->dR (fun (s:List Int) (x:Int×Int)=>tN m s x.1 x.2) out q=some (out++q.map (·.1))
 | [],out,_=>by simp [dR]
 | x::q,out,h=>by
  simp only [List.length_cons] at h
  have e1:tN m out x.1 x.2=some (out++[x.1]):=by
   unfold tN;rw [aQ (by simp only [List.length_cons,List.length_nil]; omega)]
  simp only [dR,e1,Option.bind_some];rw [TX (by simp only [List.length_append,List.length_cons,List.length_nil]; omega)];simp

theorem aAl {l:List aF}(hl:okL l)(frm:Int):yO l frm=some (mY l frm):=by
 unfold yO mY;rw [DU hl,Option.bind_some]
 cases hm:eO l with
 | false=>simp
 | true =>
  simp only [Bool.not_true,cond_false,Bool.false_eq_true,if_false,FQ hl,Option.bind_some]
  cases ht:mJ l with
  | false=>simp
  | true =>
   simp only [Bool.not_true,cond_false,Bool.false_eq_true,if_false];by_cases h1:frm<0∨1125899906842624<frm
   ·have : (decide (frm<0)||decide (1125899906842624<frm))=true:=by simpa using h1
    rw [this,cond_true,if_pos h1]
   ·have : (decide (frm<0)||decide (1125899906842624<frm))=false:=by simpa using h1
    rw [this,cond_false,if_neg h1];by_cases h2:frm=1125899906842624
    ·simp [h2]
    ·rw [decide_eq_false h2,cond_false,if_neg h2];have hn:=(jQ hm).1;have hat:∀ e∈l,e.At<1125899906842624:=fun e he=>(xU hm he).2.2.1;obtain⟨p1,p2⟩:=FX (frm:=frm) (l:=l) (c:=[frm]) (m:=[(frm,1)]) hat ⟨⟨by omega,by omega⟩,trivial⟩ (List.Perm.refl _);have hcl:=GJ (frm:=frm) (l:=l) (c:=[frm]);have hsl:(zB frm l [(frm,1)]).length=(lG frm l [frm]).length:=by have:=p1.length_eq; simpa using this
     simp only [List.length_cons,List.length_nil] at hcl;have e0:fB ([]:List (Int×Int)) frm 1=[(frm,1)]:=rfl;rw [e0];unfold AV;rw [aAu (by omega),Option.bind_some];unfold xB;rw [aQ (by omega)];unfold AF;refine MD fun q hq=>?_;rw [TX (by have:=hq.length_eq; simp only [List.length_nil]; omega),Option.bind_some,List.nil_append];unfold AJ AX;have hp:(lG frm l [frm]).Perm (q.map (·.1)):=((hq.map (·.1)).trans p1).symm;rw [aA5 (s:=lG frm l [frm]) (by have:=hp.length_eq; omega) hp (TI p2)];rfl

theorem FF {l:List aF}{frm:Int}(h:(mY l frm).2=0):eO l=true/\mJ l=true/\0<=frm/\((frm=1125899906842624/\(mY l frm).1=[])∨(frm<1125899906842624/\(mY l frm).1=lG frm l [frm])):=by
 unfold mY at h ⊢
 cases hm:eO l with
 | false=>simp [hm] at h
 | true =>
  cases ht:mJ l with
  | false=>simp [hm,ht] at h
  | true =>
   by_cases h1:frm<0∨1125899906842624<frm
   ·simp [hm,ht,h1] at h
   ·by_cases h2:frm=1125899906842624
    ·subst h2; simp
    ·simp only [hm,ht,h1,h2,Bool.not_true,Bool.false_eq_true,if_false,true_and,false_and,false_or,and_true];omega

theorem aCX {l:List aF}{frm:Int}(h:(mY l frm).2≠0):(mY l frm).1=[]:=by
 unfold mY at h ⊢;split
 ·rfl
 ·split
  ·rfl
  ·split
   ·rfl
   ·split
    ·rfl
    ·rename_i h1 h2 h3 h4; simp [h1,h2,h3,h4] at h

theorem GF {l:List aF}{frm:Int}:Inc (frm-1) (mY l frm).1/\(mY l frm).1.length<=4097:=by
 by_cases h:(mY l frm).2=0
 ·obtain⟨hm,_,_,⟨_,h2⟩ | ⟨h1,h2⟩⟩:=FF h
  ·rw [h2]; exact ⟨trivial,by simp⟩
  ·rw [h2];refine⟨(FX (frm:=frm) (l:=l) (c:=[frm]) (m:=[(frm,1)]) (fun e he=>(xU hm he).2.2.1) ⟨⟨by omega,h1⟩,trivial⟩ (List.Perm.refl _)).2,?_⟩;have h4:=(jQ hm).1;have h3:=GJ (frm:=frm) (l:=l) (c:=[frm]);simp only [List.length_cons,List.length_nil] at h3;omega
 ·rw [aCX h]; exact ⟨trivial,by simp⟩

end Go.Abs
namespace Go.Abs
open Go
def nE (t:Int)(gs:List (List aI×List aB)):List bC:=gs.filterMap fun g=>if 0<val g.2 t then some ⟨g.1,val g.2 t⟩ else none

def mK (al:Int->List bC):List Int->List aK
 | []=>[]
 | t::cs=>(if al t=[] then [] else [⟨⟨t,cs.headD 1125899906842624⟩,al t⟩])++mK al cs

def aB4 (x:List aK):List aK×Int:=if 1024<x.length then ([],7) else (x,0)

def rL (l:List aF)(frm:Int):List aK×Int:=if (mY l frm).2≠0 then ([],(mY l frm).2) else aB4 (mK (fun t=>nE t (groups l)) (mY l frm).1)

theorem aAw (t:Int)(g:List aI×List aB)(gs:List (List aI×List aB)):nE t (g::gs)=(if 0<val g.2 t then [⟨g.1,val g.2 t⟩] else [])++nE t gs:=by
 unfold nE;rw [List.filterMap_cons];by_cases h:0<val g.2 t <;> simp [h]

theorem aCl (t:Int)(gs:List (List aI×List aB)):(nE t gs).length<=gs.length:=List.length_filterMap_le ..

theorem GM {r:List aI}(h:r.length<=4398046510976):gC r=some r:=by
 unfold gC;rw [aQ (by omega)]

theorem WZ {gs:List (List aI×List aB)}(hg:∀ g∈gs,eU g.2=true/\g.1.length<=4398046510976)(hn:gs.length<=1000000)(t:Int):tC t (gs.map fun g=>⟨g.1,g.2⟩)=some (nE t gs):=by
 unfold tC wF;rw [List.length_map]
 have key:=vV (l:=gs) (body:=fun s:List bC×Int=>nQ t (gs.map fun g=>⟨g.1,g.2⟩) ((gs.length:Nat):Int) s.1 s.2) (fun (s:List bC) i=>(s,i)) (fun s r=>s++nE t r)
  (fun s r=>s.length+r.length<=1000000 /\ ∀ g∈r,eU g.2=true/\g.1.length<=4398046510976) [] ?_ ?_ ⟨by simpa using hn,hg⟩
 ·rw [key]; rfl
 ·rintro i a r s ha ⟨hs,hr⟩;left;simp only [List.length_cons] at hs;have ha':(gs.map fun g=>(⟨g.1,g.2⟩:cC))[i]?=some ⟨a.1,a.2⟩:=by rw [List.getElem?_map,ha]; rfl
  obtain⟨d1,d2,d3,d4⟩:=idx ha' (by rw [List.length_map]; omega);rw [List.length_map] at d1;obtain⟨m1,m2⟩:=hr a (by simp);have hr':∀ g∈r,eU g.2=true/\g.1.length<=4398046510976:=fun g hg=>hr g (by simp [hg]);rw [aAw];by_cases h:0<val a.2 t
  ·refine⟨s++[⟨a.1,val a.2 t⟩],?_,⟨by simp only [List.length_append,List.length_cons,List.length_nil]; omega,hr'⟩,by simp [h]⟩;simp only [nQ,pO,d1,cond_true,aQ d2,d3,d4,aCk,m1,if_true,Option.bind_some,h,decide_true,GM m2];rw [aQ (by simp only [List.length_cons,List.length_nil]; omega)]
  ·refine⟨s,?_,⟨by omega,hr'⟩,by simp [h]⟩;simp only [nQ,pO,d1,cond_true,aQ d2,d3,d4,aCk,m1,if_true,Option.bind_some,h,decide_false,cond_false]
 ·rintro s _;simp only [nQ,jS,cond_false];simp [nE]

theorem RX (al:Int->List bC):∀ cs:List Int,(mK al cs).length<=cs.length
 | []=>by simp [mK]
 | t::cs=>by
  unfold mK;have:=RX al cs;split <;> simp <;> omega

theorem aD4 {cs r:List Int}{t:Int}{i:Nat}(hd:cs.drop i=t::r)(d:Int):(cs[i+1]?).getD d=r.headD d:=by
 have:=(drop_cons hd).2;rw [←List.head?_drop,this]
 cases r <;> rfl

theorem YN {cuts:List Int}{gs:List (List aI×List aB)}(hc:cuts.length<=1000000)(hg:∀ g∈gs,eU g.2=true/\g.1.length<=4398046510976)(hn:gs.length<=1000000) :
  lp (fun s:List aK×Int=>oG cuts (gs.map fun g=>⟨g.1,g.2⟩) cuts ((cuts.length:Nat):Int) s.1 s.2) ([],0)=some (if 1024<(mK (fun t=>nE t gs) cuts).length then .inr ([],7) else .inl (mK (fun t=>nE t gs) cuts)):=by
 let al:=fun t=>nE t gs
 have key:∀ (r:List Int) (k:Nat) (s:List aK),cuts.drop k=r->k<=cuts.length->s.length<=1024 ->
   lp (fun s:List aK×Int=>oG cuts (gs.map fun g=>⟨g.1,g.2⟩) cuts ((cuts.length:Nat):Int) s.1 s.2) (s,(k:Int))=some (if 1024<(s++mK al r).length then .inr ([],7) else .inl (s++mK al r)):=by
  intro r
  induction r with
  | nil =>
   intro k s hd hk hs
   have : k=cuts.length:=by
    have:=congrArg List.length hd;simp only [List.length_drop,List.length_nil] at this; omega
   subst this;refine dF ?_;simp only [oG,jS,cond_false,mK,List.append_nil];rw [if_neg (by omega)]
  | cons t r ih =>
   intro k s hd hk hs;obtain⟨h1,h2⟩:=drop_cons hd;obtain⟨d1,d2,d3,d4⟩:=idx h1 (by omega);have hlt:k<cuts.length:=(List.getElem?_eq_some_iff.1 h1).1
   have hb:oG cuts (gs.map fun g=>⟨g.1,g.2⟩) cuts ((cuts.length:Nat):Int) s (k:Int) =
     some (if al t=[] then .inl (s,((k+1:Nat):Int)) else if s.length=1024 then .inr (.inr ([],7)) else .inl (s++[⟨⟨t,r.headD 1125899906842624⟩,al t⟩],((k+1:Nat):Int))):=by
    simp only [oG,vE,vT,d1,cond_true,aQ d2,d3,d4,WZ hg hn,Option.bind_some];by_cases ha:nE t gs=[]
    ·simp [al,ha]
    ·have ha1:decide (((nE t gs).length:Int)=0)=false:=by
      rw [decide_eq_false_iff_not]; intro e;exact ha (List.length_eq_zero_iff.1 (by omega))
     rw [ha1,cond_false,if_neg (show ¬ al t=[] from ha)];by_cases hs1:s.length=1024
     ·rw [if_pos hs1,decide_eq_true (by omega),cond_true]
     ·rw [if_neg hs1,decide_eq_false (by omega),cond_false];have hh:=aD4 hd 1125899906842624;by_cases hk1:k+1<cuts.length
      ·rw [decide_eq_true (by omega),cond_true,aQ (by omega),aQ (by simp only [List.length_cons,List.length_nil]; omega)]
       have : List.getD cuts (Int.toNat ((k+1:Nat):Int)) default=r.headD 1125899906842624:=by
        rw [←hh,Int.toNat_natCast,List.getD_eq_getElem?_getD,List.getElem?_eq_getElem hk1]; rfl
       rw [this]
      ·rw [decide_eq_false (by omega),cond_false,aQ (by simp only [List.length_cons,List.length_nil]; omega)]
       have : r.headD 1125899906842624=1125899906842624:=by
        rw [←hh,List.getElem?_eq_none (by omega)]; rfl
       rw [this]
   by_cases ha:al t=[]
   ·rw [if_pos ha] at hb;rw [fT hb,ih (k+1) s h2 (by omega) hs];simp [mK,ha]
   ·rw [if_neg ha] at hb;by_cases hs1:s.length=1024
    ·rw [if_pos hs1] at hb;rw [dF hb,if_pos];simp [mK,ha]; omega
    ·rw [if_neg hs1] at hb;rw [fT hb,ih (k+1) _ h2 (by omega) (by simp only [List.length_append,List.length_cons,List.length_nil]; omega)];simp [mK,ha]
 exact key cuts 0 [] rfl (by omega) (by simp)

theorem RS (c0:List Int)(c:List aF):∀ (gs:List (List aI×List aB)) (out:List cC),out.length+gs.length<=1000000 ->
  itG (fun st t29 t30=>rnd (fun (s:List cC)=>oD c0 c s t29 t30) st) gs (.inl out:List cC⊕List cC)=some (.inl (out++gs.map fun g=>⟨g.1,g.2⟩))
 | [],out,_=>by simp [itG]
 | g::gs,out,h=>by
  simp only [List.length_cons] at h
  have e1:oD c0 c out g.1 g.2=some (.inl (out++[⟨g.1,g.2⟩])):=by
   unfold oD;rw [aQ (by simp only [List.length_cons,List.length_nil]; omega)]
  have e2:rnd (fun (s:List cC)=>oD c0 c s g.1 g.2) (.inl out:List cC⊕List cC)=some (.inl (out++[⟨g.1,g.2⟩]),true):=by
   simp only [rnd,e1,Option.bind_some]; rfl
  unfold itG;rw [e2];simp only [Option.bind_some,if_true];rw [RS c0 c gs _ (by simp only [List.length_append,List.length_cons,List.length_nil]; omega)];simp

theorem DQ {l:List aF}(hl:okL l)(hm:eO l=true):(∀ g∈groups l,eU g.2=true/\g.1.length<=4398046510976)/\(groups l).length<=4096:=by
 obtain⟨h1,h2,_⟩:=jQ hm;exact⟨fun g hg=>⟨(h2 g hg).2,GD hl hg⟩,by have:=QS l; omega⟩

theorem WY {l:List aF}(hl:okL l)(frm:Int):xF l frm=some (rL l frm):=by
 unfold xF rL;rw [aAl hl,Option.bind_some];by_cases h:(mY l frm).2=0
 ·rw [if_neg (by simpa using h),decide_eq_true h,Bool.not_true,cond_false];have hm:=(FF h).1;obtain⟨g1,g2⟩:=DQ hl hm;have hc:=(GF (l:=l) (frm:=frm)).2;unfold sB;rw [Option.bind_some];unfold zH;rw [RK hl (s':=.inl ([]++(groups l).map fun g=>(⟨g.1,g.2⟩:cC))) (by rw [hm,if_pos rfl]; exact RS _ _ _ _ (by simp; omega)),Option.bind_some,Sum.elim_inl,List.nil_append];unfold vP;rw [YN (by omega) g1 (by omega)];unfold aB4;split <;> rfl
 ·rw [if_pos h,decide_eq_false h]; rfl

end Go.Abs
namespace Go.Abs
open Go
def iN (hop n:Int):Int:=if n<0 then 0 else (n / hop+1)*hop

def zM (size hop:Int):Bool:=(((decide ((1:Int)<=size))&&(decide (size<=(1099511627776:Int))))&&(decide ((1:Int)<=hop)))&&(decide (hop<=(1099511627776:Int)))

def pN (t:Int):Bool:=(decide ((0:Int)<=t))&&(decide (t<=(1125899906842624:Int)))

def MN (size hop t:Int):Int×Int :=
 if !zM size hop then (0,2) else if !pN t then (0,13) else if t=1125899906842624 then (1125899906842624,0) else (min (iN hop (t-size)) 1125899906842624,0)

theorem LC {size hop:Int}(h:zM size hop=true):1<=size/\size<=1099511627776/\1<=hop/\hop<=1099511627776:=by
 simp only [zM,Bool.and_eq_true,decide_eq_true_eq] at h; omega

theorem DH {t:Int}(h:pN t=true):0<=t/\t<=1125899906842624:=by
 simp only [pN,Bool.and_eq_true,decide_eq_true_eq] at h; omega

theorem aEv {n hop:Int}(h:0<=n):Int.tdiv n hop=n / hop:=Int.tdiv_eq_ediv_of_nonneg h

theorem LK {n hop:Int}(hh:1<=hop):n / hop*hop<=n/\n<(n / hop+1)*hop:=by
 have h1:=Int.mul_ediv_add_emod n hop;have h2:=Int.emod_nonneg n (show hop≠0 by omega);have h3:=Int.emod_lt_of_pos n (show 0<hop by omega);rw [Int.add_mul,Int.mul_comm (n / hop) hop];omega

theorem tF {hop n:Int}(hh:1<=hop):0<=iN hop n/\n<iN hop n/\(0<=n->iN hop n<=n+hop)/\(n<0->iN hop n=0) /\ ∃ k:Int,iN hop n=k*hop:=by
 unfold iN;split
 ·exact⟨Int.le_refl _,by omega,by omega,fun _=>rfl,0,by simp⟩
 ·rename_i h
  have:=LK (n:=n) hh;rw [Int.add_mul] at this ⊢;refine⟨by omega,by omega,by omega,by omega,n / hop+1,by rw [Int.add_mul]⟩

theorem LP {hop n:Int}(h1:1<=hop)(h2:hop<=1099511627776)(h3:n<=4503599627370496):rD hop n=some (iN hop n):=by
 unfold rD;by_cases hn:n<0
 ·simp [hn,iN]
 ·have hn0:0<=n:=by omega
  have hm:Int.tmod n hop=n % hop:=Int.tmod_eq_emod_of_nonneg hn0;have hr:¬ n % hop<0:=by have:=Int.emod_nonneg n (show hop≠0 by omega); omega
  have hd0:0<=n / hop:=Int.ediv_nonneg hn0 (by omega);have hd1:n / hop<=n:=Int.ediv_le_self _ hn0;have hf:=LK (n:=n) h1;have e1:wR (Int.tdiv n hop)=n / hop:=by rw [aEv hn0]; exact cZ (by omega) (by omega)
  have e2:IntKind.i64.wrap (n / hop+1)=n / hop+1:=cZ (by omega) (by omega);have e3:IntKind.i64.wrap ((n / hop+1)*hop)=(n / hop+1)*hop:=cZ (by omega) (by rw [Int.add_mul]; omega)
  have e0:yR n hop=some (n / hop,n % hop,0):=by
   unfold yR;have hb:decide (hop<1)=false:=by simp; omega
   rw [hb,cond_false,aQ (by omega),aQ (by omega),hm,decide_eq_false hr,cond_false];unfold xK;rw [show IntKind.i64.wrap (Int.tdiv n hop)=n / hop from e1]
  have hb:decide (n<(0:Int))=false:=decide_eq_false hn;rw [hb,cond_false,e0];simp only [Option.bind_some,e2,e3,iN,if_neg hn]

theorem aFY {size hop t:Int}:AP size hop t=some (MN size hop t):=by
 unfold AP MN;simp only [AB,uO,Option.bind_some];rw [show ((((decide ((1:Int)<=size))&&(decide (size<=(1099511627776:Int))))&&(decide ((1:Int)<=hop)))&&(decide (hop<=(1099511627776:Int))))=zM size hop from rfl,show ((decide ((0:Int)<=t))&&(decide (t<=(1125899906842624:Int))))=pN t from rfl]
 cases hm:zM size hop with
 | false=>rfl
 | true =>
  cases ht:pN t with
  | false=>rfl
  | true =>
   have hm':=LC hm; have ht':=DH ht;by_cases hf:t=1125899906842624
   ·simp [hf]
   ·have e1:IntKind.i64.wrap (t-size)=t-size:=cZ (by omega) (by omega);simp only [Bool.not_true,cond_false,decide_eq_false hf,Bool.false_eq_true,if_false,if_neg hf,e1];rw [LP hm'.2.2.1 hm'.2.2.2 (by omega)];simp only [Option.bind_some]
    have : (if (1125899906842624:Int)<iN hop (t-size) then (1125899906842624:Int) else iN hop (t-size))=min (iN hop (t-size)) 1125899906842624:=by
     rw [Int.min_def]; split <;> split <;> omega
    rw [this]

def aFj (hop:Int):Nat->Int->List Int
 | 0,_=>[]
 | n+1,t=>t::aFj hop n (t+hop)

def ER (hop t b:Int):List Int:=aFj hop ((b-t+hop-1) / hop).toNat t

theorem PA {hop t b:Int}(hh:1<=hop)(h:b<=t):ER hop t b=[]:=by
 unfold ER
 have : (b-t+hop-1) / hop<=0:=by
  have h1:b-t+hop-1<1*hop:=by omega
  have:=Int.ediv_lt_of_lt_mul (by omega) h1;omega
 rw [show ((b-t+hop-1) / hop).toNat=0 by omega]; rfl

theorem LA {hop t b:Int}(hh:1<=hop)(h:t<b):ER hop t b=t::ER hop (t+hop) b:=by
 unfold ER
 have h1:(b-t+hop-1) / hop=(b-(t+hop)+hop-1) / hop+1:=by
  rw [show b-t+hop-1=(b-(t+hop)+hop-1)+hop by omega,Int.add_ediv_of_dvd_right (Int.dvd_refl hop),Int.ediv_self (by omega)]
 have h2:0<=(b-(t+hop)+hop-1) / hop:=Int.ediv_nonneg (by omega) (by omega);rw [h1,show ((b-(t+hop)+hop-1) / hop+1).toNat=((b-(t+hop)+hop-1) / hop).toNat+1 by omega];rfl

theorem OT {hop b:Int}(hh:1<=hop){C:Int->Prop}(h0:∀ t,b<=t->C t)(h1:∀ t,t<b->C (t+hop)->C t)(t:Int):C t:=by
 generalize hn:(b-t).toNat=n
 induction n using Nat.strongRecOn generalizing t with
 | ind n ih =>
  by_cases h:t<b
  ·exact h1 t h (ih (b-(t+hop)).toNat (by omega) _ rfl)
  ·exact h0 t (by omega)

theorem XI {hop b x:Int}(hh:1<=hop):∀ t,x∈ER hop t b ↔ ∃ k:Nat,x=t+k*hop/\x<b:=by
 refine OT hh (b:=b) (fun t h=>?_) (fun t h ih=>?_)
 ·rw [PA hh h];simp only [List.not_mem_nil,false_iff,not_exists,not_and];intro k hk;have : 0<=(k:Int)*hop:=Int.mul_nonneg (by omega) (by omega);omega
 ·rw [LA hh h,List.mem_cons,ih];constructor
  ·rintro (rfl | ⟨k,rfl,hk⟩)
   ·exact⟨0,by simp,h⟩
   ·refine⟨k+1,?_,hk⟩;rw [Int.natCast_add,Int.add_mul]; omega
  ·rintro ⟨k,hk1,hk2⟩
   match k with
   | 0=>left; simpa using hk1
   | k+1 =>
    right;refine⟨k,?_,hk2⟩;rw [Int.natCast_add,Int.add_mul] at hk1; omega

theorem aDe {hop b:Int}(hh:1<=hop):∀ t,(ER hop t b).Pairwise (· < ·) /\ ∀ x∈ER hop t b,t<=x:=by
 refine OT hh (b:=b) (fun t h=>?_) (fun t h ih=>?_)
 ·rw [PA hh h]; simp
 ·rw [LA hh h];refine⟨List.pairwise_cons.2 ⟨fun x hx=>?_,ih.1⟩,fun x hx=>?_⟩
  ·have:=ih.2 x hx; omega
  ·rcases List.mem_cons.1 hx with rfl | hx
   ·exact Int.le_refl _
   ·have:=ih.2 x hx; omega

def zS {σ α:Type}(y:σ->α->Option (σ×Bool)):List α->σ->Option σ
 | [],s=>some s
 | a::r,s=>(y s a).bind fun x=>if x.2 then zS y r x.1 else some x.1

def vO (size hop frm:Int)(s:bJ):Int:=max (iN hop (s.From-size)) (iN hop (frm-1))

def xC (front:Int)(s:bJ):Int:=min (min s.To front) 1125899906842624

def tX (size hop frm front:Int)(s:bJ):List Int:=ER hop (vO size hop frm s) (xC front s)

structure OkH (size hop frm front:Int):Prop where
 s0:1<=size
 s1:size<=1099511627776
 h0:1<=hop
 h1:hop<=1099511627776
 f0:0<=frm
 f1:frm<=1125899906842624
 r0:0<=front
 r1:front<=1125899906842624

theorem YC {σ:Type}{y:σ->Int->Option (σ×Bool)}{hop front:Int}{sp:bJ}(hh:1<=hop)(hh1:hop<=1099511627776):∀ (t:Int) (s s':σ),0<=t->zS y (ER hop t (xC front sp)) s=some s'->qD y s hop sp front t=some s':=by
 have main:∀ (t:Int),∀ (s s':σ),0<=t->zS y (ER hop t (xC front sp)) s=some s' -> ∃ x,lp (fun s=>kB y hop sp front s.1 s.2) (s,t)=some x/\Sum.elim id id x=s':=by
  have hbe:(if (1125899906842624:Int)<(if front<sp.To then front else sp.To) then (1125899906842624:Int) else (if front<sp.To then front else sp.To))=xC front sp:=by
   unfold xC; simp only [Int.min_def]; split <;> split <;> split <;> split <;> omega
  refine OT hh (b:=xC front sp) (fun t h s s' ht hi=>?_) (fun t h ih s s' ht hi=>?_)
  ·rw [PA hh h] at hi;simp only [zS,Option.some.injEq] at hi;refine⟨.inl s,dF ?_,hi⟩;show kB _ _ _ _ _ _=_;simp only [kB,hbe];rw [decide_eq_false (by omega),cond_false]
  ·rw [LA hh h] at hi;simp only [zS] at hi;obtain⟨x,hx,hi⟩:=aW hi;have hb1:xC front sp<=1125899906842624:=Int.min_le_right _ _;have hw:IntKind.i64.wrap (t+hop)=t+hop:=cZ (by omega) (by omega)
   have hb:(fun s:σ×Int=>kB y hop sp front s.1 s.2) (s,t)=some (if x.2 then .inl (x.1,t+hop) else .inr (.inr x.1)):=by
    show kB _ _ _ _ _ _=_;simp only [kB,hbe];rw [decide_eq_true h,cond_true,hx];simp only [Option.bind_some,hw]
    cases x.2 <;> rfl
   cases hx2:x.2
   ·rw [hx2] at hb hi;simp only [Bool.false_eq_true,if_false,Option.some.injEq] at hb hi;exact⟨_,dF hb,hi⟩
   ·rw [hx2] at hb hi;simp only [if_true] at hb hi;obtain⟨z,hz1,hz2⟩:=ih x.1 s' (by omega) hi;exact⟨z,by rw [fT hb]; exact hz1,hz2⟩
 intro t s s' ht hi;obtain⟨x,h1,h2⟩:=main t s s' ht hi;unfold qD;rw [h1]
 cases x <;> simpa using h2

theorem aBF {σ:Type}{y:σ->Int->Option (σ×Bool)}{size hop frm front:Int}{sp:bJ}(ok:OkH size hop frm front)(h1 : -1<=sp.From)(h2:sp.From<=1125899906842624){s s':σ}(h:zS y (tX size hop frm front sp) s=some s') :
  rJ y hop sp size frm front s=some s':=by
 obtain⟨a1,a2,a3,a4,a5,a6,a7,a8⟩:=ok;unfold rJ;have w1:IntKind.i64.wrap (sp.From-size)=sp.From-size:=cZ (by omega) (by omega);have w2:IntKind.i64.wrap (frm-1)=frm-1:=cZ (by omega) (by omega);rw [w1,w2,LP a3 a4 (by omega),LP a3 a4 (by omega)];simp only [Option.bind_some]
 have e:(if iN hop (frm-1)>iN hop (sp.From-size) then iN hop (frm-1) else iN hop (sp.From-size))=vO size hop frm sp:=by
  unfold vO; rw [Int.max_def]; split <;> split <;> omega
 rw [e];refine YC a3 a4 _ _ _ ?_ h;have:=(tF (n:=sp.From-size) a3).1;unfold vO; omega

end Go.Abs
namespace Go.Abs
open Go
def okC (x:List bC):Prop:=x.length<=1000000 /\ ∀ c∈x,c.Row.length<=17592186044416

theorem VV {x:List bC}(h:okC x):pK x x=some true:=by
 unfold pK rO;rw [KN rfl,cond_false];have h1:=h.1;rw [aCB (l:=x) (body:=fun s=>mS x x s) (fun i=>i) (fun _=>false) (.inr false) (.inl ()) ?_ ?_]
 ·simp [oK]
 ·intro i a ha;obtain⟨d1,d2,d3,d4⟩:=idx ha (by omega);simp only [mS,d1,cond_true,aQ d2,d3,d4,decide_true,Bool.not_true,Bool.not_false,cX,JM a.Row a.Row (h.2 a (List.mem_of_getElem? ha)),Option.bind_some,Bool.false_or,cond_false];rw [aQ (fun _=>d2),aQ (fun _=>d2)];rfl
 ·simp only [mS,jS,cond_false]

theorem YR {x:List aK}(h1:x.length<=1000000)(h:∀ p∈x,okC p.Rows):wT x x=some true:=by
 unfold wT zC;rw [KN rfl,cond_false];rw [aCB (l:=x) (body:=fun s=>rX x x s) (fun i=>i) (fun _=>false) (.inr false) (.inl ()) ?_ ?_]
 ·simp [vD]
 ·intro i a ha;obtain⟨d1,d2,d3,d4⟩:=idx ha (by omega);simp only [rX,d1,cond_true,aQ d2,d3,d4,decide_true,Bool.and_self,Bool.not_true,Bool.not_false,cX,VV (h a (List.mem_of_getElem? ha)),Option.bind_some,Bool.false_or,cond_false];rw [aQ (fun _=>d2),aQ (fun _=>d2)];rfl
 ·simp only [rX,jS,cond_false]

theorem aBC {gs:List (List aI×List aB)}(hg:∀ g∈gs,eU g.2=true/\g.1.length<=4398046510976)(hn:gs.length<=1000000)(t:Int):okC (nE t gs):=by
 refine⟨by have:=aCl t gs; omega,fun c hc=>?_⟩;obtain⟨g,h1,h2⟩:=List.mem_filterMap.1 hc;split at h2
 ·simp only [Option.some.injEq] at h2; subst h2;have:=(hg g h1).2; simp only; omega
 ·cases h2

theorem QD {al:Int->List bC}{p:aK}:∀ {cs:List Int},p∈mK al cs -> ∃ t∈cs,p.Rows=al t/\p.Span.From=t
 | [],h=>by simp [mK] at h
 | t::cs,h=>by
  unfold mK at h;rcases List.mem_append.1 h with h | h
  ·split at h
   ·simp at h
   ·simp at h; subst h; exact ⟨t,by simp,rfl,rfl⟩
  ·obtain⟨t',h1,h2⟩:=QD h;exact⟨t',by simp [h1],h2⟩

theorem aCq {l:List aF}(hl:okL l)(frm:Int):(rL l frm).1.length<=4097 /\ ∀ p∈(rL l frm).1,okC p.Rows:=by
 unfold rL;by_cases h:(mY l frm).2=0
 ·rw [if_neg (by simpa using h)];obtain⟨g1,g2⟩:=DQ hl (FF h).1;unfold aB4;split
  ·simp
  ·refine⟨by show (mK (fun t=>nE t (groups l)) (mY l frm).1).length<=4097; have:=RX (fun t=>nE t (groups l)) (mY l frm).1; have:=(GF (l:=l) (frm:=frm)).2; omega,fun p hp=>?_⟩;obtain⟨t,_,h2,_⟩:=QD hp;rw [h2]; exact aBC g1 (by omega) t
 ·rw [if_pos h]; simp

def WG:aI:=⟨1,1,ByteArray.empty⟩

end Go.Abs
namespace Go.Abs
open Go
def pU (e:aF):Bool:=decide (0<e.Net)&&decide (-1<e.At)

def cM (l:List aF):List Int:=(l.filter pU).foldl (fun c e=>jP e.At c) []

theorem QL {S:Type} {body:S->aF->Option (S⊕S)} {l:List aF} (hl:l.length<=1000000) (f:S->aF->S) (Inv:S->List aF->Prop)
  (h:∀ s e r,Inv s (e::r)->(pU e=true->body s e=some (.inl (f s e))/\Inv (f s e) r)/\(pU e=false->Inv s r)) {s:S} (hi:Inv s l) :
  nG (fun st e=>rnd (fun s=>body s e) st) l (.inl s:S⊕S)=some (.inl ((l.filter pU).foldl f s)):=by
 unfold nG rM;rw [vV (l:=l) (body:=fun s:(S⊕S)×Int=>kX (fun st e=>rnd (fun s=>body s e) st) l ((l.length:Nat):Int) s.1 s.2) (fun (s:S) i=>(.inl s,i)) (fun s r=>.inl (.inl ((r.filter pU).foldl f s))) Inv s ?_ ?_ hi]
 ·rfl
 ·intro i e r s he hI;left;obtain⟨d1,d2,d3,d4⟩:=idx he (by omega);obtain⟨h1,h2⟩:=h s e r hI
  cases hr:pU e with
  | true =>
   obtain⟨b1,b2⟩:=h1 hr;refine⟨f s e,?_,b2,by simp [hr]⟩;have hc:(decide (0<e.Net)&&decide (-1<e.At))=true:=hr;simp only [kX,d1,cond_true,aQ d2,d3,d4,hc,CV,rnd,b1,Option.bind_some,Bool.true_and];rfl
  | false =>
   refine⟨s,?_,h2 hr,by simp [hr]⟩;have hc:(decide (0<e.Net)&&decide (-1<e.At))=false:=hr;simp only [kX,d1,cond_true,aQ d2,d3,d4,hc,CV,cond_false,Option.bind_some,Bool.false_and]
 ·intro s _;simp only [kX,jS,cond_false];rfl

theorem CP:∀ {a b:List Int},a.Pairwise (· < ·)->b.Pairwise (· < ·)->(∀ x,x∈a↔x∈b)->a=b
 | [],[],_,_,_=>rfl
 | [],y::b,_,_,h=>by have:=(h y).2 (by simp); simp at this
 | x::a,[],_,_,h=>by have:=(h x).1 (by simp); simp at this
 | x::a,y::b,ha,hb,h=>by
  obtain⟨a1,a2⟩:=List.pairwise_cons.1 ha;obtain⟨b1,b2⟩:=List.pairwise_cons.1 hb
  have hxy:x=y:=by
   rcases List.mem_cons.1 ((h x).1 (by simp)) with h1 | h1
   ·exact h1
   ·rcases List.mem_cons.1 ((h y).2 (by simp)) with h2 | h2
    ·exact h2.symm
    ·have:=a1 y h2; have:=b1 x h1; omega
  subst hxy;rw [CP a2 b2 fun z=>?_];constructor
  ·intro hz;rcases List.mem_cons.1 ((h z).1 (by simp [hz])) with h1 | h1
   ·have:=a1 z hz; omega
   ·exact h1
  ·intro hz;rcases List.mem_cons.1 ((h z).2 (by simp [hz])) with h1 | h1
   ·have:=b1 z hz; omega
   ·exact h1

theorem QC {d:List Int}(hd:d.Pairwise (· <= ·)){i j:Nat}(hij:i<=j)(hj:j<d.length):d.getD i 0<=d.getD j 0:=by
 rw [List.getD_eq_getElem?_getD,List.getD_eq_getElem?_getD,List.getElem?_eq_getElem (by omega),List.getElem?_eq_getElem hj];rcases Nat.lt_or_ge i j with h | h
 ·exact List.pairwise_iff_getElem.1 hd i j (by omega) hj h
 ·have : i=j:=by omega
  subst this; exact Int.le_refl _

theorem JV {d:List Int}{p:Nat}(hp:p<d.length):d.take (p+1)=d.take p++[d.getD p 0]:=by
 rw [List.take_add_one,List.getElem?_eq_getElem hp,List.getD_eq_getElem?_getD,List.getElem?_eq_getElem hp]; rfl

theorem aAr {d:List Int}(hd:d.Pairwise (· <= ·)){p:Nat}(hp:p<d.length){x:Int}(hx:x∈d.take (p+1)):x<=d.getD p 0:=by
 obtain⟨i,hi⟩:=List.getElem?_of_mem hx;rw [List.getElem?_take] at hi;split at hi
 ·rename_i hlt
  have:=QC hd (i:=i) (j:=p) (by omega) hp;rw [List.getD_eq_getElem?_getD (i:=i),hi] at this;exact this
 ·cases hi

def Kept (d c:List Int)(p:Nat):Prop:=c.Pairwise (· < ·) /\ ∀ x,x∈c↔x∈d.take p

theorem Kept.same {d c:List Int}{p:Nat}(h:Kept d c p)(h0:0<p)(hp:p<d.length)(e:d.getD p 0=d.getD (p-1) 0):Kept d c (p+1):=by
 refine⟨h.1,fun x=>?_⟩;rw [h.2 x,JV hp,List.mem_append];constructor
 ·exact .inl
 ·rintro (h1 | h1)
  ·exact h1
  ·rw [List.mem_singleton.1 h1,e];have : p-1<p:=by omega
   refine List.mem_of_getElem? (i:=p-1) ?_;rw [List.getElem?_take,if_pos this,List.getD_eq_getElem?_getD,List.getElem?_eq_getElem (by omega)]; rfl

theorem Kept.more {d c:List Int}{p:Nat}(hd:d.Pairwise (· <= ·))(h:Kept d c p)(h0:0<p)(hp:p<d.length)(e:d.getD p 0≠d.getD (p-1) 0):Kept d (c++[d.getD p 0]) (p+1):=by
 have hle:=QC hd (i:=p-1) (j:=p) (by omega) hp;refine⟨?_,fun x=>by rw [JV hp,List.mem_append,List.mem_append,h.2 x]⟩;rw [List.pairwise_append];refine⟨h.1,by simp,fun a ha b hb=>?_⟩;rw [List.mem_singleton.1 hb];have ha':=(h.2 a).1 ha
 have : a<=d.getD (p-1) 0:=by
  refine aAr hd (by omega) ?_
  rwa [show p-1+1=p by omega]
 omega

theorem tZ (d:List Int)(i:Nat):d.getD i default=d.getD i 0:=rfl

theorem ZS {d:List Int}(hd:d.Pairwise (· <= ·))(hl:d.length<=1000000){k:Nat}(hk0:0<k)(hk:k<d.length){c:List Int}(hc:Kept d c (k+1))(hck:c=d.take k) :
  ∃ r,lp (fun s:List Int×Int×Int=>fX (0+Int.toNat ((k:Nat):Int)) (d.length-Int.toNat ((k:Nat):Int)) s.1 s.2.1 s.2.2) (d,((k:Nat):Int),1)=some r /\
   ∃ c' k3:Nat->Nat,True /\ ∃ (cc:List Int) (m:Nat),r.2=((m:Nat):Int)/\r.1.length=d.length/\m<=d.length/\r.1.take m=cc/\Kept d cc d.length:=by
 have key:=XW (body:=fun s:List Int×Int×Int=>fX (0+Int.toNat ((k:Nat):Int)) (d.length-Int.toNat ((k:Nat):Int)) s.1 s.2.1 s.2.2)
  (I:=fun s=>∃ (k2 m:Nat),s.2.2=((k2:Nat):Int)/\s.2.1=((m:Nat):Int)/\0<k2/\k+k2<=d.length/\s.1.length=d.length/\m+1<=k+k2/\(∀ j,m<=j->s.1[j]?=d[j]?)/\Kept d (s.1.take m) (k+k2))
  (m:=fun s=>d.length+1-s.2.2.toNat) (Post:=fun r=>∃ m:Nat,r.2=((m:Nat):Int)/\r.1.length=d.length/\m<=d.length/\Kept d (r.1.take m) d.length) ?_ (s:=(d,((k:Nat):Int),1)) ?_
 ·obtain⟨r,h1,m,h2,h3,h4,h5⟩:=key;exact⟨r,h1,id,id,trivial,_,m,h2,h3,h4,rfl,h5⟩
 ·rintro ⟨s0,k3,k25⟩ ⟨k2,m,e1,e2,g1,g2,g3,g4,g5,g6⟩;simp only at e1 e2 g3 g5 g6;subst e1 e2;by_cases hlt:k+k2<d.length
  ·left
   have hat:∀ j,m<=j->s0.getD j 0=d.getD j 0:=fun j hj=>by
    rw [List.getD_eq_getElem?_getD,List.getD_eq_getElem?_getD,g5 j hj]
   have w1:IntKind.i64.wrap (((k2:Nat):Int)-1)=((k2-1:Nat):Int):=by rw [cZ (by omega) (by omega)]; omega
   have w2:IntKind.i64.wrap (((k2:Nat):Int)+1)=((k2+1:Nat):Int):=by rw [cZ (by omega) (by omega)]; omega
   have w3:IntKind.i64.wrap (((m:Nat):Int)+1)=((m+1:Nat):Int):=by rw [cZ (by omega) (by omega)]; omega
   have c1:decide (((k2:Nat):Int)<((d.length-Int.toNat ((k:Nat):Int):Nat):Int))=true:=by
    rw [decide_eq_true_eq]; simp only [Int.toNat_natCast]; omega
   have c2:(0:Int)<=((k2:Nat):Int)/\((k2:Nat):Int)<((d.length-Int.toNat ((k:Nat):Int):Nat):Int):=⟨by omega,by simp only [Int.toNat_natCast]; omega⟩;have c3:0+Int.toNat ((k:Nat):Int)+Int.toNat ((k2:Nat):Int)<s0.length:=by simp only [Int.toNat_natCast]; omega
   have c4:(0:Int)<=((k2-1:Nat):Int)/\((k2-1:Nat):Int)<((d.length-Int.toNat ((k:Nat):Int):Nat):Int):=⟨by omega,by simp only [Int.toNat_natCast]; omega⟩;have c5:0+Int.toNat ((k:Nat):Int)+Int.toNat ((k2-1:Nat):Int)<s0.length:=by simp only [Int.toNat_natCast]; omega
   have c6:(0:Int)<=((m:Nat):Int)/\((m:Nat):Int)<((s0.length:Nat):Int):=⟨by omega,by omega⟩
   have i1:s0.getD (0+Int.toNat ((k:Nat):Int)+Int.toNat ((k2:Nat):Int)) default=d.getD (k+k2) 0:=by
    rw [tZ,show 0+Int.toNat ((k:Nat):Int)+Int.toNat ((k2:Nat):Int)=k+k2 by simp only [Int.toNat_natCast]; omega]; exact hat _ (by omega)
   have i2:s0.getD (0+Int.toNat ((k:Nat):Int)+Int.toNat ((k2-1:Nat):Int)) default=d.getD (k+k2-1) 0:=by
    rw [tZ,show 0+Int.toNat ((k:Nat):Int)+Int.toNat ((k2-1:Nat):Int)=k+k2-1 by simp only [Int.toNat_natCast]; omega]; exact hat _ (by omega)
   by_cases he:d.getD (k+k2) 0=d.getD (k+k2-1) 0
   ·refine⟨(s0,((m:Nat):Int),((k2+1:Nat):Int)),?_,⟨k2+1,m,rfl,rfl,by omega,by omega,g3,by omega,g5,?_⟩,by simp only [Int.toNat_natCast]; omega⟩
    ·simp only [fX,jN,c1,cond_true,aQ c2,aQ c3,w1,aQ c4,aQ c5,i1,i2,he,decide_true,Bool.not_true,cond_false,w2]
    ·exact g6.same (by omega) hlt he
   ·refine⟨(s0.set m (d.getD (k+k2) 0),((m+1:Nat):Int),((k2+1:Nat):Int)),?_,⟨k2+1,m+1,rfl,rfl,by omega,by omega,by simpa using g3,by omega,fun j hj=>?_,?_⟩,by simp only [Int.toNat_natCast]; omega⟩
    ·simp only [fX,jN,c1,cond_true,aQ c2,aQ c3,w1,aQ c4,aQ c5,i1,i2,decide_eq_false he,Bool.not_false,aQ c6,w2,w3];rfl
    ·simp only;rw [List.getElem?_set_ne (by omega)]; exact g5 j (by omega)
    ·have h1:=g6.more hd (by omega) hlt he
     have h2:(s0.set m (d.getD (k+k2) 0)).take (m+1)=s0.take m++[d.getD (k+k2) 0]:=by
      rw [List.take_add_one,List.take_set_of_le (Nat.le_refl m),List.getElem?_set_self (by omega)]; rfl
     simp only;rw [h2]; exact h1
  ·right;have hk2:k+k2=d.length:=by omega
   refine⟨(s0,((m:Nat):Int)),?_,m,rfl,g3,by omega,by rw [←hk2]; exact g6⟩
   have c1:decide (((k2:Nat):Int)<((d.length-Int.toNat ((k:Nat):Int):Nat):Int))=false:=by
    rw [decide_eq_false_iff_not]; simp only [Int.toNat_natCast]; omega
   simp only [fX,c1,cond_false]
 ·refine⟨1,k,rfl,rfl,by omega,by omega,rfl,by omega,fun _ _=>rfl,?_⟩;rw [←hck]; exact hc

theorem aCn {k:Nat}{d:List Int}:(kP k d).take k=d.take k:=by
 unfold kP;by_cases h:k<=d.length
 ·rw [List.take_append_of_le_length (by simp; omega),List.take_take]; simp
 ·have e1:d.take k=d:=List.take_of_length_le (by omega);rw [e1,show d.length-k=0 by omega,List.replicate_zero,List.append_nil,e1]

theorem aBM {d:List Int}(hd:d.Pairwise (· <= ·))(hl:d.length<=1000000):∃ c,kE d=some c/\Kept d c d.length:=by
 unfold kE;by_cases h2:d.length<2
 ·rw [decide_eq_true (by omega),cond_true];refine⟨d,rfl,?_,fun x=>by rw [List.take_length]⟩
  match d,h2 with
  | [],_=>exact List.Pairwise.nil
  | [x],_=>exact List.pairwise_singleton ..
  | _::_::_,h=>simp at h; omega
 ·rw [decide_eq_false (by omega),cond_false];unfold nI
  have key:=XW (body:=fun s:List Int×Int=>iF s.1 s.2)
   (I:=fun s=>s.1=d /\ ∃ k:Nat,s.2=((k:Nat):Int)/\0<k/\k<=d.length/\(d.take k).Pairwise (· < ·)) (m:=fun s=>d.length+1-s.2.toNat)
   (Post:=fun r=>∃ c,Sum.elim (fun rr:List Int=>lH rr) (fun rr=>some rr) r=some c/\Kept d c d.length) ?_ (s:=(d,1)) ?_
  ·obtain⟨r,h3,c,h4,h5⟩:=key;rw [h3,Option.bind_some];exact⟨c,h4,h5⟩
  ·rintro ⟨s0,k3⟩ ⟨e1,k,e2,g1,g2,g3⟩;simp only at e1 e2;subst e1 e2;by_cases hlt:k<s0.length
   ·have w1:IntKind.i64.wrap (((k:Nat):Int)-1)=((k-1:Nat):Int):=by rw [cZ (by omega) (by omega)]; omega
    have w2:IntKind.i64.wrap (((k:Nat):Int)+1)=((k+1:Nat):Int):=by rw [cZ (by omega) (by omega)]; omega
    have c1:(0:Int)<=((k:Nat):Int)/\((k:Nat):Int)<((s0.length:Nat):Int):=⟨by omega,by omega⟩;have c2:(0:Int)<=((k-1:Nat):Int)/\((k-1:Nat):Int)<((s0.length:Nat):Int):=⟨by omega,by omega⟩;have hK:Kept s0 (s0.take k) k:=⟨g3,fun _=>Iff.rfl⟩;by_cases he:s0.getD k 0=s0.getD (k-1) 0
    ·right;obtain⟨r,h3,_,_,_,cc,m,h4,h5,h6,h7,h8⟩:=ZS hd hl g1 hlt (hK.same g1 hlt he) rfl;refine⟨.inr cc,?_,cc,rfl,h8⟩;have c3:(0:Int)<=((k:Nat):Int)/\((k:Nat):Int)<=((s0.length:Nat):Int):=⟨by omega,by omega⟩;simp only [iF,decide_eq_true c1.2,cond_true,aQ c1,w1,aQ c2,Int.toNat_natCast,tZ,he,decide_true,aQ c3,nK];rw [Int.toNat_natCast] at h3;rw [h3,Option.bind_some];unfold lP;rw [h4,aQ (by omega),aQ (by rw [clearL_len]; omega),aQ (by rw [clearL_len,Int.toNat_natCast]; omega),Int.toNat_natCast,Nat.zero_add,aCn,h7]
    ·left;refine⟨(s0,((k+1:Nat):Int)),?_,⟨rfl,k+1,rfl,by omega,by omega,?_⟩,by simp only [Int.toNat_natCast]; omega⟩
     ·simp only [iF,nJ,decide_eq_true c1.2,cond_true,aQ c1,w1,aQ c2,Int.toNat_natCast,tZ,decide_eq_false he,cond_false,w2]
     ·rw [JV hlt];exact (hK.more hd g1 hlt he).1
   ·right;have hk:k=s0.length:=by omega
    subst hk;refine⟨.inl s0,?_,s0,rfl,?_,fun x=>by rw [List.take_length]⟩
    ·simp only [iF,jS,cond_false]
    ·rwa [List.take_length] at g3
  ·refine⟨rfl,1,rfl,by omega,by omega,?_⟩
   match d,h2 with
   | x::r,_=>simp
   | [],h=>simp at h

theorem QF {l:List aF}:∀ {c:List Int},(∀ e∈l,pU e=true/\e.At<1125899906842624)->Inc (-1) c->Inc (-1) (l.foldl (fun c e=>jP e.At c) c)/\(∀ x,x∈l.foldl (fun c e=>jP e.At c) c↔x∈c ∨ ∃ e∈l,e.At=x):=by
 induction l with
 | nil=>intro c _ hi; exact ⟨hi,fun x=>by simp⟩
 | cons e l ih =>
  intro c he hi;have h1:=he e (by simp);have hr : -1<e.At:=by have:=h1.1; simp [pU] at this; omega
  obtain⟨i1,i2⟩:=ih (c:=jP e.At c) (fun q hq=>he q (by simp [hq])) (CQ hi hr h1.2);refine⟨i1,fun x=>?_⟩;rw [List.foldl_cons,i2 x,GI];constructor
  ·rintro ((h | h) | ⟨q,h,h'⟩)
   ·exact .inr ⟨e,by simp,h.symm⟩
   ·exact .inl h
   ·exact .inr ⟨q,by simp [h],h'⟩
  ·rintro (h | ⟨q,h,h'⟩)
   ·exact .inl (.inr h)
   ·rcases List.mem_cons.1 h with rfl | h
    ·exact .inl (.inl h'.symm)
    ·exact .inr ⟨q,h,h'⟩

theorem NG {l:List aF}(h:∀ e∈l,e.At<1125899906842624):Inc (-1) (cM l) :=
 (QF (c:=[]) (fun e he=>by have:=List.mem_filter.1 he; exact ⟨this.2,h e this.1⟩) trivial).1

theorem GY {l:List aF}(h:∀ e∈l,e.At<1125899906842624){x:Int}:x∈cM l ↔ ∃ e∈l,pU e=true/\e.At=x:=by
 unfold cM;rw [(QF (c:=[]) (fun e he=>by have:=List.mem_filter.1 he; exact ⟨this.2,h e this.1⟩) trivial).2 x];constructor
 ·rintro (h1 | ⟨e,h1,h2⟩)
  ·simp at h1
  ·have:=List.mem_filter.1 h1; exact ⟨e,this.1,this.2,h2⟩
 ·rintro ⟨e,h1,h2,h3⟩;exact .inr ⟨e,List.mem_filter.2 ⟨h1,h2⟩,h3⟩

theorem aCT {l:List aF}:∀ {c:List Int},l.foldl (fun c e=>c++[e.At]) c=c++l.map (·.At):=by
 induction l with
 | nil=>intro c; simp
 | cons e l ih=>intro c; rw [List.foldl_cons,ih]; simp

theorem FU {l:List aF}(hn:l.length<=4096)(hat:∀ e∈l,e.At<1125899906842624):pQ l=some (cM l):=by
 unfold pQ qR;rw [Option.bind_some];unfold uN;rw [QL (by omega) (fun s e=>s++[e.At]) (fun s r=>s.length+r.length<=1000000) (fun s e r hI=>⟨fun _=>⟨?_,?_⟩,fun _=>?_⟩) (by simp; omega),Option.bind_some,Sum.elim_inl,aCT,List.nil_append]
 ·have hfl:=List.length_filter_le pU l;obtain⟨d',h1,h2,h3⟩:=aBu (d:=(l.filter pU).map (·.At)) (by simp; omega);have hdl:d'.length<=4096:=by rw [h2.length_eq,List.length_map]; omega
  obtain⟨c,h4,h5⟩:=aBM h3 (by omega);rw [h1,Option.bind_some,h4,Option.bind_some]
  congr 1
  refine CP h5.1 (zK (NG hat)) fun x=>?_;rw [h5.2 x,List.take_length,h2.mem_iff,GY hat,List.mem_map];constructor
  ·rintro ⟨e,q1,q2⟩;have:=List.mem_filter.1 q1; exact ⟨e,this.1,this.2,q2⟩
  ·rintro ⟨e,q1,q2,q3⟩;exact⟨e,List.mem_filter.2 ⟨q1,q2⟩,q3⟩
 ·simp only [List.length_cons] at hI;unfold rE;rw [aQ (by simp only [List.length_cons,List.length_nil]; omega)]
 ·simp only [List.length_cons,List.length_append,List.length_nil] at hI ⊢; omega
 ·simp only [List.length_cons] at hI; omega

theorem aAn (l:List aF):(cM l).length<=l.length:=by
 have key:∀ (l:List aF) (c:List Int),(l.foldl (fun c e=>jP e.At c) c).length<=c.length+l.length:=by
  intro l
  induction l with
  | nil=>intro c; simp
  | cons e l ih=>intro c; rw [List.foldl_cons]; have:=ih (jP e.At c); have:=LY (t:=e.At) (ps:=c); simp only [List.length_cons]; omega
 have h1:=key (l.filter pU) [];have h2:=List.length_filter_le pU l;simp only [List.length_nil] at h1;unfold cM; omega

end Go.Abs
namespace Go.Abs
open Go
theorem aEQ {a:List Int}{t:Int}{m:Nat}(h1:∀ x∈a.take m,x<t)(h2:∀ x∈a.drop m,t<=x):(a.filter fun x=>decide (x<t))=a.take m/\(a.filter fun x=>decide (t<=x))=a.drop m:=by
 have e:a=a.take m++a.drop m:=(List.take_append_drop m a).symm;have e1:(a.take m).filter (fun x=>decide (x<t))=a.take m:=List.filter_eq_self.2 fun x hx=>by simpa using h1 x hx
 have e2:(a.drop m).filter (fun x=>decide (x<t))=[]:=List.filter_eq_nil_iff.2 fun x hx=>by have:=h2 x hx; simp; omega
 have e3:(a.take m).filter (fun x=>decide (t<=x))=[]:=List.filter_eq_nil_iff.2 fun x hx=>by have:=h1 x hx; simp; omega
 have e4:(a.drop m).filter (fun x=>decide (t<=x))=a.drop m:=List.filter_eq_self.2 fun x hx=>by simpa using h2 x hx
 constructor
 ·conv=>lhs; rw [e]
  rw [List.filter_append,e1,e2,List.append_nil]
 ·conv=>lhs; rw [e]
  rw [List.filter_append,e3,e4,List.nil_append]

theorem aBg (x y:Int):dH x y=some (decide (x<y)):=by simp [dH,kZ,cX]

theorem aGI {a:List Int}(hd:a.Pairwise (· <= ·))(hl:a.length<=1000000)(t:Int):∃ (m:Nat) (b:Bool),fR a t=some (((m:Nat):Int),b)/\m<=a.length/\(a.filter fun x=>decide (x<t))=a.take m/\(a.filter fun x=>decide (t<=x))=a.drop m:=by
 unfold fR lI
 have key:=XW (body:=fun s:Int×Int=>fD a t ((a.length:Nat):Int) s.1 s.2)
  (I:=fun s=>∃ i j:Nat,s.1=((i:Nat):Int)/\s.2=((j:Nat):Int)/\i<=j/\j<=a.length/\(∀ k,k<i->a.getD k 0<t) /\ ∀ k,j<=k->k<a.length->t<=a.getD k 0)
  (m:=fun s=>s.2.toNat-s.1.toNat) (Post:=fun r=>∃ m:Nat,r=((m:Nat):Int)/\m<=a.length/\(∀ k,k<m->a.getD k 0<t) /\ ∀ k,m<=k->k<a.length->t<=a.getD k 0) ?_ (s:=(0,((a.length:Nat):Int))) ?_
 ·obtain⟨r,h1,m,rfl,h2,h3,h4⟩:=key;rw [h1,Option.bind_some]
  have hs:=aEQ (a:=a) (t:=t) (m:=m) (fun x hx=>by
   obtain⟨k,hk⟩:=List.getElem?_of_mem hx;rw [List.getElem?_take] at hk;split at hk
   ·rename_i hlt
    have:=h3 k hlt
    rwa [List.getD_eq_getElem?_getD,hk] at this
   ·cases hk) (fun x hx=>by
   obtain⟨k,hk⟩:=List.getElem?_of_mem hx;rw [List.getElem?_drop] at hk;have hlt:=(List.getElem?_eq_some_iff.1 hk).1;have:=h4 (m+k) (by omega) hlt
   rwa [List.getD_eq_getElem?_getD,hk] at this)
  unfold jJ
  have c1:∀ b:Bool,(b&&decide (((m:Nat):Int)<((a.length:Nat):Int)))=true->(0:Int)<=((m:Nat):Int)/\((m:Nat):Int)<((a.length:Nat):Int):=fun b hb=>by
   simp only [Bool.and_eq_true,decide_eq_true_eq] at hb; omega
  rw [aQ (fun hb=>by have:=of_decide_eq_true hb; omega),aQ (c1 _)];simp only [pE,cX]
  cases (!decide (a.getD (Int.toNat ((m:Nat):Int)) default=t)&&decide (((m:Nat):Int)<((a.length:Nat):Int))) <;> simp only [cond_true,cond_false,Option.bind_some,Bool.and_true,Bool.and_false,decide_true,Bool.not_true]
  ·exact⟨m,_,rfl,h2,hs.1,hs.2⟩
  ·exact⟨m,_,rfl,h2,hs.1,hs.2⟩
 ·rintro ⟨x,y⟩ ⟨i,j,e1,e2,g1,g2,g3,g4⟩;simp only at e1 e2;subst e1 e2;by_cases hij:i<j
  ·left
   have hm:IntKind.i64.wrap (Int.fdiv (IntKind.u64.wrap (IntKind.i64.wrap (((i:Nat):Int)+((j:Nat):Int)))) (2 ^ (min (Int.toNat (1:Int)) 64)))=(((i+j) / 2:Nat):Int):=by
    rw [←Int.natCast_add]; exact half (by omega)
   have c1:(0:Int)<=(((i+j) / 2:Nat):Int)/\(((i+j) / 2:Nat):Int)<((a.length:Nat):Int):=⟨by omega,by omega⟩;have w1:IntKind.i64.wrap ((((i+j) / 2:Nat):Int)+1)=(((i+j) / 2+1:Nat):Int):=by rw [cZ (by omega) (by omega)]; omega
   by_cases hc:a.getD ((i+j) / 2) 0<t
   ·refine⟨((((i+j) / 2+1:Nat):Int),((j:Nat):Int)),?_,⟨(i+j) / 2+1,j,rfl,rfl,by omega,g2,fun k hk=>?_,g4⟩,by simp only [Int.toNat_natCast]; omega⟩
    ·simp only [fD,decide_eq_true (show ((i:Nat):Int)<((j:Nat):Int) by omega),cond_true,aQ (show (0:Int)<=1 by decide),hm,aQ c1,Int.toNat_natCast,tZ,aBg,Option.bind_some,w1];rw [decide_eq_true hc,cond_true]
    ·have:=QC hd (i:=k) (j:=(i+j) / 2) (by omega) (by omega); omega
   ·refine⟨(((i:Nat):Int),(((i+j) / 2:Nat):Int)),?_,⟨i,(i+j) / 2,rfl,rfl,by omega,by omega,g3,fun k hk hkl=>?_⟩,by simp only [Int.toNat_natCast]; omega⟩
    ·simp only [fD,decide_eq_true (show ((i:Nat):Int)<((j:Nat):Int) by omega),cond_true,aQ (show (0:Int)<=1 by decide),hm,aQ c1,Int.toNat_natCast,tZ,aBg,Option.bind_some,w1];rw [decide_eq_false hc,cond_false]
    ·have:=QC hd (i:=(i+j) / 2) (j:=k) (by omega) hkl; omega
  ·right;refine⟨((i:Nat):Int),?_,i,rfl,by omega,g3,fun k hk hkl=>g4 k (by omega) hkl⟩;simp only [fD,decide_eq_false (show ¬ ((i:Nat):Int)<((j:Nat):Int) by omega),cond_false]
 ·exact⟨0,a.length,rfl,rfl,by omega,Nat.le_refl _,fun k hk=>by omega,fun k h1 h2=>by omega⟩

def rB (l:List aF)(n:Int):Int:=if !eO l||decide (n<1)||decide (64<n) then 2 else if !mJ l then 20 else 0

theorem LX {l:List aF}(hl:okL l)(n:Int):tJ l n=some (rB l n):=by
 unfold tJ rB;rw [DU hl,Option.bind_some]
 cases (!eO l||decide (n<1)||decide (64<n)) with
 | true=>rfl
 | false =>
  rw [cond_false,FQ hl,Option.bind_some]
  cases mJ l <;> rfl

theorem GC {l:List aF}{n:Int}(h:rB l n=0):eO l=true/\mJ l=true/\1<=n/\n<=64:=by
 unfold rB at h
 cases hm:eO l with
 | false=>simp [hm] at h
 | true =>
  cases ht:mJ l with
  | false=>rw [hm,ht] at h; split at h <;> simp at h
  | true =>
   rw [hm,ht] at h;split at h
   ·simp at h
   ·rename_i c; simp at c; exact ⟨rfl,rfl,by omega,by omega⟩

theorem ME {l:List aF}(hm:eO l=true):∀ e∈l,e.At<1125899906842624:=fun e he=>(xU hm he).2.2.1

def dX (a:List Int)(t:Int):Nat:=(a.filter fun x=>decide (x<t)).length

def firstM (a:List Int)(n t:Int):Nat:=((dX a t:Int)-n+1).toNat

def mE (a:List Int)(n t:Int):Int:=if firstM a n t=dX a t then t else a.getD (firstM a n t) 0

def FP (l:List aF)(n t:Int):Int×Int :=
 if rB l n≠0 then (0,rB l n) else if t<0∨1125899906842624<t then (0,13) else if t=1125899906842624 then (t,0) else (mE (cM l) n t,0)

theorem uV (a:List Int)(t:Int):dX a t<=a.length:=List.length_filter_le ..

theorem QI {a:List Int}(hd:a.Pairwise (· <= ·))(hl:a.length<=1000000)(t:Int):(∃ b:Bool,fR a t=some (((dX a t:Nat):Int),b))/\(a.filter fun x=>decide (x<t))=a.take (dX a t)/\(a.filter fun x=>decide (t<=x))=a.drop (dX a t):=by
 obtain⟨m,b,h1,h2,h3,h4⟩:=aGI hd hl t;have hm:dX a t=m:=by unfold dX; rw [h3,List.length_take]; omega
 rw [hm]; exact ⟨⟨b,h1⟩,h3,h4⟩

theorem mW {l:List aF}(hm:eO l=true):(cM l).Pairwise (· < ·)/\(cM l).Pairwise (· <= ·)/\(cM l).length<=4096 /\ ∀ x∈cM l,0<=x/\x<1125899906842624:=by
 have hi:=NG (ME hm);refine⟨zK hi,TI hi,by have:=aAn l; have:=(jQ hm).1; omega,fun x hx=>by have:=hi.above x hx; omega⟩

theorem VO {l:List aF}(hl:okL l)(n t:Int):vF l n t=some (FP l n t):=by
 unfold vF FP;rw [LX hl,Option.bind_some];by_cases h:rB l n=0
 ·obtain⟨hm,_,n1,n2⟩:=GC h;obtain⟨f1,f2,f3,f4⟩:=mW hm;rw [decide_eq_true h,Bool.not_true,cond_false,if_neg (by simpa using h)];by_cases h1:t<0∨1125899906842624<t
  ·have : (decide (t<0)||decide (1125899906842624<t))=true:=by simpa using h1
   rw [this,cond_true,if_pos h1]
  ·have : (decide (t<0)||decide (1125899906842624<t))=false:=by simpa using h1
   rw [this,cond_false,if_neg h1];by_cases h2:t=1125899906842624
   ·rw [decide_eq_true h2,cond_true,if_pos h2]
   ·rw [decide_eq_false h2,cond_false,if_neg h2,FU (jQ hm).1 (ME hm),Option.bind_some];obtain⟨⟨b,hb⟩,hs1,hs2⟩:=QI f2 (by omega) t;have hle:=uV (cM l) t;rw [hb,Option.bind_some]
    have w1:IntKind.i64.wrap (IntKind.i64.wrap (((dX (cM l) t:Nat):Int)-n)+1)=((dX (cM l) t:Nat):Int)-n+1:=by
     rw [cZ (n:=((dX (cM l) t:Nat):Int)-n) (by omega) (by omega),cZ (by omega) (by omega)]
    have e1:(if IntKind.i64.wrap (IntKind.i64.wrap (((dX (cM l) t:Nat):Int)-n)+1)>0 then IntKind.i64.wrap (IntKind.i64.wrap (((dX (cM l) t:Nat):Int)-n)+1) else 0)=((firstM (cM l) n t:Nat):Int):=by
     rw [w1]; unfold firstM;split <;> omega
    simp only [e1];unfold mE;by_cases hf:firstM (cM l) n t=dX (cM l) t
    ·rw [decide_eq_true (by omega),cond_true,if_pos hf]
    ·have hlt:firstM (cM l) n t<dX (cM l) t:=by unfold firstM at hf ⊢; omega
     rw [decide_eq_false (by omega),cond_false,if_neg hf,aQ (by omega),Int.toNat_natCast]; rfl
 ·rw [decide_eq_false h,Bool.not_false,cond_true,if_pos h]

end Go.Abs
namespace Go.Abs
open Go
theorem aBx (a b:List aI)(hl:a.length<=17592186044416):gE a b=some (decide (a=b)):=by
 have:=IZ a b hl;unfold sF at this
 simpa using this

def inW (a b:Int)(j:aB):Bool:=decide (0<j.Net)&&(decide (a<=j.At)&&decide (j.At<b))

def oR (a b:Int)(f:List aB):Int:=((f.filter (inW a b)).map aB.Net).sum

def AN (a b:Int)(gs:List (List aI×List aB)):List bC:=gs.filterMap fun g=>if 0<oR a b g.2 then some ⟨g.1,oR a b g.2⟩ else none

def nL (rs:List bC):bC:=rs.getD (rs.length-1) default

def CX (rs:List bC)(e:aF):List bC:=if 0<rs.length/\(nL rs).Row=e.Row then rs.set (rs.length-1) ⟨(nL rs).Row,(nL rs).N+e.Net⟩ else rs++[⟨e.Row,e.Net⟩]

def EN (p:aK)(e:aF):aK:=if e.At<p.Span.From∨p.Span.To<=e.At then p else ⟨p.Span,CX p.Rows e⟩

def rQ (a b:Int)(rs:List bC)(e:aF):List bC:=if inW a b (jE e) then CX rs e else rs

theorem zW (a b:Int)(j:aB)(f:List aB):oR a b (j::f)=(if inW a b j then j.Net else 0)+oR a b f:=by
 unfold oR;by_cases h:inW a b j <;> simp [h]

theorem GP (a b:Int):∀ f:List aB,0<=oR a b f/\(oR a b f=0↔f.filter (inW a b)=[])
 | []=>by simp [oR]
 | j::f=>by
  obtain⟨h1,h2⟩:=GP a b f;rw [zW];by_cases h:inW a b j
  ·have : 0<j.Net:=by simp [inW] at h; omega
   rw [if_pos h];refine⟨by omega,?_⟩;constructor
   ·intro e; omega
   ·intro e; simp [h] at e
  ·rw [if_neg h,Int.zero_add];refine⟨h1,?_⟩;rw [h2]; simp [h]

theorem RY (a b:Int)(g:List aI×List aB)(gs:List (List aI×List aB)):AN a b (g::gs)=(if 0<oR a b g.2 then [⟨g.1,oR a b g.2⟩] else [])++AN a b gs:=by
 unfold AN;rw [List.filterMap_cons];by_cases h:0<oR a b g.2 <;> simp [h]

theorem aBA (R:List bC)(c:bC):nL (R++[c])=c:=by
 unfold nL;simp [List.getD_eq_getElem?_getD]

theorem aE2 (R:List bC)(c d:bC):(R++[c]).set ((R++[c]).length-1) d=R++[d]:=by
 simp [List.set_append_right]

theorem SD (a b:Int)(r:List aI):∀ (f:List aB) (R:List bC) (v:Int),(iY r f).foldl (rQ a b) (R++[⟨r,v⟩])=R++[⟨r,v+oR a b f⟩]
 | [],R,v=>by simp [iY,oR]
 | j::f,R,v=>by
  have e:iY r (j::f)=⟨r,j.At,j.Net⟩::iY r f:=rfl;rw [e,List.foldl_cons,zW];have ej:jE ⟨r,j.At,j.Net⟩=j:=rfl;by_cases h:inW a b j
  ·have e1:rQ a b (R++[⟨r,v⟩]) ⟨r,j.At,j.Net⟩=R++[⟨r,v+j.Net⟩]:=by
    unfold rQ CX;rw [ej,if_pos h,aBA,if_pos ⟨by simp,rfl⟩,aE2]
   rw [e1,SD a b r f,if_pos h,Int.add_assoc]
  ·have e1:rQ a b (R++[⟨r,v⟩]) ⟨r,j.At,j.Net⟩=R++[⟨r,v⟩]:=by
    unfold rQ;rw [ej,if_neg h]
   rw [e1,SD a b r f,if_neg h,Int.zero_add]

theorem LQ {rs:List bC}(h:0<rs.length):nL rs∈rs:=by
 unfold nL;rw [List.getD_eq_getElem?_getD,List.getElem?_eq_getElem (by omega)];exact List.getElem_mem _

theorem YL (a b:Int)(r:List aI):∀ (f:List aB) (rs:List bC),(∀ c∈rs,c.Row≠r)->(iY r f).foldl (rQ a b) rs=rs++(if 0<oR a b f then [⟨r,oR a b f⟩] else [])
 | [],rs,_=>by simp [iY,oR]
 | j::f,rs,hr=>by
  have e:iY r (j::f)=⟨r,j.At,j.Net⟩::iY r f:=rfl;have ej:jE ⟨r,j.At,j.Net⟩=j:=rfl;rw [e,List.foldl_cons,zW];have hg:=(GP a b f).1;by_cases h:inW a b j
  ·have hj:0<j.Net:=by simp [inW] at h; omega
   have e1:rQ a b rs ⟨r,j.At,j.Net⟩=rs++[⟨r,j.Net⟩]:=by
    unfold rQ CX;rw [ej,if_pos h,if_neg fun hc=>hr _ (LQ hc.1) hc.2]
   rw [e1,SD,if_pos h,if_pos (by omega)]
  ·have e1:rQ a b rs ⟨r,j.At,j.Net⟩=rs:=by
    unfold rQ;rw [ej,if_neg h]
   rw [e1,YL a b r f rs hr,if_neg h,Int.zero_add]

theorem NH (a b:Int):∀ {gs:List (List aI×List aB)} {rs:List bC},uR gs->(∀ c∈rs,∀ g∈gs,c.Row≠g.1)->(flat gs).foldl (rQ a b) rs=rs++AN a b gs
 | [],rs,_,_=>by simp [flat,AN]
 | g::gs,rs,hs,hr=>by
  obtain⟨h1,h2⟩:=List.pairwise_cons.1 hs;rw [tY,List.foldl_append,YL a b g.1 g.2 rs fun c hc=>hr c hc g (by simp),NH a b h2 fun c hc q hq=>?_,RY,List.append_assoc];rcases List.mem_append.1 hc with hc | hc
  ·exact hr c hc q (by simp [hq])
  ·split at hc
   ·simp at hc; subst hc;intro e;have : tW g.1 q.1<0:=h1 q hq;simp only at e;rw [e] at this;exact sR this
   ·simp at hc

theorem SZ {a b:Int}{e:aF}:inW a b (jE e)=true↔0<e.Net/\a<=e.At/\e.At<b:=by
 unfold inW jE;simp only [Bool.and_eq_true,decide_eq_true_eq]

theorem IY {a b:Int}(ha:0<=a):∀ (l:List aF) (rs:List bC),(l.filter pU).foldl EN ⟨⟨a,b⟩,rs⟩=⟨⟨a,b⟩,l.foldl (rQ a b) rs⟩
 | [],rs=>rfl
 | e::l,rs=>by
  cases h:pU e with
  | true =>
   have hp:0<e.Net /\ -1<e.At:=by simpa [pU] using h
   simp only [List.filter_cons,h,if_true,List.foldl_cons];by_cases hw:e.At<a∨b<=e.At
   ·have e1:EN ⟨⟨a,b⟩,rs⟩ e=⟨⟨a,b⟩,rs⟩:=by unfold EN; rw [if_pos hw]
    have e2:rQ a b rs e=rs:=by
     unfold rQ
     have : inW a b (jE e)=false:=by
      cases hq:inW a b (jE e) with
      | false=>rfl
      | true=>have:=SZ.1 hq; omega
     rw [this]; rfl
    rw [e1,e2,IY ha l rs]
   ·have e1:EN ⟨⟨a,b⟩,rs⟩ e=⟨⟨a,b⟩,CX rs e⟩:=by unfold EN; rw [if_neg hw]
    have e2:rQ a b rs e=CX rs e:=by
     unfold rQ;have : inW a b (jE e)=true:=SZ.2 ⟨hp.1,by omega,by omega⟩;rw [this]; rfl
    rw [e1,e2,IY ha l (CX rs e)]
  | false =>
   have hp:¬ (0<e.Net /\ -1<e.At):=by simpa [pU] using h
   have e2:rQ a b rs e=rs:=by
    unfold rQ
    have : inW a b (jE e)=false:=by
     cases hq:inW a b (jE e) with
     | false=>rfl
     | true=>have:=SZ.1 hq; omega
    rw [this]; rfl
   simp only [List.filter_cons,h,Bool.false_eq_true,if_false,List.foldl_cons,e2];exact IY ha l rs

def tP (l:List aF)(run:List Int):aK:=⟨⟨run.getD 0 0,run.getD (run.length-1) 0+1⟩,AN (run.getD 0 0) (run.getD (run.length-1) 0+1) (groups l)⟩

def SB (rs:List bC)(r:List aF):Prop:=rs.length+r.length<=1000000/\(∀ c∈rs,c.Row.length<=17592186044416/\0<=c.N/\c.N+1048576*r.length<=4503599627370496) /\ ∀ e∈r,e.Row.length<=4398046510976/\e.Net<=1048576

theorem VB {rs:List bC}{e:aF}{r:List aF}(h:SB rs (e::r)):SB rs r:=by
 obtain⟨h1,h2,h3⟩:=h;simp only [List.length_cons] at h1 h2;exact⟨by omega,fun c hc=>by have:=h2 c hc; omega,fun q hq=>h3 q (by simp [hq])⟩

theorem aET {rs:List bC}{e:aF}{r:List aF}(h:SB rs (e::r))(hn:0<e.Net):SB (CX rs e) r:=by
 obtain⟨h1,h2,h3⟩:=h;have he:=h3 e (by simp);simp only [List.length_cons] at h1 h2;unfold CX;split
 ·rename_i hc
  have hm:=h2 _ (LQ hc.1);refine⟨by rw [List.length_set]; omega,fun c hcm=>?_,fun q hq=>h3 q (by simp [hq])⟩;rcases List.mem_or_eq_of_mem_set hcm with hcm | rfl
  ·have:=h2 c hcm; omega
  ·refine⟨hm.1,?_⟩; simp only; omega
 ·refine⟨by simp only [List.length_append,List.length_cons,List.length_nil]; omega,fun c hcm=>?_,fun q hq=>h3 q (by simp [hq])⟩;rcases List.mem_append.1 hcm with hcm | hcm
  ·have:=h2 c hcm; omega
  ·simp at hcm; subst hcm; simp only; omega

theorem aCp {l:List aF}{t p:aK}{e:aF}{r:List aF}(h:SB p.Rows (e::r))(hr:pU e=true):oQ l t p e=some (.inl (t,EN p e)):=by
 obtain⟨h1,h2,h3⟩:=h;have he:=h3 e (by simp);have hn:0<e.Net:=by simp [pU] at hr; omega
 simp only [List.length_cons] at h1 h2;unfold oQ EN;by_cases hw:e.At<p.Span.From∨p.Span.To<=e.At
 ·have : (decide (e.At<p.Span.From)||decide (p.Span.To<=e.At))=true:=by simpa using hw
  rw [this,cond_true,if_pos hw]
 ·have : (decide (e.At<p.Span.From)||decide (p.Span.To<=e.At))=false:=by simpa using hw
  rw [this,cond_false,if_neg hw];have w1:IntKind.i64.wrap (((p.Rows.length:Nat):Int)-1)=((p.Rows.length:Nat):Int)-1:=cZ (by omega) (by omega);rw [w1];by_cases h0:0<p.Rows.length
  ·have c1:(0:Int)<=((p.Rows.length:Nat):Int)-1/\((p.Rows.length:Nat):Int)-1<((p.Rows.length:Nat):Int):=⟨by omega,by omega⟩;have e1:Int.toNat (((p.Rows.length:Nat):Int)-1)=p.Rows.length-1:=by omega
   have e2:p.Rows.getD (p.Rows.length-1) default=nL p.Rows:=rfl;have hm:=h2 _ (LQ h0);rw [aQ (fun _=>c1),decide_eq_true c1.1];simp only [cX,cond_true,e1,e2,aBx _ e.Row hm.1,Option.bind_some,Bool.true_and];by_cases hq:(nL p.Rows).Row=e.Row
   ·rw [decide_eq_true hq,cond_true,aQ c1,aQ c1];unfold CX;rw [if_pos ⟨h0,hq⟩,cZ (by omega) (by omega)]
   ·rw [decide_eq_false hq,cond_false,GM he.1,Option.bind_some,aQ (by simp only [List.length_cons,List.length_nil]; omega)];unfold CX;rw [if_neg fun hc=>hq hc.2]
  ·have c0:decide ((0:Int)<=((p.Rows.length:Nat):Int)-1)=false:=by rw [decide_eq_false_iff_not]; omega
   rw [aQ (fun hc=>by rw [c0] at hc; cases hc),c0];simp only [cX,cond_false,Option.bind_some,Bool.false_and];rw [GM he.1,Option.bind_some,aQ (by simp only [List.length_cons,List.length_nil]; omega)];unfold CX;rw [if_neg fun hc=>h0 hc.1]

theorem RC {l:List aF}(hl:okL l)(hm:eO l=true){run:List Int}(h0:0<run.length)(h1:run.length<=1000000)(hr:∀ x∈run,0<=x/\x<1125899906842624):sJ l run=some (tP l run):=by
 unfold sJ qR uU;have w1:IntKind.i64.wrap (((run.length:Nat):Int)-1)=((run.length:Nat):Int)-1:=cZ (by omega) (by omega);have e1:Int.toNat (((run.length:Nat):Int)-1)=run.length-1:=by omega
 have hg:∀ i,i<run.length->0<=run.getD i 0/\run.getD i 0<1125899906842624:=fun i hi=>by
  rw [List.getD_eq_getElem?_getD,List.getElem?_eq_getElem hi]; exact hr _ (List.getElem_mem _)
 have ha:=hg 0 h0;have hb:=hg (run.length-1) (by omega);rw [aQ (by omega),w1,aQ (by omega),Option.bind_some,e1,tZ,tZ,show Int.toNat (0:Int)=0 from rfl,cZ (by omega) (by omega)];have hn:=(jQ hm).1
 rw [QL (by omega) (fun (s:aK×aK) e=>(s.1,EN s.2 e)) (fun s r=>SB s.2.Rows r) (fun s e r hI=>⟨fun hrise=>⟨aCp hI hrise,?_⟩,fun _=>VB hI⟩)
  ⟨by simp; omega,by simp,fun e he=>⟨hl.2 e he,(xU hm he).2.2.2.2.1⟩⟩,Option.bind_some,Sum.elim_inl]
 ·have key:∀ (es:List aF) (s:aK×aK),(es.foldl (fun (s:aK×aK) e=>(s.1,EN s.2 e)) s).2=es.foldl EN s.2:=by
   intro es
   induction es with
   | nil=>intro s; rfl
   | cons e es ih=>intro s; rw [List.foldl_cons,List.foldl_cons,ih]
  rw [key];simp only;rw [IY ha.1];have hfl:=GO l;have hsg:=NH (run.getD 0 0) (run.getD (run.length-1) 0+1) (gs:=groups l) (rs:=[]) (jQ hm).2.2 (by simp);rw [hfl] at hsg;rw [hsg,List.nil_append];rfl
 ·simp only;unfold EN;split
  ·exact VB hI
  ·exact aET hI (by simp [pU] at hrise; omega)

def pP (n:Nat)(mk:List Int->aK):List Int->List aK
 | []=>[]
 | x::r=>(if n<=r.length+1 then [mk ((x::r).take n)] else [])++pP n mk r

theorem MV {n:Nat}{mk:List Int->aK}:∀ {r:List Int},r.length<n->pP n mk r=[]
 | [],_=>rfl
 | x::r,h=>by
  simp only [List.length_cons] at h;unfold pP;rw [if_neg (by omega),MV (by omega)]; rfl

theorem TY {n:Nat}{mk:List Int->aK}(hn:0<n):∀ r:List Int,(pP n mk r).length=r.length+1-n
 | []=>by simp [pP]; omega
 | x::r=>by
  unfold pP;rw [List.length_append,TY hn r];simp only [List.length_cons];split
  ·simp; omega
  ·simp; omega

theorem HD {l:List aF}(hl:okL l)(hm:eO l=true){n:Int}(h1:1<=n)(h2:n<=64):∀ (rest:List Int) (out:List aK),(∀ x∈rest,0<=x/\x<1125899906842624)->out.length+rest.length<=1000000 ->
  lp (fun s:List Int×List aK=>mQ l n s.1 s.2) (rest,out)=some (out++pP n.toNat (tP l) rest)
 | [],out,_,_=>by
  refine dF ?_;simp only [mQ,decide_eq_false (show ¬ n<=((([]:List Int).length:Nat):Int) by simp; omega),cond_false];simp [pP]
 | x::r,out,hr,ho=>by
  simp only [List.length_cons] at ho;by_cases hc:n<=(((x::r).length:Nat):Int)
  ·have hlen:n.toNat<=(x::r).length:=by omega
   have ht:((x::r).take n.toNat).length=n.toNat:=by rw [List.length_take]; omega
   have hw:=RC hl hm (run:=(x::r).take n.toNat) (by omega) (by omega) (fun y hy=>hr y (List.mem_of_mem_take hy))
   have hb:mQ l n (x::r) out=some (.inl (r,out++[tP l ((x::r).take n.toNat)])):=by
    simp only [mQ,decide_eq_true hc,cond_true];rw [aQ ⟨by omega,Int.le_refl _,hc⟩,hw,Option.bind_some,aQ (by simp only [List.length_cons,List.length_nil]; omega),aQ ⟨by omega,by simp only [List.length_cons]; omega⟩];rfl
   rw [fT hb,HD hl hm h1 h2 r _ (fun y hy=>hr y (by simp [hy])) (by simp only [List.length_append,List.length_cons,List.length_nil]; omega)]
   conv=>rhs; unfold pP
   simp only [List.length_cons] at hlen;rw [if_pos hlen,List.append_assoc]
  ·have hlen:(x::r).length<n.toNat:=by omega
   rw [MV hlen];refine dF ?_;simp only [mQ,decide_eq_false hc,cond_false,List.append_nil]

def yQ (l:List aF)(n frm:Int):List aK×Int :=
 if rB l n≠0 then ([],rB l n) else if frm<0∨1125899906842624<frm then ([],13) else
 if 1024<(((cM l).drop (dX (cM l) frm)).length:Int)-n+1 then ([],7) else (pP n.toNat (tP l) ((cM l).drop (dX (cM l) frm)),0)

theorem SU {l:List aF}(hl:okL l)(n frm:Int):tV l n frm=some (yQ l n frm):=by
 unfold tV yQ;rw [LX hl,Option.bind_some];by_cases h:rB l n=0
 ·obtain⟨hm,ht,n1,n2⟩:=GC h;obtain⟨f1,f2,f3,f4⟩:=mW hm;rw [decide_eq_true h,Bool.not_true,cond_false,if_neg (by simpa using h)];by_cases h1:frm<0∨1125899906842624<frm
  ·have : (decide (frm<0)||decide (1125899906842624<frm))=true:=by simpa using h1
   rw [this,cond_true,if_pos h1]
  ·have : (decide (frm<0)||decide (1125899906842624<frm))=false:=by simpa using h1
   rw [this,cond_false,if_neg h1,FU (jQ hm).1 (ME hm),Option.bind_some];obtain⟨⟨b,hb⟩,_,_⟩:=QI f2 (by omega) frm;have hle:=uV (cM l) frm;rw [hb,Option.bind_some,aQ ⟨by omega,by omega,Int.le_refl _,Int.le_refl _⟩];simp only [Int.toNat_natCast,List.take_length];have hdl:((cM l).drop (dX (cM l) frm)).length<=4096:=by rw [List.length_drop]; omega
   have w1:IntKind.i64.wrap (IntKind.i64.wrap (((((cM l).drop (dX (cM l) frm)).length:Nat):Int)-n)+1)=((((cM l).drop (dX (cM l) frm)).length:Nat):Int)-n+1:=by
    rw [cZ (n:=((((cM l).drop (dX (cM l) frm)).length:Nat):Int)-n) (by omega) (by omega),cZ (by omega) (by omega)]
   rw [w1];by_cases h3:1024<((((cM l).drop (dX (cM l) frm)).length:Nat):Int)-n+1
   ·rw [decide_eq_true h3,cond_true,if_pos h3]
   ·rw [decide_eq_false h3,cond_false,if_neg h3];unfold wH;rw [HD hl hm n1 n2 _ [] (fun x hx=>f4 x (List.mem_of_mem_drop hx)) (by simp only [List.length_nil]; omega)];rfl
 ·rw [decide_eq_false h,Bool.not_false,cond_true,if_pos h]

end Go.Abs
namespace Go.Abs
open Go
theorem w00:IntKind.i64.wrap 0=0:=cZ (by omega) (by omega)

def qF:Int->Int->List aB->List bJ
 | n,fr,[]=>if 0<n then [⟨fr,1125899906842624⟩] else []
 | n,fr,j::r=>if n+j.Net=0 then ⟨if n=0 then j.At else fr,j.At⟩::qF 0 (if n=0 then j.At else fr) r else qF (n+j.Net) (if n=0 then j.At else fr) r

def EJ (f:List aB):List bJ:=qF 0 0 f

def DG (n:Int)(f:List aB):Prop:=n<=1048576*(2048-f.length) /\ -(1048576*(2048-f.length))<=n/\f.length<=1024

theorem DG.next {n:Int}{j:aB}{r:List aB}(h:DG n (j::r))(hj:j.Net<=1048576 /\ -1048576<=j.Net):DG (n+j.Net) r:=by
 obtain⟨h1,h2,h3⟩:=h;simp only [List.length_cons] at h1 h2 h3;exact⟨by omega,by omega,by omega⟩

theorem DG.small {n:Int}{f:List aB}(h:DG n f):n<=4294967296 /\ -4294967296<=n:=by
 obtain⟨h1,h2,h3⟩:=h;omega

theorem DG.zero {n:Int}{f:List aB}(h:DG n f):DG 0 f:=by
 obtain⟨h1,h2,h3⟩:=h;exact⟨by omega,by omega,h3⟩

theorem ZZ {σ:Type}{y:σ->bJ->Option (σ×Bool)}{f:List aB}(hl:f.length<=1024):∀ (r:List aB) (k:Nat) (last n fr:Int) (s s':σ),f.drop k=r->k<=f.length->qX last r->DG n r->zS y (qF n fr r) s=some s' ->
  ∃ x,lp (fun s:σ×Int×Int×Int=>gW y f ((f.length:Nat):Int) s.1 s.2.1 s.2.2.1 s.2.2.2) (s,n,fr,(k:Int))=some x/\Sum.elim (fun rr=>oP y rr.1 rr.2.1 rr.2.2) (fun rr=>some rr) x=some s':=by
 intro r
 induction r with
 | nil =>
  intro k last n fr s s' hd hk _ _ h
  have hk':k=f.length:=by
   have:=congrArg List.length hd;simp at this; omega
  subst hk';refine⟨.inl (s,n,fr),dF ?_,?_⟩
  ·show gW _ _ _ _ _ _ _=_;simp only [gW,jS,cond_false]
  ·simp only [Sum.elim_inl,oP];by_cases hn:0<n
   ·simp only [qF,hn,if_true,zS] at h;obtain⟨x,hx,h⟩:=aW h;rw [decide_eq_true hn,cond_true,hx];simp only [Option.bind_some]
    cases hx2:x.2 <;> rw [hx2] at h <;> simpa using h
   ·simp only [qF,hn,if_false,zS] at h;rw [decide_eq_false hn,cond_false]; exact h
 | cons j r ih =>
  intro k last n fr s s' hd hk hr hroom h;obtain⟨hget,hd'⟩:=drop_cons hd;have hlt:k<f.length:=(List.getElem?_eq_some_iff.1 hget).1;obtain⟨d1,d2,d3,d4⟩:=idx hget (by omega);have hj:=hr.1;have hnx:=hroom.next ⟨hj.2.2.2.1,hj.2.2.2.2⟩;have hsm:=hnx.small;have hw:IntKind.i64.wrap (n+j.Net)=n+j.Net:=cZ (by omega) (by omega)
  -- what the body does
  have body:gW y f ((f.length:Nat):Int) s n fr (k:Int)=nC y s n (if n=0 then j.At else fr) j f ((f.length:Nat):Int) (k:Int):=by
   simp only [gW,d1,cond_true,aQ d2,d3];by_cases hn:n=0 <;> simp [hn]
  by_cases hz:n+j.Net=0
  ·simp only [qF,hz,if_true,zS] at h;obtain⟨x,hx,h⟩:=aW h
   have hb:(fun s:σ×Int×Int×Int=>gW y f ((f.length:Nat):Int) s.1 s.2.1 s.2.2.1 s.2.2.2) (s,n,fr,(k:Int))=some (if x.2 then .inl (x.1,0,(if n=0 then j.At else fr),((k+1:Nat):Int)) else .inr (.inr x.1)):=by
    show gW _ _ _ _ _ _ _=_;rw [body];simp only [nC,hw,d4,hz,w00,decide_true,CV,cond_true,hx,Option.bind_some,Bool.true_and]
    cases x.2 <;> rfl
   cases hx2:x.2
   ·rw [hx2] at hb h;simp only [Bool.false_eq_true,if_false,Option.some.injEq] at hb h;exact⟨_,dF hb,by simpa using h⟩
   ·rw [hx2] at hb h;simp only [if_true] at hb h;obtain⟨z,hz1,hz2⟩:=ih (k+1) j.At 0 _ x.1 s' hd' (by omega) hr.2 hnx.zero h;exact⟨z,by rw [fT hb]; exact hz1,hz2⟩
  ·simp only [qF,hz,if_false] at h
   have hb:(fun s:σ×Int×Int×Int=>gW y f ((f.length:Nat):Int) s.1 s.2.1 s.2.2.1 s.2.2.2) (s,n,fr,(k:Int))=some (.inl (s,n+j.Net,(if n=0 then j.At else fr),((k+1:Nat):Int))):=by
    show gW _ _ _ _ _ _ _=_;rw [body];simp only [nC,hw,d4,decide_eq_false hz,CV,cond_false,Option.bind_some,Bool.false_and]
   obtain⟨z,hz1,hz2⟩:=ih (k+1) j.At (n+j.Net) _ s s' hd' (by omega) hr.2 hnx h;exact⟨z,by rw [fT hb]; exact hz1,hz2⟩

theorem aBZ {σ:Type}{y:σ->bJ->Option (σ×Bool)}{f:List aB}(hf:eU f=true){s s':σ}(h:zS y (EJ f) s=some s'):sM y f s=some s':=by
 obtain⟨hl,hr⟩:=jO.1 hf;obtain⟨x,h1,h2⟩:=ZZ (y:=y) hl f 0 (-2) 0 0 s s' rfl (by omega) hr ⟨by omega,by omega,hl⟩ h;unfold sM uI;simp only [Int.natCast_zero] at h1;rw [h1];exact h2

theorem JA {x:Int}(hx:x<1125899906842624):∀ {f:List aB} {last n fr:Int},qX last f->(∀ t,0<=n+val f t)->(n≠0->fr<=last) ->
  ((∃ s∈qF n fr f,s.From<=x/\x<s.To)↔(n≠0->fr<=x)/\0<n+val f x)
 | [],last,n,fr,_,hn,_=>by
  have h0:=hn 0;simp only [aBd,Int.add_zero] at h0 ⊢;unfold qF;by_cases h:0<n
  ·rw [if_pos h];simp only [List.mem_singleton];constructor
   ·rintro ⟨s,rfl,h1,h2⟩; exact ⟨fun _=>h1,h⟩
   ·rintro ⟨h1,_⟩; exact ⟨_,rfl,h1 (by omega),hx⟩
  ·rw [if_neg h];simp [h]
 | j::r,last,n,fr,hr,hn,hf=>by
  have hj:=hr.1;have hab:=hr.2.above;have hv:∀ t,t<=j.At->val r t=0:=fun t ht=>xE fun k hk=>by have:=(hab k hk).1; omega
  have hn0:0<=n:=by
   have:=hn (j.At-1);rw [mP,if_neg (by omega),hv _ (by omega)] at this; omega
  have hn1:0<=n+j.Net:=by
   have:=hn j.At;rw [mP,if_pos (by omega),hv _ (by omega)] at this; omega
  have hn2:∀ t,0<=(n+j.Net)+val r t:=fun t=>by
   by_cases ht:j.At<=t
   ·have:=hn t;rw [mP,if_pos ht] at this; omega
   ·rw [hv t (by omega)]; omega
  rw [mP];unfold qF;by_cases hz:n+j.Net=0
  ·rw [if_pos hz];have ih:=JA hx (f:=r) (last:=j.At) (n:=0) (fr:=if n=0 then j.At else fr) hr.2 (fun t=>by have:=hn2 t; omega) (by simp)
   have e:(∃ s∈(⟨if n=0 then j.At else fr,j.At⟩:bJ)::qF 0 (if n=0 then j.At else fr) r,s.From<=x/\x<s.To)↔((if n=0 then j.At else fr)<=x/\x<j.At)∨(∃ s∈qF 0 (if n=0 then j.At else fr) r,s.From<=x/\x<s.To):=by
    simp only [List.mem_cons,or_and_right,exists_or,exists_eq_left]
   rw [e,ih];by_cases hnz:n=0
   ·omega
   ·rw [if_neg hnz];have hfl:=hf hnz;by_cases hxj:j.At<=x
    ·rw [if_pos hxj];constructor
     ·rintro (h | h)
      ·omega
      ·exact⟨fun _=>by omega,by have:=h.2; omega⟩
     ·rintro ⟨_,h⟩; right; exact ⟨by simp,by omega⟩
    ·rw [if_neg hxj,hv x (by omega)];constructor
     ·rintro (h | h)
      ·exact⟨fun _=>h.1,by omega⟩
      ·have:=h.2; omega
     ·rintro ⟨h,_⟩; left; exact ⟨h hnz,by omega⟩
  ·rw [if_neg hz,JA hx (f:=r) (last:=j.At) (n:=n+j.Net) (fr:=if n=0 then j.At else fr) hr.2 hn2 (fun _=>by
    split
    ·exact Int.le_refl _
    ·rename_i h; have:=hf h; omega)]
   by_cases hnz:n=0
   ·simp only [hnz,if_true];by_cases hxj:j.At<=x
    ·rw [if_pos hxj];constructor
     ·rintro ⟨_,h⟩; exact ⟨by simp,by omega⟩
     ·rintro ⟨_,h⟩; exact ⟨fun _=>hxj,by omega⟩
    ·rw [if_neg hxj,hv x (by omega)];constructor
     ·rintro ⟨h,_⟩; exact absurd (h (by omega)) hxj
     ·rintro ⟨_,h⟩; omega
   ·rw [if_neg hnz];by_cases hxj:j.At<=x
    ·rw [if_pos hxj];constructor
     ·rintro ⟨h,h2⟩; exact ⟨fun _=>h hz,by omega⟩
     ·rintro ⟨h,h2⟩; exact ⟨fun _=>h hnz,by omega⟩
    ·rw [if_neg hxj,hv x (by omega)];constructor
     ·rintro ⟨h,h2⟩; exact ⟨fun _=>h hz,by omega⟩
     ·rintro ⟨h,h2⟩; exact ⟨fun _=>h hnz,by omega⟩

theorem GQ:∀ {f:List aB} {last n fr:Int},qX last f -> -2<=last->last<1125899906842624->(n≠0->fr<=last /\ -1<=fr) -> ∀ s∈qF n fr f,-1<=s.From/\s.From<s.To/\s.To<=1125899906842624
 | [],last,n,fr,_,h1,h2,hf,s,hs=>by
  unfold qF at hs;split at hs
  ·simp only [List.mem_singleton] at hs; subst hs;have:=hf (by omega);exact⟨this.2,by show fr<1125899906842624; omega,Int.le_refl _⟩
  ·simp at hs
 | j::r,last,n,fr,hr,h1,h2,hf,s,hs=>by
  have hj:=hr.1
  have key:(if n=0 then j.At else fr)<=j.At /\ -1<=(if n=0 then j.At else fr):=by
   split
   ·omega
   ·rename_i h; have:=hf h; omega
  unfold qF at hs;split at hs
  ·rcases List.mem_cons.1 hs with rfl | hs
   ·rename_i hz
    have hnz:n≠0:=by omega
    have:=hf hnz;refine⟨key.2,?_,by show j.At<=_; omega⟩;show (if n=0 then j.At else fr)<j.At;rw [if_neg hnz]; omega
   ·exact GQ hr.2 (by omega) (by omega) (by simp) s hs
  ·exact GQ hr.2 (by omega) (by omega) (fun _=>key) s hs

theorem PJ {f:List aB}(hf:eU f=true)(hv:∀ t,0<=val f t){x:Int}(hx:x<1125899906842624):(∃ s∈EJ f,s.From<=x/\x<s.To)↔0<val f x:=by
 rw [EJ,JA hx (jO.1 hf).2 (fun t=>by have:=hv t; omega) (by simp)];simp

theorem NR {f:List aB}(hf:eU f=true):∀ s∈EJ f,-1<=s.From/\s.From<s.To/\s.To<=1125899906842624 :=
 GQ (jO.1 hf).2 (by omega) (by omega) (by simp)

def fG (f:List aB)(a b:Int):Int:=val f a+oR (a+1) b f

theorem PO (a b:Int):∀ {f:List aB},(∀ j∈f,j.Net<=1048576)->0<=oR a b f/\oR a b f<=1048576*f.length
 | [],_=>by simp [oR]
 | j::r,h=>by
  have ih:=PO a b (f:=r) fun k hk=>h k (List.mem_cons_of_mem _ hk);have hj:=h j (by simp);rw [zW];simp only [List.length_cons,Int.natCast_add,Int.natCast_one,Int.mul_add,Int.mul_one];by_cases hi:inW a b j=true
  ·rw [if_pos hi];simp only [inW,Bool.and_eq_true,decide_eq_true_eq] at hi;omega
  ·rw [if_neg hi]; omega

theorem RZ {f:List aB}(hf:eU f=true){w:bJ}:vK f w=some (fG f w.From w.To):=by
 obtain⟨hl,hr⟩:=jO.1 hf;have hb:=hr.above;have hv:=KC (f:=f) w.From (show (0:Int)<=1048576 by omega) fun j hj=>⟨(hb j hj).2.2.2.1,(hb j hj).2.2.2.2⟩;unfold vK;rw [aCk,hf];simp only [if_true,Option.bind_some];unfold xW
 have key:=vV (l:=f) (body:=fun s:Int×Int=>qQ w f ((f.length:Nat):Int) s.1 s.2) (fun (n:Int) i=>(n,i)) (fun n r=>n+oR (w.From+1) w.To r)
  (fun n r=>n<=1048576*(2048-r.length) /\ -(1048576*(2048-r.length))<=n/\r.length<=1024 /\ ∀ j∈r,j.Net<=1048576 /\ -1048576<=j.Net) (val f w.From) ?_ ?_ ⟨by omega,by omega,hl,fun j hj=>⟨(hb j hj).2.2.2.1,(hb j hj).2.2.2.2⟩⟩
 ·rw [key];rfl
 ·intro i j r n hj hI;left;obtain⟨d1,d2,d3,d4⟩:=idx hj (by omega);obtain⟨i1,i2,i3,i4⟩:=hI;simp only [List.length_cons] at i1 i2 i3;have i5:=i4 j (by simp);have hmx:(if (0:Int)>j.Net then (0:Int) else j.Net)=if 0<j.Net then j.Net else 0:=by split <;> split <;> omega
  refine⟨n+(if inW (w.From+1) w.To j then j.Net else 0),?_,⟨?_,?_,by omega,fun k hk=>i4 k (List.mem_cons_of_mem _ hk)⟩,by rw [zW]; omega⟩
  ·have e1:inW (w.From+1) w.To j=(decide (0<j.Net)&&((decide (w.From<j.At))&&(decide (j.At<w.To)))):=by
    unfold inW;have : decide (w.From+1<=j.At)=decide (w.From<j.At):=decide_eq_decide.2 (by omega);rw [this]
   simp only [qQ,d1,cond_true,aQ d2,d3,hmx,e1]
   cases hw:(decide (w.From<j.At))&&(decide (j.At<w.To)) with
   | false =>
    simp only [cond_false,qW,d4,Bool.and_false,Bool.false_eq_true,if_false,Int.add_zero]
   | true =>
    have : IntKind.i64.wrap (n+(if 0<j.Net then j.Net else 0))=n+(if 0<j.Net then j.Net else 0):=cZ (by split <;> omega) (by split <;> omega);simp only [cond_true,qW,d4,this,Bool.and_true,decide_eq_true_eq]
  ·split <;> omega
  ·split <;> omega
 ·intro n _;simp only [qQ,jS,cond_false];simp [oR]

theorem YE {a b x:Int}(h1:a<=x)(h2:x<b):∀ f:List aB,val f x<=val f a+oR (a+1) b f
 | []=>by simp [oR,aBd]
 | j::r=>by
  have ih:=YE h1 h2 r;rw [mP,mP,zW];by_cases hi:inW (a+1) b j=true
  ·rw [if_pos hi];simp only [inW,Bool.and_eq_true,decide_eq_true_eq] at hi;split <;> split <;> omega
  ·rw [if_neg hi];have hi:¬ (0<j.Net/\a+1<=j.At/\j.At<b):=by simpa [inW] using hi
   split <;> split <;> omega

theorem ZG:∀ {f:List aB} {last:Int},qX last f -> ∀ j∈f,val f j.At=val f (j.At-1)+j.Net
 | [],_,_,j,hj=>by simp at hj
 | k::r,last,hr,j,hj=>by
  have hab:=hr.2.above;rw [mP,mP];rcases List.mem_cons.1 hj with rfl | hj
  ·rw [if_pos (by omega),if_neg (by omega),xE (f:=r) fun q hq=>(hab q hq).1,xE (f:=r) fun q hq=>by have:=(hab q hq).1; omega];omega
  ·have:=(hab j hj).1;rw [if_pos (by omega),if_pos (by omega),ZG hr.2 j hj];omega

theorem NJ {f:List aB}(hf:eU f=true)(hv:∀ t,0<=val f t){a b:Int}(hab:a<b):0<fG f a b ↔ ∃ x,a<=x/\x<b/\0<val f x:=by
 obtain⟨hl,hr⟩:=jO.1 hf;have hb:=hr.above;have hg:=PO (a+1) b (f:=f) fun j hj=>(hb j hj).2.2.2.1;unfold fG;constructor
 ·intro h;by_cases h0:0<val f a
  ·exact⟨a,Int.le_refl _,hab,h0⟩
  ·have hva:=hv a
   have hne:f.filter (inW (a+1) b)≠[]:=by
    intro hc;unfold oR at h;rw [hc] at h;simp at h; omega
   obtain⟨j,hj⟩:=List.exists_mem_of_ne_nil _ hne;obtain⟨hj1,hj2⟩:=List.mem_filter.1 hj;simp only [inW,Bool.and_eq_true,decide_eq_true_eq] at hj2;have:=ZG hr j hj1;have:=hv (j.At-1);exact⟨j.At,by omega,by omega,by omega⟩
 ·rintro ⟨x,h1,h2,h3⟩;have:=YE h1 h2 f;omega

end Go.Abs
namespace Go.Abs
open Go
theorem UG {n:Nat}{mk:List Int->aK}{p:aK}:∀ {r:List Int},p∈pP n mk r -> ∃ run,p=mk run
 | [],h=>by simp [pP] at h
 | x::r,h=>by
  unfold pP at h;rcases List.mem_append.1 h with h | h
  ·split at h
   ·simp at h; exact ⟨_,h⟩
   ·simp at h
  ·exact UG h

theorem aDK {gs:List (List aI×List aB)}(hg:∀ g∈gs,eU g.2=true/\g.1.length<=4398046510976)(hn:gs.length<=1000000)(a b:Int):okC (AN a b gs):=by
 refine⟨by have : (AN a b gs).length<=gs.length:=List.length_filterMap_le ..; omega,fun c hc=>?_⟩;obtain⟨g,h1,h2⟩:=List.mem_filterMap.1 hc;split at h2
 ·simp only [Option.some.injEq] at h2; subst h2;have:=(hg g h1).2; simp only; omega
 ·cases h2

theorem aBz {l:List aF}(hl:okL l)(n frm:Int):(yQ l n frm).1.length<=4097 /\ ∀ p∈(yQ l n frm).1,okC p.Rows:=by
 unfold yQ;by_cases h:rB l n=0
 ·obtain⟨hm,ht,n1,n2⟩:=GC h;obtain⟨g1,g2⟩:=DQ hl hm;obtain⟨_,_,f3,_⟩:=mW hm;rw [if_neg (by simpa using h)];split
  ·simp
  ·split
   ·simp
   ·simp only;refine⟨by rw [TY (by omega),List.length_drop]; omega,fun p hp=>?_⟩;obtain⟨run,rfl⟩:=UG hp;exact aDK g1 (by omega) _ _
 ·rw [if_pos h]; simp

end Go.Abs
namespace Go.Abs
open Go
theorem UW {β:Type}{k:Int}{v:β}:∀ {m:List (Int×β)},k∈m.map (·.1)->(fB m k v).map (·.1)=m.map (·.1)
 | [],h=>by simp at h
 | p::m,h=>by
  by_cases hp:p.1=k
  ·simp [fB,hp]
  ·simp only [List.map_cons,List.mem_cons] at h;rcases h with h | h
   ·exact absurd h.symm hp
   ·simp only [fB,hp,if_false,List.map_cons,UW h]

theorem UP {β:Type}{k:Int}{v:β}{m:List (Int×β)}(h:k ∉ m.map (·.1)):(fB m k v).map (·.1)=m.map (·.1)++[k]:=by
 rw [IE fun p hp e=>h (List.mem_map.2 ⟨p,hp,e⟩)]; simp

theorem LR {β:Type}{k:Int}:∀ {m:List (Int×β)},gK m k=none↔k ∉ m.map (·.1)
 | []=>by simp [gK]
 | p::m=>by
  rw [gK];by_cases hp:p.1=k
  ·simp [hp]
  ·rw [if_neg hp,LR (m:=m)];simp only [List.map_cons,List.mem_cons,not_or];exact⟨fun h=>⟨fun e=>hp e.symm,h⟩,fun h=>h.2⟩

theorem MC {β:Type}{k x:Int}{v:β}:∀ {m:List (Int×β)},gK (fB m k v) x=if x=k then some v else gK m x
 | []=>by
  simp only [fB,gK];by_cases h:k=x
  ·simp [h]
  ·rw [if_neg h,if_neg (fun e=>h e.symm)]
 | p::m=>by
  by_cases hp:p.1=k
  ·simp only [fB,if_pos hp,gK];by_cases h:k=x
   ·simp [h]
   ·rw [if_neg h,if_neg (fun e=>h e.symm),if_neg (by rw [hp]; exact h)]
  ·simp only [fB,if_neg hp,gK];by_cases h:p.1=x
   ·rw [if_pos h,if_pos h,if_neg (fun e=>hp (h.trans e))]
   ·rw [if_neg h,if_neg h,MC (m:=m)]

theorem JS {S α:Type}{f:S->α->Option S}:∀ {a b:List α} {s:S},dR f s (a++b)=(dR f s a).bind fun s'=>dR f s' b
 | [],b,s=>rfl
 | x::a,b,s=>by
  simp only [List.cons_append,dR]
  cases f s x with
  | none=>rfl
  | some s'=>exact JS (a:=a)

def mkW (size t:Int):aK:=⟨⟨t,min (t+size) 1125899906842624⟩,[]⟩

def jW (g:List aI×List aB)(p:aK):aK :=
 if p.Rows=[]∨(nL p.Rows).Row≠g.1 then ⟨p.Span,p.Rows++[⟨g.1,fG g.2 p.Span.From p.Span.To⟩]⟩ else p

def nB (size:Int)(g:List aI×List aB)(m:List (Int×aK))(t:Int):Option (List (Int×aK)) :=
 match gK m t with
 | none=>if m.length=1024 then none else some (fB m t (jW g (mkW size t)))
 | some p=>some (fB m t (jW g p))

theorem AR (rs:List bC)(c:bC):nL (rs++[c])=c:=by
 unfold nL;have : (rs++[c]).length-1=rs.length:=by simp
 rw [this,List.getD_eq_getElem?_getD,List.getElem?_append_right (Nat.le_refl _)];simp

theorem aAx (g:List aI×List aB)(p:aK):(jW g p).Rows≠[]/\(nL (jW g p).Rows).Row=g.1:=by
 unfold jW;split
 ·exact⟨by simp,by rw [AR]⟩
 ·rename_i h
  simp only [not_or,Decidable.not_not] at h;exact h

theorem XP (g:List aI×List aB)(p:aK):jW g (jW g p)=jW g p:=by
 obtain⟨h1,h2⟩:=aAx g p
 have key:∀ q:aK,q.Rows≠[]->(nL q.Rows).Row=g.1->jW g q=q:=fun q a b=>by
  unfold jW;rw [if_neg (by simp [a,b])]
 exact key _ h1 h2

theorem KL {g:List aI×List aB}(hg:eU g.2=true)(hr:g.1.length<=4398046510976){p:aK}(hp:p.Rows.length<=1000000)(hlr:p.Rows≠[]->(nL p.Rows).Row.length<=4398046510976):pX g.1 g.2 p=some (jW g p):=by
 unfold pX;have hlen:IntKind.i64.wrap (((List.length p.Rows:Nat):Int)-1)=((List.length p.Rows:Nat):Int)-1:=cZ (by omega) (by omega);simp only [wR,lN,gD,hlen]
 cases hR:p.Rows with
 | nil =>
  have h0:decide ((((List.length ([]:List bC):Nat):Int)-1)<0)=true:=by decide
  simp only [h0,Bool.not_true,Bool.true_or,cond_true,cX,cond_false,Option.bind_some];rw [aQ (by simp)];rw [DL hr,Option.bind_some,RZ hg,Option.bind_some,aQ (by simp)];unfold jW;rw [if_pos (.inl hR),hR]
 | cons c rs =>
  have hl2:(c::rs).length<=1000000:=by rw [←hR]; exact hp
  have hge:0<=(((List.length (c::rs):Nat):Int)-1)/\(((List.length (c::rs):Nat):Int)-1)<((List.length (c::rs):Nat):Int):=by simp only [List.length_cons]; omega
  have h0:decide ((((List.length (c::rs):Nat):Int)-1)<0)=false:=decide_eq_false (by omega)
  have hlast:List.getD (c::rs) (Int.toNat (((List.length (c::rs):Nat):Int)-1)) default=nL (c::rs):=by
   unfold nL
   congr 1
   omega
  rw [h0];simp only [Bool.not_false,Bool.false_or,cX,cond_true];rw [aQ (fun _=>hge),hlast]
  have hsame:sF (nL (c::rs)).Row g.1=some (decide ((nL (c::rs)).Row=g.1)):=by
   have:=hlr (by rw [hR]; simp);rw [hR] at this;exact IZ _ _ (by omega)
  rw [hsame,Option.bind_some];unfold jW;rw [hR];by_cases hq:(nL (c::rs)).Row=g.1
  ·rw [decide_eq_true hq,if_neg (by simp [hq])]; rfl
  ·rw [decide_eq_false hq,if_pos (.inr hq)];simp only [Bool.not_false,cond_true];rw [DL hr,Option.bind_some,RZ hg,Option.bind_some,aQ (by simp only [List.length_cons,List.length_nil] at hl2 ⊢; omega)]

def OD (n:Nat)(r:List aI)(p:aK):Prop:=(p.Rows.length<=n∨(p.Rows≠[]/\(nL p.Rows).Row=r/\p.Rows.length<=n+1))/\(p.Rows≠[]->(nL p.Rows).Row.length<=4398046510976)

theorem OD.add {n:Nat}{g:List aI×List aB}(hr:g.1.length<=4398046510976){p:aK}(h:OD n g.1 p):OD n g.1 (jW g p):=by
 obtain⟨h,h'⟩:=h;unfold jW;split
 ·rename_i hc
  refine⟨.inr ⟨by simp,by rw [AR],?_⟩,fun _=>by rw [AR]; exact hr⟩;rcases h with h | ⟨h1,h2,h3⟩
  ·simp; omega
  ·rcases hc with hc | hc
   ·exact absurd hc h1
   ·exact absurd h2 hc
 ·exact⟨h,h'⟩

def II (n:Nat)(r:List aI)(m:List (Int×aK)):Prop:=∀ t p,gK m t=some p->OD n r p

theorem aEE {size:Int}{g:List aI×List aB}(hg:eU g.2=true)(hr:g.1.length<=4398046510976){n:Nat}(hn:n<=900000){m:List (Int×aK)}(hm:II n g.1 m){t:Int}(h0:0<=t)(h1:t<1125899906842624)(hs0:0<=size)(hs:size<=1099511627776)(b:Bool) :
  (∀ m',nB size g m t=some m'->oE g.1 g.2 size b m t=some (.inl (b,m'))/\II n g.1 m')/\(nB size g m t=none->oE g.1 g.2 size b m t=some (.inr (false,m))):=by
 unfold nB oE;have small:∀ p,OD n g.1 p->p.Rows.length<=1000000:=fun p hp=>by rcases hp.1 with h | ⟨_,_,h⟩ <;> omega
 have put:∀ p,OD n g.1 p->II n g.1 (fB m t (jW g p)):=by
  intro p hp t' p' h;rw [MC] at h;split at h
  ·cases h; exact hp.add hr
  ·exact hm t' p' h
 cases hgt:gK m t with
 | none =>
  simp only;have hw:IntKind.i64.wrap (t+size)=t+size:=cZ (by omega) (by omega)
  have hmk:(aK.mk (bJ.mk t (if (1125899906842624:Int)<(wR (t+size)) then (1125899906842624:Int) else (wR (t+size)))) [])=mkW size t:=by
   unfold mkW;simp only [wR,hw]
   congr 2
   rw [Int.min_def]; split <;> split <;> omega
  have hf:OD n g.1 (mkW size t):=⟨.inl (by simp [mkW]),fun h=>absurd rfl h⟩;rw [hmk,KL hg hr (small _ hf) hf.2];by_cases hl:m.length=1024
  ·have : decide ((lN m)=(1024:Int))=true:=decide_eq_true (by simp only [lN]; omega);rw [this,if_pos hl];exact⟨fun m' h=>(by cases h),fun _=>rfl⟩
  ·have : decide ((lN m)=(1024:Int))=false:=decide_eq_false (by simp only [lN]; omega);rw [this,if_neg hl];refine⟨fun m' h=>?_,fun h=>(by cases h)⟩
   cases h
   exact⟨rfl,put _ hf⟩
 | some p =>
  simp only;have hf:=hm t p hgt;rw [KL hg hr (small _ hf) hf.2];refine⟨fun m' h=>?_,fun h=>(by cases h)⟩
  cases h
  exact⟨rfl,put _ hf⟩

theorem XA {size:Int}{g:List aI×List aB}(hg:eU g.2=true)(hr:g.1.length<=4398046510976){n:Nat}(hn:n<=900000)(hs0:0<=size)(hs:size<=1099511627776)(b:Bool):∀ (ts:List Int) (m:List (Int×aK)),II n g.1 m->(∀ t∈ts,0<=t/\t<1125899906842624) ->
  ∃ x,zS (fun st t=>rnd (fun (q:Bool×List (Int×aK))=>oE g.1 g.2 size q.1 q.2 t) st) ts (.inl (b,m))=some x/\(∀ m',dR (nB size g) m ts=some m'->x=.inl (b,m')/\II n g.1 m')/\(dR (nB size g) m ts=none -> ∃ q,q.1=false/\x=.inr q)
 | [],m,hm,_=>⟨_,rfl,fun m' h=>by simp only [dR,Option.some.injEq] at h; subst h; exact ⟨rfl,hm⟩,fun h=>by simp [dR] at h⟩
 | t::ts,m,hm,ht=>by
  obtain⟨h0,h1⟩:=ht t (by simp);obtain⟨a1,a2⟩:=aEE hg hr hn hm h0 h1 hs0 hs b;simp only [zS,dR]
  cases hst:nB size g m t with
  | none =>
   have e:=a2 hst;refine⟨.inr (false,m),?_,fun m' h=>(by simp at h),fun _=>⟨_,rfl,rfl⟩⟩;simp only [rnd,e,Option.bind_some,Sum.isLeft_inr,Bool.false_eq_true,if_false]
  | some m1 =>
   obtain⟨e,hm1⟩:=a1 m1 hst;obtain⟨x,e1,e2,e3⟩:=XA hg hr hn hs0 hs b ts m1 hm1 fun t' h'=>ht t' (by simp [h']);refine⟨x,?_,e2,e3⟩;simp only [rnd,e,Option.bind_some,Sum.isLeft_inl,if_true];exact e1

def pF (size hop frm front:Int)(f:List aB):List Int:=(EJ f).flatMap (tX size hop frm front)

theorem JL {size hop frm front:Int}(ok:OkH size hop frm front)(s:bJ):∀ t∈tX size hop frm front s,0<=t/\t<1125899906842624:=by
 intro t ht;unfold tX at ht;have h1:=(aDe (b:=xC front s) ok.h0 (vO size hop frm s)).2 t ht;obtain⟨k,_,h2⟩:=(XI ok.h0 _).1 ht;have h3:=(tF (n:=s.From-size) ok.h0).1;have h4:iN hop (s.From-size)<=vO size hop frm s:=Int.le_max_left _ _;have h5:xC front s<=1125899906842624:=Int.min_le_right _ _;omega

theorem WW {size hop frm front:Int}(ok:OkH size hop frm front){g:List aI×List aB}(hg:eU g.2=true)(hr:g.1.length<=4398046510976){n:Nat}(hn:n<=900000)(b:Bool):∀ (ss:List bJ) (m:List (Int×aK)),II n g.1 m->(∀ s∈ss,-1<=s.From/\s.From<s.To/\s.To<=1125899906842624) ->
  ∃ x,zS (fun st s=>rnd (fun (q:Bool×List (Int×aK))=>pY g.1 g.2 size hop frm front q.1 q.2 s) st) ss (.inl (b,m))=some x/\(∀ m',dR (nB size g) m (ss.flatMap (tX size hop frm front))=some m'->x=.inl (b,m')/\II n g.1 m')/\(dR (nB size g) m (ss.flatMap (tX size hop frm front))=none -> ∃ q,q.1=false/\x=.inr q)
 | [],m,hm,_=>⟨_,rfl,fun m' h=>by simp only [List.flatMap_nil,dR,Option.some.injEq] at h; subst h; exact ⟨rfl,hm⟩,fun h=>by simp [dR] at h⟩
 | s::ss,m,hm,hs=>by
  have hsp:=hs s (by simp);obtain⟨x,e1,e2,e3⟩:=XA hg hr hn (size:=size) (by have:=ok.s0; omega) ok.s1 b (tX size hop frm front s) m hm (JL ok s)
  have hl:pY g.1 g.2 size hop frm front b m s=(Sum.elim (fun q=>some (.inl q)) (fun q=>some (.inr q)) x:Option ((Bool×List (Int×aK))⊕(Bool×List (Int×aK)))):=by
   unfold pY;simp only [BD,Option.bind_some];rw [aBF ok hsp.1 (by omega) e1];rfl
  simp only [zS,List.flatMap_cons,JS]
  cases hst:dR (nB size g) m (tX size hop frm front s) with
  | none =>
   obtain⟨q,hq,rfl⟩:=e3 hst;refine⟨.inr q,?_,fun m' h=>(by simp at h),fun _=>⟨_,hq,rfl⟩⟩;simp only [rnd,hl,Sum.elim_inr,Option.bind_some,Sum.isLeft_inr,Bool.false_eq_true,if_false]
  | some m1 =>
   obtain⟨rfl,hm1⟩:=e2 m1 hst;obtain⟨x,f1,f2,f3⟩:=WW ok hg hr hn b ss m1 hm1 fun s' h'=>hs s' (by simp [h']);refine⟨x,?_,f2,f3⟩;simp only [rnd,hl,Sum.elim_inl,Option.bind_some,Sum.isLeft_inl,if_true];exact f1

theorem aDg {size hop frm front:Int}(ok:OkH size hop frm front){g:List aI×List aB}(hg:eU g.2=true)(hr:g.1.length<=4398046510976){n:Nat}(hn:n<=900000){m:List (Int×aK)}(hm:II n g.1 m) :
  ∃ x,xL m g.1 g.2 size hop frm front=some x/\(∀ m',dR (nB size g) m (pF size hop frm front g.2)=some m'->x=(true,m')/\II n g.1 m')/\(dR (nB size g) m (pF size hop frm front g.2)=none->x.1=false):=by
 obtain⟨x,e1,e2,e3⟩:=WW ok hg hr hn false (EJ g.2) m hm (NR hg);unfold xL;simp only [CD,Option.bind_some];rw [aBZ hg e1,Option.bind_some];unfold pF
 cases hst:dR (nB size g) m ((EJ g.2).flatMap (tX size hop frm front)) with
 | none =>
  obtain⟨q,hq,rfl⟩:=e3 hst;exact⟨_,rfl,fun m' h=>(by cases h),fun _=>hq⟩
 | some m1 =>
  obtain⟨rfl,hm1⟩:=e2 m1 hst;exact⟨_,rfl,fun m' h=>(by cases h; exact ⟨rfl,hm1⟩),fun h=>(by cases h)⟩

end Go.Abs
namespace Go.Abs
open Go
theorem zJ {hop n x:Int}(hh:1<=hop)(h0:0<=x)(hx:∃ k:Int,x=k*hop)(h:n<x):iN hop n<=x:=by
 unfold iN;split
 ·exact h0
 ·obtain⟨k,rfl⟩:=hx;have hf:=LK (n:=n) hh
  have : n / hop<k:=by
   rcases Int.lt_or_le (n / hop) k with h1 | h1
   ·exact h1
   ·have:=Int.mul_le_mul_of_nonneg_right h1 (show 0<=hop by omega);omega
  exact Int.mul_le_mul_of_nonneg_right (show n / hop+1<=k by omega) (by omega)

theorem aAo {size hop frm:Int}{s:bJ}(hh:1<=hop)(hf:0<=frm):0<=vO size hop frm s/\(∃ k:Int,vO size hop frm s=k*hop)/\s.From-size<vO size hop frm s/\frm<=vO size hop frm s /\
  ∀ x:Int,0<=x->(∃ k:Int,x=k*hop)->s.From-size<x->frm<=x->vO size hop frm s<=x:=by
 obtain⟨a1,a2,_,_,a5⟩:=tF (n:=s.From-size) hh;obtain⟨b1,b2,_,_,b5⟩:=tF (n:=frm-1) hh;unfold vO;refine⟨by omega,?_,by omega,by omega,fun x x0 xk x1 x2=>?_⟩
 ·rcases Int.le_total (iN hop (s.From-size)) (iN hop (frm-1)) with h | h
  ·rw [Int.max_eq_right h]; exact b5
  ·rw [Int.max_eq_left h]; exact a5
 ·have c1:=zJ hh x0 xk x1;have c2:=zJ hh x0 xk (show frm-1<x by omega);omega

theorem NI {size hop frm front:Int}(ok:OkH size hop frm front){s:bJ}{x:Int}:x∈tX size hop frm front s↔0<=x/\(∃ k:Int,x=k*hop)/\frm<=x/\x<front/\x<1125899906842624/\s.From-size<x/\x<s.To:=by
 obtain⟨f1,⟨q,f2⟩,f3,f4,f5⟩:=aAo (size:=size) (s:=s) ok.h0 ok.f0;have hb:x<xC front s↔x<s.To/\x<front/\x<1125899906842624:=by unfold xC; omega
 unfold tX;rw [XI ok.h0];constructor
 ·rintro ⟨k,h1,h2⟩;have h3:=hb.1 h2;have h4:0<=(k:Int)*hop:=Int.mul_nonneg (by omega) (by have:=ok.h0; omega);refine⟨by omega,⟨q+k,?_⟩,by omega,h3.2.1,h3.2.2,by omega,h3.1⟩;rw [Int.add_mul]; omega
 ·rintro ⟨h1,⟨k,hk⟩,h2,h3,h4,h5,h6⟩;have h7:=f5 x h1 ⟨k,hk⟩ h5 h2
  have h8:q<=k:=by
   rcases Int.lt_or_le k q with hlt | hle
   ·have u:=Int.mul_le_mul_of_nonneg_right (show k+1<=q by omega) (show 0<=hop by have:=ok.h0; omega);have u0:=ok.h0;rw [Int.add_mul] at u;omega
   ·exact hle
  refine⟨(k-q).toNat,?_,hb.2 ⟨h6,h3,h4⟩⟩;rw [Int.toNat_of_nonneg (by omega),Int.sub_mul]; omega

theorem aCj {size hop frm front:Int}(hm:zM size hop=true)(h1:pN frm=true)(h2:pN front=true):OkH size hop frm front:=by
 have a:=LC hm; have b:=DH h1; have c:=DH h2;exact⟨a.1,a.2.1,a.2.2.1,a.2.2.2,b.1,b.2,c.1,c.2⟩

end Go.Abs
namespace Go.Abs
open Go
abbrev G1:=List aI×List aB

def iO (size t:Int):Int:=min (t+size) 1125899906842624

def xS (size t:Int)(gs:List G1):List bC:=gs.filterMap fun g=>if 0<fG g.2 t (iO size t) then some ⟨g.1,fG g.2 t (iO size t)⟩ else none

def sY (size hop frm front:Int)(gs:List G1)(m:List (Int×aK)):Option (List (Int×aK)):=dR (fun m g=>dR (nB size g) m (pF size hop frm front g.2)) m gs

def yV (size hop frm front:Int)(gs:List G1):List Int:=gs.flatMap fun g=>pF size hop frm front g.2

def BN (size hop frm front:Int)(gs:List G1):List Int:=(yV size hop frm front gs).foldl (fun c t=>jP t c) []

def yI (c:List Int)(ts:List Int):List Int:=ts.foldl (fun c t=>jP t c) c

theorem FW (c:List Int)(t:Int)(ts:List Int):yI c (t::ts)=yI (jP t c) ts:=rfl

theorem aAt (c a b:List Int):yI c (a++b)=yI (yI c a) b:=List.foldl_append ..

theorem OF {last:Int}:∀ {ts c:List Int},Inc last c->(∀ t∈ts,last<t/\t<1125899906842624)->Inc last (yI c ts)
 | [],c,h,_=>h
 | t::ts,c,h,ht=>by
  rw [FW];exact OF (CQ h (ht t (by simp)).1 (ht t (by simp)).2) fun x hx=>ht x (by simp [hx])

theorem YA {x:Int}:∀ {ts c:List Int},x∈yI c ts↔x∈ts∨x∈c
 | [],c=>by simp [yI]
 | t::ts,c=>by
  rw [FW,YA,GI];simp only [List.mem_cons];constructor
  ·rintro (h | h | h)
   ·exact .inl (.inr h)
   ·exact .inl (.inl h)
   ·exact .inr h
  ·rintro ((h | h) | h)
   ·exact .inr (.inl h)
   ·exact .inl h
   ·exact .inr (.inr h)

theorem RG {t:Int}:∀ {ps:List Int},ps.length<=(jP t ps).length
 | []=>by simp [jP]
 | p::r=>by
  unfold jP;split
  ·exact Nat.le_refl _
  ·split
   ·simp
   ·simp only [List.length_cons];have:=RG (t:=t) (ps:=r);omega

theorem KP:∀ {ts c:List Int},c.length<=(yI c ts).length
 | [],c=>Nat.le_refl _
 | t::ts,c=>by
  rw [FW];exact Nat.le_trans RG KP

theorem QY {size:Int}{g:G1}{last:Int}:∀ {ts:List Int} {m:List (Int×aK)} {c:List Int},Inc last c->(∀ t∈ts,last<t/\t<1125899906842624)->(m.map (·.1)).Perm c->m.length<=1024 ->
  (∀ m',dR (nB size g) m ts=some m'->(m'.map (·.1)).Perm (yI c ts)/\m'.length<=1024)/\(dR (nB size g) m ts=none->1024<(yI c ts).length)
 | [],m,c,_,_,hp,hl=>⟨fun m' h=>by simp only [dR,Option.some.injEq] at h; subst h; exact ⟨hp,hl⟩,fun h=>by simp [dR] at h⟩
 | t::ts,m,c,hi,ht,hp,hl=>by
  have ht0:=ht t (by simp);have hi':=CQ hi ht0.1 ht0.2;have rec1:=fun (m1:List (Int×aK))=>QY (size:=size) (g:=g) (last:=last) (ts:=ts) (m:=m1) (c:=jP t c) hi' (fun x hx=>ht x (by simp [hx]));simp only [dR,FW]
  cases hg:gK m t with
  | none =>
   have hk:t ∉ m.map (·.1):=LR.1 hg;have hk':t ∉ c:=fun h=>hk (hp.mem_iff.2 h);have hw:=IN hk';by_cases hf:m.length=1024
   ·have e:nB size g m t=none:=by unfold nB; rw [hg]; simp [hf]
    rw [e];refine⟨fun m' h=>(by simp at h),fun _=>?_⟩;have h1:=hw.length_eq;have h2:=hp.length_eq;have h3:=KP (ts:=ts) (c:=jP t c);simp only [List.length_map,List.length_cons] at h1 h2;omega
   ·have e:nB size g m t=some (fB m t (jW g (mkW size t))):=by unfold nB; rw [hg]; simp [hf]
    rw [e]
    have hp':((fB m t (jW g (mkW size t))).map (·.1)).Perm (jP t c):=by
     rw [UP hk];exact (List.perm_append_comm.trans (List.Perm.cons _ hp)).trans hw.symm
    refine rec1 _ hp' ?_;have h1:=congrArg List.length (UP (v:=jW g (mkW size t)) hk);simp only [List.length_map,List.length_append,List.length_cons,List.length_nil] at h1;omega
  | some p =>
   have e:nB size g m t=some (fB m t (jW g p)):=by unfold nB; rw [hg]
   rw [e]
   have hk:t∈m.map (·.1):=by
    refine Decidable.byContradiction fun h=>?_;rw [LR.2 h] at hg; cases hg
   have hw:jP t c=c:=JB hi (hp.mem_iff.1 hk);have hk2:=UW (v:=jW g p) hk;refine rec1 _ (by rw [hk2,hw]; exact hp) ?_;have h1:=congrArg List.length hk2;simp only [List.length_map] at h1;omega

theorem FB {size hop frm front:Int}(ok:OkH size hop frm front)(f:List aB):∀ t∈pF size hop frm front f,-1<t/\t<1125899906842624:=by
 intro t ht;obtain⟨s,_,hs⟩:=List.mem_flatMap.1 ht;have:=JL ok s t hs;omega

theorem QM {size hop frm front:Int}(ok:OkH size hop frm front):∀ {gs:List G1} {m:List (Int×aK)} {c:List Int},Inc (-1) c->(m.map (·.1)).Perm c->m.length<=1024 ->
  (∀ m',sY size hop frm front gs m=some m'->(m'.map (·.1)).Perm (yI c (yV size hop frm front gs))/\m'.length<=1024)/\(sY size hop frm front gs m=none->1024<(yI c (yV size hop frm front gs)).length)
 | [],m,c,_,hp,hl=>⟨fun m' h=>by simp only [sY,dR,Option.some.injEq] at h; subst h; exact ⟨hp,hl⟩,fun h=>by simp [sY,dR] at h⟩
 | g::gs,m,c,hi,hp,hl=>by
  obtain⟨k1,k2⟩:=QY (size:=size) (g:=g) hi (FB ok g.2) hp hl;have e:yV size hop frm front (g::gs)=pF size hop frm front g.2++yV size hop frm front gs:=rfl;rw [e,aAt];simp only [sY,dR]
  cases hs:dR (nB size g) m (pF size hop frm front g.2) with
  | none =>
   refine⟨fun m' h=>(by simp at h),fun _=>?_⟩;have:=k2 hs;have:=KP (ts:=yV size hop frm front gs) (c:=yI c (pF size hop frm front g.2));omega
  | some m1 =>
   obtain⟨p1,p2⟩:=k1 m1 hs;exact QM ok (gs:=gs) (m:=m1) (OF hi (FB ok g.2)) p1 p2

theorem VI {size:Int}{g:G1}(x:Int):∀ {ts:List Int} {m m':List (Int×aK)},dR (nB size g) m ts=some m'->gK m' x=if x∈ts then some (jW g ((gK m x).getD (mkW size x))) else gK m x
 | [],m,m',h=>by simp only [dR,Option.some.injEq] at h; subst h; simp
 | t::ts,m,m',h=>by
  simp only [dR] at h;obtain⟨m1,h1,h2⟩:=aW h
  have e:∃ p,m1=fB m t (jW g p)/\p=(gK m t).getD (mkW size t):=by
   unfold nB at h1
   cases hg:gK m t with
   | none =>
    rw [hg] at h1;simp only at h1;split at h1
    ·cases h1
    ·cases h1; exact ⟨_,rfl,rfl⟩
   | some p=>rw [hg] at h1; cases h1; exact ⟨_,rfl,rfl⟩
  obtain⟨p,rfl,rfl⟩:=e;rw [VI x h2,MC];by_cases hx:x=t
  ·subst hx;simp only [if_true,List.mem_cons,true_or,Option.getD_some,XP,ite_self]
  ·simp only [hx,if_false,List.mem_cons,false_or]

def AW (size hop frm front x:Int)(o:Option aK)(gs:List G1):Option aK :=
 gs.foldl (fun o g=>if x∈pF size hop frm front g.2 then some (jW g (o.getD (mkW size x))) else o) o

theorem TO {size hop frm front:Int}(x:Int):∀ {gs:List G1} {m m':List (Int×aK)},sY size hop frm front gs m=some m'->gK m' x=AW size hop frm front x (gK m x) gs
 | [],m,m',h=>by simp only [sY,dR,Option.some.injEq] at h; subst h; rfl
 | g::gs,m,m',h=>by
  simp only [sY,dR] at h;obtain⟨m1,h1,h2⟩:=aW h;have:=TO x (gs:=gs) h2;rw [this,VI x h1];rfl

def wP (size hop frm front x:Int)(gs:List G1):List bC:=gs.filterMap fun g=>if x∈pF size hop frm front g.2 then some ⟨g.1,fG g.2 x (iO size x)⟩ else none

theorem IU {size hop frm front x:Int}:∀ {gs:List G1} {rs:List bC},uR gs->rs≠[]->(∀ g∈gs,(nL rs).Row≠g.1)->AW size hop frm front x (some ⟨⟨x,iO size x⟩,rs⟩) gs=some ⟨⟨x,iO size x⟩,rs++wP size hop frm front x gs⟩
 | [],rs,_,_,_=>by simp [AW,wP]
 | g::gs,rs,hs,hn,hl=>by
  have hs':=List.pairwise_cons.1 hs;have hg:=hl g (by simp);simp only [AW,List.foldl_cons,Option.getD_some];by_cases hx:x∈pF size hop frm front g.2
  ·rw [if_pos hx]
   have e:jW g ⟨⟨x,iO size x⟩,rs⟩=⟨⟨x,iO size x⟩,rs++[⟨g.1,fG g.2 x (iO size x)⟩]⟩:=by
    unfold jW;rw [if_pos (.inr hg)]
   rw [e]
   have:=IU (size:=size) (hop:=hop) (frm:=frm) (front:=front) (x:=x) (gs:=gs) (rs:=rs++[⟨g.1,fG g.2 x (iO size x)⟩]) hs'.2 (by simp) (fun q hq=>by
    rw [AR];intro h;have:=hs'.1 q hq;unfold ltG at this;rw [show g.1=q.1 from h] at this;exact sR this)
   unfold AW at this;rw [this];simp [wP,hx]
  ·rw [if_neg hx];have:=IU (size:=size) (hop:=hop) (frm:=frm) (front:=front) (x:=x) (gs:=gs) (rs:=rs) hs'.2 hn (fun q hq=>hl q (by simp [hq]));unfold AW at this;rw [this];simp [wP,hx]

theorem QZ {size hop frm front x:Int}:∀ {gs:List G1},uR gs->AW size hop frm front x none gs=if wP size hop frm front x gs=[] then none else some ⟨⟨x,iO size x⟩,wP size hop frm front x gs⟩
 | [],_=>by simp [AW,wP]
 | g::gs,hs=>by
  have hs':=List.pairwise_cons.1 hs;simp only [AW,List.foldl_cons,Option.getD_none];by_cases hx:x∈pF size hop frm front g.2
  ·rw [if_pos hx]
   have e:jW g (mkW size x)=⟨⟨x,iO size x⟩,[⟨g.1,fG g.2 x (iO size x)⟩]⟩:=by
    unfold jW mkW;rw [if_pos (.inl rfl)]; rfl
   rw [e]
   have:=IU (size:=size) (hop:=hop) (frm:=frm) (front:=front) (x:=x) (gs:=gs) (rs:=[⟨g.1,fG g.2 x (iO size x)⟩]) hs'.2 (by simp) (fun q hq h=>by
    have h1:=hs'.1 q hq;unfold ltG at h1;have h2:g.1=q.1:=h;rw [h2] at h1;exact sR h1)
   unfold AW at this;rw [this];simp [wP,hx]
  ·rw [if_neg hx];have:=QZ (size:=size) (hop:=hop) (frm:=frm) (front:=front) (x:=x) (gs:=gs) hs'.2;unfold AW at this;rw [this];have e:wP size hop frm front x (g::gs)=wP size hop frm front x gs:=by simp [wP,hx]
   rw [e]

theorem DI {size hop frm front:Int}(ok:OkH size hop frm front){f:List aB}(hf:eU f=true)(hv:∀ t,0<=val f t){x:Int}:x∈pF size hop frm front f↔(0<=x/\(∃ k:Int,x=k*hop)/\frm<=x/\x<front/\x<1125899906842624)/\0<fG f x (iO size x):=by
 have hs0:=ok.s0;unfold pF;rw [List.mem_flatMap];constructor
 ·rintro ⟨s,h1,h2⟩;obtain⟨a1,a2,a3,a4,a5,a6,a7⟩:=(NI ok).1 h2;have hsp:=NR hf s h1;refine⟨⟨a1,a2,a3,a4,a5⟩,(NJ hf hv (by unfold iO; omega)).2 ⟨max x s.From,by omega,by unfold iO; omega,?_⟩⟩;exact (PJ hf hv (by omega)).1 ⟨s,h1,by omega,by omega⟩
 ·rintro ⟨⟨a1,a2,a3,a4,a5⟩,h⟩;obtain⟨y,y1,y2,y3⟩:=(NJ hf hv (by unfold iO; omega)).1 h;unfold iO at y2;obtain⟨s,h1,h2,h3⟩:=(PJ hf hv (by omega)).2 y3;exact⟨s,h1,(NI ok).2 ⟨a1,a2,a3,a4,a5,by omega,by omega⟩⟩

theorem filterMap_eq {α β:Type}{f h:α->Option β}:∀ {l:List α},(∀ a∈l,f a=h a)->l.filterMap f=l.filterMap h
 | [],_=>rfl
 | a::l,H=>by
  rw [List.filterMap_cons,List.filterMap_cons,H a (by simp),filterMap_eq fun b hb=>H b (by simp [hb])]

theorem aDL {size hop frm front x:Int}(ok:OkH size hop frm front)(hx:0<=x/\(∃ k:Int,x=k*hop)/\frm<=x/\x<front/\x<1125899906842624){gs:List G1}(hg:∀ g∈gs,eU g.2=true /\ ∀ t,0<=val g.2 t):wP size hop frm front x gs=xS size x gs:=by
 unfold wP xS;refine filterMap_eq fun g h=>?_;have:=DI ok (hg g h).1 (hg g h).2 (x:=x);by_cases hb:0<fG g.2 x (iO size x)
 ·rw [if_pos (this.2 ⟨hx,hb⟩),if_pos hb]
 ·rw [if_neg (fun q=>hb (this.1 q).2),if_neg hb]

def HC (size hop frm front:Int)(gs:List G1):List aK:=(BN size hop frm front gs).map fun t=>⟨⟨t,iO size t⟩,xS size t gs⟩

theorem XL {size hop frm front x:Int}{gs:List G1}:x∈BN size hop frm front gs ↔ ∃ g∈gs,x∈pF size hop frm front g.2:=by
 have : BN size hop frm front gs=yI [] (yV size hop frm front gs):=rfl;rw [this,YA];simp [yV,List.mem_flatMap]

theorem ZV {size hop frm front:Int}(ok:OkH size hop frm front)(gs:List G1):Inc (-1) (BN size hop frm front gs):=by
 refine OF (ts:=yV size hop frm front gs) (c:=[]) trivial fun t ht=>?_;obtain⟨g,_,h⟩:=List.mem_flatMap.1 ht;exact FB ok g.2 t h

theorem aEh {size hop frm front:Int}(ok:OkH size hop frm front){gs:List G1}(hs:uR gs)(hg:∀ g∈gs,eU g.2=true /\ ∀ t,0<=val g.2 t) :
  (∀ m',sY size hop frm front gs []=some m'->(BN size hop frm front gs).length<=1024/\(m'.map (·.1)).Perm (BN size hop frm front gs) /\ ∀ x∈BN size hop frm front gs,gK m' x=some ⟨⟨x,iO size x⟩,xS size x gs⟩) /\
  (sY size hop frm front gs []=none->1024<(BN size hop frm front gs).length):=by
 obtain⟨k1,k2⟩:=QM ok (gs:=gs) (m:=[]) (c:=[]) trivial (List.Perm.refl _) (by simp);refine⟨fun m' h=>?_,k2⟩;obtain⟨p1,p2⟩:=k1 m' h;refine⟨?_,p1,fun x hx=>?_⟩
 ·have:=p1.length_eq;simp only [List.length_map] at this;show (yI [] (yV size hop frm front gs)).length<=1024;omega
 ·rw [TO x h];obtain⟨g,hgm,hxg⟩:=XL.1 hx;have hxx:=(DI ok (hg g hgm).1 (hg g hgm).2).1 hxg;have e:gK ([]:List (Int×aK)) x=none:=rfl;rw [e,QZ hs,←aDL ok hxx.1 hg,if_neg];intro hc;have : (⟨g.1,fG g.2 x (iO size x)⟩:bC)∈wP size hop frm front x gs:=List.mem_filterMap.2 ⟨g,hgm,by rw [if_pos hxg]⟩;rw [hc] at this;simp at this

end Go.Abs
namespace Go.Abs
open Go
def wB (l:List aF)(size hop frm front:Int):List aK×Int :=
 if !(zM size hop&&eO l) then ([],2) else if !mJ l then ([],20) else if !(pN frm&&pN front) then ([],13)
 else if 1024<(BN size hop frm front (groups l)).length then ([],7) else (HC size hop frm front (groups l),0)

def aGC (n:Nat)(m:List (Int×aK)):Prop:=∀ t p,gK m t=some p->p.Rows.length<=n/\(p.Rows≠[]->(nL p.Rows).Row.length<=4398046510976)

theorem QK {size hop frm front:Int}(ok:OkH size hop frm front)(a:List aK)(b:Int):∀ (gs:List G1) (n:Nat) (m:List (Int×aK)),(∀ g∈gs,eU g.2=true/\g.1.length<=4398046510976)->n+gs.length<=900000->aGC n m ->
  ∃ x,itG (fun st r f=>rnd (fun (q:List aK×Int×List (Int×aK))=>nP size hop frm front q.1 q.2.1 q.2.2 r f) st) gs (.inl (a,b,m))=some x/\(∀ m',sY size hop frm front gs m=some m'->x=.inl (a,b,m'))/\(sY size hop frm front gs m=none -> ∃ q,x=.inr ([],7,q))
 | [],n,m,_,_,_=>⟨_,rfl,fun m' h=>by simp only [sY,dR,Option.some.injEq] at h; subst h; rfl,fun h=>by simp [sY,dR] at h⟩
 | g::gs,n,m,hg,hn,hm=>by
  obtain⟨h1,h2⟩:=hg g (by simp);simp only [List.length_cons] at hn;obtain⟨y,e1,e2,e3⟩:=aDg ok (g:=g) h1 h2 (n:=n) (by omega) (m:=m) (fun t p h=>⟨.inl (hm t p h).1,(hm t p h).2⟩);simp only [itG,sY,dR]
  cases hs:dR (nB size g) m (pF size hop frm front g.2) with
  | none =>
   have e4:=e3 hs;refine⟨.inr ([],7,y.2),?_,fun m' h=>(by simp at h),fun _=>⟨_,rfl⟩⟩
   have hb:nP size hop frm front a b m g.1 g.2=some (.inr ([],7,y.2)):=by
    unfold nP;rw [e1,Option.bind_some,e4]; rfl
   simp only [rnd,hb,Option.bind_some,Sum.isLeft_inr,Bool.false_eq_true,if_false]
  | some m1 =>
   obtain⟨rfl,hf⟩:=e2 m1 hs
   have hm1:aGC (n+1) m1:=fun t p h=>by
    obtain⟨q1,q2⟩:=hf t p h;refine⟨?_,q2⟩;rcases q1 with q | ⟨_,_,q⟩ <;> omega
   obtain⟨x,f1,f2,f3⟩:=QK ok a b gs (n+1) m1 (fun q hq=>hg q (by simp [hq])) (by omega) hm1;refine⟨x,?_,f2,f3⟩
   have hb:nP size hop frm front a b m g.1 g.2=some (.inl (a,b,m1)):=by
    unfold nP;rw [e1,Option.bind_some]; rfl
   simp only [rnd,hb,Option.bind_some,Sum.isLeft_inl,if_true];exact f1

theorem QH:∀ (q s:List Int),s.length+q.length<=100000->dR tM s q=some (s++q)
 | [],s,_=>by simp [dR]
 | t::q,s,h=>by
  simp only [List.length_cons] at h
  have e:tM s t=some (s++[t]):=by
   unfold tM;rw [aQ (by simp only [List.length_cons,List.length_nil]; omega)]
  simp only [dR,e,Option.bind_some];rw [QH q (s++[t]) (by simp; omega)];simp

theorem aGL {m:List (Int×aK)}{B:List Int}{mk:Int->aK}(hp:(m.map (·.1)).Perm B)(hs:B.Pairwise (· <= ·))(hl:B.length<=1024)(hg:∀ x∈B,gK m x=some (mk x)):wY m=some (B.map mk,0):=by
 have hml:m.length=B.length:=by simpa using hp.length_eq
 unfold wY;rw [aQ (by simp only [lN]; omega)];refine MD fun q hq=>?_;have hqB:q.Perm B:=hq.trans hp;have hql:=hqB.length_eq;rw [QH q [] (by simp only [List.length_nil]; omega),Option.bind_some,List.nil_append];unfold DY;rw [aA5 (by omega) hqB.symm hs,Option.bind_some,aQ (by simp only [lN]; omega)]
 have key:=vV (l:=B) (body:=fun s:List aK×Int=>tD m B (lN B) s.1 s.2) (fun (s:List aK) i=>(s,i)) (fun s r=>s++r.map mk)
  (fun s r=>s.length+r.length<=100000 /\ ∀ x∈r,x∈B) [] ?_ ?_ ⟨by simp only [List.length_nil]; omega,fun x hx=>hx⟩
 ·rw [key];simp
 ·rintro i x r s hx ⟨h1,h2⟩;left;simp only [List.length_cons] at h1;obtain⟨d1,d2,d3,d4⟩:=idx hx (by omega);refine⟨s++[mk x],?_,⟨by simp; omega,fun y hy=>h2 y (by simp [hy])⟩,by simp⟩;simp only [tD,lN,gD,wR,d1,cond_true,aQ d2,d3,d4,hg x (h2 x (by simp))];rw [aQ (by simp only [List.length_cons,List.length_nil]; omega)]
 ·rintro s _;simp only [tD,lN,jS,cond_false];simp

theorem aAB {l:List aF}(hl:okL l)(size hop frm front:Int):yL l size hop frm front=some (wB l size hop frm front):=by
 unfold yL wB;simp only [AB,uO,Option.bind_some];rw [show ((((decide ((1:Int)<=size))&&(decide (size<=(1099511627776:Int))))&&(decide ((1:Int)<=hop)))&&(decide (hop<=(1099511627776:Int))))=zM size hop from rfl,show ((decide ((0:Int)<=frm))&&(decide (frm<=(1125899906842624:Int))))=pN frm from rfl,show ((decide ((0:Int)<=front))&&(decide (front<=(1125899906842624:Int))))=pN front from rfl];rw [DU hl,FQ hl]
 cases hm:zM size hop with
 | false=>rfl
 | true =>
  cases he:eO l with
  | false=>rfl
  | true =>
   simp only [Bool.not_true,Bool.not_false,cX,cond_true,Option.bind_some,Bool.or_self,cond_false,Bool.and_self,Bool.false_eq_true,if_false]
   cases ht:mJ l with
   | false=>rfl
   | true =>
    simp only [Bool.not_true,cond_false,Bool.false_eq_true,if_false]
    cases h1:pN frm with
    | false=>rfl
    | true =>
     cases h2:pN front with
     | false=>rfl
     | true =>
      simp only [Bool.not_true,Bool.not_false,cond_true,Option.bind_some,Bool.or_self,cond_false,Bool.and_self,Bool.false_eq_true,if_false];have ok:=aCj hm h1 h2;obtain⟨e1,e2,e3⟩:=jQ he;have hn:=QS l
      have hv:∀ g∈groups l,eU g.2=true /\ ∀ t,0<=val g.2 t:=fun g hg=>by
       refine⟨(e2 g hg).2,fun t=>?_⟩;have:=(PM.1 ht).2 g.1 t
       rwa [←uG e3,BL e3 hg] at this
      have hrow:∀ g∈groups l,eU g.2=true/\g.1.length<=4398046510976:=fun g hg=>⟨(e2 g hg).2,GD hl hg⟩;unfold FI;simp only [sB,Option.bind_some];obtain⟨x,f1,f2,f3⟩:=QK ok [] 0 (groups l) 0 [] hrow (by omega) (fun t p h=>by simp [gK] at h);rw [RK hl (s':=x) (by rw [he]; exact f1),Option.bind_some];obtain⟨k1,k2⟩:=aEh ok e3 hv
      cases hs:sY size hop frm front (groups l) [] with
      | none =>
       obtain⟨q,rfl⟩:=f3 hs;rw [if_pos (k2 hs)]; rfl
      | some m1 =>
       obtain rfl:=f2 m1 hs;obtain⟨p1,p2,p3⟩:=k1 m1 hs;rw [if_neg (by omega)];simp only [Sum.elim_inl];exact aGL p2 (TI (ZV ok _)) p1 p3

end Go.Abs
namespace Go.Abs
open Go
theorem aBB (size t:Int)(g:G1)(gs:List G1):xS size t (g::gs)=(if 0<fG g.2 t (iO size t) then [⟨g.1,fG g.2 t (iO size t)⟩] else [])++xS size t gs:=by
 unfold xS;by_cases h:0<fG g.2 t (iO size t) <;> simp [h]

end Go.Abs
namespace Go.Abs
open Go
theorem QN {t:Int}(f:List aB):fO t (HI t f)=fO t f:=by
 have key:∀ (a b:List aB),(∀ j∈a,j.At<t)->(∀ j∈b,t<=j.At)->fO t (a++b)=a:=by
  intro a
  induction a with
  | nil =>
   intro b _ hb
   cases b with
   | nil=>rfl
   | cons k b=>simp only [List.nil_append,fO]; rw [if_pos (hb k (by simp))]
  | cons k a ih =>
   intro b ha hb;have:=ha k (by simp);simp only [List.cons_append,fO];rw [if_neg (by omega),ih b (fun j hj=>ha j (by simp [hj])) hb]
 unfold HI;refine key _ _ (fun j hj=>SA j hj) fun j hj=>?_;split at hj
 ·simp at hj
 ·simp only [List.mem_singleton] at hj;subst hj;exact Int.le_refl _

theorem aEY {f:List aB}{t:Int}(hf:eU f=true)(ht:t<1125899906842624)(h:(ahead f t).2=0):(ahead f t).1=HI t f:=by
 unfold ahead at h ⊢;rw [if_pos hf,if_neg (by omega)] at h ⊢;unfold told at h ⊢;split at h
 ·rename_i c; rw [if_pos c]
 ·simp at h

theorem lF {l:List aF}(h:eO l=true)(r:List aI):look (groups l) r=cR l r:=uG (jQ h).2.2 r

theorem aEH {by1:List aB->List aB×Int}{l:List aF}(hb:∀ f,eU f=true->(by1 f).2=0->eU (by1 f).1=true)(h:(zN by1 l).2=0):eO (zN by1 l).1=true:=by
 obtain⟨h1,h2,h3,h4⟩:=HS h;obtain⟨_,g1,g2⟩:=jQ h1;rw [h3] at h4 ⊢;refine aDb (xG g2) (fun g hg=>?_) h4;obtain⟨q,hq,rfl⟩:=List.mem_map.1 hg;exact⟨(g1 q hq).1,hb _ (g1 q hq).2 (h2 q hq)⟩

theorem aFX {f:List aB}(h:(told f).2=0):eU (told f).1=true:=by
 unfold told at h ⊢;split at h
 ·rename_i c; rw [if_pos c]; exact c
 ·simp at h

theorem aDh {f:List aB}{t:Int}(hf:eU f=true)(h:(ahead f t).2=0):eU (ahead f t).1=true:=by
 unfold ahead at h ⊢;rw [if_pos hf] at h ⊢;split
 ·exact hf
 ·rename_i c; rw [if_neg c] at h; exact aFX h

theorem aBN {l:List aF}{t:Int}(h:(qE l t).2=0):eO (qE l t).1=true:=aEH (fun _ a b=>aDh a b) h

theorem LV {l:List aF}{t:Int}(h0:0<=t)(ht:t<1125899906842624)(h:(qE l t).2=0)(r:List aI):cR (qE l t).1 r=HI t (cR l r):=by
 have hm:=(HS h).1;have h1:=aDc (by1:=fun f=>ahead f t) (by rw [UQ h0]) h r;have h2:=aE4 (by1:=fun f=>ahead f t) (by rw [UQ h0]) h r;rw [lF hm] at h1 h2;have:=lF (aBN h) r;unfold qE at this ⊢;rw [←this,h1,aEY (qI hm r) ht h2]

end Go.Abs
namespace Go.Abs
open Go
theorem FT {l:List aF}{e:aF}:jE e∈cR l e.Row↔e∈l:=by
 unfold cR;rw [List.mem_map];constructor
 ·rintro ⟨q,h1,h2⟩;obtain⟨h3,h4⟩:=List.mem_filter.1 h1;have h5:q.Row=e.Row:=by simpa using h4
  obtain⟨r,a,n⟩:=q; obtain ⟨r',a',n'⟩:=e;simp only [jE,aB.mk.injEq] at h2 h5;subst h5;rw [←h2.1,←h2.2]; exact h3
 ·intro h;exact⟨e,List.mem_filter.2 ⟨h,by simp⟩,rfl⟩

def byW (a b:Int)(f:List aB):List aB×Int:=(f.filter (inW a b),0)

theorem OH (a b:Int):∀ gs:List (List aI×List aB),AN a b gs=(sW (qY (byW a b) gs)).map fun g=>(⟨g.1,(g.2.map aB.Net).sum⟩:bC)
 | []=>rfl
 | g::gs=>by
  rw [RY,OH a b gs];have e:qY (byW a b) (g::gs)=(g.1,g.2.filter (inW a b))::qY (byW a b) gs:=rfl;rw [e];obtain⟨h1,h2⟩:=GP a b g.2;unfold sW;by_cases h:g.2.filter (inW a b)=[]
  ·rw [if_neg (by rw [h2.2 h]; omega)];simp [h]
  ·rw [if_pos (by have : oR a b g.2≠0:=fun q=>h (h2.1 q); omega)];have hq:(!(g.2.filter (inW a b)).isEmpty)=true:=by simpa [List.isEmpty_iff] using h
   simp only [List.filter_cons,hq,if_true,List.map_cons];rfl

theorem zY {gs:List (List aI×List aB)}(hs:uR gs)(r:List aI):look (sW gs) r=look gs r:=by
 rw [←BG hs,TP hs]

theorem aEU {l m:List aF}{a b:Int}(hl:eO l=true)(hm:eO m=true)(h:∀ r,(cR l r).filter (inW a b)=(cR m r).filter (inW a b)):AN a b (groups l)=AN a b (groups m):=by
 have sl:=(jQ hl).2.2;have sm:=(jQ hm).2.2;have s1:=xG (by1:=byW a b) sl;have s2:=xG (by1:=byW a b) sm;rw [OH,OH,MQ (gs:=sW (qY (byW a b) (groups l))) (hs:=sW (qY (byW a b) (groups m))) (s1.filter _) (s2.filter _) (xI _) (xI _) fun r=>?_];rw [zY s1,zY s2,uA (by1:=byW a b) rfl,uA (by1:=byW a b) rfl,lF hl,lF hm];exact h r

theorem KX {a b t:Int}(hb:b<=t){f:List aB}{l:Int}(hf:qX l f):f.filter (inW a b)=(fO t f).filter (inW a b):=by
 conv=>lhs; rw [←zP t f]
 rw [List.filter_append]
 have : (aft t f).filter (inW a b)=[]:=List.filter_eq_nil_iff.2 fun j hj=>by
  have:=KM hf j hj;simp [inW]; omega
 rw [this,List.append_nil]

theorem NO {n:Nat}(hn:0<n){mk:List Int->aK}:∀ S:List Int,pP n mk S=(List.range (S.length+1-n)).map fun i=>mk ((S.drop i).take n)
 | []=>by
  have : ([]:List Int).length+1-n=0:=by simp; omega
  rw [this]; rfl
 | x::r=>by
  unfold pP;rw [NO hn r];by_cases h:n<=r.length+1
  ·have e:(x::r).length+1-n=(r.length+1-n)+1:=by simp only [List.length_cons]; omega
   rw [if_pos h,e,List.range_succ_eq_map,List.map_cons,List.map_map];rfl
  ·have e:(x::r).length+1-n=0:=by simp only [List.length_cons]; omega
   have e2:r.length+1-n=0:=by omega
   rw [if_neg h,e,e2]; rfl

theorem aCM (l:List aF){S:List Int}{i n:Nat}(hn:0<n):(tP l ((S.drop i).take n)).Span.From=S.getD i 0:=by
 unfold tP;simp only;rw [List.getD_eq_getElem?_getD,List.getD_eq_getElem?_getD,List.getElem?_take,if_pos hn,List.getElem?_drop]; rfl

theorem aA9 (l:List aF){S:List Int}{i n:Nat}(hn:0<n)(hi:i+n<=S.length):(tP l ((S.drop i).take n)).Span.To=S.getD (i+n-1) 0+1:=by
 unfold tP;simp only;have hl:((S.drop i).take n).length=n:=by rw [List.length_take,List.length_drop]; omega
 rw [hl,List.getD_eq_getElem?_getD,List.getD_eq_getElem?_getD,List.getElem?_take,if_pos (by omega),List.getElem?_drop,show i+(n-1)=i+n-1 by omega]

theorem TB {S:List Int}(hS:S.Pairwise (· < ·)){i j:Nat}(hij:i<j)(hj:j<S.length):S.getD i 0<S.getD j 0:=by
 rw [List.getD_eq_getElem?_getD,List.getD_eq_getElem?_getD,List.getElem?_eq_getElem (by omega),List.getElem?_eq_getElem hj];exact List.pairwise_iff_getElem.1 hS i j (by omega) hj hij

theorem AQ {S:List Int}(hS:S.Pairwise (· < ·))(hl:S.length<=1000000)(t:Int):(∀ i,i<dX S t->S.getD i 0<t)/\(∀ i,dX S t<=i->i<S.length->t<=S.getD i 0):=by
 have hle:=uV S t;obtain⟨_,hs1,hs2⟩:=QI (hS.imp fun h=>by omega) hl t;refine⟨fun i hi=>?_,fun i hi hil=>?_⟩
 ·have hm1:S.getD i 0∈S.take (dX S t):=by
   refine List.mem_of_getElem? (i:=i) ?_;rw [List.getElem?_take,if_pos hi,List.getD_eq_getElem?_getD,List.getElem?_eq_getElem (by omega)]; rfl
  rw [←hs1] at hm1
  simpa using (List.mem_filter.1 hm1).2
 ·have hm1:S.getD i 0∈S.drop (dX S t):=by
   refine List.mem_of_getElem? (i:=i-dX S t) ?_;rw [List.getElem?_drop,show dX S t+(i-dX S t)=i by omega,List.getD_eq_getElem?_getD,List.getElem?_eq_getElem hil]; rfl
  rw [←hs2] at hm1
  simpa using (List.mem_filter.1 hm1).2

theorem PG {l:List aF}{S:List Int}(hS:S.Pairwise (· < ·))(hl:S.length<=1000000){n:Int}(hn:1<=n)(t:Int) :
  (pP n.toNat (tP l) S).filter (fun p=>decide (p.Span.From<mE S n t))=(List.range (dX S t+1-n.toNat)).map fun i=>tP l ((S.drop i).take n.toNat):=by
 rw [NO (by omega),List.filter_map];obtain⟨g1,g2⟩:=AQ hS hl t;have hle:=uV S t;have hf:firstM S n t=dX S t+1-n.toNat:=by unfold firstM; omega
 have key:((List.range (S.length+1-n.toNat)).filter ((fun p:aK=>decide (p.Span.From<mE S n t))∘fun i=>tP l ((S.drop i).take n.toNat)))=List.range (dX S t+1-n.toNat):=by
  have hc:∀ i∈List.range (S.length+1-n.toNat),((fun p:aK=>decide (p.Span.From<mE S n t))∘fun i=>tP l ((S.drop i).take n.toNat)) i=decide (i<dX S t+1-n.toNat):=by
   intro i hi;have hi':i<S.length+1-n.toNat:=List.mem_range.1 hi;simp only [Function.comp];rw [aCM l (by omega),decide_eq_decide];unfold mE;rw [←hf];by_cases hfm:firstM S n t=dX S t
   ·rw [if_pos hfm,hfm];constructor
    ·intro h;apply Classical.byContradiction; intro hn';have:=g2 i (by omega) (by omega); omega
    ·intro h; exact g1 i h
   ·rw [if_neg hfm];have hlt:firstM S n t<S.length:=by omega
    constructor
    ·intro h;apply Classical.byContradiction; intro hn';rcases Nat.lt_or_ge (firstM S n t) i with h2 | h2
     ·have:=TB hS h2 (by omega); omega
     ·have : i=firstM S n t:=by omega
      subst this; omega
    ·intro h; exact TB hS h hlt
  rw [List.filter_congr hc]
  have : ∀ K F:Nat,F<=K->(List.range K).filter (fun i=>decide (i<F))=List.range F:=by
   intro K
   induction K with
   | zero =>
    intro F hF;obtain rfl:F=0:=by omega
    rfl
   | succ K ih =>
    intro F hF;rw [List.range_succ,List.filter_append];by_cases h:F=K+1
    ·subst h;have e1:(List.range K).filter (fun i=>decide (i<K+1))=List.range K:=List.filter_eq_self.2 fun i hi=>by have:=List.mem_range.1 hi; simp; omega
     rw [e1,List.range_succ]; simp
    ·rw [ih F (by omega)];have : decide (K<F)=false:=by simp; omega
     simp [this]
  exact this _ _ (by omega)
 rw [key]

theorem aAc {S:List Int}(hS:S.Pairwise (· < ·))(hl:S.length<=1000000){n:Int}(hn:1<=n)(t:Int):mE S n t<=t/\(mE S n t=t∨mE S n t∈S):=by
 obtain⟨g1,g2⟩:=AQ hS hl t;have hle:=uV S t;unfold mE;by_cases hfm:firstM S n t=dX S t
 ·rw [if_pos hfm]; exact ⟨Int.le_refl _,.inl rfl⟩
 ·rw [if_neg hfm];have hf:firstM S n t<dX S t:=by unfold firstM at hfm ⊢; omega
  refine⟨by have:=g1 _ hf; omega,.inr ?_⟩;rw [List.getD_eq_getElem?_getD,List.getElem?_eq_getElem (by omega)];exact List.getElem_mem _

theorem MZ {l m:List aF}{t:Int}(hl:eO l=true)(hm:eO m=true)(h:∀ r,fO t (cR l r)=fO t (cR m r)):(cM l).filter (fun x=>decide (x<t))=(cM m).filter (fun x=>decide (x<t)):=by
 have one:∀ {a b:List aF},eO a=true->(∀ r,fO t (cR a r)=fO t (cR b r)) -> ∀ e∈a,e.At<t->e∈b:=by
  intro a b ha hab e he hat;have h1:=FT.2 he
  have h2:jE e∈fO t (cR a e.Row):=by
   have h3:=zP t (cR a e.Row);rw [←h3] at h1;rcases List.mem_append.1 h1 with h4 | h4
   ·exact h4
   ·have:=KM (jO.1 (qI ha e.Row)).2 _ h4;simp only [jE] at this; omega
  rw [hab e.Row] at h2;refine FT.1 ?_;rw [←zP t (cR b e.Row)];exact List.mem_append.2 (.inl h2)
 refine CP ((mW hl).1.filter _) ((mW hm).1.filter _) fun x=>?_;rw [List.mem_filter,List.mem_filter,GY (ME hl),GY (ME hm)];constructor
 ·rintro ⟨⟨e,h1,h2,h3⟩,h4⟩;have h5:x<t:=by simpa using h4
  exact⟨⟨e,one hl h e h1 (by omega),h2,h3⟩,h4⟩
 ·rintro ⟨⟨e,h1,h2,h3⟩,h4⟩;have h5:x<t:=by simpa using h4
  exact⟨⟨e,one hm (fun r=>(h r).symm) e h1 (by omega),h2,h3⟩,h4⟩

theorem RJ {S S':List Int}(hS:S.Pairwise (· < ·))(hS':S'.Pairwise (· < ·))(hl:S.length<=1000000)(hl':S'.length<=1000000){t:Int}(h:S.filter (fun x=>decide (x<t))=S'.filter fun x=>decide (x<t)){n:Int}(hn:1<=n) :
  dX S t=dX S' t/\S.take (dX S t)=S'.take (dX S t)/\mE S n t=mE S' n t:=by
 have e1:dX S t=dX S' t:=by unfold dX; rw [h]
 obtain⟨_,a1,_⟩:=QI (hS.imp fun h=>by omega) hl t;obtain⟨_,b1,_⟩:=QI (hS'.imp fun h=>by omega) hl' t;have e2:S.take (dX S t)=S'.take (dX S t):=by rw [←a1,h,b1,e1]
 refine⟨e1,e2,?_⟩;have ef:firstM S n t=firstM S' n t:=by unfold firstM; rw [e1]
 unfold mE;rw [←ef,←e1];by_cases hf:firstM S n t=dX S t
 ·rw [if_pos hf,if_pos hf]
 ·rw [if_neg hf,if_neg hf];have hlt:firstM S n t<dX S t:=by unfold firstM at hf ⊢; omega
  have:=congrArg (fun L:List Int=>L[firstM S n t]?) e2;simp only [List.getElem?_take,if_pos hlt] at this;rw [List.getD_eq_getElem?_getD,List.getD_eq_getElem?_getD,this]

theorem aCe {l:List aF}(hm:eO l=true):dX (cM l) 0=0:=by
 unfold dX;rw [List.length_eq_zero_iff,List.filter_eq_nil_iff];intro x hx;have:=(mW hm).2.2.2 x hx;simp; omega

theorem MY {l:List aF}{n:Int}(h:(yQ l n 0).2=0):rB l n=0/\(yQ l n 0).1=pP n.toNat (tP l) (cM l):=by
 unfold yQ at h ⊢;by_cases hc:rB l n=0
 ·rw [if_neg (by simpa using hc)] at h ⊢;have:=aCe (GC hc).1;rw [if_neg (by omega),this] at h ⊢;split
  ·rename_i hq; rw [if_pos hq] at h; simp at h
  ·exact⟨hc,rfl⟩
 ·rw [if_pos hc] at h; exact absurd h hc

theorem OQ {l:List aF}{n t:Int}(h:(FP l n t).2=0):rB l n=0/\0<=t/\t<=1125899906842624/\(t<1125899906842624->(FP l n t).1=mE (cM l) n t)/\(t=1125899906842624->(FP l n t).1=t):=by
 unfold FP at h ⊢;by_cases hc:rB l n=0
 ·rw [if_neg (by simpa using hc)] at h ⊢;by_cases h1:t<0∨1125899906842624<t
  ·rw [if_pos h1] at h; simp at h
  ·rw [if_neg h1];refine⟨hc,by omega,by omega,fun h2=>by rw [if_neg (by omega)],fun h2=>by rw [if_pos h2]⟩
 ·rw [if_pos hc] at h; exact absurd h hc

theorem SP {l m:List aF}{n t:Int}(hl:eO l=true)(hm:eO m=true)(hn:1<=n)(h:∀ r,fO t (cR l r)=fO t (cR m r)) :
  mE (cM l) n t=mE (cM m) n t/\(pP n.toNat (tP l) (cM l)).filter (fun p=>decide (p.Span.From<mE (cM l) n t))=(pP n.toNat (tP m) (cM m)).filter (fun p=>decide (p.Span.From<mE (cM l) n t)) /\
   ∀ p∈(pP n.toNat (tP l) (cM l)).filter (fun p=>decide (p.Span.From<mE (cM l) n t)),p.Span.To<=t:=by
 obtain⟨l1,_,l3,l4⟩:=mW hl;obtain⟨m1,_,m3,m4⟩:=mW hm;obtain⟨e1,e2,e3⟩:=RJ l1 m1 (by omega) (by omega) (MZ hl hm h) hn;have hle:=uV (cM l) t;have hle':=uV (cM m) t;obtain⟨g1,_⟩:=AQ l1 (by omega) t;have w1:=PG (l:=l) l1 (by omega) hn t;have w2:=PG (l:=m) m1 (by omega) hn t;rw [←e3,←e1] at w2;refine⟨e3,?_,?_⟩
 ·rw [w1,w2];refine List.map_congr_left fun i hi=>?_;have hi':=List.mem_range.1 hi
  have hrun:((cM l).drop i).take n.toNat=((cM m).drop i).take n.toNat:=by
   have:=congrArg (fun L:List Int=>(L.drop i).take n.toNat) e2;simp only [List.drop_take,List.take_take] at this;rw [show min n.toNat (dX (cM l) t-i)=n.toNat by omega] at this;exact this
  have hto:=aA9 l (S:=cM l) (i:=i) (n:=n.toNat) (by omega) (by omega);have hlast:=g1 (i+n.toNat-1) (by omega)
  have key:tP l (((cM l).drop i).take n.toNat)=tP m (((cM l).drop i).take n.toNat):=by
   have hto':(tP l (((cM l).drop i).take n.toNat)).Span.To<=t:=by rw [hto]; omega
   unfold tP at hto' ⊢;simp only at hto'
   rw [aEU hl hm fun r=>by
    rw [KX hto' (jO.1 (qI hl r)).2,KX hto' (jO.1 (qI hm r)).2,h r]]
  rw [key,hrun]
 ·intro p hp;rw [w1] at hp;obtain⟨i,hi,rfl⟩:=List.mem_map.1 hp;have hi':=List.mem_range.1 hi;rw [aA9 l (by omega) (by omega)];have:=g1 (i+n.toNat-1) (by omega);omega

end Go.Abs
namespace Go.Abs
open Go
def l28:List aF:=[⟨[WG],3,1⟩,⟨[WG],7,-1⟩]

theorem aDp:okL l28:=⟨by decide,by decide⟩

theorem aC3 {gs:List G1}(hg:∀ g∈gs,eU g.2=true/\g.1.length<=4398046510976)(hn:gs.length<=1000000)(size t:Int):okC (xS size t gs):=by
 refine⟨by have : (xS size t gs).length<=gs.length:=List.length_filterMap_le ..; omega,fun c hc=>?_⟩;obtain⟨g,h1,h2⟩:=List.mem_filterMap.1 hc;split at h2
 ·simp only [Option.some.injEq] at h2; subst h2;have:=(hg g h1).2; simp only; omega
 ·cases h2

theorem aAO {l:List aF}(hl:okL l)(size hop frm front:Int):(wB l size hop frm front).1.length<=1024 /\ ∀ p∈(wB l size hop frm front).1,okC p.Rows:=by
 unfold wB
 cases hm:zM size hop&&eO l with
 | false=>simp
 | true =>
  have he:eO l=true:=(Bool.and_eq_true .. |>.mp hm).2;obtain⟨g1,g2⟩:=DQ hl he;simp only [Bool.not_true,Bool.false_eq_true,if_false];split
  ·simp
  ·split
   ·simp
   ·split
    ·simp
    ·rename_i h
     refine⟨by simp only [HC,List.length_map]; omega,fun p hp=>?_⟩;obtain⟨t,_,rfl⟩:=List.mem_map.1 hp;exact aC3 g1 (by omega) _ _

theorem QA {l:List aF}{size hop frm front:Int}(h:(wB l size hop frm front).2=0):zM size hop=true/\eO l=true/\mJ l=true/\pN frm=true/\pN front=true/\(wB l size hop frm front).1=HC size hop frm front (groups l):=by
 unfold wB at h ⊢;split at h
 ·simp at h
 ·rename_i h1
  split at h
  ·simp at h
  ·rename_i h2
   split at h
   ·simp at h
   ·rename_i h3
    split at h
    ·simp at h
    ·rename_i h4
     simp only [Bool.not_eq_true',Bool.not_eq_false,Bool.and_eq_true] at h1 h2 h3;rw [if_neg (by simp [h1]),if_neg (by simp [h2]),if_neg (by simp [h3]),if_neg h4];exact⟨h1.1,h1.2,h2,h3.1,h3.2,rfl⟩

theorem MX (a b:Int):fG [] a b=0:=rfl

def byH (a b:Int)(f:List aB):List aB×Int:=(if 0<fG f a b then [⟨0,fG f a b⟩] else [],0)

theorem OX (size t:Int):∀ gs:List G1,xS size t gs=(sW (qY (byH t (iO size t)) gs)).map fun g=>(⟨g.1,(g.2.map aB.Net).sum⟩:bC)
 | []=>rfl
 | g::gs=>by
  rw [aBB,OX size t gs];have e:qY (byH t (iO size t)) (g::gs)=(g.1,(byH t (iO size t) g.2).1)::qY (byH t (iO size t)) gs:=rfl;rw [e];unfold sW byH;by_cases h:0<fG g.2 t (iO size t)
  ·simp [h]
  ·simp [h]

theorem aDj {l m:List aF}{size t:Int}(hl:eO l=true)(hm:eO m=true)(h:∀ r,fG (cR l r) t (iO size t)=fG (cR m r) t (iO size t)):xS size t (groups l)=xS size t (groups m):=by
 have sl:=(jQ hl).2.2;have sm:=(jQ hm).2.2;have s1:=xG (by1:=byH t (iO size t)) sl;have s2:=xG (by1:=byH t (iO size t)) sm;have hn:(byH t (iO size t) []).1=[]:=by unfold byH; rw [MX]; rfl
 rw [OX,OX,MQ (gs:=sW (qY (byH t (iO size t)) (groups l))) (hs:=sW (qY (byH t (iO size t)) (groups m))) (s1.filter _) (s2.filter _) (xI _) (xI _) fun r=>?_];rw [zY s1,zY s2,uA (by1:=byH t (iO size t)) hn,uA (by1:=byH t (iO size t)) hn,lF hl,lF hm];unfold byH;rw [h r]

theorem KH {l:List aF}(hl:eO l=true)(ht:mJ l=true){size hop frm front:Int}(ok:OkH size hop frm front){x:Int} :
  x∈BN size hop frm front (groups l)↔(0<=x/\(∃ k:Int,x=k*hop)/\frm<=x/\x<front/\x<1125899906842624) /\ ∃ r,0<fG (cR l r) x (iO size x):=by
 rw [XL];obtain⟨_,h2,h3⟩:=jQ hl
 have hv:∀ g∈groups l,eU g.2=true /\ ∀ t,0<=val g.2 t:=fun g hg=>by
  refine⟨(h2 g hg).2,fun t=>?_⟩;have:=(PM.1 ht).2 g.1 t
  rwa [←uG h3,BL h3 hg] at this
 constructor
 ·rintro ⟨g,hg,hx⟩;obtain⟨a,b⟩:=(DI ok (hv g hg).1 (hv g hg).2).1 hx;refine⟨a,g.1,?_⟩
  rwa [←uG h3,BL h3 hg]
 ·rintro ⟨a,r,hb⟩;rw [←lF hl] at hb;rcases DK (groups l) r with ⟨h4,_⟩ | ⟨g,hg,_,h4⟩
  ·rw [h4,MX] at hb; omega
  ·rw [h4] at hb;exact⟨g,hg,(DI ok (hv g hg).1 (hv g hg).2).2 ⟨a,hb⟩⟩

theorem UZ {size hop frm front:Int}(ok:OkH size hop frm front)(gs:List G1):(BN size hop frm front gs).Pairwise (· < ·):=zK (ZV ok gs)

theorem LZ {f:List aB}{last t a b:Int}(hf:qX last f)(hab:a<b)(hb:b<=t):fG f a b=fG (fO t f) a b:=by
 unfold fG oR;rw [IV hf (show a<t by omega),KX hb hf]

end Go.Abs
namespace Go.Abs
open Go
theorem aCz {l:List aF}(m:∀ a∈l,sU a)(y:List.length l*40<=140737488351232):okL l :=
 ⟨by omega,fun e he=>by have:=(m e he).1.2; omega⟩

end Go.Abs
namespace Go.Abs
open Go
def CG (w:bY):Bool :=
 if w.Kind=1 then decide (w.Size=0)&&decide (w.Hop=0) else if w.Kind=2 then zM w.Size w.Hop
 else if w.Kind=3 then (decide (1<=w.Size)&&decide (w.Size<=64))&&decide (w.Hop=0) else false

def pM (w:bY)(l:List aF)(t:Int):Int:=if !CG w || !eO l then 2 else if !mJ l then 20 else if !pN t then 13 else 0

theorem HT (w:bY):qU w=some (if CG w then 0 else 2):=by
 unfold qU CG;by_cases h1:w.Kind=1
 ·rw [decide_eq_true h1,cond_true,if_pos h1];unfold lO
  cases decide (w.Size=0)&&decide (w.Hop=0) <;> rfl
 ·by_cases h2:w.Kind=2
  ·rw [decide_eq_false h1,cond_false,decide_eq_true h2,cond_true,if_neg h1,if_pos h2];unfold rI lO zM
   cases decide (1<=w.Size) <;> cases decide (w.Size<=1099511627776) <;> cases decide (1<=w.Hop) <;> cases decide (w.Hop<=1099511627776) <;> rfl
  ·rw [decide_eq_false h1,cond_false,decide_eq_false h2,cond_false,if_neg h1,if_neg h2];by_cases h3:w.Kind=3
   ·rw [decide_eq_true h3,cond_true,if_pos h3];unfold lO
    cases (decide (1<=w.Size)&&decide (w.Size<=64))&&decide (w.Hop=0) <;> rfl
   ·rw [decide_eq_false h3,cond_false,if_neg h3];rfl

theorem HU {l:List aF}(hl:okL l)(w:bY)(t:Int):qT w l t=some (pM w l t):=by
 unfold qT pM;rw [HT,Option.bind_some]
 cases hk:CG w with
 | false=>rfl
 | true =>
  simp only [if_true,decide_true,Bool.not_true,Bool.not_false,Bool.false_or,cX,cond_true,DU hl,Option.bind_some,FQ hl]
  cases eO l with
  | false=>rfl
  | true =>
   cases mJ l with
   | false=>rfl
   | true =>
    simp only [Bool.not_true,cond_false,Bool.false_eq_true,if_false];unfold pN;by_cases h1:t<0
    ·have h2:¬ (0:Int)<=t:=by omega
     simp [h1,h2]
    ·have h2:(0:Int)<=t:=by omega
     by_cases h3:(1125899906842624:Int)<t
     ·have h4:¬ t<=(1125899906842624:Int):=by omega
      simp [h2,h3,h4]
     ·have h4:t<=(1125899906842624:Int):=by omega
      simp [h1,h2,h3,h4]

theorem uD {w:bY}{l:List aF}{t:Int}(h:pM w l t=0):CG w=true/\eO l=true/\mJ l=true/\0<=t/\t<=1125899906842624:=by
 unfold pM at h
 cases h1:CG w <;> cases h2:eO l <;> cases h3:mJ l <;> cases h4:pN t <;> simp [h1,h2,h3,h4] at h
 exact⟨rfl,rfl,rfl,DH h4⟩

theorem aBQ {w:bY}(h:CG w=true)(h2:w.Kind=2):zM w.Size w.Hop=true:=by
 unfold CG at h;rw [if_neg (by omega),if_pos h2] at h; exact h

theorem aFd {w:bY}(h:CG w=true)(h3:w.Kind=3):1<=w.Size/\w.Size<=64:=by
 unfold CG at h;rw [if_neg (by omega),if_neg (by omega),if_pos h3] at h;simp only [Bool.and_eq_true,decide_eq_true_eq] at h; omega

def mM (w:bY)(l:List aF)(t:Int):Int×Int :=
 if pM w l t≠0 then (0,pM w l t) else if w.Kind=2 then (min (MN w.Size w.Hop t).1 t,0) else if w.Kind=3 then FP l w.Size t else (t,0)

theorem IT {size hop t:Int}(hm:zM size hop=true)(h0:0<=t)(h1:t<=1125899906842624):MN size hop t=(if t=1125899906842624 then 1125899906842624 else min (iN hop (t-size)) 1125899906842624,0):=by
 unfold MN;have : pN t=true:=by unfold pN; simp [h0,h1]
 rw [hm,this];simp only [Bool.not_true,Bool.false_eq_true,if_false];split <;> rfl

theorem BJ {l:List aF}(hl:okL l)(w:bY)(t:Int):oM w l t=some (mM w l t):=by
 unfold oM mM;rw [HU hl,Option.bind_some];by_cases hc:pM w l t=0
 ·obtain⟨hk,_,_,t0,t1⟩:=uD hc;rw [if_neg (by simpa using hc),hc,decide_eq_true rfl,Bool.not_true,cond_false];by_cases h2:w.Kind=2
  ·rw [decide_eq_true h2,cond_true,if_pos h2,aFY,Option.bind_some,IT (aBQ hk h2) t0 t1];simp only [Int.min_def]
   congr 2
   split <;> split <;> (try split) <;> omega
  ·rw [decide_eq_false h2,cond_false,if_neg h2];by_cases h3:w.Kind=3
   ·rw [decide_eq_true h3,cond_true,if_pos h3,VO hl,Option.bind_some]
   ·rw [decide_eq_false h3,cond_false,if_neg h3]
 ·rw [if_pos hc,decide_eq_false hc]; rfl

def BE (t:Int)(e:aF):Int:=if 0<e.Net then max t (e.At+1) else t

def AZ (l:List aF)(t:Int):Int:=l.foldl BE t

theorem ES:∀ {l:List aF} {t:Int},(∀ e∈l,e.At<1125899906842624)->t<=1125899906842624->t<=AZ l t/\AZ l t<=1125899906842624
 | [],t,_,h=>by unfold AZ; simp; exact h
 | e::l,t,he,h=>by
  have h1:t<=BE t e/\BE t e<=1125899906842624:=by
   have:=he e (by simp);unfold BE; split <;> omega
  have h2:=ES (l:=l) (t:=BE t e) (fun q hq=>he q (by simp [hq])) h1.2;have h3:AZ (e::l) t=AZ l (BE t e):=rfl;rw [h3]; omega

theorem front_eq {l:List aF}(hn:l.length<=1000000)(ha:∀ e∈l,-1<=e.At/\e.At<1125899906842624)(t:Int):tE l t=some (AZ l t):=by
 unfold tE wL;have:=vV (l:=l) (body:=fun s:Int×Int=>pT l ((l.length:Nat):Int) s.1 s.2) (fun (s:Int) i=>(s,i)) (fun s r=>r.foldl BE s) (fun _ r=>∀ e∈r,-1<=e.At/\e.At<1125899906842624) t ?_ ?_ ha
 ·rw [this]; rfl
 ·intro i e r s he hI;left;have hb:=hI e (by simp);refine⟨BE s e,?_,fun q hq=>hI q (by simp [hq]),rfl⟩;obtain⟨d1,d2,d3,d4⟩:=idx he (by omega);have w1:IntKind.i64.wrap (e.At+1)=e.At+1:=cZ (by omega) (by omega);simp only [pT,sE,d1,cond_true,aQ d2,d3,d4,w1];unfold BE;by_cases h:0<e.Net
  ·rw [decide_eq_true h,cond_true,if_pos h]
   congr 3
   rw [Int.max_def]; split <;> split <;> omega
  ·rw [decide_eq_false h,cond_false,if_neg h]
 ·intro s _;simp only [pT,jS,cond_false]; simp

def sH (w:bY)(l:List aF)(frm t:Int):List aK×Int :=
 if pM w l t≠0 then ([],pM w l t) else if w.Kind=2 then wB l w.Size w.Hop frm (AZ l t) else if w.Kind=3 then yQ l w.Size frm else rL l frm

theorem TL {l:List aF}(hm:eO l=true):l.length<=1000000 /\ ∀ e∈l,-1<=e.At/\e.At<1125899906842624:=by
 have:=(jQ hm).1;exact⟨by omega,fun e he=>⟨by have:=(xU hm he).2.1; omega,(xU hm he).2.2.1⟩⟩

theorem BT {l:List aF}(hl:okL l)(w:bY)(frm t:Int):oN w l frm t=some (sH w l frm t):=by
 unfold oN sH;rw [HU hl,Option.bind_some];by_cases hc:pM w l t=0
 ·obtain⟨hk,hm,_,t0,t1⟩:=uD hc;obtain⟨a1,a2⟩:=TL hm;rw [if_neg (by simpa using hc),hc,decide_eq_true rfl,Bool.not_true,cond_false];by_cases h2:w.Kind=2
  ·rw [decide_eq_true h2,cond_true,if_pos h2,front_eq a1 a2,Option.bind_some,aAB hl,Option.bind_some]
  ·rw [decide_eq_false h2,cond_false,if_neg h2];by_cases h3:w.Kind=3
   ·rw [decide_eq_true h3,cond_true,if_pos h3,SU hl,Option.bind_some]
   ·rw [decide_eq_false h3,cond_false,if_neg h3,WY hl,Option.bind_some]
 ·rw [if_pos hc,decide_eq_false hc]; rfl

theorem RH {l:List aF}(hl:okL l)(w:bY)(frm t:Int):(sH w l frm t).1.length<=4097 /\ ∀ p∈(sH w l frm t).1,okC p.Rows:=by
 unfold sH;split
 ·simp
 ·split
  ·have:=aAO hl w.Size w.Hop frm (AZ l t);exact⟨by omega,this.2⟩
  ·split
   ·exact aBz hl w.Size frm
   ·exact aCq hl frm

theorem KI {w:bY}{l:List aF}{t:Int}(h:pM w l t=0):mM w l t=if w.Kind=2 then (min (MN w.Size w.Hop t).1 t,0) else if w.Kind=3 then FP l w.Size t else (t,0):=by
 unfold mM; rw [h]; rfl

theorem VG {w:bY}{l:List aF}{frm t:Int}(h:pM w l t=0):sH w l frm t=if w.Kind=2 then wB l w.Size w.Hop frm (AZ l t) else if w.Kind=3 then yQ l w.Size frm else rL l frm:=by
 unfold sH; rw [h]; rfl

theorem CN {l:List aF}{w:bY}{t:Int}(h:(mM w l t).2=0):pM w l t=0:=by
 unfold mM at h;by_cases c1:pM w l t=0
 ·exact c1
 ·rw [if_pos c1] at h; exact absurd h c1

def w30:bY:=⟨2,10,5⟩

theorem aFv:mM w30 l28 12=(5,0):=by decide +kernel

theorem aFx:sH w30 l28 0 2=([⟨⟨0,10⟩,[⟨[WG],1⟩]⟩],0):=by decide +kernel

theorem sG:pI=some true:=by
 unfold pI;have h1:=BT aDp w30 0 2;have h2:=BJ aDp w30 12;rw [aFx] at h1;rw [aFv] at h2;simp only [l28,WG,w30] at h1 h2;rw [h2,Option.bind_some,h1,Option.bind_some,HT,aQ (fun _=>by decide)];rfl

end Go.Abs
namespace Go.Abs
open Go
theorem TZ {l:List aF}{frm:Int}(h:(rL l frm).2=0):(mY l frm).2=0/\(rL l frm).1=mK (fun t=>nE t (groups l)) (mY l frm).1/\(rL l frm).1.length<=1024:=by
 unfold rL aB4 at h ⊢;by_cases h1:(mY l frm).2=0
 ·rw [if_neg (by simpa using h1)] at h ⊢;by_cases h2:1024<(mK (fun t=>nE t (groups l)) (mY l frm).1).length
  ·rw [if_pos h2] at h; simp at h
  ·rw [if_neg h2]; exact ⟨h1,rfl,by simp only; omega⟩
 ·rw [if_pos h1] at h; exact absurd h h1

end Go.Abs
namespace Go.Abs
open Go
def IS (t:Int)(p:aK):aK:=⟨⟨p.Span.From,if t<p.Span.To then t else p.Span.To⟩,p.Rows⟩

def kQ (t:Int)(ps:List aK):List aK:=(ps.filter fun p=>decide (p.Span.From<t)).map (IS t)

theorem VR (t:Int)(a b:List aK):kQ t (a++b)=kQ t a++kQ t b:=by unfold kQ; simp

theorem UR {t:Int}{a b:List aK}(h:a.filter (fun p=>decide (p.Span.From<t))=b.filter fun p=>decide (p.Span.From<t)):kQ t a=kQ t b:=by unfold kQ; rw [h]

theorem aB5 {t:Int}{ps:List aK}(h:∀ p∈ps,okC p.Rows):(kQ t ps).length<=ps.length /\ ∀ p∈kQ t ps,okC p.Rows:=by
 unfold kQ;refine⟨by rw [List.length_map]; exact List.length_filter_le ..,fun p hp=>?_⟩;obtain⟨q,hq,rfl⟩:=List.mem_map.1 hp;exact h q (List.mem_filter.1 hq).1

def ET (al:Int->List bC)(t:Int):List Int->List aK
 | []=>[]
 | c::cs=>(if al c=[] then [] else [⟨⟨c,cs.headD t⟩,al c⟩])++ET al t cs

theorem LS {al al':Int->List bC}{t:Int}:∀ {cs:List Int},(∀ x∈cs,al x=al' x)->ET al t cs=ET al' t cs
 | [],_=>rfl
 | c::cs,h=>by unfold ET; rw [h c (by simp),LS fun x hx=>h x (by simp [hx])]

theorem ED {al:Int->List bC}{t:Int}(ht:t<=1125899906842624):∀ {cs:List Int},cs.Pairwise (· < ·)->kQ t (mK al cs)=ET al t (cs.filter fun x=>decide (x<t))
 | [],_=>rfl
 | c::cs,h=>by
  obtain⟨h1,h2⟩:=List.pairwise_cons.1 h;have e:mK al (c::cs)=(if al c=[] then [] else [⟨⟨c,cs.headD 1125899906842624⟩,al c⟩])++mK al cs:=rfl;rw [e,VR,ED ht h2];by_cases hc:c<t
  ·have ef:(c::cs).filter (fun x=>decide (x<t))=c::cs.filter fun x=>decide (x<t):=by simp [hc]
   have eu:∀ r:List Int,ET al t (c::r)=(if al c=[] then [] else [⟨⟨c,r.headD t⟩,al c⟩])++ET al t r:=fun _=>rfl;rw [ef,eu]
   congr 1
   by_cases ha:al c=[]
   ·simp [ha,kQ]
   ·rw [if_neg ha,if_neg ha]
    have : (cs.filter fun x=>decide (x<t)).headD t=if t<cs.headD 1125899906842624 then t else cs.headD 1125899906842624:=by
     cases cs with
     | nil=>simp; omega
     | cons c2 r =>
      by_cases h3:c2<t
      ·have : ¬ t<c2:=by omega
       simp [h3,this]
      ·have : (c2::r).filter (fun x=>decide (x<t))=[]:=by
        rw [List.filter_eq_nil_iff];intro x hx
        have : c2<=x:=by
         rcases List.mem_cons.1 hx with rfl | hx
         ·omega
         ·have:=(List.pairwise_cons.1 h2).1 x hx; omega
        simp; omega
       rw [this];by_cases h4:t<c2
       ·simp [h4]
       ·simp; omega
    rw [this];simp [kQ,hc,IS]
  ·have ef:(c::cs).filter (fun x=>decide (x<t))=cs.filter fun x=>decide (x<t):=by simp [hc]
   rw [ef]
   have : kQ t (if al c=[] then [] else [⟨⟨c,cs.headD 1125899906842624⟩,al c⟩])=[]:=by
    split
    ·rfl
    ·simp [kQ,hc]
   rw [this,List.nil_append]

def SC (q:List aB->Int)(gs:List G1):List bC:=gs.filterMap fun g=>if 0<q g.2 then some ⟨g.1,q g.2⟩ else none

def byC (q:List aB->Int)(f:List aB):List aB×Int:=(if 0<q f then [⟨0,q f⟩] else [],0)

theorem TM (q:List aB->Int):∀ gs:List G1,SC q gs=(sW (qY (byC q) gs)).map fun g=>(⟨g.1,(g.2.map aB.Net).sum⟩:bC)
 | []=>rfl
 | g::gs=>by
  have e:qY (byC q) (g::gs)=(g.1,(byC q g.2).1)::qY (byC q) gs:=rfl
  have e2:SC q (g::gs)=(if 0<q g.2 then [⟨g.1,q g.2⟩] else [])++SC q gs:=by
   unfold SC;rw [List.filterMap_cons];by_cases h:0<q g.2 <;> simp [h]
  rw [e2,TM q gs,e];unfold sW byC;by_cases h:0<q g.2
  ·simp [h]
  ·simp [h]

theorem aEi {q:List aB->Int}{l m:List aF}(h0:q []=0)(hl:eO l=true)(hm:eO m=true)(h:∀ r,q (cR l r)=q (cR m r)):SC q (groups l)=SC q (groups m):=by
 have sl:=(jQ hl).2.2;have sm:=(jQ hm).2.2;have s1:=xG (by1:=byC q) sl;have s2:=xG (by1:=byC q) sm;have hn:(byC q []).1=[]:=by unfold byC; rw [h0]; rfl
 rw [TM,TM,MQ (gs:=sW (qY (byC q) (groups l))) (hs:=sW (qY (byC q) (groups m))) (s1.filter _) (s2.filter _) (xI _) (xI _) fun r=>?_];rw [zY s1,zY s2,uA (by1:=byC q) hn,uA (by1:=byC q) hn,lF hl,lF hm];unfold byC;rw [h r]

theorem aDW {l m:List aF}{t:Int}(hl:eO l=true)(hm:eO m=true)(h:∀ r,val (cR l r) t=val (cR m r) t):nE t (groups l)=nE t (groups m) :=
 aEi (q:=fun f=>val f t) rfl hl hm h

theorem VE {a b:List aF}{t:Int}(ha:eO a=true)(hab:∀ r,fO t (cR a r)=fO t (cR b r)):∀ e∈a,e.At<t->e∈b:=by
 intro e he hat;have h1:=FT.2 he
 have h2:jE e∈fO t (cR a e.Row):=by
  have h3:=zP t (cR a e.Row);rw [←h3] at h1;rcases List.mem_append.1 h1 with h4 | h4
  ·exact h4
  ·have:=KM (jO.1 (qI ha e.Row)).2 _ h4;simp only [jE] at this; omega
 rw [hab e.Row] at h2;refine FT.1 ?_;rw [←zP t (cR b e.Row)];exact List.mem_append.2 (.inl h2)

theorem XT {l m:List aF}{t:Int}(ht:t<=1125899906842624)(hl:eO l=true)(hm:eO m=true)(h:∀ r,fO t (cR l r)=fO t (cR m r))(e1:(rL l 0).2=0)(e2:(rL m 0).2=0) :
  kQ t (rL l 0).1=kQ t (rL m 0).1:=by
 obtain⟨c1,p1,_⟩:=TZ e1;obtain⟨c2,p2,_⟩:=TZ e2;have i1:=zK (GF (l:=l) (frm:=0)).1;have i2:=zK (GF (l:=m) (frm:=0)).1;obtain⟨_,_,_,⟨hc,_⟩ | ⟨_,k1⟩⟩:=FF c1
 ·omega
 obtain⟨_,_,_,⟨hc,_⟩ | ⟨_,k2⟩⟩:=FF c2
 ·omega
 rw [p1,p2,ED ht i1,ED ht i2]
 have hC:(mY l 0).1.filter (fun x=>decide (x<t))=(mY m 0).1.filter fun x=>decide (x<t):=by
  refine CP (i1.filter _) (i2.filter _) fun x=>?_;rw [List.mem_filter,List.mem_filter,k1,k2,FY,FY];constructor
  ·rintro ⟨ha | ⟨e,he,hx,hp⟩,hb⟩
   ·exact⟨.inl ha,hb⟩
   ·have hb':x<t:=by simpa using hb
    exact⟨.inr ⟨e,VE hl h e he (by omega),hx,hp⟩,hb⟩
  ·rintro ⟨ha | ⟨e,he,hx,hp⟩,hb⟩
   ·exact⟨.inl ha,hb⟩
   ·have hb':x<t:=by simpa using hb
    exact⟨.inr ⟨e,VE hm (fun r=>(h r).symm) e he (by omega),hx,hp⟩,hb⟩
 rw [hC];refine LS fun x hx=>?_;have hx':x<t:=by simpa using (List.mem_filter.1 hx).2
 refine aDW hl hm fun r=>?_;rw [IV (jO.1 (qI hl r)).2 hx',IV (jO.1 (qI hm r)).2 hx',h r]

theorem aDC {size hop T x:Int}(hh:1<=hop)(h0:0<=x)(hx:∃ k:Int,x=k*hop)(h:x<iN hop (T-size)):x+size<=T:=by
 rcases Int.lt_or_le T (x+size) with h1 | h1
 ·have:=zJ hh h0 hx (show T-size<x by omega); omega
 ·exact h1

theorem ZW {l m:List aF}{size hop f1 f2 a T:Int}(o1:OkH size hop 0 f1)(o2:OkH size hop 0 f2)(a1:a<=f1)(a2:a<=f2)(hT:T<=1125899906842624)(ha:a<=iN hop (T-size))(hl:eO l=true)(hm:eO m=true)(tl:mJ l=true)(tm:mJ m=true)(h:∀ r,fO T (cR l r)=fO T (cR m r)) :
  (HC size hop 0 f1 (groups l)).filter (fun p=>decide (p.Span.From<a))=(HC size hop 0 f2 (groups m)).filter fun p=>decide (p.Span.From<a):=by
 have hs:=o1.s0
 have same:∀ x,x<1125899906842624->iO size x<=T -> ∀ r,fG (cR l r) x (iO size x)=fG (cR m r) x (iO size x):=fun x hx he r=>by
  have hlt:x<iO size x:=by unfold iO; omega
  rw [LZ (jO.1 (qI hl r)).2 hlt he,LZ (jO.1 (qI hm r)).2 hlt he,h r]
 have early:∀ x,0<=x->(∃ k:Int,x=k*hop)->x<a->iO size x<=T:=fun x x0 xk xa=>by
  have:=aDC (T:=T) (size:=size) o1.h0 x0 xk (by omega);unfold iO; omega
 unfold HC;rw [List.filter_map,List.filter_map]
 have hB:(BN size hop 0 f1 (groups l)).filter (fun x=>decide (x<a))=(BN size hop 0 f2 (groups m)).filter fun x=>decide (x<a):=by
  refine CP ((UZ o1 _).filter _) ((UZ o2 _).filter _) fun x=>?_;rw [List.mem_filter,List.mem_filter,KH hl tl o1,KH hm tm o2];constructor
  ·rintro ⟨⟨b,r,d⟩,c⟩;have c':x<a:=by simpa using c
   exact⟨⟨⟨b.1,b.2.1,b.2.2.1,by omega,b.2.2.2.2⟩,r,by rw [←same x b.2.2.2.2 (early x b.1 b.2.1 c') r]; exact d⟩,c⟩
  ·rintro ⟨⟨b,r,d⟩,c⟩;have c':x<a:=by simpa using c
   exact⟨⟨⟨b.1,b.2.1,b.2.2.1,by omega,b.2.2.2.2⟩,r,by rw [same x b.2.2.2.2 (early x b.1 b.2.1 c') r]; exact d⟩,c⟩
 have e:∀ gs:List G1,((fun p:aK=>decide (p.Span.From<a))∘fun t=>(⟨⟨t,iO size t⟩,xS size t gs⟩:aK))=fun x=>decide (x<a):=fun gs=>rfl;rw [e,e,hB];refine List.map_congr_left fun x hx=>?_;obtain⟨h1,h2⟩:=List.mem_filter.1 hx;have h3:x<a:=by simpa using h2
 have h4:=((KH hm tm o2).1 h1).1;rw [aDj hl hm (same x h4.2.2.2.2 (early x h4.1 h4.2.1 h3))]

theorem aCr {S:List Int}(hS:S.Pairwise (· < ·))(hl:S.length<=1000000){n t u:Int}(hn:1<=n)(h:t<=u):mE S n t<=mE S n u:=by
 obtain⟨g1,g2⟩:=AQ hS hl t;obtain⟨k1,k2⟩:=AQ hS hl u;have hle:=uV S t;have hle':=uV S u
 have hmm:dX S t<=dX S u:=by
  rcases Nat.lt_or_ge (dX S u) (dX S t) with h1 | h1
  ·have a:=g1 _ h1;have b:=k2 _ (Nat.le_refl _) (by omega);omega
  ·exact h1
 have hf:firstM S n t<=firstM S n u:=by unfold firstM; omega
 have ht:=(aAc hS hl hn t).1;by_cases hu:firstM S n u=dX S u
 ·have : mE S n u=u:=by unfold mE; rw [if_pos hu]
  omega
 ·have hlt:firstM S n u<dX S u:=by unfold firstM at hu ⊢; omega
  have eu:mE S n u=S.getD (firstM S n u) 0:=by unfold mE; rw [if_neg hu]
  rw [eu];by_cases ht2:firstM S n t=dX S t
  ·have:=g2 (firstM S n u) (by omega) (by omega);omega
  ·have et:mE S n t=S.getD (firstM S n t) 0:=by unfold mE; rw [if_neg ht2]
   rw [et];rcases Nat.lt_or_ge (firstM S n t) (firstM S n u) with h1 | h1
   ·have:=TB hS h1 (by omega); omega
   ·rw [show firstM S n t=firstM S n u by omega]; exact Int.le_refl _

end Go.Abs
namespace Go.Abs
open Go
theorem NN {l m:List aF}{w:bY}{t u:Int}(ht:t<1125899906842624)(htu:t<=u)(hfore:∀ r,fO t (cR l r)=fO t (cR m r))(h1:(mM w l t).2=0)(h2:(mM w m u).2=0):(mM w l t).1<=(mM w m u).1:=by
 have c1:=CN h1;have c2:=CN h2;obtain⟨hk,ml,tl,t0,t1⟩:=uD c1;obtain⟨_,mm,tm,u0,u1⟩:=uD c2;rw [KI c1] at h1 ⊢;rw [KI c2] at h2 ⊢;by_cases k2:w.Kind=2
 ·rw [if_pos k2,if_pos k2];have hm:=aBQ hk k2;have hh:=(LC hm).2.2.1;rw [IT hm t0 t1,IT hm u0 u1];obtain⟨b1,b2,b3,b4,b5⟩:=tF (n:=t-w.Size) hh;obtain⟨d1,d2,d3,d4,d5⟩:=tF (n:=u-w.Size) hh;have:=zJ (n:=t-w.Size) hh d1 d5 (by omega);simp only;rw [if_neg (by omega)];split <;> omega
 ·rw [if_neg k2] at h1 h2 ⊢;rw [if_neg k2];by_cases k3:w.Kind=3
  ·rw [if_pos k3] at h1 h2 ⊢;rw [if_pos k3];obtain⟨n1,_⟩:=aFd hk k3;obtain⟨_,_,_,q1,_⟩:=OQ h1;obtain⟨_,_,_,q2,q3⟩:=OQ h2;obtain⟨f1,_,f3,f4⟩:=mW ml;obtain⟨g1,_,g3,g4⟩:=mW mm;rw [q1 ht];have hle:=(aAc f1 (by omega) n1 t).1;by_cases hu:u=1125899906842624
   ·rw [q3 hu]; omega
   ·rw [q2 (by omega)];obtain⟨_,_,e3⟩:=RJ f1 g1 (by omega) (by omega) (MZ ml mm hfore) n1;rw [e3];exact aCr g1 (by omega) n1 htu
  ·rw [if_neg k3,if_neg k3]; exact htu

theorem WD {l m:List aF}{t:Int}(t0:0<=t)(t1:t<1125899906842624)(e1:(qE l t).2=0)(e2:(qE m t).2=0)(e3:(qE l t).1=(qE m t).1):∀ r,fO t (cR l r)=fO t (cR m r):=fun r=>by
 rw [←QN,←QN (cR m r),←LV t0 t1 e1,←LV t0 t1 e2,e3]

end Go.Abs
namespace Go.Abs
open Go
theorem QW {ps:List aK}(hl:ps.length<=1000000)(t:Int):rU ps t=some (kQ t ps):=by
 unfold rU xT;have:=vV (l:=ps) (body:=fun s:List aK×Int=>qV ps t s.1 s.2) (fun (s:List aK) i=>(s,i)) (fun s r=>s++kQ t r) (fun s r=>s.length+r.length<=1000000) [] ?_ ?_ (by simp only [List.length_nil]; omega)
 ·rw [this]; simp [tQ]
 ·intro i p r s hp hs;left;simp only [List.length_cons] at hs;obtain⟨d1,d2,d3,d4⟩:=idx hp (by omega)
  have hc:kQ t (p::r)=(if p.Span.From<t then [IS t p] else [])++kQ t r:=by
   unfold kQ;by_cases h:p.Span.From<t <;> simp [h]
  have hj:∀ q:aK,q=IS t p->qS ps t s ((i:Nat):Int) q=some (.inl ((if p.Span.From<t then s++[IS t p] else s),((i+1:Nat):Int))):=by
   rintro q rfl;unfold qS tU;rw [show (IS t p).Span.From=p.Span.From from rfl,d4];by_cases h:p.Span.From<t
   ·rw [decide_eq_true h,cond_true,aQ (by simp only [List.length_cons,List.length_nil]; omega),if_pos h]
   ·rw [decide_eq_false h,cond_false,if_neg h]
  refine⟨if p.Span.From<t then s++[IS t p] else s,?_,by split <;> (first | (simp only [List.length_append,List.length_cons,List.length_nil]; omega) | omega),by rw [hc]; split <;> simp⟩;simp only [qV,d1,cond_true,aQ d2,d3];by_cases h:t<p.Span.To
  ·rw [decide_eq_true h,cond_true];exact hj _ (by unfold IS; rw [if_pos h])
  ·rw [decide_eq_false h,cond_false];exact hj _ (by unfold IS; rw [if_neg h])
 ·intro s _;simp only [qV,jS,cond_false]; simp [kQ]

end Go.Abs
namespace Go.Abs
open Go
theorem aBP {l m:List aF}{w:bY}{t:Int}(ht:t<1125899906842624)(hfore:∀ r,fO t (cR l r)=fO t (cR m r))(h1:(mM w l t).2=0)(h2:(mM w m t).2=0):(mM w l t).1=(mM w m t).1:=by
 have a:=NN ht (Int.le_refl t) hfore h1 h2;have b:=NN ht (Int.le_refl t) (fun r=>(hfore r).symm) h2 h1;omega

theorem ZH {l m:List aF}{w:bY}{t:Int}(ht:t<1125899906842624)(hfore:∀ r,fO t (cR l r)=fO t (cR m r))(h1:(mM w l t).2=0)(h2:(mM w m t).2=0)(p1:(sH w l 0 t).2=0)(p2:(sH w m 0 t).2=0) :
  kQ (mM w l t).1 (sH w l 0 t).1=kQ (mM w l t).1 (sH w m 0 t).1:=by
 have c1:=CN h1;have c2:=CN h2;obtain⟨kw,ml,tl,t0,t1⟩:=uD c1;obtain⟨_,mm,tm,_,_⟩:=uD c2;have e:=KI c1;rw [VG c1] at p1 ⊢;rw [VG c2] at p2 ⊢;by_cases k2:w.Kind=2
 ·rw [if_pos k2] at e p1 p2 ⊢;rw [if_pos k2,e];have hm:=aBQ kw k2;have b1:=ES (t:=t) (fun e he=>((TL ml).2 e he).2) t1;have b2:=ES (t:=t) (fun e he=>((TL mm).2 e he).2) t1;obtain⟨_,_,_,z1,z2,z3⟩:=QA p1;obtain⟨_,_,_,y1,y2,y3⟩:=QA p2;refine UR ?_;rw [z3,y3];refine ZW (T:=t) (aCj hm z1 z2) (aCj hm y1 y2) (by simp only; omega) (by simp only; omega) t1 ?_ ml mm tl tm hfore;rw [IT hm t0 t1,if_neg (by omega)];simp only; omega
 ·rw [if_neg k2] at e p1 p2 ⊢;rw [if_neg k2];by_cases k3:w.Kind=3
  ·rw [if_pos k3] at e p1 p2 ⊢;rw [if_pos k3];obtain⟨n1,_⟩:=aFd kw k3;rw [e] at h1 ⊢;obtain⟨_,_,_,q1,_⟩:=OQ h1;rw [q1 ht];obtain⟨_,z1⟩:=MY p1;obtain⟨_,z2⟩:=MY p2;refine UR ?_;rw [z1,z2];exact (SP ml mm n1 hfore).2.1
  ·rw [if_neg k3] at e p1 p2 ⊢;rw [if_neg k3,e];exact XT t1 ml mm hfore p1 p2

theorem KB (l0:bY)(m0:zF l0)(l1:(List aF))(m1:∀ a∈l1,sU a)(y1:List.length l1*40<=140737488351232)(l2:(List aF))(m2:∀ a∈l2,sU a)(y2:List.length l2*40<=140737488351232)(a3:Int)(w3:wD a3):pR l0 l1 l2 a3=some true:=by
 have k1:=aCz m1 y1;have k2:=aCz m2 y2;unfold pR;rw [VM k1,VM k2];simp only [Option.bind_some];by_cases e1:(qE l1 a3).2=0
 ·by_cases e2:(qE l2 a3).2=0
  ·simp only [e1,e2,decide_true,Bool.not_true,Bool.or_self,Bool.not_false,cX,cond_true,aAq (aCo k1 a3),Option.bind_some,Bool.false_or];by_cases e3:(qE l1 a3).1=(qE l2 a3).1
   ·by_cases t1:a3<1125899906842624
    ·have b1:decide ((1125899906842624:Int)<=a3)=false:=by simp; omega
     simp only [e3,decide_true,Bool.not_true,b1,Bool.or_self,cond_false,BJ k1,BJ k2,Option.bind_some];by_cases h1:(mM l0 l1 a3).2=0
     ·by_cases h2:(mM l0 l2 a3).2=0
      ·have t0:=(uD (CN h1)).2.2.2.1;have hf:=WD t0 t1 e1 e2 e3;have hs:=aBP t1 hf h1 h2;simp only [h1,h2,decide_true,Bool.not_true,Bool.or_self,cond_false,BT k1,BT k2,Option.bind_some,←hs];by_cases p1:(sH l0 l1 0 a3).2=0
       ·by_cases p2:(sH l0 l2 0 a3).2=0
        ·obtain⟨u1,u2⟩:=RH k1 l0 0 a3;obtain⟨v1,v2⟩:=RH k2 l0 0 a3;obtain⟨s1,s2⟩:=aB5 (t:=(mM l0 l1 a3).1) u2;simp only [p1,p2,decide_true,Bool.not_true,Bool.or_self,cond_false,sG,Option.bind_some,cX,cond_true];rw [QW (by omega),QW (by omega),Option.bind_some,Option.bind_some,←ZH t1 hf h1 h2 p1 p2,YR (by omega) s2];rfl
        ·simp [p1,p2,sG]
       ·simp [p1,sG]
      ·simp [h2,sG]
     ·simp [h1,sG]
    ·have b1:decide ((1125899906842624:Int)<=a3)=true:=by simp; omega
     simp [b1,sG]
   ·simp [e3,sG]
  ·simp [e2,cX,sG]
 ·simp [e1,cX,sG]

end Go.Abs
