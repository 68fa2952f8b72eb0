/- What the law WindowParts stands on: the framework, the given functions as plain functions, their walks, and the plain laws; part 7. -/
import Derived.Test.YteecjdpicjpnfabGreatWindowPartsZ6
set_option linter.unusedSimpArgs false
set_option linter.unusedVariables false
namespace Go.Abs
open Go
theorem aC0 {l:List aJ}(hl:okL l)(hm:iM l=true){cuts:List Int}(hc:cuts.length<=1000000) :
  lp (fun s:List aG×Int=>oO l cuts s.1 s.2) ([],0)=some (nO (fun t=>lQ t (groups l)) cuts):=by
 let al:=fun t=>lQ t (groups l)
 have key:∀ (r:List Int) (k:Nat) (s:List aG),cuts.drop k=r->k<=cuts.length->s.length<=k ->
   lp (fun s:List aG×Int=>oO l cuts s.1 s.2) (s,(k:Int))=some (s++nO al r):=by
  intro r
  induction r with
  | nil =>
   intro k s hd hk hs
   have : k=cuts.length:=by
    have:=congrArg List.length hd;simp only [List.length_drop,List.length_nil] at this; omega
   subst this;refine cZ ?_;simp only [oO,eP,cond_false,nO,List.append_nil]
  | cons t r ih =>
   intro k s hd hk hs;obtain⟨h1,h2⟩:=drop_cons hd;obtain⟨d1,d2,d3,d4⟩:=idx h1 (by omega);have hlt:k<cuts.length:=(List.getElem?_eq_some_iff.1 h1).1;have hh:=aBA hd 1125899906842624
   have hj:∀ sp:aU,sM l cuts s (k:Int) ⟨sp,lQ t (groups l)⟩=some (.inl (s++(if al t=[] then [] else [⟨sp,al t⟩]),((k+1:Nat):Int))):=by
    intro sp;simp only [sM,xD,d4];by_cases ha:lQ t (groups l)=[]
    ·simp [al,ha]
    ·have hp:0<(lQ t (groups l)).length:=List.length_pos_iff.2 ha;rw [decide_eq_true (by omega),cond_true,aO (by simp only [List.length_cons,List.length_nil]; omega),if_neg (show ¬ al t=[] from ha)]
   have hb:oO l cuts s (k:Int)=some (.inl (s++(if al t=[] then [] else [⟨⟨t,r.headD 1125899906842624⟩,al t⟩]),((k+1:Nat):Int))):=by
    simp only [oO,d1,cond_true,aO d2,d3,d4,aC8 hl hm,Option.bind_some];by_cases hk1:k+1<cuts.length
    ·rw [decide_eq_true (by omega),cond_true,aO (by omega)]
     have : List.getD cuts (Int.toNat ((k+1:Nat):Int)) default=r.headD 1125899906842624:=by
      rw [←hh,Int.toNat_natCast,List.getD_eq_getElem?_getD,List.getElem?_eq_getElem hk1]; rfl
     rw [this,hj]
    ·rw [decide_eq_false (by omega),cond_false]
     have : r.headD 1125899906842624=1125899906842624:=by
      rw [←hh,List.getElem?_eq_none (by omega)]; rfl
     rw [hj,this]
   rw [eT hb,ih (k+1) _ h2 (by omega) (by simp only [List.length_append]; split <;> simp <;> omega)];simp [nO]
 exact key cuts 0 [] rfl (by omega) (by simp)

theorem aDj {l:List aJ}(hl:okL l)(frm:Int):yW l frm=some (HK l frm):=by
 unfold yW HK;rw [aEd hl,Option.bind_some];by_cases h:(pF l frm).2=0
 ·rw [if_neg (by simpa using h),decide_eq_true h,Bool.not_true,cond_false];unfold CE;rw [aC0 hl (NZ h).1 (by have:=(PF (l:=l) (frm:=frm)).2; omega),Option.bind_some];unfold vZ aEr;by_cases h1:1024<(nO (fun t=>lQ t (groups l)) (pF l frm).1).length
  ·rw [if_pos h1,decide_eq_true (by omega)]; rfl
  ·rw [if_neg h1,decide_eq_false (by omega)]; rfl
 ·rw [if_pos h,decide_eq_false h]; rfl

def okC (x:List bA):Prop:=x.length<=1000000 /\ ∀ c∈x,c.Row.length<=17592186044416

theorem aAt {x:List bA}(h:okC x):rC x x=some true:=by
 unfold rC tT;rw [WC rfl,cond_false];have h1:=h.1;rw [JX (l:=x) (body:=fun s=>nW x x s) (fun i=>i) (fun _=>false) (.inr false) (.inl ()) ?_ ?_]
 ·simp [qA]
 ·intro i a ha;obtain⟨d1,d2,d3,d4⟩:=idx ha (by omega);simp only [nW,d1,cond_true,aO d2,d3,d4,decide_true,Bool.not_true,Bool.not_false,cW,HT a.Row a.Row (h.2 a (List.mem_of_getElem? ha)),Option.bind_some,Bool.false_or,cond_false];rw [aO (fun _=>d2),aO (fun _=>d2)];rfl
 ·simp only [nW,eP,cond_false]

theorem aCk {x:List aG}(h1:x.length<=1000000)(h:∀ p∈x,okC p.Rows):AU x x=some true:=by
 unfold AU DQ;rw [WC rfl,cond_false];rw [JX (l:=x) (body:=fun s=>uL x x s) (fun i=>i) (fun _=>false) (.inr false) (.inl ()) ?_ ?_]
 ·simp [yS]
 ·intro i a ha;obtain⟨d1,d2,d3,d4⟩:=idx ha (by omega);simp only [uL,d1,cond_true,aO d2,d3,d4,decide_true,Bool.and_self,Bool.not_true,Bool.not_false,cW,aAt (h a (List.mem_of_getElem? ha)),Option.bind_some,Bool.false_or,cond_false];rw [aO (fun _=>d2),aO (fun _=>d2)];rfl
 ·simp only [uL,eP,cond_false]

theorem aEi {gs:List (List aH×List aM)}(hg:∀ g∈gs,gJ g.2=true/\g.1.length<=4398046510976)(hn:gs.length<=1000000)(t:Int):okC (lQ t gs):=by
 refine⟨by have:=aEB t gs; omega,fun c hc=>?_⟩;obtain⟨g,h1,h2⟩:=List.mem_filterMap.1 hc;split at h2
 ·simp only [Option.some.injEq] at h2; subst h2;have:=(hg g h1).2; simp only; omega
 ·cases h2

theorem WX {al:Int->List bA}{p:aG}:∀ {cs:List Int},p∈nO al cs -> ∃ t∈cs,p.Rows=al t/\p.Span.From=t
 | [],h=>by simp [nO] at h
 | t::cs,h=>by
  unfold nO at h;rcases List.mem_append.1 h with h | h
  ·split at h
   ·simp at h
   ·simp at h; subst h; exact ⟨t,by simp,rfl,rfl⟩
  ·obtain⟨t',h1,h2⟩:=WX h;exact⟨t',by simp [h1],h2⟩

theorem aEh {l:List aJ}(hl:okL l)(frm:Int):(HK l frm).1.length<=4097 /\ ∀ p∈(HK l frm).1,okC p.Rows:=by
 unfold HK;by_cases h:(pF l frm).2=0
 ·rw [if_neg (by simpa using h)];obtain⟨g1,g2⟩:=IS hl (NZ h).1;unfold aEr;split
  ·simp
  ·refine⟨by show (nO (fun t=>lQ t (groups l)) (pF l frm).1).length<=4097; have:=WJ (fun t=>lQ t (groups l)) (pF l frm).1; have:=(PF (l:=l) (frm:=frm)).2; omega,fun p hp=>?_⟩;obtain⟨t,_,h2,_⟩:=WX hp;rw [h2]; exact aEi g1 (by omega) t
 ·rw [if_pos h]; simp

def aAY:aH:=⟨1,1,ByteArray.empty⟩

end Go.Abs
namespace Go.Abs
open Go
def oC (e:aJ):Bool:=decide (0<e.Net)&&decide (-1<e.At)

def dD (l:List aJ):List Int:=(l.filter oC).foldl (fun c e=>iA e.At c) []

theorem XF {S:Type} {body:S->aJ->Option (S⊕S)} {l:List aJ} (hl:l.length<=1000000) (f:S->aJ->S) (Inv:S->List aJ->Prop)
  (h:∀ s e r,Inv s (e::r)->(oC e=true->body s e=some (.inl (f s e))/\Inv (f s e) r)/\(oC e=false->Inv s r)) {s:S} (hi:Inv s l) :
  oM (fun st e=>rnd (fun s=>body s e) st) l (.inl s:S⊕S)=some (.inl ((l.filter oC).foldl f s)):=by
 unfold oM tY;rw [jY (l:=l) (body:=fun s:(S⊕S)×Int=>mC (fun st e=>rnd (fun s=>body s e) st) l ((l.length:Nat):Int) s.1 s.2) (fun (s:S) i=>(.inl s,i)) (fun s r=>.inl (.inl ((r.filter oC).foldl f s))) Inv s ?_ ?_ hi]
 ·rfl
 ·intro i e r s he hI;left;obtain⟨d1,d2,d3,d4⟩:=idx he (by omega);obtain⟨h1,h2⟩:=h s e r hI
  cases hr:oC e with
  | true =>
   obtain⟨b1,b2⟩:=h1 hr;refine⟨f s e,?_,b2,by simp [hr]⟩;have hc:(decide (0<e.Net)&&decide (-1<e.At))=true:=hr;simp only [mC,d1,cond_true,aO d2,d3,d4,hc,HJ,rnd,b1,Option.bind_some,Bool.true_and];rfl
  | false =>
   refine⟨s,?_,h2 hr,by simp [hr]⟩;have hc:(decide (0<e.Net)&&decide (-1<e.At))=false:=hr;simp only [mC,d1,cond_true,aO d2,d3,d4,hc,HJ,cond_false,Option.bind_some,Bool.false_and]
 ·intro s _;simp only [mC,eP,cond_false];rfl

theorem aAc:∀ {a b:List Int},a.Pairwise (· < ·)->b.Pairwise (· < ·)->(∀ x,x∈a↔x∈b)->a=b
 | [],[],_,_,_=>rfl
 | [],y::b,_,_,h=>by have:=(h y).2 (by simp); simp at this
 | x::a,[],_,_,h=>by have:=(h x).1 (by simp); simp at this
 | x::a,y::b,ha,hb,h=>by
  obtain⟨a1,a2⟩:=List.pairwise_cons.1 ha;obtain⟨b1,b2⟩:=List.pairwise_cons.1 hb
  have hxy:x=y:=by
   rcases List.mem_cons.1 ((h x).1 (by simp)) with h1 | h1
   ·exact h1
   ·rcases List.mem_cons.1 ((h y).2 (by simp)) with h2 | h2
    ·exact h2.symm
    ·have:=a1 y h2; have:=b1 x h1; omega
  subst hxy;rw [aAc a2 b2 fun z=>?_];constructor
  ·intro hz;rcases List.mem_cons.1 ((h z).1 (by simp [hz])) with h1 | h1
   ·have:=a1 z hz; omega
   ·exact h1
  ·intro hz;rcases List.mem_cons.1 ((h z).2 (by simp [hz])) with h1 | h1
   ·have:=b1 z hz; omega
   ·exact h1

theorem VM {d:List Int}(hd:d.Pairwise (· <= ·)){i j:Nat}(hij:i<=j)(hj:j<d.length):d.getD i 0<=d.getD j 0:=by
 rw [List.getD_eq_getElem?_getD,List.getD_eq_getElem?_getD,List.getElem?_eq_getElem (by omega),List.getElem?_eq_getElem hj];rcases Nat.lt_or_ge i j with h | h
 ·exact List.pairwise_iff_getElem.1 hd i j (by omega) hj h
 ·have : i=j:=by omega
  subst this; exact Int.le_refl _

theorem OZ {d:List Int}{p:Nat}(hp:p<d.length):d.take (p+1)=d.take p++[d.getD p 0]:=by
 rw [List.take_add_one,List.getElem?_eq_getElem hp,List.getD_eq_getElem?_getD,List.getElem?_eq_getElem hp]; rfl

theorem aDn {d:List Int}(hd:d.Pairwise (· <= ·)){p:Nat}(hp:p<d.length){x:Int}(hx:x∈d.take (p+1)):x<=d.getD p 0:=by
 obtain⟨i,hi⟩:=List.getElem?_of_mem hx;rw [List.getElem?_take] at hi;split at hi
 ·rename_i hlt
  have:=VM hd (i:=i) (j:=p) (by omega) hp;rw [List.getD_eq_getElem?_getD (i:=i),hi] at this;exact this
 ·cases hi

def Kept (d c:List Int)(p:Nat):Prop:=c.Pairwise (· < ·) /\ ∀ x,x∈c↔x∈d.take p

theorem Kept.same {d c:List Int}{p:Nat}(h:Kept d c p)(h0:0<p)(hp:p<d.length)(e:d.getD p 0=d.getD (p-1) 0):Kept d c (p+1):=by
 refine⟨h.1,fun x=>?_⟩;rw [h.2 x,OZ hp,List.mem_append];constructor
 ·exact .inl
 ·rintro (h1 | h1)
  ·exact h1
  ·rw [List.mem_singleton.1 h1,e];have : p-1<p:=by omega
   refine List.mem_of_getElem? (i:=p-1) ?_;rw [List.getElem?_take,if_pos this,List.getD_eq_getElem?_getD,List.getElem?_eq_getElem (by omega)]; rfl

theorem Kept.more {d c:List Int}{p:Nat}(hd:d.Pairwise (· <= ·))(h:Kept d c p)(h0:0<p)(hp:p<d.length)(e:d.getD p 0≠d.getD (p-1) 0):Kept d (c++[d.getD p 0]) (p+1):=by
 have hle:=VM hd (i:=p-1) (j:=p) (by omega) hp;refine⟨?_,fun x=>by rw [OZ hp,List.mem_append,List.mem_append,h.2 x]⟩;rw [List.pairwise_append];refine⟨h.1,by simp,fun a ha b hb=>?_⟩;rw [List.mem_singleton.1 hb];have ha':=(h.2 a).1 ha
 have : a<=d.getD (p-1) 0:=by
  refine aDn hd (by omega) ?_
  rwa [show p-1+1=p by omega]
 omega

theorem sD (d:List Int)(i:Nat):d.getD i default=d.getD i 0:=rfl

theorem aBf {d:List Int}(hd:d.Pairwise (· <= ·))(hl:d.length<=1000000){k:Nat}(hk0:0<k)(hk:k<d.length){c:List Int}(hc:Kept d c (k+1))(hck:c=d.take k) :
  ∃ r,lp (fun s:List Int×Int×Int=>gS (0+Int.toNat ((k:Nat):Int)) (d.length-Int.toNat ((k:Nat):Int)) s.1 s.2.1 s.2.2) (d,((k:Nat):Int),1)=some r /\
   ∃ c' k3:Nat->Nat,True /\ ∃ (cc:List Int) (m:Nat),r.2=((m:Nat):Int)/\r.1.length=d.length/\m<=d.length/\r.1.take m=cc/\Kept d cc d.length:=by
 have key:=aCx (body:=fun s:List Int×Int×Int=>gS (0+Int.toNat ((k:Nat):Int)) (d.length-Int.toNat ((k:Nat):Int)) s.1 s.2.1 s.2.2)
  (I:=fun s=>∃ (k2 m:Nat),s.2.2=((k2:Nat):Int)/\s.2.1=((m:Nat):Int)/\0<k2/\k+k2<=d.length/\s.1.length=d.length/\m+1<=k+k2/\(∀ j,m<=j->s.1[j]?=d[j]?)/\Kept d (s.1.take m) (k+k2))
  (m:=fun s=>d.length+1-s.2.2.toNat) (Post:=fun r=>∃ m:Nat,r.2=((m:Nat):Int)/\r.1.length=d.length/\m<=d.length/\Kept d (r.1.take m) d.length) ?_ (s:=(d,((k:Nat):Int),1)) ?_
 ·obtain⟨r,h1,m,h2,h3,h4,h5⟩:=key;exact⟨r,h1,id,id,trivial,_,m,h2,h3,h4,rfl,h5⟩
 ·rintro ⟨s0,k3,k25⟩ ⟨k2,m,e1,e2,g1,g2,g3,g4,g5,g6⟩;simp only at e1 e2 g3 g5 g6;subst e1 e2;by_cases hlt:k+k2<d.length
  ·left
   have hat:∀ j,m<=j->s0.getD j 0=d.getD j 0:=fun j hj=>by
    rw [List.getD_eq_getElem?_getD,List.getD_eq_getElem?_getD,g5 j hj]
   have w1:IntKind.i64.wrap (((k2:Nat):Int)-1)=((k2-1:Nat):Int):=by rw [cO (by omega) (by omega)]; omega
   have w2:IntKind.i64.wrap (((k2:Nat):Int)+1)=((k2+1:Nat):Int):=by rw [cO (by omega) (by omega)]; omega
   have w3:IntKind.i64.wrap (((m:Nat):Int)+1)=((m+1:Nat):Int):=by rw [cO (by omega) (by omega)]; omega
   have c1:decide (((k2:Nat):Int)<((d.length-Int.toNat ((k:Nat):Int):Nat):Int))=true:=by
    rw [decide_eq_true_eq]; simp only [Int.toNat_natCast]; omega
   have c2:(0:Int)<=((k2:Nat):Int)/\((k2:Nat):Int)<((d.length-Int.toNat ((k:Nat):Int):Nat):Int):=⟨by omega,by simp only [Int.toNat_natCast]; omega⟩;have c3:0+Int.toNat ((k:Nat):Int)+Int.toNat ((k2:Nat):Int)<s0.length:=by simp only [Int.toNat_natCast]; omega
   have c4:(0:Int)<=((k2-1:Nat):Int)/\((k2-1:Nat):Int)<((d.length-Int.toNat ((k:Nat):Int):Nat):Int):=⟨by omega,by simp only [Int.toNat_natCast]; omega⟩;have c5:0+Int.toNat ((k:Nat):Int)+Int.toNat ((k2-1:Nat):Int)<s0.length:=by simp only [Int.toNat_natCast]; omega
   have c6:(0:Int)<=((m:Nat):Int)/\((m:Nat):Int)<((s0.length:Nat):Int):=⟨by omega,by omega⟩
   have i1:s0.getD (0+Int.toNat ((k:Nat):Int)+Int.toNat ((k2:Nat):Int)) default=d.getD (k+k2) 0:=by
    rw [sD,show 0+Int.toNat ((k:Nat):Int)+Int.toNat ((k2:Nat):Int)=k+k2 by simp only [Int.toNat_natCast]; omega]; exact hat _ (by omega)
   have i2:s0.getD (0+Int.toNat ((k:Nat):Int)+Int.toNat ((k2-1:Nat):Int)) default=d.getD (k+k2-1) 0:=by
    rw [sD,show 0+Int.toNat ((k:Nat):Int)+Int.toNat ((k2-1:Nat):Int)=k+k2-1 by simp only [Int.toNat_natCast]; omega]; exact hat _ (by omega)
   by_cases he:d.getD (k+k2) 0=d.getD (k+k2-1) 0
   ·refine⟨(s0,((m:Nat):Int),((k2+1:Nat):Int)),?_,⟨k2+1,m,rfl,rfl,by omega,by omega,g3,by omega,g5,?_⟩,by simp only [Int.toNat_natCast]; omega⟩
    ·simp only [gS,kK,c1,cond_true,aO c2,aO c3,w1,aO c4,aO c5,i1,i2,he,decide_true,Bool.not_true,cond_false,w2]
    ·exact g6.same (by omega) hlt he
   ·refine⟨(s0.set m (d.getD (k+k2) 0),((m+1:Nat):Int),((k2+1:Nat):Int)),?_,⟨k2+1,m+1,rfl,rfl,by omega,by omega,by simpa using g3,by omega,fun j hj=>?_,?_⟩,by simp only [Int.toNat_natCast]; omega⟩
    ·simp only [gS,kK,c1,cond_true,aO c2,aO c3,w1,aO c4,aO c5,i1,i2,decide_eq_false he,Bool.not_false,aO c6,w2,w3];rfl
    ·simp only;rw [List.getElem?_set_ne (by omega)]; exact g5 j (by omega)
    ·have h1:=g6.more hd (by omega) hlt he
     have h2:(s0.set m (d.getD (k+k2) 0)).take (m+1)=s0.take m++[d.getD (k+k2) 0]:=by
      rw [List.take_add_one,List.take_set_of_le (Nat.le_refl m),List.getElem?_set_self (by omega)]; rfl
     simp only;rw [h2]; exact h1
  ·right;have hk2:k+k2=d.length:=by omega
   refine⟨(s0,((m:Nat):Int)),?_,m,rfl,g3,by omega,by rw [←hk2]; exact g6⟩
   have c1:decide (((k2:Nat):Int)<((d.length-Int.toNat ((k:Nat):Int):Nat):Int))=false:=by
    rw [decide_eq_false_iff_not]; simp only [Int.toNat_natCast]; omega
   simp only [gS,c1,cond_false]
 ·refine⟨1,k,rfl,rfl,by omega,by omega,rfl,by omega,fun _ _=>rfl,?_⟩;rw [←hck]; exact hc

theorem aEK {k:Nat}{d:List Int}:(lR k d).take k=d.take k:=by
 unfold lR;by_cases h:k<=d.length
 ·rw [List.take_append_of_le_length (by simp; omega),List.take_take]; simp
 ·have e1:d.take k=d:=List.take_of_length_le (by omega);rw [e1,show d.length-k=0 by omega,List.replicate_zero,List.append_nil,e1]

theorem aEJ {d:List Int}(hd:d.Pairwise (· <= ·))(hl:d.length<=1000000):∃ c,lA d=some c/\Kept d c d.length:=by
 unfold lA;by_cases h2:d.length<2
 ·rw [decide_eq_true (by omega),cond_true];refine⟨d,rfl,?_,fun x=>by rw [List.take_length]⟩
  match d,h2 with
  | [],_=>exact List.Pairwise.nil
  | [x],_=>exact List.pairwise_singleton ..
  | _::_::_,h=>simp at h; omega
 ·rw [decide_eq_false (by omega),cond_false];unfold oT
  have key:=aCx (body:=fun s:List Int×Int=>iY s.1 s.2)
   (I:=fun s=>s.1=d /\ ∃ k:Nat,s.2=((k:Nat):Int)/\0<k/\k<=d.length/\(d.take k).Pairwise (· < ·)) (m:=fun s=>d.length+1-s.2.toNat)
   (Post:=fun r=>∃ c,Sum.elim (fun rr:List Int=>mO rr) (fun rr=>some rr) r=some c/\Kept d c d.length) ?_ (s:=(d,1)) ?_
  ·obtain⟨r,h3,c,h4,h5⟩:=key;rw [h3,Option.bind_some];exact⟨c,h4,h5⟩
  ·rintro ⟨s0,k3⟩ ⟨e1,k,e2,g1,g2,g3⟩;simp only at e1 e2;subst e1 e2;by_cases hlt:k<s0.length
   ·have w1:IntKind.i64.wrap (((k:Nat):Int)-1)=((k-1:Nat):Int):=by rw [cO (by omega) (by omega)]; omega
    have w2:IntKind.i64.wrap (((k:Nat):Int)+1)=((k+1:Nat):Int):=by rw [cO (by omega) (by omega)]; omega
    have c1:(0:Int)<=((k:Nat):Int)/\((k:Nat):Int)<((s0.length:Nat):Int):=⟨by omega,by omega⟩;have c2:(0:Int)<=((k-1:Nat):Int)/\((k-1:Nat):Int)<((s0.length:Nat):Int):=⟨by omega,by omega⟩;have hK:Kept s0 (s0.take k) k:=⟨g3,fun _=>Iff.rfl⟩;by_cases he:s0.getD k 0=s0.getD (k-1) 0
    ·right;obtain⟨r,h3,_,_,_,cc,m,h4,h5,h6,h7,h8⟩:=aBf hd hl g1 hlt (hK.same g1 hlt he) rfl;refine⟨.inr cc,?_,cc,rfl,h8⟩;have c3:(0:Int)<=((k:Nat):Int)/\((k:Nat):Int)<=((s0.length:Nat):Int):=⟨by omega,by omega⟩;simp only [iY,decide_eq_true c1.2,cond_true,aO c1,w1,aO c2,Int.toNat_natCast,sD,he,decide_true,aO c3,oS];rw [Int.toNat_natCast] at h3;rw [h3,Option.bind_some];unfold mL;rw [h4,aO (by omega),aO (by rw [clearL_len]; omega),aO (by rw [clearL_len,Int.toNat_natCast]; omega),Int.toNat_natCast,Nat.zero_add,aEK,h7]
    ·left;refine⟨(s0,((k+1:Nat):Int)),?_,⟨rfl,k+1,rfl,by omega,by omega,?_⟩,by simp only [Int.toNat_natCast]; omega⟩
     ·simp only [iY,oV,decide_eq_true c1.2,cond_true,aO c1,w1,aO c2,Int.toNat_natCast,sD,decide_eq_false he,cond_false,w2]
     ·rw [OZ hlt];exact (hK.more hd g1 hlt he).1
   ·right;have hk:k=s0.length:=by omega
    subst hk;refine⟨.inl s0,?_,s0,rfl,?_,fun x=>by rw [List.take_length]⟩
    ·simp only [iY,eP,cond_false]
    ·rwa [List.take_length] at g3
  ·refine⟨rfl,1,rfl,by omega,by omega,?_⟩
   match d,h2 with
   | x::r,_=>simp
   | [],h=>simp at h

theorem WS {l:List aJ}:∀ {c:List Int},(∀ e∈l,oC e=true/\e.At<1125899906842624)->Inc (-1) c->Inc (-1) (l.foldl (fun c e=>iA e.At c) c)/\(∀ x,x∈l.foldl (fun c e=>iA e.At c) c↔x∈c ∨ ∃ e∈l,e.At=x):=by
 induction l with
 | nil=>intro c _ hi; exact ⟨hi,fun x=>by simp⟩
 | cons e l ih =>
  intro c he hi;have h1:=he e (by simp);have hr : -1<e.At:=by have:=h1.1; simp [oC] at this; omega
  obtain⟨i1,i2⟩:=ih (c:=iA e.At c) (fun q hq=>he q (by simp [hq])) (xH hi hr h1.2);refine⟨i1,fun x=>?_⟩;rw [List.foldl_cons,i2 x,QA];constructor
  ·rintro ((h | h) | ⟨q,h,h'⟩)
   ·exact .inr ⟨e,by simp,h.symm⟩
   ·exact .inl h
   ·exact .inr ⟨q,by simp [h],h'⟩
  ·rintro (h | ⟨q,h,h'⟩)
   ·exact .inl (.inr h)
   ·rcases List.mem_cons.1 h with rfl | h
    ·exact .inl (.inl h'.symm)
    ·exact .inr ⟨q,h,h'⟩

theorem SM {l:List aJ}(h:∀ e∈l,e.At<1125899906842624):Inc (-1) (dD l) :=
 (WS (c:=[]) (fun e he=>by have:=List.mem_filter.1 he; exact ⟨this.2,h e this.1⟩) trivial).1

theorem aC6 {l:List aJ}(h:∀ e∈l,e.At<1125899906842624){x:Int}:x∈dD l ↔ ∃ e∈l,oC e=true/\e.At=x:=by
 unfold dD;rw [(WS (c:=[]) (fun e he=>by have:=List.mem_filter.1 he; exact ⟨this.2,h e this.1⟩) trivial).2 x];constructor
 ·rintro (h1 | ⟨e,h1,h2⟩)
  ·simp at h1
  ·have:=List.mem_filter.1 h1; exact ⟨e,this.1,this.2,h2⟩
 ·rintro ⟨e,h1,h2,h3⟩;exact .inr ⟨e,List.mem_filter.2 ⟨h1,h2⟩,h3⟩

theorem aEX {l:List aJ}:∀ {c:List Int},l.foldl (fun c e=>c++[e.At]) c=c++l.map (·.At):=by
 induction l with
 | nil=>intro c; simp
 | cons e l ih=>intro c; rw [List.foldl_cons,ih]; simp

theorem KT {l:List aJ}(hn:l.length<=4096)(hat:∀ e∈l,e.At<1125899906842624):rE l=some (dD l):=by
 unfold rE sH;rw [Option.bind_some];unfold yD;rw [XF (by omega) (fun s e=>s++[e.At]) (fun s r=>s.length+r.length<=1000000) (fun s e r hI=>⟨fun _=>⟨?_,?_⟩,fun _=>?_⟩) (by simp; omega),Option.bind_some,Sum.elim_inl,aEX,List.nil_append]
 ·have hfl:=List.length_filter_le oC l;obtain⟨d',h1,h2,h3⟩:=aDW (d:=(l.filter oC).map (·.At)) (by simp; omega);have hdl:d'.length<=4096:=by rw [h2.length_eq,List.length_map]; omega
  obtain⟨c,h4,h5⟩:=aEJ h3 (by omega);rw [h1,Option.bind_some,h4,Option.bind_some]
  congr 1
  refine aAc h5.1 (NS (SM hat)) fun x=>?_;rw [h5.2 x,List.take_length,h2.mem_iff,aC6 hat,List.mem_map];constructor
  ·rintro ⟨e,q1,q2⟩;have:=List.mem_filter.1 q1; exact ⟨e,this.1,this.2,q2⟩
  ·rintro ⟨e,q1,q2,q3⟩;exact⟨e,List.mem_filter.2 ⟨q1,q2⟩,q3⟩
 ·simp only [List.length_cons] at hI;unfold sY;rw [aO (by simp only [List.length_cons,List.length_nil]; omega)]
 ·simp only [List.length_cons,List.length_append,List.length_nil] at hI ⊢; omega
 ·simp only [List.length_cons] at hI; omega

theorem aC1 (l:List aJ):(dD l).length<=l.length:=by
 have key:∀ (l:List aJ) (c:List Int),(l.foldl (fun c e=>iA e.At c) c).length<=c.length+l.length:=by
  intro l
  induction l with
  | nil=>intro c; simp
  | cons e l ih=>intro c; rw [List.foldl_cons]; have:=ih (iA e.At c); have:=ER (t:=e.At) (ps:=c); simp only [List.length_cons]; omega
 have h1:=key (l.filter oC) [];have h2:=List.length_filter_le oC l;simp only [List.length_nil] at h1;unfold dD; omega

end Go.Abs
namespace Go.Abs
open Go
theorem aGK {a:List Int}{t:Int}{m:Nat}(h1:∀ x∈a.take m,x<t)(h2:∀ x∈a.drop m,t<=x):(a.filter fun x=>decide (x<t))=a.take m/\(a.filter fun x=>decide (t<=x))=a.drop m:=by
 have e:a=a.take m++a.drop m:=(List.take_append_drop m a).symm;have e1:(a.take m).filter (fun x=>decide (x<t))=a.take m:=List.filter_eq_self.2 fun x hx=>by simpa using h1 x hx
 have e2:(a.drop m).filter (fun x=>decide (x<t))=[]:=List.filter_eq_nil_iff.2 fun x hx=>by have:=h2 x hx; simp; omega
 have e3:(a.take m).filter (fun x=>decide (t<=x))=[]:=List.filter_eq_nil_iff.2 fun x hx=>by have:=h1 x hx; simp; omega
 have e4:(a.drop m).filter (fun x=>decide (t<=x))=a.drop m:=List.filter_eq_self.2 fun x hx=>by simpa using h2 x hx
 constructor
 ·conv=>lhs; rw [e]
  rw [List.filter_append,e1,e2,List.append_nil]
 ·conv=>lhs; rw [e]
  rw [List.filter_append,e3,e4,List.nil_append]

theorem aDV (x y:Int):eG x y=some (decide (x<y)):=by simp [eG,mJ,cW]

theorem aIQ {a:List Int}(hd:a.Pairwise (· <= ·))(hl:a.length<=1000000)(t:Int):∃ (m:Nat) (b:Bool),gM a t=some (((m:Nat):Int),b)/\m<=a.length/\(a.filter fun x=>decide (x<t))=a.take m/\(a.filter fun x=>decide (t<=x))=a.drop m:=by
 unfold gM mG
 have key:=aCx (body:=fun s:Int×Int=>fV a t ((a.length:Nat):Int) s.1 s.2)
  (I:=fun s=>∃ i j:Nat,s.1=((i:Nat):Int)/\s.2=((j:Nat):Int)/\i<=j/\j<=a.length/\(∀ k,k<i->a.getD k 0<t) /\ ∀ k,j<=k->k<a.length->t<=a.getD k 0)
  (m:=fun s=>s.2.toNat-s.1.toNat) (Post:=fun r=>∃ m:Nat,r=((m:Nat):Int)/\m<=a.length/\(∀ k,k<m->a.getD k 0<t) /\ ∀ k,m<=k->k<a.length->t<=a.getD k 0) ?_ (s:=(0,((a.length:Nat):Int))) ?_
 ·obtain⟨r,h1,m,rfl,h2,h3,h4⟩:=key;rw [h1,Option.bind_some]
  have hs:=aGK (a:=a) (t:=t) (m:=m) (fun x hx=>by
   obtain⟨k,hk⟩:=List.getElem?_of_mem hx;rw [List.getElem?_take] at hk;split at hk
   ·rename_i hlt
    have:=h3 k hlt
    rwa [List.getD_eq_getElem?_getD,hk] at this
   ·cases hk) (fun x hx=>by
   obtain⟨k,hk⟩:=List.getElem?_of_mem hx;rw [List.getElem?_drop] at hk;have hlt:=(List.getElem?_eq_some_iff.1 hk).1;have:=h4 (m+k) (by omega) hlt
   rwa [List.getD_eq_getElem?_getD,hk] at this)
  unfold kB
  have c1:∀ b:Bool,(b&&decide (((m:Nat):Int)<((a.length:Nat):Int)))=true->(0:Int)<=((m:Nat):Int)/\((m:Nat):Int)<((a.length:Nat):Int):=fun b hb=>by
   simp only [Bool.and_eq_true,decide_eq_true_eq] at hb; omega
  rw [aO (fun hb=>by have:=of_decide_eq_true hb; omega),aO (c1 _)];simp only [rB,cW]
  cases (!decide (a.getD (Int.toNat ((m:Nat):Int)) default=t)&&decide (((m:Nat):Int)<((a.length:Nat):Int))) <;> simp only [cond_true,cond_false,Option.bind_some,Bool.and_true,Bool.and_false,decide_true,Bool.not_true]
  ·exact⟨m,_,rfl,h2,hs.1,hs.2⟩
  ·exact⟨m,_,rfl,h2,hs.1,hs.2⟩
 ·rintro ⟨x,y⟩ ⟨i,j,e1,e2,g1,g2,g3,g4⟩;simp only at e1 e2;subst e1 e2;by_cases hij:i<j
  ·left
   have hm:IntKind.i64.wrap (Int.fdiv (IntKind.u64.wrap (IntKind.i64.wrap (((i:Nat):Int)+((j:Nat):Int)))) (2 ^ (min (Int.toNat (1:Int)) 64)))=(((i+j) / 2:Nat):Int):=by
    rw [←Int.natCast_add]; exact half (by omega)
   have c1:(0:Int)<=(((i+j) / 2:Nat):Int)/\(((i+j) / 2:Nat):Int)<((a.length:Nat):Int):=⟨by omega,by omega⟩;have w1:IntKind.i64.wrap ((((i+j) / 2:Nat):Int)+1)=(((i+j) / 2+1:Nat):Int):=by rw [cO (by omega) (by omega)]; omega
   by_cases hc:a.getD ((i+j) / 2) 0<t
   ·refine⟨((((i+j) / 2+1:Nat):Int),((j:Nat):Int)),?_,⟨(i+j) / 2+1,j,rfl,rfl,by omega,g2,fun k hk=>?_,g4⟩,by simp only [Int.toNat_natCast]; omega⟩
    ·simp only [fV,decide_eq_true (show ((i:Nat):Int)<((j:Nat):Int) by omega),cond_true,aO (show (0:Int)<=1 by decide),hm,aO c1,Int.toNat_natCast,sD,aDV,Option.bind_some,w1];rw [decide_eq_true hc,cond_true]
    ·have:=VM hd (i:=k) (j:=(i+j) / 2) (by omega) (by omega); omega
   ·refine⟨(((i:Nat):Int),(((i+j) / 2:Nat):Int)),?_,⟨i,(i+j) / 2,rfl,rfl,by omega,by omega,g3,fun k hk hkl=>?_⟩,by simp only [Int.toNat_natCast]; omega⟩
    ·simp only [fV,decide_eq_true (show ((i:Nat):Int)<((j:Nat):Int) by omega),cond_true,aO (show (0:Int)<=1 by decide),hm,aO c1,Int.toNat_natCast,sD,aDV,Option.bind_some,w1];rw [decide_eq_false hc,cond_false]
    ·have:=VM hd (i:=(i+j) / 2) (j:=k) (by omega) hkl; omega
  ·right;refine⟨((i:Nat):Int),?_,i,rfl,by omega,g3,fun k hk hkl=>g4 k (by omega) hkl⟩;simp only [fV,decide_eq_false (show ¬ ((i:Nat):Int)<((j:Nat):Int) by omega),cond_false]
 ·exact⟨0,a.length,rfl,rfl,by omega,Nat.le_refl _,fun k hk=>by omega,fun k h1 h2=>by omega⟩

def pE (l:List aJ)(n:Int):Int:=if !iM l||decide (n<1)||decide (64<n) then 2 else if !lC l then 20 else 0

theorem PU {l:List aJ}(hl:okL l)(n:Int):vV l n=some (pE l n):=by
 unfold vV pE;rw [ME hl,Option.bind_some]
 cases (!iM l||decide (n<1)||decide (64<n)) with
 | true=>rfl
 | false =>
  rw [cond_false,LH hl,Option.bind_some]
  cases lC l <;> rfl

theorem SK {l:List aJ}(hl:okL l)(n:Int):uK l n=some (pE l n):=by
 unfold uK pE;rw [FY hl,Option.bind_some]
 cases (!iM l||decide (n<1)||decide (64<n)) with
 | true=>rfl
 | false =>
  rw [cond_false,EX hl,Option.bind_some]
  cases lC l <;> rfl

theorem HO {l:List aJ}{n:Int}(h:pE l n=0):iM l=true/\lC l=true/\1<=n/\n<=64:=by
 unfold pE at h
 cases hm:iM l with
 | false=>simp [hm] at h
 | true =>
  cases ht:lC l with
  | false=>rw [hm,ht] at h; split at h <;> simp at h
  | true =>
   rw [hm,ht] at h;split at h
   ·simp at h
   ·rename_i c; simp at c; exact ⟨rfl,rfl,by omega,by omega⟩

theorem aFB {l:List aJ}{n:Int}(hm:iM l=true)(ht:lC l=true)(h1:1<=n)(h2:n<=64):pE l n=0:=by
 unfold pE;have e1:decide (n<1)=false:=by simp; omega
 have e2:decide (64<n)=false:=by simp; omega
 rw [hm,ht,e1,e2]; rfl

theorem VX {l:List aJ}(hm:iM l=true):∀ e∈l,e.At<1125899906842624:=fun e he=>(pG hm he).2.2.1

def RU (l:List aJ):List Int×Int:=if pE l 1≠0 then ([],pE l 1) else (dD l,0)

theorem aA2 {l:List aJ}(hl:l.length<=1000000)(hat:∀ e∈l,e.At<1125899906842624):lp (fun s:List Int×Int=>nU l s.1 s.2) ([],0)=some (dD l):=by
 refine jY (l:=l) (body:=fun s:List Int×Int=>nU l s.1 s.2) (fun (s:List Int) i=>(s,i)) (fun s r=>(r.filter oC).foldl (fun c e=>iA e.At c) s) (fun s r=>Inc (-1) s/\s.length+r.length<=1000001 /\ ∀ e∈r,e.At<1125899906842624) [] ?_ ?_ ⟨trivial,by simp; omega,hat⟩
 ·rintro i a r s ha ⟨hi,hs,hr⟩;left;obtain⟨d1,d2,d3,d4⟩:=idx ha (by omega);simp only [List.length_cons] at hs;have ha1:=hr a (by simp);have hr':∀ e∈r,e.At<1125899906842624:=fun e he=>hr e (by simp [he])
  have ec:(decide (0<a.Net)&&decide (0<=a.At))=oC a:=by
   unfold oC
   congr 1
  cases h:oC a with
  | true =>
   have h0 : -1<a.At:=by simp [oC] at h; omega
   refine⟨iA a.At s,?_,⟨xH hi h0 ha1,by have:=ER (t:=a.At) (ps:=s); omega,hr'⟩,by simp [h]⟩;simp only [nU,rF,d1,cond_true,aO d2,d3,d4];rw [aO (fun _=>d2),ec,h,cond_true,XP hi (by omega)]; rfl
  | false =>
   refine⟨s,?_,⟨hi,by omega,hr'⟩,by simp [h]⟩;simp only [nU,rF,d1,cond_true,aO d2,d3,d4];rw [aO (fun _=>d2),ec,h,cond_false]
 ·rintro s _;simp only [nU,eP,cond_false]; rfl

theorem aAE {l:List aJ}(hl:okL l):xE l=some (RU l):=by
 unfold xE RU;rw [SK hl,Option.bind_some];by_cases h:pE l 1=0
 ·obtain⟨hm,_⟩:=HO h;rw [decide_eq_true h,Bool.not_true,cond_false,if_neg (by simpa using h)];unfold zZ;rw [aA2 (by have:=(lK hm).1; omega) (VX hm)]; rfl
 ·rw [decide_eq_false h,Bool.not_false,cond_true,if_pos h]

def kY (a:List Int)(t:Int):Nat:=(a.filter fun x=>decide (x<t)).length

def firstM (a:List Int)(n t:Int):Nat:=((kY a t:Int)-n+1).toNat

def aHd (a:List Int)(n t:Int):Int:=if firstM a n t=kY a t then t else a.getD (firstM a n t) 0

def aD6 (l:List aJ)(n t:Int):Int×Int :=
 if pE l n≠0 then (0,pE l n) else if t<0∨1125899906842624<t then (0,13) else if t=1125899906842624 then (t,0) else (aHd (dD l) n t,0)

theorem TI (a:List Int)(t:Int):kY a t<=a.length:=List.length_filter_le ..

theorem aD7 {a:List Int}(hd:a.Pairwise (· <= ·))(hl:a.length<=1000000)(t:Int):(∃ b:Bool,gM a t=some (((kY a t:Nat):Int),b))/\(a.filter fun x=>decide (x<t))=a.take (kY a t)/\(a.filter fun x=>decide (t<=x))=a.drop (kY a t):=by
 obtain⟨m,b,h1,h2,h3,h4⟩:=aIQ hd hl t;have hm:kY a t=m:=by unfold kY; rw [h3,List.length_take]; omega
 rw [hm]; exact ⟨⟨b,h1⟩,h3,h4⟩

theorem FA {l:List aJ}(hm:iM l=true):(dD l).Pairwise (· < ·)/\(dD l).Pairwise (· <= ·)/\(dD l).length<=4096 /\ ∀ x∈dD l,0<=x/\x<1125899906842624:=by
 have hi:=SM (VX hm);refine⟨NS hi,XM hi,by have:=aC1 l; have:=(lK hm).1; omega,fun x hx=>by have:=hi.above x hx; omega⟩

theorem aAD {l:List aJ}(hl:okL l)(n t:Int):yN l n t=some (aD6 l n t):=by
 unfold yN aD6;rw [PU hl,Option.bind_some];by_cases h:pE l n=0
 ·obtain⟨hm,_,n1,n2⟩:=HO h;obtain⟨f1,f2,f3,f4⟩:=FA hm;rw [decide_eq_true h,Bool.not_true,cond_false,if_neg (by simpa using h)];by_cases h1:t<0∨1125899906842624<t
  ·have : (decide (t<0)||decide (1125899906842624<t))=true:=by simpa using h1
   rw [this,cond_true,if_pos h1]
  ·have : (decide (t<0)||decide (1125899906842624<t))=false:=by simpa using h1
   rw [this,cond_false,if_neg h1];by_cases h2:t=1125899906842624
   ·rw [decide_eq_true h2,cond_true,if_pos h2]
   ·rw [decide_eq_false h2,cond_false,if_neg h2,KT (lK hm).1 (VX hm),Option.bind_some];obtain⟨⟨b,hb⟩,hs1,hs2⟩:=aD7 f2 (by omega) t;have hle:=TI (dD l) t;rw [hb,Option.bind_some]
    have w1:IntKind.i64.wrap (IntKind.i64.wrap (((kY (dD l) t:Nat):Int)-n)+1)=((kY (dD l) t:Nat):Int)-n+1:=by
     rw [cO (n:=((kY (dD l) t:Nat):Int)-n) (by omega) (by omega),cO (by omega) (by omega)]
    have e1:(if IntKind.i64.wrap (IntKind.i64.wrap (((kY (dD l) t:Nat):Int)-n)+1)>0 then IntKind.i64.wrap (IntKind.i64.wrap (((kY (dD l) t:Nat):Int)-n)+1) else 0)=((firstM (dD l) n t:Nat):Int):=by
     rw [w1]; unfold firstM;split <;> omega
    simp only [e1];unfold aHd;by_cases hf:firstM (dD l) n t=kY (dD l) t
    ·rw [decide_eq_true (by omega),cond_true,if_pos hf]
    ·have hlt:firstM (dD l) n t<kY (dD l) t:=by unfold firstM at hf ⊢; omega
     rw [decide_eq_false (by omega),cond_false,if_neg hf,aO (by omega),Int.toNat_natCast]; rfl
 ·rw [decide_eq_false h,Bool.not_false,cond_true,if_pos h]

end Go.Abs
namespace Go.Abs
open Go
theorem aEw (a b:List aH)(hl:a.length<=17592186044416):gV a b=some (decide (a=b)):=by
 have:=NF a b hl;unfold uQ at this
 simpa using this

def inW (a b:Int)(j:aM):Bool:=decide (0<j.Net)&&(decide (a<=j.At)&&decide (j.At<b))

def nS (a b:Int)(f:List aM):Int:=((f.filter (inW a b)).map aM.Net).sum

def DL (a b:Int)(gs:List (List aH×List aM)):List bA:=gs.filterMap fun g=>if 0<nS a b g.2 then some ⟨g.1,nS a b g.2⟩ else none

def oU (rs:List bA):bA:=rs.getD (rs.length-1) default

def HV (rs:List bA)(e:aJ):List bA:=if 0<rs.length/\(oU rs).Row=e.Row then rs.set (rs.length-1) ⟨(oU rs).Row,(oU rs).N+e.Net⟩ else rs++[⟨e.Row,e.Net⟩]

def IZ (p:aG)(e:aJ):aG:=if e.At<p.Span.From∨p.Span.To<=e.At then p else ⟨p.Span,HV p.Rows e⟩

def tX (a b:Int)(rs:List bA)(e:aJ):List bA:=if inW a b (jE e) then HV rs e else rs

theorem uV (a b:Int)(j:aM)(f:List aM):nS a b (j::f)=(if inW a b j then j.Net else 0)+nS a b f:=by
 unfold nS;by_cases h:inW a b j <;> simp [h]

theorem SW (a b:Int):∀ f:List aM,0<=nS a b f/\(nS a b f=0↔f.filter (inW a b)=[])
 | []=>by simp [nS]
 | j::f=>by
  obtain⟨h1,h2⟩:=SW a b f;rw [uV];by_cases h:inW a b j
  ·have : 0<j.Net:=by simp [inW] at h; omega
   rw [if_pos h];refine⟨by omega,?_⟩;constructor
   ·intro e; omega
   ·intro e; simp [h] at e
  ·rw [if_neg h,Int.zero_add];refine⟨h1,?_⟩;rw [h2]; simp [h]

theorem WI (a b:Int)(g:List aH×List aM)(gs:List (List aH×List aM)):DL a b (g::gs)=(if 0<nS a b g.2 then [⟨g.1,nS a b g.2⟩] else [])++DL a b gs:=by
 unfold DL;rw [List.filterMap_cons];by_cases h:0<nS a b g.2 <;> simp [h]

theorem aEb (R:List bA)(c:bA):oU (R++[c])=c:=by
 unfold oU;simp [List.getD_eq_getElem?_getD]

theorem aGA (R:List bA)(c d:bA):(R++[c]).set ((R++[c]).length-1) d=R++[d]:=by
 simp [List.set_append_right]

theorem YK (a b:Int)(r:List aH):∀ (f:List aM) (R:List bA) (v:Int),(rX r f).foldl (tX a b) (R++[⟨r,v⟩])=R++[⟨r,v+nS a b f⟩]
 | [],R,v=>by simp [rX,nS]
 | j::f,R,v=>by
  have e:rX r (j::f)=⟨r,j.At,j.Net⟩::rX r f:=rfl;rw [e,List.foldl_cons,uV];have ej:jE ⟨r,j.At,j.Net⟩=j:=rfl;by_cases h:inW a b j
  ·have e1:tX a b (R++[⟨r,v⟩]) ⟨r,j.At,j.Net⟩=R++[⟨r,v+j.Net⟩]:=by
    unfold tX HV;rw [ej,if_pos h,aEb,if_pos ⟨by simp,rfl⟩,aGA]
   rw [e1,YK a b r f,if_pos h,Int.add_assoc]
  ·have e1:tX a b (R++[⟨r,v⟩]) ⟨r,j.At,j.Net⟩=R++[⟨r,v⟩]:=by
    unfold tX;rw [ej,if_neg h]
   rw [e1,YK a b r f,if_neg h,Int.zero_add]

theorem PV {rs:List bA}(h:0<rs.length):oU rs∈rs:=by
 unfold oU;rw [List.getD_eq_getElem?_getD,List.getElem?_eq_getElem (by omega)];exact List.getElem_mem _

theorem aBc (a b:Int)(r:List aH):∀ (f:List aM) (rs:List bA),(∀ c∈rs,c.Row≠r)->(rX r f).foldl (tX a b) rs=rs++(if 0<nS a b f then [⟨r,nS a b f⟩] else [])
 | [],rs,_=>by simp [rX,nS]
 | j::f,rs,hr=>by
  have e:rX r (j::f)=⟨r,j.At,j.Net⟩::rX r f:=rfl;have ej:jE ⟨r,j.At,j.Net⟩=j:=rfl;rw [e,List.foldl_cons,uV];have hg:=(SW a b f).1;by_cases h:inW a b j
  ·have hj:0<j.Net:=by simp [inW] at h; omega
   have e1:tX a b rs ⟨r,j.At,j.Net⟩=rs++[⟨r,j.Net⟩]:=by
    unfold tX HV;rw [ej,if_pos h,if_neg fun hc=>hr _ (PV hc.1) hc.2]
   rw [e1,YK,if_pos h,if_pos (by omega)]
  ·have e1:tX a b rs ⟨r,j.At,j.Net⟩=rs:=by
    unfold tX;rw [ej,if_neg h]
   rw [e1,aBc a b r f rs hr,if_neg h,Int.zero_add]

theorem SE (a b:Int):∀ {gs:List (List aH×List aM)} {rs:List bA},KI gs->(∀ c∈rs,∀ g∈gs,c.Row≠g.1)->(flat gs).foldl (tX a b) rs=rs++DL a b gs
 | [],rs,_,_=>by simp [flat,DL]
 | g::gs,rs,hs,hr=>by
  obtain⟨h1,h2⟩:=List.pairwise_cons.1 hs;rw [ZT,List.foldl_append,aBc a b g.1 g.2 rs fun c hc=>hr c hc g (by simp),SE a b h2 fun c hc q hq=>?_,WI,List.append_assoc];rcases List.mem_append.1 hc with hc | hc
  ·exact hr c hc q (by simp [hq])
  ·split at hc
   ·simp at hc; subst hc;intro e;have : jS g.1 q.1<0:=h1 q hq;simp only at e;rw [e] at this;exact xK this
   ·simp at hc

theorem XY {a b:Int}{e:aJ}:inW a b (jE e)=true↔0<e.Net/\a<=e.At/\e.At<b:=by
 unfold inW jE;simp only [Bool.and_eq_true,decide_eq_true_eq]

theorem OD {a b:Int}(ha:0<=a):∀ (l:List aJ) (rs:List bA),(l.filter oC).foldl IZ ⟨⟨a,b⟩,rs⟩=⟨⟨a,b⟩,l.foldl (tX a b) rs⟩
 | [],rs=>rfl
 | e::l,rs=>by
  cases h:oC e with
  | true =>
   have hp:0<e.Net /\ -1<e.At:=by simpa [oC] using h
   simp only [List.filter_cons,h,if_true,List.foldl_cons];by_cases hw:e.At<a∨b<=e.At
   ·have e1:IZ ⟨⟨a,b⟩,rs⟩ e=⟨⟨a,b⟩,rs⟩:=by unfold IZ; rw [if_pos hw]
    have e2:tX a b rs e=rs:=by
     unfold tX
     have : inW a b (jE e)=false:=by
      cases hq:inW a b (jE e) with
      | false=>rfl
      | true=>have:=XY.1 hq; omega
     rw [this]; rfl
    rw [e1,e2,OD ha l rs]
   ·have e1:IZ ⟨⟨a,b⟩,rs⟩ e=⟨⟨a,b⟩,HV rs e⟩:=by unfold IZ; rw [if_neg hw]
    have e2:tX a b rs e=HV rs e:=by
     unfold tX;have : inW a b (jE e)=true:=XY.2 ⟨hp.1,by omega,by omega⟩;rw [this]; rfl
    rw [e1,e2,OD ha l (HV rs e)]
  | false =>
   have hp:¬ (0<e.Net /\ -1<e.At):=by simpa [oC] using h
   have e2:tX a b rs e=rs:=by
    unfold tX
    have : inW a b (jE e)=false:=by
     cases hq:inW a b (jE e) with
     | false=>rfl
     | true=>have:=XY.1 hq; omega
    rw [this]; rfl
   simp only [List.filter_cons,h,Bool.false_eq_true,if_false,List.foldl_cons,e2];exact OD ha l rs

def TF (l:List aJ)(run:List Int):aG:=⟨⟨run.getD 0 0,run.getD (run.length-1) 0+1⟩,DL (run.getD 0 0) (run.getD (run.length-1) 0+1) (groups l)⟩

def YB (rs:List bA)(r:List aJ):Prop:=rs.length+r.length<=1000000/\(∀ c∈rs,c.Row.length<=17592186044416/\0<=c.N/\c.N+1048576*r.length<=4503599627370496) /\ ∀ e∈r,e.Row.length<=4398046510976/\e.Net<=1048576

theorem aAg {rs:List bA}{e:aJ}{r:List aJ}(h:YB rs (e::r)):YB rs r:=by
 obtain⟨h1,h2,h3⟩:=h;simp only [List.length_cons] at h1 h2;exact⟨by omega,fun c hc=>by have:=h2 c hc; omega,fun q hq=>h3 q (by simp [hq])⟩

theorem aGl {rs:List bA}{e:aJ}{r:List aJ}(h:YB rs (e::r))(hn:0<e.Net):YB (HV rs e) r:=by
 obtain⟨h1,h2,h3⟩:=h;have he:=h3 e (by simp);simp only [List.length_cons] at h1 h2;unfold HV;split
 ·rename_i hc
  have hm:=h2 _ (PV hc.1);refine⟨by rw [List.length_set]; omega,fun c hcm=>?_,fun q hq=>h3 q (by simp [hq])⟩;rcases List.mem_or_eq_of_mem_set hcm with hcm | rfl
  ·have:=h2 c hcm; omega
  ·refine⟨hm.1,?_⟩; simp only; omega
 ·refine⟨by simp only [List.length_append,List.length_cons,List.length_nil]; omega,fun c hcm=>?_,fun q hq=>h3 q (by simp [hq])⟩;rcases List.mem_append.1 hcm with hcm | hcm
  ·have:=h2 c hcm; omega
  ·simp at hcm; subst hcm; simp only; omega

theorem aEl {l:List aJ}{t p:aG}{e:aJ}{r:List aJ}(h:YB p.Rows (e::r))(hr:oC e=true):qG l t p e=some (.inl (t,IZ p e)):=by
 obtain⟨h1,h2,h3⟩:=h;have he:=h3 e (by simp);have hn:0<e.Net:=by simp [oC] at hr; omega
 simp only [List.length_cons] at h1 h2;unfold qG IZ;by_cases hw:e.At<p.Span.From∨p.Span.To<=e.At
 ·have : (decide (e.At<p.Span.From)||decide (p.Span.To<=e.At))=true:=by simpa using hw
  rw [this,cond_true,if_pos hw]
 ·have : (decide (e.At<p.Span.From)||decide (p.Span.To<=e.At))=false:=by simpa using hw
  rw [this,cond_false,if_neg hw];have w1:IntKind.i64.wrap (((p.Rows.length:Nat):Int)-1)=((p.Rows.length:Nat):Int)-1:=cO (by omega) (by omega);rw [w1];by_cases h0:0<p.Rows.length
  ·have c1:(0:Int)<=((p.Rows.length:Nat):Int)-1/\((p.Rows.length:Nat):Int)-1<((p.Rows.length:Nat):Int):=⟨by omega,by omega⟩;have e1:Int.toNat (((p.Rows.length:Nat):Int)-1)=p.Rows.length-1:=by omega
   have e2:p.Rows.getD (p.Rows.length-1) default=oU p.Rows:=rfl;have hm:=h2 _ (PV h0);rw [aO (fun _=>c1),decide_eq_true c1.1];simp only [cW,cond_true,e1,e2,aEw _ e.Row hm.1,Option.bind_some,Bool.true_and];by_cases hq:(oU p.Rows).Row=e.Row
   ·rw [decide_eq_true hq,cond_true,aO c1,aO c1];unfold HV;rw [if_pos ⟨h0,hq⟩,cO (by omega) (by omega)]
   ·rw [decide_eq_false hq,cond_false,LK he.1,Option.bind_some,aO (by simp only [List.length_cons,List.length_nil]; omega)];unfold HV;rw [if_neg fun hc=>hq hc.2]
  ·have c0:decide ((0:Int)<=((p.Rows.length:Nat):Int)-1)=false:=by rw [decide_eq_false_iff_not]; omega
   rw [aO (fun hc=>by rw [c0] at hc; cases hc),c0];simp only [cW,cond_false,Option.bind_some,Bool.false_and];rw [LK he.1,Option.bind_some,aO (by simp only [List.length_cons,List.length_nil]; omega)];unfold HV;rw [if_neg fun hc=>h0 hc.1]

theorem VS {l:List aJ}(hl:okL l)(hm:iM l=true){run:List Int}(h0:0<run.length)(h1:run.length<=1000000)(hr:∀ x∈run,0<=x/\x<1125899906842624):uU l run=some (TF l run):=by
 unfold uU sH xT;have w1:IntKind.i64.wrap (((run.length:Nat):Int)-1)=((run.length:Nat):Int)-1:=cO (by omega) (by omega);have e1:Int.toNat (((run.length:Nat):Int)-1)=run.length-1:=by omega
 have hg:∀ i,i<run.length->0<=run.getD i 0/\run.getD i 0<1125899906842624:=fun i hi=>by
  rw [List.getD_eq_getElem?_getD,List.getElem?_eq_getElem hi]; exact hr _ (List.getElem_mem _)
 have ha:=hg 0 h0;have hb:=hg (run.length-1) (by omega);rw [aO (by omega),w1,aO (by omega),Option.bind_some,e1,sD,sD,show Int.toNat (0:Int)=0 from rfl,cO (by omega) (by omega)];have hn:=(lK hm).1
 rw [XF (by omega) (fun (s:aG×aG) e=>(s.1,IZ s.2 e)) (fun s r=>YB s.2.Rows r) (fun s e r hI=>⟨fun hrise=>⟨aEl hI hrise,?_⟩,fun _=>aAg hI⟩)
  ⟨by simp; omega,by simp,fun e he=>⟨hl.2 e he,(pG hm he).2.2.2.2.1⟩⟩,Option.bind_some,Sum.elim_inl]
 ·have key:∀ (es:List aJ) (s:aG×aG),(es.foldl (fun (s:aG×aG) e=>(s.1,IZ s.2 e)) s).2=es.foldl IZ s.2:=by
   intro es
   induction es with
   | nil=>intro s; rfl
   | cons e es ih=>intro s; rw [List.foldl_cons,List.foldl_cons,ih]
  rw [key];simp only;rw [OD ha.1];have hfl:=DC l;have hsg:=SE (run.getD 0 0) (run.getD (run.length-1) 0+1) (gs:=groups l) (rs:=[]) (lK hm).2.2 (by simp);rw [hfl] at hsg;rw [hsg,List.nil_append];rfl
 ·simp only;unfold IZ;split
  ·exact aAg hI
  ·exact aGl hI (by simp [oC] at hrise; omega)

def yA (n:Nat)(mk:List Int->aG):List Int->List aG
 | []=>[]
 | x::r=>(if n<=r.length+1 then [mk ((x::r).take n)] else [])++yA n mk r

theorem GY {n:Nat}{mk:List Int->aG}:∀ {r:List Int},r.length<n->yA n mk r=[]
 | [],_=>rfl
 | x::r,h=>by
  simp only [List.length_cons] at h;unfold yA;rw [if_neg (by omega),GY (by omega)]; rfl

theorem RA {n:Nat}{mk:List Int->aG}(hn:0<n):∀ r:List Int,(yA n mk r).length=r.length+1-n
 | []=>by simp [yA]; omega
 | x::r=>by
  unfold yA;rw [List.length_append,RA hn r];simp only [List.length_cons];split
  ·simp; omega
  ·simp; omega

theorem MJ {l:List aJ}(hl:okL l)(hm:iM l=true){n:Int}(h1:1<=n)(h2:n<=64):∀ (rest:List Int) (out:List aG),(∀ x∈rest,0<=x/\x<1125899906842624)->out.length+rest.length<=1000000 ->
  lp (fun s:List Int×List aG=>nV l n s.1 s.2) (rest,out)=some (out++yA n.toNat (TF l) rest)
 | [],out,_,_=>by
  refine cZ ?_;simp only [nV,decide_eq_false (show ¬ n<=((([]:List Int).length:Nat):Int) by simp; omega),cond_false];simp [yA]
 | x::r,out,hr,ho=>by
  simp only [List.length_cons] at ho;by_cases hc:n<=(((x::r).length:Nat):Int)
  ·have hlen:n.toNat<=(x::r).length:=by omega
   have ht:((x::r).take n.toNat).length=n.toNat:=by rw [List.length_take]; omega
   have hw:=VS hl hm (run:=(x::r).take n.toNat) (by omega) (by omega) (fun y hy=>hr y (List.mem_of_mem_take hy))
   have hb:nV l n (x::r) out=some (.inl (r,out++[TF l ((x::r).take n.toNat)])):=by
    simp only [nV,decide_eq_true hc,cond_true];rw [aO ⟨by omega,Int.le_refl _,hc⟩,hw,Option.bind_some,aO (by simp only [List.length_cons,List.length_nil]; omega),aO ⟨by omega,by simp only [List.length_cons]; omega⟩];rfl
   rw [eT hb,MJ hl hm h1 h2 r _ (fun y hy=>hr y (by simp [hy])) (by simp only [List.length_append,List.length_cons,List.length_nil]; omega)]
   conv=>rhs; unfold yA
   simp only [List.length_cons] at hlen;rw [if_pos hlen,List.append_assoc]
  ·have hlen:(x::r).length<n.toNat:=by omega
   rw [GY hlen];refine cZ ?_;simp only [nV,decide_eq_false hc,cond_false,List.append_nil]

def HG (l:List aJ)(n frm:Int):List aG×Int :=
 if pE l n≠0 then ([],pE l n) else if frm<0∨1125899906842624<frm then ([],13) else
 if 1024<(((dD l).drop (kY (dD l) frm)).length:Int)-n+1 then ([],7) else (yA n.toNat (TF l) ((dD l).drop (kY (dD l) frm)),0)

theorem YL {l:List aJ}(hl:okL l)(n frm:Int):wG l n frm=some (HG l n frm):=by
 unfold wG HG;rw [PU hl,Option.bind_some];by_cases h:pE l n=0
 ·obtain⟨hm,ht,n1,n2⟩:=HO h;obtain⟨f1,f2,f3,f4⟩:=FA hm;rw [decide_eq_true h,Bool.not_true,cond_false,if_neg (by simpa using h)];by_cases h1:frm<0∨1125899906842624<frm
  ·have : (decide (frm<0)||decide (1125899906842624<frm))=true:=by simpa using h1
   rw [this,cond_true,if_pos h1]
  ·have : (decide (frm<0)||decide (1125899906842624<frm))=false:=by simpa using h1
   rw [this,cond_false,if_neg h1,KT (lK hm).1 (VX hm),Option.bind_some];obtain⟨⟨b,hb⟩,_,_⟩:=aD7 f2 (by omega) frm;have hle:=TI (dD l) frm;rw [hb,Option.bind_some,aO ⟨by omega,by omega,Int.le_refl _,Int.le_refl _⟩];simp only [Int.toNat_natCast,List.take_length];have hdl:((dD l).drop (kY (dD l) frm)).length<=4096:=by rw [List.length_drop]; omega
   have w1:IntKind.i64.wrap (IntKind.i64.wrap (((((dD l).drop (kY (dD l) frm)).length:Nat):Int)-n)+1)=((((dD l).drop (kY (dD l) frm)).length:Nat):Int)-n+1:=by
    rw [cO (n:=((((dD l).drop (kY (dD l) frm)).length:Nat):Int)-n) (by omega) (by omega),cO (by omega) (by omega)]
   rw [w1];by_cases h3:1024<((((dD l).drop (kY (dD l) frm)).length:Nat):Int)-n+1
   ·rw [decide_eq_true h3,cond_true,if_pos h3]
   ·rw [decide_eq_false h3,cond_false,if_neg h3];unfold AE;rw [MJ hl hm n1 n2 _ [] (fun x hx=>f4 x (List.mem_of_mem_drop hx)) (by simp only [List.length_nil]; omega)];rfl
 ·rw [decide_eq_false h,Bool.not_false,cond_true,if_pos h]

end Go.Abs
namespace Go.Abs
open Go
theorem w00:IntKind.i64.wrap 0=0:=cO (by omega) (by omega)

def nE:Int->Int->List aM->List aU
 | n,fr,[]=>if 0<n then [⟨fr,1125899906842624⟩] else []
 | n,fr,j::r=>if n+j.Net=0 then ⟨if n=0 then j.At else fr,j.At⟩::nE 0 (if n=0 then j.At else fr) r else nE (n+j.Net) (if n=0 then j.At else fr) r

def pI (f:List aM):List aU:=nE 0 0 f

def HC (n:Int)(f:List aM):Prop:=n<=1048576*(2048-f.length) /\ -(1048576*(2048-f.length))<=n/\f.length<=1024

theorem HC.next {n:Int}{j:aM}{r:List aM}(h:HC n (j::r))(hj:j.Net<=1048576 /\ -1048576<=j.Net):HC (n+j.Net) r:=by
 obtain⟨h1,h2,h3⟩:=h;simp only [List.length_cons] at h1 h2 h3;exact⟨by omega,by omega,by omega⟩

theorem HC.small {n:Int}{f:List aM}(h:HC n f):n<=4294967296 /\ -4294967296<=n:=by
 obtain⟨h1,h2,h3⟩:=h;omega

theorem HC.zero {n:Int}{f:List aM}(h:HC n f):HC 0 f:=by
 obtain⟨h1,h2,h3⟩:=h;exact⟨by omega,by omega,h3⟩

theorem aCn {σ:Type}{y:σ->aU->Option (σ×Bool)}{f:List aM}(hl:f.length<=1024):∀ (r:List aM) (k:Nat) (last n fr:Int) (s s':σ),f.drop k=r->k<=f.length->vH last r->HC n r->EJ y (nE n fr r) s=some s' ->
  ∃ x,lp (fun s:σ×Int×Int×Int=>iL y f ((f.length:Nat):Int) s.1 s.2.1 s.2.2.1 s.2.2.2) (s,n,fr,(k:Int))=some x/\Sum.elim (fun rr=>qC y rr.1 rr.2.1 rr.2.2) (fun rr=>some rr) x=some s':=by
 intro r
 induction r with
 | nil =>
  intro k last n fr s s' hd hk _ _ h
  have hk':k=f.length:=by
   have:=congrArg List.length hd;simp at this; omega
  subst hk';refine⟨.inl (s,n,fr),cZ ?_,?_⟩
  ·show iL _ _ _ _ _ _ _=_;simp only [iL,eP,cond_false]
  ·simp only [Sum.elim_inl,qC];by_cases hn:0<n
   ·simp only [nE,hn,if_true,EJ] at h;obtain⟨x,hx,h⟩:=aZ h;rw [decide_eq_true hn,cond_true,hx];simp only [Option.bind_some]
    cases hx2:x.2 <;> rw [hx2] at h <;> simpa using h
   ·simp only [nE,hn,if_false,EJ] at h;rw [decide_eq_false hn,cond_false]; exact h
 | cons j r ih =>
  intro k last n fr s s' hd hk hr hroom h;obtain⟨hget,hd'⟩:=drop_cons hd;have hlt:k<f.length:=(List.getElem?_eq_some_iff.1 hget).1;obtain⟨d1,d2,d3,d4⟩:=idx hget (by omega);have hj:=hr.1;have hnx:=hroom.next ⟨hj.2.2.2.1,hj.2.2.2.2⟩;have hsm:=hnx.small;have hw:IntKind.i64.wrap (n+j.Net)=n+j.Net:=cO (by omega) (by omega)
  -- what the body does
  have body:iL y f ((f.length:Nat):Int) s n fr (k:Int)=oH y s n (if n=0 then j.At else fr) j f ((f.length:Nat):Int) (k:Int):=by
   simp only [iL,d1,cond_true,aO d2,d3];by_cases hn:n=0 <;> simp [hn]
  by_cases hz:n+j.Net=0
  ·simp only [nE,hz,if_true,EJ] at h;obtain⟨x,hx,h⟩:=aZ h
   have hb:(fun s:σ×Int×Int×Int=>iL y f ((f.length:Nat):Int) s.1 s.2.1 s.2.2.1 s.2.2.2) (s,n,fr,(k:Int))=some (if x.2 then .inl (x.1,0,(if n=0 then j.At else fr),((k+1:Nat):Int)) else .inr (.inr x.1)):=by
    show iL _ _ _ _ _ _ _=_;rw [body];simp only [oH,hw,d4,hz,w00,decide_true,HJ,cond_true,hx,Option.bind_some,Bool.true_and]
    cases x.2 <;> rfl
   cases hx2:x.2
   ·rw [hx2] at hb h;simp only [Bool.false_eq_true,if_false,Option.some.injEq] at hb h;exact⟨_,cZ hb,by simpa using h⟩
   ·rw [hx2] at hb h;simp only [if_true] at hb h;obtain⟨z,hz1,hz2⟩:=ih (k+1) j.At 0 _ x.1 s' hd' (by omega) hr.2 hnx.zero h;exact⟨z,by rw [eT hb]; exact hz1,hz2⟩
  ·simp only [nE,hz,if_false] at h
   have hb:(fun s:σ×Int×Int×Int=>iL y f ((f.length:Nat):Int) s.1 s.2.1 s.2.2.1 s.2.2.2) (s,n,fr,(k:Int))=some (.inl (s,n+j.Net,(if n=0 then j.At else fr),((k+1:Nat):Int))):=by
    show iL _ _ _ _ _ _ _=_;rw [body];simp only [oH,hw,d4,decide_eq_false hz,HJ,cond_false,Option.bind_some,Bool.false_and]
   obtain⟨z,hz1,hz2⟩:=ih (k+1) j.At (n+j.Net) _ s s' hd' (by omega) hr.2 hnx h;exact⟨z,by rw [eT hb]; exact hz1,hz2⟩

theorem aEj {σ:Type}{y:σ->aU->Option (σ×Bool)}{f:List aM}(hf:gJ f=true){s s':σ}(h:EJ y (pI f) s=some s'):vB y f s=some s':=by
 obtain⟨hl,hr⟩:=mQ.1 hf;obtain⟨x,h1,h2⟩:=aCn (y:=y) hl f 0 (-2) 0 0 s s' rfl (by omega) hr ⟨by omega,by omega,hl⟩ h;unfold vB xI;simp only [Int.natCast_zero] at h1;rw [h1];exact h2

theorem UM {f:List aM}(hl:f.length<=1024):∀ (r:List aM) (k:Nat) (last n fr:Int) (out:List aU),f.drop k=r->k<=f.length->vH last r->HC n r->out.length+r.length<=1024 ->
  (lp (fun s:List aU×Int×Int×Int=>jG f s.1 s.2.1 s.2.2.1 s.2.2.2) (out,n,fr,(k:Int))).bind (fun rr=>sS rr.1 rr.2.1 rr.2.2)=some (out++nE n fr r):=by
 intro r
 induction r with
 | nil =>
  intro k last n fr out hd hk _ _ ho
  have hk':k=f.length:=by
   have:=congrArg List.length hd;simp at this; omega
  subst hk'
  have hb:(fun s:List aU×Int×Int×Int=>jG f s.1 s.2.1 s.2.2.1 s.2.2.2) (out,n,fr,((f.length:Nat):Int))=some (.inr (out,n,fr)):=by
   show jG _ _ _ _ _=_;simp only [jG,eP,cond_false]
  rw [cZ hb];simp only [Option.bind_some,sS,wT,nE];by_cases hn:0<n
  ·rw [decide_eq_true hn,cond_true,if_pos hn];simp only [List.length_nil] at ho;exact aO (by simp only [List.length_cons,List.length_nil]; omega)
  ·rw [decide_eq_false hn,cond_false,if_neg hn,List.append_nil]
 | cons j r ih =>
  intro k last n fr out hd hk hr hroom ho;obtain⟨hget,hd'⟩:=drop_cons hd;have hlt:k<f.length:=(List.getElem?_eq_some_iff.1 hget).1;obtain⟨d1,d2,d3,d4⟩:=idx hget (by omega);have hj:=hr.1;have hnx:=hroom.next ⟨hj.2.2.2.1,hj.2.2.2.2⟩;have hsm:=hnx.small;have hw:IntKind.i64.wrap (n+j.Net)=n+j.Net:=cO (by omega) (by omega);simp only [List.length_cons] at ho
  have body:jG f out n fr (k:Int)=qN f out n (if n=0 then j.At else fr) (k:Int):=by
   simp only [jG,d1,cond_true];by_cases hn:n=0
   ·simp only [hn,decide_true,cond_true,aO d2,d3,if_true]
   ·simp only [hn,decide_false,cond_false,if_false]
  by_cases hz:n+j.Net=0
  ·have hb:(fun s:List aU×Int×Int×Int=>jG f s.1 s.2.1 s.2.2.1 s.2.2.2) (out,n,fr,(k:Int))=some (.inl (out++[⟨if n=0 then j.At else fr,j.At⟩],0,(if n=0 then j.At else fr),((k+1:Nat):Int))):=by
    show jG _ _ _ _ _=_;rw [body];simp only [qN,aO d2,d3,hw,hz,w00,decide_true,cond_true];rw [aO (by simp only [List.length_cons,List.length_nil]; omega)];simp only [sX,d4]
   rw [eT hb,ih (k+1) j.At 0 _ _ hd' (by omega) hr.2 hnx.zero (by simp; omega)];simp only [nE,hz,if_true,List.append_assoc,List.cons_append,List.nil_append]
  ·have hb:(fun s:List aU×Int×Int×Int=>jG f s.1 s.2.1 s.2.2.1 s.2.2.2) (out,n,fr,(k:Int))=some (.inl (out,n+j.Net,(if n=0 then j.At else fr),((k+1:Nat):Int))):=by
    show jG _ _ _ _ _=_;rw [body];simp only [qN,aO d2,d3,hw,decide_eq_false hz,cond_false];simp only [sX,d4]
   rw [eT hb,ih (k+1) j.At (n+j.Net) _ _ hd' (by omega) hr.2 hnx (by omega)];simp only [nE,hz,if_false]

theorem aAI {f:List aM}(hf:gJ f=true):zA f=some (pI f):=by
 obtain⟨hl,hr⟩:=mQ.1 hf;have:=UM hl f 0 (-2) 0 0 [] rfl (by omega) hr ⟨by omega,by omega,hl⟩ (by simpa using hl);unfold zA BO pI
 simpa using this

theorem OA:∀ {f:List aM} {n fr:Int},(nE n fr f).length<=f.length+1
 | [],n,fr=>by unfold nE; split <;> simp
 | j::r,n,fr=>by
  unfold nE;split
  ·have:=OA (f:=r) (n:=0) (fr:=if n=0 then j.At else fr); simp only [List.length_cons]; omega
  ·have:=OA (f:=r) (n:=n+j.Net) (fr:=if n=0 then j.At else fr); simp only [List.length_cons]; omega

theorem NN {x:Int}(hx:x<1125899906842624):∀ {f:List aM} {last n fr:Int},vH last f->(∀ t,0<=n+val f t)->(n≠0->fr<=last) ->
  ((∃ s∈nE n fr f,s.From<=x/\x<s.To)↔(n≠0->fr<=x)/\0<n+val f x)
 | [],last,n,fr,_,hn,_=>by
  have h0:=hn 0;simp only [aDH,Int.add_zero] at h0 ⊢;unfold nE;by_cases h:0<n
  ·rw [if_pos h];simp only [List.mem_singleton];constructor
   ·rintro ⟨s,rfl,h1,h2⟩; exact ⟨fun _=>h1,h⟩
   ·rintro ⟨h1,_⟩; exact ⟨_,rfl,h1 (by omega),hx⟩
  ·rw [if_neg h];simp [h]
 | j::r,last,n,fr,hr,hn,hf=>by
  have hj:=hr.1;have hab:=hr.2.above;have hv:∀ t,t<=j.At->val r t=0:=fun t ht=>EO fun k hk=>by have:=(hab k hk).1; omega
  have hn0:0<=n:=by
   have:=hn (j.At-1);rw [mY,if_neg (by omega),hv _ (by omega)] at this; omega
  have hn1:0<=n+j.Net:=by
   have:=hn j.At;rw [mY,if_pos (by omega),hv _ (by omega)] at this; omega
  have hn2:∀ t,0<=(n+j.Net)+val r t:=fun t=>by
   by_cases ht:j.At<=t
   ·have:=hn t;rw [mY,if_pos ht] at this; omega
   ·rw [hv t (by omega)]; omega
  rw [mY];unfold nE;by_cases hz:n+j.Net=0
  ·rw [if_pos hz];have ih:=NN hx (f:=r) (last:=j.At) (n:=0) (fr:=if n=0 then j.At else fr) hr.2 (fun t=>by have:=hn2 t; omega) (by simp)
   have e:(∃ s∈(⟨if n=0 then j.At else fr,j.At⟩:aU)::nE 0 (if n=0 then j.At else fr) r,s.From<=x/\x<s.To)↔((if n=0 then j.At else fr)<=x/\x<j.At)∨(∃ s∈nE 0 (if n=0 then j.At else fr) r,s.From<=x/\x<s.To):=by
    simp only [List.mem_cons,or_and_right,exists_or,exists_eq_left]
   rw [e,ih];by_cases hnz:n=0
   ·omega
   ·rw [if_neg hnz];have hfl:=hf hnz;by_cases hxj:j.At<=x
    ·rw [if_pos hxj];constructor
     ·rintro (h | h)
      ·omega
      ·exact⟨fun _=>by omega,by have:=h.2; omega⟩
     ·rintro ⟨_,h⟩; right; exact ⟨by simp,by omega⟩
    ·rw [if_neg hxj,hv x (by omega)];constructor
     ·rintro (h | h)
      ·exact⟨fun _=>h.1,by omega⟩
      ·have:=h.2; omega
     ·rintro ⟨h,_⟩; left; exact ⟨h hnz,by omega⟩
  ·rw [if_neg hz,NN hx (f:=r) (last:=j.At) (n:=n+j.Net) (fr:=if n=0 then j.At else fr) hr.2 hn2 (fun _=>by
    split
    ·exact Int.le_refl _
    ·rename_i h; have:=hf h; omega)]
   by_cases hnz:n=0
   ·simp only [hnz,if_true];by_cases hxj:j.At<=x
    ·rw [if_pos hxj];constructor
     ·rintro ⟨_,h⟩; exact ⟨by simp,by omega⟩
     ·rintro ⟨_,h⟩; exact ⟨fun _=>hxj,by omega⟩
    ·rw [if_neg hxj,hv x (by omega)];constructor
     ·rintro ⟨h,_⟩; exact absurd (h (by omega)) hxj
     ·rintro ⟨_,h⟩; omega
   ·rw [if_neg hnz];by_cases hxj:j.At<=x
    ·rw [if_pos hxj];constructor
     ·rintro ⟨h,h2⟩; exact ⟨fun _=>h hz,by omega⟩
     ·rintro ⟨h,h2⟩; exact ⟨fun _=>h hnz,by omega⟩
    ·rw [if_neg hxj,hv x (by omega)];constructor
     ·rintro ⟨h,h2⟩; exact ⟨fun _=>h hz,by omega⟩
     ·rintro ⟨h,h2⟩; exact ⟨fun _=>h hnz,by omega⟩

theorem LV:∀ {f:List aM} {last n fr:Int},vH last f -> -2<=last->last<1125899906842624->(n≠0->fr<=last /\ -1<=fr) -> ∀ s∈nE n fr f,-1<=s.From/\s.From<s.To/\s.To<=1125899906842624
 | [],last,n,fr,_,h1,h2,hf,s,hs=>by
  unfold nE at hs;split at hs
  ·simp only [List.mem_singleton] at hs; subst hs;have:=hf (by omega);exact⟨this.2,by show fr<1125899906842624; omega,Int.le_refl _⟩
  ·simp at hs
 | j::r,last,n,fr,hr,h1,h2,hf,s,hs=>by
  have hj:=hr.1
  have key:(if n=0 then j.At else fr)<=j.At /\ -1<=(if n=0 then j.At else fr):=by
   split
   ·omega
   ·rename_i h; have:=hf h; omega
  unfold nE at hs;split at hs
  ·rcases List.mem_cons.1 hs with rfl | hs
   ·rename_i hz
    have hnz:n≠0:=by omega
    have:=hf hnz;refine⟨key.2,?_,by show j.At<=_; omega⟩;show (if n=0 then j.At else fr)<j.At;rw [if_neg hnz]; omega
   ·exact LV hr.2 (by omega) (by omega) (by simp) s hs
  ·exact LV hr.2 (by omega) (by omega) (fun _=>key) s hs

theorem UW {f:List aM}(hf:gJ f=true)(hv:∀ t,0<=val f t){x:Int}(hx:x<1125899906842624):(∃ s∈pI f,s.From<=x/\x<s.To)↔0<val f x:=by
 rw [pI,NN hx (mQ.1 hf).2 (fun t=>by have:=hv t; omega) (by simp)];simp

theorem LR {f:List aM}(hf:gJ f=true):∀ s∈pI f,-1<=s.From/\s.From<s.To/\s.To<=1125899906842624 :=
 LV (mQ.1 hf).2 (by omega) (by omega) (by simp)

def lB (f:List aM)(a b:Int):Int:=val f a+nS (a+1) b f

theorem VB (a b:Int):∀ {f:List aM},(∀ j∈f,j.Net<=1048576)->0<=nS a b f/\nS a b f<=1048576*f.length
 | [],_=>by simp [nS]
 | j::r,h=>by
  have ih:=VB a b (f:=r) fun k hk=>h k (List.mem_cons_of_mem _ hk);have hj:=h j (by simp);rw [uV];simp only [List.length_cons,Int.natCast_add,Int.natCast_one,Int.mul_add,Int.mul_one];by_cases hi:inW a b j=true
  ·rw [if_pos hi];simp only [inW,Bool.and_eq_true,decide_eq_true_eq] at hi;omega
  ·rw [if_neg hi]; omega

theorem XJ {f:List aM}(hf:gJ f=true){w:aU}:zF f w=some (lB f w.From w.To):=by
 obtain⟨hl,hr⟩:=mQ.1 hf;have hb:=hr.above;have hv:=QY (f:=f) w.From (show (0:Int)<=1048576 by omega) fun j hj=>⟨(hb j hj).2.2.2.1,(hb j hj).2.2.2.2⟩;unfold zF;rw [aDY,hf];simp only [if_true,Option.bind_some];unfold BN
 have key:=jY (l:=f) (body:=fun s:Int×Int=>sJ w f ((f.length:Nat):Int) s.1 s.2) (fun (n:Int) i=>(n,i)) (fun n r=>n+nS (w.From+1) w.To r)
  (fun n r=>n<=1048576*(2048-r.length) /\ -(1048576*(2048-r.length))<=n/\r.length<=1024 /\ ∀ j∈r,j.Net<=1048576 /\ -1048576<=j.Net) (val f w.From) ?_ ?_ ⟨by omega,by omega,hl,fun j hj=>⟨(hb j hj).2.2.2.1,(hb j hj).2.2.2.2⟩⟩
 ·rw [key];rfl
 ·intro i j r n hj hI;left;obtain⟨d1,d2,d3,d4⟩:=idx hj (by omega);obtain⟨i1,i2,i3,i4⟩:=hI;simp only [List.length_cons] at i1 i2 i3;have i5:=i4 j (by simp);have hmx:(if (0:Int)>j.Net then (0:Int) else j.Net)=if 0<j.Net then j.Net else 0:=by split <;> split <;> omega
  refine⟨n+(if inW (w.From+1) w.To j then j.Net else 0),?_,⟨?_,?_,by omega,fun k hk=>i4 k (List.mem_cons_of_mem _ hk)⟩,by rw [uV]; omega⟩
  ·have e1:inW (w.From+1) w.To j=(decide (0<j.Net)&&((decide (w.From<j.At))&&(decide (j.At<w.To)))):=by
    unfold inW;have : decide (w.From+1<=j.At)=decide (w.From<j.At):=decide_eq_decide.2 (by omega);rw [this]
   simp only [sJ,d1,cond_true,aO d2,d3,hmx,e1]
   cases hw:(decide (w.From<j.At))&&(decide (j.At<w.To)) with
   | false =>
    simp only [cond_false,sK,d4,Bool.and_false,Bool.false_eq_true,if_false,Int.add_zero]
   | true =>
    have : IntKind.i64.wrap (n+(if 0<j.Net then j.Net else 0))=n+(if 0<j.Net then j.Net else 0):=cO (by split <;> omega) (by split <;> omega);simp only [cond_true,sK,d4,this,Bool.and_true,decide_eq_true_eq]
  ·split <;> omega
  ·split <;> omega
 ·intro n _;simp only [sJ,eP,cond_false];simp [nS]

theorem ON {f:List aM}(hf:gJ f=true){w:aU}:uW f w=some (lB f w.From w.To):=by
 obtain⟨hl,hr⟩:=mQ.1 hf;have hb:=hr.above;have hv:=QY (f:=f) w.From (show (0:Int)<=1048576 by omega) fun j hj=>⟨(hb j hj).2.2.2.1,(hb j hj).2.2.2.2⟩;unfold uW;rw [BI hf];simp only [Option.bind_some];unfold xY
 have key:=jY (l:=f) (body:=fun s:Int×Int=>qF f w s.1 s.2) (fun (n:Int) i=>(n,i)) (fun n r=>n+nS (w.From+1) w.To r)
  (fun n r=>n<=1048576*(2048-r.length) /\ -(1048576*(2048-r.length))<=n/\r.length<=1024 /\ ∀ j∈r,j.Net<=1048576 /\ -1048576<=j.Net) (val f w.From) ?_ ?_ ⟨by omega,by omega,hl,fun j hj=>⟨(hb j hj).2.2.2.1,(hb j hj).2.2.2.2⟩⟩
 ·rw [key];rfl
 ·intro i j r n hj hI;left;obtain⟨d1,d2,d3,d4⟩:=idx hj (by omega);obtain⟨i1,i2,i3,i4⟩:=hI;simp only [List.length_cons] at i1 i2 i3;have i5:=i4 j (by simp);refine⟨n+(if inW (w.From+1) w.To j then j.Net else 0),?_,⟨?_,?_,by omega,fun k hk=>i4 k (List.mem_cons_of_mem _ hk)⟩,by rw [uV]; omega⟩
  ·have e1:inW (w.From+1) w.To j=(((decide (w.From<j.At))&&(decide (j.At<w.To)))&&(decide (0<j.Net))):=by
    unfold inW;have : decide (w.From+1<=j.At)=decide (w.From<j.At):=decide_eq_decide.2 (by omega);rw [this,Bool.and_comm]
   have : IntKind.i64.wrap (n+j.Net)=n+j.Net:=cO (by omega) (by omega);simp only [qF,d1,cond_true,d3,e1,aO d2,this]
   cases h1:decide (w.From<j.At) <;> cases h2:decide (j.At<w.To) <;> cases h3:decide (0<j.Net) <;> simp [tS,d4,aO d2,d2.1,d2.2,bG]
  ·split <;> omega
  ·split <;> omega
 ·intro n _;simp only [qF,eP,cond_false];simp [nS]

theorem aBI {a b x:Int}(h1:a<=x)(h2:x<b):∀ f:List aM,val f x<=val f a+nS (a+1) b f
 | []=>by simp [nS,aDH]
 | j::r=>by
  have ih:=aBI h1 h2 r;rw [mY,mY,uV];by_cases hi:inW (a+1) b j=true
  ·rw [if_pos hi];simp only [inW,Bool.and_eq_true,decide_eq_true_eq] at hi;split <;> split <;> omega
  ·rw [if_neg hi];have hi:¬ (0<j.Net/\a+1<=j.At/\j.At<b):=by simpa [inW] using hi
   split <;> split <;> omega

theorem aCf:∀ {f:List aM} {last:Int},vH last f -> ∀ j∈f,val f j.At=val f (j.At-1)+j.Net
 | [],_,_,j,hj=>by simp at hj
 | k::r,last,hr,j,hj=>by
  have hab:=hr.2.above;rw [mY,mY];rcases List.mem_cons.1 hj with rfl | hj
  ·rw [if_pos (by omega),if_neg (by omega),EO (f:=r) fun q hq=>(hab q hq).1,EO (f:=r) fun q hq=>by have:=(hab q hq).1; omega];omega
  ·have:=(hab j hj).1;rw [if_pos (by omega),if_pos (by omega),aCf hr.2 j hj];omega

theorem SV {f:List aM}(hf:gJ f=true)(hv:∀ t,0<=val f t){a b:Int}(hab:a<b):0<lB f a b ↔ ∃ x,a<=x/\x<b/\0<val f x:=by
 obtain⟨hl,hr⟩:=mQ.1 hf;have hb:=hr.above;have hg:=VB (a+1) b (f:=f) fun j hj=>(hb j hj).2.2.2.1;unfold lB;constructor
 ·intro h;by_cases h0:0<val f a
  ·exact⟨a,Int.le_refl _,hab,h0⟩
  ·have hva:=hv a
   have hne:f.filter (inW (a+1) b)≠[]:=by
    intro hc;unfold nS at h;rw [hc] at h;simp at h; omega
   obtain⟨j,hj⟩:=List.exists_mem_of_ne_nil _ hne;obtain⟨hj1,hj2⟩:=List.mem_filter.1 hj;simp only [inW,Bool.and_eq_true,decide_eq_true_eq] at hj2;have:=aCf hr j hj1;have:=hv (j.At-1);exact⟨j.At,by omega,by omega,by omega⟩
 ·rintro ⟨x,h1,h2,h3⟩;have:=aBI h1 h2 f;omega

end Go.Abs
namespace Go.Abs
open Go
theorem aD8 {l:List aJ} {all:List Int} {rows:List (List aH)} {n frm i k:Nat->Int} {nn ff ii kk:Int} {f:List aM} {a b:Int} (hf:f.length<=1000000) (hnet:∀ j∈f,j.Net<=1048576)
  (hi:0<=ii/\ii<((all.length:Nat):Int)) (ha:all.getD (Int.toNat ii) default=a) (hj:0<=IntKind.i64.wrap (IntKind.i64.wrap (ii+nn)-1)/\IntKind.i64.wrap (IntKind.i64.wrap (ii+nn)-1)<((all.length:Nat):Int))
  (hb:all.getD (Int.toNat (IntKind.i64.wrap (IntKind.i64.wrap (ii+nn)-1))) default+1=b) (out:List aG) (p:aG) (r:List aH) :
  lp (fun s:List aG×aG×bA×Int=>oQ l nn ff all rows ii kk f s.1 s.2.1 s.2.2.1 s.2.2.2) (out,p,⟨r,0⟩,0)=some (out,p,⟨r,nS a b f⟩):=by
 have:=jY (l:=f) (body:=fun s:List aG×aG×bA×Int=>oQ l nn ff all rows ii kk f s.1 s.2.1 s.2.2.1 s.2.2.2) (fun (s:bA) i=>(out,p,s,i)) (fun s g=>(out,p,(⟨s.Row,s.N+nS a b g⟩:bA)))
  (fun s g=>0<=s.N/\s.N+1048576*g.length<=4503599627370496 /\ ∀ j∈g,j.Net<=1048576) ⟨r,0⟩ ?_ ?_ ⟨by simp,by simp only; omega,hnet⟩
 ·rw [this]; simp
 ·rintro m j g s hm ⟨s0,s1,s2⟩;left;simp only [List.length_cons] at s1;obtain⟨d1,d2,d3,d4⟩:=idx hm (by omega);have hj1:=s2 j (by simp)
  have hin:((decide (0<j.Net)&&decide (a<=j.At))&&decide (j.At<=all.getD (Int.toNat (IntKind.i64.wrap (IntKind.i64.wrap (ii+nn)-1))) default))=inW a b j:=by
   unfold inW;rw [Bool.and_assoc]
   congr 2
   rw [decide_eq_decide]; omega
  have hbody:∀ c:bA,oQ l nn ff all rows ii kk f out p c ((m:Nat):Int)=cond (inW a b j) (some (.inl (out,p,⟨c.Row,IntKind.i64.wrap (c.N+j.Net)⟩,((m+1:Nat):Int)))) (some (.inl (out,p,c,((m+1:Nat):Int)))):=by
   intro c;simp only [oQ,wM,d1,cond_true,aO d2,d3,d4,ha];rw [aO (fun _=>d2),aO (fun _=>hi),aO (fun _=>d2),aO (fun _=>hj),hin]
  cases hw:inW a b j with
  | true =>
   have hp:0<j.Net:=by simp [inW] at hw; omega
   refine⟨⟨s.Row,s.N+j.Net⟩,?_,⟨by simp only; omega,by simp only; omega,fun q hq=>s2 q (by simp [hq])⟩,by rw [uV,hw,if_pos rfl]; simp only [Int.add_assoc]⟩;simp only;rw [hbody,hw,cond_true,cO (by omega) (by omega)]
  | false =>
   refine⟨s,?_,⟨s0,by omega,fun q hq=>s2 q (by simp [hq])⟩,by rw [uV,hw]; simp⟩;simp only;rw [hbody,hw,cond_false]
 ·rintro s _;simp only [oQ,eP,cond_false];simp [nS]

theorem aCQ {l:List aJ} (hl:okL l) (hm:iM l=true) {all:List Int} {rows:List (List aH)} (hrl:rows.length<=4096) {nn ff ii:Int} {a b:Int}
  (hi:0<=ii/\ii<((all.length:Nat):Int)) (ha:all.getD (Int.toNat ii) default=a) (hj:0<=IntKind.i64.wrap (IntKind.i64.wrap (ii+nn)-1)/\IntKind.i64.wrap (IntKind.i64.wrap (ii+nn)-1)<((all.length:Nat):Int))
  (hb:all.getD (Int.toNat (IntKind.i64.wrap (IntKind.i64.wrap (ii+nn)-1))) default+1=b) (out:List aG) (sp:aU) :
  lp (fun s:List aG×aG×Int=>oJ l nn ff all rows ii s.1 s.2.1 s.2.2) (out,⟨sp,[]⟩,0)=some (out,⟨sp,DL a b (rows.map fun r=>(r,dK l r))⟩):=by
 have:=jY (l:=rows) (body:=fun s:List aG×aG×Int=>oJ l nn ff all rows ii s.1 s.2.1 s.2.2) (fun (s:List bA) i=>(out,⟨sp,s⟩,i)) (fun s g=>(out,(⟨sp,s++DL a b (g.map fun r=>(r,dK l r))⟩:aG)))
  (fun s g=>s.length+g.length<=1000000) [] ?_ ?_ (by simp only [List.length_nil]; omega)
 ·rw [this]; simp
 ·intro m r g s hmr hs;left;simp only [List.length_cons] at hs;obtain⟨d1,d2,d3,d4⟩:=idx hmr (by omega);have hmb:=sB hm r;have hfl:(dK l r).length<=1024:=(mQ.1 hmb).1;have hnet:∀ j∈dK l r,j.Net<=1048576:=fun j hj=>(UG hmb j hj).1
  have hbody:oJ l nn ff all rows ii out ⟨sp,s⟩ ((m:Nat):Int)=some (.inl (out,⟨sp,s++(if 0<nS a b (dK l r) then [⟨r,nS a b (dK l r)⟩] else [])⟩,((m+1:Nat):Int))):=by
   simp only [oJ,d1,cond_true,aO d2,d3,sG hl (show l.length<=1099511627776 by have:=(lK hm).1; omega),Option.bind_some,CK];rw [aD8 (n:=fun _=>0) (frm:=fun _=>0) (i:=fun _=>0) (k:=fun _=>0) (by omega) hnet hi ha hj hb,Option.bind_some];simp only [wJ,wX,d4];by_cases hg:0<nS a b (dK l r)
   ·rw [decide_eq_true hg,cond_true,aO (by simp only [List.length_cons,List.length_nil]; omega),if_pos hg]
   ·rw [decide_eq_false hg,cond_false,if_neg hg,List.append_nil]
  refine⟨_,hbody,by simp only [List.length_append]; split <;> simp <;> omega,?_⟩;simp only [List.map_cons];rw [WI,List.append_assoc]
 ·intro s _;simp only [oJ,eP,cond_false];simp [DL]

theorem aAA {l:List aJ}(hl:okL l)(hm:iM l=true){n:Int}(n1:1<=n)(n2:n<=64)(frm:Int){all:List Int}(hal:all.length<=4096)(hr:∀ x∈all,0<=x/\x<1125899906842624){m:Nat}(hml:m<=all.length)(h1:∀ i,i<m->all.getD i 0<frm)(h2:∀ i,m<=i->i<all.length->frm<=all.getD i 0) :
  ∀ (d i:Nat) (out:List aG),all.length-i=d->i<=all.length->out.length<=i->lp (fun s:List aG×Int=>lU l n frm all (rowsOf l) s.1 s.2) (out,(i:Int))=some (out++yA n.toNat (TF l) (all.drop (max i m))):=by
 have hrl:(rowsOf l).length<=4096:=by
  have h1:(PG l).length=(rowsOf l).length:=by simp [PG]
  have h2:=EY l;rw [zI hm] at h1;have:=(lK hm).1;omega
 intro d
 induction d with
 | zero =>
  intro i out hd hi ho;have hie:i=all.length:=by omega
  subst hie;have w1:IntKind.i64.wrap (((all.length:Nat):Int)+n)=((all.length:Nat):Int)+n:=cO (by omega) (by omega);rw [GY (by rw [List.length_drop]; omega),List.append_nil];refine cZ ?_;simp only [lU,w1,decide_eq_false (show ¬ ((all.length:Nat):Int)+n<=((all.length:Nat):Int) by omega),cond_false]
 | succ d ih =>
  intro i out hd hi ho;have hlt:i<all.length:=by omega
  have w1:IntKind.i64.wrap (((i:Nat):Int)+n)=((i:Nat):Int)+n:=cO (by omega) (by omega);have w2:IntKind.i64.wrap (((i:Nat):Int)+n-1)=((i:Nat):Int)+n-1:=cO (by omega) (by omega);have w3:IntKind.i64.wrap (((i:Nat):Int)+1)=((i+1:Nat):Int):=by rw [cO (by omega) (by omega)]; omega
  have hge:∀ k,k<all.length->0<=all.getD k 0/\all.getD k 0<1125899906842624:=fun k hk=>by
   rw [List.getD_eq_getElem?_getD,List.getElem?_eq_getElem hk]; exact hr _ (List.getElem_mem _)
  by_cases hc:((i:Nat):Int)+n<=((all.length:Nat):Int)
  ·have c1:(0:Int)<=((i:Nat):Int)/\((i:Nat):Int)<((all.length:Nat):Int):=⟨by omega,by omega⟩;by_cases hf:all.getD i 0<frm
   ·have him:i<m:=by
     apply Classical.byContradiction; intro hn;have:=h2 i (by omega) hlt; omega
    have hb:lU l n frm all (rowsOf l) out ((i:Nat):Int)=some (.inl (out,((i+1:Nat):Int))):=by
     simp only [lU,sI,w1,decide_eq_true hc,cond_true,aO c1,Int.toNat_natCast,sD,decide_eq_true hf,w3]
    rw [eT hb,ih (i+1) out (by omega) (by omega) (by omega),show max (i+1) m=max i m by omega]
   ·have him:m<=i:=by
     apply Classical.byContradiction; intro hn;exact hf (h1 i (by omega))
    have c2:(0:Int)<=((i:Nat):Int)+n-1/\((i:Nat):Int)+n-1<((all.length:Nat):Int):=⟨by omega,by omega⟩;have e1:Int.toNat (((i:Nat):Int)+n-1)=i+n.toNat-1:=by omega
    have hgb:=hge (i+n.toNat-1) (by omega)
    have hb:lU l n frm all (rowsOf l) out ((i:Nat):Int)=some (.inl (out++[⟨⟨all.getD i 0,all.getD (i+n.toNat-1) 0+1⟩,DL (all.getD i 0) (all.getD (i+n.toNat-1) 0+1) (groups l)⟩],((i+1:Nat):Int))):=by
     simp only [lU,w1,decide_eq_true hc,cond_true,aO c1,Int.toNat_natCast,sD,decide_eq_false hf,cond_false,w2,aO c2,e1,BS];rw [cO (n:=all.getD (i+n.toNat-1) 0+1) (by omega) (by omega)];rw [aCQ hl hm hrl (a:=all.getD i 0) (b:=all.getD (i+n.toNat-1) 0+1) c1 (by rw [Int.toNat_natCast]; rfl) (by rw [w1,w2]; exact c2) (by rw [w1,w2,e1]; rfl),Option.bind_some];simp only [xF,sI,w3];rw [aO (by simp only [List.length_cons,List.length_nil]; omega)];have : (rowsOf l).map (fun r=>(r,dK l r))=groups l:=by rw [←zI hm]; rfl
     rw [this]
    rw [eT hb,ih (i+1) _ (by omega) (by omega) (by simp only [List.length_append,List.length_cons,List.length_nil]; omega),show max (i+1) m=i+1 by omega,show max i m=i by omega]
    have ed:all.drop i=all.getD i 0::all.drop (i+1):=by
     rw [List.drop_eq_getElem_cons hlt,List.getD_eq_getElem?_getD,List.getElem?_eq_getElem hlt]; rfl
    conv=>rhs; rw [ed]; unfold yA
    rw [if_pos (by rw [List.length_drop]; omega),←ed,List.append_assoc]
    congr 2
    have hl1:(List.take n.toNat (List.drop i all)).length=n.toNat:=by rw [List.length_take,List.length_drop]; omega
    have g0:(List.take n.toNat (List.drop i all)).getD 0 0=all.getD i 0:=by
     rw [List.getD_eq_getElem?_getD,List.getD_eq_getElem?_getD,List.getElem?_take,if_pos (by omega),List.getElem?_drop]; rfl
    have g1:(List.take n.toNat (List.drop i all)).getD (n.toNat-1) 0=all.getD (i+n.toNat-1) 0:=by
     rw [List.getD_eq_getElem?_getD,List.getD_eq_getElem?_getD,List.getElem?_take,if_pos (by omega),List.getElem?_drop,show i+(n.toNat-1)=i+n.toNat-1 by omega]
    unfold TF;rw [hl1,g0,g1]
  ·rw [GY (by rw [List.length_drop]; omega),List.append_nil];refine cZ ?_;simp only [lU,w1,decide_eq_false hc,cond_false]

theorem aAB {l:List aJ}(hl:okL l)(n frm:Int):zH l n frm=some (HG l n frm):=by
 unfold zH HG;rw [SK hl,Option.bind_some];by_cases h:pE l n=0
 ·obtain⟨hm,ht,n1,n2⟩:=HO h;obtain⟨f1,f2,f3,f4⟩:=FA hm;rw [decide_eq_true h,Bool.not_true,cond_false,if_neg (by simpa using h)];simp only [iU,Option.bind_some];by_cases h1:frm<0∨1125899906842624<frm
  ·have : (!(decide (0<=frm)&&decide (frm<=1125899906842624)))=true:=by
    simp only [Bool.not_eq_true',Bool.and_eq_false_iff,decide_eq_false_iff_not]; omega
   rw [this,cond_true,if_pos h1]
  ·have : (!(decide (0<=frm)&&decide (frm<=1125899906842624)))=false:=by
    simp only [Bool.not_eq_false',Bool.and_eq_true,decide_eq_true_eq]; omega
   rw [this,cond_false,if_neg h1,aAE hl,Option.bind_some,FV hl (fun e he=>(pG hm he).1) (by have:=(lK hm).1; omega),Option.bind_some]
   have hse:(RU l).1=dD l:=by
    unfold RU;rw [aFB hm ht (by omega) (by omega)]; rfl
   rw [hse];unfold BM;obtain⟨_,hs1,hs2⟩:=aD7 f2 (by omega) frm;have hle:=TI (dD l) frm
   have k1:∀ i,i<kY (dD l) frm->(dD l).getD i 0<frm:=fun i hi=>by
    have hm1:(dD l).getD i 0∈(dD l).take (kY (dD l) frm):=by
     refine List.mem_of_getElem? (i:=i) ?_;rw [List.getElem?_take,if_pos hi,List.getD_eq_getElem?_getD,List.getElem?_eq_getElem (by omega)]; rfl
    rw [←hs1] at hm1
    simpa using (List.mem_filter.1 hm1).2
   have k2:∀ i,kY (dD l) frm<=i->i<(dD l).length->frm<=(dD l).getD i 0:=fun i hi hil=>by
    have hm1:(dD l).getD i 0∈(dD l).drop (kY (dD l) frm):=by
     refine List.mem_of_getElem? (i:=i-kY (dD l) frm) ?_;rw [List.getElem?_drop,show kY (dD l) frm+(i-kY (dD l) frm)=i by omega,List.getD_eq_getElem?_getD,List.getElem?_eq_getElem hil]; rfl
    rw [←hs2] at hm1
    simpa using (List.mem_filter.1 hm1).2
   have key:=aAA hl hm n1 n2 frm f3 f4 hle k1 k2 (dD l).length 0 [] rfl (by omega) (by simp);rw [show ((0:Nat):Int)=0 from rfl] at key;rw [key,Option.bind_some,List.nil_append,show max 0 (kY (dD l) frm)=kY (dD l) frm by omega];unfold wD;have hwl:=RA (n:=n.toNat) (mk:=TF l) (by omega) ((dD l).drop (kY (dD l) frm));rw [hwl];by_cases h3:1024<((((dD l).drop (kY (dD l) frm)).length:Nat):Int)-n+1
   ·rw [if_pos h3,decide_eq_true (by omega)]; rfl
   ·rw [if_neg h3,decide_eq_false (by omega)]; rfl
 ·rw [decide_eq_false h,Bool.not_false,cond_true,if_pos h]

theorem aAh {n:Nat}{mk:List Int->aG}{p:aG}:∀ {r:List Int},p∈yA n mk r -> ∃ run,p=mk run
 | [],h=>by simp [yA] at h
 | x::r,h=>by
  unfold yA at h;rcases List.mem_append.1 h with h | h
  ·split at h
   ·simp at h; exact ⟨_,h⟩
   ·simp at h
  ·exact aAh h

theorem aFz {gs:List (List aH×List aM)}(hg:∀ g∈gs,gJ g.2=true/\g.1.length<=4398046510976)(hn:gs.length<=1000000)(a b:Int):okC (DL a b gs):=by
 refine⟨by have : (DL a b gs).length<=gs.length:=List.length_filterMap_le ..; omega,fun c hc=>?_⟩;obtain⟨g,h1,h2⟩:=List.mem_filterMap.1 hc;split at h2
 ·simp only [Option.some.injEq] at h2; subst h2;have:=(hg g h1).2; simp only; omega
 ·cases h2

theorem aEa {l:List aJ}(hl:okL l)(n frm:Int):(HG l n frm).1.length<=4097 /\ ∀ p∈(HG l n frm).1,okC p.Rows:=by
 unfold HG;by_cases h:pE l n=0
 ·obtain⟨hm,ht,n1,n2⟩:=HO h;obtain⟨g1,g2⟩:=IS hl hm;obtain⟨_,_,f3,_⟩:=FA hm;rw [if_neg (by simpa using h)];split
  ·simp
  ·split
   ·simp
   ·simp only;refine⟨by rw [RA (by omega),List.length_drop]; omega,fun p hp=>?_⟩;obtain⟨run,rfl⟩:=aAh hp;exact aFz g1 (by omega) _ _
 ·rw [if_pos h]; simp

end Go.Abs
namespace Go.Abs
open Go
theorem aAo {β:Type}{k:Int}{v:β}:∀ {m:List (Int×β)},k∈m.map (·.1)->(fX m k v).map (·.1)=m.map (·.1)
 | [],h=>by simp at h
 | p::m,h=>by
  by_cases hp:p.1=k
  ·simp [fX,hp]
  ·simp only [List.map_cons,List.mem_cons] at h;rcases h with h | h
   ·exact absurd h.symm hp
   ·simp only [fX,hp,if_false,List.map_cons,aAo h]

theorem ZL {β:Type}{k:Int}{v:β}{m:List (Int×β)}(h:k ∉ m.map (·.1)):(fX m k v).map (·.1)=m.map (·.1)++[k]:=by
 rw [NX fun p hp e=>h (List.mem_map.2 ⟨p,hp,e⟩)]; simp

theorem PK {β:Type}{k:Int}:∀ {m:List (Int×β)},hY m k=none↔k ∉ m.map (·.1)
 | []=>by simp [hY]
 | p::m=>by
  rw [hY];by_cases hp:p.1=k
  ·simp [hp]
  ·rw [if_neg hp,PK (m:=m)];simp only [List.map_cons,List.mem_cons,not_or];exact⟨fun h=>⟨fun e=>hp e.symm,h⟩,fun h=>h.2⟩

theorem PD {β:Type}{k x:Int}{v:β}:∀ {m:List (Int×β)},hY (fX m k v) x=if x=k then some v else hY m x
 | []=>by
  simp only [fX,hY];by_cases h:k=x
  ·simp [h]
  ·rw [if_neg h,if_neg (fun e=>h e.symm)]
 | p::m=>by
  by_cases hp:p.1=k
  ·simp only [fX,if_pos hp,hY];by_cases h:k=x
   ·simp [h]
   ·rw [if_neg h,if_neg (fun e=>h e.symm),if_neg (by rw [hp]; exact h)]
  ·simp only [fX,if_neg hp,hY];by_cases h:p.1=x
   ·rw [if_pos h,if_pos h,if_neg (fun e=>hp (h.trans e))]
   ·rw [if_neg h,if_neg h,PD (m:=m)]

theorem PB {S α:Type}{f:S->α->Option S}:∀ {a b:List α} {s:S},dL f s (a++b)=(dL f s a).bind fun s'=>dL f s' b
 | [],b,s=>rfl
 | x::a,b,s=>by
  simp only [List.cons_append,dL]
  cases f s x with
  | none=>rfl
  | some s'=>exact PB (a:=a)

def mkW (size t:Int):aG:=⟨⟨t,min (t+size) 1125899906842624⟩,[]⟩

def kQ (g:List aH×List aM)(p:aG):aG :=
 if p.Rows=[]∨(oU p.Rows).Row≠g.1 then ⟨p.Span,p.Rows++[⟨g.1,lB g.2 p.Span.From p.Span.To⟩]⟩ else p

def oF (size:Int)(g:List aH×List aM)(m:List (Int×aG))(t:Int):Option (List (Int×aG)) :=
 match hY m t with
 | none=>if m.length=1024 then none else some (fX m t (kQ g (mkW size t)))
 | some p=>some (fX m t (kQ g p))

theorem GB (rs:List bA)(c:bA):oU (rs++[c])=c:=by
 unfold oU;have : (rs++[c]).length-1=rs.length:=by simp
 rw [this,List.getD_eq_getElem?_getD,List.getElem?_append_right (Nat.le_refl _)];simp

theorem aCN (g:List aH×List aM)(p:aG):(kQ g p).Rows≠[]/\(oU (kQ g p).Rows).Row=g.1:=by
 unfold kQ;split
 ·exact⟨by simp,by rw [GB]⟩
 ·rename_i h
  simp only [not_or,Decidable.not_not] at h;exact h

theorem aBN (g:List aH×List aM)(p:aG):kQ g (kQ g p)=kQ g p:=by
 obtain⟨h1,h2⟩:=aCN g p
 have key:∀ q:aG,q.Rows≠[]->(oU q.Rows).Row=g.1->kQ g q=q:=fun q a b=>by
  unfold kQ;rw [if_neg (by simp [a,b])]
 exact key _ h1 h2

theorem QN {g:List aH×List aM}(hg:gJ g.2=true)(hr:g.1.length<=4398046510976){p:aG}(hp:p.Rows.length<=1000000)(hlr:p.Rows≠[]->(oU p.Rows).Row.length<=4398046510976):rS g.1 g.2 p=some (kQ g p):=by
 unfold rS;have hlen:IntKind.i64.wrap (((List.length p.Rows:Nat):Int)-1)=((List.length p.Rows:Nat):Int)-1:=cO (by omega) (by omega);simp only [wR,lN,gD,hlen]
 cases hR:p.Rows with
 | nil =>
  have h0:decide ((((List.length ([]:List bA):Nat):Int)-1)<0)=true:=by decide
  simp only [h0,Bool.not_true,Bool.true_or,cond_true,cW,cond_false,Option.bind_some];rw [aO (by simp)];rw [NO hr,Option.bind_some,XJ hg,Option.bind_some,aO (by simp)];unfold kQ;rw [if_pos (.inl hR),hR]
 | cons c rs =>
  have hl2:(c::rs).length<=1000000:=by rw [←hR]; exact hp
  have hge:0<=(((List.length (c::rs):Nat):Int)-1)/\(((List.length (c::rs):Nat):Int)-1)<((List.length (c::rs):Nat):Int):=by simp only [List.length_cons]; omega
  have h0:decide ((((List.length (c::rs):Nat):Int)-1)<0)=false:=decide_eq_false (by omega)
  have hlast:List.getD (c::rs) (Int.toNat (((List.length (c::rs):Nat):Int)-1)) default=oU (c::rs):=by
   unfold oU
   congr 1
   omega
  rw [h0];simp only [Bool.not_false,Bool.false_or,cW,cond_true];rw [aO (fun _=>hge),hlast]
  have hsame:uQ (oU (c::rs)).Row g.1=some (decide ((oU (c::rs)).Row=g.1)):=by
   have:=hlr (by rw [hR]; simp);rw [hR] at this;exact NF _ _ (by omega)
  rw [hsame,Option.bind_some];unfold kQ;rw [hR];by_cases hq:(oU (c::rs)).Row=g.1
  ·rw [decide_eq_true hq,if_neg (by simp [hq])]; rfl
  ·rw [decide_eq_false hq,if_pos (.inr hq)];simp only [Bool.not_false,cond_true];rw [NO hr,Option.bind_some,XJ hg,Option.bind_some,aO (by simp only [List.length_cons,List.length_nil] at hl2 ⊢; omega)]

def TG (n:Nat)(r:List aH)(p:aG):Prop:=(p.Rows.length<=n∨(p.Rows≠[]/\(oU p.Rows).Row=r/\p.Rows.length<=n+1))/\(p.Rows≠[]->(oU p.Rows).Row.length<=4398046510976)

theorem TG.add {n:Nat}{g:List aH×List aM}(hr:g.1.length<=4398046510976){p:aG}(h:TG n g.1 p):TG n g.1 (kQ g p):=by
 obtain⟨h,h'⟩:=h;unfold kQ;split
 ·rename_i hc
  refine⟨.inr ⟨by simp,by rw [GB],?_⟩,fun _=>by rw [GB]; exact hr⟩;rcases h with h | ⟨h1,h2,h3⟩
  ·simp; omega
  ·rcases hc with hc | hc
   ·exact absurd hc h1
   ·exact absurd h2 hc
 ·exact⟨h,h'⟩

def MW (n:Nat)(r:List aH)(m:List (Int×aG)):Prop:=∀ t p,hY m t=some p->TG n r p

theorem aGk {size:Int}{g:List aH×List aM}(hg:gJ g.2=true)(hr:g.1.length<=4398046510976){n:Nat}(hn:n<=900000){m:List (Int×aG)}(hm:MW n g.1 m){t:Int}(h0:0<=t)(h1:t<1125899906842624)(hs0:0<=size)(hs:size<=1099511627776)(b:Bool) :
  (∀ m',oF size g m t=some m'->pX g.1 g.2 size b m t=some (.inl (b,m'))/\MW n g.1 m')/\(oF size g m t=none->pX g.1 g.2 size b m t=some (.inr (false,m))):=by
 unfold oF pX;have small:∀ p,TG n g.1 p->p.Rows.length<=1000000:=fun p hp=>by rcases hp.1 with h | ⟨_,_,h⟩ <;> omega
 have put:∀ p,TG n g.1 p->MW n g.1 (fX m t (kQ g p)):=by
  intro p hp t' p' h;rw [PD] at h;split at h
  ·cases h; exact hp.add hr
  ·exact hm t' p' h
 cases hgt:hY m t with
 | none =>
  simp only;have hw:IntKind.i64.wrap (t+size)=t+size:=cO (by omega) (by omega)
  have hmk:(aG.mk (aU.mk t (if (1125899906842624:Int)<(wR (t+size)) then (1125899906842624:Int) else (wR (t+size)))) [])=mkW size t:=by
   unfold mkW;simp only [wR,hw]
   congr 2
   rw [Int.min_def]; split <;> split <;> omega
  have hf:TG n g.1 (mkW size t):=⟨.inl (by simp [mkW]),fun h=>absurd rfl h⟩;rw [hmk,QN hg hr (small _ hf) hf.2];by_cases hl:m.length=1024
  ·have : decide ((lN m)=(1024:Int))=true:=decide_eq_true (by simp only [lN]; omega);rw [this,if_pos hl];exact⟨fun m' h=>(by cases h),fun _=>rfl⟩
  ·have : decide ((lN m)=(1024:Int))=false:=decide_eq_false (by simp only [lN]; omega);rw [this,if_neg hl];refine⟨fun m' h=>?_,fun h=>(by cases h)⟩
   cases h
   exact⟨rfl,put _ hf⟩
 | some p =>
  simp only;have hf:=hm t p hgt;rw [QN hg hr (small _ hf) hf.2];refine⟨fun m' h=>?_,fun h=>(by cases h)⟩
  cases h
  exact⟨rfl,put _ hf⟩

theorem aB9 {size:Int}{g:List aH×List aM}(hg:gJ g.2=true)(hr:g.1.length<=4398046510976){n:Nat}(hn:n<=900000)(hs0:0<=size)(hs:size<=1099511627776)(b:Bool):∀ (ts:List Int) (m:List (Int×aG)),MW n g.1 m->(∀ t∈ts,0<=t/\t<1125899906842624) ->
  ∃ x,EJ (fun st t=>rnd (fun (q:Bool×List (Int×aG))=>pX g.1 g.2 size q.1 q.2 t) st) ts (.inl (b,m))=some x/\(∀ m',dL (oF size g) m ts=some m'->x=.inl (b,m')/\MW n g.1 m')/\(dL (oF size g) m ts=none -> ∃ q,q.1=false/\x=.inr q)
 | [],m,hm,_=>⟨_,rfl,fun m' h=>by simp only [dL,Option.some.injEq] at h; subst h; exact ⟨rfl,hm⟩,fun h=>by simp [dL] at h⟩
 | t::ts,m,hm,ht=>by
  obtain⟨h0,h1⟩:=ht t (by simp);obtain⟨a1,a2⟩:=aGk hg hr hn hm h0 h1 hs0 hs b;simp only [EJ,dL]
  cases hst:oF size g m t with
  | none =>
   have e:=a2 hst;refine⟨.inr (false,m),?_,fun m' h=>(by simp at h),fun _=>⟨_,rfl,rfl⟩⟩;simp only [rnd,e,Option.bind_some,Sum.isLeft_inr,Bool.false_eq_true,if_false]
  | some m1 =>
   obtain⟨e,hm1⟩:=a1 m1 hst;obtain⟨x,e1,e2,e3⟩:=aB9 hg hr hn hs0 hs b ts m1 hm1 fun t' h'=>ht t' (by simp [h']);refine⟨x,?_,e2,e3⟩;simp only [rnd,e,Option.bind_some,Sum.isLeft_inl,if_true];exact e1

def qX (size hop frm front:Int)(f:List aM):List Int:=(pI f).flatMap (eE size hop frm front)

theorem DV {size hop frm front:Int}(ok:OkH size hop frm front)(s:aU):∀ t∈eE size hop frm front s,0<=t/\t<1125899906842624:=by
 intro t ht;unfold eE at ht;have h1:=(YW (b:=mV front s) ok.h0 (tN size hop frm s)).2 t ht;obtain⟨k,_,h2⟩:=(aCj ok.h0 _).1 ht;have h3:=(FJ (n:=s.From-size) ok.h0).1;have h4:jW hop (s.From-size)<=tN size hop frm s:=Int.le_max_left _ _;have h5:mV front s<=1125899906842624:=Int.min_le_right _ _;omega

theorem aB0 {size hop frm front:Int}(ok:OkH size hop frm front){g:List aH×List aM}(hg:gJ g.2=true)(hr:g.1.length<=4398046510976){n:Nat}(hn:n<=900000)(b:Bool):∀ (ss:List aU) (m:List (Int×aG)),MW n g.1 m->(∀ s∈ss,-1<=s.From/\s.From<s.To/\s.To<=1125899906842624) ->
  ∃ x,EJ (fun st s=>rnd (fun (q:Bool×List (Int×aG))=>rP g.1 g.2 size hop frm front q.1 q.2 s) st) ss (.inl (b,m))=some x/\(∀ m',dL (oF size g) m (ss.flatMap (eE size hop frm front))=some m'->x=.inl (b,m')/\MW n g.1 m')/\(dL (oF size g) m (ss.flatMap (eE size hop frm front))=none -> ∃ q,q.1=false/\x=.inr q)
 | [],m,hm,_=>⟨_,rfl,fun m' h=>by simp only [List.flatMap_nil,dL,Option.some.injEq] at h; subst h; exact ⟨rfl,hm⟩,fun h=>by simp [dL] at h⟩
 | s::ss,m,hm,hs=>by
  have hsp:=hs s (by simp);obtain⟨x,e1,e2,e3⟩:=aB9 hg hr hn (size:=size) (by have:=ok.s0; omega) ok.s1 b (eE size hop frm front s) m hm (DV ok s)
  have hl:rP g.1 g.2 size hop frm front b m s=(Sum.elim (fun q=>some (.inl q)) (fun q=>some (.inr q)) x:Option ((Bool×List (Int×aG))⊕(Bool×List (Int×aG)))):=by
   unfold rP;simp only [EV,Option.bind_some];rw [aES ok hsp.1 (by omega) e1];rfl
  simp only [EJ,List.flatMap_cons,PB]
  cases hst:dL (oF size g) m (eE size hop frm front s) with
  | none =>
   obtain⟨q,hq,rfl⟩:=e3 hst;refine⟨.inr q,?_,fun m' h=>(by simp at h),fun _=>⟨_,hq,rfl⟩⟩;simp only [rnd,hl,Sum.elim_inr,Option.bind_some,Sum.isLeft_inr,Bool.false_eq_true,if_false]
  | some m1 =>
   obtain⟨rfl,hm1⟩:=e2 m1 hst;obtain⟨x,f1,f2,f3⟩:=aB0 ok hg hr hn b ss m1 hm1 fun s' h'=>hs s' (by simp [h']);refine⟨x,?_,f2,f3⟩;simp only [rnd,hl,Sum.elim_inl,Option.bind_some,Sum.isLeft_inl,if_true];exact f1

theorem aFU {size hop frm front:Int}(ok:OkH size hop frm front){g:List aH×List aM}(hg:gJ g.2=true)(hr:g.1.length<=4398046510976){n:Nat}(hn:n<=900000){m:List (Int×aG)}(hm:MW n g.1 m) :
  ∃ x,BD m g.1 g.2 size hop frm front=some x/\(∀ m',dL (oF size g) m (qX size hop frm front g.2)=some m'->x=(true,m')/\MW n g.1 m')/\(dL (oF size g) m (qX size hop frm front g.2)=none->x.1=false):=by
 obtain⟨x,e1,e2,e3⟩:=aB0 ok hg hr hn false (pI g.2) m hm (LR hg);unfold BD;simp only [HF,Option.bind_some];rw [aEj hg e1,Option.bind_some];unfold qX
 cases hst:dL (oF size g) m ((pI g.2).flatMap (eE size hop frm front)) with
 | none =>
  obtain⟨q,hq,rfl⟩:=e3 hst;exact⟨_,rfl,fun m' h=>(by cases h),fun _=>hq⟩
 | some m1 =>
  obtain⟨rfl,hm1⟩:=e2 m1 hst;exact⟨_,rfl,fun m' h=>(by cases h; exact ⟨rfl,hm1⟩),fun h=>(by cases h)⟩

end Go.Abs
namespace Go.Abs
open Go
theorem OQ {hop n x:Int}(hh:1<=hop)(h0:0<=x)(hx:∃ k:Int,x=k*hop)(h:n<x):jW hop n<=x:=by
 unfold jW;split
 ·exact h0
 ·obtain⟨k,rfl⟩:=hx;have hf:=LI (n:=n) hh
  have : n / hop<k:=by
   rcases Int.lt_or_le (n / hop) k with h1 | h1
   ·exact h1
   ·have:=Int.mul_le_mul_of_nonneg_right h1 (show 0<=hop by omega);omega
  exact Int.mul_le_mul_of_nonneg_right (show n / hop+1<=k by omega) (by omega)

theorem SY {size hop frm:Int}{s:aU}(hh:1<=hop)(hf:0<=frm):0<=tN size hop frm s/\(∃ k:Int,tN size hop frm s=k*hop)/\s.From-size<tN size hop frm s/\frm<=tN size hop frm s /\
  ∀ x:Int,0<=x->(∃ k:Int,x=k*hop)->s.From-size<x->frm<=x->tN size hop frm s<=x:=by
 obtain⟨a1,a2,_,_,a5⟩:=FJ (n:=s.From-size) hh;obtain⟨b1,b2,_,_,b5⟩:=FJ (n:=frm-1) hh;unfold tN;refine⟨by omega,?_,by omega,by omega,fun x x0 xk x1 x2=>?_⟩
 ·rcases Int.le_total (jW hop (s.From-size)) (jW hop (frm-1)) with h | h
  ·rw [Int.max_eq_right h]; exact b5
  ·rw [Int.max_eq_left h]; exact a5
 ·have c1:=OQ hh x0 xk x1;have c2:=OQ hh x0 xk (show frm-1<x by omega);omega

theorem SP {size hop frm front:Int}(ok:OkH size hop frm front){s:aU}{x:Int}:x∈eE size hop frm front s↔0<=x/\(∃ k:Int,x=k*hop)/\frm<=x/\x<front/\x<1125899906842624/\s.From-size<x/\x<s.To:=by
 obtain⟨f1,⟨q,f2⟩,f3,f4,f5⟩:=SY (size:=size) (s:=s) ok.h0 ok.f0;have hb:x<mV front s↔x<s.To/\x<front/\x<1125899906842624:=by unfold mV; omega
 unfold eE;rw [aCj ok.h0];constructor
 ·rintro ⟨k,h1,h2⟩;have h3:=hb.1 h2;have h4:0<=(k:Int)*hop:=Int.mul_nonneg (by omega) (by have:=ok.h0; omega);refine⟨by omega,⟨q+k,?_⟩,by omega,h3.2.1,h3.2.2,by omega,h3.1⟩;rw [Int.add_mul]; omega
 ·rintro ⟨h1,⟨k,hk⟩,h2,h3,h4,h5,h6⟩;have h7:=f5 x h1 ⟨k,hk⟩ h5 h2
  have h8:q<=k:=by
   rcases Int.lt_or_le k q with hlt | hle
   ·have u:=Int.mul_le_mul_of_nonneg_right (show k+1<=q by omega) (show 0<=hop by have:=ok.h0; omega);have u0:=ok.h0;rw [Int.add_mul] at u;omega
   ·exact hle
  refine⟨(k-q).toNat,?_,hb.2 ⟨h6,h3,h4⟩⟩;rw [Int.toNat_of_nonneg (by omega),Int.sub_mul]; omega

theorem aCl {size hop frm front:Int}(ok:OkH size hop frm front)(s:aU):(eE size hop frm front s).Pairwise (· < ·):=(YW ok.h0 _).1

def UH (size hop:Int)(s:aU)(frm front:Int):List Int×Int :=
 if !tQ size hop then ([],2) else if !(kO frm&&kO front) then ([],13) else if s.From < -1∨s.To<=s.From∨1125899906842624<s.To then ([],14)
 else if 1024<(eE size hop frm front s).length then ([],7) else (eE size hop frm front s,0)

theorem VH {size hop frm front:Int}(hm:tQ size hop=true)(h1:kO frm=true)(h2:kO front=true):OkH size hop frm front:=by
 have a:=ZK hm; have b:=IQ h1; have c:=IQ h2;exact⟨a.1,a.2.1,a.2.2.1,a.2.2.2,b.1,b.2,c.1,c.2⟩

theorem SX (size hop:Int):qQ size hop=some (tQ size hop):=by
 unfold qQ tQ;have a:decide ((0:Int)<size)=decide ((1:Int)<=size):=decide_eq_decide.2 (by omega);have b:decide ((0:Int)<hop)=decide ((1:Int)<=hop):=decide_eq_decide.2 (by omega);rw [a,b]

theorem RC {size t:Int}(h0:0<=t)(h1:t<=4503599627370496)(h2:0<=size)(h3:size<=1099511627776):zP size t=some (min (t+size) 1125899906842624):=by
 have hw:IntKind.i64.wrap (t+size)=t+size:=cO (by omega) (by omega);unfold zP;rw [hw];by_cases hc:1125899906842624<t+size
 ·rw [decide_eq_true hc,cond_true,Int.min_eq_right (by omega)]
 ·rw [decide_eq_false hc,cond_false,Int.min_eq_left (by omega)]

theorem MK {size hop frm front:Int}(ok:OkH size hop frm front){s:aU}(hs : -1<=s.From)(hs1:s.From<s.To)(hs2:s.To<=1125899906842624):∀ (t:Int) (out:List Int),0<=t->frm<=t->s.From-size<t->out.length<=1024 ->
  lp (fun q:List Int×Int=>fL size hop frm front s q.1 q.2) (out,t)=some (if 1024<out.length+(EI hop t (mV front s)).length then .inr ([],7) else .inl (out++EI hop t (mV front s))):=by
 refine NK ok.h0 (b:=mV front s) (fun t h out h0 h1 h2 ho=>?_) (fun t h ih out h0 h1 h2 ho=>?_)
 ·rw [JY ok.h0 h,if_neg (by simp; omega),List.append_nil];refine cZ ?_;show fL size hop frm front s out t=_;unfold fL
  have : (((decide (t<front))&&(decide (t<s.To)))&&(decide (t<(1125899906842624:Int))))=false:=by
   rw [Bool.eq_false_iff]; intro hc;simp only [Bool.and_eq_true,decide_eq_true_eq] at hc;unfold mV at h; omega
  rw [this]; rfl
 ·rw [LD ok.h0 h];have hb:mV front s<=1125899906842624:=Int.min_le_right _ _;have hw:IntKind.i64.wrap (t+hop)=t+hop:=by have:=ok.h0; have:=ok.h1; exact cO (by omega) (by omega)
  have hE:=RC (size:=size) h0 (by omega) (by have:=ok.s0; omega) ok.s1
  have c1:(((decide (t<front))&&(decide (t<s.To)))&&(decide (t<(1125899906842624:Int))))=true:=by
   simp only [Bool.and_eq_true,decide_eq_true_eq];unfold mV at h; omega
  have c2:((decide (frm<=t))&&(decide (s.From<min (t+size) 1125899906842624)))=true:=by
   simp only [Bool.and_eq_true,decide_eq_true_eq]; omega
  have body:fL size hop frm front s out t=some (if 1024<out.length+1 then .inr (.inr ([],7)) else .inl (out++[t],t+hop)):=by
   unfold fL;rw [c1,cond_true,decide_eq_true h1];simp only [cW,cond_true,hE,Option.bind_some];rw [decide_eq_true h1] at c2;rw [c2,cond_true,aO (by simp only [List.length_cons,List.length_nil]; omega)];unfold pJ;by_cases hl:1024<out.length+1
   ·rw [if_pos hl,decide_eq_true (by simp only [List.length_append,List.length_cons,List.length_nil]; omega),cond_true]
   ·rw [if_neg hl,decide_eq_false (by simp only [List.length_append,List.length_cons,List.length_nil]; omega),cond_false,hw]
  by_cases hl:1024<out.length+1
  ·rw [if_pos hl] at body;rw [cZ (show (fun q:List Int×Int=>fL size hop frm front s q.1 q.2) (out,t)=_ from body),if_pos (by simp only [List.length_cons]; omega)]
  ·rw [if_neg hl] at body;rw [eT (show (fun q:List Int×Int=>fL size hop frm front s q.1 q.2) (out,t)=_ from body),ih (out++[t]) (by have:=ok.h0; omega) (by have:=ok.h0; omega) (by have:=ok.h0; omega) (by simp; omega)];have e:(out++[t]).length+(EI hop (t+hop) (mV front s)).length=out.length+(t::EI hop (t+hop) (mV front s)).length:=by simp; omega
   rw [e];simp only [List.append_assoc,List.cons_append,List.nil_append]

theorem aB1 (size hop:Int)(s:aU)(frm front:Int):sL size hop s frm front=some (UH size hop s frm front):=by
 unfold sL UH;rw [SX,show iU frm=some (kO frm) from rfl,show iU front=some (kO front) from rfl];simp only [Option.bind_some]
 cases hm:tQ size hop with
 | false=>rfl
 | true =>
  cases h1:kO frm with
  | false=>rfl
  | true =>
   cases h2:kO front with
   | false=>rfl
   | true =>
    simp only [Bool.not_true,cond_false,Bool.not_false,cW,cond_true,Option.bind_some,Bool.or_self,Bool.and_self,Bool.false_eq_true,if_false];by_cases hs:s.From < -1∨s.To<=s.From∨1125899906842624<s.To
    ·have : (((decide (s.From<(-1:Int)))||(decide (s.To<=s.From)))||(decide ((1125899906842624:Int)<s.To)))=true:=by simp only [Bool.or_eq_true,decide_eq_true_eq]; omega
     rw [this,if_pos hs]; rfl
    ·have : (((decide (s.From<(-1:Int)))||(decide (s.To<=s.From)))||(decide ((1125899906842624:Int)<s.To)))=false:=by simp only [Bool.or_eq_false_iff,decide_eq_false_iff_not]; omega
     rw [this,if_neg hs,cond_false];have ok:=VH hm h1 h2;have w1:IntKind.i64.wrap (s.From-size)=s.From-size:=by have:=ok.s0; have:=ok.s1; exact cO (by omega) (by omega)
     rw [w1];have hhop:=ok.h0
     -- from the least one on
     have main:∀ low:Int,frm<=low->s.From-size<=low->(low=frm∨low=s.From-size)->low<=1125899906842624->rM size hop frm front s low=some (if 1024<(eE size hop frm front s).length then ([],7) else (eE size hop frm front s,0)):=by
      intro low l1 l2 l3 l4;have l0:0<=low:=by have:=ok.f0; omega
      obtain⟨f1,⟨q,f2⟩,f3,f4,f5⟩:=SY (size:=size) (s:=s) ok.h0 ok.f0;have hfl:=LI (n:=low) hhop;have hd0:0<=low / hop:=Int.ediv_nonneg l0 (by omega);have hd1:low / hop<=low:=Int.ediv_le_self _ l0;have hm0:0<=low / hop*hop:=Int.mul_nonneg hd0 (by omega);rw [Int.add_mul] at hfl;have v1:IntKind.i64.wrap (Int.tdiv low hop)=low / hop:=by rw [aBB l0]; exact cO (by omega) (by omega)
      have v2:IntKind.i64.wrap (low / hop*hop)=low / hop*hop:=cO (by omega) (by omega);have v3:IntKind.i64.wrap (low / hop*hop+hop)=low / hop*hop+hop:=cO (by omega) (by have:=ok.h1; omega)
      have fin:∀ r:List Int⊕(List Int×Int),r=(if 1024<(eE size hop frm front s).length then .inr ([],7) else .inl (eE size hop frm front s))->(some r).bind (Sum.elim (fun rr=>uR rr) (fun rr=>some (rr.1,rr.2)))=some (if 1024<(eE size hop frm front s).length then ([],7) else (eE size hop frm front s,0)):=by
       intro r hr;subst hr;by_cases hl:1024<(eE size hop frm front s).length
       ·rw [if_pos hl,if_pos hl]; rfl
       ·rw [if_neg hl,if_neg hl]; rfl
      unfold rM;rw [aO (by omega),v1,v2];unfold AA;by_cases hin:frm<=low / hop*hop/\s.From-size<low / hop*hop
      ·have he:tN size hop frm s=low / hop*hop:=by
        have u1:=f5 _ hm0 ⟨low / hop,rfl⟩ hin.2 hin.1;omega
       rw [MK ok (by omega) (by omega) (by omega) (low / hop*hop) [] hm0 hin.1 hin.2 (by simp)];refine fin _ ?_;simp only [List.length_nil,Nat.zero_add,List.nil_append];unfold eE;rw [he]
      ·have hnext:tN size hop frm s=low / hop*hop+hop:=by
        have u1:=f5 (low / hop*hop+hop) (by omega) ⟨low / hop+1,by rw [Int.add_mul]; omega⟩ (by omega) (by omega);have u2:low / hop*hop<tN size hop frm s:=by omega
        rw [f2] at u2 u1 ⊢
        have u3:low / hop<q:=by
         rcases Int.lt_or_le (low / hop) q with h | h
         ·exact h
         ·have:=Int.mul_le_mul_of_nonneg_right h (show 0<=hop by omega); omega
        have u4:=Int.mul_le_mul_of_nonneg_right (show low / hop+1<=q by omega) (show 0<=hop by omega);rw [Int.add_mul] at u4;omega
       -- the first one is left out
       by_cases hlt:low / hop*hop<mV front s
       ·have hb:mV front s<=1125899906842624:=Int.min_le_right _ _
        have c1:(((decide (low / hop*hop<front))&&(decide (low / hop*hop<s.To)))&&(decide (low / hop*hop<(1125899906842624:Int))))=true:=by
         simp only [Bool.and_eq_true,decide_eq_true_eq];unfold mV at hlt; omega
        have hE:=RC (size:=size) hm0 (by omega) (by have:=ok.s0; omega) ok.s1
        have body:fL size hop frm front s [] (low / hop*hop)=some (.inl ([],low / hop*hop+hop)):=by
         unfold fL;rw [c1,cond_true];by_cases hfr:frm<=low / hop*hop
         ·rw [decide_eq_true hfr];simp only [cW,cond_true,hE,Option.bind_some];have : decide (s.From<min (low / hop*hop+size) 1125899906842624)=false:=decide_eq_false (by omega);rw [this];simp only [Bool.and_false,cond_false,pJ];rw [v3]; rfl
         ·rw [decide_eq_false hfr];simp only [cW,cond_false,Option.bind_some,Bool.false_and,pJ];rw [v3]; rfl
        rw [eT (show (fun q:List Int×Int=>fL size hop frm front s q.1 q.2) ([],low / hop*hop)=_ from body),MK ok (by omega) (by omega) (by omega) (low / hop*hop+hop) [] (by omega) (by omega) (by omega) (by simp)];refine fin _ ?_;simp only [List.length_nil,Nat.zero_add,List.nil_append];unfold eE;rw [hnext]
       ·have hnil:eE size hop frm front s=[]:=by
         unfold eE;exact JY hhop (by omega)
        have body:fL size hop frm front s [] (low / hop*hop)=some (.inr (.inl [])):=by
         unfold fL
         have : (((decide (low / hop*hop<front))&&(decide (low / hop*hop<s.To)))&&(decide (low / hop*hop<(1125899906842624:Int))))=false:=by
          rw [Bool.eq_false_iff]; intro hc;simp only [Bool.and_eq_true,decide_eq_true_eq] at hc;unfold mV at hlt; omega
         rw [this]; rfl
        rw [cZ (show (fun q:List Int×Int=>fL size hop frm front s q.1 q.2) ([],low / hop*hop)=_ from body)];refine fin _ ?_;rw [hnil]; rfl
     by_cases hlo:s.From-size<frm
     ·rw [decide_eq_true hlo,cond_true];exact main frm (Int.le_refl _) (by omega) (.inl rfl) (by have:=ok.f1; omega)
     ·rw [decide_eq_false hlo,cond_false];exact main (s.From-size) (by omega) (Int.le_refl _) (.inr rfl) (by have:=ok.s0; omega)

end Go.Abs
namespace Go.Abs
open Go
abbrev G1:=List aH×List aM

def mX (size t:Int):Int:=min (t+size) 1125899906842624

def xO (size t:Int)(gs:List G1):List bA:=gs.filterMap fun g=>if 0<lB g.2 t (mX size t) then some ⟨g.1,lB g.2 t (mX size t)⟩ else none

def vQ (size hop frm front:Int)(gs:List G1)(m:List (Int×aG)):Option (List (Int×aG)):=dL (fun m g=>dL (oF size g) m (qX size hop frm front g.2)) m gs

def rT (size hop frm front:Int)(gs:List G1):List Int:=gs.flatMap fun g=>qX size hop frm front g.2

def LL (size hop frm front:Int)(gs:List G1):List Int:=(rT size hop frm front gs).foldl (fun c t=>iA t c) []

def nD (c:List Int)(ts:List Int):List Int:=ts.foldl (fun c t=>iA t c) c

theorem LG (c:List Int)(t:Int)(ts:List Int):nD c (t::ts)=nD (iA t c) ts:=rfl

theorem LX (c a b:List Int):nD c (a++b)=nD (nD c a) b:=List.foldl_append ..

theorem JT {last:Int}:∀ {ts c:List Int},Inc last c->(∀ t∈ts,last<t/\t<1125899906842624)->Inc last (nD c ts)
 | [],c,h,_=>h
 | t::ts,c,h,ht=>by
  rw [LG];exact JT (xH h (ht t (by simp)).1 (ht t (by simp)).2) fun x hx=>ht x (by simp [hx])

theorem TO {x:Int}:∀ {ts c:List Int},x∈nD c ts↔x∈ts∨x∈c
 | [],c=>by simp [nD]
 | t::ts,c=>by
  rw [LG,TO,QA];simp only [List.mem_cons];constructor
  ·rintro (h | h | h)
   ·exact .inl (.inr h)
   ·exact .inl (.inl h)
   ·exact .inr h
  ·rintro ((h | h) | h)
   ·exact .inr (.inl h)
   ·exact .inl h
   ·exact .inr (.inr h)

theorem VU {t:Int}:∀ {ps:List Int},ps.length<=(iA t ps).length
 | []=>by simp [iA]
 | p::r=>by
  unfold iA;split
  ·exact Nat.le_refl _
  ·split
   ·simp
   ·simp only [List.length_cons];have:=VU (t:=t) (ps:=r);omega

theorem HR:∀ {ts c:List Int},c.length<=(nD c ts).length
 | [],c=>Nat.le_refl _
 | t::ts,c=>by
  rw [LG];exact Nat.le_trans VU HR

theorem WG {size:Int}{g:G1}{last:Int}:∀ {ts:List Int} {m:List (Int×aG)} {c:List Int},Inc last c->(∀ t∈ts,last<t/\t<1125899906842624)->(m.map (·.1)).Perm c->m.length<=1024 ->
  (∀ m',dL (oF size g) m ts=some m'->(m'.map (·.1)).Perm (nD c ts)/\m'.length<=1024)/\(dL (oF size g) m ts=none->1024<(nD c ts).length)
 | [],m,c,_,_,hp,hl=>⟨fun m' h=>by simp only [dL,Option.some.injEq] at h; subst h; exact ⟨hp,hl⟩,fun h=>by simp [dL] at h⟩
 | t::ts,m,c,hi,ht,hp,hl=>by
  have ht0:=ht t (by simp);have hi':=xH hi ht0.1 ht0.2;have rec1:=fun (m1:List (Int×aG))=>WG (size:=size) (g:=g) (last:=last) (ts:=ts) (m:=m1) (c:=iA t c) hi' (fun x hx=>ht x (by simp [hx]));simp only [dL,LG]
  cases hg:hY m t with
  | none =>
   have hk:t ∉ m.map (·.1):=PK.1 hg;have hk':t ∉ c:=fun h=>hk (hp.mem_iff.2 h);have hw:=NH hk';by_cases hf:m.length=1024
   ·have e:oF size g m t=none:=by unfold oF; rw [hg]; simp [hf]
    rw [e];refine⟨fun m' h=>(by simp at h),fun _=>?_⟩;have h1:=hw.length_eq;have h2:=hp.length_eq;have h3:=HR (ts:=ts) (c:=iA t c);simp only [List.length_map,List.length_cons] at h1 h2;omega
   ·have e:oF size g m t=some (fX m t (kQ g (mkW size t))):=by unfold oF; rw [hg]; simp [hf]
    rw [e]
    have hp':((fX m t (kQ g (mkW size t))).map (·.1)).Perm (iA t c):=by
     rw [ZL hk];exact (List.perm_append_comm.trans (List.Perm.cons _ hp)).trans hw.symm
    refine rec1 _ hp' ?_;have h1:=congrArg List.length (ZL (v:=kQ g (mkW size t)) hk);simp only [List.length_map,List.length_append,List.length_cons,List.length_nil] at h1;omega
  | some p =>
   have e:oF size g m t=some (fX m t (kQ g p)):=by unfold oF; rw [hg]
   rw [e]
   have hk:t∈m.map (·.1):=by
    refine Decidable.byContradiction fun h=>?_;rw [PK.2 h] at hg; cases hg
   have hw:iA t c=c:=IK hi (hp.mem_iff.1 hk);have hk2:=aAo (v:=kQ g p) hk;refine rec1 _ (by rw [hk2,hw]; exact hp) ?_;have h1:=congrArg List.length hk2;simp only [List.length_map] at h1;omega

theorem FM {size hop frm front:Int}(ok:OkH size hop frm front)(f:List aM):∀ t∈qX size hop frm front f,-1<t/\t<1125899906842624:=by
 intro t ht;obtain⟨s,_,hs⟩:=List.mem_flatMap.1 ht;have:=DV ok s t hs;omega

theorem XE {size hop frm front:Int}(ok:OkH size hop frm front):∀ {gs:List G1} {m:List (Int×aG)} {c:List Int},Inc (-1) c->(m.map (·.1)).Perm c->m.length<=1024 ->
  (∀ m',vQ size hop frm front gs m=some m'->(m'.map (·.1)).Perm (nD c (rT size hop frm front gs))/\m'.length<=1024)/\(vQ size hop frm front gs m=none->1024<(nD c (rT size hop frm front gs)).length)
 | [],m,c,_,hp,hl=>⟨fun m' h=>by simp only [vQ,dL,Option.some.injEq] at h; subst h; exact ⟨hp,hl⟩,fun h=>by simp [vQ,dL] at h⟩
 | g::gs,m,c,hi,hp,hl=>by
  obtain⟨k1,k2⟩:=WG (size:=size) (g:=g) hi (FM ok g.2) hp hl;have e:rT size hop frm front (g::gs)=qX size hop frm front g.2++rT size hop frm front gs:=rfl;rw [e,LX];simp only [vQ,dL]
  cases hs:dL (oF size g) m (qX size hop frm front g.2) with
  | none =>
   refine⟨fun m' h=>(by simp at h),fun _=>?_⟩;have:=k2 hs;have:=HR (ts:=rT size hop frm front gs) (c:=nD c (qX size hop frm front g.2));omega
  | some m1 =>
   obtain⟨p1,p2⟩:=k1 m1 hs;exact XE ok (gs:=gs) (m:=m1) (JT hi (FM ok g.2)) p1 p2

theorem ZJ {size:Int}{g:G1}(x:Int):∀ {ts:List Int} {m m':List (Int×aG)},dL (oF size g) m ts=some m'->hY m' x=if x∈ts then some (kQ g ((hY m x).getD (mkW size x))) else hY m x
 | [],m,m',h=>by simp only [dL,Option.some.injEq] at h; subst h; simp
 | t::ts,m,m',h=>by
  simp only [dL] at h;obtain⟨m1,h1,h2⟩:=aZ h
  have e:∃ p,m1=fX m t (kQ g p)/\p=(hY m t).getD (mkW size t):=by
   unfold oF at h1
   cases hg:hY m t with
   | none =>
    rw [hg] at h1;simp only at h1;split at h1
    ·cases h1
    ·cases h1; exact ⟨_,rfl,rfl⟩
   | some p=>rw [hg] at h1; cases h1; exact ⟨_,rfl,rfl⟩
  obtain⟨p,rfl,rfl⟩:=e;rw [ZJ x h2,PD];by_cases hx:x=t
  ·subst hx;simp only [if_true,List.mem_cons,true_or,Option.getD_some,aBN,ite_self]
  ·simp only [hx,if_false,List.mem_cons,false_or]

def GF (size hop frm front x:Int)(o:Option aG)(gs:List G1):Option aG :=
 gs.foldl (fun o g=>if x∈qX size hop frm front g.2 then some (kQ g (o.getD (mkW size x))) else o) o

theorem ZU {size hop frm front:Int}(x:Int):∀ {gs:List G1} {m m':List (Int×aG)},vQ size hop frm front gs m=some m'->hY m' x=GF size hop frm front x (hY m x) gs
 | [],m,m',h=>by simp only [vQ,dL,Option.some.injEq] at h; subst h; rfl
 | g::gs,m,m',h=>by
  simp only [vQ,dL] at h;obtain⟨m1,h1,h2⟩:=aZ h;have:=ZU x (gs:=gs) h2;rw [this,ZJ x h1];rfl

def zX (size hop frm front x:Int)(gs:List G1):List bA:=gs.filterMap fun g=>if x∈qX size hop frm front g.2 then some ⟨g.1,lB g.2 x (mX size x)⟩ else none

theorem NA {size hop frm front x:Int}:∀ {gs:List G1} {rs:List bA},KI gs->rs≠[]->(∀ g∈gs,(oU rs).Row≠g.1)->GF size hop frm front x (some ⟨⟨x,mX size x⟩,rs⟩) gs=some ⟨⟨x,mX size x⟩,rs++zX size hop frm front x gs⟩
 | [],rs,_,_,_=>by simp [GF,zX]
 | g::gs,rs,hs,hn,hl=>by
  have hs':=List.pairwise_cons.1 hs;have hg:=hl g (by simp);simp only [GF,List.foldl_cons,Option.getD_some];by_cases hx:x∈qX size hop frm front g.2
  ·rw [if_pos hx]
   have e:kQ g ⟨⟨x,mX size x⟩,rs⟩=⟨⟨x,mX size x⟩,rs++[⟨g.1,lB g.2 x (mX size x)⟩]⟩:=by
    unfold kQ;rw [if_pos (.inr hg)]
   rw [e]
   have:=NA (size:=size) (hop:=hop) (frm:=frm) (front:=front) (x:=x) (gs:=gs) (rs:=rs++[⟨g.1,lB g.2 x (mX size x)⟩]) hs'.2 (by simp) (fun q hq=>by
    rw [GB];intro h;have:=hs'.1 q hq;unfold ltG at this;rw [show g.1=q.1 from h] at this;exact xK this)
   unfold GF at this;rw [this];simp [zX,hx]
  ·rw [if_neg hx];have:=NA (size:=size) (hop:=hop) (frm:=frm) (front:=front) (x:=x) (gs:=gs) (rs:=rs) hs'.2 hn (fun q hq=>hl q (by simp [hq]));unfold GF at this;rw [this];simp [zX,hx]

theorem WH {size hop frm front x:Int}:∀ {gs:List G1},KI gs->GF size hop frm front x none gs=if zX size hop frm front x gs=[] then none else some ⟨⟨x,mX size x⟩,zX size hop frm front x gs⟩
 | [],_=>by simp [GF,zX]
 | g::gs,hs=>by
  have hs':=List.pairwise_cons.1 hs;simp only [GF,List.foldl_cons,Option.getD_none];by_cases hx:x∈qX size hop frm front g.2
  ·rw [if_pos hx]
   have e:kQ g (mkW size x)=⟨⟨x,mX size x⟩,[⟨g.1,lB g.2 x (mX size x)⟩]⟩:=by
    unfold kQ mkW;rw [if_pos (.inl rfl)]; rfl
   rw [e]
   have:=NA (size:=size) (hop:=hop) (frm:=frm) (front:=front) (x:=x) (gs:=gs) (rs:=[⟨g.1,lB g.2 x (mX size x)⟩]) hs'.2 (by simp) (fun q hq h=>by
    have h1:=hs'.1 q hq;unfold ltG at h1;have h2:g.1=q.1:=h;rw [h2] at h1;exact xK h1)
   unfold GF at this;rw [this];simp [zX,hx]
  ·rw [if_neg hx];have:=WH (size:=size) (hop:=hop) (frm:=frm) (front:=front) (x:=x) (gs:=gs) hs'.2;unfold GF at this;rw [this];have e:zX size hop frm front x (g::gs)=zX size hop frm front x gs:=by simp [zX,hx]
   rw [e]

theorem XH {size hop frm front:Int}(ok:OkH size hop frm front){f:List aM}(hf:gJ f=true)(hv:∀ t,0<=val f t){x:Int}:x∈qX size hop frm front f↔(0<=x/\(∃ k:Int,x=k*hop)/\frm<=x/\x<front/\x<1125899906842624)/\0<lB f x (mX size x):=by
 have hs0:=ok.s0;unfold qX;rw [List.mem_flatMap];constructor
 ·rintro ⟨s,h1,h2⟩;obtain⟨a1,a2,a3,a4,a5,a6,a7⟩:=(SP ok).1 h2;have hsp:=LR hf s h1;refine⟨⟨a1,a2,a3,a4,a5⟩,(SV hf hv (by unfold mX; omega)).2 ⟨max x s.From,by omega,by unfold mX; omega,?_⟩⟩;exact (UW hf hv (by omega)).1 ⟨s,h1,by omega,by omega⟩
 ·rintro ⟨⟨a1,a2,a3,a4,a5⟩,h⟩;obtain⟨y,y1,y2,y3⟩:=(SV hf hv (by unfold mX; omega)).1 h;unfold mX at y2;obtain⟨s,h1,h2,h3⟩:=(UW hf hv (by omega)).2 y3;exact⟨s,h1,(SP ok).2 ⟨a1,a2,a3,a4,a5,by omega,by omega⟩⟩

theorem filterMap_eq {α β:Type}{f h:α->Option β}:∀ {l:List α},(∀ a∈l,f a=h a)->l.filterMap f=l.filterMap h
 | [],_=>rfl
 | a::l,H=>by
  rw [List.filterMap_cons,List.filterMap_cons,H a (by simp),filterMap_eq fun b hb=>H b (by simp [hb])]

theorem aFv {size hop frm front x:Int}(ok:OkH size hop frm front)(hx:0<=x/\(∃ k:Int,x=k*hop)/\frm<=x/\x<front/\x<1125899906842624){gs:List G1}(hg:∀ g∈gs,gJ g.2=true /\ ∀ t,0<=val g.2 t):zX size hop frm front x gs=xO size x gs:=by
 unfold zX xO;refine filterMap_eq fun g h=>?_;have:=XH ok (hg g h).1 (hg g h).2 (x:=x);by_cases hb:0<lB g.2 x (mX size x)
 ·rw [if_pos (this.2 ⟨hx,hb⟩),if_pos hb]
 ·rw [if_neg (fun q=>hb (this.1 q).2),if_neg hb]

def aEU (size hop frm front:Int)(gs:List G1):List aG:=(LL size hop frm front gs).map fun t=>⟨⟨t,mX size t⟩,xO size t gs⟩

theorem aBV {size hop frm front x:Int}{gs:List G1}:x∈LL size hop frm front gs ↔ ∃ g∈gs,x∈qX size hop frm front g.2:=by
 have : LL size hop frm front gs=nD [] (rT size hop frm front gs):=rfl;rw [this,TO];simp [rT,List.mem_flatMap]

theorem aGn {size hop frm front:Int}(ok:OkH size hop frm front)(gs:List G1):Inc (-1) (LL size hop frm front gs):=by
 refine JT (ts:=rT size hop frm front gs) (c:=[]) trivial fun t ht=>?_;obtain⟨g,_,h⟩:=List.mem_flatMap.1 ht;exact FM ok g.2 t h

theorem aG0 {size hop frm front:Int}(ok:OkH size hop frm front){gs:List G1}(hs:KI gs)(hg:∀ g∈gs,gJ g.2=true /\ ∀ t,0<=val g.2 t) :
  (∀ m',vQ size hop frm front gs []=some m'->(LL size hop frm front gs).length<=1024/\(m'.map (·.1)).Perm (LL size hop frm front gs) /\ ∀ x∈LL size hop frm front gs,hY m' x=some ⟨⟨x,mX size x⟩,xO size x gs⟩) /\
  (vQ size hop frm front gs []=none->1024<(LL size hop frm front gs).length):=by
 obtain⟨k1,k2⟩:=XE ok (gs:=gs) (m:=[]) (c:=[]) trivial (List.Perm.refl _) (by simp);refine⟨fun m' h=>?_,k2⟩;obtain⟨p1,p2⟩:=k1 m' h;refine⟨?_,p1,fun x hx=>?_⟩
 ·have:=p1.length_eq;simp only [List.length_map] at this;show (nD [] (rT size hop frm front gs)).length<=1024;omega
 ·rw [ZU x h];obtain⟨g,hgm,hxg⟩:=aBV.1 hx;have hxx:=(XH ok (hg g hgm).1 (hg g hgm).2).1 hxg;have e:hY ([]:List (Int×aG)) x=none:=rfl;rw [e,WH hs,←aFv ok hxx.1 hg,if_neg];intro hc;have : (⟨g.1,lB g.2 x (mX size x)⟩:bA)∈zX size hop frm front x gs:=List.mem_filterMap.2 ⟨g,hgm,by rw [if_pos hxg]⟩;rw [hc] at this;simp at this

end Go.Abs
namespace Go.Abs
open Go
def ES (l:List aJ)(size hop frm front:Int):List aG×Int :=
 if !(tQ size hop&&iM l) then ([],2) else if !lC l then ([],20) else if !(kO frm&&kO front) then ([],13)
 else if 1024<(LL size hop frm front (groups l)).length then ([],7) else (aEU size hop frm front (groups l),0)

def aIa (n:Nat)(m:List (Int×aG)):Prop:=∀ t p,hY m t=some p->p.Rows.length<=n/\(p.Rows≠[]->(oU p.Rows).Row.length<=4398046510976)

theorem XI {size hop frm front:Int}(ok:OkH size hop frm front)(a:List aG)(b:Int):∀ (gs:List G1) (n:Nat) (m:List (Int×aG)),(∀ g∈gs,gJ g.2=true/\g.1.length<=4398046510976)->n+gs.length<=900000->aIa n m ->
  ∃ x,itG (fun st r f=>rnd (fun (q:List aG×Int×List (Int×aG))=>pH size hop frm front q.1 q.2.1 q.2.2 r f) st) gs (.inl (a,b,m))=some x/\(∀ m',vQ size hop frm front gs m=some m'->x=.inl (a,b,m'))/\(vQ size hop frm front gs m=none -> ∃ q,x=.inr ([],7,q))
 | [],n,m,_,_,_=>⟨_,rfl,fun m' h=>by simp only [vQ,dL,Option.some.injEq] at h; subst h; rfl,fun h=>by simp [vQ,dL] at h⟩
 | g::gs,n,m,hg,hn,hm=>by
  obtain⟨h1,h2⟩:=hg g (by simp);simp only [List.length_cons] at hn;obtain⟨y,e1,e2,e3⟩:=aFU ok (g:=g) h1 h2 (n:=n) (by omega) (m:=m) (fun t p h=>⟨.inl (hm t p h).1,(hm t p h).2⟩);simp only [itG,vQ,dL]
  cases hs:dL (oF size g) m (qX size hop frm front g.2) with
  | none =>
   have e4:=e3 hs;refine⟨.inr ([],7,y.2),?_,fun m' h=>(by simp at h),fun _=>⟨_,rfl⟩⟩
   have hb:pH size hop frm front a b m g.1 g.2=some (.inr ([],7,y.2)):=by
    unfold pH;rw [e1,Option.bind_some,e4]; rfl
   simp only [rnd,hb,Option.bind_some,Sum.isLeft_inr,Bool.false_eq_true,if_false]
  | some m1 =>
   obtain⟨rfl,hf⟩:=e2 m1 hs
   have hm1:aIa (n+1) m1:=fun t p h=>by
    obtain⟨q1,q2⟩:=hf t p h;refine⟨?_,q2⟩;rcases q1 with q | ⟨_,_,q⟩ <;> omega
   obtain⟨x,f1,f2,f3⟩:=XI ok a b gs (n+1) m1 (fun q hq=>hg q (by simp [hq])) (by omega) hm1;refine⟨x,?_,f2,f3⟩
   have hb:pH size hop frm front a b m g.1 g.2=some (.inl (a,b,m1)):=by
    unfold pH;rw [e1,Option.bind_some]; rfl
   simp only [rnd,hb,Option.bind_some,Sum.isLeft_inl,if_true];exact f1

theorem UZ:∀ (q s:List Int),s.length+q.length<=100000->dL wH s q=some (s++q)
 | [],s,_=>by simp [dL]
 | t::q,s,h=>by
  simp only [List.length_cons] at h
  have e:wH s t=some (s++[t]):=by
   unfold wH;rw [aO (by simp only [List.length_cons,List.length_nil]; omega)]
  simp only [dL,e,Option.bind_some];rw [UZ q (s++[t]) (by simp; omega)];simp

theorem aI1 {m:List (Int×aG)}{B:List Int}{mk:Int->aG}(hp:(m.map (·.1)).Perm B)(hs:B.Pairwise (· <= ·))(hl:B.length<=1024)(hg:∀ x∈B,hY m x=some (mk x)):AW m=some (B.map mk,0):=by
 have hml:m.length=B.length:=by simpa using hp.length_eq
 unfold AW;rw [aO (by simp only [lN]; omega)];refine PM fun q hq=>?_;have hqB:q.Perm B:=hq.trans hp;have hql:=hqB.length_eq;rw [UZ q [] (by simp only [List.length_nil]; omega),Option.bind_some,List.nil_append];unfold JI;rw [aDS (by omega) hqB.symm hs,Option.bind_some,aO (by simp only [lN]; omega)]
 have key:=jY (l:=B) (body:=fun s:List aG×Int=>xB m B (lN B) s.1 s.2) (fun (s:List aG) i=>(s,i)) (fun s r=>s++r.map mk)
  (fun s r=>s.length+r.length<=100000 /\ ∀ x∈r,x∈B) [] ?_ ?_ ⟨by simp only [List.length_nil]; omega,fun x hx=>hx⟩
 ·rw [key];simp
 ·rintro i x r s hx ⟨h1,h2⟩;left;simp only [List.length_cons] at h1;obtain⟨d1,d2,d3,d4⟩:=idx hx (by omega);refine⟨s++[mk x],?_,⟨by simp; omega,fun y hy=>h2 y (by simp [hy])⟩,by simp⟩;simp only [xB,lN,gD,wR,d1,cond_true,aO d2,d3,d4,hg x (h2 x (by simp))];rw [aO (by simp only [List.length_cons,List.length_nil]; omega)]
 ·rintro s _;simp only [xB,lN,eP,cond_false];simp

theorem aCP {l:List aJ}(hl:okL l)(size hop frm front:Int):DH l size hop frm front=some (ES l size hop frm front):=by
 unfold DH ES;simp only [EP,yC,Option.bind_some];rw [show ((((decide ((1:Int)<=size))&&(decide (size<=(1099511627776:Int))))&&(decide ((1:Int)<=hop)))&&(decide (hop<=(1099511627776:Int))))=tQ size hop from rfl,show ((decide ((0:Int)<=frm))&&(decide (frm<=(1125899906842624:Int))))=kO frm from rfl,show ((decide ((0:Int)<=front))&&(decide (front<=(1125899906842624:Int))))=kO front from rfl];rw [ME hl,LH hl]
 cases hm:tQ size hop with
 | false=>rfl
 | true =>
  cases he:iM l with
  | false=>rfl
  | true =>
   simp only [Bool.not_true,Bool.not_false,cW,cond_true,Option.bind_some,Bool.or_self,cond_false,Bool.and_self,Bool.false_eq_true,if_false]
   cases ht:lC l with
   | false=>rfl
   | true =>
    simp only [Bool.not_true,cond_false,Bool.false_eq_true,if_false]
    cases h1:kO frm with
    | false=>rfl
    | true =>
     cases h2:kO front with
     | false=>rfl
     | true =>
      simp only [Bool.not_true,Bool.not_false,cond_true,Option.bind_some,Bool.or_self,cond_false,Bool.and_self,Bool.false_eq_true,if_false];have ok:=VH hm h1 h2;obtain⟨e1,e2,e3⟩:=lK he;have hn:=EY l
      have hv:∀ g∈groups l,gJ g.2=true /\ ∀ t,0<=val g.2 t:=fun g hg=>by
       refine⟨(e2 g hg).2,fun t=>?_⟩;have:=(IJ.1 ht).2 g.1 t
       rwa [←CH e3,OM e3 hg] at this
      have hrow:∀ g∈groups l,gJ g.2=true/\g.1.length<=4398046510976:=fun g hg=>⟨(e2 g hg).2,YY hl hg⟩;unfold JG;simp only [uF,Option.bind_some];obtain⟨x,f1,f2,f3⟩:=XI ok [] 0 (groups l) 0 [] hrow (by omega) (fun t p h=>by simp [hY] at h);rw [VC hl (s':=x) (by rw [he]; exact f1),Option.bind_some];obtain⟨k1,k2⟩:=aG0 ok e3 hv
      cases hs:vQ size hop frm front (groups l) [] with
      | none =>
       obtain⟨q,rfl⟩:=f3 hs;rw [if_pos (k2 hs)]; rfl
      | some m1 =>
       obtain rfl:=f2 m1 hs;obtain⟨p1,p2,p3⟩:=k1 m1 hs;rw [if_neg (by omega)];simp only [Sum.elim_inl];exact aI1 p2 (XM (aGn ok _)) p1 p3

end Go.Abs
namespace Go.Abs
open Go
theorem aDQ:∀ {a b:List Int},a.Nodup->(∀ x∈a,x∈b)->a.length<=b.length
 | [],_,_,_=>Nat.zero_le _
 | x::a,b,hn,h=>by
  have hn':=List.nodup_cons.1 hn;have hx:=h x (by simp);have:=aDQ (a:=a) (b:=b.erase x) hn'.2 fun y hy=>(List.mem_erase_of_ne (fun e=>hn'.1 (by rw [←e]; exact hy))).2 (h y (by simp [hy]));rw [List.length_erase_of_mem hx] at this;have:=List.length_pos_of_mem hx;simp only [List.length_cons]; omega

theorem aF7 {c ts:List Int}(hr:ts.Pairwise (· < ·)):ts.length<=(nD c ts).length :=
 aDQ (hr.imp fun h=>by omega) fun x hx=>TO.2 (.inl hx)

def uO (size hop frm front:Int)(c:List Int)(s:aU):Option (List Int) :=
 if 1024<(eE size hop frm front s).length∨1024<(nD c (eE size hop frm front s)).length then none else some (nD c (eE size hop frm front s))

theorem GP {size hop frm front:Int}(ok:OkH size hop frm front):∀ {ss:List aU} {c:List Int},Inc (-1) c ->
  (∀ c',dL (uO size hop frm front) c ss=some c'->c'=nD c (ss.flatMap (eE size hop frm front))/\Inc (-1) c'/\(c.length<=1024->c'.length<=1024))/\(dL (uO size hop frm front) c ss=none->1024<(nD c (ss.flatMap (eE size hop frm front))).length)
 | [],c,hi=>⟨fun c' h=>by simp only [dL,Option.some.injEq] at h; subst h; exact ⟨rfl,hi,id⟩,fun h=>by simp [dL] at h⟩
 | s::ss,c,hi=>by
  have hb:∀ t∈eE size hop frm front s,-1<t/\t<1125899906842624:=fun t ht=>by have:=DV ok s t ht; omega
  have hi':=JT hi hb;simp only [dL,List.flatMap_cons,LX];by_cases h:1024<(eE size hop frm front s).length∨1024<(nD c (eE size hop frm front s)).length
  ·have e:uO size hop frm front c s=none:=by unfold uO; rw [if_pos h]
   rw [e];refine⟨fun c' h=>(by simp at h),fun _=>?_⟩;have h1:=aF7 (c:=c) (aCl ok s);have h2:=HR (ts:=ss.flatMap (eE size hop frm front)) (c:=nD c (eE size hop frm front s));omega
  ·have e:uO size hop frm front c s=some (nD c (eE size hop frm front s)):=by unfold uO; rw [if_neg h]
   rw [e];obtain⟨k1,k2⟩:=GP ok (ss:=ss) hi';refine⟨fun c' hc=>?_,k2⟩;obtain⟨q1,q2,q3⟩:=k1 c' hc;exact⟨q1,q2,fun _=>q3 (by omega)⟩

def GW (size hop frm front:Int)(c:List Int)(gs:List G1):Option (List Int):=dL (fun c g=>dL (uO size hop frm front) c (pI g.2)) c gs

theorem OW {size hop frm front:Int}(ok:OkH size hop frm front):∀ {gs:List G1} {c:List Int},Inc (-1) c ->
  (∀ c',GW size hop frm front c gs=some c'->c'=nD c (rT size hop frm front gs)/\(c.length<=1024->c'.length<=1024))/\(GW size hop frm front c gs=none->1024<(nD c (rT size hop frm front gs)).length)
 | [],c,hi=>⟨fun c' h=>by simp only [GW,dL,Option.some.injEq] at h; subst h; exact ⟨rfl,id⟩,fun h=>by simp [GW,dL] at h⟩
 | g::gs,c,hi=>by
  obtain⟨k1,k2⟩:=GP ok (ss:=pI g.2) hi;have e:rT size hop frm front (g::gs)=(pI g.2).flatMap (eE size hop frm front)++rT size hop frm front gs:=rfl;rw [e,LX];simp only [GW,dL]
  cases hs:dL (uO size hop frm front) c (pI g.2) with
  | none =>
   refine⟨fun c' h=>(by simp at h),fun _=>?_⟩;have h1:=k2 hs;have h2:=HR (ts:=rT size hop frm front gs) (c:=nD c ((pI g.2).flatMap (eE size hop frm front)));omega
  | some c1 =>
   obtain⟨rfl,q2,q3⟩:=k1 c1 hs;obtain⟨r1,r2⟩:=OW ok (gs:=gs) q2;refine⟨fun c' hc=>?_,r2⟩;obtain⟨s1,s2⟩:=r1 c' hc;exact⟨s1,fun h=>s2 (q3 h)⟩

def QM:Option (List Int)->List Int⊕(List aG×Int)
 | some c=>.inl c
 | none=>.inr ([],7)

theorem aB6 {l0:List aJ}{size hop frm front:Int}{rows:List (List aH)}{i14:Int}{s15:List aU}{k16:Int}{ts c:List Int}(hi:Inc (-1) c)(ht:∀ t∈ts,-1<t/\t<1125899906842624)(hl:c.length+ts.length<=100000) :
  lp (fun s:List Int×Int=>rG l0 size hop frm front rows i14 s15 k16 ts s.1 s.2) (c,0)=some (nD c ts):=by
 refine jY (l:=ts) (fun (c:List Int) i=>(c,i)) (fun c r=>nD c r) (fun c r=>Inc (-1) c/\c.length+r.length<=100000 /\ ∀ t∈r,-1<t/\t<1125899906842624) c ?_ ?_ ⟨hi,hl,ht⟩
 ·rintro i t r c hx ⟨h1,h2,h3⟩;left;simp only [List.length_cons] at h2;have hil:i<ts.length:=(List.getElem?_eq_some_iff.1 hx).1;obtain⟨d1,d2,d3,d4⟩:=idx hx (by omega);have h4:=h3 t (by simp);have h5:=ER (t:=t) (ps:=c);refine⟨iA t c,?_,⟨xH h1 h4.1 h4.2,by omega,fun x hx=>h3 x (by simp [hx])⟩,rfl⟩;simp only [rG,d1,cond_true,aO d2,d3,d4];rw [XP h1 (by omega)]; rfl
 ·rintro c ⟨h1,_,_⟩;simp only [rG,eP,cond_false];rfl

theorem aB8 {l0:List aJ}{size hop frm front:Int}(hm:tQ size hop=true)(ht1:kO frm=true)(ht2:kO front=true){rows:List (List aH)}{i14:Int}{ss:List aU}(hss:∀ s∈ss,-1<=s.From/\s.From<s.To/\s.To<=1125899906842624)(hn:ss.length<=100000){c:List Int}(hi:Inc (-1) c)(hl:c.length<=1024) :
  lp (fun s:List Int×Int=>pK l0 size hop frm front rows i14 ss s.1 s.2) (c,0)=some (QM (dL (uO size hop frm front) c ss)):=by
 have ok:=VH hm ht1 ht2;refine jY (l:=ss) (fun (c:List Int) i=>(c,i)) (fun c r=>QM (dL (uO size hop frm front) c r)) (fun c r=>Inc (-1) c/\c.length<=1024 /\ ∀ s∈r,-1<=s.From/\s.From<s.To/\s.To<=1125899906842624) c ?_ ?_ ⟨hi,hl,hss⟩
 ·rintro i s r c hx ⟨h1,h2,h3⟩;have hil:i<ss.length:=(List.getElem?_eq_some_iff.1 hx).1;obtain⟨d1,d2,d3,d4⟩:=idx hx (by omega);have hsp:=h3 s (by simp);have hb:∀ t∈eE size hop frm front s,-1<t/\t<1125899906842624:=fun t ht=>by have:=DV ok s t ht; omega
  have hst:sL size hop s frm front=some (if 1024<(eE size hop frm front s).length then ([],7) else (eE size hop frm front s,0)):=by
   rw [aB1];unfold UH;rw [hm,ht1,ht2];simp only [Bool.not_true,Bool.and_self,Bool.false_eq_true,if_false];rw [if_neg (by omega)]
  have body:pK l0 size hop frm front rows i14 ss c (i:Int)=some (if 1024<(eE size hop frm front s).length∨1024<(nD c (eE size hop frm front s)).length then .inr (.inr ([],7)) else .inl (nD c (eE size hop frm front s),((i+1:Nat):Int))):=by
   simp only [pK,d1,cond_true,aO d2,d3];rw [hst,Option.bind_some];by_cases hq:1024<(eE size hop frm front s).length
   ·rw [if_pos hq,if_pos (.inl hq)];rfl
   ·rw [if_neg hq];simp only [decide_true,Bool.not_true,cond_false];unfold AF;rw [aB6 h1 hb (by omega),Option.bind_some];unfold uN AG;by_cases hc:1024<(nD c (eE size hop frm front s)).length
    ·rw [if_pos (.inr hc),decide_eq_true (by omega),cond_true]
    ·rw [if_neg (by omega),decide_eq_false (by omega),cond_false,d4]
  by_cases hq:1024<(eE size hop frm front s).length∨1024<(nD c (eE size hop frm front s)).length
  ·right;have e:uO size hop frm front c s=none:=by unfold uO; rw [if_pos hq]
   rw [if_pos hq] at body;simp only [dL,e];exact body
  ·left;have e:uO size hop frm front c s=some (nD c (eE size hop frm front s)):=by unfold uO; rw [if_neg hq]
   rw [if_neg hq] at body;refine⟨_,body,⟨JT h1 hb,by omega,fun x hx=>h3 x (by simp [hx])⟩,?_⟩;simp only [dL,e,Option.bind_some]
 ·rintro c ⟨h1,_,_⟩;simp only [pK,eP,cond_false,dL,QM]

theorem aCD {l0:List aJ}(hl0:okL l0)(hn0:l0.length<=1099511627776){size hop frm front:Int}(hm:tQ size hop=true)(ht1:kO frm=true)(ht2:kO front=true){rows:List (List aH)}(hn:rows.length<=100000)(hj:∀ r,gJ (dK l0 r)=true){c:List Int}(hi:Inc (-1) c)(hl:c.length<=1024) :
  lp (fun s:List Int×Int=>qI l0 size hop frm front rows s.1 s.2) (c,0)=some (QM (GW size hop frm front c (rows.map fun r=>(r,dK l0 r)))):=by
 have ok:=VH hm ht1 ht2;refine jY (l:=rows) (fun (c:List Int) i=>(c,i)) (fun c r=>QM (GW size hop frm front c (r.map fun r=>(r,dK l0 r)))) (fun c _=>Inc (-1) c/\c.length<=1024) c ?_ ?_ ⟨hi,hl⟩
 ·rintro i a r c hx ⟨h1,h2⟩;have hil:i<rows.length:=(List.getElem?_eq_some_iff.1 hx).1;obtain⟨d1,d2,d3,d4⟩:=idx hx (by omega);have hlen:=OA (f:=dK l0 a) (n:=0) (fr:=0);have hjl:=(mQ.1 (hj a)).1
  have body:qI l0 size hop frm front rows c (i:Int)=some (match dL (uO size hop frm front) c (pI (dK l0 a)) with | some c'=>.inl (c',((i+1:Nat):Int)) | none=>.inr (.inr ([],7))):=by
   simp only [qI,d1,cond_true,aO d2,d3];rw [sG hl0 hn0,Option.bind_some,aAI (hj a),Option.bind_some];unfold AL;rw [aB8 hm ht1 ht2 (LR (hj a)) (by unfold pI; omega) h1 h2,Option.bind_some]
   cases dL (uO size hop frm front) c (pI (dK l0 a)) with
   | none=>rfl
   | some c'=>simp only [QM,Sum.elim_inl,wP,d4]
  simp only [List.map_cons,GW,dL]
  cases hs:dL (uO size hop frm front) c (pI (dK l0 a)) with
  | none =>
   right;rw [hs] at body;exact body
  | some c' =>
   left;rw [hs] at body;obtain⟨k1,_⟩:=GP ok (ss:=pI (dK l0 a)) h1;obtain⟨_,q2,q3⟩:=k1 c' hs;exact⟨c',body,⟨q2,q3 h2⟩,rfl⟩
 ·rintro c _;simp only [qI,eP,cond_false,List.map_nil,GW,dL,QM]

theorem aEo (size t:Int)(g:G1)(gs:List G1):xO size t (g::gs)=(if 0<lB g.2 t (mX size t) then [⟨g.1,lB g.2 t (mX size t)⟩] else [])++xO size t gs:=by
 unfold xO;by_cases h:0<lB g.2 t (mX size t) <;> simp [h]

theorem aCO {l0:List aJ}(hl0:okL l0)(hn0:l0.length<=1099511627776){size:Int}{begins:List Int}{rows:List (List aH)}(hn:rows.length<=100000)(hj:∀ r,gJ (dK l0 r)=true){k21:Int}{out:List aG}{t:Int} :
  lp (fun s:List aG×aG×Int=>oP l0 size begins rows k21 s.1 s.2.1 s.2.2) (out,⟨⟨t,mX size t⟩,[]⟩,0)=some (out,⟨⟨t,mX size t⟩,xO size t (rows.map fun r=>(r,dK l0 r))⟩):=by
 have key:=jY (l:=rows) (body:=fun s:List aG×aG×Int=>oP l0 size begins rows k21 s.1 s.2.1 s.2.2) (fun (rs:List bA) i=>(out,⟨⟨t,mX size t⟩,rs⟩,i)) (fun rs r=>(out,⟨⟨t,mX size t⟩,rs++xO size t (r.map fun r=>(r,dK l0 r))⟩)) (fun rs r=>rs.length+r.length<=100000) [] ?_ ?_ (by simpa using hn)
 ·rw [key]; rfl
 ·rintro i a r rs hx h1;left;simp only [List.length_cons] at h1;have hil:i<rows.length:=(List.getElem?_eq_some_iff.1 hx).1;obtain⟨d1,d2,d3,d4⟩:=idx hx (by omega);simp only [List.map_cons,aEo];by_cases hb:0<lB (dK l0 a) t (mX size t)
  ·refine⟨rs++[⟨a,lB (dK l0 a) t (mX size t)⟩],?_,by simp; omega,by simp [hb]⟩;simp only [oP,d1,cond_true,aO d2,d3];rw [sG hl0 hn0,Option.bind_some,ON (hj a),Option.bind_some,decide_eq_true hb,cond_true,aO (by simp only [List.length_cons,List.length_nil]; omega)];simp only [sQ,d4]
  ·refine⟨rs,?_,by omega,by simp [hb]⟩;simp only [oP,d1,cond_true,aO d2,d3];rw [sG hl0 hn0,Option.bind_some,ON (hj a),Option.bind_some,decide_eq_false hb,cond_false];simp only [sQ,d4]
 ·rintro rs _;simp only [oP,eP,cond_false];simp [xO]

theorem aCm {l0:List aJ}(hl0:okL l0)(hn0:l0.length<=1099511627776){size:Int}(hs0:0<=size)(hs1:size<=1099511627776){begins:List Int}(hb:∀ t∈begins,0<=t/\t<1125899906842624)(hbl:begins.length<=100000){rows:List (List aH)}(hn:rows.length<=100000)(hj:∀ r,gJ (dK l0 r)=true) :
  lp (fun s:List aG×Int=>qK l0 size begins rows s.1 s.2) ([],0)=some (begins.map fun t=>⟨⟨t,mX size t⟩,xO size t (rows.map fun r=>(r,dK l0 r))⟩):=by
 have key:=jY (l:=begins) (body:=fun s:List aG×Int=>qK l0 size begins rows s.1 s.2) (fun (out:List aG) i=>(out,i)) (fun out r=>out++r.map fun t=>⟨⟨t,mX size t⟩,xO size t (rows.map fun r=>(r,dK l0 r))⟩) (fun out r=>out.length+r.length<=100000 /\ ∀ t∈r,0<=t/\t<1125899906842624) [] ?_ ?_ ⟨by simpa using hbl,hb⟩
 ·rw [key]; simp
 ·rintro i t r out hx ⟨h1,h2⟩;left;simp only [List.length_cons] at h1;have hil:i<begins.length:=(List.getElem?_eq_some_iff.1 hx).1;obtain⟨d1,d2,d3,d4⟩:=idx hx (by omega);have ht:=h2 t (by simp);refine⟨out++[⟨⟨t,mX size t⟩,xO size t (rows.map fun r=>(r,dK l0 r))⟩],?_,⟨by simp; omega,fun x hx=>h2 x (by simp [hx])⟩,by simp⟩;simp only [qK,d1,cond_true,aO d2,d3];rw [RC ht.1 (by omega) hs0 hs1,Option.bind_some];unfold BR;rw [show min (t+size) 1125899906842624=mX size t from rfl,aCO hl0 hn0 hn hj,Option.bind_some];unfold wA;rw [aO (by simp only [List.length_cons,List.length_nil]; omega)];simp only [BK,d4]
 ·rintro out _;simp only [qK,eP,cond_false];simp

theorem YF {l:List aJ}(hl:okL l)(size hop frm front:Int):zC l size hop frm front=some (ES l size hop frm front):=by
 unfold zC ES;rw [SX,show iU frm=some (kO frm) from rfl,show iU front=some (kO front) from rfl,FY hl,EX hl];simp only [Option.bind_some]
 cases hm:tQ size hop with
 | false=>rfl
 | true =>
  cases he:iM l with
  | false=>rfl
  | true =>
   simp only [Bool.not_true,Bool.not_false,cW,cond_true,Option.bind_some,Bool.or_self,cond_false,Bool.and_self,Bool.false_eq_true,if_false]
   cases ht:lC l with
   | false=>rfl
   | true =>
    simp only [Bool.not_true,cond_false,Bool.false_eq_true,if_false]
    cases h1:kO frm with
    | false=>rfl
    | true =>
     cases h2:kO front with
     | false=>rfl
     | true =>
      simp only [Bool.not_true,Bool.not_false,cond_true,Option.bind_some,Bool.or_self,cond_false,Bool.and_self,Bool.false_eq_true,if_false];have ok:=VH hm h1 h2;have hn:=(lK he).1
      have hr:(rowsOf l).length<=4096:=by
       have q1:(PG l).length=(rowsOf l).length:=by simp [PG]
       have q2:=EY l;rw [zI he] at q1;omega
      have hgs:(rowsOf l).map (fun r=>(r,dK l r))=groups l:=zI he;rw [FV hl (fun e h=>(pG he h).1) (by omega),Option.bind_some];unfold CL;rw [aCD hl (by omega) hm h1 h2 (by omega) (sB he) (c:=[]) trivial (by simp),Option.bind_some,hgs];obtain⟨k1,k2⟩:=OW ok (gs:=groups l) (c:=[]) trivial;have hB:LL size hop frm front (groups l)=nD [] (rT size hop frm front (groups l)):=rfl
      cases hs:GW size hop frm front [] (groups l) with
      | none =>
       have:=k2 hs;rw [if_pos (by rw [hB]; exact this)];rfl
      | some c' =>
       obtain⟨e1,e2⟩:=k1 c' hs;have e3:=e2 (by simp);rw [←hB] at e1;subst e1;rw [if_neg (by omega)];simp only [QM,Sum.elim_inl,wE,CI];rw [aCm hl (by omega) (by have:=ok.s0; omega) ok.s1 (fun t ht=>?_) (by omega) (by omega) (sB he),Option.bind_some,hgs]
       ·rfl
       ·obtain⟨g,_,hg⟩:=aBV.1 ht;have:=FM ok g.2 t hg;omega

end Go.Abs
namespace Go.Abs
open Go
def l28:List aJ:=[⟨[aAY],3,1⟩,⟨[aAY],7,-1⟩]

theorem aFA:okL l28:=⟨by decide,by decide⟩

theorem aF6 {gs:List G1}(hg:∀ g∈gs,gJ g.2=true/\g.1.length<=4398046510976)(hn:gs.length<=1000000)(size t:Int):okC (xO size t gs):=by
 refine⟨by have : (xO size t gs).length<=gs.length:=List.length_filterMap_le ..; omega,fun c hc=>?_⟩;obtain⟨g,h1,h2⟩:=List.mem_filterMap.1 hc;split at h2
 ·simp only [Option.some.injEq] at h2; subst h2;have:=(hg g h1).2; simp only; omega
 ·cases h2

theorem aCV {l:List aJ}(hl:okL l)(size hop frm front:Int):(ES l size hop frm front).1.length<=1024 /\ ∀ p∈(ES l size hop frm front).1,okC p.Rows:=by
 unfold ES
 cases hm:tQ size hop&&iM l with
 | false=>simp
 | true =>
  have he:iM l=true:=(Bool.and_eq_true .. |>.mp hm).2;obtain⟨g1,g2⟩:=IS hl he;simp only [Bool.not_true,Bool.false_eq_true,if_false];split
  ·simp
  ·split
   ·simp
   ·split
    ·simp
    ·rename_i h
     refine⟨by simp only [aEU,List.length_map]; omega,fun p hp=>?_⟩;obtain⟨t,_,rfl⟩:=List.mem_map.1 hp;exact aF6 g1 (by omega) _ _

end Go.Abs
namespace Go.Abs
open Go
theorem aIl {l:List aJ}(m:∀ a∈l,CU a)(y:List.length l*40<=140737488351232):okL l :=
 ⟨by omega,fun e he=>by have:=(m e he).1.2; omega⟩

end Go.Abs
namespace Go.Abs
open Go
def DR (w:cC):Bool :=
 if w.Kind=1 then decide (w.Size=0)&&decide (w.Hop=0) else if w.Kind=2 then tQ w.Size w.Hop
 else if w.Kind=3 then (decide (1<=w.Size)&&decide (w.Size<=64))&&decide (w.Hop=0) else false

def sR (w:cC)(l:List aJ)(t:Int):Int:=if !DR w || !iM l then 2 else if !lC l then 20 else if !kO t then 13 else 0

theorem MQ (w:cC):sW w=some (if DR w then 0 else 2):=by
 unfold sW DR;by_cases h1:w.Kind=1
 ·rw [decide_eq_true h1,cond_true,if_pos h1];unfold mH
  cases decide (w.Size=0)&&decide (w.Hop=0) <;> rfl
 ·by_cases h2:w.Kind=2
  ·rw [decide_eq_false h1,cond_false,decide_eq_true h2,cond_true,if_neg h1,if_pos h2];unfold tJ mH tQ
   cases decide (1<=w.Size) <;> cases decide (w.Size<=1099511627776) <;> cases decide (1<=w.Hop) <;> cases decide (w.Hop<=1099511627776) <;> rfl
  ·rw [decide_eq_false h1,cond_false,decide_eq_false h2,cond_false,if_neg h1,if_neg h2];by_cases h3:w.Kind=3
   ·rw [decide_eq_true h3,cond_true,if_pos h3];unfold mH
    cases (decide (1<=w.Size)&&decide (w.Size<=64))&&decide (w.Hop=0) <;> rfl
   ·rw [decide_eq_false h3,cond_false,if_neg h3];rfl

theorem MC {l:List aJ}(hl:okL l)(w:cC)(t:Int):sP w l t=some (sR w l t):=by
 unfold sP sR;rw [MQ,Option.bind_some]
 cases hk:DR w with
 | false=>rfl
 | true =>
  simp only [if_true,decide_true,Bool.not_true,Bool.not_false,Bool.false_or,cW,cond_true,ME hl,Option.bind_some,LH hl]
  cases iM l with
  | false=>rfl
  | true =>
   cases lC l with
   | false=>rfl
   | true =>
    simp only [Bool.not_true,cond_false,Bool.false_eq_true,if_false];unfold kO;by_cases h1:t<0
    ·have h2:¬ (0:Int)<=t:=by omega
     simp [h1,h2]
    ·have h2:(0:Int)<=t:=by omega
     by_cases h3:(1125899906842624:Int)<t
     ·have h4:¬ t<=(1125899906842624:Int):=by omega
      simp [h2,h3,h4]
     ·have h4:t<=(1125899906842624:Int):=by omega
      simp [h1,h2,h3,h4]

theorem NQ {w:cC}{l:List aJ}{t:Int}(h:sR w l t=0):DR w=true/\iM l=true/\lC l=true/\0<=t/\t<=1125899906842624:=by
 unfold sR at h
 cases h1:DR w <;> cases h2:iM l <;> cases h3:lC l <;> cases h4:kO t <;> simp [h1,h2,h3,h4] at h
 exact⟨rfl,rfl,rfl,IQ h4⟩

theorem aIY {w:cC}(h:DR w=true)(h2:w.Kind=2):tQ w.Size w.Hop=true:=by
 unfold DR at h;rw [if_neg (by omega),if_pos h2] at h; exact h

def aBa (w:cC)(l:List aJ)(t:Int):Int×Int :=
 if sR w l t≠0 then (0,sR w l t) else if w.Kind=2 then (min (VY w.Size w.Hop t).1 t,0) else if w.Kind=3 then aD6 l w.Size t else (t,0)

theorem aGf {size hop t:Int}(hm:tQ size hop=true)(h0:0<=t)(h1:t<=1125899906842624):VY size hop t=(if t=1125899906842624 then 1125899906842624 else min (jW hop (t-size)) 1125899906842624,0):=by
 unfold VY;have : kO t=true:=by unfold kO; simp [h0,h1]
 rw [hm,this];simp only [Bool.not_true,Bool.false_eq_true,if_false];split <;> rfl

theorem XT {l:List aJ}(hl:okL l)(w:cC)(t:Int):wI w l t=some (aBa w l t):=by
 unfold wI aBa;rw [MC hl,Option.bind_some];by_cases hc:sR w l t=0
 ·obtain⟨hk,_,_,t0,t1⟩:=NQ hc;rw [if_neg (by simpa using hc),hc,decide_eq_true rfl,Bool.not_true,cond_false];by_cases h2:w.Kind=2
  ·rw [decide_eq_true h2,cond_true,if_pos h2,aHU,Option.bind_some,aGf (aIY hk h2) t0 t1];simp only [Int.min_def]
   congr 2
   split <;> split <;> (try split) <;> omega
  ·rw [decide_eq_false h2,cond_false,if_neg h2];by_cases h3:w.Kind=3
   ·rw [decide_eq_true h3,cond_true,if_pos h3,aAD hl,Option.bind_some]
   ·rw [decide_eq_false h3,cond_false,if_neg h3]
 ·rw [if_pos hc,decide_eq_false hc]; rfl

def KG (t:Int)(e:aJ):Int:=if 0<e.Net then max t (e.At+1) else t

def XC (l:List aJ)(t:Int):Int:=l.foldl KG t

theorem front_eq {l:List aJ}(hn:l.length<=1000000)(ha:∀ e∈l,-1<=e.At/\e.At<1125899906842624)(t:Int):wN l t=some (XC l t):=by
 unfold wN AH;have:=jY (l:=l) (body:=fun s:Int×Int=>rH l ((l.length:Nat):Int) s.1 s.2) (fun (s:Int) i=>(s,i)) (fun s r=>r.foldl KG s) (fun _ r=>∀ e∈r,-1<=e.At/\e.At<1125899906842624) t ?_ ?_ ha
 ·rw [this]; rfl
 ·intro i e r s he hI;left;have hb:=hI e (by simp);refine⟨KG s e,?_,fun q hq=>hI q (by simp [hq]),rfl⟩;obtain⟨d1,d2,d3,d4⟩:=idx he (by omega);have w1:IntKind.i64.wrap (e.At+1)=e.At+1:=cO (by omega) (by omega);simp only [rH,uS,d1,cond_true,aO d2,d3,d4,w1];unfold KG;by_cases h:0<e.Net
  ·rw [decide_eq_true h,cond_true,if_pos h]
   congr 3
   rw [Int.max_def]; split <;> split <;> omega
  ·rw [decide_eq_false h,cond_false,if_neg h]
 ·intro s _;simp only [rH,eP,cond_false]; simp

def EZ (w:cC)(l:List aJ)(frm t:Int):List aG×Int :=
 if sR w l t≠0 then ([],sR w l t) else if w.Kind=2 then ES l w.Size w.Hop frm (XC l t) else if w.Kind=3 then HG l w.Size frm else HK l frm

theorem aDU {l:List aJ}(hm:iM l=true):l.length<=1000000 /\ ∀ e∈l,-1<=e.At/\e.At<1125899906842624:=by
 have:=(lK hm).1;exact⟨by omega,fun e he=>⟨by have:=(pG hm he).2.1; omega,(pG hm he).2.2.1⟩⟩

theorem MP {l:List aJ}(hl:okL l)(w:cC)(frm t:Int):sO w l frm t=some (EZ w l frm t):=by
 unfold sO EZ;rw [MC hl,Option.bind_some];by_cases hc:sR w l t=0
 ·obtain⟨hk,hm,_,t0,t1⟩:=NQ hc;obtain⟨a1,a2⟩:=aDU hm;rw [if_neg (by simpa using hc),hc,decide_eq_true rfl,Bool.not_true,cond_false];by_cases h2:w.Kind=2
  ·rw [decide_eq_true h2,cond_true,if_pos h2,front_eq a1 a2,Option.bind_some,aCP hl,Option.bind_some]
  ·rw [decide_eq_false h2,cond_false,if_neg h2];by_cases h3:w.Kind=3
   ·rw [decide_eq_true h3,cond_true,if_pos h3,YL hl,Option.bind_some]
   ·rw [decide_eq_false h3,cond_false,if_neg h3,aCd hl,Option.bind_some]
 ·rw [if_pos hc,decide_eq_false hc]; rfl

theorem aD4 {l:List aJ}(hl:okL l)(w:cC)(frm t:Int):(EZ w l frm t).1.length<=4097 /\ ∀ p∈(EZ w l frm t).1,okC p.Rows:=by
 unfold EZ;split
 ·simp
 ·split
  ·have:=aCV hl w.Size w.Hop frm (XC l t);exact⟨by omega,this.2⟩
  ·split
   ·exact aEa hl w.Size frm
   ·exact aEh hl frm

def w30:cC:=⟨2,10,5⟩

theorem aH1:aBa w30 l28 12=(5,0):=by decide +kernel

theorem aHV:EZ w30 l28 0 2=([⟨⟨0,10⟩,[⟨[aAY],1⟩]⟩],0):=by decide +kernel

theorem ZO:wQ=some true:=by
 unfold wQ;have h1:=MP aFA w30 0 2;have h2:=XT aFA w30 12;rw [aHV] at h1;rw [aH1] at h2;simp only [l28,aAY,w30] at h1 h2;rw [h2,Option.bind_some,h1,Option.bind_some,MQ,aO (fun _=>by decide)];rfl

end Go.Abs
namespace Go.Abs
open Go
theorem aGW {l:List aJ}(hl:l.length<=4611686018427387900):∃ b,DE l=some b:=by
 unfold DE FB;rw [JX (l:=l.take 61) (body:=fun s=>wO l s) (fun i=>i) (fun e=>decide ((10:Int)<e.Net)) (.inr false) (.inl ()) ?_ ?_]
 ·split
  ·exact⟨_,rfl⟩
  ·exact⟨_,rfl⟩
 ·intro i e he;have hi:i<(l.take 61).length:=(List.getElem?_eq_some_iff.1 he).1;rw [List.length_take] at hi;have he':l[i]?=some e:=by rw [List.getElem?_take,if_pos (by omega)] at he; exact he
  obtain⟨d1,d2,d3,d4⟩:=idx he' (by omega);simp only [wO,d1,decide_eq_true (show ((i:Nat):Int)<=60 by omega),Bool.and_self,cond_true,aO d2,d3,d4]
  cases decide ((10:Int)<e.Net) <;> rfl
 ·have : (decide ((((l.take 61).length:Nat):Int)<((List.length l:Nat):Int))&&decide ((((l.take 61).length:Nat):Int)<=60))=false:=by
   rw [List.length_take,Bool.and_eq_false_iff,decide_eq_false_iff_not,decide_eq_false_iff_not]; omega
  simp only [wO,this,cond_false]

theorem aDa (size hop:Int):qQ size hop=some (tQ size hop):=by
 unfold qQ tQ;have a:decide ((0:Int)<size)=decide ((1:Int)<=size):=decide_eq_decide.2 (by omega);have b:decide ((0:Int)<hop)=decide ((1:Int)<=hop):=decide_eq_decide.2 (by omega);rw [a,b]

theorem aDo (w:cC):CT w=some (DR w):=by
 unfold CT DR;by_cases h2:w.Kind=2
 ·rw [decide_eq_true h2,cond_true,if_neg (by omega),if_pos h2,aDa]; rfl
 ·rw [decide_eq_false h2,cond_false];by_cases h0:w.Hop=0
  ·rw [decide_eq_true h0,Bool.not_true,cond_false];by_cases h1:w.Kind=1
   ·have h3:¬ w.Kind=3:=by omega
    simp [h1]
   ·by_cases h3:w.Kind=3
    ·have a:decide ((0:Int)<w.Size)=decide ((1:Int)<=w.Size):=decide_eq_decide.2 (by omega);rw [if_neg h1,if_neg h2,if_pos h3,a];simp [h3]
    ·rw [if_neg h1,if_neg h2,if_neg h3];simp [h1,h3]
  ·rw [decide_eq_false h0,Bool.not_false,cond_true];split
   ·simp
   ·split
    ·simp
    ·rfl

theorem aAL {l:List aJ}(hl:okL l)(w:cC)(t:Int):zB w l t=some (sR w l t):=by
 unfold zB sR;rw [aDo,Option.bind_some];have ht:iU t=some (kO t):=rfl
 cases hk:DR w with
 | false=>rfl
 | true =>
  simp only [Bool.not_true,Bool.not_false,Bool.false_or,cW,cond_true,FY hl,Option.bind_some,EX hl,ht]
  cases iM l with
  | false=>rfl
  | true =>
   cases lC l with
   | false=>rfl
   | true=>cases kO t <;> rfl

theorem aCH {l:List aJ}(hn:l.length<=1000000)(ha:∀ e∈l,-1<=e.At/\e.At<1125899906842624)(frm:Int)(w:cC)(t:Int) :
  lp (fun s:Int×Int=>qD l frm w s.1 s.2) (t,0)=some (XC l t):=by
 refine jY (l:=l) (body:=fun s:Int×Int=>qD l frm w s.1 s.2) (fun (s:Int) i=>(s,i)) (fun s r=>r.foldl KG s) (fun _ r=>∀ e∈r,-1<=e.At/\e.At<1125899906842624) t ?_ ?_ ha
 ·intro i e r s he hI;left;have hb:=hI e (by simp);refine⟨KG s e,?_,fun q hq=>hI q (by simp [hq]),rfl⟩;obtain⟨d1,d2,d3,d4⟩:=idx he (by omega);have w1:IntKind.i64.wrap (e.At+1)=e.At+1:=cO (by omega) (by omega);simp only [qD,wC,d1,cond_true,aO d2,d3,d4,w1,aO (fun _=>d2)];unfold KG;by_cases h:0<e.Net
  ·rw [decide_eq_true h,Bool.true_and,if_pos h];by_cases hs:s<=e.At
   ·rw [decide_eq_true hs,cond_true]; congr 3; omega
   ·rw [decide_eq_false hs,cond_false]; congr 3; omega
  ·rw [decide_eq_false h,Bool.false_and,cond_false,if_neg h]
 ·intro s _;simp only [qD,eP,cond_false]; simp

theorem aAw {l:List aJ}(hl:okL l)(w:cC)(frm t:Int):yY w l frm t=some (EZ w l frm t):=by
 unfold yY EZ;rw [aAL hl,Option.bind_some];by_cases hc:sR w l t=0
 ·obtain⟨hk,hm,_,t0,t1⟩:=NQ hc;obtain⟨a1,a2⟩:=aDU hm;rw [if_neg (by simpa using hc),hc,decide_eq_true rfl,Bool.not_true,cond_false];by_cases h1:w.Kind=1
  ·rw [decide_eq_true h1,cond_true,if_neg (by omega),if_neg (by omega),aDj hl,Option.bind_some]
  ·rw [decide_eq_false h1,cond_false];by_cases h3:w.Kind=3
   ·rw [decide_eq_true h3,cond_true,if_neg (by omega),if_pos h3,aAB hl,Option.bind_some]
   ·have h2:w.Kind=2:=by
     unfold DR at hk;rw [if_neg h1] at hk;by_cases h2:w.Kind=2
     ·exact h2
     ·rw [if_neg h2,if_neg h3] at hk; cases hk
    rw [decide_eq_false h3,cond_false,if_pos h2];unfold BV;rw [aCH a1 a2,Option.bind_some];unfold xC;rw [YF hl,Option.bind_some]
 ·rw [if_pos hc,decide_eq_false hc]; rfl

end Go.Abs
namespace Go.Abs
open Go
theorem TC (l0:cC)(m0:DZ l0)(l1:(List aJ))(m1:∀ a∈l1,CU a)(y1:List.length l1*40<=140737488351232)(a2:Int)(w2:yE a2)(a3:Int)(w3:yE a3):tV l0 l1 a2 a3=some true:=by
 have k1:=aIl m1 y1;unfold tV;obtain⟨b,hb⟩:=aGW (l:=l1) (by have:=k1.1; omega);rw [hb,Option.bind_some]
 cases b with
 | false=>simp only [Bool.not_false,cond_true,ZO,Option.bind_some]
 | true =>
  obtain⟨u1,u2⟩:=aD4 k1 l0 a2 a3;rw [Bool.not_true,cond_false,MP k1,Option.bind_some,aAw k1,Option.bind_some,ZO,Option.bind_some];simp only [decide_true,Bool.and_self,cW,cond_true,aCk (show (EZ l0 l1 a2 a3).1.length<=1000000 by omega) u2,Option.bind_some]

end Go.Abs
