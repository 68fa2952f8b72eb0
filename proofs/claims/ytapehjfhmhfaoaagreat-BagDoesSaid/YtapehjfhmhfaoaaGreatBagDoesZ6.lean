/- What the law BagDoes stands on: the framework, the given functions as plain functions, their walks, and the plain laws; part 6. -/
import Derived.Test.YtapehjfhmhfaoaaGreatBagDoesZ5
set_option linter.unusedSimpArgs false
set_option linter.unusedVariables false
noncomputable section
namespace Go.Abs
open Go IntKind
def dP (a1 b2:Int)(i7 j8:Int)(aA:List Int)(j9:Int):Option ((List Int×Int)⊕(List Int)) :=
 cond (decide (1<=j9))
 (aU (0<=j9/\j9<(aA.length:Int)) <|
 aU (0<=(i64.wrap (j9-1))/\(i64.wrap (j9-1))<(aA.length:Int)) <|
 (fG (aA.getD j9.toNat default) (aA.getD (Int.toNat (i64.wrap (j9-1))) default)).bind fun b5 =>
 cond (!b5)
 (some (.inr aA))
 (aU (0<=(i64.wrap (j9-1))/\(i64.wrap (j9-1))<(aA.length:Int)) <|
 aU (0<=j9/\j9<(aA.length:Int)) <|
 aU (0<=j9/\j9<(aA.length:Int)) <|
 aU (0<=(i64.wrap (j9-1))/\(i64.wrap (j9-1))<(aA.length:Int)) <|
 some (.inl (List.set (aA.set j9.toNat (aA.getD (Int.toNat (i64.wrap (j9-1))) default)) (Int.toNat (i64.wrap (j9-1))) (aA.getD j9.toNat default),i64.wrap (j9-1)))))
 (some (.inr aA))
def lG (aA:List Int)(a1 b2:Int)(i7 j8 j9:Int):Option ((List Int×Int×Int)⊕((List Int)⊕(Bool×(List Int)))) :=
 (lp (fun s=>dP a1 b2 i7 j8 s.1 s.2) (aA,j9)).bind (fun rr=>eM rr a1 b2 i7 j8)
def lH (aA:List Int)(a1 b2:Int)(i7 j8:Int):Option ((List Int×Int×Int)⊕((List Int)⊕(Bool×(List Int)))) :=
 cond (decide (i7=b2))
 (some (.inr (.inr (true,aA))))
 (cond (decide ((i64.wrap (b2-a1))<50))
 (some (.inr (.inr (false,aA))))
 (aU (0<=(i64.wrap (i7-1))/\(i64.wrap (i7-1))<(aA.length:Int)) <|
 aU (0<=i7/\i7<(aA.length:Int)) <|
 aU (0<=i7/\i7<(aA.length:Int)) <|
 aU (0<=(i64.wrap (i7-1))/\(i64.wrap (i7-1))<(aA.length:Int)) <|
 cond (decide (2<=(i64.wrap (i7-a1))))
 (lG (List.set (aA.set i7.toNat (aA.getD (Int.toNat (i64.wrap (i7-1))) default)) (Int.toNat (i64.wrap (i7-1))) (aA.getD i7.toNat default)) a1 b2 i7 j8 (i64.wrap (i7-1)))
 (eM (List.set (aA.set i7.toNat (aA.getD (Int.toNat (i64.wrap (i7-1))) default)) (Int.toNat (i64.wrap (i7-1))) (aA.getD i7.toNat default)) a1 b2 i7 j8)))
def dZ (a1 b2 j8:Int)(aA:List Int)(i7:Int):Option ((List Int×Int)⊕(List Int×Int)) :=
 aU ((decide (i7<b2))=true->0<=i7/\i7<(aA.length:Int)) <|
 aU ((decide (i7<b2))=true->0<=(i64.wrap (i7-1))/\(i64.wrap (i7-1))<(aA.length:Int)) <|
 (cR (decide (i7<b2)) (fG (aA.getD i7.toNat default) (aA.getD (Int.toNat (i64.wrap (i7-1))) default))).bind fun b5 =>
 cond ((decide (i7<b2))&&(!b5))
 (some (.inl (aA,i64.wrap (i7+1))))
 (some (.inr (aA,i7)))
def eN (aA:List Int)(a1 b2:Int)(i7 j8:Int):Option ((List Int×Int×Int)⊕((List Int)⊕(Bool×(List Int)))) :=
 (lp (fun s=>dZ a1 b2 j8 s.1 s.2) (aA,i7)).bind (fun rr=>lH rr.1 a1 b2 rr.2 j8)
def cQ (a1 b2:Int)(aA:List Int)(i7 j8:Int):Option ((List Int×Int×Int)⊕((List Int)⊕(Bool×(List Int)))) :=
 cond (decide (j8<5))
 (eN aA a1 b2 i7 j8)
 (some (.inr (.inl aA)))
def lF (aA:List Int)(a1 b2:Int)(i7 j8:Int):Option (Bool×List Int) :=
 (lp (fun s=>cQ a1 b2 s.1 s.2.1 s.2.2) (aA,i7,j8)).bind (Sum.elim (fun rr=>lJ rr) (fun rr=>some (rr.1,rr.2)))
def iM (aA:(List Int))(a1 b2:Int):Option (Bool×List Int) :=
 lF aA a1 b2 (i64.wrap (a1+1)) (0:Int)
def rB (aA:List Int)(i9:Int):Option (Int×List Int) :=
 some (i9,aA)
def iC (aA:List Int)(a1 i9 b5:Int):Option ((List Int×Int×Int)⊕(List Int×Int)) :=
 cond (decide (b5<i9))
 (some (.inr (aA,i9)))
 (aU (0<=b5/\b5<(aA.length:Int)) <|
 aU (0<=i9/\i9<(aA.length:Int)) <|
 aU (0<=i9/\i9<(aA.length:Int)) <|
 aU (0<=b5/\b5<(aA.length:Int)) <|
 some (.inl (List.set (aA.set i9.toNat (aA.getD b5.toNat default)) b5.toNat (aA.getD i9.toNat default),i64.wrap (i9+1),i64.wrap (b5-1))))
def fO (a1 i9:Int)(aA:List Int)(b5:Int):Option ((List Int×Int)⊕(List Int×Int)) :=
 aU ((decide (i9<=b5))=true->0<=a1/\a1<(aA.length:Int)) <|
 aU ((decide (i9<=b5))=true->0<=b5/\b5<(aA.length:Int)) <|
 (cR (decide (i9<=b5)) (fG (aA.getD a1.toNat default) (aA.getD b5.toNat default))).bind fun b6 =>
 cond ((decide (i9<=b5))&&b6)
 (some (.inl (aA,i64.wrap (b5-1))))
 (some (.inr (aA,b5)))
def nY (aA:List Int)(a1 i9 b5:Int):Option ((List Int×Int×Int)⊕(List Int×Int)) :=
 (lp (fun s=>fO a1 i9 s.1 s.2) (aA,b5)).bind (fun rr=>iC rr.1 a1 i9 rr.2)
def nV (aA:List Int)(a1 i9 b5:Int):Option ((List Int×Int×Int)⊕(List Int×Int)) :=
 nY aA a1 i9 b5
def fN (a1 b5:Int)(aA:List Int)(i9:Int):Option ((List Int×Int)⊕(List Int×Int)) :=
 aU ((decide (i9<=b5))=true->0<=a1/\a1<(aA.length:Int)) <|
 aU ((decide (i9<=b5))=true->0<=i9/\i9<(aA.length:Int)) <|
 (cR (decide (i9<=b5)) (fG (aA.getD a1.toNat default) (aA.getD i9.toNat default))).bind fun b6 =>
 cond ((decide (i9<=b5))&&(!b6))
 (some (.inl (aA,i64.wrap (i9+1))))
 (some (.inr (aA,i9)))
def nW (aA:List Int)(a1 i9 b5:Int):Option ((List Int×Int×Int)⊕(List Int×Int)) :=
 (lp (fun s=>fN a1 b5 s.1 s.2) (aA,i9)).bind (fun rr=>nV rr.1 a1 rr.2 b5)
def eD (a1:Int)(aA:List Int)(i9 b5:Int):Option ((List Int×Int×Int)⊕(List Int×Int)) :=
 nW aA a1 i9 b5
def nU (aA:List Int)(a1 i9 b5:Int):Option (Int×List Int) :=
 (lp (fun s=>eD a1 s.1 s.2.1 s.2.2) (aA,i9,b5)).bind (fun rr=>rB rr.1 rr.2)
def iO (aA:(List Int))(a1 b2 cL:Int):Option (Int×List Int) :=
 aU (0<=cL/\cL<(aA.length:Int)) <|
 aU (0<=a1/\a1<(aA.length:Int)) <|
 aU (0<=a1/\a1<(aA.length:Int)) <|
 aU (0<=cL/\cL<(aA.length:Int)) <|
 nU (List.set (aA.set a1.toNat (aA.getD cL.toNat default)) cL.toNat (aA.getD a1.toNat default)) a1 (i64.wrap (a1+1)) (i64.wrap (b2-1))
def qH (aA:List Int)(a1 b5:Int):Option ((Int×Bool)×List Int) :=
 aU (0<=a1/\a1<(aA.length:Int)) <|
 aU (0<=b5/\b5<(aA.length:Int)) <|
 aU (0<=b5/\b5<(aA.length:Int)) <|
 aU (0<=a1/\a1<(aA.length:Int)) <|
 some ((b5,false),List.set (aA.set b5.toNat (aA.getD a1.toNat default)) a1.toNat (aA.getD b5.toNat default))
def kZ (aA:List Int)(a1 i10 b5:Int):Option ((List Int×Int×Int)⊕(List Int×Int)) :=
 cond (decide (b5<i10))
 (some (.inr (aA,b5)))
 (aU (0<=b5/\b5<(aA.length:Int)) <|
 aU (0<=i10/\i10<(aA.length:Int)) <|
 aU (0<=i10/\i10<(aA.length:Int)) <|
 aU (0<=b5/\b5<(aA.length:Int)) <|
 some (.inl (List.set (aA.set i10.toNat (aA.getD b5.toNat default)) b5.toNat (aA.getD i10.toNat default),i64.wrap (i10+1),i64.wrap (b5-1))))
def iI (a1 i10:Int)(aA:List Int)(b5:Int):Option ((List Int×Int)⊕(List Int×Int)) :=
 aU ((decide (i10<=b5))=true->0<=b5/\b5<(aA.length:Int)) <|
 aU ((decide (i10<=b5))=true->0<=a1/\a1<(aA.length:Int)) <|
 (cR (decide (i10<=b5)) (fG (aA.getD b5.toNat default) (aA.getD a1.toNat default))).bind fun b6 =>
 cond ((decide (i10<=b5))&&(!b6))
 (some (.inl (aA,i64.wrap (b5-1))))
 (some (.inr (aA,b5)))
def qG (aA:List Int)(a1 i10 b5:Int):Option ((List Int×Int×Int)⊕(List Int×Int)) :=
 (lp (fun s=>iI a1 i10 s.1 s.2) (aA,b5)).bind (fun rr=>kZ rr.1 a1 i10 rr.2)
def pY (aA:List Int)(a1 i10 b5:Int):Option ((List Int×Int×Int)⊕(List Int×Int)) :=
 qG aA a1 i10 b5
def iH (a1 b5:Int)(aA:List Int)(i10:Int):Option ((List Int×Int)⊕(List Int×Int)) :=
 aU ((decide (i10<=b5))=true->0<=i10/\i10<(aA.length:Int)) <|
 aU ((decide (i10<=b5))=true->0<=a1/\a1<(aA.length:Int)) <|
 (cR (decide (i10<=b5)) (fG (aA.getD i10.toNat default) (aA.getD a1.toNat default))).bind fun b6 =>
 cond ((decide (i10<=b5))&&b6)
 (some (.inl (aA,i64.wrap (i10+1))))
 (some (.inr (aA,i10)))
def qB (aA:List Int)(a1 i10 b5:Int):Option ((List Int×Int×Int)⊕(List Int×Int)) :=
 (lp (fun s=>iH a1 b5 s.1 s.2) (aA,i10)).bind (fun rr=>pY rr.1 a1 rr.2 b5)
def fB (a1:Int)(aA:List Int)(i10 b5:Int):Option ((List Int×Int×Int)⊕(List Int×Int)) :=
 qB aA a1 i10 b5
def qD (aA:List Int)(a1 i10 b5:Int):Option ((Int×Bool)×List Int) :=
 (lp (fun s=>fB a1 s.1 s.2.1 s.2.2) (aA,i10,b5)).bind (fun rr=>qH rr.1 a1 rr.2)
def lB (aA:List Int)(a1 i10 b5:Int):Option ((Int×Bool)×List Int) :=
 cond (decide (b5<i10))
 (aU (0<=a1/\a1<(aA.length:Int)) <|
 aU (0<=b5/\b5<(aA.length:Int)) <|
 aU (0<=b5/\b5<(aA.length:Int)) <|
 aU (0<=a1/\a1<(aA.length:Int)) <|
 some ((b5,true),List.set (aA.set b5.toNat (aA.getD a1.toNat default)) a1.toNat (aA.getD b5.toNat default)))
 (aU (0<=b5/\b5<(aA.length:Int)) <|
 aU (0<=i10/\i10<(aA.length:Int)) <|
 aU (0<=i10/\i10<(aA.length:Int)) <|
 aU (0<=b5/\b5<(aA.length:Int)) <|
 qD (List.set (aA.set i10.toNat (aA.getD b5.toNat default)) b5.toNat (aA.getD i10.toNat default)) a1 (i64.wrap (i10+1)) (i64.wrap (b5-1)))
def iK (a1 i10:Int)(aA:List Int)(b5:Int):Option ((List Int×Int)⊕(List Int×Int)) :=
 aU ((decide (i10<=b5))=true->0<=b5/\b5<(aA.length:Int)) <|
 aU ((decide (i10<=b5))=true->0<=a1/\a1<(aA.length:Int)) <|
 (cR (decide (i10<=b5)) (fG (aA.getD b5.toNat default) (aA.getD a1.toNat default))).bind fun b6 =>
 cond ((decide (i10<=b5))&&(!b6))
 (some (.inl (aA,i64.wrap (b5-1))))
 (some (.inr (aA,b5)))
def qE (aA:List Int)(a1 i10 b5:Int):Option ((Int×Bool)×List Int) :=
 (lp (fun s=>iK a1 i10 s.1 s.2) (aA,b5)).bind (fun rr=>lB rr.1 a1 i10 rr.2)
def qF (aA:List Int)(a1 i10 b5:Int):Option ((Int×Bool)×List Int) :=
 qE aA a1 i10 b5
def gV (a1 b5:Int)(aA:List Int)(i10:Int):Option ((List Int×Int)⊕(List Int×Int)) :=
 aU ((decide (i10<=b5))=true->0<=i10/\i10<(aA.length:Int)) <|
 aU ((decide (i10<=b5))=true->0<=a1/\a1<(aA.length:Int)) <|
 (cR (decide (i10<=b5)) (fG (aA.getD i10.toNat default) (aA.getD a1.toNat default))).bind fun b6 =>
 cond ((decide (i10<=b5))&&b6)
 (some (.inl (aA,i64.wrap (i10+1))))
 (some (.inr (aA,i10)))
def kF (aA:List Int)(a1 i10 b5:Int):Option ((Int×Bool)×List Int) :=
 (lp (fun s=>gV a1 b5 s.1 s.2) (aA,i10)).bind (fun rr=>qF rr.1 a1 rr.2 b5)
def lW (aA:(List Int))(a1 b2 cL:Int):Option ((Int×Bool)×List Int) :=
 aU (0<=cL/\cL<(aA.length:Int)) <|
 aU (0<=a1/\a1<(aA.length:Int)) <|
 aU (0<=a1/\a1<(aA.length:Int)) <|
 aU (0<=cL/\cL<(aA.length:Int)) <|
 kF (List.set (aA.set a1.toNat (aA.getD cL.toNat default)) cL.toNat (aA.getD a1.toNat default)) a1 (i64.wrap (a1+1)) (i64.wrap (b2-1))
def mN (rec:(List Int)->Int->Int->Int->Option (List Int))(aA:List Int)(a1 b2 cB:Int)(nK kU:Bool)(GS ML:Int):Option ((List Int×Int×Int×Int×Bool×Bool)⊕(List Int)) :=
 aU ((decide (0<a1))=true->0<=(i64.wrap (a1-1))/\(i64.wrap (a1-1))<(aA.length:Int)) <|
 aU ((decide (0<a1))=true->0<=ML/\ML<(aA.length:Int)) <|
 (cR (decide (0<a1)) (fG (aA.getD (Int.toNat (i64.wrap (a1-1))) default) (aA.getD ML.toNat default))).bind fun b7 =>
 cond ((decide (0<a1))&&(!b7))
 ((iO aA a1 b2 ML).bind fun b6 =>
 some (.inl (b6.2,b6.1,b2,cB,nK,kU)))
 ((lW aA a1 b2 ML).bind fun b5 =>
 aU ((8:Int)≠0) <|
 cond (decide ((i64.wrap (b5.1.1-a1))<(i64.wrap (b2-b5.1.1))))
 ((rec b5.2 a1 b5.1.1 cB).bind fun b8 =>
 some (.inl (b8,i64.wrap (b5.1.1+1),b2,cB,decide ((i64.wrap (Int.tdiv GS (8:Int)))<=(i64.wrap (b5.1.1-a1))),b5.1.2)))
 ((rec b5.2 (i64.wrap (b5.1.1+1)) b2 cB).bind fun b9 =>
 some (.inl (b9,a1,b5.1.1,cB,decide ((i64.wrap (Int.tdiv GS (8:Int)))<=(i64.wrap (b2-b5.1.1))),b5.1.2))))
def mH (rec:(List Int)->Int->Int->Int->Option (List Int))(aA:List Int)(a1 b2 cB:Int)(nK kU:Bool)(GS ML aNV:Int):Option ((List Int×Int×Int×Int×Bool×Bool)⊕(List Int)) :=
 cond ((nK&&kU)&&(decide (aNV=1)))
 ((iM aA a1 b2).bind fun b5 =>
 cond b5.1
 (some (.inr b5.2))
 (mN rec b5.2 a1 b2 cB nK kU GS ML))
 (mN rec aA a1 b2 cB nK kU GS ML)
def mI (rec:(List Int)->Int->Int->Int->Option (List Int))(aA:List Int)(a1 b2 cB:Int)(nK kU:Bool)(GS:Int):Option ((List Int×Int×Int×Int×Bool×Bool)⊕(List Int)) :=
 (nC aA a1 b2).bind fun x9 =>
 cond (decide (x9.2=2))
 ((mV aA a1 b2).bind fun b5 =>
 mH rec b5 a1 b2 cB nK kU GS (i64.wrap ((i64.wrap (b2-1))-(i64.wrap (x9.1-a1)))) (1:Int))
 (mH rec aA a1 b2 cB nK kU GS x9.1 x9.2)
def gR (rec:(List Int)->Int->Int->Int->Option (List Int))  (aA:List Int)(a1 b2 cB:Int)(nK kU:Bool):Option ((List Int×Int×Int×Int×Bool×Bool)⊕(List Int)) :=
 cond (decide ((i64.wrap (b2-a1))<=12))
 ((mE aA a1 b2).bind fun x2 =>
 some (.inr x2))
 (cond (decide (cB=0))
 ((oN aA a1 b2).bind fun x6 =>
 some (.inr x6))
 (cond (!nK)
 ((mG aA a1 b2).bind fun b5 =>
 mI rec b5 a1 b2 (i64.wrap (cB-1)) nK kU (i64.wrap (b2-a1)))
 (mI rec aA a1 b2 cB nK kU (i64.wrap (b2-a1)))))
def rE (rec:(List Int)->Int->Int->Int->Option (List Int))(aA:List Int)(a1 b2 cB:Int)(nK kU:Bool):Option (List Int) :=
 (lp (fun s=>gR rec s.1 s.2.1 s.2.2.1 s.2.2.2.1 s.2.2.2.2.1 s.2.2.2.2.2) (aA,a1,b2,cB,nK,kU)).bind (fun rr=>some rr)
def kX (rec:(List Int)->Int->Int->Int->Option (List Int))(aA:(List Int))(a1 b2 cB:Int):Option (List Int) :=
 rE rec aA a1 b2 cB true true
def oJ  : Nat->(List Int)->Int->Int->Int->Option (List Int)
 | 0=>fun _ _ _ _=>none
 | k+1=>kX (oJ k)
def OM (n:Int):Bool:=decide (n<=1048576)&&decide (-1048576<=n)
theorem aMx (n:Int):QK n=some (OM n):=rfl
def xW (last:Int)(j:aB):Bool:=decide (j.At<=last)||decide (1125899906842624<=j.At)||decide (j.Net=0) || !OM j.Net
def chk (last:Int):List aB->Bool
 | []=>true
 | j::r => !xW last j&&chk j.At r
def dU (f:List aB):Bool:=decide (f.length<=1024)&&chk (-2) f
theorem aFj {f:List aB}{i:Nat}{a:aB}{last:Int}(ha:f[i]?=some a)(hl:f.length<4611686018427387904) :
  tJ f (f.length:Nat) last i=some (if xW last a then .inr (.inr false) else .inl (a.At,((i+1:Nat):Int))):=by
 obtain⟨d1,d2,d3,d4⟩:=idx ha hl;simp only [tJ,d1,cond_true,aQ d2,d3,d4,aMx];unfold xW
 cases h:(decide (a.At<=last)||decide (1125899906842624<=a.At)||decide (a.Net=0)) <;> cases h2:OM a.Net <;> simp [cR]
theorem aFg:∀ (f:List aB) (last:Int),xY (fun last (j:aB)=>some (if xW last j then .inr (.inr false) else .inl j.At)) (fun _=>(.inl ():Unit⊕Bool)) last f=some (if chk last f then .inl () else .inr false)
 | [],last=>by simp [xY,chk]
 | j::r,last=>by
  cases h:xW last j
  ·rw [aCB (s':=j.At) (by simp [h])];rw [aFg r j.At];simp [chk,h]
  ·rw [aCJ (x:=.inr false) (by simp [h])];simp [chk,h]
theorem RF (f:List aB):rH f=some (dU f):=by
 unfold rH dU;by_cases hl:f.length<=1024
 ·have h1:decide (1024<((f.length:Nat):Int))=false:=by simp;omega
  rw [h1,cond_false];unfold QT
  have key:=aLH (l:=f) (body:=fun s:Int×Int=>tJ f (f.length:Nat) s.1 s.2) (fun last i=>(last,i)) _ _
   (fun i a s ha=>by
    constructor
    ·intro s' hs;show tJ f (f.length:Nat) s i=_;rw [aFj ha (by omega)];split at hs <;> simp_all
    ·intro x hs;show tJ f (f.length:Nat) s i=_;rw [aFj ha (by omega)];split at hs <;> simp_all)
   (fun s=>by show tJ f (f.length:Nat) s (f.length:Nat)=_;simp only [tJ,eP,cond_false]) (aFg f (-2))
  rw [key]
  cases h:chk (-2) f <;> simp [JX,hl]
 ·have h1:decide (1024<((f.length:Nat):Int))=true:=by simp;omega
  rw [h1,cond_true];simp [hl]
theorem sK {last:Int}{j:aB}:xW last j=false↔last<j.At/\j.At<1125899906842624/\j.Net≠0/\j.Net<=1048576 /\ -1048576<=j.Net:=by
 simp [xW,OM];omega
def pI (last:Int):List aB->Prop
 | []=>True
 | j::r=>(last<j.At/\j.At<1125899906842624/\j.Net≠0/\j.Net<=1048576 /\ -1048576<=j.Net)/\pI j.At r
theorem aH9:∀ {f:List aB} {last:Int},chk last f=true↔pI last f
 | [],last=>by simp [chk,pI]
 | j::r,last=>by simp [chk,pI,sK,aH9]
theorem eU {f:List aB}:dU f=true↔f.length<=1024/\pI (-2) f:=by simp [dU,aH9]
theorem pI.above:∀ {f:List aB} {last:Int},pI last f -> ∀ j∈f,last<j.At/\j.At<1125899906842624/\j.Net≠0/\j.Net<=1048576 /\ -1048576<=j.Net
 | [],_,_,j,hj=>by simp at hj
 | a::r,last,h,j,hj=>by
  rcases List.mem_cons.1 hj with rfl | hj
  ·exact h.1
  ·have:=h.2.above j hj;have h1:=h.1.1;exact⟨by omega,this.2⟩
def val (f:List aB)(t:Int):Int:=(f.map fun j=>if j.At<=t then j.Net else 0).sum
theorem PJ (t:Int):val [] t=0:=rfl
theorem eS (j:aB)(r:List aB)(t:Int):val (j::r) t=(if j.At<=t then j.Net else 0)+val r t:=by simp [val]
theorem zO (f g:List aB)(t:Int):val (f++g) t=val f t+val g t:=by simp [val]
theorem aAr:∀ {f:List aB} {b:Int} (t:Int),0<=b->(∀ j∈f,j.Net<=b /\ -b<=j.Net)->val f t<=b*f.length /\ -(b*f.length)<=val f t
 | [],b,t,_,_=>by simp [val]
 | j::r,b,t,hb,h=>by
  obtain⟨h1,h2⟩:=aAr t hb (fun k hk=>h k (List.mem_cons_of_mem _ hk));have h3:=h j (List.mem_cons_self ..);rw [eS];simp only [List.length_cons,Int.natCast_add,Int.natCast_one,Int.mul_add,Int.mul_one];split <;> omega
theorem FC {f:List aB}{t:Int}(h:∀ j∈f,t<j.At):val f t=0:=by
 induction f with
 | nil=>rfl
 | cons j r ih =>
  rw [eS,ih (fun k hk=>h k (List.mem_cons_of_mem _ hk))];have:=h j (List.mem_cons_self ..);rw [if_neg (by omega)];rfl
theorem aMO (f:List aB):zT f=some (if dU f then (f,0) else ([],7)):=by
 unfold zT;rw [RF]
 cases h:dU f <;> simp
section both
variable {op:Int->Int->Option Int} {f g r:List aB} {out:List aB} {a b was t:Int} {j:aB}
theorem aHq:oL op f [] out a b was t=rZ op f [] out a b was t:=by
 unfold oL;rw [aQ (fun h=>by rw [len_nil] at h;cases h),len_nil,Bool.false_and,cond_false]
theorem XH (h:j.At=t):oL op f (j::r) out a b was t=rZ op f r out a (i64.wrap (b+j.Net)) was t:=by
 unfold oL;rw [aQ (fun _=>YY),QD,UR,aKd,aQ YY,aQ aOl,Bool.true_and,decide_eq_true h,cond_true]
theorem aF4 (h:j.At≠t):oL op f (j::r) out a b was t=rZ op f (j::r) out a b was t:=by
 unfold oL;rw [aQ (fun _=>YY),QD,UR,Bool.true_and,decide_eq_false h,cond_false]
theorem aHh:pL op [] g out a b was t=oL op [] g out a b was t:=by
 unfold pL;rw [aQ (fun h=>by rw [len_nil] at h;cases h),len_nil,Bool.false_and,cond_false]
theorem XN (h:j.At=t):pL op (j::r) g out a b was t=oL op r g out (i64.wrap (a+j.Net)) b was t:=by
 unfold pL;rw [aQ (fun _=>YY),QD,UR,aKd,aQ YY,aQ aOl,Bool.true_and,decide_eq_true h,cond_true]
theorem aF6 (h:j.At≠t):pL op (j::r) g out a b was t=oL op (j::r) g out a b was t:=by
 unfold pL;rw [aQ (fun _=>YY),QD,UR,Bool.true_and,decide_eq_false h,cond_false]
theorem aHi:sB op f [] out a b was t=pL op f [] out a b was t:=by
 unfold sB;rw [len_nil,cond_false]
theorem NF:sB op f (j::r) out a b was t=pL op f (j::r) out a b was (if j.At<t then j.At else t):=by
 unfold sB;rw [QD,cond_true,aQ YY,UR]
theorem VU:mU op (j::r) g out a b was=sB op (j::r) g out a b was j.At:=by
 unfold mU;rw [QD,Bool.true_or,cond_true,cond_true,aQ YY,UR]
theorem aJY:mU op [] (j::r) out a b was=sB op [] (j::r) out a b was 1125899906842624:=by
 unfold mU;rw [QD,len_nil,Bool.or_true,cond_true,cond_false]
theorem aHp:mU op [] [] out a b was=some (.inr out):=by
 unfold mU;rw [len_nil,Bool.or_false,cond_false]
end both
def emit (p v was:Int):List aB:=if v=was then [] else [⟨p,v-was⟩]
def rF (was:Int):List (Int×Int)->List aB
 | []=>[]
 | x::r=>emit x.1 x.2 was++rF x.2 r
theorem aI7 {op:Int->Int->Option Int}{f g out:List aB}{a b was t v:Int}(hv:op a b=some v)(hb : -2305843009213693952<=v/\v<=2305843009213693952)(hw : -2305843009213693952<=was/\was<=2305843009213693952)(ho:out.length<=1048576) :
  rZ op f g out a b was t=some (.inl (f,g,out++emit t v was,a,b,v)):=by
 unfold rZ;rw [hv];simp only [Option.bind_some];have hwr:i64.wrap (v-was)=v-was:=cZ (by omega) (by omega);unfold emit;by_cases h:v=was
 ·rw [decide_eq_true h,Bool.not_true,cond_false,if_pos h,List.append_nil,h]
 ·rw [decide_eq_false h,Bool.not_false,cond_true,if_neg h,hwr];rw [aQ (by simp only [List.length_cons,List.length_nil];omega)]
def merge (f g:List aB)(a b:Int):List (Int×Int×Int) :=
 match f,g with
 | [],[]=>[]
 | j::f,[]=>(j.At,a+j.Net,b)::merge f [] (a+j.Net) b
 | [],k::g=>(k.At,a,b+k.Net)::merge [] g a (b+k.Net)
 | j::f,k::g =>
  if j.At<k.At then (j.At,a+j.Net,b)::merge f (k::g) (a+j.Net) b
  else if k.At<j.At then (k.At,a,b+k.Net)::merge (j::f) g a (b+k.Net)
  else (j.At,a+j.Net,b+k.Net)::merge f g (a+j.Net) (b+k.Net)
termination_by f.length+g.length
theorem RU {a b:Int}:merge [] [] a b=[]:=by rw [merge]
theorem aDG {j:aB}{f:List aB}{a b:Int}:merge (j::f) [] a b=(j.At,a+j.Net,b)::merge f [] (a+j.Net) b:=by rw [merge]
theorem aDB {k:aB}{g:List aB}{a b:Int}:merge [] (k::g) a b=(k.At,a,b+k.Net)::merge [] g a (b+k.Net):=by rw [merge]
theorem merge_lt {j k:aB}{f g:List aB}{a b:Int}(h:j.At<k.At):merge (j::f) (k::g) a b=(j.At,a+j.Net,b)::merge f (k::g) (a+j.Net) b:=by rw [merge,if_pos h]
theorem aCu {j k:aB}{f g:List aB}{a b:Int}(h:k.At<j.At):merge (j::f) (k::g) a b=(k.At,a,b+k.Net)::merge (j::f) g a (b+k.Net):=by rw [merge,if_neg (by omega),if_pos h]
theorem aCk {j k:aB}{f g:List aB}{a b:Int}(h:j.At=k.At):merge (j::f) (k::g) a b=(j.At,a+j.Net,b+k.Net)::merge f g (a+j.Net) (b+k.Net):=by rw [merge,if_neg (by omega),if_neg (by omega)]
theorem aMG {op:Int->Int->Option Int}{OP:Int->Int->Int}(hop:∀ a b,a<=1073741824 -> -1073741824<=a->b<=1073741824 -> -1073741824<=b->op a b=some (OP a b) /\ -2305843009213693952<=OP a b/\OP a b<=2305843009213693952) :
  ∀ (n:Nat) (f g out:List aB) (a b was lf lg:Int),f.length+g.length<=n->pI lf f->pI lg g->a<=1048576*(1024-f.length) -> -(1048576*(1024-f.length))<=a->b<=1048576*(1024-g.length) -> -(1048576*(1024-g.length))<=b ->
   -2305843009213693952<=was/\was<=2305843009213693952->out.length+n<=1048576 ->
   lp (fun s:List aB×List aB×List aB×Int×Int×Int=>mU op s.1 s.2.1 s.2.2.1 s.2.2.2.1 s.2.2.2.2.1 s.2.2.2.2.2) (f,g,out,a,b,was)=some (out++rF was ((merge f g a b).map fun x=>(x.1,OP x.2.1 x.2.2))):=by
 have fin:∀ (out:List aB) (a b was:Int),lp (fun s:List aB×List aB×List aB×Int×Int×Int=>mU op s.1 s.2.1 s.2.2.1 s.2.2.2.1 s.2.2.2.2.1 s.2.2.2.2.2) ([],[],out,a,b,was)=some (out++rF was ((merge [] [] a b).map fun x=>(x.1,OP x.2.1 x.2.2))):=by
  intro out a b was;rw [RU];simp only [List.map_nil,rF,List.append_nil];exact cY aHp
 intro n
 induction n with
 | zero =>
  intro f g out a b was lf lg hn _ _ _ _ _ _ _ _;have h1:f=[]:=List.length_eq_zero_iff.1 (by omega);have h2:g=[]:=List.length_eq_zero_iff.1 (by omega);subst h1;subst h2;exact fin out a b was
 | succ n ih =>
  intro f g out a b was lf lg hn hf hg a1 a2 b1 b2 hw ho;have emitL:∀ p v was,(emit p v was).length<=1:=by intro p v was;unfold emit;split <;> simp
  have go:∀ (f' g':List aB) (a' b' p lf' lg':Int),f'.length+g'.length<=n->pI lf' f'->pI lg' g'->a'<=1048576*(1024-f'.length) -> -(1048576*(1024-f'.length))<=a'->b'<=1048576*(1024-g'.length) -> -(1048576*(1024-g'.length))<=b' ->
    mU op f g out a b was=rZ op f' g' out a' b' was p->merge f g a b=(p,a',b')::merge f' g' a' b' ->
    lp (fun s:List aB×List aB×List aB×Int×Int×Int=>mU op s.1 s.2.1 s.2.2.1 s.2.2.2.1 s.2.2.2.2.1 s.2.2.2.2.2) (f,g,out,a,b,was)=some (out++rF was ((merge f g a b).map fun x=>(x.1,OP x.2.1 x.2.2))):=by
   intro f' g' a' b' p lf' lg' hlen hf' hg' a1' a2' b1' b2' hstep hm;obtain⟨hv,v1,v2⟩:=hop a' b' (by omega) (by omega) (by omega) (by omega)
   have hb:(fun s:List aB×List aB×List aB×Int×Int×Int=>mU op s.1 s.2.1 s.2.2.1 s.2.2.2.1 s.2.2.2.2.1 s.2.2.2.2.2) (f,g,out,a,b,was)=some (.inl (f',g',out++emit p (OP a' b') was,a',b',OP a' b')):=by
    show mU op f g out a b was=_;rw [hstep,aI7 hv ⟨v1,v2⟩ hw (by omega)]
   rw [fA hb,ih f' g' _ a' b' _ lf' lg' hlen hf' hg' a1' a2' b1' b2' ⟨v1,v2⟩ (by have:=emitL p (OP a' b') was;simp only [List.length_append];omega),hm];simp only [List.map_cons,rF,List.append_assoc]
  rcases f with _ | ⟨j,f⟩ <;> rcases g with _ | ⟨k,g⟩
  ·exact fin out a b was
  rotate_left
  ·-- only the first
   simp only [List.length_cons,List.length_nil] at hn a1 a2 b1 b2;have hw:i64.wrap (a+j.Net)=a+j.Net:=cZ (by have:=hf.1;omega) (by have:=hf.1;omega);have:=hf.1
   exact go f [] (a+j.Net) b j.At j.At lg (by simp only [List.length_nil];omega) hf.2 trivial (by omega) (by omega) (by simp only [List.length_nil];omega) (by simp only [List.length_nil];omega)
    (by rw [VU,aHi,XN rfl,aHq,hw]) aDG
  rotate_left
  ·-- only the second
   simp only [List.length_cons,List.length_nil] at hn a1 a2 b1 b2;have:=hg.1;have hw:i64.wrap (b+k.Net)=b+k.Net:=cZ (by omega) (by omega)
   exact go [] g a (b+k.Net) k.At lf k.At (by simp only [List.length_nil];omega) trivial hg.2 (by simp only [List.length_nil];omega) (by simp only [List.length_nil];omega) (by omega) (by omega)
    (by rw [aJY,NF,if_pos (by omega),aHh,XH rfl,hw]) aDB
  ·-- both
   simp only [List.length_cons] at hn a1 a2 b1 b2;have h1:=hf.1;have h2:=hg.1;have hwa:i64.wrap (a+j.Net)=a+j.Net:=cZ (by omega) (by omega);have hwb:i64.wrap (b+k.Net)=b+k.Net:=cZ (by omega) (by omega);by_cases h:j.At<k.At
   ·exact go f (k::g) (a+j.Net) b j.At j.At lg (by simp only [List.length_cons];omega) hf.2 hg (by omega) (by omega) (by simp only [List.length_cons];omega) (by simp only [List.length_cons];omega)
     (by rw [VU,NF,if_neg (by omega),XN rfl,aF4 (by omega),hwa]) (merge_lt h)
   ·by_cases h':k.At<j.At
    ·exact go (j::f) g a (b+k.Net) k.At lf k.At (by simp only [List.length_cons];omega) hf hg.2 (by simp only [List.length_cons];omega) (by simp only [List.length_cons];omega) (by omega) (by omega)
      (by rw [VU,NF,if_pos h',aF6 (by omega),XH rfl,hwb]) (aCu h')
    ·have he:j.At=k.At:=by omega
     exact go f g (a+j.Net) (b+k.Net) j.At j.At k.At (by omega) hf.2 hg.2 (by omega) (by omega) (by omega) (by omega)
      (by rw [VU,NF,if_neg h',XN rfl,XH he.symm,hwa,hwb]) (aCk he)
def comb (OP:Int->Int->Int)(f g:List aB):List aB:=rF 0 ((merge f g 0 0).map fun x=>(x.1,OP x.2.1 x.2.2))
def told (f:List aB):List aB×Int:=if dU f then (f,0) else ([],7)
theorem aFe (f:List aB):zT f=some (told f):=aMO f
theorem aMK {op:Int->Int->Option Int}{OP:Int->Int->Int}(hop:∀ a b,a<=1073741824 -> -1073741824<=a->b<=1073741824 -> -1073741824<=b->op a b=some (OP a b) /\ -2305843009213693952<=OP a b/\OP a b<=2305843009213693952)(f g:List aB) :
  KI f g op=some (if dU f&&dU g then told (comb OP f g) else ([],2)):=by
 unfold KI;rw [RF,RF];simp only [Option.bind_some]
 cases hf:dU f
 ·simp [cR]
 ·cases hg:dU g
  ·simp [cR]
  ·obtain⟨f1,f2⟩:=eU.1 hf;obtain⟨g1,g2⟩:=eU.1 hg;simp only [cR,Bool.not_true,Bool.not_false,cond_true,Option.bind_some,Bool.or_self,cond_false,Bool.and_self,if_true];unfold NZ;rw [aMG hop (f.length+g.length) f g [] 0 0 0 (-2) (-2) (Nat.le_refl _) f2 g2 (by omega) (by omega) (by omega) (by omega) (by omega) (by simp only [List.length_nil];omega)];simp [GM,aFe,comb]
theorem aNL (a b:Int)(h1:a<=1073741824)(h2 : -1073741824<=a)(h3:b<=1073741824)(h4 : -1073741824<=b):AS a b=some (a+b) /\ -2305843009213693952<=a+b/\a+b<=2305843009213693952:=by
 refine⟨?_,by omega,by omega⟩;unfold AS;rw [cZ (by omega) (by omega)]
def two (OP:Int->Int->Int)(f g:List aB):List aB×Int:=if dU f&&dU g then told (comb OP f g) else ([],2)
theorem add_eq (f g:List aB):NL f g=some (two (· + ·) f g):=by
 unfold NL;rw [aMK (OP:=(· + ·)) aNL];rfl
theorem aFT (p v was t:Int):val (emit p v was) t=if p<=t then v-was else 0:=by
 unfold emit;by_cases h:v=was
 ·rw [if_pos h,PJ,h];split <;> omega
 ·rw [if_neg h,eS,PJ];simp
theorem pI.tE {l t:Int}{f:List aB}(h:pI l f)(ht:t<=l):val f t=0:=FC fun j hj=>by have:=(h.above j hj).1;omega
theorem aLD (OP:Int->Int->Int)(t:Int):∀ (n:Nat) (f g:List aB) (a b lf lg:Int),f.length+g.length<=n->pI lf f->pI lg g ->
  val (rF (OP a b) ((merge f g a b).map fun x=>(x.1,OP x.2.1 x.2.2))) t=OP (a+val f t) (b+val g t)-OP a b:=by
 intro n
 induction n with
 | zero =>
  intro f g a b lf lg hn _ _;have h1:f=[]:=List.length_eq_zero_iff.1 (by omega);have h2:g=[]:=List.length_eq_zero_iff.1 (by omega);subst h1;subst h2;rw [RU];simp [rF,val]
 | succ n ih =>
  intro f g a b lf lg hn hf hg
  have go:∀ (f' g':List aB) (a' b' p lf' lg':Int),f'.length+g'.length<=n->pI lf' f'->pI lg' g'->merge f g a b=(p,a',b')::merge f' g' a' b' ->
    (p<=t->a+val f t=a'+val f' t/\b+val g t=b'+val g' t)->(t<p->val f t=0/\val g t=0/\val f' t=0/\val g' t=0) ->
    val (rF (OP a b) ((merge f g a b).map fun x=>(x.1,OP x.2.1 x.2.2))) t=OP (a+val f t) (b+val g t)-OP a b:=by
   intro f' g' a' b' p lf' lg' hlen hf' hg' hm h1 h2;rw [hm];simp only [List.map_cons,rF];rw [zO,aFT,ih f' g' a' b' lf' lg' hlen hf' hg'];by_cases hp:p<=t
   ·obtain⟨e1,e2⟩:=h1 hp;rw [if_pos hp,e1,e2];omega
   ·obtain⟨e1,e2,e3,e4⟩:=h2 (by omega);rw [if_neg hp,e1,e2,e3,e4];simp
  rcases f with _ | ⟨j,f⟩ <;> rcases g with _ | ⟨k,g⟩
  ·rw [RU];simp [rF,val]
  ·simp only [List.length_cons,List.length_nil] at hn;refine go [] g a (b+k.Net) k.At lf k.At (by simp only [List.length_nil];omega) trivial hg.2 aDB (fun hp=>⟨rfl,?_⟩) (fun hp=>⟨rfl,?_,rfl,?_⟩)
   ·rw [eS,if_pos hp];omega
   ·rw [eS,if_neg (by omega),hg.2.tE (by omega)];rfl
   ·exact hg.2.tE (by omega)
  ·simp only [List.length_cons,List.length_nil] at hn;refine go f [] (a+j.Net) b j.At j.At lg (by simp only [List.length_nil];omega) hf.2 trivial aDG (fun hp=>⟨?_,rfl⟩) (fun hp=>⟨?_,rfl,?_,rfl⟩)
   ·rw [eS,if_pos hp];omega
   ·rw [eS,if_neg (by omega),hf.2.tE (by omega)];rfl
   ·exact hf.2.tE (by omega)
  ·simp only [List.length_cons] at hn;by_cases h:j.At<k.At
   ·refine go f (k::g) (a+j.Net) b j.At j.At lg (by simp only [List.length_cons];omega) hf.2 hg (merge_lt h) (fun hp=>⟨?_,rfl⟩) (fun hp=>⟨?_,?_,?_,?_⟩)
    ·rw [eS,if_pos hp];omega
    ·rw [eS,if_neg (by omega),hf.2.tE (by omega)];rfl
    ·rw [eS,if_neg (by omega),hg.2.tE (by omega)];rfl
    ·exact hf.2.tE (by omega)
    ·rw [eS,if_neg (by omega),hg.2.tE (by omega)];rfl
   ·by_cases h':k.At<j.At
    ·refine go (j::f) g a (b+k.Net) k.At lf k.At (by simp only [List.length_cons];omega) hf hg.2 (aCu h') (fun hp=>⟨rfl,?_⟩) (fun hp=>⟨?_,?_,?_,?_⟩)
     ·rw [eS,if_pos hp];omega
     ·rw [eS,if_neg (by omega),hf.2.tE (by omega)];rfl
     ·rw [eS,if_neg (by omega),hg.2.tE (by omega)];rfl
     ·rw [eS,if_neg (by omega),hf.2.tE (by omega)];rfl
     ·exact hg.2.tE (by omega)
    ·have he:j.At=k.At:=by omega
     refine go f g (a+j.Net) (b+k.Net) j.At j.At k.At (by omega) hf.2 hg.2 (aCk he) (fun hp=>⟨?_,?_⟩) (fun hp=>⟨?_,?_,?_,?_⟩)
     ·rw [eS,if_pos hp];omega
     ·rw [eS,if_pos (by omega)];omega
     ·rw [eS,if_neg (by omega),hf.2.tE (by omega)];rfl
     ·rw [eS,if_neg (by omega),hg.2.tE (by omega)];rfl
     ·exact hf.2.tE (by omega)
     ·exact hg.2.tE (by omega)
theorem aLo {OP:Int->Int->Int}(h0:OP 0 0=0){f g:List aB}(hf:dU f=true)(hg:dU g=true)(t:Int):val (comb OP f g) t=OP (val f t) (val g t):=by
 have:=aLD OP t _ f g 0 0 (-2) (-2) (Nat.le_refl _) (eU.1 hf).2 (eU.1 hg).2;rw [h0] at this
 simpa [comb] using this
theorem ZU {f:List aB}(hf:dU f=true)(t:Int):val f t<=1073741824 /\ -1073741824<=val f t:=by
 obtain⟨h1,h2⟩:=eU.1 hf;have:=aAr t (b:=1048576) (by omega) (fun j hj=>by have:=h2.above j hj;omega) (f:=f);omega
def JY (f:List aB):Nat->Int
 | 0 => -2
 | k+1=>(f.getD k default).At
theorem aHv {f:List aB}{i:Nat}{a:aB}{last:Int}(ha:f[i]?=some a)(hl:f.length<=1024)(hlast:last=JY f i)(hp : -2<=last)(hp':0<i -> -1<=last) :
  sC f i=some (if xW last a then .inr (.inr false) else .inl ((i+1:Nat):Int)):=by
 obtain⟨d1,d2,d3,d4⟩:=idx ha (by omega);have hlt:i<f.length:=(List.getElem?_eq_some_iff.1 ha).1;simp only [sC,d1,cond_true,d3,d4];rw [aQ d2,aQ (fun _=>d2),aQ (fun _=>d2),aQ (fun _=>d2),aQ (fun _=>d2),aQ (fun _=>d2)]
 cases i with
 | zero =>
  rw [aQ (fun h=>by simp at h)];have hm2:last = -2:=hlast;subst hm2;by_cases hb:xW (-2) a=true
  ·rw [if_pos hb]
   have hx:(((((decide (a.At < -1))||(decide (1125899906842624<=a.At)))||(decide (a.Net=0)))||(decide (1048576<a.Net)))||(decide (a.Net < -1048576)))=true:=by
    simp [xW,OM] at hb ⊢;omega
   rw [hx,cond_true]
  ·have hb':xW (-2) a=false:=by simpa using hb
   rw [if_neg hb];rw [sK] at hb'
   have hx:(((((decide (a.At < -1))||(decide (1125899906842624<=a.At)))||(decide (a.Net=0)))||(decide (1048576<a.Net)))||(decide (a.Net < -1048576)))=false:=by
    simp;omega
   rw [hx,cond_false];simp
 | succ k =>
  have hw:i64.wrap (((k+1:Nat):Int)-1)=(k:Int):=by rw [cZ (by omega) (by omega)];omega
  have hg:List.getD f (Int.toNat (k:Int)) default=f.getD k default:=by rw [Int.toNat_natCast]
  rw [hw,hg,aQ (fun _=>⟨by omega,by omega⟩)];have hpos:decide (0<((k+1:Nat):Int))=true:=by simp
  have b6:=hp' (by omega);have b5:(f.getD k default).At=last:=hlast.symm;rw [hpos,Bool.true_and,b5];by_cases hb:xW last a=true
  ·rw [if_pos hb];by_cases hx:(((((decide (a.At < -1))||(decide (1125899906842624<=a.At)))||(decide (a.Net=0)))||(decide (1048576<a.Net)))||(decide (a.Net < -1048576)))=true
   ·rw [hx,cond_true]
   ·have hx':(((((decide (a.At < -1))||(decide (1125899906842624<=a.At)))||(decide (a.Net=0)))||(decide (1048576<a.Net)))||(decide (a.Net < -1048576)))=false:=by simpa using hx
    have hy:decide (a.At<=last)=true:=by
     simp [xW,OM] at hb hx' ⊢;omega
    rw [hx',cond_false,hy,cond_true]
  ·have hb':xW last a=false:=by simpa using hb
   rw [if_neg hb];rw [sK] at hb'
   have hx:(((((decide (a.At < -1))||(decide (1125899906842624<=a.At)))||(decide (a.Net=0)))||(decide (1048576<a.Net)))||(decide (a.Net < -1048576)))=false:=by
    simp;omega
   have hy:decide (a.At<=last)=false:=by simp;omega
   rw [hx,cond_false,hy,cond_false]
theorem aEc {f:List aB}(hl:f.length<=1024):∀ (m k:Nat),f.length-k=m->k<=f.length -> -2<=JY f k->(0<k -> -1<=JY f k)->lp (fun s=>sC f s) (k:Int)=some (if chk (JY f k) (f.drop k)=true then .inl () else .inr false)
 | 0,k,hm,hk,_,_=>by
  have : k=f.length:=by omega
  subst this;rw [List.drop_length];refine cY ?_;show sC f _=_;simp [sC,chk]
 | m+1,k,hm,hk,hp,hp'=>by
  have h1:k<f.length:=by omega
  have hb:=aHv (List.getElem?_eq_getElem h1) hl rfl hp hp';have e1:f.drop k=f[k]::f.drop (k+1):=List.drop_eq_getElem_cons h1;have hpa:JY f (k+1)=f[k].At:=by simp [JY,List.getD_eq_getElem?_getD,h1]
  rw [e1];by_cases h:xW (JY f k) f[k]=true
  ·rw [if_pos h] at hb;rw [cY (show (fun s=>sC f s) (k:Int)=_ from hb)];simp [chk,h]
  ·rw [if_neg h] at hb;have h':xW (JY f k) f[k]=false:=by simpa using h
   have:=sK.1 h';rw [fA (show (fun s=>sC f s) (k:Int)=_ from hb),aEc hl m (k+1) (by omega) (by omega) (by rw [hpa];omega) (fun _=>by rw [hpa];omega),hpa];simp [chk,h']
theorem FL (f:List aB):qX f=some (dU f):=by
 unfold qX dU;by_cases hl:f.length<=1024
 ·have h1:decide (1024<((f.length:Nat):Int))=false:=by simp;omega
  rw [h1,cond_false];unfold NW;have:=aEc hl f.length 0 rfl (Nat.zero_le _) (by simp [JY]) (by omega);simp only [Int.natCast_zero,List.drop_zero,JY] at this;rw [this]
  cases h:chk (-2) f <;> simp [GA,hl]
 ·have h1:decide (1024<((f.length:Nat):Int))=true:=by simp;omega
  rw [h1,cond_true];simp [hl]
def BU (f:List aB):Int:=(f.map aB.Net).sum
theorem aD5 (j:aB)(f:List aB):BU (j::f)=j.Net+BU f:=by simp [BU]
def pW (t:Int):List aB->List aB
 | []=>[]
 | j::r=>if t<=j.At then [] else j::pW t r
def aft (t:Int):List aB->List aB
 | []=>[]
 | j::r=>if t<=j.At then j::r else aft t r
theorem UM (t:Int):∀ f:List aB,pW t f++aft t f=f
 | []=>rfl
 | j::r=>by
  unfold pW aft;split
  ·rfl
  ·simp [UM t r]
theorem TI {t:Int}:∀ {f:List aB},∀ j∈pW t f,j.At<t
 | [],j,h=>by simp [pW] at h
 | k::r,j,h=>by
  unfold pW at h;split at h
  ·simp at h
  ·rcases List.mem_cons.1 h with rfl | h
   ·omega
   ·exact TI j h
theorem aGZ {t l:Int}:∀ {f:List aB},pI l f -> ∀ j∈aft t f,t<=j.At
 | [],_,j,h=>by simp [aft] at h
 | k::r,hr,j,h=>by
  unfold aft at h;split at h
  ·rcases List.mem_cons.1 h with rfl | h
   ·assumption
   ·have:=(hr.2.above j h).1;omega
  ·exact aGZ hr.2 j h
theorem aDQ {f:List aB}{t:Int}(h:∀ j∈f,j.At<=t):val f t=BU f:=by
 induction f with
 | nil=>rfl
 | cons j r ih=>rw [eS,aD5,if_pos (h j (List.mem_cons_self ..)),ih fun k hk=>h k (List.mem_cons_of_mem _ hk)]
theorem aGh (t:Int):∀ f:List aB,(pW t f).length<=f.length
 | []=>by simp [pW]
 | j::r=>by
  unfold pW;split
  ·simp
  ·simpa using aGh t r
theorem aGS {l t p:Int}{f:List aB}(hf:pI l f)(hp:p<t):val f p=val (pW t f) p:=by
 conv=>lhs;rw [←UM t f]
 rw [zO,FC (f:=aft t f) (fun j hj=>by have:=aGZ hf j hj;omega)];omega
theorem aMW {l t p:Int}{f:List aB}(hf:pI l f)(hp:t<=p):val f p=BU (pW t f)+val (aft t f) p:=by
 conv=>lhs;rw [←UM t f]
 rw [zO,aDQ (fun j hj=>by have:=TI j hj;omega)]
theorem aKL {l t:Int}{f:List aB}(hf:pI l f):BU (pW t f)=val f (t-1):=by
 rw [aGS hf (p:=t-1) (t:=t) (by omega),aDQ (fun j hj=>by have:=TI j hj;omega)]
def UN (t:Int)(f:List aB):List aB:=pW t f++(if BU (pW t f)=0 then [] else [⟨t,-BU (pW t f)⟩])
def ahead (f:List aB)(t:Int):List aB×Int :=
 if dU f then (if 1125899906842624<=t then (f,0) else told (UN t f)) else ([],2)
theorem aLv {f:List aB}(hl:f.length<=1024):gO f=some f:=by
 unfold gO;exact aQ ⟨by omega,by omega⟩
theorem aJx {t:Int}(f:List aB):∀ (l v:Int) (k:Nat),pI l f->v<=1048576*(2048-f.length) -> -(1048576*(2048-f.length))<=v->f.length<=1024 ->
  xY (fun (s:Int×Nat) (j:aB)=>some (if t<=j.At then .inr (s.1,((s.2:Nat):Int)) else .inl (i64.wrap (s.1+j.Net),s.2+1))) (fun s=>(s.1,((s.2:Nat):Int))) (v,k) f=some (v+BU (pW t f),((k+(pW t f).length:Nat):Int)):=by
 induction f with
 | nil=>intro l v k _ _ _ _; simp [xY,pW,BU]
 | cons j r ih =>
  intro l v k h h1 h2 hl;simp only [List.length_cons] at h1 h2 hl;have b5:=h.1;by_cases hj:t<=j.At
  ·rw [aCJ (x:=(v,((k:Nat):Int))) (by simp [hj])];simp [pW,hj,BU]
  ·have hw:i64.wrap (v+j.Net)=v+j.Net:=cZ (by omega) (by omega);rw [aCB (s':=(v+j.Net,k+1)) (by simp [hj,hw])];rw [ih j.At (v+j.Net) (k+1) h.2 (by omega) (by omega) (by omega)];have : pW t (j::r)=j::pW t r:=by simp [pW,hj]
   rw [this,aD5,List.length_cons]
   congr 2
   ·omega
   ·congr 1;omega
def SN (t:Int)(f:List aB):List aB:=(if BU (pW t f)=0 then [] else [⟨-1,BU (pW t f)⟩])++aft t f
def rest (f:List aB)(t:Int):List aB×Int :=
 if dU f then (if 1125899906842624<=t then ([],0) else if t <= -1 then (f,0) else told (SN t f)) else ([],2)
theorem aKk (t:Int)(f:List aB):List.drop (pW t f).length f=aft t f:=by
 rw [show List.drop (pW t f).length f=List.drop (pW t f).length (pW t f++aft t f) by rw [UM]];exact List.drop_left
theorem aMz (f:List aB)(t:Int):DP f t=some (rest f t):=by
 unfold DP rest;rw [RF];simp only [Option.bind_some]
 cases h:dU f
 ·simp
 ·obtain⟨hl,hr⟩:=eU.1 h;simp only [Bool.not_true,cond_false,if_true];by_cases ht:1125899906842624<=t
  ·simp [ht]
  ·rw [decide_eq_false ht,cond_false,if_neg ht];by_cases ht':t <= -1
   ·simp [ht',aLv hl]
   ·rw [decide_eq_false ht',cond_false,if_neg ht'];unfold ND
    have key:=aKu (l:=f) (body:=fun s:Int×Int=>sD f t s.1 s.2) (fun (s:Int×Nat) i=>(s.1,i)) _ _ (fun i s=>s.2=i)
     (fun i a s hi ha=>by
      obtain⟨d1,d2,d3,d4⟩:=idx ha (by omega)
      have hb:sD f t s.1 i=some (if t<=a.At then .inr (s.1,((s.2:Nat):Int)) else .inl (i64.wrap (s.1+a.Net),((i+1:Nat):Int))):=by
       simp only [sD,d1,Bool.true_and,d3,d4];rw [aQ (fun _=>d2),aQ d2,hi];by_cases h:t<=a.At
       ·have : decide (a.At<t)=false:=by simp;omega
        simp [h,this]
       ·have : decide (a.At<t)=true:=by simp;omega
        simp [h,this]
      by_cases hh:t<=a.At
      ·refine⟨fun s' hs=>by simp [hh] at hs,fun x hs=>?_⟩;simp [hh] at hs;subst hs;show sD f t s.1 i=_;rw [hb,if_pos hh]
      ·refine⟨fun s' hs=>?_,fun x hs=>by simp [hh] at hs⟩;simp [hh] at hs;subst hs;refine⟨by simp [hi],?_⟩;show sD f t s.1 i=_;rw [hb,if_neg hh])
     (fun s hi=>by
      show sD f t s.1 (f.length:Nat)=_;simp only [sD,eP,Bool.false_and,cond_false];rw [aQ (fun h=>by cases h),hi]) (s:=(0,0)) rfl (aJx (t:=t) f (-2) 0 0 hr (by omega) (by omega) hl)
    rw [key];have hlen:=aGh t f
    have hal:(aft t f).length<=f.length:=by
     have:=congrArg List.length (UM t f);simp only [List.length_append] at this;omega
    have hto:∀ n:Nat,Int.toNat (n:Int)=n:=fun n=>Int.toNat_natCast n;simp only [Option.bind_some,Nat.zero_add,Int.zero_add,GO,GK,SN,hto,aKk,aFe];by_cases hv:BU (pW t f)=0
    ·simp only [hv,decide_true,Bool.not_true,cond_false,if_true,List.nil_append];rw [aQ ⟨by omega,by omega⟩,aQ (by simp only [List.length_nil];omega)]
    ·simp only [hv,decide_false,Bool.not_false,cond_true,if_false];rw [aQ (by simp),aQ ⟨by omega,by omega⟩,aQ (by simp only [List.length_cons,List.length_nil];omega)]
def Up (last:Int):List aB->Prop
 | []=>True
 | j::r=>(last<j.At/\j.At<1125899906842624/\j.Net≠0)/\Up j.At r
theorem Up.above:∀ {f:List aB} {last:Int},Up last f -> ∀ j∈f,last<j.At/\j.At<1125899906842624/\j.Net≠0
 | [],_,_,j,hj=>by simp at hj
 | a::r,last,h,j,hj=>by
  rcases List.mem_cons.1 hj with rfl | hj
  ·exact h.1
  ·have:=h.2.above j hj;have h1:=h.1.1;exact⟨by omega,this.2⟩
theorem Up.tE {l t:Int}{f:List aB}(h:Up l f)(ht:t<=l):val f t=0:=FC fun j hj=>by have:=(h.above j hj).1;omega
theorem Up.weaken {a b:Int}{f:List aB}(h:Up b f)(hab:a<=b):Up a f:=by
 cases f with
 | nil=>trivial
 | cons j r=>exact ⟨⟨by have:=h.1.1; omega,h.1.2⟩,h.2⟩
theorem pI.up:∀ {f:List aB} {last:Int},pI last f->Up last f
 | [],_,_=>trivial
 | _::_,_,h=>⟨⟨h.1.1,h.1.2.1,h.1.2.2.1⟩,h.2.up⟩
theorem Up.ext:∀ {f g:List aB} {last:Int},Up last f->Up last g->(∀ t,last<t->t<1125899906842624->val f t=val g t)->f=g
 | [],[],_,_,_,_=>rfl
 | j::r,[],last,hf,_,h=>by
  have:=h j.At hf.1.1 hf.1.2.1;rw [eS,if_pos (Int.le_refl _),hf.2.tE (Int.le_refl _),PJ] at this;exact absurd (by omega) hf.1.2.2
 | [],k::s,last,_,hg,h=>by
  have:=h k.At hg.1.1 hg.1.2.1;rw [eS,if_pos (Int.le_refl _),hg.2.tE (Int.le_refl _),PJ] at this;exact absurd (by omega) hg.1.2.2
 | j::r,k::s,last,hf,hg,h=>by
  have h1:=h j.At hf.1.1 hf.1.2.1;have h2:=h k.At hg.1.1 hg.1.2.1;rw [eS,if_pos (Int.le_refl _),hf.2.tE (Int.le_refl _),eS] at h1;rw [eS,eS k,if_pos (Int.le_refl _),hg.2.tE (Int.le_refl _)] at h2;have n1:=hf.1.2.2;have n2:=hg.1.2.2
  have he:j.At=k.At:=by
   rcases Int.lt_trichotomy j.At k.At with h3 | h3 | h3
   ·rw [if_neg (by omega),hg.2.tE (by omega)] at h1;omega
   ·exact h3
   ·rw [if_neg (by omega),hf.2.tE (by omega)] at h2;omega
  rw [if_pos (by omega),hg.2.tE (by omega)] at h1
  have hj:j=k:=by
   obtain⟨a,b⟩:=j;obtain ⟨c,d⟩:=k;simp only at he h1;simp only [Int.add_zero] at h1;rw [he,h1]
  subst hj
  rw [hf.2.ext hg.2 (fun t ht ht'=>by
   have:=h t (by have:=hf.1.1;omega) ht';rw [eS,eS] at this;omega)]
def Inc (last:Int):List Int->Prop
 | []=>True
 | p::r=>(last<p/\p<1125899906842624)/\Inc p r
theorem Inc.above:∀ {ps:List Int} {last:Int},Inc last ps -> ∀ p∈ps,last<p/\p<1125899906842624
 | [],_,_,j,hj=>by simp at hj
 | a::r,last,h,j,hj=>by
  rcases List.mem_cons.1 hj with rfl | hj
  ·exact h.1
  ·have:=h.2.above j hj;have h1:=h.1.1;exact⟨by omega,this.2⟩
theorem UT:∀ {l:List (Int×Int)} {last was:Int},Inc last (l.map Prod.fst)->Up last (rF was l)
 | [],_,_,_=>trivial
 | x::r,last,was,h=>by
  simp only [rF];have ih:Up x.1 (rF x.2 r):=UT h.2;have h1:last<x.1/\x.1<1125899906842624:=h.1;unfold emit;split
  ·exact ih.weaken (by omega)
  ·exact⟨⟨h1.1,h1.2,by simp only;omega⟩,ih⟩
theorem aAe {F:Int->Int}:∀ {ps:List Int} {last:Int},Inc last ps->(∀ s t,last<=s->s<=t->t<1125899906842624->(∀ p∈ps,¬ (s<p/\p<=t))->F s=F t) ->
  ∀ t,last<=t->t<1125899906842624->val (rF (F last) (ps.map fun p=>(p,F p))) t=F t-F last
 | [],last,_,hF,t,h1,h2=>by
  have:=hF last t (Int.le_refl _) h1 h2 (by simp);simp [rF,val,this]
 | p::r,last,hi,hF,t,h1,h2=>by
  simp only [List.map_cons,rF];rw [zO,aFT];by_cases hp:p<=t
  ·rw [if_pos hp,aAe (F:=F) hi.2 (fun s t' hs hst ht' hn=>hF s t' (by have:=hi.1.1;omega) hst ht' (fun q hq=>by
    rcases List.mem_cons.1 hq with rfl | hq
    ·omega
    ·exact hn q hq)) t hp h2]
   omega
  ·have:=hF last t (Int.le_refl _) h1 h2 (fun q hq=>by
    rcases List.mem_cons.1 hq with rfl | hq
    ·omega
    ·have:=(hi.2.above q hq).1;omega)
   rw [if_neg hp,Up.tE (UT (last:=p) (by rw [List.map_map];simpa [Function.comp_def] using hi.2)) (by omega)];omega
theorem pI.restrict {l m:Int}{k:aB}{g:List aB}(h:pI l (k::g))(hm:m<k.At):pI m (k::g):=⟨⟨hm,h.1.2⟩,h.2⟩
theorem aKS:∀ (n:Nat) (f g:List aB) (a b last:Int),f.length+g.length<=n->pI last f->pI last g->Inc last ((merge f g a b).map Prod.fst):=by
 intro n
 induction n with
 | zero =>
  intro f g a b last hn _ _;have h1:f=[]:=List.length_eq_zero_iff.1 (by omega);have h2:g=[]:=List.length_eq_zero_iff.1 (by omega);subst h1;subst h2;rw [RU];trivial
 | succ n ih =>
  intro f g a b last hn hf hg;rcases f with _ | ⟨j,f⟩ <;> rcases g with _ | ⟨k,g⟩
  ·rw [RU];trivial
  ·rw [aDB];simp only [List.length_cons,List.length_nil] at hn;exact⟨⟨hg.1.1,hg.1.2.1⟩,ih _ _ _ _ _ (by simp only [List.length_nil];omega) trivial hg.2⟩
  ·rw [aDG];simp only [List.length_cons,List.length_nil] at hn;exact⟨⟨hf.1.1,hf.1.2.1⟩,ih _ _ _ _ _ (by simp only [List.length_nil];omega) hf.2 trivial⟩
  ·simp only [List.length_cons] at hn;by_cases h:j.At<k.At
   ·rw [merge_lt h];exact⟨⟨hf.1.1,hf.1.2.1⟩,ih _ _ _ _ _ (by simp only [List.length_cons];omega) hf.2 (hg.restrict h)⟩
   ·by_cases h':k.At<j.At
    ·rw [aCu h'];exact⟨⟨hg.1.1,hg.1.2.1⟩,ih _ _ _ _ _ (by simp only [List.length_cons];omega) (hf.restrict h') hg.2⟩
    ·have he:j.At=k.At:=by omega
     rw [aCk he];exact⟨⟨hf.1.1,hf.1.2.1⟩,ih _ _ _ _ _ (by omega) hf.2 (by rw [he];exact hg.2)⟩
theorem aMS {OP:Int->Int->Int}{f g:List aB}(hf:dU f=true)(hg:dU g=true):Up (-2) (comb OP f g):=by
 refine UT ?_;rw [List.map_map];exact aKS _ f g 0 0 (-2) (Nat.le_refl _) (eU.1 hf).2 (eU.1 hg).2
theorem aMC {OP:Int->Int->Int}(h0:OP 0 0=0){f g h:List aB}(hf:dU f=true)(hg:dU g=true)(hh:Up (-2) h)(hv:∀ t,-2<t->t<1125899906842624->val h t=OP (val f t) (val g t)):comb OP f g=h :=
 (aMS hf hg).ext hh fun t h1 h2=>by rw [aLo h0 hf hg,hv t h1 h2]
theorem aFi {f:List aB}(h:dU f=true):Up (-2) f:=(eU.1 h).2.up
theorem aCt {F:Int->Int}(h2:F (-2)=0){ps:List Int}(hi:Inc (-2) ps)(hF:∀ s t,-2<=s->s<=t->t<1125899906842624->(∀ p∈ps,¬ (s<p/\p<=t))->F s=F t){h:List aB}(hh:Up (-2) h)(hv:∀ t,-2<t->t<1125899906842624->val h t=F t) :
  rF 0 (ps.map fun p=>(p,F p))=h:=by
 refine (UT (by rw [List.map_map];simpa [Function.comp_def] using hi)).ext hh fun t h3 h4=>?_;have:=aAe hi hF t (by omega) h4;rw [h2] at this;rw [this,hv t h3 h4];omega
theorem aBK {f:List aB}(t:Int)(hb:∀ j∈f,j.Net<=1048576 /\ -1048576<=j.Net)(hl:f.length<=1099511627776):pK f t=some (val f t):=by
 unfold pK IJ
 rw [kP (l:=f) (body:=fun s:Int×Int=>pP f t s.1 s.2) (fun v i=>(v,i)) (fun v r=>v+val r t)
  (fun v r=>(∀ j∈r,j.Net<=1048576 /\ -1048576<=j.Net)/\r.length<=1099511627776/\v<=1048576*(1099511627776-r.length) /\ -(1048576*(1099511627776-r.length))<=v) 0 ?_ ?_ ?_]
 ·simp [AV]
 ·intro i a r v ha ⟨h1,h2,h3,h4⟩;obtain⟨d1,d2,d3,d4⟩:=idx ha (by omega);have hj:=h1 a (List.mem_cons_self ..);simp only [List.length_cons] at h2 h3 h4;left;by_cases h:a.At<=t
  ·refine⟨v+a.Net,?_,⟨fun j hj=>h1 j (List.mem_cons_of_mem _ hj),by omega,by omega,by omega⟩,?_⟩
   ·show pP f t v i=_;have hw:i64.wrap (v+a.Net)=v+a.Net:=cZ (by omega) (by omega);simp only [pP,xE,d1,cond_true,aQ d2,d3,d4,h,decide_true,hw]
   ·show v+a.Net+val r t=v+val (a::r) t;rw [eS,if_pos h];omega
  ·refine⟨v,?_,⟨fun j hj=>h1 j (List.mem_cons_of_mem _ hj),by omega,by omega,by omega⟩,?_⟩
   ·show pP f t v i=_;simp only [pP,xE,d1,cond_true,aQ d2,d3,d4,h,decide_false,cond_false]
   ·show v+val r t=v+val (a::r) t;rw [eS,if_neg h];omega
 ·intro s _;show pP f t s (f.length:Nat)=_;simp only [pP,eP,cond_false];simp [val]
 ·exact⟨hb,hl,by omega,by omega⟩
theorem FE {f:List aB}(h:dU f=true):∀ j∈f,j.Net<=1048576 /\ -1048576<=j.Net:=fun j hj=>by have:=(eU.1 h).2.above j hj;omega
theorem NB {f:List aB}(h:dU f=true)(t:Int):pK f t=some (val f t) :=
 aBK t (FE h) (by have:=(eU.1 h).1;omega)
def rG (t:Int):List Int->List Int
 | []=>[t]
 | p::r=>if p=t then p::r else if t<p then t::p::r else p::rG t r
theorem ME {t x:Int}:∀ {ps:List Int},x∈rG t ps↔x=t∨x∈ps
 | []=>by simp [rG]
 | p::r=>by
  unfold rG;split
  ·rename_i h;subst h;simp
  ·split
   ·simp
   ·simp only [List.mem_cons,ME (ps:=r)]; constructor <;> (intro h; rcases h with h | h | h <;> simp [h])
theorem MN {t:Int}:∀ {ps:List Int} {last:Int},Inc last ps->last<t->t<1125899906842624->Inc last (rG t ps)
 | [],last,_,h1,h2=>⟨⟨h1,h2⟩,trivial⟩
 | p::r,last,h,h1,h2=>by
  unfold rG;split
  ·exact h
  ·split
   ·rename_i h3 h4
    exact⟨⟨h1,h2⟩,⟨h4,h.1.2⟩,h.2⟩
   ·exact⟨h.1,MN h.2 (by omega) h2⟩
theorem MH {t:Int}:∀ {ps:List Int},(rG t ps).length<=ps.length+1
 | []=>by simp [rG]
 | p::r=>by
  unfold rG;split
  ·simp
  ·split
   ·simp
   ·simp only [List.length_cons];have:=MH (t:=t) (ps:=r);omega
theorem aA0 {t:Int}:∀ {ps:List Int},(∀ x∈ps,x<t)->rG t ps=ps++[t]
 | [],_=>rfl
 | p::r,h=>by
  have:=h p (List.mem_cons_self ..);unfold rG;rw [if_neg (by omega),if_neg (by omega),aA0 (fun x hx=>h x (List.mem_cons_of_mem _ hx))];rfl
theorem aC9 {t:Int}:∀ {ps:List Int} {last:Int},Inc last ps->t∈ps->rG t ps=ps
 | [],_,_,h=>by simp at h
 | p::r,last,hi,h=>by
  unfold rG;split
  ·rfl
  ·rename_i hp
   rcases List.mem_cons.1 h with h | h
   ·exact absurd h.symm hp
   ·have:=(hi.2.above t h).1;rw [if_neg (by omega),aC9 hi.2 h]
theorem aJS {l out:List Int}{t a:Int}{put:Bool}{i:Nat}(ha:l[i]?=some a)(hl:l.length<=1099511627776)(ho:out.length<=2199023255552) :
  oG l t out put i=some (if a=t then .inr (.inr l) else if t<a/\put=false then .inl (out++[t]++[a],true,((i+1:Nat):Int)) else .inl (out++[a],put,((i+1:Nat):Int))):=by
 obtain⟨d1,d2,d3,d4⟩:=idx ha (by omega);simp only [oG,DC,d1,cond_true,aQ d2,d3,d4];by_cases h1:a=t
 ·simp [h1]
 ·rw [decide_eq_false h1,cond_false,if_neg h1];by_cases h2:t<a
  ·cases put
   ·simp only [h2,decide_true,Bool.not_false,Bool.and_self,cond_true,and_self,if_true];rw [aQ (by simp only [List.length_cons,List.length_nil];omega),aQ (by simp only [List.length_append,List.length_cons,List.length_nil];omega)]
   ·simp only [h2,decide_true,Bool.not_true,Bool.and_false,cond_false,and_false,if_false,reduceCtorEq];rw [aQ (by simp only [List.length_cons,List.length_nil];omega)]
  ·simp only [h2,decide_false,Bool.false_and,cond_false,false_and,if_false];rw [aQ (by simp only [List.length_cons,List.length_nil];omega)]
theorem aBf {l:List Int}{last t:Int}(hi:Inc last l)(hl:l.length<=1099511627776):oH l t=some (rG t l):=by
 unfold oH LA
 rw [kP (l:=l) (body:=fun s:List Int×Bool×Int=>oG l t s.1 s.2.1 s.2.2) (fun (s:List Int×Bool) i=>(s.1,s.2,i))
  (fun s r=>if s.2 then .inl (s.1++r,true) else if t∈r then .inr l else if (∃ x∈r,t<x) then .inl (s.1++rG t r,true) else .inl (s.1++r,false))
  (fun s r=>(∃ m,Inc m r)/\(s.2=true -> ∀ x∈r,t<x)/\r.length<=1099511627776/\s.1.length+r.length<=1099511627777+(if s.2 then 1 else 0)) ([],false) ?_ ?_ ?_]
 ·simp only [Bool.false_eq_true,if_false,List.nil_append,Option.bind_some];by_cases h1:t∈l
  ·simp [h1,aC9 hi h1]
  ·simp only [h1,if_false];by_cases h2:∃ x∈l,t<x
   ·simp only [h2,if_true];simp [yH,yT]
   ·simp only [h2,if_false]
    have : ∀ x∈l,x<t:=fun x hx=>by
     have h3:¬ t<x:=fun h=>h2 ⟨x,hx,h⟩;have h4:x≠t:=fun h=>h1 (h ▸ hx);omega
    rw [aA0 this];simp only [Sum.elim_inl,yH,yT,Bool.not_false,cond_true];rw [aQ (by simp only [List.length_cons,List.length_nil];omega)]
 ·rintro i a r ⟨out,put⟩ ha ⟨⟨m,hm⟩,h1,h2,h3⟩;simp only [List.length_cons] at h2 h3;have hb:=aJS (t:=t) (put:=put) (out:=out) ha hl (by split at h3 <;> omega);have hab:∀ x∈r,a<x:=fun x hx=>(hm.2.above x hx).1
  cases put
  ·by_cases e:a=t
   ·right;show oG l t out false i=_;rw [hb];simp [e]
   ·left;by_cases e2:t<a
    ·have hnt:t ∉ a::r:=fun h=>by
      rcases List.mem_cons.1 h with h | h
      ·exact e h.symm
      ·have:=hab t h;omega
     refine⟨(out++[t]++[a],true),?_,⟨⟨a,hm.2⟩,fun _ x hx=>by have:=hab x hx;omega,by omega,by simp only [List.length_append,List.length_cons,List.length_nil,Bool.false_eq_true,if_false,if_true] at h3 ⊢;omega⟩,?_⟩
     ·show oG l t out false i=_;rw [hb];simp [e,e2]
     ·have hex:∃ x∈a::r,t<x:=⟨a,List.mem_cons_self ..,e2⟩;simp only [if_true,Bool.false_eq_true,if_false,hnt,hex];simp [rG,e,e2]
    ·refine⟨(out++[a],false),?_,⟨⟨a,hm.2⟩,fun h=>absurd h (by simp),by omega,by simp only [List.length_append,List.length_cons,List.length_nil,Bool.false_eq_true,if_false] at h3 ⊢;omega⟩,?_⟩
     ·show oG l t out false i=_;rw [hb];simp [e,e2]
     ·have i1:(t∈a::r)↔t∈r:=by simp only [List.mem_cons]; constructor; (intro h; rcases h with h | h; exact absurd h.symm e; exact h); exact Or.inr
      have i2:(∃ x∈a::r,t<x)↔(∃ x∈r,t<x):=by
       constructor
       ·rintro ⟨x,hx,hx'⟩;rcases List.mem_cons.1 hx with rfl | hx
        ·exact absurd hx' e2
        ·exact⟨x,hx,hx'⟩
       ·rintro ⟨x,hx,hx'⟩;exact ⟨x,List.mem_cons_of_mem _ hx,hx'⟩
      simp only [Bool.false_eq_true,if_false,i1,i2];simp [rG,e,e2]
  ·left;have ht:=h1 rfl a (List.mem_cons_self ..);refine⟨(out++[a],true),?_,⟨⟨a,hm.2⟩,fun _ x hx=>h1 rfl x (List.mem_cons_of_mem _ hx),by omega,by simp only [List.length_append,List.length_cons,List.length_nil,if_true] at h3 ⊢;omega⟩,?_⟩
   ·show oG l t out true i=_;have : a≠t:=by omega
    rw [hb];simp [this]
   ·simp
 ·rintro ⟨out,put⟩ _;show oG l t out put (l.length:Nat)=_;simp only [oG,eP,cond_false]
  cases put <;> simp
 ·exact⟨⟨last,hi⟩,fun h=>absurd h (by simp),hl,by simp only [List.length_nil];simp;omega⟩
def uC (ps:List Int)(f:List aB):List Int:=f.foldl (fun ps j=>rG j.At ps) ps
theorem QB {x:Int}:∀ {f:List aB} {ps:List Int},x∈uC ps f↔x∈ps ∨ ∃ j∈f,j.At=x
 | [],ps=>by simp [uC]
 | k::r,ps=>by
  have:=QB (x:=x) (f:=r) (ps:=rG k.At ps);unfold uC at this ⊢;rw [List.foldl_cons,this,ME];constructor
  ·rintro ((h | h) | ⟨j,h,h'⟩)
   ·exact Or.inr ⟨k,List.mem_cons_self ..,h.symm⟩
   ·exact Or.inl h
   ·exact Or.inr ⟨j,List.mem_cons_of_mem _ h,h'⟩
  ·rintro (h | ⟨j,h,h'⟩)
   ·exact Or.inl (Or.inr h)
   ·rcases List.mem_cons.1 h with rfl | h
    ·exact Or.inl (Or.inl h'.symm)
    ·exact Or.inr ⟨j,h,h'⟩
theorem TN:∀ {f:List aB} {ps:List Int} {last:Int},Inc last ps->(∀ j∈f,last<j.At/\j.At<1125899906842624)->Inc last (uC ps f)
 | [],_,_,h,_=>h
 | k::r,ps,last,h,hf=>by
  have hk:=hf k (List.mem_cons_self ..);exact TN (f:=r) (MN h hk.1 hk.2) fun j hj=>hf j (List.mem_cons_of_mem _ hj)
theorem VA:∀ {f:List aB} {ps:List Int},(uC ps f).length<=ps.length+f.length
 | [],ps=>by simp [uC]
 | k::r,ps=>by
  have:=VA (f:=r) (ps:=rG k.At ps);have h2:=MH (t:=k.At) (ps:=ps);unfold uC at this ⊢;rw [List.foldl_cons];simp only [List.length_cons];omega
theorem aBX {β:Type} {f:List aB} {body:List Int×Int->Option ((List Int×Int)⊕List Int)} {ps:List Int} (hb:∀ (i:Nat) a ps,f[i]?=some a->body (ps,(i:Int))=(oH ps a.At).bind fun x=>some (.inl (x,((i+1:Nat):Int))))
  (he:∀ ps,body (ps,(f.length:Nat))=some (.inr ps)) (hi:Inc (-2) ps) (hf:∀ j∈f,-2<j.At/\j.At<1125899906842624) (hl:ps.length+f.length<=1099511627776):lp body (ps,0)=some (uC ps f):=by
 refine kP (l:=f) (fun ps i=>(ps,i)) (fun ps r=>uC ps r) (fun ps r=>Inc (-2) ps/\(∀ j∈r,-2<j.At/\j.At<1125899906842624)/\ps.length+r.length<=1099511627776) ps ?_ ?_ ⟨hi,hf,hl⟩
 ·rintro i a r ps ha ⟨h1,h2,h3⟩;have hk:=h2 a (List.mem_cons_self ..);have hlen:=MH (t:=a.At) (ps:=ps);simp only [List.length_cons] at h3;left;refine⟨rG a.At ps,?_,⟨MN h1 hk.1 hk.2,fun j hj=>h2 j (List.mem_cons_of_mem _ hj),by omega⟩,rfl⟩;rw [hb i a ps ha,aBf h1 (by omega)];rfl
 ·intro ps _;exact he ps
theorem aEp {f g:List aB}(hf:∀ j∈f,-2<j.At/\j.At<1125899906842624)(hg:∀ j∈g,-2<j.At/\j.At<1125899906842624)(hl:f.length+g.length<=1099511627776):xG f g=some (uC (uC [] f) g):=by
 unfold xG EJ;rw [aBX (β:=Unit) (f:=f) (body:=fun s:List Int×Int=>rX f g s.1 s.2) ?_ ?_ (ps:=[]) (show Inc (-2) [] from trivial) hf (by simp only [List.length_nil];omega)]
 ·simp only [Option.bind_some,zF,EV];rw [aBX (β:=Unit) (f:=g) (body:=fun s:List Int×Int=>rU g s.1 s.2) ?_ ?_ (TN (ps:=[]) (show Inc (-2) [] from trivial) hf) hg (by have:=VA (f:=f) (ps:=[]);simp only [List.length_nil] at this;omega)]
  ·rfl
  ·intro i a ps ha;obtain⟨d1,d2,d3,d4⟩:=idx ha (by omega);show rU g ps i=_;simp only [rU,d1,cond_true,aQ d2,d3,d4]
  ·intro ps;show rU g ps _=_;simp only [rU,eP,cond_false]
 ·intro i a ps ha;obtain⟨d1,d2,d3,d4⟩:=idx ha (by omega);show rX f g ps i=_;simp only [rX,d1,cond_true,aQ d2,d3,d4]
 ·intro ps;show rX f g ps _=_;simp only [rX,eP,cond_false]
theorem ZQ {ps:List Int}{F:Int->Int}(hl:ps.length<=1099511627776)(hb:∀ p∈ps,-2305843009213693952<=F p/\F p<=2305843009213693952) :
  xK ps (ps.map F)=some (told (rF 0 (ps.map fun p=>(p,F p)))):=by
 unfold xK KW
 rw [kP (l:=ps) (body:=fun s:List aB×Int×Int=>tT ps (ps.map F) s.1 s.2.1 s.2.2) (fun (s:List aB×Int) i=>(s.1,s.2,i))
  (fun s r=>s.1++rF s.2 (r.map fun p=>(p,F p))) (fun s r=>(∀ p∈r,-2305843009213693952<=F p/\F p<=2305843009213693952)/\(-2305843009213693952<=s.2/\s.2<=2305843009213693952)/\s.1.length+r.length<=1099511627776) ([],0) ?_ ?_ ?_]
 ·simp only [List.nil_append,Option.bind_some,DD,FL,told]
  cases h:dU (rF 0 (ps.map fun p=>(p,F p))) <;> simp
 ·rintro i a r ⟨out,was⟩ ha ⟨h1,h2,h3⟩;simp only [List.length_cons] at h2 h3;obtain⟨d1,d2,d3,d4⟩:=idx ha (by omega);have ha':(ps.map F)[i]?=some (F a):=by rw [List.getElem?_map,ha];rfl
  obtain⟨_,e2,e3,_⟩:=idx ha' (by rw [List.length_map];omega);have hF:=h1 a (List.mem_cons_self ..);left;refine⟨(out++emit a (F a) was,F a),?_,⟨fun p hp=>h1 p (List.mem_cons_of_mem _ hp),hF,?_⟩,?_⟩
  ·show tT ps (ps.map F) out was i=_;have hw:i64.wrap (F a-was)=F a-was:=cZ (by omega) (by omega);simp only [tT,DI,d1,cond_true,aQ d2,aQ e2,e3,d3,d4,hw];unfold emit;by_cases h:F a=was
   ·simp [h]
   ·simp only [h,decide_false,Bool.not_false,cond_true,if_false];rw [aQ (by simp only [List.length_cons,List.length_nil];omega)]
  ·have : (emit a (F a) was).length<=1:=by unfold emit;split <;> simp
   simp only [List.length_append];omega
  ·simp [rF]
 ·rintro ⟨out,was⟩ _;show tT ps (ps.map F) out was (ps.length:Nat)=_;simp only [tT,eP,cond_false];simp [rF]
 ·exact⟨hb,⟨by omega,by omega⟩,by simp only [List.length_nil];omega⟩
theorem XI {ps:List Int} {F:Int->Int} {body:List Int×Int->Option ((List Int×Int)⊕List Int)} (hb:∀ (i:Nat) a vs,ps[i]?=some a->a∈ps->vs.length<=1099511627776->body (vs,(i:Int))=some (.inl (vs++[F a],((i+1:Nat):Int))))
  (he:∀ vs,body (vs,(ps.length:Nat))=some (.inr vs)) (hl:ps.length<=1099511627776):lp body ([],0)=some (ps.map F):=by
 rw [kP (l:=ps) (fun vs i=>(vs,i)) (fun vs r=>vs++r.map F) (fun vs r=>vs.length+r.length<=1099511627776) [] ?_ ?_ (by simpa using hl)]
 ·simp
 ·rintro i a r vs ha h1;simp only [List.length_cons] at h1;left;refine⟨vs++[F a],hb i a vs ha (List.mem_of_getElem? ha) (by omega),by simp only [List.length_append,List.length_cons,List.length_nil];omega,by simp⟩
 ·intro vs _;simpa using he vs
def mn (a b:Int):Int:=if b<a then b else a
def parts (v:Int):List aB->List Int
 | []=>[]
 | j::r=>(v+j.Net)::parts (v+j.Net) r
def xQ (f:List aB):Int:=(f.map fun j=>val f j.At).foldl mn (val f (-1))
theorem parts_eq:∀ {f:List aB} {l v:Int},pI l f->parts v f=f.map fun j=>v+val f j.At
 | [],_,_,_=>rfl
 | j::r,l,v,h=>by
  simp only [parts,List.map_cons];rw [parts_eq h.2,eS,if_pos (Int.le_refl _),h.2.tE (Int.le_refl _),Int.add_zero]
  congr 1
  apply List.map_congr_left;intro k hk;have:=(h.2.above k hk).1;rw [eS,if_pos (by omega)];omega
theorem aJJ {j:aB}{r:List aB}(h:pI (-2) (j::r)):val (j::r) (-1)=if j.At = -1 then j.Net else 0:=by
 have:=h.1.1;by_cases e:j.At = -1
 ·rw [if_pos e,eS,if_pos (by omega),h.2.tE (by omega)];omega
 ·rw [if_neg e,FC];intro k hk;rcases List.mem_cons.1 hk with rfl | hk
  ·omega
  ·have:=(h.2.above k hk).1;omega
theorem aC8 {f:List aB}(hf:dU f=true)(m:Int)(hm : -1125899906842624<=m/\m<=1125899906842624):CO 0 m f (f.length:Nat) 0=some ((f.map fun j=>val f j.At).foldl mn m):=by
 obtain⟨hl,hr⟩:=eU.1 hf;unfold CO
 rw [kP (l:=f) (body:=fun s:Int×Int×Int=>tW f (f.length:Nat) s.1 s.2.1 s.2.2) (fun (s:Int×Int) i=>(s.1,s.2,i)) (fun s r=>(parts s.1 r).foldl mn s.2)
  (fun s r=>(∀ j∈r,j.Net<=1048576 /\ -1048576<=j.Net)/\r.length<=1024/\s.1<=1048576*(1024-r.length) /\ -(1048576*(1024-r.length))<=s.1) (0,m) ?_ ?_ ?_]
 ·simp only [Option.bind_some,CQ,parts_eq hr,Int.zero_add]
 ·rintro i a r ⟨v,m⟩ ha ⟨h1,h2,h3,h4⟩;obtain⟨d1,d2,d3,d4⟩:=idx ha (by omega);have hj:=h1 a (List.mem_cons_self ..);simp only [List.length_cons] at h2 h3 h4;have hw:i64.wrap (v+a.Net)=v+a.Net:=cZ (by omega) (by omega);left;refine⟨(v+a.Net,mn m (v+a.Net)),?_,⟨fun j hj=>h1 j (List.mem_cons_of_mem _ hj),by omega,by simp only;omega,by simp only;omega⟩,rfl⟩;show tW f (f.length:Nat) v m i=_;simp only [tW,d1,cond_true,aQ d2,d3,d4,hw,mn]
 ·rintro ⟨v,m⟩ _;show tW f (f.length:Nat) v m (f.length:Nat)=_;simp only [tW,eP,cond_false,parts,List.foldl_nil]
 ·exact⟨FE hf,hl,by simp only;omega,by simp only;omega⟩
theorem aFb (f:List aB):BG f=some (if dU f then xQ f else 0):=by
 unfold BG;rw [RF]
 cases h:dU f
 ·simp
 ·cases f with
  | nil=>simp [xQ,val]
  | cons j r =>
   obtain⟨hl,hr⟩:=eU.1 h;have hne:decide (((List.length (j::r):Nat):Int)=0)=false:=by simp;omega
   simp only [Option.bind_some,Bool.not_true,Bool.false_or,hne,cond_false,aQ YY,UR,if_true];have hj:=hr.1;unfold xQ;rw [aJJ hr];by_cases e:j.At = -1
   ·simp only [e,decide_true,cond_true,if_true,yO];exact aC8 h j.Net (by omega)
   ·simp only [e,decide_false,cond_false,if_false,yO];exact aC8 h 0 (by omega)
theorem aBL (f:List aB):yF f=some (if dU f then xQ f else 0):=by
 unfold yF;rw [FL]
 cases h:dU f
 ·simp
 ·obtain⟨hl,hr⟩:=eU.1 h;simp only [Option.bind_some,Bool.not_true,cond_false,NB h,if_true,HM];rw [kP (l:=f) (body:=fun s:Int×Int=>tB f s.1 s.2) (fun m i=>(m,i)) (fun m r=>(r.map fun j=>val f j.At).foldl mn m) (fun _ _=>True) (val f (-1)) ?_ ?_ trivial]
  ·simp [AI,xQ]
  ·rintro i a r m ha _;obtain⟨d1,d2,d3,d4⟩:=idx ha (by omega);left;refine⟨mn m (val f a.At),?_,trivial,rfl⟩;show tB f m i=_;simp only [tB,BC,d1,cond_true,aQ d2,d3,d4,NB h,Option.bind_some,mn];by_cases e:val f a.At<m <;> simp [e]
  ·intro m _;show tB f m (f.length:Nat)=_;simp only [tB,eP,cond_false,List.map_nil,List.foldl_nil]
theorem BN {s t:Int}(hst:s<=t):∀ {f:List aB},(∀ j∈f,¬ (s<j.At/\j.At<=t))->val f s=val f t
 | [],_=>rfl
 | j::r,h=>by
  have hj:=h j (List.mem_cons_self ..);rw [eS,eS,BN hst (fun k hk=>h k (List.mem_cons_of_mem _ hk))];by_cases e:j.At<=s
  ·rw [if_pos e,if_pos (by omega)]
  ·rw [if_neg e,if_neg (by omega)]
theorem OK {f:List aB}(h:dU f=true):∀ j∈f,-2<j.At/\j.At<1125899906842624:=fun j hj=>by have:=(eU.1 h).2.above j hj;omega
theorem aNR {f:List aB}(h:dU f=true):val f (-2)=0:=(eU.1 h).2.tE (Int.le_refl _)
def aCm (f:List aB):List aB:=f.map fun j=>⟨j.At,-j.Net⟩
theorem aDE:dU []=true:=by decide
theorem aKw (f:List aB):KA f=some (if dU f then (aCm f,0) else ([],2)):=by
 unfold KA;rw [FL]
 cases h:dU f
 ·simp
 ·obtain⟨hl,hr⟩:=eU.1 h;simp only [Option.bind_some,Bool.not_true,cond_false,if_true,OE];rw [kP (l:=f) (body:=fun s:List aB×Int=>vJ f s.1 s.2) (fun out i=>(out,i)) (fun out r=>out++aCm r) (fun out r=>(∀ j∈r,j.Net<=1048576 /\ -1048576<=j.Net)/\out.length+r.length<=1024) [] ?_ ?_ ⟨FE h,by simpa using hl⟩]
  ·simp [FZ]
  ·rintro i a r out ha ⟨h1,h2⟩;obtain⟨d1,d2,d3,d4⟩:=idx ha (by omega);have hj:=h1 a (List.mem_cons_self ..);simp only [List.length_cons] at h2;left;refine⟨out++[⟨a.At,-a.Net⟩],?_,⟨fun j hj=>h1 j (List.mem_cons_of_mem _ hj),by simp only [List.length_append,List.length_cons,List.length_nil];omega⟩,by simp [aCm]⟩;show vJ f out i=_;have hw:i64.wrap (0-a.Net) = -a.Net:=by rw [cZ (by omega) (by omega)];omega
   simp only [vJ,d1,cond_true,aQ d2,d3,d4,hw];exact aQ (by simp only [List.length_cons,List.length_nil];omega)
  ·intro out _;show vJ f out _=_;simp only [vJ,eP,cond_false];simp [aCm]
theorem aIn {t n:Int}(hn:n≠0)(ht:t<1125899906842624):∀ {a:List aB} {l:Int},Up l a->(∀ j∈a,j.At<t)->l<t->Up l (a++[⟨t,n⟩])
 | [],_,_,_,h=>⟨⟨h,ht,hn⟩,trivial⟩
 | j::r,l,h,hb,hl=>⟨h.1,aIn hn ht h.2 (fun k hk=>hb k (List.mem_cons_of_mem _ hk)) (hb j (List.mem_cons_self ..))⟩
theorem aBb {t:Int}:∀ {f:List aB} {l:Int},pI l f->Up l (pW t f)
 | [],_,_=>trivial
 | j::r,l,h=>by
  unfold pW;split
  ·trivial
  ·exact⟨⟨h.1.1,h.1.2.1,h.1.2.2.1⟩,aBb h.2⟩
theorem aGo {t l':Int}(hl:l'<t):∀ {f:List aB} {l:Int},pI l f->Up l' (aft t f)
 | [],_,_=>trivial
 | j::r,l,h=>by
  unfold aft;split
  ·exact (h.restrict (m:=l') (by omega)).up
  ·exact aGo hl h.2
theorem aK4 {f:List aB}{t:Int}(hf:dU f=true)(ht:t<1125899906842624):Up (-2) (UN t f):=by
 have hr:=(eU.1 hf).2;unfold UN;split
 ·simpa using aBb hr
 ·rename_i hn
  refine aIn (by omega) ht (aBb hr) TI ?_
  cases hfo:pW t f with
  | nil=>rw [hfo] at hn; exact absurd rfl hn
  | cons j r =>
   have h1:=TI (t:=t) (f:=f) j (by rw [hfo];exact List.mem_cons_self ..);have h2:=aBb (t:=t) hr;rw [hfo] at h2;have:=h2.1.1;omega
theorem aJj {f:List aB}{t:Int}(hf:dU f=true)(p:Int):val (UN t f) p=if p<t then val f p else 0:=by
 unfold UN;by_cases hp:p<t
 ·rw [if_pos hp,aGS (eU.1 hf).2 hp,zO];split
  ·simp [val]
  ·rw [eS,PJ];simp;omega
 ·rw [if_neg hp,zO,aDQ (fun j hj=>by have:=TI j hj;omega)];split
  ·rename_i h0;rw [h0];simp [val]
  ·rw [eS,PJ,if_pos (show (⟨t,-BU (pW t f)⟩:aB).At<=p by show t<=p;omega)];simp;omega
theorem aG2 {f:List aB}{t:Int}(hf:dU f=true)(ht : -1<t):Up (-2) (SN t f):=by
 have hr:=(eU.1 hf).2;unfold SN;split
 ·simpa using aGo (l' := -2) (by omega) hr
 ·rename_i hn
  exact⟨⟨by show (-2:Int) < -1;omega,by show (-1:Int)<_;omega,hn⟩,aGo (l' := -1) ht hr⟩
theorem aEr {f:List aB}{t:Int}(hf:dU f=true)(p:Int)(hp : -1<=p):val (SN t f) p=val f (if p<t then t-1 else p):=by
 have hr:=(eU.1 hf).2;unfold SN;rw [zO]
 have e1:val (if BU (pW t f)=0 then [] else [⟨-1,BU (pW t f)⟩]) p=BU (pW t f):=by
  split
  ·rename_i h0;rw [h0];rfl
  ·rw [eS,PJ,if_pos (show (⟨-1,BU (pW t f)⟩:aB).At<=p from hp)];simp
 rw [e1];by_cases h:p<t
 ·rw [if_pos h,FC (f:=aft t f) (fun j hj=>by have:=aGZ hr j hj;omega),←aKL hr];omega
 ·rw [if_neg h,aMW hr (t:=t) (by omega)]
theorem aEj {f:List aB}(h:dU f=true):told f=(f,0):=by simp [told,h]
theorem aG8 (f:List aB)(t:Int):CP f t=some (ahead f t):=by
 unfold CP ahead;rw [FL]
 cases h:dU f
 ·simp
 ·obtain⟨hl,hr⟩:=eU.1 h;simp only [Option.bind_some,Bool.not_true,cond_false,if_true];have hP:=TN (ps:=[]) (show Inc (-2) [] from trivial) (OK h);have hlen:=VA (f:=f) (ps:=[]);simp only [List.length_nil] at hlen;rw [aEp (OK h) (by simp) (by simp only [List.length_nil];omega)]
  -- the values at places
  have key:∀ ps:List Int,Inc (-2) ps->(∀ j∈f,j.At∈ps)->(-1<=t->t<1125899906842624->t∈ps)->ps.length<=2048->xI f t ps=some (if 1125899906842624<=t then (f,0) else told (UN t f)):=by
   intro ps hi hm ht hlp;unfold xI IK;rw [XI (ps:=ps) (F:=fun p=>if p<t then val f p else 0) (body:=fun s:List Int×Int=>tA f t ps s.1 s.2) ?_ ?_ (by omega)]
   ·simp only [Option.bind_some,AE];rw [ZQ (ps:=ps) (F:=fun p=>if p<t then val f p else 0) (by omega) (fun p _=>by have:=ZU h p;split <;> omega)]
    have e:rF 0 (ps.map fun p=>(p,if p<t then val f p else 0))=if 1125899906842624<=t then f else UN t f:=by
     refine aCt (F:=fun p=>if p<t then val f p else 0) ?_ hi ?_ ?_ ?_
     ·simp only [aNR h];split <;> rfl
     ·intro s s' h1 hst h2 hn;have e1:val f s=val f s':=BN hst fun j hj hc=>hn j.At (hm j hj) hc;simp only [e1];by_cases c1:s<t
      ·by_cases c2:s'<t
       ·rw [if_pos c1,if_pos c2]
       ·exact absurd ⟨c1,by omega⟩ (hn t (ht (by omega) (by omega)))
      ·rw [if_neg c1,if_neg (by omega)]
     ·split
      ·exact aFi h
      ·exact aK4 h (by omega)
     ·intro s h1 h2;split
      ·rw [if_pos (by omega)]
      ·exact aJj h s
    rw [e];by_cases c:1125899906842624<=t
    ·simp [c,aEj h]
    ·simp [c]
   ·intro i a vs ha _ hv;obtain⟨d1,d2,d3,d4⟩:=idx ha (by omega);show tA f t ps vs i=_;simp only [tA,AQ,d1,cond_true,aQ d2,d3,d4,NB h];have ho:(vs.length+List.length [val f a])*8<=140737488355328/\vs.length+List.length [val f a]<=9223372036854775807:=by simp only [List.length_cons,List.length_nil];omega
    have ho':(vs.length+List.length [(0:Int)])*8<=140737488355328/\vs.length+List.length [(0:Int)]<=9223372036854775807:=by simp only [List.length_cons,List.length_nil];omega
    by_cases c:a<t
    ·simp only [c,decide_true,cond_true,if_true,Option.bind_some];exact aQ ho
    ·simp only [c,decide_false,cond_false,if_false];exact aQ ho'
   ·intro vs;show tA f t ps vs _=_;simp only [tA,eP,cond_false]
  simp only [Option.bind_some];by_cases c : -1<=t/\t<1125899906842624
  ·have hc:(decide ((-1:Int)<=t)&&decide (t<1125899906842624))=true:=by simp [c]
   rw [hc,cond_true];have aMg:=MH (t:=t) (ps:=uC [] f);show (oH (uC [] f) t).bind _=_;rw [aBf hP (by omega)];exact key (rG t (uC [] f)) (MN hP (by omega) c.2) (fun j hj=>ME.2 (Or.inr (QB.2 (Or.inr ⟨j,hj,rfl⟩)))) (fun _ _=>ME.2 (Or.inl rfl)) (by omega)
  ·have hc:(decide ((-1:Int)<=t)&&decide (t<1125899906842624))=false:=by
    rw [Bool.eq_false_iff];intro hc;exact c (by simpa using hc)
   rw [hc,cond_false];exact key (uC [] f) hP (fun j hj=>QB.2 (Or.inr ⟨j,hj,rfl⟩)) (fun h1 h2=>absurd ⟨h1,h2⟩ c) (by show (uC [] f).length<=_;omega)
theorem aID (f:List aB)(t:Int)(ht:sE t):FG f t=some (rest f t):=by
 unfold FG rest;rw [FL]
 cases h:dU f
 ·simp
 ·obtain⟨hl,hr⟩:=eU.1 h;simp only [Option.bind_some,Bool.not_true,cond_false,if_true];by_cases c:1125899906842624<=t
  ·simp [c]
  ·simp only [c,decide_false,cond_false,if_false];have hP:=TN (ps:=[]) (show Inc (-2) [] from trivial) (OK h);have hlen:=VA (f:=f) (ps:=[]);simp only [List.length_nil] at hlen;rw [aEp (OK h) (by simp) (by simp only [List.length_nil];omega)];have aMg:=MH (t := -1) (ps:=uC [] f);simp only [Option.bind_some];show (oH (uC [] f) (-1)).bind _=_;rw [aBf hP (by omega)];simp only [Option.bind_some,KS];have hi:Inc (-2) (rG (-1) (uC [] f)):=MN hP (by omega) (by omega);have hm:∀ j∈f,j.At∈rG (-1) (uC [] f):=fun j hj=>ME.2 (Or.inr (QB.2 (Or.inr ⟨j,hj,rfl⟩)));have b5:(-1:Int)∈rG (-1) (uC [] f):=ME.2 (Or.inl rfl)
   generalize rG (-1) (uC [] f)=ps at hi hm b5 aMg
   rw [XI (ps:=ps) (F:=fun p=>if p < -1 then 0 else val f (if -1<t/\p<t then t-1 else p)) (body:=fun s:List Int×Int=>tZ f t ps s.1 s.2) ?_ ?_ (by omega)]
   ·simp only [Option.bind_some,CW];rw [ZQ (ps:=ps) (F:=fun p=>if p < -1 then 0 else val f (if -1<t/\p<t then t-1 else p)) (by omega) (fun p _=>by have:=ZU h (if -1<t/\p<t then t-1 else p);split <;> omega)]
    have e:rF 0 (ps.map fun p=>(p,if p < -1 then 0 else val f (if -1<t/\p<t then t-1 else p)))=if t <= -1 then f else SN t f:=by
     refine aCt (F:=fun p=>if p < -1 then 0 else val f (if -1<t/\p<t then t-1 else p)) ?_ hi ?_ ?_ ?_
     ·simp
     ·intro s s' h1 hst h2 hn;by_cases c0:s < -1
      ·by_cases c1:s' < -1
       ·simp only [c0,c1,if_true]
       ·exact absurd ⟨c0,by omega⟩ (hn (-1) b5)
      ·have c1:¬ s' < -1:=by omega
       simp only [c0,c1,if_false];by_cases c2 : -1<t/\s<t
       ·by_cases c3:s'<t
        ·rw [if_pos c2,if_pos ⟨c2.1,c3⟩]
        ·rw [if_pos c2,if_neg (fun hc=>c3 hc.2)];by_cases c4:t-1=s
         ·rw [c4];exact BN hst fun j hj hc=>hn j.At (hm j hj) hc
         ·exact BN (by omega) fun j hj hc=>hn j.At (hm j hj) ⟨by omega,hc.2⟩
       ·rw [if_neg c2,if_neg (by omega)];exact BN hst fun j hj hc=>hn j.At (hm j hj) hc
     ·split
      ·exact aFi h
      ·exact aG2 h (by omega)
     ·intro s h1 h2;rw [if_neg (show ¬ s < -1 by omega)];by_cases c1:t <= -1
      ·rw [if_pos c1,if_neg (by omega)]
      ·rw [if_neg c1,aEr h s (by omega)];by_cases c2:s<t
       ·rw [if_pos c2,if_pos ⟨by omega,c2⟩]
       ·rw [if_neg c2,if_neg (fun hc=>c2 hc.2)]
    rw [e];by_cases c:t <= -1
    ·simp [c,aEj h]
    ·simp [c]
   ·intro i a vs ha hmem hv;obtain⟨d1,d2,d3,d4⟩:=idx ha (by omega);have hge:=(hi.above a hmem).1;show tZ f t ps vs i=_
    have hw:i64.wrap (t-1)=if t = -9223372036854775808 then 9223372036854775807 else t-1:=by
     have:=ht.1;have:=ht.2;split
     ·rename_i e;rw [e];decide
     ·exact cZ (by omega) (by omega)
    have ho:∀ x:Int,(vs.length+List.length [x])*8<=140737488355328/\vs.length+List.length [x]<=9223372036854775807:=by intro x;simp only [List.length_cons,List.length_nil];omega
    simp only [tZ,DL,d1,cond_true,aQ d2,d3,d4,NB h,Option.bind_some,aQ (ho _)];rw [if_neg (show ¬ a < -1 by omega)];by_cases c1 : -1<t <;> by_cases c2:a<t
    ·simp only [c1,c2,decide_true,Bool.and_self,cond_true,and_self,if_true,hw];rw [if_neg (by omega)]
    ·simp [c1,c2]
    ·simp [c1,c2]
    ·simp [c1,c2]
   ·intro vs;show tZ f t ps vs _=_;simp only [tZ,eP,cond_false]
theorem w1:i64.wrap (0+1)=1:=by rw [cZ] <;> omega
theorem w2:i64.wrap (1+1)=2:=by rw [cZ] <;> omega
theorem w3:i64.wrap (1-1)=0:=by rw [cZ] <;> omega
theorem v0:i64.wrap 0=0:=by rw [cZ] <;> omega
theorem v1:i64.wrap 1=1:=by rw [cZ] <;> omega
theorem v2:i64.wrap 2=2:=by rw [cZ] <;> omega
theorem v3:i64.wrap (-1) = -1:=by rw [cZ] <;> omega
theorem aKe {f g:List aB}{i:Nat}{a b:aB}(ha:f[i]?=some a)(hb:g[i]?=some b)(hl:f.length<4611686018427387904)(hg:g.length<4611686018427387904) :
  qW f g i=some (if a=b then .inl ((i+1:Nat):Int) else .inr (.inr false)):=by
 obtain⟨d1,d2,d3,d4⟩:=idx ha hl;obtain⟨_,e2,e3,_⟩:=idx hb hg;simp only [qW,d1,cond_true,aQ d2,aQ e2,d3,e3,d4];obtain⟨a1,a2⟩:=a;obtain⟨b1,b2⟩:=b;by_cases h1:a1=b1 <;> by_cases h2:a2=b2 <;> simp [h1,h2]
theorem aIe {f g:List aB}(hl:f.length<4611686018427387904)(he:f.length=g.length):∀ (m k:Nat),f.length-k=m->k<=f.length->lp (fun s=>qW f g s) (k:Int)=some (if f.drop k=g.drop k then .inl () else .inr false)
 | 0,k,hm,hk=>by
  have : k=f.length:=by omega
  subst this;rw [List.drop_length,he,List.drop_length,if_pos rfl];refine cY ?_;show qW f g _=_;simp only [qW,←he,eP,cond_false]
 | m+1,k,hm,hk=>by
  have h1:k<f.length:=by omega
  have h2:k<g.length:=by omega
  have hb:=aKe (List.getElem?_eq_getElem h1) (List.getElem?_eq_getElem h2) hl (by omega);have e1:f.drop k=f[k]::f.drop (k+1):=List.drop_eq_getElem_cons h1;have e2:g.drop k=g[k]::g.drop (k+1):=List.drop_eq_getElem_cons h2;have hiff:(f.drop k=g.drop k)↔(f[k]=g[k]/\f.drop (k+1)=g.drop (k+1)):=by rw [e1,e2,List.cons.injEq]
  by_cases h:f[k]=g[k]
  ·rw [if_pos h] at hb;rw [fA (show (fun s=>qW f g s) (k:Int)=_ from hb),aIe hl he m (k+1) (by omega) (by omega)];simp only [hiff,h,true_and]
  ·rw [if_neg h] at hb;rw [cY (show (fun s=>qW f g s) (k:Int)=_ from hb)];simp only [hiff,h,false_and,if_false]
theorem aNq (f g:List aB)(hl:f.length<4611686018427387904):FW f g=some (decide (f=g)):=by
 unfold FW;by_cases he:f.length=g.length
 ·have : decide (((f.length:Nat):Int)=((g.length:Nat):Int))=true:=by simp [he]
  rw [this,Bool.not_true,cond_false];unfold KP;have:=aIe hl he f.length 0 rfl (Nat.zero_le _);simp only [Int.natCast_zero] at this;rw [this];by_cases h:f=g <;> simp [h,CL]
 ·have : decide (((f.length:Nat):Int)=((g.length:Nat):Int))=false:=by simp;omega
  rw [this,Bool.not_false,cond_true];have : f≠g:=fun h=>he (by rw [h]);simp [this]
theorem aCd (f:List aB):(told f).1.length<=1024:=by
 unfold told
 cases h:dU f
 ·simp
 ·simpa using (eU.1 h).1
theorem aKR (f:List aB)(t:Int):(ahead f t).1.length<=1024:=by
 unfold ahead;split
 ·split
  ·exact (eU.1 (by assumption)).1
  ·exact aCd _
 ·simp
theorem aCq (f:List aB)(t:Int):(rest f t).1.length<=1024:=by
 unfold rest;split
 ·split
  ·simp
  ·split
   ·exact (eU.1 (by assumption)).1
   ·exact aCd _
 ·simp
theorem aIm {OP:Int->Int->Int}{f g:List aB}(hf:dU f=true)(hg:dU g=true):two OP f g=told (comb OP f g):=by simp [two,hf,hg]
variable {α:Type} [Inhabited α]
def xC (f1:α->Option Bool)(s0:(List α))(t7 t8:Int):Option ((Int)⊕(Unit⊕Int)) :=
 cond (decide (t8<t7))
 (aU (0<=t8/\t8<(s0.length:Int)) <|
 (f1 (s0.getD t8.toNat default)).bind fun x2 =>
 cond x2
 (some (.inr (.inr t8)))
 (some (.inl (i64.wrap (t8+1)))))
 (some (.inr (.inl ())))
theorem aGR {l:List α}{f:α->Option Bool}{g:α->Bool}(hl:l.length<=1099511627776)(hf:∀ x∈l,f x=some (g x)):∀ (r:List α) (k:Nat),l.drop k=r->k<=l.length ->
  ∃ x,lp (fun s=>xC f l (l.length:Nat) s) (k:Int)=some x/\((x=.inl ()/\r.any g=false)∨(∃ i:Nat,x=.inr (i:Int)/\k<=i/\i<l.length/\r.any g=true/\g (l.getD i default)=true /\ ∀ j,k<=j->j<i->g (l.getD j default)=false))
 | [],k,hd,hk=>by
  have : k=l.length:=by
   have:=congrArg List.length hd;simp only [List.length_drop,List.length_nil] at this;omega
  subst this;refine⟨.inl (),cY ?_,Or.inl ⟨rfl,rfl⟩⟩;show xC f l _ _=_;simp only [xC,eP,cond_false]
 | a::r,k,hd,hk=>by
  obtain⟨h1,h2⟩:=drop_cons hd;have hlt:k<l.length:=(List.getElem?_eq_some_iff.1 h1).1;obtain⟨d1,d2,d3,d4⟩:=idx h1 (by omega);have hga:l.getD k default=a:=by rw [Int.toNat_natCast] at d3;exact d3
  have hb:(fun s=>xC f l (l.length:Nat) s) (k:Int)=some (if g a then .inr (.inr (k:Int)) else .inl ((k+1:Nat):Int)):=by
   show xC f l _ _=_;simp only [xC,d1,cond_true,aQ d2,d3,d4,hf a (List.mem_of_getElem? h1),Option.bind_some]
   cases g a <;> simp
  cases hg:g a
  ·rw [hg] at hb;obtain⟨x,e,hx⟩:=aGR hl hf r (k+1) h2 (by omega);refine⟨x,by rw [fA hb]; exact e,?_⟩;rcases hx with ⟨rfl,h⟩ | ⟨i,rfl,h3,h4,h5,h6,h7⟩
   ·exact Or.inl ⟨rfl,by simp [hg,h]⟩
   ·refine Or.inr ⟨i,rfl,by omega,h4,by simp [h5],h6,fun j hj hj'=>?_⟩;by_cases e:j=k
    ·subst e;rw [hga,hg]
    ·exact h7 j (by omega) hj'
  ·rw [hg] at hb;exact⟨.inr (k:Int),cY hb,Or.inr ⟨k,rfl,Nat.le_refl _,hlt,by simp [hg],by rw [hga,hg],fun j h h'=>by omega⟩⟩
end Go.Abs
namespace Go.Abs
open Go IntKind
def yX (j:aB):Bool := !OM j.Net
def FP (j:aB):Bool:=decide (j.At < -1)||decide (1125899906842624<j.At)
def SL (l:List aB):List aB:=rF 0 ((uC [] (l.filter fun j=>decide (j.At<1125899906842624))).map fun p=>(p,val l p))
def fJ (l:List aB):List aB×Int:=if l.any yX then ([],2) else if l.any FP then ([],13) else told (SL l)
theorem aDn {l:List aB}(h:l.any yX=false):∀ j∈l,j.Net<=1048576 /\ -1048576<=j.Net:=by
 intro j hj;have:=List.any_eq_false.1 h j hj;simp [yX,OM] at this;omega
theorem aLT {l:List aB}(h:l.any FP=false):∀ j∈l,-2<j.At/\j.At<=1125899906842624:=by
 intro j hj;have:=List.any_eq_false.1 h j hj;simp [FP] at this;omega
theorem aAi {l:List aB}(ht:∀ j∈l,-2<j.At):Inc (-2) (uC [] (l.filter fun j=>decide (j.At<1125899906842624))) :=
 TN (ps:=[]) (show Inc (-2) [] from trivial) fun j hj=>by
  obtain⟨h1,h2⟩:=List.mem_filter.1 hj;exact⟨ht j h1,by simpa using h2⟩
theorem aLa {l h:List aB}(ht:∀ j∈l,-2<j.At)(hh:Up (-2) h)(hv:∀ t,-2<t->t<1125899906842624->val h t=val l t):SL l=h:=by
 refine aCt (F:=val l) (FC fun j hj=>ht j hj) (aAi ht) ?_ hh hv;intro s t _ hst h2 hn;exact BN hst fun j hj hc=>hn j.At (QB.2 (Or.inr ⟨j,List.mem_filter.2 ⟨hj,by simp;omega⟩,rfl⟩)) hc
theorem aII {l:List aB}(hl:l.length<=1099511627776):FU l=some (fJ l):=by
 unfold FU LB fJ;rw [TQ (l:=l) (fun i=>i) yX (.inr ([],2)) (.inl ()) ?_ ?_]
 ·cases h1:l.any yX
  ·simp only [Bool.false_eq_true,if_false,Option.bind_some,Sum.elim_inl,DA,LK]
   rw [kP (l:=l) (body:=fun s:List Int×Int=>pF l s.1 s.2) (fun ps i=>(ps,i)) (fun ps r=>if r.any FP then .inr ([],13) else .inl (uC ps (r.filter fun j=>decide (j.At<1125899906842624))))
    (fun ps r=>Inc (-2) ps/\ps.length+r.length<=1099511627776) [] ?_ ?_ ⟨trivial,by simpa using hl⟩]
   ·cases h2:l.any FP
    ·simp only [Bool.false_eq_true,if_false,Option.bind_some,Sum.elim_inl,CY,KR];have hlen:=VA (f:=l.filter fun j=>decide (j.At<1125899906842624)) (ps:=[]);have hlf:(l.filter fun j=>decide (j.At<1125899906842624)).length<=l.length:=List.length_filter_le _ _;simp only [List.length_nil] at hlen;have hvb:∀ p,val l p<=1048576*l.length /\ -(1048576*l.length)<=val l p:=fun p=>aAr p (by omega) (fun j hj=>by have:=aDn h1 j hj;omega);rw [XI (ps:=uC [] (l.filter fun j=>decide (j.At<1125899906842624))) (F:=val l) (body:=fun s:List Int×Int=>tV l (uC [] (l.filter fun j=>decide (j.At<1125899906842624))) s.1 s.2) ?_ ?_ (by omega)]
     ·simp only [Option.bind_some,CX];rw [ZQ (by omega) (fun p _=>by have:=hvb p;omega)];rfl
     ·intro i a vs ha _ hv;obtain⟨d1,d2,d3,d4⟩:=idx ha (by omega);show tV l _ vs i=_;simp only [tV,d1,cond_true,aQ d2,d3,d4,aBK a (aDn h1) hl,Option.bind_some];exact aQ (by simp only [List.length_cons,List.length_nil];omega)
     ·intro vs;show tV l _ vs _=_;simp only [tV,eP,cond_false]
    ·simp
   ·rintro i a r ps ha ⟨g1,g2⟩;obtain⟨d1,d2,d3,d4⟩:=idx ha (by omega);simp only [List.length_cons] at g2
    have hbod:pF l ps i=if FP a then some (.inr (.inr ([],13))) else if a.At<1125899906842624 then (oH ps a.At).bind (fun x=>some (.inl (x,((i+1:Nat):Int)))) else some (.inl (ps,((i+1:Nat):Int))):=by
     simp only [pF,CU,d1,cond_true,aQ d2,d3,d4];rw [aQ (fun _=>d2)];unfold FP
     cases (decide (a.At < -1)||decide (1125899906842624<a.At))
     ·by_cases c:a.At<1125899906842624 <;> simp [c]
     ·simp
    cases ho:FP a
    ·left;rw [ho] at hbod;have ho' : -1<=a.At/\a.At<=1125899906842624:=by simp [FP] at ho;omega
     by_cases c:a.At<1125899906842624
     ·have hlen:=MH (t:=a.At) (ps:=ps);refine⟨rG a.At ps,?_,⟨MN g1 (by omega) c,by omega⟩,?_⟩
      ·show pF l ps i=_;rw [hbod,aBf g1 (by omega)];simp [c]
      ·simp only [List.any_cons,ho,Bool.false_or];have hf:(a::r).filter (fun j=>decide (j.At<1125899906842624))=a::r.filter (fun j=>decide (j.At<1125899906842624)):=by simp [c]
       rw [hf];rfl
     ·refine⟨ps,?_,⟨g1,by omega⟩,?_⟩
      ·show pF l ps i=_;rw [hbod];simp [c]
      ·simp only [List.any_cons,ho,Bool.false_or];have hf:(a::r).filter (fun j=>decide (j.At<1125899906842624))=r.filter (fun j=>decide (j.At<1125899906842624)):=by simp [c]
       rw [hf]
    ·right;rw [ho] at hbod;show pF l ps i=_;rw [hbod];simp [ho]
   ·intro ps _;show pF l ps _=_;simp only [pF,eP,cond_false];simp [uC]
  ·simp
 ·intro i a ha;obtain⟨d1,d2,d3,d4⟩:=idx ha (by omega);show wC l i=_;simp only [wC,d1,cond_true,aQ d2,d3,d4];rw [aQ (fun _=>d2)];unfold yX OM;by_cases c1:1048576<a.Net
  ·have : ¬ a.Net<=1048576:=by omega
   simp [c1,this]
  ·have c1':a.Net<=1048576:=by omega
   by_cases c2:a.Net < -1048576
   ·have : ¬ -1048576<=a.Net:=by omega
    simp [c1',c1,c2,this]
   ·have : -1048576<=a.Net:=by omega
    simp [c1',c1,c2,this]
 ·show wC l _=_;simp only [wC,eP,cond_false]
theorem aEe (x y:ByteArray):uU x y=decide (x=y):=by
 unfold uU;rw [ByteArray.toList_eq,ByteArray.toList_eq];by_cases h:x=y
 ·simp [h]
 ·have : x.data.toList≠y.data.toList:=by
   intro he;apply h
   cases x;cases y
   congr 1
   exact Array.toList_inj.1 he
  have h2:(x.data.toList==y.data.toList)=false:=by simpa using this
  rw [h2];simp [h]
theorem veq (a b:aF):((decide (a.Kind=b.Kind))&&((decide (a.Num=b.Num))&&((uU a.Text b.Text)&&true)))=decide (a=b):=by
 rw [aEe];obtain⟨a1,a2,a3⟩:=a;obtain⟨b1,b2,b3⟩:=b;by_cases h1:a1=b1 <;> by_cases h2:a2=b2 <;> by_cases h3:a3=b3 <;> simp [h1,h2,h3]
def UZ (v:aF):Bool:=decide (v.Kind=1)&&uU v.Text (⟨#[]⟩:ByteArray)
def WG (v:aF):Bool:=((decide (v.Kind=2))&&(decide (v.Num=0)))&&(decide (((ByteArray.size v.Text:Nat):Int)<=64))
def vE (v:aF):Bool:=UZ v||WG v
def gI (r:List aF):Bool:=decide (r.length<=8)&&r.all vE
theorem of_eq (v:aF):rA v=some (if UZ v then (.k_number v.Num,true) else if WG v then (.k_words v.Text,true) else (.none_,false)):=by
 unfold rA UZ WG
 cases (decide (v.Kind=1)&&uU v.Text (⟨#[]⟩:ByteArray)) <;> cases (((decide (v.Kind=2))&&(decide (v.Num=0)))&&(decide (((ByteArray.size v.Text:Nat):Int)<=64))) <;> rfl
theorem aMM (v:aF):JZ v=some (vE v):=by
 unfold JZ vE;rw [of_eq]
 cases UZ v <;> cases WG v <;> rfl
theorem aCP (v:aF):zU v=some (vE v):=by
 unfold zU vE UZ WG;by_cases h:v.Kind=1
 ·simp [h]
 ·simp [h]
theorem aGt {l:List aF}{f:aF->Option Bool}{g:aF->Bool}(hl:l.length<=1099511627776)(hf:∀ x∈l,f x=some (g x)):iU l f=some (l.any g):=by
 unfold iU nJ nD;obtain⟨x,e,hx⟩:=aGR hl hf l 0 rfl (Nat.zero_le _);have e':lp (fun s=>nE f l (l.length:Nat) s) 0=some x:=e;rw [e'];rcases hx with ⟨rfl,h⟩ | ⟨i,rfl,_,_,h,_⟩
 ·simp [kA,h]
 ·simp [h]
theorem TH (r:List aF):xB r=some (gI r):=by
 unfold xB gI;by_cases h:r.length<=8
 ·have h1:decide (8<((r.length:Nat):Int))=false:=by simp;omega
  rw [h1,cond_false,aGt (g:=fun v => !vE v) (by omega) (fun x _=>by simp [JN,aMM])];simp only [Option.bind_some,h,decide_true,Bool.true_and]
  congr 1
  rw [List.all_eq_not_any_not]
 ·have h1:decide (8<((r.length:Nat):Int))=true:=by simp;omega
  rw [h1,cond_true];simp [h]
theorem NJ (r:List aF)(hl:r.length<=1099511627776*16):uV r=some (gI r):=by
 unfold uV NN;have b6:(r.take 9).length<=9:=by simp;omega
 rw [TQ (l:=r.take 9) (fun i=>i) (fun v => !vE v) (.inr false) (.inl ()) ?_ ?_]
 ·unfold gI;by_cases h:r.length<=8
  ·have ht:r.take 9=r:=List.take_of_length_le (by omega);rw [ht,List.all_eq_not_any_not]
   cases h1:(r.any fun v => !vE v)
   ·have : ((r.length:Nat):Int)<=8:=by omega
    simp [BA,this,h]
   ·simp
  ·cases h1:((r.take 9).any fun v => !vE v)
   ·have : ¬ ((r.length:Nat):Int)<=8:=by omega
    simp [BA,this,h]
   ·simp [h]
 ·intro i a ha;have hi:i<(r.take 9).length:=(List.getElem?_eq_some_iff.1 ha).1;have hi2:i<r.length:=by simp at hi;omega
  have b5:r[i]?=some a:=by
   rw [List.getElem?_take] at ha;split at ha
   ·exact ha
   ·cases ha
  obtain⟨d1,d2,d3,d4⟩:=idx b5 (by omega);have h9:decide ((i:Int)<9)=true:=by simp;omega
  show xU r i=_;simp only [xU,d1,h9,Bool.and_self,cond_true,aQ d2,d3,d4,aCP,Option.bind_some]
  cases vE a <;> simp
 ·show xU r _=_
  have : ((decide ((((r.take 9).length:Nat):Int)<((r.length:Nat):Int)))&&(decide ((((r.take 9).length:Nat):Int)<9)))=false:=by
   rw [Bool.and_eq_false_iff];by_cases h:r.length<=8
   ·left;simp;omega
   ·right;simp;omega
  simp only [xU,this,cond_false]
theorem aDt {α:Type} [DecidableEq α] {f g:List α} {body:Int->Option (Int⊕(Unit⊕Bool))} (he:f.length=g.length)
  (hb:∀ (i:Nat) a b,f[i]?=some a->g[i]?=some b->body i=some (if a=b then .inl ((i+1:Nat):Int) else .inr (.inr false)))
  (hend:body (f.length:Nat)=some (.inr (.inl ()))):∀ (m k:Nat),f.length-k=m->k<=f.length->lp body (k:Int)=some (if f.drop k=g.drop k then .inl () else .inr false)
 | 0,k,hm,hk=>by
  have : k=f.length:=by omega
  subst this;rw [List.drop_length,he,List.drop_length,if_pos rfl];rw [←he];exact cY hend
 | m+1,k,hm,hk=>by
  have h1:k<f.length:=by omega
  have h2:k<g.length:=by omega
  have hbk:=hb k _ _ (List.getElem?_eq_getElem h1) (List.getElem?_eq_getElem h2);have e1:f.drop k=f[k]::f.drop (k+1):=List.drop_eq_getElem_cons h1;have e2:g.drop k=g[k]::g.drop (k+1):=List.drop_eq_getElem_cons h2;have hiff:(f.drop k=g.drop k)↔(f[k]=g[k]/\f.drop (k+1)=g.drop (k+1)):=by rw [e1,e2,List.cons.injEq]
  by_cases h:f[k]=g[k]
  ·rw [if_pos h] at hbk;rw [fA hbk,aDt he hb hend m (k+1) (by omega) (by omega)];simp only [hiff,h,true_and]
  ·rw [if_neg h] at hbk;rw [cY hbk];simp only [hiff,h,false_and,if_false]
theorem aCy {α:Type}{f g:List α}(h:f.length≠g.length):(!decide (((f.length:Nat):Int)=((g.length:Nat):Int)))=true:=by simp;omega
theorem aCG {α:Type}{f g:List α}(h:f.length=g.length):(!decide (((f.length:Nat):Int)=((g.length:Nat):Int)))=false:=by simp [h]
theorem aJk (a b:List aF)(hl:a.length<=17592186044416):NR a b=some (decide (a=b)):=by
 unfold NR oY;by_cases he:a.length=b.length
 ·rw [aCG he,cond_false];unfold oQ;have:=aDt (f:=a) (g:=b) (body:=fun s=>jG a b (a.length:Nat) s) he ?_ ?_ a.length 0 rfl (Nat.zero_le _)
  ·simp only [Int.natCast_zero,List.drop_zero] at this;rw [this];by_cases h:a=b <;> simp [h,mF]
  ·intro i x y hx hy;obtain⟨d1,d2,d3,d4⟩:=idx hx (by omega);obtain⟨_,e2,e3,_⟩:=idx hy (by omega);simp only [jG,d1,cond_true,aQ d2,aQ e2,d3,e3,d4,veq];by_cases h:x=y <;> simp [h]
  ·simp only [jG,eP,cond_false]
 ·rw [aCy he,cond_true];have : a≠b:=fun h=>he (by rw [h]);simp [this]
theorem LI (a b:List aF)(hl:a.length<=17592186044416):uZ a b=some (decide (a=b)):=by
 unfold uZ;by_cases he:a.length=b.length
 ·rw [aCG he,cond_false];unfold LC;have:=aDt (f:=a) (g:=b) (body:=fun s=>yL a b s) he ?_ ?_ a.length 0 rfl (Nat.zero_le _)
  ·simp only [Int.natCast_zero,List.drop_zero] at this;rw [this];by_cases h:a=b <;> simp [h,CN]
  ·intro i x y hx hy;obtain⟨d1,d2,d3,d4⟩:=idx hx (by omega);obtain⟨_,e2,e3,_⟩:=idx hy (by omega);simp only [yL,d1,cond_true,aQ d2,aQ e2,d3,e3,d4,veq];by_cases h:x=y <;> simp [h]
  ·simp only [yL,eP,cond_false]
 ·rw [aCy he,cond_true];have : a≠b:=fun h=>he (by rw [h]);simp [this]
structure aAp {α:Type} (c:α->α->Int):Prop where
 eq:∀ a b,c a b=0↔a=b
 anti:∀ a b,c a b<0↔0<c b a
 trans:∀ a b d,c a b<0->c b d<0->c a d<0
def vH (x y:Int):Int:=if x<y then -1 else if y<x then 1 else 0
theorem UF:aAp vH where
 eq a b:=by unfold vH;(repeat' split) <;> omega
 anti a b:=by unfold vH;(repeat' split) <;> omega
 trans a b d:=by unfold vH;(repeat' split) <;> omega
def nA {α:Type}[DecidableEq α](c:α->α->Int):List α->List α->Int
 | [],[]=>0
 | [],_::_ => -1
 | _::_,[]=>1
 | a::r,b::s=>if a=b then nA c r s else c a b
theorem aAp.list {α:Type}[DecidableEq α]{c:α->α->Int}(h:aAp c):aAp (nA c) where
 eq:=by
  intro a
  induction a with
  | nil=>intro b; cases b <;> simp [nA]
  | cons x r ih =>
   intro b
   cases b with
   | nil=>simp [nA]
   | cons y s =>
    unfold nA;split
    ·rename_i e;subst e;rw [ih];simp
    ·rename_i e
     have:=h.eq x y;constructor
     ·intro h0;exact absurd (this.1 h0) e
     ·intro h0;cases h0;exact absurd rfl e
 anti:=by
  intro a
  induction a with
  | nil=>intro b; cases b <;> simp [nA]
  | cons x r ih =>
   intro b
   cases b with
   | nil=>simp [nA]
   | cons y s =>
    unfold nA;by_cases e:x=y
    ·subst e;simp only [if_true];exact ih s
    ·rw [if_neg e,if_neg (fun e'=>e e'.symm)];exact h.anti x y
 trans:=by
  intro a
  induction a with
  | nil =>
   intro b d
   cases b <;> cases d <;> simp [nA]
  | cons x r ih =>
   intro b d
   cases b with
   | nil=>simp [nA]
   | cons y s =>
    cases d with
    | nil=>simp [nA]
    | cons z t =>
     unfold nA;by_cases e1:x=y
     ·subst e1;rw [if_pos rfl];by_cases e2:x=z
      ·subst e2;rw [if_pos rfl,if_pos rfl];exact ih s t
      ·rw [if_neg e2,if_neg e2];exact fun _ h=>h
     ·rw [if_neg e1];by_cases e2:y=z
      ·have hz:¬ x=z:=fun e=>e1 (e.trans e2.symm);intro h _;rw [if_neg hz,←e2];exact h
      ·rw [if_neg e2];intro h1 h2;by_cases e3:x=z
       ·subst e3;have h3:=(h.anti x y).1 h1;omega
       ·rw [if_neg e3];exact h.trans x y z h1 h2
def RZ (a b:UInt8):Int:=if a<b then -1 else if b<a then 1 else 0
theorem aCh:aAp RZ where
 eq a b:=by
  unfold RZ;constructor
  ·intro h;split at h
   ·cases h
   ·split at h
    ·cases h
    ·rename_i h1 h2
     rw [UInt8.lt_iff_toNat_lt] at h1 h2;exact UInt8.toNat_inj.1 (by omega)
  ·rintro rfl;have : ¬ a<a:=by rw [UInt8.lt_iff_toNat_lt];omega
   simp [this]
 anti a b:=by
  unfold RZ;simp only [UInt8.lt_iff_toNat_lt]
  (repeat' split) <;> omega
 trans a b d:=by
  unfold RZ;simp only [UInt8.lt_iff_toNat_lt]
  (repeat' split) <;> omega
theorem WH:∀ (a b:List UInt8),Go.Lib.compareBytes a b=nA RZ a b
 | [],[]=>rfl
 | [],_::_=>rfl
 | _::_,[]=>rfl
 | a::r,b::s=>by
  unfold Go.Lib.compareBytes nA;rw [WH r s];by_cases e:a=b
  ·subst e;have : ¬ a<a:=by rw [UInt8.lt_iff_toNat_lt];omega
   simp [this]
  ·rw [if_neg e];unfold RZ
   have : ¬ (¬ a<b /\ ¬ b<a):=by
    rintro ⟨h1,h2⟩;rw [UInt8.lt_iff_toNat_lt] at h1 h2;exact e (UInt8.toNat_inj.1 (by omega))
   by_cases h1:a<b
   ·simp [h1]
   ·have h2:b<a:=Classical.byContradiction fun h2=>this ⟨h1,h2⟩;simp [h1,h2]
def aDK (a b:ByteArray):Int:=nA RZ a.data.toList b.data.toList
theorem aNo (a b:ByteArray):aDR a b=aDK a b:=WH _ _
theorem data_inj {x y:ByteArray}(h:x.data.toList=y.data.toList):x=y:=by
 cases x;cases y
 congr 1
 exact Array.toList_inj.1 h
theorem ZC:aAp aDK where
 eq a b:=by unfold aDK;rw [(aCh.list).eq];exact ⟨data_inj,fun h=>by rw [h]⟩
 anti a b:=(aCh.list).anti _ _
 trans a b d:=(aCh.list).trans _ _ _
def LQ (a b:aF):Int:=if a.Kind=b.Kind then (if a.Num=b.Num then aDK a.Text b.Text else vH a.Num b.Num) else vH a.Kind b.Kind
theorem ZK:aAp LQ where
 eq a b:=by
  obtain⟨a1,a2,a3⟩:=a;obtain⟨b1,b2,b3⟩:=b;unfold LQ;simp only [aF.mk.injEq];by_cases h1:a1=b1
  ·by_cases h2:a2=b2
   ·simp [h1,h2,ZC.eq]
   ·simp [h1,h2,UF.eq]
  ·simp [h1,UF.eq]
 anti a b:=by
  unfold LQ;by_cases h1:a.Kind=b.Kind
  ·rw [if_pos h1,if_pos h1.symm];by_cases h2:a.Num=b.Num
   ·rw [if_pos h2,if_pos h2.symm];exact ZC.anti _ _
   ·rw [if_neg h2,if_neg (fun h=>h2 h.symm)];exact UF.anti _ _
  ·rw [if_neg h1,if_neg (fun h=>h1 h.symm)];exact UF.anti _ _
 trans a b d:=by
  unfold LQ;intro h1 h2;have lt:∀ {x y:Int},vH x y<0->x<y:=fun {x y} h=>by unfold vH at h;split at h <;> (try split at h) <;> omega
  have mk:∀ {x y:Int},x<y->vH x y<0:=fun {x y} h=>by unfold vH;rw [if_pos h];omega
  by_cases e1:a.Kind=b.Kind
  ·rw [if_pos e1] at h1;by_cases e2:b.Kind=d.Kind
   ·rw [if_pos e2] at h2;rw [if_pos (e1.trans e2)];by_cases f1:a.Num=b.Num
    ·rw [if_pos f1] at h1;by_cases f2:b.Num=d.Num
     ·rw [if_pos f2] at h2;rw [if_pos (f1.trans f2)];exact ZC.trans _ _ _ h1 h2
     ·rw [if_neg f2] at h2;rw [f1,if_neg f2];exact h2
    ·rw [if_neg f1] at h1;have g1:=lt h1;by_cases f2:b.Num=d.Num
     ·rw [←f2,if_neg f1];exact h1
     ·rw [if_neg f2] at h2;have g2:=lt h2;rw [if_neg (by omega)];exact mk (by omega)
   ·rw [if_neg e2] at h2;rw [e1,if_neg e2];exact h2
  ·rw [if_neg e1] at h1;have g1:=lt h1;by_cases e2:b.Kind=d.Kind
   ·rw [←e2,if_neg e1];exact h1
   ·rw [if_neg e2] at h2;have g2:=lt h2;rw [if_neg (by omega)];exact mk (by omega)
def jW (a b:List aF):Int:=nA LQ a b
theorem uJ:aAp jW:=ZK.list
theorem aKT (x y:Int):wH x y=some (vH x y):=by
 unfold wH rR vH;by_cases h1:x<y
 ·simp [h1]
 ·by_cases h2:y<x <;> simp [h1,h2]
theorem aK2 (x y:Int):lC x y=some (vH x y):=by
 unfold lC qQ vH;by_cases h1:x<y
 ·simp [h1]
 ·by_cases h2:y<x <;> simp [h1,h2]
theorem MM {v:aF}(h:UZ v=true):v.Kind=1/\v.Text=(⟨#[]⟩:ByteArray):=by
 simp only [UZ,aEe,Bool.and_eq_true,decide_eq_true_eq] at h;exact h
theorem GB {v:aF}(h:WG v=true):v.Kind=2/\v.Num=0/\v.Text.size<=64:=by
 simp only [WG,Bool.and_eq_true,decide_eq_true_eq] at h;exact ⟨h.1.1,h.1.2,by omega⟩
theorem PF {v:aF}(h:vE v=true):UZ v=true∨(UZ v=false/\WG v=true):=by
 unfold vE at h
 cases hn:UZ v
 ·rw [hn] at h;exact .inr ⟨rfl,by simpa using h⟩
 ·exact .inl rfl
theorem aJW (a:ByteArray):aDK a a=0:=(ZC.eq a a).2 rfl
theorem WT (a:Int):vH a a=0:=(UF.eq a a).2 rfl
theorem aKN {a b:aF}(ha:vE a=true)(hb:vE b=true):zJ a b=some (LQ a b):=by
 unfold zJ;simp only [of_eq,Option.bind_some];rcases PF ha with h1 | ⟨h1,h1'⟩ <;> rcases PF hb with h2 | ⟨h2,h2'⟩
 ·obtain⟨k1,t1⟩:=MM h1;obtain⟨k2,t2⟩:=MM h2;simp only [h1,h2,if_true,Bool.not_true,Bool.or_self,cond_false,aK2,Option.bind_some];unfold LQ;rw [k1,k2,t1,t2,if_pos rfl,aJW];by_cases hn:a.Num=b.Num
  ·rw [if_pos hn,hn,WT]
  ·rw [if_neg hn]
 ·obtain⟨k1,t1⟩:=MM h1;obtain⟨k2,n2,_⟩:=GB h2';simp only [h1,h2,h2',if_true,Bool.false_eq_true,if_false,Bool.not_true,Bool.or_self,cond_false];unfold LQ;rw [k1,k2];rfl
 ·obtain⟨k1,n1,_⟩:=GB h1';obtain⟨k2,t2⟩:=MM h2;simp only [h1,h1',h2,if_true,Bool.false_eq_true,if_false,Bool.not_true,Bool.or_self,cond_false];unfold LQ;rw [k1,k2];rfl
 ·obtain⟨k1,n1,_⟩:=GB h1';obtain⟨k2,n2,_⟩:=GB h2';simp only [h1,h1',h2,h2',if_true,Bool.false_eq_true,if_false,Bool.not_true,Bool.or_self,cond_false];unfold LQ tR pE;rw [k1,k2,n1,n2,if_pos rfl,if_pos rfl];simp [aNo]
theorem tS {r:List aF}(h:gI r=true):r.length<=8 /\ ∀ v∈r,vE v=true:=by
 simp only [gI,Bool.and_eq_true,decide_eq_true_eq,List.all_eq_true] at h;exact h
theorem aFu {a b:List aF}{k:Nat}(hk:k=a.length∨k=b.length)(h1:k<=a.length)(h2:k<=b.length):jW (a.drop k) (b.drop k)=vH a.length b.length:=by
 rcases hk with rfl | rfl
 ·rw [List.drop_length];by_cases h:a.length=b.length
  ·rw [h,List.drop_length,WT];rfl
  ·rw [List.drop_eq_getElem_cons (by omega)];show (-1:Int)=_;unfold vH;rw [if_pos (by omega)]
 ·rw [List.drop_length];by_cases h:a.length=b.length
  ·rw [←h,List.drop_length,WT];rfl
  ·rw [List.drop_eq_getElem_cons (by omega)];show (1:Int)=_;unfold vH;rw [if_neg (by omega),if_pos (by omega)]
theorem aIr {a b:List aF}(hl:a.length<=8)(hlb:b.length<=8)(n:Nat)(hn:n=min a.length b.length):∀ (m k:Nat),n-k=m->k<=n ->
  ∃ x,lp (fun s:Int×Int=>dK (fun st y0=>(pU y0 st b).bind fun o=>some (o.2,o.1)) (a.take n) (n:Nat) s.1 s.2) ((k:Int)-1,(k:Int))=some x /\
   ((∃ sg,x=.inl sg/\jW (a.drop k) (b.drop k)=vH a.length b.length) ∨
    (∃ i:Nat,x=.inr ((i:Int),(i:Int))/\i<a.length/\i<b.length/\jW (a.drop k) (b.drop k)=LQ (a.getD i default) (b.getD i default)))
 | 0,k,hm,hk=>by
  have : k=n:=by omega
  subst this;refine⟨.inl ((k:Int)-1),cY ?_,.inl ⟨_,rfl,aFu (by omega) (by omega) (by omega)⟩⟩;show dK _ _ _ _ _=_;simp only [dK,eP,cond_false]
 | m+1,k,hm,hk=>by
  have h1:k<a.length:=by omega
  have h2:k<b.length:=by omega
  have ht:(a.take n)[k]?=some a[k]:=by
   rw [List.getElem?_take_of_lt (by omega)];exact List.getElem?_eq_getElem h1
  obtain⟨d1,d2,d3,d4⟩:=idx ht (by simp;omega);have hlt:(a.take n).length=n:=by simp;omega
  rw [hlt] at d1 d2;obtain⟨_,e2,e3,_⟩:=idx (List.getElem?_eq_getElem h2) (by omega);have hw:i64.wrap ((k:Int)-1+1)=(k:Int):=by rw [cZ (by omega) (by omega)];omega
  have hb:(fun s:Int×Int=>dK (fun st y0=>(pU y0 st b).bind fun o=>some (o.2,o.1)) (a.take n) (n:Nat) s.1 s.2) ((k:Int)-1,(k:Int)) =
    some (if a[k]=b[k] then .inl ((k:Int),((k+1:Nat):Int)) else .inr (.inr ((k:Int),(k:Int)))):=by
   show dK _ _ _ _ _=_;simp only [dK,d1,cond_true,hlt,aQ d2,d3,d4,pU,hw,aQ e2,e3,veq,Option.bind_some];by_cases h:a[k]=b[k] <;> simp [h]
  have ea:a.drop k=a[k]::a.drop (k+1):=List.drop_eq_getElem_cons h1;have eb:b.drop k=b[k]::b.drop (k+1):=List.drop_eq_getElem_cons h2;by_cases h:a[k]=b[k]
  ·rw [if_pos h] at hb;obtain⟨x,e,hx⟩:=aIr hl hlb n hn m (k+1) (by omega) (by omega)
   have hc:jW (a.drop k) (b.drop k)=jW (a.drop (k+1)) (b.drop (k+1)):=by
    rw [ea,eb];unfold jW;rw [nA,if_pos h]
   refine⟨x,?_,by rw [hc];exact hx⟩;rw [fA hb];rw [show ((k+1:Nat):Int)-1=(k:Int) by omega] at e;exact e
  ·rw [if_neg h] at hb;refine⟨_,cY hb,.inr ⟨k,rfl,h1,h2,?_⟩⟩;rw [ea,eb];unfold jW;rw [nA,if_neg h];simp [List.getD_eq_getElem?_getD,h1,h2]
theorem aD6 (a b:List aF):yN a b=some (if gI a&&gI b then jW a b else 0):=by
 unfold yN;rw [TH];simp only [Option.bind_some]
 cases ha:gI a
 ·simp [cR]
 ·simp only [Bool.not_true,Bool.not_false,cR,cond_true,TH,Option.bind_some,Bool.false_or]
  cases hb:gI b
  ·simp
  ·obtain⟨la,ma⟩:=tS ha;obtain⟨lb,mb⟩:=tS hb;have hif:(if (b.length:Int)<(a.length:Int) then (b.length:Int) else (a.length:Int))=((min a.length b.length:Nat):Int):=by split <;> omega
   have hlt:(a.take (min a.length b.length)).length=min a.length b.length:=by rw [List.length_take];omega
   simp only [Bool.not_true,cond_false,hif,Int.toNat_natCast,ER,Option.bind_some,mY,mQ,hlt,Bool.and_self,if_true];rw [aQ ⟨by omega,by omega⟩];obtain⟨x,e,hx⟩:=aIr (a:=a) (b:=b) la lb _ rfl _ 0 rfl (Nat.zero_le _);have e':lp (fun s:Int×Int=>dK (fun st y0=>(pU y0 st b).bind fun o=>some (o.2,o.1)) (a.take (min a.length b.length)) (min a.length b.length:Nat) s.1 s.2) ((-1:Int),(0:Int))=some x:=e;rw [e'];simp only [List.drop_zero] at hx;rcases hx with ⟨sg,rfl,h⟩ | ⟨i,rfl,h1,h2,h⟩
   ·simp [iX,aKT,h]
   ·have hi:decide ((i:Int)<0)=false:=by simp
    simp only [Option.bind_some,Sum.elim_inr,hi,cond_false,Int.toNat_natCast];rw [aQ ⟨by omega,by omega⟩,aQ ⟨by omega,by omega⟩];have g1:a.getD i default∈a:=by simp [List.getD_eq_getElem?_getD,h1]
    have g2:b.getD i default∈b:=by simp [List.getD_eq_getElem?_getD,h2]
    rw [aKN (ma _ g1) (mb _ g2),h];simp only [Option.bind_some]
theorem aMm {s:ByteArray}{i:Nat}(h:i<s.data.toList.length):bt s (i:Int)=((s.data.toList[i]).toNat:Int):=by
 have h':i<s.data.size:=by simpa using h
 unfold bt;simp only [Int.toNat_natCast,Array.getElem_toList];rw [Array.getD_eq_getD_getElem?,Array.getElem?_eq_getElem h'];rfl
theorem aGe {a b:aF}(ha:a.Text.size<=64)(hb:b.Text.size<=64):∀ (m k:Nat),min a.Text.size b.Text.size-k=m->k<=min a.Text.size b.Text.size ->
  ∃ x,lp (fun s=>nS a b s) (k:Int)=some x /\
   ((x=.inl ()/\nA RZ (a.Text.data.toList.drop k) (b.Text.data.toList.drop k)=vH a.Text.size b.Text.size)∨(∃ v,x=.inr v/\nA RZ (a.Text.data.toList.drop k) (b.Text.data.toList.drop k)=v))
 | 0,k,hm,hk=>by
  have hsa:a.Text.data.toList.length=a.Text.size:=by rw [Array.length_toList];rfl
  have hsb:b.Text.data.toList.length=b.Text.size:=by rw [Array.length_toList];rfl
  refine⟨.inl (),cY ?_,.inl ⟨rfl,?_⟩⟩
  ·show nS a b _=_
   have : ((decide ((k:Int)<((ByteArray.size a.Text:Nat):Int)))&&(decide ((k:Int)<((ByteArray.size b.Text:Nat):Int))))=false:=by
    rw [Bool.and_eq_false_iff];simp only [decide_eq_false_iff_not];omega
   simp only [nS,this,cond_false]
  ·by_cases h1:a.Text.size<=k
   ·rw [List.drop_eq_nil_of_le (by omega)];by_cases h2:b.Text.size<=k
    ·rw [List.drop_eq_nil_of_le (by omega)];have : a.Text.size=b.Text.size:=by omega
     rw [this,WT];rfl
    ·rw [List.drop_eq_getElem_cons (by omega)];show (-1:Int)=_;unfold vH;rw [if_pos (by omega)]
   ·have h2:b.Text.size<=k:=by omega
    rw [@List.drop_eq_nil_of_le _ b.Text.data.toList k (by omega),List.drop_eq_getElem_cons (by omega)];show (1:Int)=_;unfold vH;rw [if_neg (by omega),if_pos (by omega)]
 | m+1,k,hm,hk=>by
  have hsa:a.Text.data.toList.length=a.Text.size:=by rw [Array.length_toList];rfl
  have hsb:b.Text.data.toList.length=b.Text.size:=by rw [Array.length_toList];rfl
  have h1:k<a.Text.data.toList.length:=by omega
  have h2:k<b.Text.data.toList.length:=by omega
  have c1:decide ((k:Int)<((ByteArray.size a.Text:Nat):Int))=true:=by simp;omega
  have c2:decide ((k:Int)<((ByteArray.size b.Text:Nat):Int))=true:=by simp;omega
  have p1:0<=(k:Int)/\(k:Int)<((ByteArray.size a.Text:Nat):Int):=⟨by omega,by omega⟩;have p2:0<=(k:Int)/\(k:Int)<((ByteArray.size b.Text:Nat):Int):=⟨by omega,by omega⟩;have hw:i64.wrap ((k:Int)+1)=((k+1:Nat):Int):=by rw [cZ (by omega) (by omega)];omega
  have ea:=List.drop_eq_getElem_cons h1;have eb:=List.drop_eq_getElem_cons h2
  have hb':nS a b (k:Int)=some (if a.Text.data.toList[k]=b.Text.data.toList[k] then .inl ((k+1:Nat):Int) else .inr (.inr (RZ a.Text.data.toList[k] b.Text.data.toList[k]))):=by
   simp only [nS,c1,c2,Bool.and_self,cond_true,aQ p1,aQ p2,aMm h1,aMm h2,hw]
   generalize a.Text.data.toList[k]=x
   generalize b.Text.data.toList[k]=y
   by_cases e:x=y
   ·subst e;simp
   ·have e':¬ ((x.toNat:Int)=(y.toNat:Int)):=fun h=>e (UInt8.toNat_inj.1 (by omega));simp only [e',decide_false,Bool.not_false,cond_true,if_neg e];unfold RZ;simp only [UInt8.lt_iff_toNat_lt];by_cases l:x.toNat<y.toNat
    ·have : ((x.toNat:Int)<(y.toNat:Int)):=by omega
     simp [l]
    ·have l2:y.toNat<x.toNat:=by
      rcases Nat.lt_or_ge y.toNat x.toNat with h | h
      ·exact h
      ·exact absurd (UInt8.toNat_inj.1 (by omega)) e
     simp [l,l2]
  by_cases e:a.Text.data.toList[k]=b.Text.data.toList[k]
  ·rw [if_pos e] at hb';obtain⟨x,hx1,b5⟩:=aGe ha hb m (k+1) (by omega) (by omega);refine⟨x,by rw [fA (show (fun s=>nS a b s) (k:Int)=_ from hb')];exact hx1,?_⟩;rw [ea,eb,nA,if_pos e];exact b5
  ·rw [if_neg e] at hb';refine⟨_,cY (show (fun s=>nS a b s) (k:Int)=_ from hb'),.inr ⟨_,rfl,?_⟩⟩;rw [ea,eb,nA,if_neg e]
theorem WI {v:aF}(h:vE v=true):v.Text.size<=64:=by
 rcases PF h with h | ⟨_,h⟩
 ·rw [(MM h).2];decide
 ·exact (GB h).2.2
theorem aD7 {v:aF}(h:vE v=true):v.Kind=1∨v.Kind=2:=by
 rcases PF h with h | ⟨_,h⟩
 ·exact .inl (MM h).1
 ·exact .inr (GB h).1
theorem aFG {a b:aF}(ha:vE a=true)(hb:vE b=true):yV a b=some (LQ a b):=by
 unfold yV;simp only [aCP,ha,hb,Option.bind_some,Bool.not_true,Bool.not_false,cR,cond_true,Bool.or_self,cond_false];unfold LQ;by_cases hk:a.Kind=b.Kind
 ·rw [if_pos hk];by_cases hn:a.Num=b.Num
  ·rw [if_pos hn];simp only [hk,hn,decide_true,Bool.not_true,cond_false,BW];obtain⟨x,e,hx⟩:=aGe (WI ha) (WI hb) _ 0 rfl (Nat.zero_le _);simp only [Int.natCast_zero,List.drop_zero] at e hx;rw [e];have ht:aDK a.Text b.Text=nA RZ a.Text.data.toList b.Text.data.toList:=rfl;rcases hx with ⟨rfl,h⟩ | ⟨v,rfl,h⟩
   ·rw [ht,h];simp only [Option.bind_some,Sum.elim_inl,xJ];unfold vH;by_cases h1:a.Text.size=b.Text.size
    ·have h1':((a.Text.size:Nat):Int)=((b.Text.size:Nat):Int):=by omega
     simp [h1']
    ·have h1':¬ ((a.Text.size:Nat):Int)=((b.Text.size:Nat):Int):=by omega
     by_cases h2:((a.Text.size:Nat):Int)<((b.Text.size:Nat):Int)
     ·simp only [h1',h2,decide_false,decide_true,Bool.not_false,cond_true,if_true]
     ·have h3:((b.Text.size:Nat):Int)<((a.Text.size:Nat):Int):=by omega
      simp only [h1',h2,h3,decide_false,Bool.not_false,cond_true,cond_false,if_true,if_false]
   ·rw [ht,h];rfl
  ·rw [if_neg hn];simp only [hk,hn,decide_true,decide_false,Bool.not_true,Bool.not_false,cond_false,cond_true];unfold vH;by_cases h1:a.Num<b.Num
   ·simp [h1]
   ·have h2:b.Num<a.Num:=by omega
    simp [h1,h2]
 ·rw [if_neg hk];simp only [hk,decide_false,Bool.not_false,cond_true];rcases aD7 ha with h1 | h1 <;> rcases aD7 hb with h2 | h2
  ·exact absurd (h1.trans h2.symm) hk
  ·rw [h1,h2];rfl
  ·rw [h1,h2];rfl
  ·exact absurd (h1.trans h2.symm) hk
theorem aED {a b:List aF}(ha:gI a=true)(hb:gI b=true):∀ (m k:Nat),min a.length b.length-k=m->k<=min a.length b.length ->
  ∃ x,lp (fun s=>nT a b s) (k:Int)=some x/\((x=.inl ()/\jW (a.drop k) (b.drop k)=vH a.length b.length)∨(∃ v,x=.inr v/\jW (a.drop k) (b.drop k)=v))
 | 0,k,hm,hk=>by
  refine⟨.inl (),cY ?_,.inl ⟨rfl,aFu (by omega) (by omega) (by omega)⟩⟩;show nT a b _=_
  have : ((decide ((k:Int)<((a.length:Nat):Int)))&&(decide ((k:Int)<((b.length:Nat):Int))))=false:=by
   rw [Bool.and_eq_false_iff];simp only [decide_eq_false_iff_not];omega
  simp only [nT,this,cond_false]
 | m+1,k,hm,hk=>by
  obtain⟨la,ma⟩:=tS ha;obtain⟨lb,mb⟩:=tS hb;have h1:k<a.length:=by omega
  have h2:k<b.length:=by omega
  obtain⟨d1,d2,d3,d4⟩:=idx (List.getElem?_eq_getElem h1) (by omega);obtain⟨e1,e2,e3,_⟩:=idx (List.getElem?_eq_getElem h2) (by omega);have ea:=List.drop_eq_getElem_cons h1;have eb:=List.drop_eq_getElem_cons h2
  have hb':nT a b (k:Int)=some (if a[k]=b[k] then .inl ((k+1:Nat):Int) else .inr (.inr (LQ a[k] b[k]))):=by
   simp only [nT,d1,e1,Bool.and_self,cond_true,aQ d2,aQ e2,d3,e3,d4,aFG (ma _ (List.getElem_mem h1)) (mb _ (List.getElem_mem h2)),Option.bind_some];by_cases h:a[k]=b[k]
   ·have:=(ZK.eq a[k] b[k]).2 h;simp [h,(ZK.eq b[k] b[k]).2 rfl]
   ·have : ¬ LQ a[k] b[k]=0:=fun h'=>h ((ZK.eq _ _).1 h');simp [h,this]
  by_cases h:a[k]=b[k]
  ·rw [if_pos h] at hb';obtain⟨x,hx1,b5⟩:=aED ha hb m (k+1) (by omega) (by omega);refine⟨x,by rw [fA (show (fun s=>nT a b s) (k:Int)=_ from hb')];exact hx1,?_⟩
   have hc:jW (a.drop k) (b.drop k)=jW (a.drop (k+1)) (b.drop (k+1)):=by
    rw [ea,eb];unfold jW;rw [nA,if_pos h]
   rw [hc];exact b5
  ·rw [if_neg h] at hb';refine⟨_,cY (show (fun s=>nT a b s) (k:Int)=_ from hb'),.inr ⟨_,rfl,?_⟩⟩;rw [ea,eb];unfold jW;rw [nA,if_neg h]
theorem aAn (a b:List aF)(hla:a.length<=17592186044416)(hlb:b.length<=17592186044416):vU a b=some (if gI a&&gI b then jW a b else 0):=by
 unfold vU;rw [NJ a (by omega)];simp only [Option.bind_some]
 cases ha:gI a
 ·simp [cR]
 ·simp only [Bool.not_true,Bool.not_false,cR,cond_true,NJ b (by omega),Option.bind_some,Bool.false_or]
  cases hb:gI b
  ·simp
  ·simp only [Bool.not_true,cond_false,CC,Bool.and_self,if_true];obtain⟨x,e,hx⟩:=aED ha hb _ 0 rfl (Nat.zero_le _);simp only [Int.natCast_zero,List.drop_zero] at e hx;rw [e];rcases hx with ⟨rfl,h⟩ | ⟨v,rfl,h⟩
   ·rw [h];simp only [Option.bind_some,Sum.elim_inl,xL];unfold vH;by_cases h1:a.length<b.length
    ·simp [h1]
    ·by_cases h2:b.length<a.length <;> simp [h1,h2]
   ·rw [h];rfl
def jE (e:aK):aB:=⟨e.At,e.Net⟩
def gA (r:List aF)(f:List aB):List aK->List (List aF×List aB)
 | []=>[(r,f)]
 | e::l=>if e.Row=r then gA r (f++[jE e]) l else (r,f)::gA e.Row [jE e] l
def groups:List aK->List (List aF×List aB)
 | []=>[]
 | e::l=>gA e.Row [jE e] l
def itG {σ:Type}(y:σ->List aF->List aB->Option (σ×Bool)):List (List aF×List aB)->σ->Option σ
 | [],s=>some s
 | g::gs,s=>(y s g.1 g.2).bind fun x=>if x.2 then itG y gs x.1 else some x.1
def okL (l:List aK):Prop:=l.length<=3518437208783 /\ ∀ e∈l,e.Row.length<=4398046510976
theorem YT {r:List aF}(h:r.length<=4398046510976):BZ r=some r:=by
 unfold BZ;rw [aQ ⟨by omega,by omega,by omega⟩,aQ (by simp only [List.length_nil,Nat.zero_add];omega)];rfl
theorem aC1 {σ:Type}{y:σ->List aF->List aB->Option (σ×Bool)}{l:List aK}(hl:okL l)(row:List aF)(sg:σ):∀ (r:List aK) (k:Nat) (f:List aB),l.drop k=r->k<=l.length->f.length<=k ->
  ∃ k' f',k<=k'/\k'<=l.length/\f'.length<=k'/\lp (fun s:σ×Int×List aB=>oZ y l row s.1 s.2.1 s.2.2) (sg,(k:Int),f)=some (sg,((k':Nat):Int),f') /\
   gA row f r=(row,f')::groups (l.drop k')/\(∀ e r',r=e::r'->e.Row=row->k<k')
 | [],k,f,hd,hk,hf=>by
  have : k=l.length:=by
   have:=congrArg List.length hd;simp only [List.length_drop,List.length_nil] at this;omega
  subst this;refine⟨l.length,f,Nat.le_refl _,Nat.le_refl _,hf,cY ?_,by simp [gA,groups],fun e r' h=>by cases h⟩;show oZ _ _ _ _ _ _=_;simp only [oZ,eP,cR,cond_false,Option.bind_some,Bool.false_and];exact aQ (fun h=>by cases h)
 | a::r,k,f,hd,hk,hf=>by
  obtain⟨h1,h2⟩:=drop_cons hd;have hlt:k<l.length:=(List.getElem?_eq_some_iff.1 h1).1;obtain⟨hll,hlr⟩:=hl;obtain⟨d1,d2,d3,d4⟩:=idx h1 (by omega);have har:=hlr a (List.mem_of_getElem? h1)
  have hb:(fun s:σ×Int×List aB=>oZ y l row s.1 s.2.1 s.2.2) (sg,(k:Int),f)=some (if a.Row=row then .inl (sg,((k+1:Nat):Int),f++[jE a]) else .inr (sg,(k:Int),f)):=by
   show oZ _ _ _ _ _ _=_;simp only [oZ,d1,d3,d4,cR,cond_true,aJk a.Row row (by omega),Option.bind_some,Bool.true_and];rw [aQ (fun _=>d2)];by_cases e:a.Row=row
   ·simp only [e,decide_true,cond_true,if_true];rw [aQ d2,aQ d2,aQ (by simp only [List.length_cons,List.length_nil];omega)];rfl
   ·simp [e]
  by_cases e:a.Row=row
  ·rw [if_pos e] at hb;obtain⟨k',f',g1,g2,g3,g4,g5,_⟩:=aC1 ⟨hll,hlr⟩ row sg r (k+1) (f++[jE a]) h2 (by omega) (by simp;omega) (y:=y);refine⟨k',f',by omega,g2,g3,by rw [fA hb];exact g4,by simp [gA,e,g5],fun _ _ _ _=>by omega⟩
  ·rw [if_neg e] at hb;refine⟨k,f,Nat.le_refl _,hk,hf,cY hb,?_,fun b r' h hr=>by cases h;exact absurd hr e⟩;rw [hd];simp [gA,e,groups]
theorem aIC {σ:Type}{y:σ->List aF->List aB->Option (σ×Bool)}{l:List aK}(hl:okL l):∀ (m k:Nat) (sg s':σ),l.length-k<=m->k<=l.length->itG y (groups (l.drop k)) sg=some s' ->
  ∃ x,lp (fun s:σ×Int=>nR y l s.1 s.2) (sg,(k:Int))=some x/\Sum.elim id id x=s':=by
 have stop:∀ (sg s':σ),itG y (groups (l.drop l.length)) sg=some s' -> ∃ x,lp (fun s:σ×Int=>nR y l s.1 s.2) (sg,((l.length:Nat):Int))=some x/\Sum.elim id id x=s':=by
  intro sg s' h;rw [List.drop_length] at h;simp only [groups,itG,Option.some.injEq] at h;refine⟨.inl sg,cY ?_,h⟩;show nR _ _ _ _=_;simp only [nR,eP,cond_false]
 intro m
 induction m with
 | zero =>
  intro k sg s' hm hk h;have : k=l.length:=by omega
  subst this;exact stop sg s' h
 | succ m ih =>
  intro k sg s' hm hk h;by_cases he:k=l.length
  ·subst he;exact stop sg s' h
  ·have hlt:k<l.length:=by omega
   have hd:l.drop k=l[k]::l.drop (k+1):=List.drop_eq_getElem_cons hlt;obtain⟨d1,d2,d3,d4⟩:=idx (List.getElem?_eq_getElem hlt) (by have:=hl.1;omega);obtain⟨k',f',g1,g2,g3,g4,g5,g6⟩:=aC1 hl l[k].Row sg (l.drop k) k [] rfl hk (by simp) (y:=y);have hk':=g6 _ _ hd rfl
   have hg:groups (l.drop k)=(l[k].Row,f')::groups (l.drop k'):=by
    rw [←g5,hd];simp [groups,gA]
   rw [hg] at h;simp only [itG] at h;obtain⟨x,hx,h⟩:=aW h;have hrow:=hl.2 _ (List.getElem_mem hlt)
   have hb:(fun s:σ×Int=>nR y l s.1 s.2) (sg,(k:Int))=some (if x.2 then .inl (x.1,((k':Nat):Int)) else .inr (.inr x.1)):=by
    show nR _ _ _ _=_;simp only [nR,d1,cond_true,aQ d2,d3,BR,g4,Option.bind_some,xN,YT hrow,hx]
    cases x.2 <;> simp
   cases b5:x.2
   ·rw [b5] at hb h;simp only [Bool.false_eq_true,if_false,Option.some.injEq] at hb h;exact⟨_,cY hb,h⟩
   ·rw [b5] at hb h;simp only [if_true] at hb h;obtain⟨z,b6,b7⟩:=ih k' x.1 s' (by omega) g2 h;exact⟨z,by rw [fA hb];exact b6,b7⟩
theorem aIo {σ:Type}{y:σ->List aF->List aB->Option (σ×Bool)}{l:List aK}(hl:okL l){s s':σ}(h:itG y (groups l) s=some s'):vP y l s=some s':=by
 unfold vP CD;obtain⟨x,h1,h2⟩:=aIC hl l.length 0 s s' (by omega) (Nat.zero_le _) (by simpa using h);simp only [Int.natCast_zero] at h1;rw [h1]
 cases x <;> simpa using h2
def ahd (last:Option (List aF))(r:List aF):Bool:=match last with
 | none=>true
 | some q=>decide (jW q r<0)
def KT (p:List aB->Bool):Option (List aF)->List (List aF×List aB)->Bool
 | _,[]=>true
 | last,g::gs=>(gI g.1&&ahd last g.1&&p g.2)&&KT p (some g.1) gs
theorem aIl {holds:List aB->Option Bool}{p:List aB->Bool}(hp:∀ f,holds f=some (p f))(c:List aK)(t:Bool):∀ (gs:List (List aF×List aB)) (last:List aF) (b:Bool),(b=true->gI last=true) ->
  ∃ x,itG (fun st r f=>rnd (fun (s:Bool×(List aF)×Bool)=>xP holds c s.1 s.2.1 s.2.2 r f) st) gs (.inl (t,last,b))=some x /\
   (if KT p (if b then some last else none) gs then ∃ u,x=.inl (t,u) else ∃ u,x=.inr (false,u))
 | [],last,b,_=>⟨_,rfl,by simp [KT]⟩
 | g::gs,last,b,hb=>by
  have hy:xP holds c t last b g.1 g.2=some (if gI g.1&&ahd (if b then some last else none) g.1&&p g.2 then .inl (t,g.1,true) else .inr (false,last,b)):=by
   unfold xP;simp only [TH,Option.bind_some,aD6,hp]
   cases hm:gI g.1
   ·simp [cR]
   ·cases b
    ·cases h2:p g.2 <;> simp [cR,ahd,h2]
    ·have hl:=hb rfl;by_cases h1:jW last g.1<0
     ·have h1':¬ (0<=jW last g.1):=by omega
      cases h2:p g.2 <;> simp [cR,ahd,h2,hl,h1,h1']
     ·have h1':0<=jW last g.1:=by omega
      simp [cR,ahd,hl,h1,h1']
  cases hc:(gI g.1&&ahd (if b then some last else none) g.1&&p g.2)
  ·rw [hc] at hy;simp only [itG,rnd,hy,Option.bind_some,KT,hc];exact⟨.inr (false,last,b),by simp,by simp⟩
  ·rw [hc] at hy;simp only [itG,rnd,hy,Option.bind_some,KT,hc];have hm:gI g.1=true:=by simp only [Bool.and_eq_true] at hc;exact hc.1.1
   obtain⟨x,h1,h2⟩:=aIl hp c t gs g.1 true (fun _=>hm);refine⟨x,?_,?_⟩
   ·simpa [rnd] using h1
   ·simpa using h2
theorem aIw {l:List aK}(hl:okL l){holds:List aB->Option Bool}{p:List aB->Bool}(hp:∀ f,holds f=some (p f)):DX l holds=some (decide (l.length<=4096)&&KT p none (groups l)):=by
 unfold DX;by_cases h:l.length<=4096
 ·have h1:decide (4096<((l.length:Nat):Int))=false:=by simp;omega
  rw [h1,cond_false];simp only [DN,Option.bind_some,NY];obtain⟨x,e1,e2⟩:=aIl hp l false (groups l) [] false (fun h=>by cases h);rw [aIo hl e1];simp only [Bool.false_eq_true,if_false] at e2;simp only [h,decide_true,Bool.true_and]
  cases hc:KT p none (groups l)
  ·rw [hc] at e2;simp only [Bool.false_eq_true,if_false] at e2;obtain⟨u,rfl⟩:=e2;rfl
  ·rw [hc] at e2;simp only [if_true] at e2;obtain⟨u,rfl⟩:=e2;rfl
 ·have h1:decide (4096<((l.length:Nat):Int))=true:=by simp;omega
  rw [h1,cond_true];simp [h]
def lZ (l:List aK):Bool:=decide (l.length<=4096)&&KT dU none (groups l)
theorem aDW {l:List aK}(hl:okL l):BS l=some (lZ l):=by
 unfold BS;rw [aIw hl (p:=dU) (fun f=>RF f)];rfl
def aDO (f:List aB):Bool:=dU f&&decide (0<=xQ f)
def oT (l:List aK):Bool:=decide (l.length<=4096)&&KT aDO none (groups l)
theorem aJ4 {l:List aK}(hl:okL l):FO l=some (oT l):=by
 unfold FO
 rw [aIw hl (p:=aDO) (fun f=>by
  unfold AH aDO;rw [RF]
  cases h:dU f <;> simp [cR,aFb,h])]
 rfl
def lK (r:List aF)(f:List aB):List aK:=f.map fun j=>⟨r,j.At,j.Net⟩
theorem put_eq {out:List aK}{r:List aF}{f:List aB}(hr:r.length<=4398046510976)(hl:out.length+f.length<=1099511627776):NM out r f=some (out++lK r f):=by
 unfold NM QI;rw [kP (l:=f) (body:=fun s:List aK×Int=>wZ r f (f.length:Nat) s.1 s.2) (fun o i=>(o,i)) (fun o t=>o++lK r t) (fun o t=>o.length+t.length<=1099511627776) out ?_ ?_ hl]
 ·rfl
 ·intro i a t o ha hi;left;obtain⟨d1,d2,d3,d4⟩:=idx ha (by have:=(List.getElem?_eq_some_iff.1 ha).1;omega);simp only [List.length_cons] at hi;refine⟨o++[⟨r,a.At,a.Net⟩],?_,by simp;omega,by simp [lK]⟩;show wZ _ _ _ _ _=_;simp only [wZ,d1,cond_true,aQ d2,d3,d4,YT hr,Option.bind_some];exact aQ (by simp only [List.length_cons,List.length_nil];omega)
 ·intro o _;show wZ _ _ _ _ _=_;simp only [wZ,eP,cond_false];simp [lK]
def wB (by1:List aB->List aB×Int):List (List aF×List aB)->List aK->List aK×Int
 | [],out=>(out,0)
 | g::gs,out=>if (by1 g.2).2≠0 then ([],(by1 g.2).2) else if 4096<(out++lK g.1 (by1 g.2).1).length then ([],7) else wB by1 gs (out++lK g.1 (by1 g.2).1)
def flat (gs:List (List aF×List aB)):List aK:=gs.flatMap fun g=>lK g.1 g.2
theorem aD3:∀ (l:List aK) (r:List aF) (f:List aB),flat (gA r f l)=lK r f++l
 | [],r,f=>by simp [gA,flat]
 | e::l,r,f=>by
  unfold gA;split
  ·rename_i h
   rw [aD3 l r];simp [lK,jE,←h]
  ·have:=aD3 l e.Row [jE e];simp only [flat,List.flatMap_cons] at this ⊢;rw [this];simp [lK,jE]
theorem uX (l:List aK):flat (groups l)=l:=by
 cases l with
 | nil=>rfl
 | cons e l=>unfold groups; rw [aD3]; simp [lK,jE]
theorem aGB {r:List aF}:∀ {l:List aK} {f:List aB} {g:List aF×List aB},g∈gA r f l->f≠[]->g.2≠[]/\(g.1=r ∨ ∃ e∈l,g.1=e.Row)
 | [],f,g,h,hf=>by simp only [gA,List.mem_singleton] at h; subst h; exact ⟨hf,.inl rfl⟩
 | e::l,f,g,h,hf=>by
  unfold gA at h;split at h
  ·obtain⟨h1,h2⟩:=aGB h (by simp);exact⟨h1,h2.imp id fun ⟨x,hx,hx'⟩=>⟨x,by simp [hx],hx'⟩⟩
  ·rcases List.mem_cons.1 h with rfl | h
   ·exact⟨hf,.inl rfl⟩
   ·obtain⟨h1,h2⟩:=aGB (r:=e.Row) h (by simp);refine⟨h1,.inr ?_⟩;rcases h2 with h2 | ⟨x,hx,hx'⟩
    ·exact⟨e,by simp,h2⟩
    ·exact⟨x,by simp [hx],hx'⟩
theorem HA {l:List aK}{g:List aF×List aB}(h:g∈groups l):g.2≠[] /\ ∃ e∈l,g.1=e.Row:=by
 cases l with
 | nil=>simp [groups] at h
 | cons e l =>
  obtain⟨h1,h2⟩:=aGB h (by simp);refine⟨h1,?_⟩;rcases h2 with h2 | ⟨x,hx,hx'⟩
  ·exact⟨e,by simp,h2⟩
  ·exact⟨x,by simp [hx],hx'⟩
def bR (l:List aK)(r:List aF):List aB:=(l.filter fun e=>decide (e.Row=r)).map jE
theorem xH (a b:List aK)(r:List aF):bR (a++b) r=bR a r++bR b r:=by simp [bR]
theorem aEP (q:List aF)(f:List aB)(r:List aF):bR (lK q f) r=if q=r then f else []:=by
 induction f with
 | nil=>simp [bR,lK]
 | cons j f ih =>
  have h1:lK q (j::f)=[⟨q,j.At,j.Net⟩]++lK q f:=rfl;rw [h1,xH,ih];by_cases h:q=r <;> simp [bR,jE,h]
def look:List (List aF×List aB)->List aF->List aB
 | [],_=>[]
 | g::gs,r=>if g.1=r then g.2 else look gs r
theorem MR (g:List aF×List aB)(gs:List (List aF×List aB))(r:List aF):look (g::gs) r=if g.1=r then g.2 else look gs r:=rfl
abbrev ltG (a b:List aF×List aB):Prop:=jW a.1 b.1<0
abbrev AM (gs:List (List aF×List aB)):Prop:=gs.Pairwise ltG
abbrev Full (gs:List (List aF×List aB)):Prop:=∀ g∈gs,g.2≠[]
theorem CA {a:List aF}:¬ jW a a<0:=by rw [(uJ.eq a a).2 rfl];omega
theorem VX:∀ {gs:List (List aF×List aB)} {r:List aF},(∀ g∈gs,g.1≠r)->look gs r=[]
 | [],_,_=>rfl
 | g::gs,r,h=>by
  rw [MR];rw [if_neg (h g (by simp))];exact VX fun q hq=>h q (by simp [hq])
theorem zM (gs:List (List aF×List aB))(r:List aF):(look gs r=[] /\ ∀ g∈gs,g.1≠r) ∨ ∃ g∈gs,g.1=r/\look gs r=g.2:=by
 induction gs with
 | nil=>exact .inl ⟨rfl,by simp⟩
 | cons g gs ih =>
  rw [MR];by_cases h:g.1=r
  ·rw [if_pos h];exact .inr ⟨g,by simp,h,rfl⟩
  ·rw [if_neg h];rcases ih with ⟨h1,h2⟩ | ⟨q,hq,h1,h2⟩
   ·refine .inl ⟨h1,fun q hq=>?_⟩;rcases List.mem_cons.1 hq with rfl | hq
    ·exact h
    ·exact h2 q hq
   ·exact .inr ⟨q,by simp [hq],h1,h2⟩
theorem xO {gs:List (List aF×List aB)}(hs:AM gs){g:List aF×List aB}(hg:g∈gs):look gs g.1=g.2:=by
 induction gs with
 | nil=>simp at hg
 | cons q gs ih =>
  have hs':=List.pairwise_cons.1 hs;rw [MR];rcases List.mem_cons.1 hg with rfl | hg
  ·rw [if_pos rfl]
  ·rw [if_neg (fun e=>by have:=hs'.1 g hg;simp only [ltG,e] at this;exact CA this)];exact ih hs'.2 hg
theorem zL (g:List aF×List aB)(gs:List (List aF×List aB)):flat (g::gs)=lK g.1 g.2++flat gs:=rfl
theorem NI:∀ {gs:List (List aF×List aB)},AM gs -> ∀ r,bR (flat gs) r=look gs r
 | [],_,r=>rfl
 | g::gs,hs,r=>by
  have hs':=List.pairwise_cons.1 hs;rw [zL,xH,aEP,NI hs'.2,MR];by_cases h:g.1=r
  ·rw [if_pos h,if_pos h,VX,List.append_nil];intro q hq e;have:=hs'.1 q hq;simp only [ltG,h,e] at this;exact CA this
  ·rw [if_neg h,if_neg h];rfl
theorem EY {p:List aB->Bool}:∀ {gs:List (List aF×List aB)} {last:Option (List aF)},KT p last gs=true↔(∀ g∈gs,gI g.1=true/\p g.2=true)/\AM gs/\(∀ q,last=some q -> ∀ g∈gs,jW q g.1<0)
 | [],last=>by simp [KT]
 | g::gs,last=>by
  unfold KT;simp only [Bool.and_eq_true,EY (gs:=gs),List.mem_cons,List.pairwise_cons];constructor
  ·rintro ⟨⟨⟨h1,h2⟩,h3⟩,h4,h5,h6⟩;refine⟨?_,⟨fun q hq=>h6 _ rfl q hq,h5⟩,?_⟩
   ·rintro q (rfl | hq)
    ·exact⟨h1,h3⟩
    ·exact h4 q hq
   ·rintro q rfl x (rfl | hx)
    ·simpa [ahd] using h2
    ·simp only [ahd,decide_eq_true_eq] at h2;exact uJ.trans _ _ _ h2 (h6 _ rfl x hx)
  ·rintro ⟨h1,⟨h2,h3⟩,h4⟩;refine⟨⟨⟨(h1 g (.inl rfl)).1,?_⟩,(h1 g (.inl rfl)).2⟩,fun q hq=>h1 q (.inr hq),h3,?_⟩
   ·unfold ahd;split
    ·rfl
    ·exact decide_eq_true (h4 _ rfl g (.inl rfl))
   ·rintro q hq x hx
    cases hq
    exact h2 x hx
theorem aHU (l:List aK):Full (groups l):=fun _ hg=>(HA hg).1
theorem gQ {l:List aK}(h:lZ l=true):l.length<=4096/\(∀ g∈groups l,gI g.1=true/\dU g.2=true)/\AM (groups l):=by
 simp only [lZ,Bool.and_eq_true,decide_eq_true_eq] at h;obtain⟨h1,h2,_⟩:=EY.1 h.2;exact⟨h.1,h1,h2⟩
theorem aKG {l:List aK}(h:lZ l=true)(r:List aF):dU (look (groups l) r)=true:=by
 rcases zM (groups l) r with ⟨h1,_⟩ | ⟨g,hg,_,h1⟩
 ·rw [h1];exact aDE
 ·rw [h1];exact ((gQ h).2.1 g hg).2
theorem oA {l:List aK}(h:AM (groups l))(r:List aF):look (groups l) r=bR l r:=by
 rw [←NI h,uX]
theorem aDF (r:List aF)(f:List aB)(e:aK)(l:List aK):gA r f (e::l)=if e.Row=r then gA r (f++[jE e]) l else (r,f)::gA e.Row [jE e] l:=rfl
theorem aGk (r:List aF):∀ (f2 f:List aB) (l:List aK),gA r f (lK r f2++l)=gA r (f++f2) l
 | [],f,l=>by simp [lK]
 | j::f2,f,l=>by
  show gA r f (⟨r,j.At,j.Net⟩::(lK r f2++l))=_;rw [aDF,if_pos rfl,aGk r f2];simp [jE]
theorem aEC:∀ {gs:List (List aF×List aB)},AM gs->Full gs->groups (flat gs)=gs
 | [],_,_=>rfl
 | (r,f)::gs,hs,hf=>by
  have hs':=List.pairwise_cons.1 hs;have hne:=hf (r,f) (by simp);have ih:=aEC hs'.2 (fun g hg=>hf g (by simp [hg]))
  cases f with
  | nil=>exact absurd rfl hne
  | cons j f =>
   rw [zL];show gA r [jE ⟨r,j.At,j.Net⟩] (lK r f++flat gs)=_;rw [aGk]
   have key:∀ (F:List aB),gA r F (flat gs)=(r,F)::groups (flat gs):=by
    intro F
    cases gs with
    | nil=>rfl
    | cons g gs =>
     obtain⟨q,f'⟩:=g;have hq:=hf (q,f') (by simp)
     cases f' with
     | nil=>exact absurd rfl hq
     | cons j' f' =>
      have hqr:q≠r:=fun e=>by
       have:=hs'.1 (q,j'::f') (by simp);simp only [ltG,e] at this;exact CA this
      rw [zL];show gA r F (⟨q,j'.At,j'.Net⟩::(lK q f'++flat gs))=_;rw [gA,if_neg hqr];rfl
   rw [key,ih];rfl
def UY (gs:List (List aF×List aB)):List (List aF×List aB):=gs.filter fun g => !g.2.isEmpty
theorem RB:∀ (gs:List (List aF×List aB)),flat (UY gs)=flat gs
 | []=>rfl
 | (r,[])::gs=>by
  have : UY ((r,[])::gs)=UY gs:=rfl;rw [this,RB gs,zL];rfl
 | (r,j::f)::gs=>by
  have : UY ((r,j::f)::gs)=(r,j::f)::UY gs:=rfl;rw [this,zL,zL,RB gs]
theorem aEl (gs:List (List aF×List aB)):Full (UY gs):=by
 intro g hg;have:=(List.mem_filter.1 hg).2;intro h;rw [h] at this;simp at this
theorem NU {gs:List (List aF×List aB)}(hs:AM gs):groups (flat gs)=UY gs:=by
 rw [←RB];exact aEC (hs.filter _) (aEl gs)
theorem aAR {gs:List (List aF×List aB)}(hs:AM gs)(r:List aF):look (groups (flat gs)) r=look gs r:=by
 have h1:=NI (gs:=UY gs) (hs.filter _) r;rw [NU hs,←h1,←NI hs,RB]
theorem aEF {gs:List (List aF×List aB)}(hs:AM gs)(hm:∀ g∈gs,gI g.1=true/\dU g.2=true)(hl:(flat gs).length<=4096):lZ (flat gs)=true:=by
 simp only [lZ,Bool.and_eq_true,decide_eq_true_eq];refine⟨hl,EY.2 ?_⟩;rw [NU hs];exact⟨fun g hg=>hm g (List.mem_filter.1 hg).1,hs.filter _,by simp⟩
def uN (by1:List aB->List aB×Int)(gs:List (List aF×List aB)):List (List aF×List aB):=gs.map fun g=>(g.1,(by1 g.2).1)
theorem UL {by1:List aB->List aB×Int}{gs:List (List aF×List aB)}(hs:AM gs):AM (uN by1 gs):=by
 rw [AM,uN,List.pairwise_map];exact hs
theorem WL {by1:List aB->List aB×Int}(h0:(by1 []).1=[]):∀ (gs:List (List aF×List aB)) (r:List aF),look (uN by1 gs) r=(by1 (look gs r)).1
 | [],r=>h0.symm
 | g::gs,r=>by
  show look ((g.1,(by1 g.2).1)::uN by1 gs) r=_;rw [MR,MR];by_cases h:g.1=r
  ·rw [if_pos h,if_pos h]
  ·rw [if_neg h,if_neg h];exact WL h0 gs r
theorem aD2 {by1:List aB->List aB×Int}:∀ {gs:List (List aF×List aB)} {out:List aK},out.length<=4096->(wB by1 gs out).2=0->(∀ g∈gs,(by1 g.2).2=0)/\(wB by1 gs out).1=out++flat (uN by1 gs)/\(wB by1 gs out).1.length<=4096
 | [],out,ho,_=>by simp [wB,uN,flat,ho]
 | g::gs,out,ho,h=>by
  unfold wB at h ⊢;by_cases e1:(by1 g.2).2=0
  ·rw [if_neg (by simp [e1])] at h ⊢;by_cases e2:4096<(out++lK g.1 (by1 g.2).1).length
   ·rw [if_pos e2] at h;simp at h
   ·rw [if_neg e2] at h ⊢;obtain⟨h1,h2,h3⟩:=aD2 (by omega) h;refine⟨?_,?_,h3⟩
    ·intro q hq;rcases List.mem_cons.1 hq with rfl | hq
     ·exact e1
     ·exact h1 q hq
    ·rw [h2];simp [uN,zL]
  ·rw [if_pos e1] at h;exact absurd h e1
theorem aCp {by1:List aB->List aB×Int}:∀ {gs:List (List aF×List aB)} {out:List aK},(∀ g∈gs,(by1 g.2).2=0)->(out++flat (uN by1 gs)).length<=4096->wB by1 gs out=(out++flat (uN by1 gs),0)
 | [],out,_,_=>by simp [wB,uN,flat]
 | g::gs,out,h,hl=>by
  unfold wB;have hf:flat (uN by1 (g::gs))=lK g.1 (by1 g.2).1++flat (uN by1 gs):=rfl;rw [hf] at hl ⊢;rw [if_neg (by simp [h g (by simp)]),if_neg (by simp only [List.length_append] at hl ⊢;omega),aCp (fun q hq=>h q (by simp [hq])) (by simpa using hl)];simp
theorem aFf {by1:List aB->List aB×Int}:∀ {gs:List (List aF×List aB)} {out:List aK},(wB by1 gs out).2≠0->(wB by1 gs out).1=[]
 | [],out,h=>by simp [wB] at h
 | g::gs,out,h=>by
  unfold wB at h ⊢;split
  ·rfl
  ·rename_i e1
   rw [if_neg e1] at h;split
   ·rfl
   ·rename_i e2
    rw [if_neg e2] at h;exact aFf h
def LW (by1:List aB->List aB×Int)(l:List aK):List aK×Int:=if lZ l then wB by1 (groups l) [] else ([],2)
theorem aJN {l:List aK}(hl:okL l){g:List aF×List aB}(hg:g∈groups l):g.1.length<=4398046510976:=by
 obtain⟨_,e,he,h⟩:=HA hg;rw [h];exact hl.2 e he
theorem QC {by1:List aB->List aB×Int}{l:List aK}(h:(LW by1 l).2=0):lZ l=true/\(∀ g∈groups l,(by1 g.2).2=0)/\(LW by1 l).1=flat (uN by1 (groups l))/\(LW by1 l).1.length<=4096:=by
 unfold LW at h ⊢
 cases hm:lZ l
 ·rw [hm] at h;simp at h
 ·rw [hm] at h;simp only [if_true] at h ⊢;obtain⟨h1,h2,h3⟩:=aD2 (by simp) h;exact⟨trivial,h1,by simpa using h2,h3⟩
theorem aEu {by1:List aB->List aB×Int}(h0:(by1 []).1=[]){l:List aK}(h:(LW by1 l).2=0)(r:List aF):look (groups (LW by1 l).1) r=(by1 (look (groups l) r)).1:=by
 obtain⟨h1,h2,h3,_⟩:=QC h;rw [h3,aAR (UL (gQ h1).2.2),WL h0]
theorem aMb {by1:List aB->List aB×Int}(h0:(by1 []).2=0){l:List aK}(h:(LW by1 l).2=0)(r:List aF):(by1 (look (groups l) r)).2=0:=by
 obtain⟨h1,h2,_,_⟩:=QC h;rcases zM (groups l) r with ⟨e,_⟩ | ⟨g,hg,_,e⟩
 ·rw [e];exact h0
 ·rw [e];exact h2 g hg
theorem aBW {f g:List aK}(hl:okL f):AX f g=some (decide (f=g)):=by
 unfold AX;by_cases he:f.length=g.length
 ·rw [aCG he,cond_false];unfold KN;have:=aDt (f:=f) (g:=g) (body:=fun s=>yE f g s) he ?_ ?_ f.length 0 rfl (Nat.zero_le _)
  ·simp only [Int.natCast_zero,List.drop_zero] at this;rw [this];by_cases h:f=g <;> simp [h,DH]
  ·intro i x y hx hy;have hll:=hl.1;obtain⟨d1,d2,d3,d4⟩:=idx hx (by omega);obtain⟨_,e2,e3,_⟩:=idx hy (by omega);have hr:=hl.2 x (List.mem_of_getElem? hx);simp only [yE,d1,cond_true,aQ d2,aQ e2,d3,e3,d4,cR];rw [aQ (fun _=>d2),aQ (fun _=>e2),aQ (fun _=>d2),aQ (fun _=>e2),LI x.Row y.Row (by omega)];obtain⟨x1,x2,x3⟩:=x;obtain⟨y1,y2,y3⟩:=y;by_cases h1:x2=y2 <;> by_cases h2:x3=y3 <;> by_cases h3:x1=y1 <;> simp [h1,h2,h3]
  ·simp only [yE,eP,cond_false]
 ·rw [aCy he,cond_true];have : f≠g:=fun h=>he (by rw [h]);simp [this]
theorem SC:∀ (l:List aK) (r:List aF) (f:List aB),(gA r f l).length<=l.length+1
 | [],_,_=>by simp [gA]
 | e::l,r,f=>by
  rw [aDF];split
  ·have:=SC l r (f++[jE e]);simp only [List.length_cons];omega
  ·have:=SC l e.Row [jE e];simp only [List.length_cons];omega
theorem SV (l:List aK):(groups l).length<=l.length:=by
 cases l with
 | nil=>simp [groups]
 | cons e l=>exact SC l e.Row [jE e]
def unE (e:aK):Bool:=((!gI e.Row)||(decide (1048576<e.Net)))||(decide (e.Net<(-1048576:Int)))
def PY (e:aK):Bool:=(decide (e.At<(-1:Int)))||(decide (1125899906842624<e.At))
abbrev leE (x y:aK):Prop:=jW x.Row y.Row<0∨(x.Row=y.Row/\x.At<=y.At)
theorem aFN:∀ {l:List aK} {r:List aF} {f:List aB},Srt leE l->(∀ e∈l,e.Row=r∨jW r e.Row<0)->AM (gA r f l) /\ ∀ g∈gA r f l,g.1=r∨jW r g.1<0
 | [],r,f,_,_=>by simp [gA]
 | e::l,r,f,hs,hr=>by
  have hs':=List.pairwise_cons.1 hs;rw [aDF];by_cases h:e.Row=r
  ·rw [if_pos h];exact aFN hs'.2 (fun x hx=>hr x (by simp [hx]))
  ·rw [if_neg h];have hlt:jW r e.Row<0:=(hr e (by simp)).resolve_left h
   obtain⟨h1,h2⟩:=aFN (r:=e.Row) (f:=[jE e]) hs'.2 (fun x hx=>by
    rcases hs'.1 x hx with h | ⟨h,_⟩
    ·exact .inr h
    ·exact .inl h.symm)
   have key:∀ g∈gA e.Row [jE e] l,jW r g.1<0:=fun g hg=>by
    rcases h2 g hg with h | h
    ·rw [h];exact hlt
    ·exact uJ.trans _ _ _ hlt h
   refine⟨List.pairwise_cons.2 ⟨key,h1⟩,?_⟩;intro g hg;rcases List.mem_cons.1 hg with rfl | hg
   ·exact .inl rfl
   ·exact .inr (key g hg)
theorem YU {l:List aK}(hs:Srt leE l):AM (groups l):=by
 cases l with
 | nil=>exact List.Pairwise.nil
 | cons e l =>
  have hs':=List.pairwise_cons.1 hs
  exact (aFN hs'.2 (fun x hx=>by
   rcases hs'.1 x hx with h | ⟨h,_⟩
   ·exact .inr h
   ·exact .inl h.symm)).1
abbrev aAQ (rs:List (List aF)):Prop:=rs.Pairwise fun a b=>jW a b<0
def zY (r:List aF):List (List aF)->List (List aF)
 | []=>[r]
 | x::xs=>if jW x r<0 then x::zY r xs else if x=r then x::xs else r::x::xs
def rowsOf (l:List aK):List (List aF):=l.foldl (fun rs e=>zY e.Row rs) []
theorem YS {r x:List aF}:∀ {rs:List (List aF)},x∈zY r rs↔x=r∨x∈rs
 | []=>by simp [zY]
 | y::ys=>by
  unfold zY;split
  ·simp only [List.mem_cons,YS (rs:=ys)];constructor
   ·rintro (h | h | h)
    ·exact .inr (.inl h)
    ·exact .inl h
    ·exact .inr (.inr h)
   ·rintro (h | h | h)
    ·exact .inr (.inl h)
    ·exact .inl h
    ·exact .inr (.inr h)
  ·split
   ·rename_i h;subst h;simp
   ·simp
theorem aGE {r:List aF}:∀ {rs:List (List aF)},aAQ rs->aAQ (zY r rs)
 | [],_=>by simp [zY]
 | y::ys,hs=>by
  have hs':=List.pairwise_cons.1 hs;unfold zY;split
  ·rename_i h
   refine List.pairwise_cons.2 ⟨fun z hz=>?_,aGE hs'.2⟩;rcases YS.1 hz with rfl | hz
   ·exact h
   ·exact hs'.1 z hz
  ·rename_i h
   split
   ·exact hs
   ·rename_i hne
    have hlt:jW r y<0:=by
     have h0:jW y r≠0:=fun e=>hne ((uJ.eq _ _).1 e);exact (uJ.anti _ _).2 (by omega)
    refine List.pairwise_cons.2 ⟨fun z hz=>?_,hs⟩;rcases List.mem_cons.1 hz with rfl | hz
    ·exact hlt
    ·exact uJ.trans _ _ _ hlt (hs'.1 z hz)
theorem aAV:∀ (l:List aK) (rs:List (List aF)),aAQ rs->aAQ (l.foldl (fun rs e=>zY e.Row rs) rs) /\ ∀ x,x∈l.foldl (fun rs e=>zY e.Row rs) rs↔x∈rs ∨ ∃ e∈l,e.Row=x
 | [],rs,hs=>⟨hs,by simp⟩
 | e::l,rs,hs=>by
  obtain⟨h1,h2⟩:=aAV l (zY e.Row rs) (aGE hs);refine⟨h1,fun x=>?_⟩;simp only [List.foldl_cons];rw [h2 x,YS];simp only [List.mem_cons,exists_eq_or_imp];constructor
  ·rintro ((h | h) | h)
   ·exact .inr (.inl h.symm)
   ·exact .inl h
   ·exact .inr (.inr h)
  ·rintro (h | h | h)
   ·exact .inl (.inr h)
   ·exact .inl (.inl h.symm)
   ·exact .inr h
theorem aDx (l:List aK):aAQ (rowsOf l):=(aAV l [] List.Pairwise.nil).1
theorem tL {l:List aK}{x:List aF}:x∈rowsOf l ↔ ∃ e∈l,e.Row=x:=by
 have:=(aAV l [] List.Pairwise.nil).2 x
 simpa [rowsOf] using this
theorem aFI:∀ {a b:List (List aF)},aAQ a->aAQ b->(∀ x,x∈a↔x∈b)->a=b
 | [],[],_,_,_=>rfl
 | [],y::ys,_,_,h=>absurd ((h y).2 (by simp)) (by simp)
 | x::xs,[],_,_,h=>absurd ((h x).1 (by simp)) (by simp)
 | x::xs,y::ys,ha,hb,h=>by
  have ha':=List.pairwise_cons.1 ha;have hb':=List.pairwise_cons.1 hb
  have e:x=y:=by
   rcases List.mem_cons.1 ((h x).1 (by simp)) with h1 | h1
   ·exact h1
   ·rcases List.mem_cons.1 ((h y).2 (by simp)) with h2 | h2
    ·exact h2.symm
    ·exact absurd (uJ.trans _ _ _ (hb'.1 x h1) (ha'.1 y h2)) CA
  subst e;rw [aFI ha'.2 hb'.2 fun z=>?_];constructor
  ·intro hz;rcases List.mem_cons.1 ((h z).1 (by simp [hz])) with h1 | h1
   ·subst h1;exact absurd (ha'.1 z hz) CA
   ·exact h1
  ·intro hz;rcases List.mem_cons.1 ((h z).2 (by simp [hz])) with h1 | h1
   ·subst h1;exact absurd (hb'.1 z hz) CA
   ·exact h1
def yC (l:List aK):List (List aF×List aB):=(rowsOf l).map fun r=>(r,bR l r)
theorem aBY (l:List aK):AM (yC l):=by
 rw [AM,yC,List.pairwise_map];exact aDx l
theorem QY {l:List aK}{r:List aF}(h:∀ e∈l,e.Row≠r):bR l r=[]:=by
 unfold bR;rw [List.map_eq_nil_iff,List.filter_eq_nil_iff];intro e he
 simpa using h e he
theorem WE (l:List aK)(r:List aF):look (yC l) r=bR l r:=by
 rcases zM (yC l) r with ⟨h1,h2⟩ | ⟨g,hg,h1,h2⟩
 ·rw [h1,QY];intro e he hr;have : (r,bR l r)∈yC l:=List.mem_map.2 ⟨r,tL.2 ⟨e,he,hr⟩,rfl⟩;exact h2 _ this rfl
 ·rw [h2];obtain⟨q,_,rfl⟩:=List.mem_map.1 hg;simp only at h1;rw [h1]
theorem aHy {l l':List aK}(hp:l'.Perm l)(hs:Srt leE l'):(groups l').map (·.1)=rowsOf l:=by
 refine aFI ?_ (aDx l) fun x=>?_
 ·rw [aAQ,List.pairwise_map];exact YU hs
 ·rw [tL];constructor
  ·intro h;obtain⟨g,hg,rfl⟩:=List.mem_map.1 h;obtain⟨_,e,he,h1⟩:=HA hg;exact⟨e,hp.mem_iff.1 he,h1.symm⟩
  ·rintro ⟨e,he,rfl⟩;have he':e∈flat (groups l'):=by rw [uX];exact hp.mem_iff.2 he
   obtain⟨g,hg,h1⟩:=List.mem_flatMap.1 he';obtain⟨j,_,rfl⟩:=List.mem_map.1 h1;exact List.mem_map.2 ⟨g,hg,rfl⟩
theorem aLE {l:List aB}(ht:∀ j∈l,-2<j.At):Up (-2) (SL l) :=
 UT (by rw [List.map_map];simpa [Function.comp_def] using aAi ht)
theorem aJL {l:List aB}(ht:∀ j∈l,-2<j.At){t:Int}(h1 : -2<t)(h2:t<1125899906842624):val (SL l) t=val l t:=by
 have h0:val l (-2)=0:=FC fun j hj=>ht j hj;have:=aAe (F:=val l) (aAi ht) (fun s t' _ hst hlt hn=>BN hst fun j hj hc=>hn j.At (QB.2 (Or.inr ⟨j,List.mem_filter.2 ⟨hj,by simp;omega⟩,rfl⟩)) hc) t (by omega) h2;rw [h0] at this;unfold SL;rw [this];omega
theorem RL (l:List aB):(fJ l).1.length<=1024:=by
 unfold fJ;split
 ·simp
 ·split
  ·simp
  ·exact aCd _
def jL (l:List aK):List aK×Int:=if l.any unE then ([],2) else if l.any PY then ([],13) else wB fJ (yC l) []
theorem aBh {l:List aK}(h:l.any unE=false):∀ e∈l,gI e.Row=true/\e.Net<=1048576 /\ -1048576<=e.Net:=by
 intro e he;have:=List.any_eq_false.1 h e he;simp only [unE,Bool.or_eq_true,not_or,Bool.not_eq_true',decide_eq_true_eq,Bool.not_eq_false,Bool.not_eq_true] at this;exact⟨by simpa using this.1.1,by omega,by omega⟩
theorem aEM:fJ []=([],0):=rfl
theorem UP {l:List aK}(h:(jL l).2=0):l.any unE=false/\l.any PY=false/\(∀ g∈yC l,(fJ g.2).2=0)/\(jL l).1=flat (uN fJ (yC l))/\(jL l).1.length<=4096:=by
 unfold jL at h ⊢
 cases h1:l.any unE
 ·rw [h1] at h;simp only [Bool.false_eq_true,if_false] at h ⊢
  cases h2:l.any PY
  ·rw [h2] at h;simp only [Bool.false_eq_true,if_false] at h ⊢;obtain⟨a,b,c⟩:=aD2 (by simp) h;exact⟨trivial,trivial,a,by simpa using b,c⟩
  ·rw [h2] at h;simp at h
 ·rw [h1] at h;simp at h
theorem aCN {l:List aK}(h:(jL l).2=0)(r:List aF):look (groups (jL l).1) r=(fJ (bR l r)).1:=by
 obtain⟨_,_,_,h4,_⟩:=UP h;rw [h4,aAR (UL (aBY l)),WL (by rw [aEM]),WE]
theorem YM {f:List aB}(h:(fJ f).2=0):f.any yX=false/\f.any FP=false/\dU (SL f)=true/\fJ f=(SL f,0):=by
 unfold fJ at h ⊢
 cases h1:f.any yX
 ·rw [h1] at h;simp only [Bool.false_eq_true,if_false] at h ⊢
  cases h2:f.any FP
  ·rw [h2] at h;simp only [Bool.false_eq_true,if_false] at h ⊢;unfold told at h ⊢
   cases h3:dU (SL f)
   ·rw [h3] at h;simp at h
   ·simp
  ·rw [h2] at h;simp at h
 ·rw [h1] at h;simp at h
theorem aEB {l:List aK}(h:(jL l).2=0)(r:List aF):(fJ (bR l r)).2=0:=by
 obtain⟨_,_,h3,_,_⟩:=UP h;rcases zM (yC l) r with ⟨e,_⟩ | ⟨g,hg,_,e⟩
 ·rw [WE] at e;rw [e];rfl
 ·rw [WE] at e;rw [e];exact h3 g hg
theorem VT {l:List aK}(h:(jL l).2=0):lZ (jL l).1=true:=by
 obtain⟨h1,_,h3,h4,h5⟩:=UP h;rw [h4] at h5 ⊢;refine aEF (UL (aBY l)) (fun g hg=>?_) h5;obtain⟨q,hq,rfl⟩:=List.mem_map.1 hg;have h6:=YM (h3 q hq);obtain⟨r,hr,rfl⟩:=List.mem_map.1 hq;obtain⟨e,he,rfl⟩:=tL.1 hr;exact⟨(aBh h1 e he).1,by rw [h6.2.2.2];exact h6.2.2.1⟩
theorem aIQ {l:List aK}(h:(jL l).2≠0):(jL l).1=[]:=by
 unfold jL at h ⊢;split
 ·rfl
 ·rename_i h1
  rw [if_neg h1] at h;split
  ·rfl
  ·rename_i h2
   rw [if_neg h2] at h;exact aFf h
def aI3 (a b:List aK):List aK×Int:=if lZ a&&lZ b then jL (a++b) else ([],2)
theorem aDs {a b:List aK}(ha:okL a)(hb:okL b)(h:a.length+b.length<=3518437208783):okL (a++b) :=
 ⟨by simpa using h,fun e he=>by
  rcases List.mem_append.1 he with h | h
  ·exact ha.2 e h
  ·exact hb.2 e h⟩
def aMp (s:bE):Bool:=(decide (0<=s.From)&&decide (s.From<=1125899906842624))&&(decide (0<=s.To)&&decide (s.To<=1125899906842624))&&decide (s.From<s.To)
def vL:aF:=⟨1,1,ByteArray.empty⟩
theorem aDu {l:List aK}(h:l.length<=4096)(hr:∀ e∈l,e.Row.length<=8):okL l:=⟨by omega,fun e he=>by have:=hr e he;omega⟩
theorem aM2:okL []:=⟨by simp,by simp⟩
theorem aLk {gs:List (List aF×List aB)}(h:∀ g∈gs,g.1.length<=4398046510976)(hl:(flat gs).length<=4096):okL (flat gs):=by
 refine⟨by omega,fun e he=>?_⟩;obtain⟨g,hg,h1⟩:=List.mem_flatMap.1 he;obtain⟨j,_,rfl⟩:=List.mem_map.1 h1;exact h g hg
theorem aKQ {l:List aK}(hl:okL l):okL (jL l).1:=by
 by_cases h:(jL l).2=0
 ·obtain⟨_,_,_,h4,h5⟩:=UP h;rw [h4] at h5 ⊢;refine aLk (fun g hg=>?_) h5;obtain⟨q,hq,rfl⟩:=List.mem_map.1 hg;obtain⟨r,hr,rfl⟩:=List.mem_map.1 hq;obtain⟨e,he,rfl⟩:=tL.1 hr;exact hl.2 e he
 ·rw [aIQ h];exact aM2
def nX (l:List aK)(t:Int):List aK×Int:=LW (fun f=>rest f t) l
theorem TL {t:Int}:rest [] t=([],0):=by
 unfold rest;rw [if_pos aDE];split
 ·rfl
 ·split <;> rfl
theorem aNX {l:List aK}(m:∀ a∈l,DT a)(y:List.length l*40<=140737488351232):okL l :=
 ⟨by omega,fun e he=>by have:=(m e he).1.2;omega⟩
theorem aBz {σ:Type}{y:σ->List aF->List aB->Option (σ×Bool)}(c:List aK):∀ (gs:List (List aF×List aB)) (s s':σ),itG y gs s=some s' ->
  ∃ x,itG (fun st t10 t11=>rnd (fun (s:σ)=>qS y c s t10 t11) st) gs (.inl s)=some x/\Sum.elim id id x=s'
 | [],s,s',h=>by simp only [itG,Option.some.injEq] at h; exact ⟨_,rfl,h⟩
 | g::gs,s,s',h=>by
  simp only [itG] at h;obtain⟨z,hz,h⟩:=aW h
  have hl:qS y c s g.1 g.2=some (if z.2 then .inl z.1 else .inr z.1):=by
   unfold qS;rw [hz];obtain⟨z1,z2⟩:=z
   cases z2 <;> rfl
  cases h2:z.2
  ·rw [h2] at h hl;simp only [Bool.false_eq_true,if_false,Option.some.injEq] at h hl;refine⟨.inr z.1,?_,h⟩;simp [itG,rnd,hl]
  ·rw [h2] at h hl;simp only [if_true] at h hl;obtain⟨x,h3,h4⟩:=aBz c gs z.1 s' h;refine⟨x,?_,h4⟩;simp only [itG,rnd,hl,Option.bind_some,Sum.isLeft_inl,if_true];exact h3
theorem SM {σ:Type}{y:σ->List aF->List aB->Option (σ×Bool)}{l:List aK}(hl:okL l){s s':σ}(h:itG y (if lZ l then groups l else []) s=some s'):rM y l s=some s':=by
 unfold rM;rw [aDW hl]
 cases hm:lZ l
 ·rw [hm] at h;simp only [Bool.false_eq_true,if_false,itG] at h
  simpa using h
 ·rw [hm] at h;simp only [if_true] at h;simp only [Option.bind_some,Bool.not_true,cond_false,DN,zH];obtain⟨x,h1,h2⟩:=aBz l (groups l) s s' h;rw [aIo hl h1]
  cases x <;> simpa using h2
theorem aEK {out:List aK}{r:List aF}{f:List aB}(hr:r.length<=4398046510976)(hl:out.length+f.length<=1099511627776):DS out r f=some (out++lK r f):=by
 unfold DS NH;rw [kP (l:=f) (body:=fun s:List aK×Int=>vM r f s.1 s.2) (fun o i=>(o,i)) (fun o t=>o++lK r t) (fun o t=>o.length+t.length<=1099511627776) out ?_ ?_ hl]
 ·rfl
 ·intro i a t o ha hi;left;obtain⟨d1,d2,d3,d4⟩:=idx ha (by have:=(List.getElem?_eq_some_iff.1 ha).1;omega);simp only [List.length_cons] at hi;refine⟨o++[⟨r,a.At,a.Net⟩],?_,by simp;omega,by simp [lK]⟩;show vM _ _ _ _=_;simp only [vM,d1,cond_true,aQ d2,d3,d4];rw [aQ ⟨by omega,by omega⟩];exact aQ (by simp only [List.length_cons,List.length_nil];omega)
 ·intro o _;show vM _ _ _ _=_;simp only [vM,eP,cond_false];simp [lK]
theorem aAJ (r:List aF)(f:List aB):(lK r f).length=f.length:=by simp [lK]
def aGL (r:List aF)(f:List aB):List aK:=if gI r&&dU f then lK r f else []
theorem aJ0 {r:List aF}(hr:r.length<=4398046510976)(f:List aB):GI r f=some (aGL r f):=by
 unfold GI aGL;rw [TH]
 cases h1:gI r
 ·simp [cR]
 ·simp only [Option.bind_some,Bool.not_true,Bool.not_false,cR,cond_true,RF,Bool.false_or,Bool.true_and]
  cases h2:dU f
  ·simp
  ·rw [put_eq hr (by have:=(eU.1 h2).1;simp;omega)];simp
def aI1 (f:List aB):List aB×Int:=if dU f then (aCm f,0) else ([],2)
theorem aLd (f:List aB):(aCm f).length=f.length:=by simp [aCm]
theorem aCl (gs:List (List aF×List aB)):(flat gs).length=(gs.map fun g=>g.2.length).sum:=by
 induction gs with
 | nil=>rfl
 | cons g gs ih=>rw [zL,List.length_append,aAJ,ih]; simp
theorem BO {l:List aK}(hm:lZ l=true){e:aK}(he:e∈l):gI e.Row=true /\ -2<e.At/\e.At<1125899906842624/\e.Net≠0/\e.Net<=1048576 /\ -1048576<=e.Net:=by
 obtain⟨_,h2,_⟩:=gQ hm;have he':e∈flat (groups l):=by rw [uX];exact he
 obtain⟨g,hg,h1⟩:=List.mem_flatMap.1 he';obtain⟨j,hj,rfl⟩:=List.mem_map.1 h1;obtain⟨a,b⟩:=h2 g hg;exact⟨a,(eU.1 b).2.above j hj⟩
theorem TF {l:List aK}(hm:lZ l=true):l.any unE=false/\l.any PY=false:=by
 refine⟨List.any_eq_false.2 fun e he=>?_,List.any_eq_false.2 fun e he=>?_⟩
 ·obtain⟨h1,h2,h3,h4,h5,h6⟩:=BO hm he;simp only [unE,h1,Bool.not_true,Bool.false_or,Bool.or_eq_true,decide_eq_true_eq];omega
 ·obtain⟨h1,h2,h3,h4,h5,h6⟩:=BO hm he;simp only [PY,Bool.or_eq_true,decide_eq_true_eq];omega
theorem nO {l:List aK}(hm:lZ l=true)(r:List aF):dU (bR l r)=true:=by
 rw [←oA (gQ hm).2.2];exact aKG hm r
theorem aEm {f:List aB}(h:∀ j∈f,j.Net<=1048576 /\ -1048576<=j.Net):f.any yX=false :=
 List.any_eq_false.2 fun j hj=>by have:=h j hj;simp [yX,OM];omega
theorem aH4 {f:List aB}(h:∀ j∈f,-2<j.At/\j.At<=1125899906842624):f.any FP=false :=
 List.any_eq_false.2 fun j hj=>by have:=h j hj;simp [FP];omega
theorem aLO {f h:List aB}(h1:f.any yX=false)(h2:f.any FP=false)(hh:dU h=true)(hv:∀ t,-2<t->t<1125899906842624->val h t=val f t):fJ f=(h,0):=by
 unfold fJ;rw [if_neg (by simp [h1]),if_neg (by simp [h2]),aLa (fun j hj=>(aLT h2 j hj).1) (aFi hh) hv];unfold told;rw [if_pos hh]
theorem DQ {l:List aK}(hl:okL l)(hn:l.length<=1099511627776){r:List aF}:qV l r=some (bR l r):=by
 unfold qV GY;rw [kP (l:=l) (body:=fun s:List aB×Int=>sV l r s.1 s.2) (fun o i=>(o,i)) (fun o t=>o++bR t r) (fun o t=>o.length+t.length<=1099511627776) [] ?_ ?_ (by simpa using hn)]
 ·rfl
 ·intro i a t o ha hi;left;obtain⟨d1,d2,d3,d4⟩:=idx ha (by omega);simp only [List.length_cons] at hi;have hr:=hl.2 a (List.mem_of_getElem? ha)
  have hb:sV l r o (i:Int)=some (.inl (if a.Row=r then o++[jE a] else o,((i+1:Nat):Int))):=by
   simp only [sV,AL,d1,cond_true,aQ d2,d3,d4,LI a.Row r (by omega),Option.bind_some];by_cases e:a.Row=r
   ·simp only [e,decide_true,cond_true,if_true];rw [aQ (by simp only [List.length_cons,List.length_nil];omega)];rfl
   ·simp [e]
  refine⟨_,hb,?_,?_⟩
  ·split
   ·simp;omega
   ·omega
  ·by_cases e:a.Row=r <;> simp [bR,e]
 ·intro o _;show sV _ _ _ _=_;simp only [sV,eP,cond_false];simp [bR]
theorem aB1 (r:List aF):∀ rs:List (List aF),(zY r rs).length<=rs.length+1
 | []=>by simp [zY]
 | x::xs=>by
  unfold zY;split
  ·simp only [List.length_cons];have:=aB1 r xs;omega
  ·split <;> simp
def JG (r:List aF):List (List aF)->Nat
 | []=>0
 | x::xs=>if jW x r<0 then JG r xs+1 else 0
theorem aHY (r:List aF):∀ rs,JG r rs<=rs.length
 | []=>by simp [JG]
 | x::xs=>by unfold JG; split <;> simp [aHY r xs]
theorem aGU (r:List aF):∀ rs,zY r rs=if rs[JG r rs]?=some r then rs else rs.take (JG r rs)++[r]++rs.drop (JG r rs)
 | []=>by simp [zY]
 | x::xs=>by
  unfold zY JG;by_cases h:jW x r<0
  ·rw [if_pos h,if_pos h,aGU r xs];simp only [List.getElem?_cons_succ,List.take_succ_cons,List.drop_succ_cons];split <;> simp
  ·rw [if_neg h,if_neg h];by_cases e:x=r <;> simp [e]
theorem aCL {l:List aK}{rs:List (List aF)}{e:aK}{i:Nat}(hi:l[i]?=some e)(hl:okL l)(he:gI e.Row=true)(hr:∀ x∈rs,gI x=true)(hn:rs.length<=1099511627776):∀ (t:List (List aF)) (k:Nat),rs.drop k=t->k<=rs.length ->
  lp (fun s:List (List aF)×Int=>sF l (i:Int) s.1 s.2) (rs,(k:Int))=some (rs,((k+JG e.Row t:Nat):Int))
 | [],k,hd,hk=>by
  have : k=rs.length:=by
   have:=congrArg List.length hd;simp only [List.length_drop,List.length_nil] at this;omega
  subst this;refine cY ?_;show sF _ _ _ _=_;simp only [sF,eP,cR,cond_false,Option.bind_some,Bool.false_and];rw [aQ (fun h=>by cases h),aQ (fun h=>by cases h)];simp [JG]
 | x::t,k,hd,hk=>by
  obtain⟨h1,h2⟩:=drop_cons hd;have hlt:=(List.getElem?_eq_some_iff.1 h1).1;obtain⟨d1,d2,d3,d4⟩:=idx h1 (by omega);obtain⟨_,c2,c3,_⟩:=idx hi (by have:=hl.1;omega);have hx:=hr x (List.mem_of_getElem? h1)
  have hb:(fun s:List (List aF)×Int=>sF l (i:Int) s.1 s.2) (rs,(k:Int))=some (if jW x e.Row<0 then .inl (rs,((k+1:Nat):Int)) else .inr (rs,(k:Int))):=by
   show sF _ _ _ _=_;simp only [sF,d1,cR,cond_true,d3,c3,d4,Bool.true_and];rw [aQ (fun _=>d2),aQ (fun _=>c2),aAn x e.Row (by have:=(tS hx).1;omega) (by have:=(tS he).1;omega),hx,he];simp only [Bool.and_self,if_true,Option.bind_some];by_cases h:jW x e.Row<0 <;> simp [h]
  unfold JG;by_cases h:jW x e.Row<0
  ·rw [if_pos h] at hb;rw [fA hb,aCL hi hl he hr hn t (k+1) h2 (by omega),if_pos h]
   congr 3;omega
  ·rw [if_neg h] at hb;rw [cY hb,if_neg h];rfl
theorem OB {l:List aK}(hl:okL l)(hm:∀ e∈l,gI e.Row=true)(hn:l.length<=1099511627776):tN l=some (rowsOf l):=by
 unfold tN LH;rw [kP (l:=l) (body:=fun s:List (List aF)×Int=>tY l s.1 s.2) (fun o i=>(o,i)) (fun o t=>t.foldl (fun rs e=>zY e.Row rs) o) (fun o t=>o.length+t.length<=1099511627776 /\ ∀ x∈o,gI x=true) [] ?_ ?_ ⟨by simpa using hn,by simp⟩]
 ·rfl
 ·rintro i e t rs hi ⟨h1,h2⟩;left;obtain⟨d1,d2,d3,d4⟩:=idx hi (by omega);have he:=hm e (List.mem_of_getElem? hi);simp only [List.length_cons] at h1
  refine⟨zY e.Row rs,?_,⟨by have:=aB1 e.Row rs;omega,fun x hx=>by
   rcases YS.1 hx with rfl | h
   ·exact he
   ·exact h2 x h⟩,rfl⟩
  show tY _ _ _=_;have hin:=aCL hi hl he h2 (by omega) rs 0 rfl (Nat.zero_le _);simp only [Int.natCast_zero,Nat.zero_add] at hin;have hple:=aHY e.Row rs;simp only [tY,d1,cond_true,KQ,hin,Option.bind_some,CR,CH,d3,d4];rw [aGU];by_cases hp:JG e.Row rs<rs.length
  ·have hx:rs[JG e.Row rs]?=some rs[JG e.Row rs]:=List.getElem?_eq_getElem hp;obtain⟨f1,f2,f3,_⟩:=idx hx (by omega);have hrow:=h2 _ (List.mem_of_getElem? hx);simp only [f1,f3,cR,cond_true,Bool.true_and];rw [aQ (fun _=>f2),aQ (fun _=>d2),LI _ _ (by have:=(tS hrow).1;omega)];by_cases hq:rs[JG e.Row rs]=e.Row
   ·simp [hq,hx]
   ·simp only [hq,decide_false,cond_false,Option.bind_some,hx,Option.some.injEq,if_false,Int.toNat_natCast];rw [aQ ⟨by omega,by omega⟩,aQ ⟨by simp;omega,by simp;omega⟩,aQ d2,aQ ⟨by simp;omega,by simp;omega⟩,aQ ⟨by omega,by omega⟩,aQ ⟨by simp;omega,by simp;omega⟩]
  ·have hpe:JG e.Row rs=rs.length:=by omega
   rw [hpe];simp only [eP,cR,cond_false,Option.bind_some,Bool.false_and];rw [aQ (fun h=>by cases h),aQ (fun h=>by cases h)];have hnone:rs[rs.length]?=none:=by simp
   simp only [hnone,reduceCtorEq,if_false,Int.toNat_natCast];rw [aQ ⟨by omega,by omega⟩,aQ ⟨by simp;omega,by simp;omega⟩,aQ d2,aQ ⟨by simp;omega,by simp;omega⟩,aQ ⟨by omega,by omega⟩,aQ ⟨by simp;omega,by simp;omega⟩]
 ·rintro rs ⟨_,_⟩;show tY _ _ _=_;simp only [tY,eP,cond_false];rfl
theorem ZT:∀ (l:List aK) (rs:List (List aF)),(l.foldl (fun rs e=>zY e.Row rs) rs).length<=rs.length+l.length
 | [],rs=>by simp
 | e::l,rs=>by
  have:=ZT l (zY e.Row rs);have:=aB1 e.Row rs;simp only [List.foldl_cons,List.length_cons];omega
theorem HR (l:List aK):(rowsOf l).length<=l.length:=by
 have:=ZT l []
 simpa [rowsOf] using this
theorem aBE (l:List aK)(r:List aF):(bR l r).length<=l.length:=by
 unfold bR;rw [List.length_map];exact List.length_filter_le _ _
def EB (by1:List aB->List aB×Int):List (List aF×List aB)->List aK->List aK×Int
 | [],out=>(out,0)
 | g::gs,out=>if (by1 g.2).2≠0 then ([],(by1 g.2).2) else EB by1 gs (out++lK g.1 (by1 g.2).1)
def ZO (x:List aK×Int):List aK×Int:=if x.2=0/\4096<x.1.length then ([],7) else x
theorem aGK {by1:List aB->List aB×Int}:∀ {gs:List (List aF×List aB)} {out:List aK},(∀ g∈gs,(by1 g.2).2=0∨(by1 g.2).2=7)->4096<out.length->ZO (EB by1 gs out)=([],7)
 | [],out,_,h=>by simp [EB,ZO,h]
 | g::gs,out,he,h=>by
  unfold EB;rcases he g (by simp) with e | e
  ·rw [if_neg (by simp [e])];exact aGK (fun q hq=>he q (by simp [hq])) (by rw [List.length_append];omega)
  ·rw [if_pos (by simp [e]),e];simp [ZO]
theorem aDJ {by1:List aB->List aB×Int}:∀ {gs:List (List aF×List aB)} {out:List aK},(∀ g∈gs,(by1 g.2).2=0∨(by1 g.2).2=7)->out.length<=4096->ZO (EB by1 gs out)=wB by1 gs out
 | [],out,_,h=>by
  have : ¬ 4096<out.length:=by omega
  simp [EB,ZO,wB,this]
 | g::gs,out,he,h=>by
  unfold EB wB;rcases he g (by simp) with e | e
  ·rw [if_neg (by simp [e]),if_neg (by simp [e])];by_cases hl:4096<(out++lK g.1 (by1 g.2).1).length
   ·rw [if_pos hl];exact aGK (fun q hq=>he q (by simp [hq])) hl
   ·rw [if_neg hl];exact aDJ (fun q hq=>he q (by simp [hq])) (by omega)
  ·rw [if_pos (by simp [e]),if_pos (by simp [e]),e];simp [ZO]
theorem aIh {by1:List aB->List aB×Int} {J:List aF->List aB} {rs:List (List aF)} {body:List aK×Int->Option ((List aK×Int)⊕(List aK⊕(List aK×Int)))} (h1:∀ f,(by1 f).1.length<=1024) (hn:rs.length<=1000000)
  (hb:∀ (i:Nat) r out,rs[i]?=some r->out.length<=1024000000->body (out,(i:Int))=some (if (by1 (J r)).2≠0 then .inr (.inr ([],(by1 (J r)).2)) else .inl (out++lK r (by1 (J r)).1,((i+1:Nat):Int))))
  (he:∀ out,body (out,(rs.length:Nat))=some (.inr (.inl out))):∃ x,lp body ([],0)=some x/\Sum.elim (fun o=>(o,(0:Int))) id x=EB by1 (rs.map fun r=>(r,J r)) []/\(∀ o,x=.inl o->o.length<=1024000000) /\ ∀ o,x=.inr o->o.2≠0:=by
 refine⟨_,kP (l:=rs) (body:=body) (fun o i=>(o,i)) (fun o t=>if (EB by1 (t.map fun r=>(r,J r)) o).2=0 then .inl (EB by1 (t.map fun r=>(r,J r)) o).1 else .inr (EB by1 (t.map fun r=>(r,J r)) o)) (fun o t=>o.length+1024*t.length<=1024000000) [] ?_ ?_ (by simp;omega),?_,?_,?_⟩
 ·intro i r t o hi hl;simp only [List.length_cons] at hl;have:=hb i r o hi (by omega);have h2:=h1 (J r);by_cases e:(by1 (J r)).2≠0
  ·right;rw [if_pos e] at this;rw [this];simp only [List.map_cons,EB,if_pos e,if_neg e]
  ·left;rw [if_neg e] at this;refine⟨_,this,by rw [List.length_append,aAJ];omega,?_⟩;simp only [List.map_cons,EB,if_neg e]
 ·intro o _;rw [he o];simp [EB]
 ·cases h:(EB by1 (rs.map fun r=>(r,J r)) []) with
  | mk a b =>
   by_cases e:b=0
   ·simp [e]
   ·simp [e]
 ·intro o ho
  have key:∀ (gs:List (List aF)) (out:List aK),out.length+1024*gs.length<=1024000000->(EB by1 (gs.map fun r=>(r,J r)) out).1.length<=1024000000:=by
   intro gs
   induction gs with
   | nil=>intro out h; simpa [EB] using h
   | cons r gs ih =>
    intro out h;simp only [List.map_cons,EB];split
    ·simp
    ·refine ih _ ?_;have:=h1 (J r);simp only [List.length_cons] at h;rw [List.length_append,aAJ];omega
  split at ho
  ·simp only [Sum.inl.injEq] at ho;rw [←ho];exact key rs [] (by simp;omega)
  ·cases ho
 ·intro o ho;split at ho
  ·cases ho
  ·rename_i h
   simp only [Sum.inr.injEq] at ho;rw [←ho];exact h
theorem aNK {j:List aK->Option (List aK×Int)}{y:List aK×Int}{x:List aK⊕(List aK×Int)}(hj:∀ o:List aK,o.length<=1024000000->j o=some (if 4096<o.length then ([],7) else (o,0)))(hx:Sum.elim (fun o=>(o,(0:Int))) id x=y)(hl:∀ o,x=.inl o->o.length<=1024000000)(hy:∀ o,x=.inr o->o.2≠0):Sum.elim (fun o=>j o) (fun rr:List aK×Int=>some (rr.1,rr.2)) x=some (ZO y):=by
 cases x with
 | inl o =>
  simp only [Sum.elim_inl] at hx ⊢;rw [hj o (hl o rfl),←hx];unfold ZO;by_cases h:4096<o.length <;> simp [h]
 | inr o =>
  simp only [Sum.elim_inr,id] at hx ⊢;subst hx;have:=hy o rfl;simp [ZO,this]
theorem aJC {f:List aB}(h1:f.any yX=false)(h2:f.any FP=false):(fJ f).2=0∨(fJ f).2=7:=by
 unfold fJ;rw [if_neg (by simp [h1]),if_neg (by simp [h2])];unfold told;split <;> simp
theorem ZX {l:List aK}(h1:l.any unE=false)(h2:l.any PY=false)(r:List aF):(bR l r).any yX=false/\(bR l r).any FP=false:=by
 constructor
 ·refine List.any_eq_false.2 fun j hj=>?_;obtain⟨e,he,rfl⟩:=List.mem_map.1 hj;have:=aBh h1 e (List.mem_filter.1 he).1;have h3:(jE e).Net=e.Net:=rfl;simp only [yX,OM,h3,Bool.not_eq_true',Bool.and_eq_false_iff,decide_eq_false_iff_not,not_or,Decidable.not_not,Bool.not_eq_false,Bool.and_eq_true,decide_eq_true_eq];omega
 ·refine List.any_eq_false.2 fun j hj=>?_;obtain⟨e,he,rfl⟩:=List.mem_map.1 hj;have:=List.any_eq_false.1 h2 e (List.mem_filter.1 he).1;have h3:(jE e).At=e.At:=rfl;simp only [PY,Bool.or_eq_true,decide_eq_true_eq,not_or] at this;simp only [FP,h3,Bool.or_eq_true,decide_eq_true_eq];omega
theorem aFP {l:List aK}(h1:l.any unE=false)(h2:l.any PY=false):∀ g∈yC l,(fJ g.2).2=0∨(fJ g.2).2=7:=by
 intro g hg;obtain⟨r,_,rfl⟩:=List.mem_map.1 hg;exact aJC (ZX h1 h2 r).1 (ZX h1 h2 r).2
theorem aG6 {l:List aK}(hl:okL l)(hn:l.length<=1000000):GR l=some (jL l):=by
 unfold GR LD jL;rw [TQ (l:=l) (fun i=>i) unE (.inr ([],2)) (.inl ()) ?_ ?_]
 ·cases h1:l.any unE
  ·simp only [Bool.false_eq_true,if_false,Option.bind_some,Sum.elim_inl,CZ,KO];rw [TQ (l:=l) (fun i=>i) PY (.inr ([],13)) (.inl ()) ?_ ?_]
   ·cases h2:l.any PY
    ·have hr:=OB hl (fun e he=>(aBh h1 e he).1) (by omega);simp only [Bool.false_eq_true,if_false,Option.bind_some,Sum.elim_inl,CV,hr,KZ];have hR:=aIh (by1:=fJ) (J:=bR l) (rs:=rowsOf l) (body:=fun s=>uA l (rowsOf l) s.1 s.2) RL (by have:=HR l;omega) ?_ ?_
     ·obtain⟨x,e1,e2,e3,e4⟩:=hR;rw [e1];simp only [Option.bind_some]
      have hj:∀ o:List aK,o.length<=1024000000->yJ o=some (if 4096<o.length then ([],7) else (o,0)):=by
       intro o _;unfold yJ;by_cases h:4096<o.length
       ·have h':4096<((o.length:Nat):Int):=by omega
        simp [h,h']
       ·have h':¬ 4096<((o.length:Nat):Int):=by omega
        simp [h,h']
      exact (aNK hj e2 e3 e4).trans (congrArg some (aDJ (aFP h1 h2) (by simp)))
     ·intro i r out hi ho;have:=HR l;have hlt:=(List.getElem?_eq_some_iff.1 hi).1;obtain⟨d1,d2,d3,d4⟩:=idx hi (by omega)
      have hrow:gI r=true:=by
       obtain⟨e,he,rfl⟩:=tL.1 (List.mem_of_getElem? hi);exact (aBh h1 e he).1
      have h8:=(tS hrow).1;have hjl:=aBE l r;have hnl:=RL (bR l r);show uA _ _ _ _=_;simp only [uA,d1,cond_true,aQ d2,d3,d4,DQ hl (show l.length<=1099511627776 by omega),Option.bind_some,aII (show (bR l r).length<=1099511627776 by omega)];by_cases e:(fJ (bR l r)).2=0
      ·rw [aEK (by omega) (by omega)];simp [e]
      ·simp [e]
     ·intro out;show uA _ _ _ _=_;simp only [uA,eP,cond_false]
    ·simp
   ·intro i e hi;obtain⟨d1,d2,d3,d4⟩:=idx hi (by omega);show vZ _ _=_;simp only [vZ,d1,cond_true,aQ d2,d3,d4];rw [aQ (fun _=>d2)];unfold PY
    cases h:(decide (e.At < -1)||decide (1125899906842624<e.At)) <;> simp
   ·show vZ _ _=_;simp only [vZ,eP,cond_false]
  ·simp
 ·intro i e hi;obtain⟨d1,d2,d3,d4⟩:=idx hi (by omega);have hr:=hl.2 e (List.mem_of_getElem? hi);show wA _ _=_;simp only [wA,d1,cond_true,aQ d2,d3,d4,NJ e.Row (by omega),Option.bind_some];rw [aQ (fun _=>d2),aQ (fun _=>d2)];unfold unE
  cases h:(((!gI e.Row)||decide (1048576<e.Net))||decide (e.Net < -1048576)) <;> simp
 ·show wA _ _=_;simp only [wA,eP,cond_false]
abbrev ltE (x y:aK):Prop:=jW x.Row y.Row<0∨(x.Row=y.Row/\x.At<y.At)
theorem aKY {x y z:aK}(h1:ltE x y)(h2:ltE y z):ltE x z:=by
 rcases h1 with h1 | ⟨h1,h1'⟩ <;> rcases h2 with h2 | ⟨h2,h2'⟩
 ·exact .inl (uJ.trans _ _ _ h1 h2)
 ·exact .inl (h2 ▸ h1)
 ·exact .inl (h1 ▸ h2)
 ·exact .inr ⟨h1.trans h2,by omega⟩
theorem VV:∀ {f:List aB} {last:Int},pI last f↔(∀ j∈f,xW last j=false)/\f.Pairwise fun a b=>a.At<b.At
 | [],last=>by simp [pI]
 | j::f,last=>by
  rw [List.pairwise_cons];unfold pI;rw [←sK];constructor
  ·rintro ⟨h1,h2⟩;have h3:=VV.1 h2;have h4:=sK.1 h1;refine⟨fun k hk=>?_,fun k hk=>(sK.1 (h3.1 k hk)).1,h3.2⟩;rcases List.mem_cons.1 hk with rfl | hk
   ·exact h1
   ·have:=sK.1 (h3.1 k hk);exact sK.2 (by omega)
  ·rintro ⟨h1,h2,h3⟩;refine⟨h1 j (by simp),VV.2 ⟨fun k hk=>?_,h3⟩⟩;have:=sK.1 (h1 k (by simp [hk]));have:=h2 k hk;exact sK.2 (by omega)
theorem MD {l:List aK}:lZ l=true↔l.length<=4096/\(∀ e∈l,gI e.Row=true/\xW (-2) (jE e)=false)/\l.Pairwise ltE /\ ∀ r∈rowsOf l,(bR l r).length<=1024:=by
 constructor
 ·intro h;obtain⟨h1,h2,h3⟩:=gQ h;refine⟨h1,fun e he=>?_,?_,fun r _=>(eU.1 (nO h r)).1⟩
  ·obtain⟨a,b,c,d,e1,e2⟩:=BO h he;exact⟨a,sK.2 ⟨b,c,d,e1,e2⟩⟩
  ·rw [←uX l];unfold flat;rw [List.flatMap,List.pairwise_flatten,List.pairwise_map];constructor
   ·intro x hx;obtain⟨g,hg,rfl⟩:=List.mem_map.1 hx;have:=(VV.1 (eU.1 (h2 g hg).2).2).2;rw [lK,List.pairwise_map];exact this.imp fun h=>.inr ⟨rfl,h⟩
   ·refine h3.imp fun {a b} h x hx y hy=>?_;obtain⟨j,_,rfl⟩:=List.mem_map.1 hx;obtain⟨k,_,rfl⟩:=List.mem_map.1 hy;exact .inl h
 ·rintro ⟨h1,h2,h3,h4⟩
  have hs:Srt leE l:=h3.imp fun h=>by
   rcases h with h | ⟨h,h'⟩
   ·exact .inl h
   ·exact .inr ⟨h,by omega⟩
  have hg:=YU hs;unfold lZ;rw [Bool.and_eq_true];refine⟨by simpa using h1,EY.2 ⟨fun g hg'=>?_,hg,fun q hq=>by cases hq⟩⟩;obtain⟨_,e,he,h5⟩:=HA hg';have hj:g.2=bR l g.1:=by rw [←oA hg,xO hg hg']
  refine⟨by rw [h5];exact (h2 e he).1,?_⟩;rw [hj];refine eU.2 ⟨h4 _ (tL.2 ⟨e,he,h5.symm⟩),VV.2 ⟨fun j hj=>?_,?_⟩⟩
  ·obtain⟨e,he,rfl⟩:=List.mem_map.1 hj;exact (h2 e (List.mem_filter.1 he).1).2
  ·unfold bR;rw [List.pairwise_map,List.pairwise_filter];refine h3.imp fun {a b} h ha hb=>?_;rcases h with h | ⟨_,h⟩
   ·simp only [decide_eq_true_eq] at ha hb;rw [ha,hb] at h;exact absurd h CA
   ·exact h
theorem aLC {α:Type}{R:α->α->Prop}(ht:∀ {x y z},R x y->R y z->R x z){l:List α}:l.Pairwise R ↔ ∀ (i:Nat) (a b:α),l[i]?=some a->l[i+1]?=some b->R a b:=by
 constructor
 ·intro h i a b ha hb;obtain⟨h1,rfl⟩:=List.getElem?_eq_some_iff.1 ha;obtain⟨h2,rfl⟩:=List.getElem?_eq_some_iff.1 hb;exact List.pairwise_iff_getElem.1 h i (i+1) h1 h2 (by omega)
 ·intro h;refine List.pairwise_iff_getElem.2 fun i j hi hj hij=>?_;obtain⟨k,rfl⟩:∃ k,j=i+1+k:=⟨j-i-1,by omega⟩;clear hij
  induction k with
  | zero=>exact h i _ _ (List.getElem?_eq_getElem hi) (List.getElem?_eq_getElem hj)
  | succ k ih=>exact ht (ih (by omega)) (h (i+1+k) _ _ (List.getElem?_eq_getElem (by omega)) (List.getElem?_eq_getElem hj))
def aDU (a b:List aF):Int:=if gI a&&gI b then jW a b else 0
def VZ (l:List aK)(i:Nat):Bool := !(gI (l.getD i default).Row && !xW (-2) (jE (l.getD i default)))||(decide (i≠0)&&(decide (0<aDU (l.getD (i-1) default).Row (l.getD i default).Row)||(decide (aDU (l.getD (i-1) default).Row (l.getD i default).Row=0)&&decide ((l.getD i default).At<=(l.getD (i-1) default).At))))
theorem aEy {l:List aK}:(List.range l.length).any (VZ l)=false↔(∀ e∈l,gI e.Row=true/\xW (-2) (jE e)=false)/\l.Pairwise ltE:=by
 rw [List.any_eq_false,aLC (R:=ltE) (fun h1 h2=>aKY h1 h2)];constructor
 ·intro h;have h':∀ i,i<l.length->VZ l i=false:=fun i hi=>by simpa using h i (List.mem_range.2 hi)
  refine⟨fun e he=>?_,fun i a b ha hb=>?_⟩
  ·obtain⟨i,hi,rfl⟩:=List.mem_iff_getElem.1 he;have:=h' i hi;unfold VZ at this;rw [Bool.or_eq_false_iff] at this;have h1:=this.1;simp only [List.getD_eq_getElem?_getD,List.getElem?_eq_getElem hi,Option.getD_some,Bool.not_eq_false',Bool.and_eq_true,Bool.not_eq_true'] at h1;exact h1
  ·obtain⟨hi,rfl⟩:=List.getElem?_eq_some_iff.1 ha;obtain⟨hj,rfl⟩:=List.getElem?_eq_some_iff.1 hb;have:=h' (i+1) hj;have r1:=h' i hi;unfold VZ at this r1;rw [Bool.or_eq_false_iff] at this r1;have h1:=this.2;have r2:=this.1;have r1:=r1.1;simp only [List.getD_eq_getElem?_getD,List.getElem?_eq_getElem hi,List.getElem?_eq_getElem hj,Option.getD_some,Bool.not_eq_false',Bool.and_eq_true,Bool.not_eq_true'] at r1 r2;simp only [List.getD_eq_getElem?_getD,Nat.add_sub_cancel,List.getElem?_eq_getElem hi,List.getElem?_eq_getElem hj,Option.getD_some,ne_eq,Nat.add_eq_zero_iff,Nat.one_ne_zero,and_false,not_false_eq_true,decide_true,Bool.true_and,Bool.or_eq_false_iff,decide_eq_false_iff_not,Bool.and_eq_false_iff,aDU,r1.1,r2.1,Bool.and_self,if_true] at h1;by_cases hc:jW l[i].Row l[i+1].Row=0
   ·refine .inr ⟨(uJ.eq _ _).1 hc,?_⟩;rcases h1.2 with h | h
    ·exact absurd hc h
    ·omega
   ·exact .inl (by omega)
 ·rintro ⟨h1,h2⟩ i hi;have hi:=List.mem_range.1 hi;unfold VZ;have ge:l.getD i default=l[i]:=by simp [List.getD_eq_getElem?_getD,hi]
  have:=h1 l[i] (List.getElem_mem hi);rw [ge,this.1,this.2];by_cases h0:i=0
  ·simp [h0]
  ·have hi':i-1<l.length:=by omega
   have ge':l.getD (i-1) default=l[i-1]:=by simp [List.getD_eq_getElem?_getD,hi']
   have h3:=h2 (i-1) l[i-1] l[i] (List.getElem?_eq_getElem hi') (by rw [show i-1+1=i by omega]; exact List.getElem?_eq_getElem hi);rw [ge'];have r1:=(h1 l[i-1] (List.getElem_mem hi')).1;unfold aDU;rw [r1,this.1];rcases h3 with h3 | ⟨h3,h4⟩
   ·have a:¬ 0<jW l[i-1].Row l[i].Row:=by omega
    have b:¬ jW l[i-1].Row l[i].Row=0:=by omega
    simp [a,b]
   ·have a:jW l[i-1].Row l[i].Row=0:=(uJ.eq _ _).2 h3;have b:¬ l[i].At<=l[i-1].At:=by omega
    simp [a,b]
theorem HH {l:List aK}(hl:okL l):tK l=some (lZ l):=by
 unfold tK;by_cases hn:l.length<=4096
 ·have h1:decide (4096<((l.length:Nat):Int))=false:=by simp;omega
  rw [h1,cond_false];unfold OQ;have hlp:=TQ (body:=fun s=>vG l s) (l:=List.range l.length) (fun i=>i) (VZ l) (.inr false) (.inl ()) ?_ ?_
  ·rw [hlp]
   cases hb:(List.range l.length).any (VZ l)
   ·obtain⟨h2,h3⟩:=aEy.1 hb;have hr:=OB hl (fun e he=>(h2 e he).1) (by omega);simp only [Bool.false_eq_true,if_false,Option.bind_some,Sum.elim_inl,FN,hr,NO];have hrl:=HR l;rw [TQ (l:=rowsOf l) (fun i=>i) (fun r=>decide (1024<(bR l r).length)) (.inr false) (.inl ()) ?_ ?_]
    ·cases hc:(rowsOf l).any fun r=>decide (1024<(bR l r).length)
     ·have : lZ l=true:=MD.2 ⟨hn,h2,h3,fun r hr=>by
       have:=List.any_eq_false.1 hc r hr;simp only [decide_eq_true_eq] at this;omega⟩
      rw [this];rfl
     ·have : lZ l=false:=by
       rw [Bool.eq_false_iff];intro hm;obtain⟨r,hr,h4⟩:=List.any_eq_true.1 hc;have:=(MD.1 hm).2.2.2 r hr;simp only [decide_eq_true_eq] at h4;omega
      rw [this];rfl
    ·intro i r hi;obtain⟨d1,d2,d3,d4⟩:=idx hi (by omega);show xT _ _ _=_;simp only [xT,d1,cond_true,aQ d2,d3,d4,DQ hl (show l.length<=1099511627776 by omega),Option.bind_some];by_cases h:1024<(bR l r).length
     ·have h':1024<(((bR l r).length:Nat):Int):=by omega
      simp [h,h']
     ·have h':¬ 1024<(((bR l r).length:Nat):Int):=by omega
      simp [h,h']
    ·show xT _ _ _=_;simp only [xT,eP,cond_false]
   ·have : lZ l=false:=by
     rw [Bool.eq_false_iff];intro hm;obtain⟨_,h2,h3,_⟩:=MD.1 hm;have:=aEy.2 ⟨h2,h3⟩;rw [this] at hb;cases hb
    rw [this];rfl
  ·intro i k hi;obtain⟨b5,hk⟩:=List.getElem?_eq_some_iff.1 hi;rw [List.getElem_range] at hk;subst hk;have hi1:i<l.length:=by simpa using b5
   have hx:=List.getElem?_eq_getElem hi1;obtain⟨d1,d2,d3,d4⟩:=idx hx (by omega);have hr:=hl.2 _ (List.getElem_mem hi1);have ge:l.getD i default=l[i]:=by simp [List.getD_eq_getElem?_getD,hi1]
   show vG _ _=_;simp only [vG,d1,cond_true,aQ d2,d3,NJ l[i].Row (by omega),Option.bind_some];rw [aQ (fun _=>d2),aQ (fun _=>d2)]
   have hm:qX [⟨l[i].At,l[i].Net⟩]=some (!xW (-2) (jE l[i])):=by
    rw [FL];simp only [dU,chk,List.length_cons,List.length_nil,jE]
    cases xW (-2) ⟨l[i].At,l[i].Net⟩ <;> rfl
   rw [hm];unfold VZ;rw [ge]
   cases h2:gI l[i].Row
   ·simp [cR]
   ·cases h3:xW (-2) (jE l[i])
    ·simp only [cR,Bool.not_true,Bool.not_false,cond_true,Option.bind_some,Bool.or_self,cond_false,Bool.and_self];by_cases h0:i=0
     ·subst h0;simp [AO,cZ]
     ·have hi':i-1<l.length:=by omega
      have hw:i64.wrap ((i:Int)-1)=((i-1:Nat):Int):=by rw [cZ (by omega) (by omega)];omega
      have hx':=List.getElem?_eq_getElem hi';obtain⟨_,e2,e3,_⟩:=idx hx' (by omega);have ge':l.getD (i-1) default=l[i-1]:=by simp [List.getD_eq_getElem?_getD,hi']
      have hr':=hl.2 _ (List.getElem_mem hi');have hz:decide ((i:Int)=0)=false:=by simp;omega
      simp only [hz,cond_false,hw,aQ e2,aQ d2,e3,d3,ge'];rw [aAn _ _ (by omega) (by omega),show (if (gI l[i-1].Row&&gI l[i].Row)=true then jW l[i-1].Row l[i].Row else 0)=aDU l[i-1].Row l[i].Row from rfl];simp only [Option.bind_some,AO,d4];rw [aQ (fun _=>e2),aQ (fun _=>d2)]
      generalize aDU l[i-1].Row l[i].Row=c
      cases b6:(decide (0<c)||(decide (c=0)&&decide (l[i].At<=l[i-1].At)))
      ·simp
      ·simp [h0]
    ·simp [cR]
  ·show vG _ _=_;simp only [vG,List.length_range,eP,cond_false]
 ·have h1:decide (4096<((l.length:Nat):Int))=true:=by simp;omega
  rw [h1,cond_true];simp [lZ,hn]
theorem aIx {c:Int}:∀ {l:List Int} {m:Int},c<=l.foldl mn m↔c<=m /\ ∀ x∈l,c<=x
 | [],m=>by simp
 | a::l,m=>by
  rw [List.foldl_cons,aIx];unfold mn;constructor
  ·rintro ⟨h1,h2⟩;have h3:c<=m/\c<=a:=by split at h1 <;> omega
   refine⟨h3.1,fun x hx=>?_⟩;rcases List.mem_cons.1 hx with rfl | hx
   ·exact h3.2
   ·exact h2 x hx
  ·rintro ⟨h1,h2⟩;have:=h2 a (by simp);exact⟨by split <;> omega,fun x hx=>h2 x (by simp [hx])⟩
theorem aEq {t:Int}:∀ {f:List aB} {l v:Int},pI l f->v+val f t=v∨v+val f t∈parts v f
 | [],l,v,_=>.inl (by simp [val])
 | j::r,l,v,h=>by
  unfold parts;rw [eS];by_cases e:j.At<=t
  ·rw [if_pos e];right;rcases aEq (t:=t) (v:=v+j.Net) h.2 with h1 | h1
   ·rw [show v+(j.Net+val r t)=v+j.Net by omega];simp
   ·rw [show v+(j.Net+val r t)=v+j.Net+val r t by omega];exact List.mem_cons_of_mem _ h1
  ·left;rw [if_neg e,h.2.tE (by omega)];omega
theorem BJ {f:List aB}(hf:dU f=true):0<=xQ f ↔ ∀ t,0<=val f t:=by
 have hr:=(eU.1 hf).2;unfold xQ;rw [aIx];constructor
 ·rintro ⟨_,h2⟩ t;rcases aEq (t:=t) (v:=0) hr with h | h
  ·omega
  ·rw [parts_eq hr] at h;obtain⟨j,hj,h⟩:=List.mem_map.1 h;have:=h2 _ (List.mem_map.2 ⟨j,hj,rfl⟩);omega
 ·intro h;refine⟨h _,fun x hx=>?_⟩;obtain⟨j,_,rfl⟩:=List.mem_map.1 hx;exact h _
theorem nQ {l:List aK}:oT l=true↔lZ l=true /\ ∀ r t,0<=val (bR l r) t:=by
 constructor
 ·intro h;unfold oT at h;rw [Bool.and_eq_true,EY] at h;obtain⟨h1,h2,h3,_⟩:=h
  have hm:lZ l=true:=by
   unfold lZ;rw [Bool.and_eq_true];exact⟨h1,EY.2 ⟨fun g hg=>⟨(h2 g hg).1,by have:=(h2 g hg).2;unfold aDO at this;rw [Bool.and_eq_true] at this;exact this.1⟩,h3,fun q hq=>by cases hq⟩⟩
  refine⟨hm,fun r=>?_⟩;rw [←oA h3];rcases zM (groups l) r with ⟨e,_⟩ | ⟨g,hg,_,e⟩
  ·rw [e];intro t;simp [val]
  ·rw [e];have:=(h2 g hg).2;unfold aDO at this;rw [Bool.and_eq_true,decide_eq_true_eq] at this;exact (BJ this.1).1 this.2
 ·rintro ⟨hm,h⟩;obtain⟨h1,h2,h3⟩:=gQ hm;unfold oT;rw [Bool.and_eq_true];refine⟨by simpa using h1,EY.2 ⟨fun g hg=>⟨(h2 g hg).1,?_⟩,h3,fun q hq=>by cases hq⟩⟩;unfold aDO;rw [Bool.and_eq_true,decide_eq_true_eq];refine⟨(h2 g hg).2,(BJ (h2 g hg).2).2 ?_⟩;have : g.2=bR l g.1:=by rw [←oA h3,xO h3 hg]
  rw [this];exact h g.1
theorem aGy {l:List aK}{r:List aF}(h:r ∉ rowsOf l):bR l r=[] :=
 QY fun e he hr=>h (tL.2 ⟨e,he,hr⟩)
theorem aAm {l:List aK}(hl:okL l):yK l=some (oT l):=by
 unfold yK;rw [HH hl]
 cases hm:lZ l
 ·have : oT l=false:=by
   rw [Bool.eq_false_iff];intro h;rw [(nQ.1 h).1] at hm;cases hm
  rw [this];rfl
 ·obtain⟨h1,h2,_⟩:=MD.1 hm;simp only [Option.bind_some,Bool.not_true,cond_false,OB hl (fun e he=>(h2 e he).1) (show l.length<=1099511627776 by omega),HS];have hrl:=HR l;rw [TQ (l:=rowsOf l) (fun i=>i) (fun r=>decide (xQ (bR l r)<0)) (.inr false) (.inl ()) ?_ ?_]
  ·cases hc:(rowsOf l).any fun r=>decide (xQ (bR l r)<0)
   ·have : oT l=true:=nQ.2 ⟨hm,fun r=>by
     by_cases hr:r∈rowsOf l
     ·have:=List.any_eq_false.1 hc r hr;simp only [decide_eq_true_eq] at this;exact (BJ (nO hm r)).1 (by omega)
     ·rw [aGy hr];intro t;simp [val]⟩
    rw [this];rfl
   ·have : oT l=false:=by
     rw [Bool.eq_false_iff];intro h;obtain⟨r,_,hr⟩:=List.any_eq_true.1 hc;simp only [decide_eq_true_eq] at hr;have:=(BJ (nO hm r)).2 ((nQ.1 h).2 r);omega
    rw [this];rfl
  ·intro i r hi;obtain⟨d1,d2,d3,d4⟩:=idx hi (by omega);show uP _ _ _=_;simp only [uP,d1,cond_true,aQ d2,d3,d4,DQ hl (show l.length<=1099511627776 by omega),Option.bind_some,aBL,nO hm r,if_true];by_cases h:xQ (bR l r)<0 <;> simp [h]
  ·show uP _ _ _=_;simp only [uP,eP,cond_false]
theorem aK3 {f:List aB}(hu:Up (-2) f)(h:∀ t,-2<t->t<1125899906842624->0<=val f t):∀ t,0<=val f t:=by
 intro t;by_cases h1 : -2<t
 ·by_cases h2:t<1125899906842624
  ·exact h t h1 h2
  ·have:=BN (s:=1125899906842623) (t:=t) (by omega) (f:=f) (fun j hj=>by have:=(hu.above j hj);omega);rw [←this];exact h _ (by omega) (by omega)
 ·rw [hu.tE (by omega)];omega
theorem aBS {l:List aK}(h:(jL l).2=0)(r:List aF):bR (jL l).1 r=SL (bR l r):=by
 rw [←oA (gQ (VT h)).2.2,aCN h,(YM (aEB h r)).2.2.2]
theorem aBD {l:List aK}(hm:lZ l=true):yC l=groups l:=by
 obtain⟨_,_,hp,_⟩:=MD.1 hm
 have hs:Srt leE l:=hp.imp fun h=>by
  rcases h with h | ⟨h,h'⟩
  ·exact .inl h
  ·exact .inr ⟨h,by omega⟩
 have hg:=YU hs;unfold yC;rw [←aHy (List.Perm.refl l) hs,List.map_map]
 conv=>rhs;rw [←List.map_id (groups l)]
 refine List.map_congr_left fun g hg'=>?_;simp only [Function.comp,id];rw [←oA hg,xO hg hg']
theorem aIV {a b:List aK}(ha:okL a)(hb:okL b):JP a b=some (aI3 a b):=by
 unfold JP aI3;rw [HH ha]
 cases h1:lZ a
 ·simp [cR]
 ·simp only [Option.bind_some,Bool.not_true,Bool.not_false,cR,cond_true,HH hb,Bool.false_or]
  cases h2:lZ b
  ·simp
  ·have la:=(gQ h1).1;have lb:=(gQ h2).1;simp only [Bool.not_true,cond_false,Bool.and_self,if_true];rw [aQ ⟨by omega,by omega⟩,aQ ⟨by omega,by omega⟩,aG6 (aDs ha hb (by omega)) (by simp;omega)];rfl
def LV (what t:Int)(f:List aB):List aB×Int:=if what=2 then rest f t else if what=1 then ahead f t else aI1 f
theorem aGH (what t:Int)(f:List aB):(LV what t f).1.length<=1024:=by
 unfold LV;split
 ·exact aCq f t
 ·split
  ·exact aKR f t
  ·unfold aI1;split
   ·rename_i h;rw [aLd];exact (eU.1 h).1
   ·simp
theorem ZI (f:List aB):(told f).2=0∨(told f).2=7:=by unfold told;split <;> simp
theorem aLm {what t:Int}{f:List aB}(hf:dU f=true):(LV what t f).2=0∨(LV what t f).2=7:=by
 unfold LV;split
 ·unfold rest;rw [if_pos hf];split
  ·exact .inl rfl
  ·split
   ·exact .inl rfl
   ·exact ZI _
 ·split
  ·unfold ahead;rw [if_pos hf];split
   ·exact .inl rfl
   ·exact ZI _
  ·unfold aI1;rw [if_pos hf];exact .inl rfl
theorem aJw {l:List aK}(hl:okL l){what t:Int}(ht:sE t):KJ l what t=some (LW (LV what t) l):=by
 unfold KJ LW;rw [HH hl]
 cases hm:lZ l
 ·simp
 ·obtain⟨hn,hv,_,_⟩:=MD.1 hm;have hrl:=HR l;simp only [Option.bind_some,Bool.not_true,cond_false,if_true,OB hl (fun e he=>(hv e he).1) (show l.length<=1099511627776 by omega),NG];have hR:=aIh (by1:=LV what t) (J:=bR l) (rs:=rowsOf l) (body:=fun s=>vB l what t (rowsOf l) s.1 s.2) (aGH what t) (by omega) ?_ ?_
  ·obtain⟨x,e1,e2,e3,e4⟩:=hR;rw [e1];simp only [Option.bind_some]
   have hj:∀ o:List aK,o.length<=1024000000->BE o=some (if 4096<o.length then ([],7) else (o,0)):=by
    intro o _;unfold BE;by_cases h:4096<o.length
    ·have h':4096<((o.length:Nat):Int):=by omega
     simp [h,h']
    ·have h':¬ 4096<((o.length:Nat):Int):=by omega
     simp [h,h']
   rw [←aBD hm];refine (aNK hj e2 e3 e4).trans (congrArg some (aDJ (fun g hg=>?_) (by simp)));obtain⟨r,_,rfl⟩:=List.mem_map.1 hg;exact aLm (nO hm r)
  ·intro i r out hi ho;obtain⟨d1,d2,d3,d4⟩:=idx hi (by omega)
   have hrow:r.length<=8:=by
    obtain⟨e,he,rfl⟩:=tL.1 (List.mem_of_getElem? hi);exact (tS (hv e he).1).1
   have hml:=aGH what t (bR l r)
   have h4:AW l what t out (rowsOf l) (i:Int) (LV what t (bR l r)).1 (LV what t (bR l r)).2=some (if (LV what t (bR l r)).2≠0 then .inr (.inr ([],(LV what t (bR l r)).2)) else .inl (out++lK r (LV what t (bR l r)).1,((i+1:Nat):Int))):=by
    unfold AW
    generalize LV what t (bR l r)=y at hml ⊢
    by_cases e:y.2=0
    ·simp only [e,decide_true,Bool.not_true,cond_false,ne_eq,not_true_eq_false,if_false,aQ d2,d3];rw [aEK (by omega) (by omega)];simp only [Option.bind_some,d4]
    ·simp [e]
   show vB _ _ _ _ _ _=_;rw [←h4];simp only [vB,d1,cond_true,aQ d2,d3,DQ hl (show l.length<=1099511627776 by omega),Option.bind_some,aKw,aG8,FD,aID _ _ ht];unfold LV;by_cases c2:what=2
   ·have c1:¬ what=1:=by omega
    simp [c2]
   ·by_cases c1:what=1
    ·simp [c1]
    ·simp [c1,c2,aI1]
  ·intro out;show vB _ _ _ _ _ _=_;simp only [vB,eP,cond_false]
def IP (n:Nat):List Int:=if n<128 then [(n:Int)] else ((n % 128+128:Nat):Int)::IP (n / 128)
termination_by n
decreasing_by omega
theorem MV {n:Nat}(h:n<128):IP n=[(n:Int)]:=by rw [IP,if_pos h]
theorem PG {n:Nat}(h:¬ n<128):IP n=((n % 128+128:Nat):Int)::IP (n / 128):=by rw [IP,if_neg h]
theorem aF8:∀ (k n:Nat),n<128 ^ (k+1)->(IP n).length<=k+1
 | 0,n,h=>by rw [MV (by simpa using h)]; simp
 | k+1,n,h=>by
  by_cases hn:n<128
  ·rw [MV hn];simp
  ·rw [PG hn,List.length_cons];have:=aF8 k (n / 128) (by rw [Nat.pow_succ] at h;exact Nat.div_lt_of_lt_mul (by omega));omega
theorem OI {n:Nat}(h:n<18446744073709551616):(IP n).length<=10:=aF8 9 n (Nat.lt_of_lt_of_le h (by decide))
theorem aCQ:∀ (n:Nat),∀ x∈IP n,0<=x/\x<256:=by
 intro n
 induction n using Nat.strongRecOn with
 | _ n ih =>
  intro x hx;by_cases hn:n<128
  ·rw [MV hn] at hx;simp at hx;omega
  ·rw [PG hn] at hx;rcases List.mem_cons.1 hx with rfl | hx
   ·omega
   ·exact ih (n / 128) (by omega) x hx
theorem aFV:∀ (n m:Nat) (s t:List Int),IP n++s=IP m++t->n=m/\s=t:=by
 intro n
 induction n using Nat.strongRecOn with
 | _ n ih =>
  intro m s t h;by_cases hn:n<128 <;> by_cases hm:m<128
  ·rw [MV hn,MV hm] at h;simp at h;exact⟨by omega,h.2⟩
  ·rw [MV hn,PG hm] at h;simp only [List.cons_append,List.nil_append,List.cons.injEq] at h;omega
  ·rw [PG hn,MV hm] at h;simp only [List.cons_append,List.nil_append,List.cons.injEq] at h;omega
  ·rw [PG hn,PG hm] at h;simp only [List.cons_append,List.cons.injEq] at h;obtain⟨e1,e2⟩:=ih (n / 128) (by omega) (m / 128) s t h.2;exact⟨by omega,e2⟩
theorem aFQ (n:Nat):u8.wrap (n:Int)=((n % 256:Nat):Int):=by
 simp only [IntKind.wrap,IntKind.bits,IntKind.signed];simp
theorem TA (x:Int):u64.wrap x=x % 18446744073709551616:=by
 simp only [IntKind.wrap,IntKind.bits,IntKind.signed];simp
theorem aNk:∀ m:Fin 256,cI .or .u8 (m.val:Int) 128=((m.val % 128+128:Nat):Int):=by decide +kernel
theorem aOp (n:Nat):Int.fdiv (n:Int) (2 ^ (min (Int.toNat (7:Int)) 64))=((n / 128:Nat):Int):=by
 have e:(2:Int) ^ (min (Int.toNat (7:Int)) 64)=((128:Nat):Int):=rfl;rw [e,Int.fdiv_eq_ediv_of_nonneg _ (by omega)];rfl
theorem aJX:∀ (n:Nat) (out:List Int),out.length+(IP n).length<=1000->(lp (fun s:Int×List Int=>yM s.1 s.2) ((n:Int),out)).bind (fun rr=>yR rr.1 rr.2)=some (out++IP n):=by
 intro n
 induction n using Nat.strongRecOn with
 | _ n ih =>
  intro out hl;by_cases hn:n<128
  ·rw [MV hn] at hl ⊢;rw [cY (r:=((n:Int),out)) (by simp only [yM];rw [show decide (128<=(n:Int))=false from by simp;omega];rfl)];simp only [Option.bind_some,yR];rw [aQ (by simp at hl ⊢;omega),aFQ]
   congr 4
   simp;omega
  ·rw [PG hn] at hl ⊢;rw [List.length_cons] at hl
   have hb:cI .or .u8 (u8.wrap (n:Int)) 128=((n % 128+128:Nat):Int):=by
    rw [aFQ];have:=aNk ⟨n % 256,by omega⟩;simp only at this;rw [this]
    congr 2;omega
   rw [fA (s':=(((n / 128:Nat):Int),out++[((n % 128+128:Nat):Int)])) (by
    simp only [yM];rw [show decide (128<=(n:Int))=true from by simp;omega,hb,aOp,aQ (by simp;omega),aQ (by decide)];rfl)]
   rw [ih (n / 128) (by omega) _ (by simp;omega)];simp
theorem aCK {n:Nat}(h:n<18446744073709551616):GP (n:Int)=some (IP n):=by
 have:=OI h;exact aJX n [] (by simp;omega)
def zig (n:Int):Nat:=if 0<=n then (2*n).toNat else (-2*n-1).toNat
theorem aM1 {n m:Int}(h:zig n=zig m):n=m:=by
 unfold zig at h;split at h <;> split at h <;> omega
theorem aGi {n:Int}(h:sE n):zig n<18446744073709551616:=by
 unfold zig;obtain ⟨h1,h2⟩:=h;split <;> omega
theorem SD (x:Int):(BitVec.ofInt 64 x).toNat=(x % 18446744073709551616).toNat:=by
 rw [BitVec.toNat_ofInt];rfl
theorem aNH {n:Int}(h:sE n):cI .xor .u64 (u64.wrap ((u64.wrap n)*2 ^ (min (Int.toNat (1:Int)) 64))) (u64.wrap (Int.fdiv n (2 ^ (min (Int.toNat (63:Int)) 64))))=((zig n:Nat):Int):=by
 obtain⟨h1,h2⟩:=h;have e1:(2:Int) ^ (min (Int.toNat (1:Int)) 64)=2:=rfl;have b5:(2:Int) ^ (min (Int.toNat (63:Int)) 64)=9223372036854775808:=rfl;rw [e1,b5,TA,TA,TA,Int.fdiv_eq_ediv_of_nonneg _ (by omega)];unfold zig;by_cases hn:0<=n
 ·rw [if_pos hn];have d0:n / 9223372036854775808=0:=by omega
  rw [d0];show u64.wrap ((BitVec.ofInt 64 _ ^^^ BitVec.ofInt 64 0).toNat:Int)=_;rw [BitVec.toNat_xor,SD,SD,TA];have a0:((0:Int) % 18446744073709551616 % 18446744073709551616).toNat=0:=rfl;have a1:(0:Int) % 18446744073709551616=0:=rfl;rw [a1];have a2:Int.toNat 0=0:=rfl;rw [a2,Nat.xor_zero];omega
 ·rw [if_neg hn];have d0:n / 9223372036854775808 = -1:=by omega
  rw [d0];show u64.wrap ((BitVec.ofInt 64 _ ^^^ BitVec.ofInt 64 _).toNat:Int)=_;have hall:BitVec.ofInt 64 ((-1:Int) % 18446744073709551616)=BitVec.allOnes 64:=by decide
  rw [hall,BitVec.xor_allOnes,BitVec.toNat_not,SD,TA];omega
def zE (v:aF):List Int:=if UZ v then 1::IP (zig v.Num) else 2::(IP v.Text.size++v.Text.data.toList.map fun b=>((UInt8.toNat b:Nat):Int))
def rOk (r:List aF):Prop:=gI r=true /\ ∀ v∈r,sE v.Num
theorem aIR {v:aF}(hv:vE v=true)(hn:sE v.Num):(zE v).length<=80:=by
 unfold zE;split
 ·have:=OI (aGi hn);simp only [List.length_cons];omega
 ·have h1:=WI hv;have h2:=OI (n:=v.Text.size) (by omega);simp only [List.length_cons,List.length_append,List.length_map,Array.length_toList];have : v.Text.data.size=v.Text.size:=rfl;omega
theorem aHM {v:aF}(hv:vE v=true)(hn:sE v.Num):CM v=some (zE v):=by
 unfold CM;rw [of_eq];unfold zE;rcases PF hv with h | ⟨h,hw⟩
 ·rw [if_pos h,if_pos h];have:=OI (aGi hn);simp only [Option.bind_some,Bool.not_true,cond_false,tM,WM];rw [aQ (by decide),aQ (by decide),aNH hn,aCK (aGi hn)];simp only [Option.bind_some];rw [aQ (by simp;omega)];simp
 ·rw [if_neg (by simp [h]),if_pos hw,if_neg (by simp [h])];have h1:=WI hv;have h2:=OI (n:=v.Text.size) (by omega);simp only [Option.bind_some,Bool.not_true,cond_false,uF,SY,VS];rw [show decide (((ByteArray.size v.Text:Nat):Int)<0)=false from by simp];simp only [cond_false];rw [TA,Int.emod_eq_of_lt (by omega) (by omega),aCK (by omega)];simp only [Option.bind_some];have hs:v.Text.data.size=v.Text.size:=rfl;rw [aQ (by omega)];simp only [Option.bind_some];rw [aQ (by simp;omega)];simp
def aCH (r:List aF):List Int:=(r.length:Int)::r.flatMap zE
def keyOf (r:List aF):ByteArray:=strOfNums (aCH r)
theorem aHN {r:List aF}(h:rOk r):KB r=some (aCH r):=by
 obtain⟨hm,hn⟩:=h;obtain⟨h8,hv⟩:=tS hm;unfold KB;rw [TH,hm];simp only [Option.bind_some,Bool.not_true,cond_false,NK];rw [aFQ,show r.length % 256=r.length by omega];rw [kP (l:=r) (st:=List Int) (fun s i=>(s,i)) (fun s q=>s++q.flatMap zE) (fun s q=>s.length+80*q.length<=1000 /\ ∀ v∈q,vE v=true/\sE v.Num) [(r.length:Int)] ?_ ?_ ⟨by simp;omega,fun v hv'=>⟨hv v hv',hn v hv'⟩⟩]
 ·rfl
 ·intro i a q s hi hinv;obtain⟨h1,h2⟩:=hinv;have hlt:=(List.getElem?_eq_some_iff.1 hi).1;obtain⟨ha,hb⟩:=h2 a (List.mem_cons_self ..);have hl:=aIR ha hb;rw [List.length_cons] at h1;refine .inl ⟨s++zE a,?_,⟨by simp;omega,fun v hv'=>h2 v (List.mem_cons_of_mem _ hv')⟩,by simp⟩;simp only [FH];rw [show decide ((i:Int)<(r.length:Int))=true from by simp;omega];simp only [cond_true];rw [aQ (by omega),Int.toNat_natCast,List.getD_eq_getElem?_getD,hi,Option.getD_some,aHM ha hb];simp only [Option.bind_some];rw [aQ (by omega),cZ (by omega) (by omega)];rfl
 ·intro s _;simp only [FH];rw [show decide ((r.length:Int)<(r.length:Int))=false from by simp];simp
theorem aAo {r:List aF}(h:rOk r):EZ r=some (keyOf r):=by
 unfold EZ;rw [aHN h];rfl
theorem bytes_inj {a b:ByteArray}(h:a.data.toList.map (fun b=>((UInt8.toNat b:Nat):Int))=b.data.toList.map fun b=>((UInt8.toNat b:Nat):Int)):a=b:=by
 refine data_inj ?_;refine (List.map_inj_right ?_).1 h;intro x y e;exact UInt8.toNat_inj.1 (by omega)
theorem aIK {v w:aF}(hv:vE v=true)(hw:vE w=true){s t:List Int}(h:zE v++s=zE w++t):v=w/\s=t:=by
 unfold zE at h;rcases PF hv with h1 | ⟨h1,h1'⟩ <;> rcases PF hw with h2 | ⟨h2,h2'⟩
 ·rw [if_pos h1,if_pos h2] at h;simp only [List.cons_append,List.cons.injEq,true_and] at h;obtain⟨e1,e2⟩:=aFV _ _ _ _ h;obtain⟨a1,a2⟩:=MM h1;obtain⟨b1,b2⟩:=MM h2;refine⟨?_,e2⟩;obtain⟨vk,vn,vt⟩:=v;obtain⟨wk,wn,wt⟩:=w;simp only at *;rw [a1,b1,a2,b2,aM1 e1]
 ·rw [if_pos h1,if_neg (by simp [h2])] at h;simp at h
 ·rw [if_neg (by simp [h1]),if_pos h2] at h;simp at h
 ·rw [if_neg (by simp [h1]),if_neg (by simp [h2])] at h;simp only [List.cons_append,List.append_assoc,List.cons.injEq,true_and] at h;obtain⟨e1,e2⟩:=aFV _ _ _ _ h;obtain⟨a1,a2,_⟩:=GB h1';obtain⟨b1,b2,_⟩:=GB h2'
  have hs:v.Text.data.toList.length=w.Text.data.toList.length:=by
   have x1:v.Text.data.size=v.Text.size:=rfl;have x2:w.Text.data.size=w.Text.size:=rfl;simp only [Array.length_toList];omega
  obtain⟨e3,e4⟩:=List.append_inj e2 (by simpa using hs);have e5:=bytes_inj e3;refine⟨?_,e4⟩;obtain⟨vk,vn,vt⟩:=v;obtain⟨wk,wn,wt⟩:=w;simp only at *;rw [a1,b1,a2,b2,e5]
theorem aCD:∀ {r s:List aF},r.length=s.length->(∀ v∈r,vE v=true)->(∀ v∈s,vE v=true)->r.flatMap zE=s.flatMap zE->r=s
 | [],[],_,_,_,_=>rfl
 | [],_::_,h,_,_,_=>by simp at h
 | _::_,[],h,_,_,_=>by simp at h
 | v::r,w::s,hl,hr,hs,h=>by
  simp only [List.flatMap_cons] at h;obtain⟨e1,e2⟩:=aIK (hr v (List.mem_cons_self ..)) (hs w (List.mem_cons_self ..)) h;rw [e1,aCD (by simpa using hl) (fun x hx=>hr x (List.mem_cons_of_mem _ hx)) (fun x hx=>hs x (List.mem_cons_of_mem _ hx)) e2]
theorem aGF (v:aF):∀ x∈zE v,0<=x/\x<256:=by
 intro x hx;unfold zE at hx;split at hx
 ·rcases List.mem_cons.1 hx with rfl | hx
  ·omega
  ·exact aCQ _ x hx
 ·rcases List.mem_cons.1 hx with rfl | hx
  ·omega
  ·rcases List.mem_append.1 hx with hx | hx
   ·exact aCQ _ x hx
   ·obtain⟨b,_,rfl⟩:=List.mem_map.1 hx;have:=b.toNat_lt;omega
theorem aJA:∀ {a b:List Int},(∀ x∈a,0<=x/\x<256)->(∀ x∈b,0<=x/\x<256)->strOfNums a=strOfNums b->a=b:=by
 intro a b ha hb h;have h':=congrArg (fun x:ByteArray=>x.data.toList) h;simp only [strOfNums_data] at h';clear h
 induction a generalizing b with
 | nil=>cases b with
  | nil=>rfl
  | cons y b=>simp at h'
 | cons x a ih=>cases b with
  | nil=>simp at h'
  | cons y b =>
   simp only [List.map_cons,List.cons.injEq] at h';obtain⟨h1,h2⟩:=ha x (List.mem_cons_self ..);obtain⟨h3,h4⟩:=hb y (List.mem_cons_self ..);have e:=congrArg UInt8.toNat h'.1;rw [UInt8.toNat_ofNat',UInt8.toNat_ofNat'] at e;rw [ih (fun z hz=>ha z (List.mem_cons_of_mem _ hz)) (fun z hz=>hb z (List.mem_cons_of_mem _ hz)) h'.2,show x=y by omega]
theorem WA {r s:List aF}(hr:gI r=true)(hs:gI s=true)(h:keyOf r=keyOf s):r=s:=by
 obtain⟨r8,rv⟩:=tS hr;obtain⟨s8,sv⟩:=tS hs
 have rg:∀ {q:List aF},q.length<=8 -> ∀ x∈aCH q,0<=x/\x<256:=by
  intro q hq x hx;rcases List.mem_cons.1 hx with rfl | hx
  ·omega
  ·obtain⟨v,_,hv⟩:=List.mem_flatMap.1 hx;exact aGF v x hv
 have e:=aJA (rg r8) (rg s8) h;simp only [aCH,List.cons.injEq] at e;exact aCD (by omega) rv sv e.2
def OR {α β:Type}(R:α->β->Prop):Option α->Option β->Prop
 | none,none=>True
 | some a,some b=>R a b
 | _,_=>False
theorem dQ {α β γ δ:Type} {R:α->β->Prop} {S:γ->δ->Prop} {a:Option α} {b:Option β} {f:α->Option γ} {g:β->Option δ}
  (h:OR R a b) (k:∀ x y,R x y->OR S (f x) (g y)):OR S (a.bind f) (b.bind g):=by
 cases a <;> cases b
 ·trivial
 ·exact h.elim
 ·exact h.elim
 ·exact k _ _ h
theorem dI {α β:Type}{R:α->β->Prop}{a:α}{b:β}(h:R a b):OR R (some a) (some b):=h
theorem aMo {α:Type}:∀ a:Option α,OR Eq a a
 | none=>trivial
 | some _=>rfl
theorem cG {α β:Type}{R:α->β->Prop}{p:Prop}{a:Option α}{b:Option β}(h:p->OR R a b):OR R (aU p a) (aU p b):=by
 by_cases hp:p
 ·rw [aQ hp,aQ hp];exact h hp
 ·unfold aU;rw [if_neg hp,if_neg hp];trivial
theorem eX {α β:Type}{R:α->β->Prop}{c:Bool}{a a':Option α}{b b':Option β}(h:c=true->OR R a b)(h':c=false->OR R a' b'):OR R (cond c a a') (cond c b b'):=by
 cases c
 ·exact h' rfl
 ·exact h rfl
def rC (x:Int)(b:Bool):Prop:=decide (x<0)=b
theorem zR {c:Bool}{a:Option Int}{b:Option Bool}(h:c=true->OR rC a b):OR rC (cR c a) (cR c b):=by
 cases c
 ·exact (rfl:decide ((0:Int)<0)=false)
 ·exact h rfl
def rS {α β γ δ:Type}(R:α->β->Prop)(S:γ->δ->Prop):α⊕γ->β⊕δ->Prop
 | .inl a,.inl b=>R a b
 | .inr a,.inr b=>S a b
 | _,_=>False
theorem aD1 {S T A B:Type} {R:S->T->Prop} {Q:A->B->Prop} {f:S->Option (S⊕A)} {g:T->Option (T⊕B)}
  (h:∀ s t,R s t->OR (rS R Q) (f s) (g t)):∀ k s t,R s t->OR Q (iter f k s) (iter g k t)
 | 0,_,_,_=>trivial
 | k+1,s,t,r=>by
  have:=h s t r;simp only [iter]
  cases e:f s with
  | none =>
   cases e':g t with
   | none=>trivial
   | some y=>rw [e,e'] at this; exact this.elim
  | some x =>
   cases e':g t with
   | none=>rw [e,e'] at this; exact this.elim
   | some y =>
    rw [e,e'] at this
    cases x <;> cases y
    ·exact aD1 h k _ _ this
    ·exact this.elim
    ·exact this.elim
    ·exact this
theorem aJc {α β:Type}{R:α->β->Prop}{a:Option α}{b:Option β}(h:OR R a b):(a=none/\b=none) ∨ ∃ x y,a=some x/\b=some y/\R x y:=by
 cases a <;> cases b
 ·exact .inl ⟨rfl,rfl⟩
 ·exact h.elim
 ·exact h.elim
 ·exact .inr ⟨_,_,rfl,rfl,h⟩
theorem vV {S T A B:Type} {R:S->T->Prop} {Q:A->B->Prop} {f:S->Option (S⊕A)} {g:T->Option (T⊕B)}
  (h:∀ s t,R s t->OR (rS R Q) (f s) (g t)) {s:S} {t:T} (r:R s t):OR Q (lp f s) (lp g t):=by
 cases e:lp f s with
 | none =>
  cases e':lp g t with
  | none=>trivial
  | some y =>
   obtain⟨k,hk⟩:=MK.1 e';rcases aJc (aD1 h k s t r) with ⟨_,h2⟩ | ⟨x,_,h1,_,_⟩
   ·rw [hk] at h2;cases h2
   ·rw [MK.2 ⟨k,h1⟩] at e;cases e
 | some x =>
  obtain⟨k,hk⟩:=MK.1 e;rcases aJc (aD1 h k s t r) with ⟨h1,_⟩ | ⟨x',y,h1,h2,h3⟩
  ·rw [hk] at h1;cases h1
  ·rw [hk] at h1;cases h1;rw [MK.2 ⟨k,h2⟩];exact h3
theorem aIi {C:Type}{U:C->Prop}{d:List C}(h:∀ x∈d,U x){v:C}(hv:U v)(i:Nat):∀ x∈d.set i v,U x:=by
 intro x hx;rcases List.mem_or_eq_of_mem_set hx with h1 | rfl
 ·exact h x h1
 ·exact hv
theorem dW {C:Type}{k:C->Int}(d:List C)(i:Nat)(v:C):(d.map k).set i (k v)=(d.set i v).map k:=by rw [List.map_set]
section
variable {C:Type} [Inhabited C] (k:C->Int) (U:C->Prop)
def rL (a:List C)(b:List Int):Prop:=b=a.map k /\ ∀ x∈a,U x
def rP {α β γ δ:Type}(R:α->β->Prop)(S:γ->δ->Prop)(a:α×γ)(b:β×δ):Prop:=R a.1 b.1/\S a.2 b.2
structure dR (cmp:C->C->Option Int):Prop where
 d0:k default=0
 c:∀ x y,(U x∨x=default)->(U y∨y=default) -> ∃ n,cmp x y=some n/\(n<0↔k x<k y)
variable {k U}
theorem jD {d:List C}(h:∀ x∈d,U x)(i:Nat):U (d.getD i default)∨d.getD i default=default:=by
 rw [List.getD_eq_getElem?_getD];by_cases hi:i<d.length
 ·rw [List.getElem?_eq_getElem hi];exact .inl (h _ (List.getElem_mem hi))
 ·rw [List.getElem?_eq_none (Nat.le_of_not_lt hi)];exact .inr rfl
theorem aH1 {d:List C}(h:∀ x∈d,U x){i:Int}(hi:0<=i/\i<(d.length:Int)):U (d.getD i.toNat default):=by
 have hi':i.toNat<d.length:=by omega
 rw [List.getD_eq_getElem?_getD,List.getElem?_eq_getElem hi'];exact h _ (List.getElem_mem hi')
theorem cT {d:List C}(h:∀ x∈d,U x){i j:Int}(hi:0<=i/\i<(d.length:Int))(hj:0<=j/\j<(d.length:Int)) :
  ∀ x∈List.set (d.set i.toNat (d.getD j.toNat default)) j.toNat (d.getD i.toNat default),U x :=
 aIi (aIi h (aH1 h hj) _) (aH1 h hi) _
theorem dA (hk:k default=0)(d:List C)(i:Nat):(d.map k).getD i default=k (d.getD i default):=by
 rw [List.getD_eq_getElem?_getD,List.getD_eq_getElem?_getD,List.getElem?_map]
 cases d[i]? with
 | none=>exact hk.symm
 | some _=>rfl
end
theorem qK {C:Type}{k:C->Int}{U:C->Prop}{d:List C}(h:∀ x∈d,U x):rL k U d (d.map k):=⟨rfl,h⟩
abbrev gN (d:List Int)(i:Nat):Int:=d.getD i default
def swp (d:List Int)(i j:Nat):List Int:=(d.set i (gN d j)).set j (gN d i)
theorem aKj {d:List Int}{i k:Nat}{x:Int}(h:i<d.length):gN (d.set i x) k=if k=i then x else gN d k:=by
 simp only [gN,List.getD_eq_getElem?_getD,List.getElem?_set];by_cases e:i=k
 ·subst e;simp [h]
 ·rw [if_neg e,if_neg (fun h=>e h.symm)]
theorem mJ (d:List Int)(i j:Nat):(swp d i j).length=d.length:=by simp [swp]
theorem DR {d:List Int}{i j:Nat}(hi:i<d.length)(hj:j<d.length)(k:Nat):gN (swp d i j) k=if k=j then gN d i else if k=i then gN d j else gN d k:=by
 unfold swp;rw [aKj (by simpa using hj),aKj hi]
theorem aLG {d:List Int}{i j:Nat}(hi:i<d.length)(hj:j<d.length):(swp d i j).Perm d:=by
 have h1:gN d i=d[i]:=by simp [gN,List.getD_eq_getElem?_getD,List.getElem?_eq_getElem hi]
 have h2:gN d j=d[j]:=by simp [gN,List.getD_eq_getElem?_getD,List.getElem?_eq_getElem hj]
 unfold swp;rw [h1,h2];exact List.set_set_perm hi hj
structure Rel (a b:Nat) (d d':List Int):Prop where
 len:d'.length=d.length
 perm:d'.Perm d
 out:∀ k,k<a∨b<=k->gN d' k=gN d k
 src:∀ k,a<=k->k<b -> ∃ k',a<=k'/\k'<b/\gN d' k=gN d k'
theorem Rel.refl (a b:Nat)(d:List Int):Rel a b d d:=⟨rfl,.refl _,fun _ _=>rfl,fun k h1 h2=>⟨k,h1,h2,rfl⟩⟩
theorem Rel.trans {a b:Nat}{d d' d'':List Int}(h:Rel a b d d')(h':Rel a b d' d''):Rel a b d d'' :=
 ⟨h'.len.trans h.len,h'.perm.trans h.perm,fun k hk=>(h'.out k hk).trans (h.out k hk),fun k h1 h2=>by
  obtain⟨k1,a1,a2,a3⟩:=h'.src k h1 h2;obtain⟨k2,b1,b2,b3⟩:=h.src k1 a1 a2;exact⟨k2,b1,b2,a3.trans b3⟩⟩
theorem Rel.mono {a b a' b':Nat}{d d':List Int}(h:Rel a b d d')(h1:a'<=a)(h2:b<=b'):Rel a' b' d d' :=
 ⟨h.len,h.perm,fun k hk=>h.out k (by omega),fun k k1 k2=>by
  by_cases hk:a<=k/\k<b
  ·obtain⟨k',c1,c2,c3⟩:=h.src k hk.1 hk.2;exact⟨k',by omega,by omega,c3⟩
  ·exact⟨k,k1,k2,h.out k (by omega)⟩⟩
theorem Rel.swp {a b:Nat}{d:List Int}{i j:Nat}(hi:i<d.length)(hj:j<d.length)(h1:a<=i/\i<b)(h2:a<=j/\j<b):Rel a b d (swp d i j) :=
 ⟨mJ ..,aLG hi hj,fun k hk=>by rw [DR hi hj,if_neg (by omega),if_neg (by omega)],fun k k1 k2=>by
  rw [DR hi hj];split
  ·exact⟨i,h1.1,h1.2,rfl⟩
  ·split
   ·exact⟨j,h2.1,h2.2,rfl⟩
   ·exact⟨k,k1,k2,rfl⟩⟩
theorem Rel.all {a b:Nat}{d d':List Int}(h:Rel a b d d'){p:Int->Prop}(hp:∀ k,a<=k->k<b->p (gN d k)):∀ k,a<=k->k<b->p (gN d' k):=fun k k1 k2=>by
 obtain⟨k',c1,c2,c3⟩:=h.src k k1 k2;rw [c3];exact hp k' c1 c2
def yB (a b:Nat)(d:List Int):Prop:=∀ p q,a<=p->p<=q->q<b->gN d p<=gN d q
theorem zQ (a b:Int):fG a b=some (decide (a<b)):=by simp [fG,rR,cR]
theorem wrN {x:Int}{n:Nat}(h:x=(n:Int))(hn:n<=9000000000000000000):i64.wrap x=(n:Int):=by
 rw [cZ (by omega) (by omega),h]
theorem asN {i n:Nat}(h:i<n):0<=(i:Int)/\(i:Int)<((n:Nat):Int):=by omega
theorem aFv {a b i:Int}{d:List Int}{lo j:Nat}(ha:a=(lo:Nat))(h1:lo<=j)(hj:j<d.length)(hl:d.length<4611686018427387904) :
  iT a b i d (j:Nat)=if lo<j/\gN d j<gN d (j-1) then some (.inl (swp d j (j-1),((j-1:Nat):Int))) else some (.inr d):=by
 subst ha;unfold iT;by_cases h:lo<j
 ·have e1:i64.wrap ((j:Int)-1)=((j-1:Nat):Int):=wrN (by omega) (by omega);have d1:decide (((lo:Nat):Int)<((j:Nat):Int))=true:=by simp;omega
  rw [e1,d1];simp only [true_and,Int.toNat_natCast,zQ,cR,cond_true,Option.bind_some,Bool.true_and];rw [aQ fun _=>asN hj,aQ fun _=>asN (by omega)];by_cases h2:gN d j<gN d (j-1)
  ·rw [if_pos ⟨h,h2⟩];simp only [gN] at h2;simp only [h2,decide_true,cond_true];rw [aQ (asN (by omega)),aQ (asN hj),aQ (asN hj),aQ (asN (by omega))];rfl
  ·rw [if_neg (fun hh=>h2 hh.2)];simp only [gN] at h2;simp only [h2,decide_false,cond_false]
 ·have d1:decide (((lo:Nat):Int)<((j:Nat):Int))=false:=by simp;omega
  rw [if_neg (fun hh=>h hh.1),d1];simp only [Bool.false_eq_true,false_implies,cR,cond_false,Option.bind_some,Bool.false_and];rw [aQ trivial,aQ trivial]
structure aAX (a j i:Nat) (d:List Int):Prop where
 oth:∀ p q,a<=p->p<=q->q<=i->p≠j->q≠j->gN d p<=gN d q
 up:∀ q,j<q->q<=i->gN d j<=gN d q
theorem aAX.done {a j i:Nat}{d:List Int}(h:aAX a j i d)(hj:a<=j)(hn:¬ (a<j/\gN d j<gN d (j-1))):yB a (i+1) d:=by
 intro p q h1 h2 h3;by_cases hp:p=j
 ·by_cases hq:q=j
  ·subst hp;subst hq;exact Int.le_refl _
  ·subst hp;exact h.up q (by omega) (by omega)
 ·by_cases hq:q=j
  ·subst hq;have h4:¬ gN d q<gN d (q-1):=fun hh=>hn ⟨by omega,hh⟩;have:=h.oth p (q-1) h1 (by omega) (by omega) hp (by omega);omega
  ·exact h.oth p q h1 h2 (by omega) hp hq
theorem aAX.next {a j i:Nat}{d:List Int}(h:aAX a j i d)(hj:a<j)(hji:j<=i)(hi:i<d.length)(hlt:gN d j<gN d (j-1)):aAX a (j-1) i (swp d j (j-1)):=by
 have g:=DR (d:=d) (i:=j) (j:=j-1) (by omega) (by omega);refine⟨fun p q h1 h2 h3 hp hq=>?_,fun q h1 h2=>?_⟩
 ·rw [g,g,if_neg hp,if_neg hq];by_cases hpj:p=j
  ·rw [if_pos hpj];by_cases hqj:q=j
   ·rw [if_pos hqj];exact Int.le_refl _
   ·rw [if_neg hqj];exact h.oth (j-1) q (by omega) (by omega) h3 (by omega) hqj
  ·rw [if_neg hpj];by_cases hqj:q=j
   ·rw [if_pos hqj];exact h.oth p (j-1) h1 (by omega) (by omega) hpj (by omega)
   ·rw [if_neg hqj];exact h.oth p q h1 h2 h3 hpj hqj
 ·rw [g,g,if_pos rfl,if_neg (by omega)];by_cases hqj:q=j
  ·rw [if_pos hqj];omega
  ·rw [if_neg hqj];exact h.up q (by omega) h2
theorem aNF {a b i:Int}{lo hi:Nat}(ha:a=(lo:Nat)):∀ (j:Nat) (d:List Int),lo<=j->j<=hi->hi<d.length->d.length<4611686018427387904->aAX lo j hi d ->
  ∃ d',lp (fun s:List Int×Int=>iT a b i s.1 s.2) (d,(j:Int))=some d'/\Rel lo (hi+1) d d'/\yB lo (hi+1) d':=by
 intro j
 induction j with
 | zero =>
  intro d h1 h2 h3 h4 h5;have hs:=aFv (a:=a) (b:=b) (i:=i) ha h1 (by omega) h4 (d:=d);rw [if_neg (by omega)] at hs;exact⟨d,cY hs,Rel.refl ..,h5.done h1 (by omega)⟩
 | succ j ih =>
  intro d h1 h2 h3 h4 h5;have hs:=aFv (a:=a) (b:=b) (i:=i) ha h1 (by omega) h4 (d:=d);by_cases h:lo<j+1/\gN d (j+1)<gN d (j+1-1)
  ·rw [if_pos h] at hs;obtain⟨d',e,r,s⟩:=ih (swp d (j+1) (j+1-1)) (by omega) (by omega) (by rw [mJ];omega) (by rw [mJ];omega) (h5.next h.1 h2 h3 h.2);exact⟨d',(fA hs).trans e,(Rel.swp (by omega) (by omega) (by omega) (by omega)).trans r,s⟩
  ·rw [if_neg h] at hs;exact⟨d,cY hs,Rel.refl ..,h5.done h1 h⟩
theorem aHL {a b:Int}{lo hi:Nat}(ha:a=(lo:Nat))(hb:b=(hi:Nat)):∀ (n i:Nat) (d:List Int),hi-i=n->lo<i->hi<=d.length->d.length<4611686018427387904->yB lo i d->(i<=hi∨hi<=i) ->
  ∃ d',lp (fun s:List Int×Int=>eY a b s.1 s.2) (d,(i:Int))=some d'/\Rel lo hi d d'/\yB lo hi d':=by
 intro n
 induction n with
 | zero =>
  intro i d h1 h2 h3 h4 h5 _;refine⟨d,cY ?_,Rel.refl ..,fun p q p1 p2 p3=>h5 p q p1 p2 (by omega)⟩;show eY _ _ _ _=_;have : decide (((i:Nat):Int)<b)=false:=by simp;omega
  simp only [eY,this,cond_false]
 | succ n ih =>
  intro i d h1 h2 h3 h4 h5 _;obtain⟨d1,e,r,s⟩:=aNF (a:=a) (b:=b) (i:=(i:Int)) (hi:=i) ha i d (by omega) (Nat.le_refl _) (by omega) h4 ⟨fun p q p1 p2 p3 p4 p5=>h5 p q p1 p2 (by omega),fun q q1 q2=>by omega⟩;obtain⟨d2,e2,r2,s2⟩:=ih (i+1) d1 (by omega) (by omega) (by rw [r.len];exact h3) (by rw [r.len];exact h4) s (by omega);refine⟨d2,?_,(r.mono (Nat.le_refl _) (by omega)).trans r2,s2⟩;rw [fA (s':=(d1,((i+1:Nat):Int))) ?_,e2];show eY _ _ _ _=_;have : decide (((i:Nat):Int)<b)=true:=by simp;omega
  simp only [eY,this,cond_true,oB];rw [e];simp only [Option.bind_some,oD];rw [wrN (n:=i+1) (by omega) (by omega)]
theorem aCn (lo:Nat)(d:List Int):yB lo (lo+1) d:=fun p q p1 p2 p3=>by
 have : p=q:=by omega
 subst this;exact Int.le_refl _
theorem aLW {lo hi:Nat}{d:List Int}(h3:hi<=d.length)(h4:d.length<4611686018427387904)(h0:lo<=hi):∃ d',mE d (lo:Int) (hi:Int)=some d'/\Rel lo hi d d'/\yB lo hi d':=by
 unfold mE oE;obtain⟨d',e,r,s⟩:=aHL (a:=(lo:Int)) (b:=(hi:Int)) (lo:=lo) (hi:=hi) rfl rfl (hi-(lo+1)) (lo+1) d rfl (by omega) h3 h4 (aCn lo d) (by omega);rw [wrN (n:=lo+1) (by omega) (by omega),e];exact⟨d',rfl,r,s⟩
theorem aOn {lo hi:Nat}:∀ (n i j:Nat) (d:List Int),j+1-i=n->lo<=i->j+1<=hi∨j<=i->hi<=d.length->d.length<4611686018427387904->i<4611686018427387904->j<4611686018427387904 ->
  ∃ d',lp (fun s:List Int×Int×Int=>fE s.1 s.2.1 s.2.2) (d,(i:Int),(j:Int))=some d'/\Rel lo hi d d':=by
 intro n
 induction n using Nat.strongRecOn with
 | ind n ih =>
  intro i j d h1 h2 h3 h4 h5 h6 h7;by_cases h:i<j
  ·obtain⟨d',e,r⟩:=ih (j-1+1-(i+1)) (by omega) (i+1) (j-1) (swp d i j) rfl (by omega) (by omega) (by rw [mJ];exact h4) (by rw [mJ];exact h5) (by omega) (by omega);refine⟨d',?_,(Rel.swp (by omega) (by omega) (by omega) (by omega)).trans r⟩;rw [fA (s':=(swp d i j,((i+1:Nat):Int),((j-1:Nat):Int))) ?_,e];show fE _ _ _=_;have : decide (((i:Nat):Int)<((j:Nat):Int))=true:=by simp;omega
   simp only [fE,this,cond_true,Int.toNat_natCast];rw [aQ (asN (by omega)),aQ (asN (by omega)),aQ (asN (by omega)),aQ (asN (by omega)),wrN (n:=i+1) (by omega) (by omega),wrN (n:=j-1) (by omega) (by omega)];rfl
  ·refine⟨d,cY ?_,Rel.refl ..⟩;show fE _ _ _=_;have : decide (((i:Nat):Int)<((j:Nat):Int))=false:=by simp;omega
   simp only [fE,this,cond_false]
theorem aKU {lo hi:Nat}{d:List Int}(h0:lo<hi)(h3:hi<=d.length)(h4:d.length<4611686018427387904):∃ d',mV d (lo:Int) (hi:Int)=some d'/\Rel lo hi d d':=by
 unfold mV oR;obtain⟨d',e,r⟩:=aOn (lo:=lo) (hi:=hi) (hi-1+1-lo) lo (hi-1) d rfl (Nat.le_refl _) (by omega) h3 h4 (by omega) (by omega);rw [wrN (n:=hi-1) (by omega) (by omega),e];exact⟨d',rfl,r⟩
def MZ (f hi:Nat)(d:List Int)(r:Nat):Nat:=if 2*r+2<hi/\gN d (f+(2*r+1))<gN d (f+(2*r+2)) then 2*r+2 else 2*r+1
theorem aDD {f hi r c:Nat}{d:List Int}(hf:f+hi<=d.length)(hr:r<hi)(hc:c<hi)(hl:d.length<2305843009213693951) :
  lY d (hi:Nat) (f:Nat) (r:Nat) (c:Nat)=if gN d (f+r)<gN d (f+c) then some (.inl (swp d (f+r) (f+c),(c:Int))) else some (.inr (.inr d)):=by
 unfold lY;have e1:i64.wrap ((f:Int)+(r:Int))=((f+r:Nat):Int):=wrN (by omega) (by omega);have e2:i64.wrap ((f:Int)+(c:Int))=((f+c:Nat):Int):=wrN (by omega) (by omega);rw [e1,e2];simp only [Int.toNat_natCast,zQ,Option.bind_some];rw [aQ (asN (by omega)),aQ (asN (by omega))];by_cases h:gN d (f+r)<gN d (f+c)
 ·rw [if_pos h];simp only [gN] at h;simp only [h,decide_true,Bool.not_true,cond_false];rw [aQ (asN (by omega)),aQ (asN (by omega)),aQ (asN (by omega)),aQ (asN (by omega))];rfl
 ·rw [if_neg h];simp only [gN] at h;simp only [h,decide_false,Bool.not_false,cond_true]
theorem aKF {f hi r:Nat}{d:List Int}(hf:f+hi<=d.length)(hr:r<hi)(hl:d.length<2305843009213693951) :
  eT (hi:Nat) (f:Nat) d (r:Nat)=if hi<=2*r+1 then some (.inr (.inl d)) else if gN d (f+r)<gN d (f+MZ f hi d r) then some (.inl (swp d (f+r) (f+MZ f hi d r),(MZ f hi d r:Int))) else some (.inr (.inr d)):=by
 unfold eT
 have e1:i64.wrap (i64.wrap (2*(r:Int))+1)=((2*r+1:Nat):Int):=by
  rw [wrN (x:=2*(r:Int)) (n:=2*r) (by omega) (by omega)];exact wrN (by omega) (by omega)
 have e2:i64.wrap (((2*r+1:Nat):Int)+1)=((2*r+2:Nat):Int):=wrN (by omega) (by omega);simp only [e1,e2];by_cases h:hi<=2*r+1
 ·rw [if_pos h];have : decide (((hi:Nat):Int)<=((2*r+1:Nat):Int))=true:=by simp;omega
  rw [this,cond_true]
 ·rw [if_neg h];have d1:decide (((hi:Nat):Int)<=((2*r+1:Nat):Int))=false:=by simp;omega
  rw [d1,cond_false];by_cases h2:2*r+2<hi
  ·have d2:decide (((2*r+2:Nat):Int)<((hi:Nat):Int))=true:=by simp;omega
   have e3:i64.wrap ((f:Int)+((2*r+1:Nat):Int))=((f+(2*r+1):Nat):Int):=wrN (by omega) (by omega);have e4:i64.wrap (((f+(2*r+1):Nat):Int)+1)=((f+(2*r+2):Nat):Int):=wrN (by omega) (by omega);simp only [d2,e3,e4,Int.toNat_natCast,zQ,cR,cond_true,Option.bind_some,Bool.true_and];rw [aQ fun _=>asN (by omega),aQ fun _=>asN (by omega)];by_cases h3:gN d (f+(2*r+1))<gN d (f+(2*r+2))
   ·have hb:MZ f hi d r=2*r+2:=if_pos ⟨h2,h3⟩;simp only [gN] at h3;simp only [h3,decide_true,cond_true];rw [aDD hf hr h2 hl,hb]
   ·have hb:MZ f hi d r=2*r+1:=if_neg fun hh=>h3 hh.2;simp only [gN] at h3;simp only [h3,decide_false,cond_false];rw [aDD hf hr (by omega) hl,hb]
  ·have d2:decide (((2*r+2:Nat):Int)<((hi:Nat):Int))=false:=by simp;omega
   have hb:MZ f hi d r=2*r+1:=if_neg fun hh=>h2 hh.1;simp only [d2,Bool.false_eq_true,false_implies,cR,cond_false,Option.bind_some,Bool.false_and];rw [aQ trivial,aQ trivial,aDD hf hr (by omega) hl,hb]
def chd (c p:Nat):Prop:=c=2*p+1∨c=2*p+2
def Hp (f lo hi:Nat)(d:List Int):Prop:=∀ i c,lo<=i->chd c i->c<hi->gN d (f+c)<=gN d (f+i)
structure HpX (f lo hi r:Nat) (d:List Int):Prop where
 oth:∀ i c,lo<=i->i≠r->chd c i->c<hi->gN d (f+c)<=gN d (f+i)
 up:∀ p c,lo<=p->chd r p->chd c r->c<hi->gN d (f+c)<=gN d (f+p)
theorem aKt {f hi r:Nat}{d:List Int}(h:¬ hi<=2*r+1):chd (MZ f hi d r) r/\MZ f hi d r<hi /\ ∀ c,chd c r->c<hi->gN d (f+c)<=gN d (f+MZ f hi d r):=by
 unfold MZ;split
 ·rename_i h1
  refine⟨.inr rfl,h1.1,fun c hc hlt=>?_⟩;rcases hc with rfl | rfl
  ·omega
  ·exact Int.le_refl _
 ·rename_i h1
  refine⟨.inl rfl,by omega,fun c hc hlt=>?_⟩;rcases hc with rfl | rfl
  ·exact Int.le_refl _
  ·have : ¬ gN d (f+(2*r+1))<gN d (f+(2*r+2)):=fun hh=>h1 ⟨hlt,hh⟩;omega
theorem HpX.done {f lo hi r:Nat}{d:List Int}(h:HpX f lo hi r d)(hr:∀ c,chd c r->c<hi->gN d (f+c)<=gN d (f+r)):Hp f lo hi d:=by
 intro i c h1 h2 h3;by_cases e:i=r
 ·subst e;exact hr c h2 h3
 ·exact h.oth i c h1 e h2 h3
theorem HpX.next {f lo hi r c:Nat}{d:List Int}(h:HpX f lo hi r d)(hf:f+hi<=d.length)(hlo:lo<=r)(hrh:r<hi)(hc:chd c r)(hch:c<hi)(hbig:∀ k,chd k r->k<hi->gN d (f+k)<=gN d (f+c))(hlt:gN d (f+r)<gN d (f+c)):HpX f lo hi c (swp d (f+r) (f+c)):=by
 have g:=DR (d:=d) (i:=f+r) (j:=f+c) (by omega) (by omega);have hcr:r<c:=by unfold chd at hc;omega
 refine⟨fun i k h1 h2 h3 h4=>?_,fun p k h1 h2 h3 h4=>?_⟩
 ·rw [g,g,if_neg (show ¬ f+i=f+c by omega)];by_cases hir:i=r
  ·subst hir;rw [if_pos (show f+i=f+i from rfl)];by_cases hkc:k=c
   ·subst hkc;rw [if_pos rfl];omega
   ·rw [if_neg (by omega),if_neg (by unfold chd at h3;omega)];exact hbig k h3 h4
  ·rw [if_neg (show ¬ f+i=f+r by omega)];have hkc:k≠c:=by intro e;subst e;unfold chd at h3 hc;omega
   rw [if_neg (by omega)];by_cases hkr:k=r
   ·subst hkr;rw [if_pos rfl];exact h.up i c h1 h3 hc hch
   ·rw [if_neg (by omega)];exact h.oth i k h1 hir h3 h4
 ·have hp:p=r:=by unfold chd at h2 hc;omega
  subst hp;have hk:c<k:=by unfold chd at h3;omega
  rw [g,g,if_neg (by omega),if_neg (by omega),if_neg (by omega),if_pos rfl];exact h.oth c k (by omega) (by omega) h3 h4
theorem aNc {f lo hi:Nat}:∀ (n r:Nat) (d:List Int),hi-r=n->f+hi<=d.length->lo<=r->r<hi->d.length<2305843009213693951->HpX f lo hi r d ->
  ∃ d',(lp (fun s:List Int×Int=>eT (hi:Nat) (f:Nat) s.1 s.2) (d,(r:Int))=some (.inl d')∨lp (fun s:List Int×Int=>eT (hi:Nat) (f:Nat) s.1 s.2) (d,(r:Int))=some (.inr d'))/\Rel f (f+hi) d d'/\Hp f lo hi d':=by
 intro n
 induction n using Nat.strongRecOn with
 | ind n ih =>
  intro r d h1 h2 h3 h4 h5 h6;have hs:=aKF h2 h4 h5;by_cases h:hi<=2*r+1
  ·rw [if_pos h] at hs;exact⟨d,.inl (cY hs),Rel.refl ..,h6.done fun c hc hlt=>by unfold chd at hc;omega⟩
  ·rw [if_neg h] at hs;obtain⟨b1,b2,b3⟩:=aKt (f:=f) (d:=d) h;by_cases hlt:gN d (f+r)<gN d (f+MZ f hi d r)
   ·rw [if_pos hlt] at hs;have hb:r<MZ f hi d r:=by unfold chd at b1;omega
    obtain⟨d',e,rl,hp⟩:=ih (hi-MZ f hi d r) (by omega) (MZ f hi d r) _ rfl (by rw [mJ];exact h2) (by omega) b2 (by rw [mJ];exact h5) (h6.next h2 h3 h4 b1 b2 b3 hlt);exact⟨d',e.imp (fun e=>(fA hs).trans e) (fun e=>(fA hs).trans e),(Rel.swp (by omega) (by omega) (by omega) (by omega)).trans rl,hp⟩
   ·rw [if_neg hlt] at hs;exact⟨d,.inr (cY hs),Rel.refl ..,h6.done fun c hc b5=>by have:=b3 c hc b5;omega⟩
theorem aIf {f lo hi:Nat}{d:List Int}(h2:f+hi<=d.length)(h5:d.length<2305843009213693951)(hlo:lo<2305843009213693951)(h6:HpX f lo hi lo d) :
  ∃ d',jV d (lo:Nat) (hi:Nat) (f:Nat)=some d'/\Rel f (f+hi) d d'/\Hp f lo hi d':=by
 unfold jV qM;by_cases h:lo<hi
 ·obtain⟨d',e,r,p⟩:=aNc (hi-lo) lo d rfl h2 (Nat.le_refl _) h h5 h6;rcases e with e | e <;> rw [e] <;> exact ⟨d',rfl,r,p⟩
 ·refine⟨d,?_,Rel.refl ..,fun i c h1 hc hlt=>by unfold chd at hc;omega⟩
  have hs:eT (hi:Nat) (f:Nat) d (lo:Nat)=some (.inr (.inl d)):=by
   unfold eT
   have e1:i64.wrap (i64.wrap (2*(lo:Int))+1)=((2*lo+1:Nat):Int):=by
    rw [wrN (x:=2*(lo:Int)) (n:=2*lo) (by omega) (by omega)];exact wrN (by omega) (by omega)
   have : decide (((hi:Nat):Int)<=((2*lo+1:Nat):Int))=true:=by simp;omega
   simp only [e1,this,cond_true]
  rw [cY (show (fun s:List Int×Int=>eT (hi:Nat) (f:Nat) s.1 s.2) (d,(lo:Int))=_ from hs)];rfl
theorem aJ2 {f k:Nat}{d:List Int}(h:Hp f 0 k d):∀ i,i<k->gN d (f+i)<=gN d f:=by
 intro i
 induction i using Nat.strongRecOn with
 | ind i ih =>
  intro hi;by_cases h0:i=0
  ·subst h0;exact Int.le_refl _
  ·have h1:=h ((i-1) / 2) i (Nat.zero_le _) (by unfold chd;omega) hi;have h2:=ih ((i-1) / 2) (by omega) (by omega);omega
theorem aIc {f hi:Nat}:∀ (k:Nat) (d:List Int),f+hi<=d.length->k<2305843009213693951->d.length<2305843009213693951->Hp f k hi d ->
  ∃ d',lp (fun s:List Int×Int=>gH (f:Nat) 0 (hi:Nat) s.1 s.2) (d,(k:Int)-1)=some d'/\Rel f (f+hi) d d'/\Hp f 0 hi d'
 | 0,d,_,_,_,h=>by
  refine⟨d,cY ?_,Rel.refl ..,h⟩;show gH _ _ _ _ _=_;have : decide (0<=((0:Nat):Int)-1)=false:=by simp
  simp only [gH,this,cond_false]
 | k+1,d,h1,h2,h3,h=>by
  obtain⟨d1,e,r,p⟩:=aIf (f:=f) (lo:=k) (hi:=hi) h1 h3 (by omega) ⟨fun i c a1 a2 a3 a4=>h i c (by omega) a3 a4,fun p c a1 a2=>by unfold chd at a2;omega⟩;obtain⟨d2,e2,r2,p2⟩:=aIc (f:=f) (hi:=hi) k d1 (by rw [r.len];exact h1) (by omega) (by rw [r.len];exact h3) p;refine⟨d2,?_,r.trans r2,p2⟩;rw [fA (s':=(d1,(k:Int)-1)) ?_,e2];show gH _ _ _ _ _=_;have g1:(((k+1:Nat):Int)-1)=(k:Int):=by omega
  have g2:decide (0<=(k:Int))=true:=by simp
  simp only [gH,g1,g2,cond_true,e,Option.bind_some];rw [cZ (by omega) (by omega)]
theorem aKh {f n:Nat}:∀ (k:Nat) (d:List Int),k<=n->f+n<=d.length->d.length<2305843009213693951->Hp f 0 k d->yB (f+k) (f+n) d->(∀ p q,f<=p->p<f+k->f+k<=q->q<f+n->gN d p<=gN d q) ->
  ∃ d',lp (fun s:List Int×Int=>gG (f:Nat) 0 s.1 s.2) (d,(k:Int)-1)=some d'/\Rel f (f+n) d d'/\yB f (f+n) d'
 | 0,d,_,_,_,_,hs,_=>by
  refine⟨d,cY ?_,Rel.refl ..,hs⟩;show gG _ _ _ _=_;have : decide (0<=((0:Nat):Int)-1)=false:=by simp
  simp only [gG,this,cond_false]
 | k+1,d,h1,h2,h3,h,hs,hb=>by
  have g:=DR (d:=d) (i:=f) (j:=f+k) (by omega) (by omega);have hroot:=aJ2 h
  obtain⟨d1,e,r,p⟩:=aIf (f:=f) (lo:=0) (hi:=k) (d:=swp d f (f+k)) (by rw [mJ];omega) (by rw [mJ];exact h3) (by omega) ⟨fun i c a1 a2 a3 a4=>by
   rw [g,g,if_neg (by unfold chd at a3;omega),if_neg (by unfold chd at a3;omega),if_neg (by unfold chd at a3;omega),if_neg (by omega)];exact h i c (by omega) a3 (by omega),fun p c a1 a2=>by unfold chd at a2;omega⟩
  have rs:Rel f (f+n) d (swp d f (f+k)):=Rel.swp (i:=f) (j:=f+k) (by omega) (by omega) (by omega) (by omega);have top:gN d1 (f+k)=gN d f:=by rw [r.out _ (by omega),g,if_pos rfl]
  have tail:∀ q,f+k<q->gN d1 q=gN d q:=fun q hq=>by rw [r.out _ (by omega),g,if_neg (by omega),if_neg (by omega)]
  have low:∀ p,f<=p->p<f+k -> ∃ p',f<=p'/\p'<f+(k+1)/\gN d1 p=gN d p':=fun p p1 p2=>by
   obtain⟨p',a1,a2,a3⟩:=r.src p p1 p2;rw [g,if_neg (by omega)] at a3;by_cases hp:p'=f
   ·rw [if_pos hp] at a3;exact ⟨f+k,by omega,by omega,a3⟩
   ·rw [if_neg hp] at a3;exact ⟨p',a1,by omega,a3⟩
  obtain⟨d2,e2,r2,s2⟩:=aKh (f:=f) (n:=n) k d1 (by omega) (by rw [r.len,mJ];exact h2) (by rw [r.len,mJ];exact h3) p (fun p q p1 p2 p3=>by
   by_cases hq:q=f+k
   ·have : p=f+k:=by omega
    rw [hq,this];exact Int.le_refl _
   ·rw [tail q (by omega)];by_cases hp:p=f+k
    ·rw [hp,top];exact hb f q (Nat.le_refl _) (by omega) (by omega) p3
    ·rw [tail p (by omega)];exact hs p q (by omega) p2 p3) (fun p q p1 p2 p3 p4=>by
   obtain⟨p',a1,a2,a3⟩:=low p p1 p2;rw [a3];by_cases hq:q=f+k
   ·rw [hq,top];have:=hroot (p'-f) (by omega);rw [show f+(p'-f)=p' by omega] at this;exact this
   ·rw [tail q (by omega)];exact hb p' q a1 a2 (by omega) p4)
  refine⟨d2,?_,(rs.trans (r.mono (Nat.le_refl _) (by omega))).trans r2,s2⟩;rw [fA (s':=(d1,(k:Int)-1)) ?_,e2];show gG _ _ _ _=_;have g1:(((k+1:Nat):Int)-1)=(k:Int):=by omega
  have g2:decide (0<=(k:Int))=true:=by simp
  have g3:i64.wrap ((f:Int)+(k:Int))=((f+k:Nat):Int):=wrN (by omega) (by omega);simp only [gG,g1,g2,g3,cond_true,Int.toNat_natCast];rw [aQ (asN (by omega)),aQ (asN (by omega)),aQ (asN (by omega)),aQ (asN (by omega))];have e':jV (List.set (d.set f (d.getD (f+k) default)) (f+k) (d.getD f default)) 0 (k:Int) (f:Int)=some d1:=e;rw [e'];simp only [Option.bind_some];rw [cZ (by omega) (by omega)]
theorem aJQ {lo hi:Nat}{d:List Int}(h0:lo<hi)(h1:hi<=d.length)(h3:d.length<2305843009213693951):∃ d',oN d (lo:Int) (hi:Int)=some d'/\Rel lo hi d d'/\yB lo hi d':=by
 unfold oN;rw [aQ (by decide)];have e1:i64.wrap ((hi:Int)-(lo:Int))=((hi-lo:Nat):Int):=wrN (by omega) (by omega);have e2:i64.wrap (((hi-lo:Nat):Int)-1)=((hi-lo-1:Nat):Int):=wrN (by omega) (by omega)
 have e3:i64.wrap (Int.tdiv ((hi-lo-1:Nat):Int) 2)=(((hi-lo-1) / 2+1:Nat):Int)-1:=by
  have : Int.tdiv ((hi-lo-1:Nat):Int) 2=(((hi-lo-1) / 2:Nat):Int):=by rw [Int.tdiv_eq_ediv_of_nonneg (by omega)];omega
  rw [this,wrN (n:=(hi-lo-1) / 2) rfl (by omega)];omega
 rw [e1,e2,e3];unfold qN;obtain⟨d1,a1,r1,p1⟩:=aIc (f:=lo) (hi:=hi-lo) ((hi-lo-1) / 2+1) d (by omega) (by omega) h3 (fun i c b1 b2 b3=>by unfold chd at b2;omega);rw [a1];simp only [Option.bind_some,qP,qO];obtain⟨d2,a2,r2,s2⟩:=aKh (f:=lo) (n:=hi-lo) (hi-lo) d1 (Nat.le_refl _) (by rw [r1.len];omega) (by rw [r1.len];exact h3) p1 (fun p q b1 b2 b3=>by omega) (fun p q b1 b2 b3 b4=>by omega);have e4:i64.wrap (((hi-lo:Nat):Int)-1)=((hi-lo:Nat):Int)-1:=cZ (by omega) (by omega);rw [e4,a2];have : lo+(hi-lo)=hi:=by omega
 rw [this] at r1 r2 s2;exact⟨d2,rfl,r1.trans r2,s2⟩
def aCo:ByteArray:=⟨#[0,1,2,2,3,3,3,3,4,4,4,4,4,4,4,4,5,5,5,5,5,5,5,5,5,5,5,5,5,5,5,5,6,6,6,6,6,6,6,6,6,6,6,6,6,6,6,6,6,6,6,6,6,6,6,6,6,6,6,6,6,6,6,6,7,7,7,7,7,7,7,7,7,7,7,7,7,7,7,7,7,7,7,7,7,7,7,7,7,7,7,7,7,7,7,7,7,7,7,7,7,7,7,7,7,7,7,7,7,7,7,7,7,7,7,7,7,7,7,7,7,7,7,7,7,7,7,7,8,8,8,8,8,8,8,8,8,8,8,8,8,8,8,8,8,8,8,8,8,8,8,8,8,8,8,8,8,8,8,8,8,8,8,8,8,8,8,8,8,8,8,8,8,8,8,8,8,8,8,8,8,8,8,8,8,8,8,8,8,8,8,8,8,8,8,8,8,8,8,8,8,8,8,8,8,8,8,8,8,8,8,8,8,8,8,8,8,8,8,8,8,8,8,8,8,8,8,8,8,8,8,8,8,8,8,8,8,8,8,8,8,8,8,8,8,8,8,8,8,8,8,8,8,8,8,8]⟩
theorem aKH:∀ i:Fin 256,i.val≠0 -> ∃ k:Fin 8,bt aCo (i.val:Int)=(k.val:Int)+1/\2 ^ k.val<=i.val:=by decide +kernel
theorem aEo:ByteArray.size aCo=256:=by decide +kernel
theorem aMj {x:Int}(h:0<=x)(h2:x<=255):u8.wrap x=x:=by
 simp only [IntKind.wrap,IntKind.bits,IntKind.signed];simp;omega
theorem aAL {x:Int}(h:0<=x)(h2:x<=9223372036854775807):u64.wrap x=x:=by
 simp only [IntKind.wrap,IntKind.bits,IntKind.signed];simp;omega
theorem aK5 {x n:Int}(h1:1<=x)(h2:x<=255)(hn:0<=n/\n<=100):∃ k:Nat,sU x n=some (n+k+1)/\k<=7/\(2:Int) ^ k<=x:=by
 obtain⟨k,e,hk⟩:=aKH ⟨x.toNat,by omega⟩ (by simp;omega);refine⟨k.val,?_,by omega,?_⟩
 ·show (aU (0<=(u8.wrap x)/\(u8.wrap x)<((ByteArray.size aCo:Nat):Int)) <| some (i64.wrap (n+(i64.wrap (bt aCo (u8.wrap x))))))=_;rw [aMj (by omega) h2,aQ (by rw [aEo]; omega)];simp only at e;rw [Int.toNat_of_nonneg (by omega)] at e;rw [e,cZ (n:=(k.val:Int)+1) (by omega) (by omega),cZ (by omega) (by omega)]
  congr 1
  omega
 ·simp only at hk;have : ((2 ^ k.val:Nat):Int)<=((x.toNat:Nat):Int):=by exact_mod_cast hk
  rw [Int.toNat_of_nonneg (by omega)] at this
  simpa using this
theorem aCj {x m:Int}(hm:0<m):Int.fdiv x m=x / m:=Int.fdiv_eq_ediv_of_nonneg _ (by omega)
theorem aKI {x n:Int}(h1:1<=x)(h2:x<=65535)(hn:0<=n/\n<=90):∃ k:Nat,qU x n=some (n+k+1)/\k<=15/\(2:Int) ^ k<=x:=by
 unfold qU;by_cases h:256<=x
 ·have hd:Int.fdiv x (2 ^ (min (Int.toNat (8:Int)) 64))=x / 256:=by rw [show (2 ^ (min (Int.toNat (8:Int)) 64):Int)=256 from by decide];exact aCj (by omega)
  obtain⟨k,e,h3,h4⟩:=aK5 (x:=x / 256) (n:=n+8) (by omega) (by omega) (by omega);refine⟨k+8,?_,by omega,?_⟩
  ·simp only [h,decide_true,cond_true];rw [aQ (by decide),hd,cZ (n:=n+8) (by omega) (by omega),e]
   congr 1;omega
  ·rw [Int.pow_add];have : (2:Int) ^ 8=256:=by decide
   rw [this];omega
 ·obtain⟨k,e,h3,h4⟩:=aK5 (x:=x) (n:=n) h1 (by omega) (by omega);exact⟨k,by simp only [h,decide_false,cond_false,e],by omega,h4⟩
theorem aKn {x n:Int}(h1:1<=x)(h2:x<=4294967295)(hn:0<=n/\n<=70):∃ k:Nat,qR x n=some (n+k+1)/\k<=31/\(2:Int) ^ k<=x:=by
 unfold qR;by_cases h:65536<=x
 ·have hd:Int.fdiv x (2 ^ (min (Int.toNat (16:Int)) 64))=x / 65536:=by rw [show (2 ^ (min (Int.toNat (16:Int)) 64):Int)=65536 from by decide];exact aCj (by omega)
  obtain⟨k,e,h3,h4⟩:=aKI (x:=x / 65536) (n:=n+16) (by omega) (by omega) (by omega);refine⟨k+16,?_,by omega,?_⟩
  ·simp only [h,decide_true,cond_true];rw [aQ (by decide),hd,cZ (n:=n+16) (by omega) (by omega),e]
   congr 1;omega
  ·rw [Int.pow_add];have : (2:Int) ^ 16=65536:=by decide
   rw [this];omega
 ·obtain⟨k,e,h3,h4⟩:=aKI (x:=x) (n:=n) h1 (by omega) (by omega);exact⟨k,by simp only [h,decide_false,cond_false,e],by omega,h4⟩
theorem aJD {x:Int}(h1:1<=x)(h2:x<=9223372036854775807):∃ k:Nat,pZ x=some ((k:Int)+1)/\k<=63/\(2:Int) ^ k<=x:=by
 unfold pZ wI;by_cases h:4294967296<=x
 ·have hd:Int.fdiv x (2 ^ (min (Int.toNat (32:Int)) 64))=x / 4294967296:=by rw [show (2 ^ (min (Int.toNat (32:Int)) 64):Int)=4294967296 from by decide];exact aCj (by omega)
  obtain⟨k,e,h3,h4⟩:=aKn (x:=x / 4294967296) (n:=32) (by omega) (by omega) (by omega);refine⟨k+32,?_,by omega,?_⟩
  ·simp only [h,decide_true,cond_true];rw [aQ (by decide),hd,e];simp only [Option.bind_some]
   congr 1;omega
  ·rw [Int.pow_add];have : (2:Int) ^ 32=4294967296:=by decide
   rw [this];omega
 ·obtain⟨k,e,h3,h4⟩:=aKn (x:=x) (n:=0) h1 (by omega) (by omega);refine⟨k,?_,by omega,h4⟩;simp only [h,decide_false,cond_false,e,Option.bind_some]
  congr 1;omega
theorem aJI:bt aCo 0=0:=by decide +kernel
theorem aLy:pZ 0=some 0:=by
 have h3:sU 0 0=some 0:=by
  show (aU (0<=(u8.wrap 0)/\(u8.wrap 0)<((ByteArray.size aCo:Nat):Int)) <| some (i64.wrap (0+(i64.wrap (bt aCo (u8.wrap 0))))))=_;rw [aMj (by omega) (by omega),aQ (by rw [aEo]; omega),aJI,cZ (n:=0) (by omega) (by omega),cZ (by omega) (by omega)];rfl
 have h2:qU 0 0=some 0:=h3;have h1:qR 0 0=some 0:=h2;unfold pZ wI;have : decide ((4294967296:Int)<=0)=false:=by decide
 rw [this,cond_false,h1];rfl
theorem aLl {n:Nat}(h1:1<=n)(h2:n<2305843009213693951):∃ m:Int,oV (n:Int)=some m/\1<=m/\m<=2*n:=by
 unfold oV;rw [aAL (by omega) (by omega)];obtain⟨k,e,h3,h4⟩:=aJD (x:=(n:Int)) (by omega) (by omega);have hk:(2:Int) ^ (k+1)=2*2 ^ k:=by rw [Int.pow_succ];omega
 have hp:(1:Int)<=2 ^ k:=by
  have : (0:Int)<2 ^ k:=Int.pow_pos (by decide);omega
 rw [e];simp only [Option.bind_some];rw [aQ (by omega),show min (Int.toNat ((k:Int)+1)) 64=k+1 by omega,Int.one_mul,hk,aAL (by omega) (by omega)];exact⟨_,rfl,by omega,by omega⟩
theorem aNw (x:Int){m:Int}(h0:0<=m)(hm:m<=9223372036854775807):0<=cI .and .u64 x m/\cI .and .u64 x m<=m:=by
 have h1:(BitVec.ofInt IntKind.u64.bits x &&& BitVec.ofInt IntKind.u64.bits m).toNat<=m.toNat:=by
  rw [BitVec.toNat_and];refine Nat.le_trans Nat.and_le_right ?_;rw [BitVec.toNat_ofInt];have : IntKind.u64.bits=64:=rfl;rw [this];omega
 have h2:cI .and .u64 x m=((BitVec.ofInt IntKind.u64.bits x &&& BitVec.ofInt IntKind.u64.bits m).toNat:Int):=aAL (by omega) (by omega);rw [h2];omega
theorem aIM (r:Int):∃ x,pT r=some x:=by
 unfold pT;rw [aQ (by decide),aQ (by decide),aQ (by decide)];exact⟨_,rfl⟩
theorem aJF {lo i o:Nat}{d:List Int}(l r m:Int)(hi:i<d.length)(ho:lo+o<d.length)(hl:d.length<2305843009213693951) :
  iQ d (lo:Nat) l r m (i:Nat) (o:Nat)=some (.inl (swp d i (lo+o),r,((i+1:Nat):Int))):=by
 unfold iQ;rw [wrN (x:=(lo:Int)+(o:Int)) (n:=lo+o) (by omega) (by omega),wrN (n:=i+1) (by omega) (by omega)];simp only [Int.toNat_natCast];rw [aQ (asN (by omega)),aQ (asN (by omega)),aQ (asN (by omega)),aQ (asN (by omega))];rfl
end Go.Abs
end
