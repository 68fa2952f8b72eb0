/- What the law WindowSettles stands on: the framework, the given functions as plain functions, their walks, and the plain laws; part 5. -/
import Derived.Test.YteecjdpicjpnfabGreatWindowSettlesZ4
set_option linter.unusedSimpArgs false
set_option linter.unusedVariables false
namespace Go.Abs
open Go Go.RowKit Go.Proofs
theorem aAF (l0:(List aF))(iX:Int)(r:((List Int)×Int))(h0:yO l0 iX=some r):dB Tryz.prog 56 [(eL aE l0),(eI iX)] (.tup [(eL (eI) r.1),(eI r.2)]):=by
 intro H0;refine cY Tryz.func56 ?_;have hO:=aN.start H0;unfold yO at h0;refine aX aC 2 [] [] ?_;refine aP ?_;refine bX 0 ?_;refine aP ?_;refine aS aC 4 ?_;refine bH 1 ?_;obtain⟨x1,hx2,h0⟩:=aW h0;refine cW (xY l0 _ hx2) hO ?_;intro H hO;refine bA ?_;refine bP [] [(11,(aD (!x1)))] ?_;refine bL h0 (fun h0=>?_) (fun h0=>?_)
 ·refine bW aC 2 [(4,(.sl true 0 (fun _=>.bad))),(5,(eI 2))] ?_;refine bI ?_;refine dL (l:=[(4,(eL (eI) ([]))),(5,(eI 2))]) ⟨[(4,(.sl true 0 (fun _=>.bad))),(5,(eI 2))],by kernel_rfl,rfl,⟨eT,aR.refl _,trivial⟩⟩ ?_;obtain rfl:=oI h0;exact aG (bG (aT (Q_r hO)))
 refine aP ?_;refine aS aC 4 ?_;refine bH 1 ?_;obtain⟨x5,hx6,h0⟩:=aW h0;refine cW (AS l0 _ hx6) hO ?_;intro H hO;refine bA ?_;refine bP [11] [(15,(aD (!x5)))] ?_;refine bL h0 (fun h0=>?_) (fun h0=>?_)
 ·refine bW aC 2 [(4,(.sl true 0 (fun _=>.bad))),(5,(eI 20))] ?_;refine bI ?_;refine dL (l:=[(4,(eL (eI) ([]))),(5,(eI 20))]) ⟨[(4,(.sl true 0 (fun _=>.bad))),(5,(eI 20))],by kernel_rfl,rfl,⟨eT,aR.refl _,trivial⟩⟩ ?_;obtain rfl:=oI h0;exact aG (bG (aT (Q_r hO)))
 refine aX aC 7 [15] [(19,(aD ((decide (iX<(0:Int)))||(decide ((1125899906842624:Int)<iX)))))] ?_;refine bL h0 (fun h0=>?_) (fun h0=>?_)
 ·refine bW aC 2 [(4,(.sl true 0 (fun _=>.bad))),(5,(eI 13))] ?_;refine bI ?_;refine dL (l:=[(4,(eL (eI) ([]))),(5,(eI 13))]) ⟨[(4,(.sl true 0 (fun _=>.bad))),(5,(eI 13))],by kernel_rfl,rfl,⟨eT,aR.refl _,trivial⟩⟩ ?_;obtain rfl:=oI h0;exact aG (bG (aT (Q_r hO)))
 refine bW aC 3 [(0,(eL aE l0)),(1,(eI iX)),(26,(aD (decide (iX=(1125899906842624:Int)))))] ?_;refine bL h0 (fun h0=>?_) (fun h0=>?_)
 ·refine bW aC 2 [(4,(.sl true 0 (fun _=>.bad))),(5,(eI 0))] ?_;refine bI ?_;refine dL (l:=[(4,(eL (eI) ([]))),(5,(eI 0))]) ⟨[(4,(.sl true 0 (fun _=>.bad))),(5,(eI 0))],by kernel_rfl,rfl,⟨eT,aR.refl _,trivial⟩⟩ ?_;obtain rfl:=oI h0;exact aG (bG (aT (Q_r hO)))
 refine bM ?_;refine dP [(0,(eL aE l0)),(1,(eI iX))] ?_;refine aG (aV (aH (?_)));refine aP ?_;refine aS aC 5 ?_;refine VH (β:=Int) (eI) (t:=130) hO ?_;intro lm11 H hO;refine bH 2 ?_;refine OS (f:=(eI)) (mty:=130) iX (1:Int) hO ?_;intro H hO;refine bA ?_;refine bP [] [(6,(.mp lm11))] ?_;refine eH (fun T H=>∃ lJ:(List (Int×Int)),Has T [(6,(.mp lm11))]/\aN ⟨H0,[],(lm11,pV (eI) lJ)::[]⟩ H []/\xB lJ=some r) ?_ ?_
 ·clear hO h0;rintro T H ⟨lJ,hT,hO,h0⟩;refine bF hT ?_;clear hT;unfold xB at h0;refine aP ?_;refine aS aC 4 ?_;refine bH 1 ?_;refine NZ (mty:=130) hO ?_;obtain⟨c13,h0⟩:=bB h0;refine MH 1 8 (lN lJ) (by kernel_rfl) (by kernel_rfl) c13 hO ?_;intro lo14 H hO;refine bA ?_;refine bD [(6,(.mp lm11)),(9,(.msl 1 lo14 0 (List.length ([]:List Int))))] ?_;refine eH (fun T H=>∃ out9:List Int,∃ lo15:Nat,Has T [(9,(.msl 1 lo15 0 (List.length out9)))]/\aN ⟨H0,[],[]⟩ H [(lo15,1,List.map (eI) out9)]/\AX out9=some r) ?_ ?_
  ·clear hO h0;rintro T H ⟨out9,lo15,hT,hO,h0⟩;refine bF hT ?_;clear hT;unfold AX at h0;refine aP ?_;refine aS aC 2 ?_;refine bH 1 ?_;obtain⟨x16,hx17,h0⟩:=aW h0;refine zO [(lo15,1,List.map (eI) x16)] 0 (tK lo15 out9 _ hx17) hO ?_;intro H hO hl18;simp only [List.length_map] at hl18;refine dA ?_;refine dL (l:=[(9,(.msl 1 lo15 0 (List.length x16)))]) ⟨[(9,(.msl 1 lo15 0 (List.length out9)))],by kernel_rfl,rfl,⟨aR.eq (by simp [hl18]),trivial⟩⟩ ?_;refine aG (aH (?_));refine bW aC 3 [(4,(.msl 1 lo15 0 (List.length x16))),(5,(eI 0))] ?_;refine bI ?_;refine dP [(4,(.msl 1 lo15 0 (List.length x16))),(5,(eI 0))] ?_;refine sO (en:=(eI)) x16 0 0 4 1 lo15 (List.length x16) hO (by kernel_rfl) (by kernel_rfl) (by kernel_rfl) (L':=[]) (by kernel_rfl) ?_;intro H19 hO;obtain rfl:=oI h0;exact aG (Q_r hO)
  refine aP ?_;refine aS aC 2 ?_;refine bH 1 ?_;refine PD (mty:=130) hO ?_;intro li20 bs21 ck22 H hmb aFq hO;refine dA ?_;refine bP [6] [(50,(.lp li20 0 0))] ?_;refine bX 3 ?_;refine eC [(9,(.msl 1 lo14 0 (List.length ([]:List Int)))),(50,(.lp li20 0 0))] ?_;refine eD (fun T H=>∃ out9:List Int,∃ t50:(List (Int×Int)),∃ lo24:Nat,Has T [(9,(.msl 1 lo24 0 (List.length out9))),(50,(.lp li20 0 0))]/\aN ⟨H0,[],(li20,KQ li20 lm11 ck22 [])::(lm11,GV (eI) t50 bs21 ck22)::[]⟩ H [(lo24,1,List.map (eI) out9)]/\List.length bs21=List.length t50/\AF out9 t50=some r) ?_ ⟨([]:List Int),lJ,lo14,aZ,hO,hmb,h0⟩;clear hO hmb h0;rintro T H ⟨out9,t50,lo24,hT,hO,hmb,h0⟩;refine bF hT ?_;clear hT;unfold AF at h0;refine UH (by kernel_rfl) (fun (s:List Int) (seen:List Nat) T H=>∃ lo24:Nat,Has T [(9,(.msl 1 lo24 0 (List.length s))),(50,(.lp li20 0 0))]/\aN ⟨H0,[],(li20,KQ li20 lm11 ck22 seen)::(lm11,GV (eI) t50 bs21 ck22)::[]⟩ H [(lo24,1,List.map (eI) s)]) hmb h0 ⟨lo24,aZ,hO⟩ ?_;clear hO h0;rintro seen rem s T H ⟨lo24,hT,hO⟩ hleft hall;obtain⟨out9,rfl⟩:∃ x,x=s:=⟨_,rfl⟩;refine bF (l:=[(9,(.msl 1 lo24 0 (List.length out9))),(50,(.lp li20 0 0))]) hT ?_;clear hT;refine aP ?_;refine aS aC 2 ?_;refine TN hmb aFq hleft hall hO (fun h0=>?_) (fun mk mv bq rest out1 H h1 hlt hleft hall hat hO=>?_)
  ·clear hall hleft;replace h0:AJ t50 out9=some r:=h0;unfold AJ at h0;refine bA ?_;refine bP [] [(52,(aD false))] ?_;refine aP ?_;refine mX (false) (fun hc25=>?_) (fun hc25=>?_)
   ·cases hc25
   ·refine fP 3 ?_;replace hO:=hO.nV.nV;exact aG (aY (aY (bV (aH (⟨rfl,_,_,aZ,hO,h0⟩)))))
  replace h1:tN t50 out9 mk mv=some out1:=h1;unfold tN at h1;refine bA ?_;refine bP [] [(52,(aD true))] ?_;refine aP ?_;refine mX (true) (fun hc26=>?_) (fun hc26=>?_)
  ·refine bM ?_;refine bD [(9,(.msl 1 lo24 0 (List.length out9))),(50,(.lp li20 0 0))] ?_;refine bX 4 ?_;refine aP ?_;refine aS aC 3 ?_;refine QG hat hO ?_;refine bA ?_;refine bP [] [(10,(eI mk))] ?_;refine aS aC 5 ?_;refine bH 2 ?_;refine pW [(eI mk)] 1 ?_;obtain⟨c28,h1⟩:=bB h1;refine DB (eI) out9 ([mk]) 0 lo24 1 8 (eP [(eI mk)]) (fun lo27=>[(lo27,1,List.map (eI) (out9++([mk])))]) hO (by kernel_rfl) c28 ?_;intro lo27 H hO;refine bA ?_;obtain rfl:=oI h1;exact aG (aV (aH (⟨rfl,_,_,_,hlt,hleft,hall,lo27,aZ,hO⟩)))
  ·cases hc26
 refine aX aC 3 [0] [(32,(eL aE l0)),(33,(eI (lN l0))),(34,(eI 0))] ?_;refine bX 1 ?_;refine eC [(1,(eI iX)),(6,(.mp lm11)),(32,(eL aE l0)),(33,(eI (lN l0))),(34,(eI 0))] ?_;refine eD (fun T H=>∃ lJ:(List (Int×Int)),∃ t32:(List aF),∃ t33:Int,∃ t34:Int,Has T [(1,(eI iX)),(6,(.mp lm11)),(32,(eL aE t32)),(33,(eI t33)),(34,(eI t34))]/\aN ⟨H0,[],(lm11,pV (eI) lJ)::[]⟩ H []/\AV iX lJ t32 t33 t34=some r) ?_ ⟨fB ([]:(List (Int×Int))) iX (1:Int),l0,(lN l0),(0:Int),aZ,hO,h0⟩;clear hO h0;rintro T H ⟨lJ,t32,t33,t34,hT,hO,h0⟩;refine bF hT ?_;clear hT;unfold AV at h0;obtain⟨rr0,hl0,h0⟩:=aW h0;refine iM (fun (s:(List (Int×Int))×Int) T H=>Has T [(1,(eI iX)),(6,(.mp lm11)),(32,(eL aE t32)),(33,(eI t33)),(34,(eI s.2))]/\aN ⟨H0,[],(lm11,pV (eI) s.1)::[]⟩ H []) hl0 ⟨aZ,hO⟩ ?_;clear hO;rintro k0 s out1 T H ⟨hT,hO⟩ h1 ho0;obtain⟨lJ,t34⟩:=s;replace h1:pJ iX t32 t33 lJ t34=some out1:=h1
 try dsimp only at hT
 refine bF hT ?_;clear hT;unfold pJ at h1;refine aX aC 1 [] [(35,(aD (decide (t34<t33))))] ?_;refine aP ?_;refine bL h1 (fun h1=>?_) (fun h1=>?_)
 ·refine bM ?_;refine bD [(1,(eI iX)),(6,(.mp lm11)),(32,(eL aE t32)),(33,(eI t33)),(34,(eI t34))] ?_;refine eH (fun T H=>∃ lJ:(List (Int×Int)),Has T [(1,(eI iX)),(6,(.mp lm11)),(32,(eL aE t32)),(33,(eI t33)),(34,(eI t34))]/\aN ⟨H0,[],(lm11,pV (eI) lJ)::[]⟩ H []/\tH iX lJ t32 t33 t34=some out1) ?_ ?_
  ·clear hO h1;rintro T H ⟨lJ,hT,hO,h1⟩;refine bF hT ?_;clear hT;unfold tH at h1;refine aS aC 2 ?_;refine bA ?_;exact aG (aH (⟨rfl,_,(oI h1).symm,aZ,hO⟩))
  refine bX 2 ?_;refine aP ?_;refine aS aC 4 ?_;obtain⟨c30,h1⟩:=bB h1;refine rR 2 [0<=t34/\t34<(lN t32)] ⟨c30,trivial⟩ ?_;refine nU 3 (.agg [(.sl true 0 (fun _=>.bad)),(eI 0),(eI 0)]) (aE (aF.mk ([]) 0 0)) (by kernel_rfl) (by kernel_rfl) (by kernel_rfl) (xO (xs:=[(.sl true 0 (fun _=>.bad)),(eI 0),(eI 0)]) (ys:=[(eL aJ ([])),(eI 0),(eI 0)]) ⟨eT,aR.refl _,aR.refl _,trivial⟩) (by kernel_rfl) (by kernel_rfl) hO ?_;intro lo31 H hO;refine gL 0 lo31 3 0 (aE (aF.mk ([]) 0 0)) (aE (gD t32 t34)) [(aE (aF.mk ([]) 0 0))] [(lo31,3,[(aE (gD t32 t34))])] hO rfl (by kernel_rfl) ?_;intro H hO;refine dA ?_;refine bP [] [(8,(.lp lo31 0 0))] ?_;refine aP ?_;refine aS aC 4 ?_;refine bH 1 ?_;refine iG 0 lo31 3 0 (aE (gD t32 t34)) (eI ((gD t32 t34).At)) [(aE (gD t32 t34))] hO rfl ?_;refine bA ?_;refine bP [] [(41,(aD (decide (iX<((gD t32 t34).At)))))] ?_;refine bL h1 (fun h1=>?_) (fun h1=>?_)
  ·refine aS aC 4 ?_;refine bH 2 ?_;refine iG 0 lo31 3 0 (aE (gD t32 t34)) (eI ((gD t32 t34).At)) [(aE (gD t32 t34))] hO rfl ?_;refine OS (f:=(eI)) (mty:=130) ((gD t32 t34).At) (1:Int) hO ?_;intro H hO;refine dA ?_;replace hO:=hO.pick (L':=[]) [] (by decide) (by kernel_rfl);exact aG (aV (aH (⟨rfl,_,aZ,hO,h1⟩)))
  refine bM ?_;replace hO:=hO.pick (L':=[]) [] (by decide) (by kernel_rfl);exact aG (aV (aH (⟨rfl,_,aZ,hO,h1⟩)))
 refine fP 1 ?_;obtain rfl:=oI h1;obtain rfl:_=rr0:=ho0;replace h0:xB lJ=some r:=h0;exact aG (aY (aY (bV (aH (⟨rfl,_,aZ,hO,h0⟩)))))

theorem SS (t0:Int)(t1:(List cC))(r:(List bC))(h0:tC t0 t1=some r):dB Tryz.prog 57 [(eI t0),(.rp (eL cD t1))] (eL bK r):=by
 intro H0;refine cY Tryz.func57 ?_;have hO:=aN.start H0;unfold tC at h0;refine aX aC 1 [] [] ?_;refine aP ?_;refine aS aC 2 ?_;refine pW [] 2 ?_;refine bA ?_;refine bP [] [(4,(.sl true 0 (fun _=>.bad)))] ?_;refine eH (fun T H=>∃ out4:List bC,∃ lo1:Nat,Has T [(4,(.msl 2 lo1 0 (List.length out4)))]/\aN ⟨H0,[],[]⟩ H [(lo1,2,List.map bK out4)]/\wQ out4=some r) ?_ ?_
 ·clear hO h0;rintro T H ⟨out4,lo1,hT,hO,h0⟩;refine bF hT ?_;clear hT;unfold wQ at h0;refine bW aC 2 [(3,(.msl 2 lo1 0 (List.length out4)))] ?_;refine bI ?_;refine dP [(3,(.msl 2 lo1 0 (List.length out4)))] ?_;refine sO (en:=bK) out4 0 0 3 2 lo1 (List.length out4) hO (by kernel_rfl) (by kernel_rfl) (by kernel_rfl) (L':=[]) (by kernel_rfl) ?_;intro H2 hO;obtain rfl:=oI h0;exact aG (Q_r hO)
 refine aX aC 3 [1] [(9,(eL cD t1)),(10,(eI (lN t1))),(11,(eI 0))] ?_;refine bX 0 ?_;refine eC [(0,(eI t0)),(4,(.sl true 0 (fun _=>.bad))),(9,(eL cD t1)),(10,(eI (lN t1))),(11,(eI 0))] ?_;refine HK (el:=(fun _=>.bad)) 1 4 2 hO (by kernel_rfl) ?_;intro lo21 H22 hO;refine eD (fun T H=>∃ out4:List bC,∃ t9:(List cC),∃ t10:Int,∃ t11:Int,∃ lo4:Nat,Has T [(0,(eI t0)),(4,(.msl 2 lo4 0 (List.length out4))),(9,(eL cD t9)),(10,(eI t10)),(11,(eI t11))]/\aN ⟨H0,[],[]⟩ H [(lo4,2,List.map bK out4)]/\wF t0 out4 t9 t10 t11=some r) ?_ ⟨([]:List bC),t1,(lN t1),(0:Int),lo21,aZ,hO,h0⟩;clear hO h0;rintro T H ⟨out4,t9,t10,t11,lo4,hT,hO,h0⟩;refine bF hT ?_;clear hT;unfold wF at h0;obtain⟨rr0,hl0,h0⟩:=aW h0;refine iM (fun (s:List bC×Int) T H=>∃ lo4:Nat,Has T [(0,(eI t0)),(4,(.msl 2 lo4 0 (List.length s.1))),(9,(eL cD t9)),(10,(eI t10)),(11,(eI s.2))]/\aN ⟨H0,[],[]⟩ H [(lo4,2,List.map bK s.1)]) hl0 ⟨lo4,aZ,hO⟩ ?_;clear hO;rintro k0 s out1 T H ⟨lo4,hT,hO⟩ h1 ho0;obtain⟨out4,t11⟩:=s;replace h1:nQ t0 t9 t10 out4 t11=some out1:=h1
 try dsimp only at hT
 refine bF hT ?_;clear hT;unfold nQ at h1;refine aX aC 1 [] [(12,(aD (decide (t11<t10))))] ?_;refine aP ?_;refine bL h1 (fun h1=>?_) (fun h1=>?_)
 ·refine bM ?_;refine bD [(0,(eI t0)),(4,(.msl 2 lo4 0 (List.length out4))),(9,(eL cD t9)),(10,(eI t10)),(11,(eI t11))] ?_;refine eH (fun T H=>∃ out4:List bC,∃ lo6:Nat,Has T [(0,(eI t0)),(4,(.msl 2 lo6 0 (List.length out4))),(9,(eL cD t9)),(10,(eI t10)),(11,(eI t11))]/\aN ⟨H0,[],[]⟩ H [(lo6,2,List.map bK out4)]/\pO t0 out4 t9 t10 t11=some out1) ?_ ?_
  ·clear hO h1;rintro T H ⟨out4,lo6,hT,hO,h1⟩;refine bF hT ?_;clear hT;unfold pO at h1;refine aS aC 2 ?_;refine bA ?_;exact aG (aH (⟨rfl,_,(oI h1).symm,_,aZ,hO⟩))
  refine bX 1 ?_;refine aP ?_;refine aS aC 4 ?_;obtain⟨c7,h1⟩:=bB h1;refine rR 2 [0<=t11/\t11<(lN t9)] ⟨c7,trivial⟩ ?_;refine nU 2 (.agg [(.sl true 0 (fun _=>.bad)),(.sl true 0 (fun _=>.bad))]) (cD (cC.mk ([]) ([]))) (by kernel_rfl) (by kernel_rfl) (by kernel_rfl) (xO (xs:=[(.sl true 0 (fun _=>.bad)),(.sl true 0 (fun _=>.bad))]) (ys:=[(eL aJ ([])),(eL aL ([]))]) ⟨eT,eT,trivial⟩) (by kernel_rfl) (by kernel_rfl) hO ?_;intro lo8 H hO;refine gL 1 lo8 2 0 (cD (cC.mk ([]) ([]))) (cD (gD t9 t11)) [(cD (cC.mk ([]) ([])))] [(lo4,2,List.map bK out4),(lo8,2,[(cD (gD t9 t11))])] hO rfl (by kernel_rfl) ?_;intro H hO;refine dA ?_;refine bP [] [(6,(.lp lo8 0 0))] ?_;refine aP ?_;refine aS aC 5 ?_;refine bH 1 ?_;refine iG 1 lo8 2 0 (cD (gD t9 t11)) (eL aL ((gD t9 t11).jumps)) [(cD (gD t9 t11))] hO rfl ?_;refine bH 3 ?_;obtain⟨x9,hx10,h1⟩:=aW h1;refine cW (UJ ((gD t9 t11).jumps) t0 _ hx10) hO ?_;intro H hO;refine bA ?_;refine bP [] [(7,(eI x9))] ?_;refine aX aC 2 [] [(20,(aD (decide ((0:Int)<x9))))] ?_;refine bL h1 (fun h1=>?_) (fun h1=>?_)
  ·refine aS aC 9 ?_;refine bH 2 ?_;refine iG 1 lo8 2 0 (cD (gD t9 t11)) (eL aJ ((gD t9 t11).row)) [(cD (gD t9 t11))] hO rfl ?_;obtain⟨x16,hx17,h1⟩:=aW h1;refine aBe (L':=fun lo18=>[(lo4,2,List.map bK out4),(lo8,2,[(cD (gD t9 t11))]),(lo18,3,List.map aJ x16)]) 3 (List.map aJ x16) 59 [(eL aJ ((gD t9 t11).row))] (fun lo18=>(.msl 3 lo18 0 (List.length x16))) (by kernel_rfl) (by kernel_rfl) (rH ((gD t9 t11).row) _ hx17) hO (fun _=>by kernel_rfl) ?_;intro lo18 H hO;refine bH 5 ?_;refine KJ (e:=aJ) x16 2 24 3 lo18 (List.length x16) [(lo4,2,List.map bK out4),(lo8,2,[(cD (gD t9 t11))])] (by kernel_rfl) hO (by kernel_rfl) (by kernel_rfl) (by kernel_rfl) (by kernel_rfl) ?_;intro H hO;refine bH 6 ?_;refine pW [(bK (bC.mk x16 x9))] 2 ?_;obtain⟨c20,h1⟩:=bB h1;refine DB bK out4 ([bC.mk x16 x9]) 0 lo4 2 32 (eP [(bK (bC.mk x16 x9))]) (fun lo19=>[(lo19,2,List.map bK (out4++([bC.mk x16 x9]))),(lo8,2,[(cD (gD t9 t11))])]) hO (by kernel_rfl) c20 ?_;intro lo19 H hO;refine bA ?_;replace hO:=hO.pick (L':=[(lo19,2,List.map bK (out4++([bC.mk x16 x9])))]) [0] (by decide) (by kernel_rfl);exact aG (aV (aH (⟨rfl,_,_,aZ,hO,h1⟩)))
  refine bM ?_;replace hO:=hO.pick (L':=[(lo4,2,List.map bK out4)]) [0] (by decide) (by kernel_rfl);exact aG (aV (aH (⟨rfl,_,_,aZ,hO,h1⟩)))
 refine fP 0 ?_;obtain rfl:=oI h1;obtain rfl:_=rr0:=ho0;replace h0:wQ out4=some r:=h0;exact aG (aY (aY (bV (aH (⟨rfl,_,_,aZ,hO,h0⟩)))))

theorem ZU (l0:(List aF))(iX:Int)(r:((List aK)×Int))(h0:xF l0 iX=some r):dB Tryz.prog 29 [(eL aE l0),(eI iX)] (.tup [(eL aO r.1),(eI r.2)]):=by
 intro H0;refine AA aC Tryz.func29 (by kernel_rfl) (by kernel_rfl) (by kernel_rfl) ?_;have hO:=aN.start H0;unfold xF at h0;refine aX aC 2 [] [] ?_;refine aP ?_;refine aS aC 8 ?_;refine bH 2 ?_;obtain⟨x1,hx2,h0⟩:=aW h0;refine cW (aAF l0 iX _ hx2) hO ?_;intro H hO;refine bA ?_;refine bP [1] [(6,(eL (eI) x1.1)),(7,(eI x1.2))] ?_;refine aP ?_;refine aX aC 2 [] [(24,(aD (!decide (x1.2=(0:Int)))))] ?_;refine bL h0 (fun h0=>?_) (fun h0=>?_)
 ·refine bW aC 3 [(4,(.sl true 0 (fun _=>.bad))),(5,(eI x1.2))] ?_;refine bI ?_;refine dL (l:=[(4,(eL aO ([]))),(5,(eI x1.2))]) ⟨[(4,(.sl true 0 (fun _=>.bad))),(5,(eI x1.2))],by kernel_rfl,rfl,⟨eT,aR.refl _,trivial⟩⟩ ?_;obtain rfl:=oI h0;exact aG (aT (QM0 (.inr rfl) (rs:=[.tmp 4,.tmp 5]) (xs:=[(eL aO ([])),(eI x1.2)]) (x:=(.tup [(eL aO ([])),(eI x1.2)])) (by kernel_rfl) (EP (x:=(eL aO ([]))) (by kernel_rfl) (EP (x:=(eI x1.2)) (by kernel_rfl) nD)) (by kernel_rfl) ⟨rfl,hO.out⟩))
 refine bM ?_;refine bD [(0,(eL aE l0)),(6,(eL (eI) x1.1))] ?_;refine aP ?_;refine aS aC 3 ?_;refine pW [] 2 ?_;refine nU 1 (.sl true 0 (fun _=>.bad)) (eL cD ([])) (by kernel_rfl) (by kernel_rfl) (by kernel_rfl) (eT) (by kernel_rfl) (by kernel_rfl) hO ?_;intro lo5 H hO;refine XQ 26 2 (fun _=>.bad) (by kernel_rfl) hO (by kernel_rfl) ?_;intro lo6 H hO;refine gL 0 lo5 1 0 (eL cD ([])) (.msl 2 lo6 0 (List.length ([]:List cC))) [(eL cD ([]))] [(lo5,1,[(.msl 2 lo6 0 (List.length ([]:List cC)))]),(lo6,2,List.map cD ([]:List cC))] hO rfl (by kernel_rfl) ?_;intro H hO;refine dA ?_;refine bP [] [(8,(.lp lo5 0 0))] ?_;refine aP ?_;refine aP ?_;refine aS aC 2 ?_;refine bH 1 ?_;obtain⟨x7,hx8,h0⟩:=aW h0;refine cW (JO l0 _ hx8) hO ?_;intro H hO;refine dA ?_;refine bP [0] [(28,(.fn (.func 84) [] [(.rp (eL aE x7))]))] ?_;refine bX 0 ?_;refine eC [(6,(eL (eI) x1.1)),(8,(.lp lo5 0 0)),(28,(.fn (.func 84) [] [(.rp (eL aE x7))]))] ?_;refine eD (fun T H=>∃ eS:(List Int),∃ all8:List cC,∃ xX:(List aF),∃ lo9:Nat,Has T [(6,(eL (eI) eS)),(8,(.lp lo5 0 0)),(28,(.fn (.func 84) [] [(.rp (eL aE xX))]))]/\aN ⟨H0,[],[]⟩ H [(lo5,1,[(.msl 2 lo9 0 (List.length all8))]),(lo9,2,List.map cD all8)]/\zH eS all8 xX=some r) ?_ ⟨x1.1,([]:List cC),x7,lo6,aZ,hO,h0⟩;clear hO h0;rintro T H ⟨eS,all8,xX,lo9,hT,hO,h0⟩;refine bF (l:=[(6,(eL (eI) eS)),(8,(.lp lo5 0 0)),(28,(.fn (.func 84) [] [(.rp (eL aE xX))]))]) hT ?_;clear hT;unfold zH at h0;obtain⟨o0,hl0,h0⟩:=aW h0;refine xR (fid:=84) (ys:=[]) (cs:=[(.rp (eL aE xX))]) #[29,30] (fun (A:sP) (b lL:Nat) (st:(List cC)⊕(List cC)) (G':Gs)=>Sum.elim (fun (s:List cC)=>∃ lo9:Nat,G'=(lL,.raw (gQ b A .ready none))::(up [(lo5,1,[(.msl 2 lo9 0 (List.length s))]),(lo9,2,List.map cD s)]++[])) (fun (s:List cC)=>False) st) (.inl all8) o0 (.tup []) (by kernel_rfl) (by kernel_rfl) (by kernel_rfl) hO (fun _ _=>⟨lo9,rfl⟩) ?_ ?_
 ·intro b lL;clear hO h0;refine DF _ b (fun st t29 t30=>rnd (fun (s:List cC)=>oD eS xX s t29 t30) st) ?_ xX _ _ hl0;intro st t29 t30 out1 rr hr;obtain⟨s,rfl,h1,rfl⟩:=HX hr;clear hr;intro Hr Gr hi hg;obtain⟨all8,rfl⟩:∃ x,x=s:=⟨_,rfl⟩;dsimp only [Sum.elim_inl] at hi;obtain⟨lo9,rfl⟩:=hi;replace h1:oD eS xX all8 t29 t30=some out1:=h1;unfold oD at h1;obtain⟨E1,hE,hO⟩:=oU hg;refine oW (uS (hO.gm 0 _ rfl).2 (by kernel_rfl) (by kernel_rfl) ?_);refine eC [(6,(eL (eI) eS)),(8,(.lp lo5 0 0)),(28,(.fn (.func 84) [] [(.rp (eL aE xX))])),(29,(eL aJ t29)),(30,(eL aL t30))] ?_;refine aX aC 1 [6,28,29] [(9,(eL aJ t29))] ?_;refine aS aC 1 ?_;refine bA ?_;refine dP [(8,(.lp lo5 0 0)),(9,(eL aJ t29)),(10,(eL aL t30))] ?_;refine aG (⟨rfl,rfl,(hO.gm 0 _ rfl).2,?_⟩);intro o1 ho1;replace hO:=hO.nM o1;refine bX 1 ?_;refine aS aC 7 ?_;refine iG 0 lo5 1 0 (.msl 2 lo9 0 (List.length all8)) (.msl 2 lo9 0 (List.length all8)) [(.msl 2 lo9 0 (List.length all8))] hO rfl ?_;refine bH 4 ?_;refine pW [(cD (cC.mk t29 t30))] 2 ?_;obtain⟨c11,h1⟩:=bB h1;refine DB cD all8 ([cC.mk t29 t30]) 1 lo9 2 48 (eP [(cD (cC.mk t29 t30))]) (fun lo10=>[(lo5,1,[(.msl 2 lo9 0 (List.length all8))]),(lo10,2,List.map cD (all8++([cC.mk t29 t30])))]) hO (by kernel_rfl) c11 ?_;intro lo10 H hO;refine gL 0 lo5 1 0 (.msl 2 lo9 0 (List.length all8)) (.msl 2 lo10 0 (List.length (all8++([cC.mk t29 t30])))) [(.msl 2 lo9 0 (List.length all8))] [(lo5,1,[(.msl 2 lo10 0 (List.length (all8++([cC.mk t29 t30]))))]),(lo10,2,List.map cD (all8++([cC.mk t29 t30])))] hO rfl (by kernel_rfl) ?_;intro H hO;refine dA ?_;refine dP [(8,(.lp lo5 0 0))] ?_;obtain rfl:=oI h1;exact aG (aV (⟨(dG hO hE ho1 .dead).1,rfl,_,⟨lo10,rfl⟩,(dG hO hE ho1 _).2⟩))
 ·intro b lD12 lL H' G' hi hO;rcases o0 with s | s
  ·dsimp only [Sum.elim_inl] at hi;obtain⟨lo9,rfl⟩:=hi;replace h0:(vP eS s ([]:List aK) eS (lN eS) (0:Int))=some r:=h0;obtain⟨hlL,hO⟩:=mH hO;refine⟨_,_,hlL,(by intro e; cases e),?_⟩;refine dP [(6,(eL (eI) eS)),(8,(.lp lo5 0 0))] ?_;refine aG (aV (aH (?_)));refine aP ?_;refine PK (e:=cD) s 0 1 1 2 lo5 lo9 (List.length s) [(lo5,1,[(eL cD s)])] hO (by kernel_rfl) (by kernel_rfl) (by kernel_rfl) (.inr (by decide)) (by kernel_rfl) ?_;intro H hO;refine eC [(6,(eL (eI) eS)),(8,(.lp lo5 0 0))] ?_;refine LW 1 0 8 1 lo5 (eL cD s) [] hO (by kernel_rfl) (by kernel_rfl) (by kernel_rfl) ?_;intro H hO;refine aS aC 2 ?_;refine bA ?_;refine bP [8] [(11,(.fn (.func 57) [] [(.rp (eL cD s))]))] ?_;refine aP ?_;refine aS aC 2 ?_;refine pW [] 3 ?_;refine bA ?_;refine bP [] [(12,(.sl true 0 (fun _=>.bad)))] ?_;refine eH (fun T H=>∃ eN:List aK,∃ lo13:Nat,Has T [(12,(.msl 3 lo13 0 (List.length eN)))]/\aN ⟨H0,[],(lD12,.raw pG)::[]⟩ H [(lo13,3,List.map aO eN)]/\zD eN=some r) ?_ ?_
   ·clear hO h0;rintro T H ⟨eN,lo13,hT,hO,h0⟩;refine bF hT ?_;clear hT;unfold zD at h0;refine bW aC 3 [(4,(.msl 3 lo13 0 (List.length eN))),(5,(eI 0))] ?_;refine bI ?_;refine dP [(4,(.msl 3 lo13 0 (List.length eN))),(5,(eI 0))] ?_;refine sO (en:=aO) eN 0 0 4 3 lo13 (List.length eN) hO (by kernel_rfl) (by kernel_rfl) (by kernel_rfl) (L':=[]) (by kernel_rfl) ?_;intro H14 hO;obtain rfl:=oI h0;have hD:=(hO.gm 0 _ rfl).2;replace hO:=(hO.nM .dead).nV;exact aG (QM1 (.inr rfl) hD (rs:=[.tmp 4,.tmp 5]) (xs:=[(eL aO eN),(eI 0)]) (x:=(.tup [(eL aO eN),(eI 0)])) (by kernel_rfl) (EP (x:=(eL aO eN)) (by kernel_rfl) (EP (x:=(eI 0)) (by kernel_rfl) nD)) (by kernel_rfl) ⟨rfl,hO.out⟩)
   refine aX aC 3 [] [(39,(eL (eI) eS)),(40,(eI (lN eS))),(41,(eI 0))] ?_;refine bX 2 ?_;refine eC [(6,(eL (eI) eS)),(11,(.fn (.func 57) [] [(.rp (eL cD s))])),(12,(.sl true 0 (fun _=>.bad))),(39,(eL (eI) eS)),(40,(eI (lN eS))),(41,(eI 0))] ?_;refine HK (el:=(fun _=>.bad)) 2 12 3 hO (by kernel_rfl) ?_;intro lo30 H31 hO;refine eD (fun T H=>∃ gP:(List cC),∃ eN:List aK,∃ t39:(List Int),∃ t40:Int,∃ t41:Int,∃ lo16:Nat,Has T [(6,(eL (eI) eS)),(11,(.fn (.func 57) [] [(.rp (eL cD gP))])),(12,(.msl 3 lo16 0 (List.length eN))),(39,(eL (eI) t39)),(40,(eI t40)),(41,(eI t41))]/\aN ⟨H0,[],(lD12,.raw pG)::[]⟩ H [(lo16,3,List.map aO eN)]/\vP eS gP eN t39 t40 t41=some r) ?_ ⟨s,([]:List aK),eS,(lN eS),(0:Int),lo30,aZ,hO,h0⟩;clear hO h0;rintro T H ⟨gP,eN,t39,t40,t41,lo16,hT,hO,h0⟩;refine bF hT ?_;clear hT;unfold vP at h0;obtain⟨rr0,hl0,h0⟩:=aW h0;refine iM (fun (s:List aK×Int) T H=>∃ lo16:Nat,Has T [(6,(eL (eI) eS)),(11,(.fn (.func 57) [] [(.rp (eL cD gP))])),(12,(.msl 3 lo16 0 (List.length s.1))),(39,(eL (eI) t39)),(40,(eI t40)),(41,(eI s.2))]/\aN ⟨H0,[],(lD12,.raw pG)::[]⟩ H [(lo16,3,List.map aO s.1)]) hl0 ⟨lo16,aZ,hO⟩ ?_;clear hO;rintro k0 s out1 T H ⟨lo16,hT,hO⟩ h1 ho0;obtain⟨eN,t41⟩:=s;replace h1:oG eS gP t39 t40 eN t41=some out1:=h1
   try dsimp only at hT
   refine bF hT ?_;clear hT;unfold oG at h1;refine aX aC 1 [] [(42,(aD (decide (t41<t40))))] ?_;refine aP ?_;refine bL h1 (fun h1=>?_) (fun h1=>?_)
   ·refine bM ?_;refine bD [(6,(eL (eI) eS)),(11,(.fn (.func 57) [] [(.rp (eL cD gP))])),(12,(.msl 3 lo16 0 (List.length eN))),(39,(eL (eI) t39)),(40,(eI t40)),(41,(eI t41))] ?_;refine eH (fun T H=>∃ eN:List aK,∃ lo18:Nat,Has T [(6,(eL (eI) eS)),(11,(.fn (.func 57) [] [(.rp (eL cD gP))])),(12,(.msl 3 lo18 0 (List.length eN))),(39,(eL (eI) t39)),(40,(eI t40)),(41,(eI t41))]/\aN ⟨H0,[],(lD12,.raw pG)::[]⟩ H [(lo18,3,List.map aO eN)]/\vE eS gP eN t39 t40 t41=some out1) ?_ ?_
    ·clear hO h1;rintro T H ⟨eN,lo18,hT,hO,h1⟩;refine bF hT ?_;clear hT;unfold vE at h1;refine aS aC 2 ?_;refine bA ?_;exact aG (aH (⟨rfl,_,(oI h1).symm,_,aZ,hO⟩))
    refine bX 3 ?_;refine aP ?_;refine aS aC 5 ?_;obtain⟨c19,h1⟩:=bB h1;refine qZ [0<=t41/\t41<(lN t39)] ⟨c19,trivial⟩ ?_;refine bP [] [(13,(eI t41)),(14,(eI (gD t39 t41)))] ?_;refine aP ?_;refine aS aC 4 ?_;refine bH 2 ?_;obtain⟨x20,hx21,h1⟩:=aW h1;refine cW (SS (gD t39 t41) gP _ hx21) hO ?_;intro H hO;refine bA ?_;refine bP [] [(15,(eL bK x20))] ?_;refine aP ?_;refine aX aC 3 [] [(51,(aD (decide ((lN x20)=(0:Int)))))] ?_;refine bL h1 (fun h1=>?_) (fun h1=>?_)
    ·refine fP 3 ?_;exact aG (aY (bV (aH (⟨rfl,_,_,aZ,hO,h1⟩))))
    refine bM ?_;refine bD [(6,(eL (eI) eS)),(11,(.fn (.func 57) [] [(.rp (eL cD gP))])),(12,(.msl 3 lo16 0 (List.length eN))),(13,(eI t41)),(14,(eI (gD t39 t41))),(15,(eL bK x20)),(39,(eL (eI) t39)),(40,(eI t40)),(41,(eI t41))] ?_;refine aP ?_;refine aX aC 3 [] [(54,(aD (decide ((lN eN)=(1024:Int)))))] ?_;refine bL h1 (fun h1=>?_) (fun h1=>?_)
    ·refine aP ?_;refine aS aC 2 ?_;refine bA ?_;refine dP [(4,(.sl true 0 (fun _=>.bad))),(5,(eI 7))] ?_;replace hO:=hO.pick (L':=[]) [] (by decide) (by kernel_rfl);refine aG (aH (?_));refine bI ?_;refine dL (l:=[(4,(eL aO ([]))),(5,(eI 7))]) ⟨[(4,(.sl true 0 (fun _=>.bad))),(5,(eI 7))],by kernel_rfl,rfl,⟨eT,aR.refl _,trivial⟩⟩ ?_;obtain rfl:=oI h1;obtain rfl:_=rr0:=ho0;replace h0:some ([],(7:Int))=some r:=h0;obtain rfl:=oI h0;have hD:=(hO.gm 0 _ rfl).2;replace hO:=(hO.nM .dead).nV;exact aG (aT (bG (aT (aT (bG (aT (QM1 (.inr rfl) hD (rs:=[.tmp 4,.tmp 5]) (xs:=[(eL aO ([])),(eI 7)]) (x:=(.tup [(eL aO ([])),(eI 7)])) (by kernel_rfl) (EP (x:=(eL aO ([]))) (by kernel_rfl) (EP (x:=(eI 7)) (by kernel_rfl) nD)) (by kernel_rfl) ⟨rfl,hO.out⟩)))))))
    refine bM ?_;refine bD [(6,(eL (eI) eS)),(11,(.fn (.func 57) [] [(.rp (eL cD gP))])),(12,(.msl 3 lo16 0 (List.length eN))),(13,(eI t41)),(14,(eI (gD t39 t41))),(15,(eL bK x20)),(39,(eL (eI) t39)),(40,(eI t40)),(41,(eI t41))] ?_;refine aX aC 1 [] [(16,(eI 1125899906842624))] ?_;refine eH (fun T H=>∃ eN:List aK,∃ t14:Int,∃ tS:(List bC),∃ AM:Int,∃ lo25:Nat,Has T [(6,(eL (eI) eS)),(11,(.fn (.func 57) [] [(.rp (eL cD gP))])),(12,(.msl 3 lo25 0 (List.length eN))),(14,(eI t14)),(15,(eL bK tS)),(16,(eI AM)),(39,(eL (eI) t39)),(40,(eI t40)),(41,(eI t41))]/\aN ⟨H0,[],(lD12,.raw pG)::[]⟩ H [(lo25,3,List.map aO eN)]/\vT eS gP eN t14 tS AM t39 t40 t41=some out1) ?_ ?_
    ·clear hO h1;rintro T H ⟨eN,t14,tS,AM,lo25,hT,hO,h1⟩;refine bF hT ?_;clear hT;unfold vT at h1;refine aS aC 9 ?_;refine bH 6 ?_;refine pW [(aO (aK.mk (bJ.mk t14 AM) tS))] 3 ?_;obtain⟨c27,h1⟩:=bB h1;refine DB aO eN ([aK.mk (bJ.mk t14 AM) tS]) 0 lo25 3 40 (eP [(aO (aK.mk (bJ.mk t14 AM) tS))]) (fun lo26=>[(lo26,3,List.map aO (eN++([aK.mk (bJ.mk t14 AM) tS])))]) hO (by kernel_rfl) c27 ?_;intro lo26 H hO;refine bA ?_;exact aG (aV (aH (⟨rfl,_,_,aZ,hO,h1⟩)))
    refine aX aC 5 [] [(59,(aD (decide ((wR (t41+(1:Int)))<(lN eS)))))] ?_;refine bL h1 (fun h1=>?_) (fun h1=>?_)
    ·refine aS aC 6 ?_;obtain⟨c29,h1⟩:=bB h1;refine qZ [0<=(wR (t41+(1:Int)))/\(wR (t41+(1:Int)))<(lN eS)] ⟨c29,trivial⟩ ?_;exact aG (aH (⟨rfl,_,_,_,_,_,aZ,hO,h1⟩))
    refine bM ?_;exact aG (aH (⟨rfl,_,_,_,_,_,aZ,hO,h1⟩))
   refine fP 2 ?_;obtain rfl:=oI h1;obtain rfl:_=rr0:=ho0;replace h0:zD eN=some r:=h0;exact aG (aY (aY (bV (aH (⟨rfl,_,_,aZ,hO,h0⟩)))))
  ·exact hi.elim

end Go.Abs
namespace Go.Abs
open Go Go.RowKit Go.Proofs
theorem BU (w0:bY)(l1:(List aF))(nT:Int)(t3:Int)(r:((List aK)×Int))(h0:oN w0 l1 nT t3=some r):dB Tryz.prog 12 [(cQ w0),(eL aE l1),(eI nT),(eI t3)] (.tup [(eL aO r.1),(eI r.2)]):=by
 intro H0;refine cY Tryz.func12 ?_;have hO:=aN.start H0;unfold oN at h0;refine aP ?_;refine aS aC 3 ?_;refine kW 3 (cQ w0) ?_;refine bA ?_;refine bP [0] [(4,(.rp (cQ w0)))] ?_;refine aP ?_;refine aP ?_;refine aS aC 5 ?_;refine bH 3 ?_;obtain⟨x1,hx2,h0⟩:=aW h0;refine cW (HF w0 l1 t3 _ hx2) hO ?_;intro H hO;refine bA ?_;refine bP [] [(10,(eI x1))] ?_;refine aX aC 2 [] [(16,(aD (!decide (x1=(0:Int)))))] ?_;refine bL h0 (fun h0=>?_) (fun h0=>?_)
 ·refine bW aC 3 [(8,(.sl true 0 (fun _=>.bad))),(9,(eI x1))] ?_;refine bI ?_;refine dL (l:=[(8,(eL aO ([]))),(9,(eI x1))]) ⟨[(8,(.sl true 0 (fun _=>.bad))),(9,(eI x1))],by kernel_rfl,rfl,⟨eT,aR.refl _,trivial⟩⟩ ?_;obtain rfl:=oI h0;exact aG (aT (Q_r hO))
 refine bM ?_;refine bD [(1,(eL aE l1)),(2,(eI nT)),(3,(eI t3)),(4,(.rp (cQ w0)))] ?_;refine aP ?_;refine aX aC 2 [] [(19,(eI w0.Kind))] ?_;refine bX 0 ?_;refine aX aC 2 [] [(20,(aD (decide (w0.Kind=(2:Int)))))] ?_;refine bL h0 (fun h0=>?_) (fun h0=>?_)
 ·refine aP ?_;refine fS (fQ [24,26,30,31]) aC 14 ?_;refine kJ 8 ?_;obtain⟨x6,hx7,h0⟩:=aW h0;refine BQ (SI l1 t3 _ hx7) hO ?_;intro H hO;obtain⟨x9,hx10,h0⟩:=aW h0;refine BQ (aAL l1 w0.Size w0.Hop nT x6 _ hx10) hO ?_;intro H hO;refine jK ?_;refine bD [(8,(eL aO x9.1)),(9,(eI x9.2))] ?_;refine bI ?_;obtain rfl:=oI h0;exact aG (bG (aT (Q_r hO)))
 refine aX aC 2 [3,19,20] [(34,(aD (decide (w0.Kind=(3:Int)))))] ?_;refine bL h0 (fun h0=>?_) (fun h0=>?_)
 ·refine aP ?_;refine aS aC 9 ?_;refine bH 4 ?_;obtain⟨x13,hx14,h0⟩:=aW h0;refine cW (TE l1 w0.Size nT _ hx14) hO ?_;intro H hO;refine bA ?_;refine bD [(8,(eL aO x13.1)),(9,(eI x13.2))] ?_;refine bI ?_;obtain rfl:=oI h0;exact aG (bG (aT (Q_r hO)))
 refine bM ?_;refine dP [(1,(eL aE l1)),(2,(eI nT))] ?_;refine aG (aV (aH (?_)));refine aP ?_;refine aS aC 7 ?_;refine bH 2 ?_;obtain⟨x16,hx17,h0⟩:=aW h0;refine cW (ZU l1 nT _ hx17) hO ?_;intro H hO;refine bA ?_;refine bD [(8,(eL aO x16.1)),(9,(eI x16.2))] ?_;refine bI ?_;obtain rfl:=oI h0;exact aG (Q_r hO)

theorem AU  (r:Bool)(h0:pI  = some r):dB Tryz.prog 7 [] (aD r):=by
 intro H0;refine cY Tryz.func7 ?_;have hO:=aN.start H0;unfold pI at h0;refine bW aC 1 [] ?_;refine aP ?_;refine aS aC 3 ?_;refine bH 1 ?_;refine kM 3 (cQ (bY.mk 0 0 0)) (by kernel_rfl) (by kernel_rfl) hO ?_;intro lo1 H hO;refine gL 0 lo1 3 0 (cQ (bY.mk 0 0 0)) (cQ (bY.mk (2:Int) (10:Int) (5:Int))) [(cQ (bY.mk 0 0 0))] [(lo1,3,[(cQ (bY.mk (2:Int) (10:Int) (5:Int)))])] hO rfl (by kernel_rfl) ?_;intro H hO;refine dA ?_;refine bD [(1,(.lp lo1 0 0))] ?_;refine aP ?_;refine aS aC 8 ?_;refine bH 1 ?_;refine pW [(aJ (aI.mk (1:Int) (1:Int) ByteArray.empty))] 3 ?_;refine bH 4 ?_;refine pW [(aJ (aI.mk (1:Int) (1:Int) ByteArray.empty))] 3 ?_;refine bH 6 ?_;refine pW [(.agg [(eP [(aJ (aI.mk (1:Int) (1:Int) ByteArray.empty))]),(eI 3),(eI 1)]),(.agg [(eP [(aJ (aI.mk (1:Int) (1:Int) ByteArray.empty))]),(eI 7),(eI (-1:Int))])] 3 ?_;refine bA ?_;refine dL (l:=[(1,(.lp lo1 0 0)),(2,(eL aE ([aF.mk ([aI.mk (1:Int) (1:Int) ByteArray.empty]) (3:Int) (1:Int),aF.mk ([aI.mk (1:Int) (1:Int) ByteArray.empty]) (7:Int) (-1:Int)])))]) ⟨[(1,(.lp lo1 0 0)),(2,(eP [(.agg [(eP [(aJ (aI.mk (1:Int) (1:Int) ByteArray.empty))]),(eI 3),(eI 1)]),(.agg [(eP [(aJ (aI.mk (1:Int) (1:Int) ByteArray.empty))]),(eI 7),(eI (-1:Int))])]))],by kernel_rfl,rfl,⟨aR.refl _,(aFp (e:=aE) (xs:=[(.agg [(eP [(aJ (aI.mk (1:Int) (1:Int) ByteArray.empty))]),(eI 3),(eI 1)]),(.agg [(eP [(aJ (aI.mk (1:Int) (1:Int) ByteArray.empty))]),(eI 7),(eI (-1:Int))])]) (l:=[aF.mk ([aI.mk (1:Int) (1:Int) ByteArray.empty]) (3:Int) (1:Int),aF.mk ([aI.mk (1:Int) (1:Int) ByteArray.empty]) (7:Int) (-1:Int)]) ⟨(xO (xs:=[(eP [(aJ (aI.mk (1:Int) (1:Int) ByteArray.empty))]),(eI 3),(eI 1)]) (ys:=[(eL aJ ([aI.mk (1:Int) (1:Int) ByteArray.empty])),(eI 3),(eI 1)]) ⟨YQ (l:=[aI.mk (1:Int) (1:Int) ByteArray.empty]),aR.refl _,aR.refl _,trivial⟩),(xO (xs:=[(eP [(aJ (aI.mk (1:Int) (1:Int) ByteArray.empty))]),(eI 7),(eI (-1:Int))]) (ys:=[(eL aJ ([aI.mk (1:Int) (1:Int) ByteArray.empty])),(eI 7),(eI (-1:Int))]) ⟨YQ (l:=[aI.mk (1:Int) (1:Int) ByteArray.empty]),aR.refl _,aR.refl _,trivial⟩),trivial⟩ rfl),trivial⟩⟩ ?_;refine aG (aH (?_));refine aP ?_;refine aS aC 8 ?_;refine iG 0 lo1 3 0 (cQ (bY.mk (2:Int) (10:Int) (5:Int))) (cQ (bY.mk (2:Int) (10:Int) (5:Int))) [(cQ (bY.mk (2:Int) (10:Int) (5:Int)))] hO rfl ?_;refine bH 2 ?_;obtain⟨x2,hx3,h0⟩:=aW h0;refine cW (BM (bY.mk (2:Int) (10:Int) (5:Int)) ([aF.mk ([aI.mk (1:Int) (1:Int) ByteArray.empty]) (3:Int) (1:Int),aF.mk ([aI.mk (1:Int) (1:Int) ByteArray.empty]) (7:Int) (-1:Int)]) (12:Int) _ hx3) hO ?_;intro H hO;refine bA ?_;refine bP [] [(3,(eI x2.1)),(4,(eI x2.2))] ?_;refine aP ?_;refine aS aC 8 ?_;refine iG 0 lo1 3 0 (cQ (bY.mk (2:Int) (10:Int) (5:Int))) (cQ (bY.mk (2:Int) (10:Int) (5:Int))) [(cQ (bY.mk (2:Int) (10:Int) (5:Int)))] hO rfl ?_;refine bH 2 ?_;obtain⟨x5,hx6,h0⟩:=aW h0;refine cW (BU (bY.mk (2:Int) (10:Int) (5:Int)) ([aF.mk ([aI.mk (1:Int) (1:Int) ByteArray.empty]) (3:Int) (1:Int),aF.mk ([aI.mk (1:Int) (1:Int) ByteArray.empty]) (7:Int) (-1:Int)]) (0:Int) (2:Int) _ hx6) hO ?_;intro H hO;refine bA ?_;replace hO:=hO.pick (L':=[]) [] (by decide) (by kernel_rfl);refine bP [1,2] [(5,(eL aO x5.1)),(6,(eI x5.2))] ?_;refine aP ?_;refine aS aC 29 ?_;obtain⟨c8,h0⟩:=bB h0;refine rR 25 [((((((decide (x2.1=(5:Int)))&&(decide (x2.2=(0:Int))))&&(decide (x5.2=(0:Int))))&&(decide ((lN x5.1)=(1:Int)))))=true->0<=(0:Int)/\(0:Int)<(lN x5.1))] ⟨c8,trivial⟩ ?_;obtain⟨x9,hx10,h0⟩:=aW h0;refine lQ [(50,true)] 10 [(cQ (bY.mk 0 0 0))] (eI x9) (((((decide (x2.1=(5:Int)))&&(decide (x2.2=(0:Int))))&&(decide (x5.2=(0:Int))))&&(decide ((lN x5.1)=(1:Int))))&&((decide ((((gD x5.1 (0:Int)).Span).From)=((bJ.mk 0 (10:Int)).From)))&&((decide ((((gD x5.1 (0:Int)).Span).To)=((bJ.mk 0 (10:Int)).To)))&&true))) (by kernel_rfl) (by kernel_rfl) (by kernel_rfl) (fun hb11=>(HA (bY.mk 0 0 0) _ (iC hx10 hb11))) hO ?_;intro H hO;refine bA ?_;refine bD [(0,(aD ((((((decide (x2.1=(5:Int)))&&(decide (x2.2=(0:Int))))&&(decide (x5.2=(0:Int))))&&(decide ((lN x5.1)=(1:Int))))&&((decide ((((gD x5.1 (0:Int)).Span).From)=((bJ.mk 0 (10:Int)).From)))&&((decide ((((gD x5.1 (0:Int)).Span).To)=((bJ.mk 0 (10:Int)).To)))&&true)))&&(decide (x9=(2:Int))))))] ?_;refine bI ?_;obtain rfl:=oI h0;exact aG (Q_r hO)

theorem LU (a0:(List aI))(b1:(List aI))(r:Bool)(h0:tG a0 b1=some r):dB Tryz.prog 37 [(eL aJ a0),(eL aJ b1)] (aD r):=by
 intro H0;refine cY Tryz.func37 ?_;have hO:=aN.start H0;unfold tG at h0;refine aX aC 1 [] [] ?_;refine aP ?_;refine aX aC 5 [] [(10,(aD (!decide ((lN a0)=(lN b1)))))] ?_;refine bL h0 (fun h0=>?_) (fun h0=>?_)
 ·refine bW aC 1 [(4,(aD false))] ?_;refine bI ?_;obtain rfl:=oI h0;exact aG (aT (Q_r hO))
 refine bM ?_;refine bD [(0,(eL aJ a0)),(1,(eL aJ b1))] ?_;refine eH (fun T H=>Has T []/\aN ⟨H0,[],[]⟩ H []/\vN  = some r) ?_ ?_
 ·clear hO h0;rintro T H ⟨hT,hO,h0⟩;refine bF hT ?_;clear hT;unfold vN at h0;refine bW aC 1 [(4,(aD true))] ?_;refine bI ?_;obtain rfl:=oI h0;exact aG (Q_r hO)
 refine aX aC 1 [] [(5,(eI 0))] ?_;refine bX 0 ?_;refine eC [(0,(eL aJ a0)),(1,(eL aJ b1)),(5,(eI 0))] ?_;refine eD (fun T H=>∃ i5:Int,Has T [(0,(eL aJ a0)),(1,(eL aJ b1)),(5,(eI i5))]/\aN ⟨H0,[],[]⟩ H []/\yZ a0 b1 i5=some r) ?_ ⟨(0:Int),aZ,hO,h0⟩;clear hO h0;rintro T H ⟨i5,hT,hO,h0⟩;refine bF hT ?_;clear hT;unfold yZ at h0;obtain⟨rr0,hl0,h0⟩:=aW h0;refine iM (fun (s:Int) T H=>Has T [(0,(eL aJ a0)),(1,(eL aJ b1)),(5,(eI s))]/\aN ⟨H0,[],[]⟩ H []) hl0 ⟨aZ,hO⟩ ?_;clear hO;rintro k0 s out1 T H ⟨hT,hO⟩ h1 ho0;obtain⟨i5,rfl⟩:∃ x,x=s:=⟨_,rfl⟩;replace h1:rY a0 b1 i5=some out1:=h1;refine bF hT ?_;clear hT;unfold rY at h1;refine aP ?_;refine aX aC 4 [] [(14,(aD (decide (i5<(lN a0)))))] ?_;refine bL h1 (fun h1=>?_) (fun h1=>?_)
 ·refine bM ?_;refine bD [(0,(eL aJ a0)),(1,(eL aJ b1)),(5,(eI i5))] ?_;refine aP ?_;refine bX 1 ?_;refine aP ?_;refine fS (fQ [20,24]) aC 9 ?_;obtain⟨c3,h1⟩:=bB h1;obtain⟨c4,h1⟩:=bB h1;refine RN (Ds:=[0<=i5/\i5<(lN a0),0<=i5/\i5<(lN b1)]) (by kernel_rfl) ⟨c3,c4,trivial⟩ ?_;refine bP [] [(25,(aD (!((decide (((gD a0 i5).Kind)=((gD b1 i5).Kind)))&&((decide (((gD a0 i5).Num)=((gD b1 i5).Num)))&&((qK ((gD a0 i5).Text) ((gD b1 i5).Text))&&true))))))] ?_;refine bL h1 (fun h1=>?_) (fun h1=>?_)
  ·refine bW aC 1 [(4,(aD false))] ?_;refine bI ?_;obtain rfl:=oI h1;obtain rfl:_=rr0:=ho0;replace h0:some false=some r:=h0;obtain rfl:=oI h0;exact aG (bG (aT (aT (bG (aT (Q_r hO))))))
  refine bM ?_;refine dP [(0,(eL aJ a0)),(1,(eL aJ b1)),(5,(eI i5))] ?_;refine aG (aV (aH (?_)));refine aS aC 3 ?_;refine bA ?_;exact aG (aH (⟨rfl,_,(oI h1).symm,aZ,hO⟩))
 refine fP 0 ?_;obtain rfl:=oI h1;obtain rfl:_=rr0:=ho0;replace h0:vN  = some r:=h0;exact aG (aY (aY (bV (aH (⟨rfl,aZ,hO,h0⟩)))))

theorem LG (a0:(List bC))(b1:(List bC))(r:Bool)(h0:pK a0 b1=some r):dB Tryz.prog 33 [(eL bK a0),(eL bK b1)] (aD r):=by
 intro H0;refine cY Tryz.func33 ?_;have hO:=aN.start H0;unfold pK at h0;refine aX aC 1 [] [] ?_;refine aP ?_;refine aX aC 5 [] [(10,(aD (!decide ((lN a0)=(lN b1)))))] ?_;refine bL h0 (fun h0=>?_) (fun h0=>?_)
 ·refine bW aC 1 [(4,(aD false))] ?_;refine bI ?_;obtain rfl:=oI h0;exact aG (aT (Q_r hO))
 refine bM ?_;refine bD [(0,(eL bK a0)),(1,(eL bK b1))] ?_;refine eH (fun T H=>Has T []/\aN ⟨H0,[],[]⟩ H []/\oK  = some r) ?_ ?_
 ·clear hO h0;rintro T H ⟨hT,hO,h0⟩;refine bF hT ?_;clear hT;unfold oK at h0;refine bW aC 1 [(4,(aD true))] ?_;refine bI ?_;obtain rfl:=oI h0;exact aG (Q_r hO)
 refine aX aC 1 [] [(5,(eI 0))] ?_;refine bX 0 ?_;refine eC [(0,(eL bK a0)),(1,(eL bK b1)),(5,(eI 0))] ?_;refine eD (fun T H=>∃ i5:Int,Has T [(0,(eL bK a0)),(1,(eL bK b1)),(5,(eI i5))]/\aN ⟨H0,[],[]⟩ H []/\rO a0 b1 i5=some r) ?_ ⟨(0:Int),aZ,hO,h0⟩;clear hO h0;rintro T H ⟨i5,hT,hO,h0⟩;refine bF hT ?_;clear hT;unfold rO at h0;obtain⟨rr0,hl0,h0⟩:=aW h0;refine iM (fun (s:Int) T H=>Has T [(0,(eL bK a0)),(1,(eL bK b1)),(5,(eI s))]/\aN ⟨H0,[],[]⟩ H []) hl0 ⟨aZ,hO⟩ ?_;clear hO;rintro k0 s out1 T H ⟨hT,hO⟩ h1 ho0;obtain⟨i5,rfl⟩:∃ x,x=s:=⟨_,rfl⟩;replace h1:mS a0 b1 i5=some out1:=h1;refine bF hT ?_;clear hT;unfold mS at h1;refine aP ?_;refine aX aC 4 [] [(14,(aD (decide (i5<(lN a0)))))] ?_;refine bL h1 (fun h1=>?_) (fun h1=>?_)
 ·refine bM ?_;refine bD [(0,(eL bK a0)),(1,(eL bK b1)),(5,(eI i5))] ?_;refine aP ?_;refine bX 1 ?_;refine aP ?_;obtain⟨c3,h1⟩:=bB h1;obtain⟨c4,h1⟩:=bB h1;obtain⟨c5,h1⟩:=bB h1;obtain⟨c6,h1⟩:=bB h1;obtain⟨x7,hx8,h1⟩:=aW h1;refine fS (fQ [21,26,33,38]) aC 25 ?_;refine qH (K:=fun T H=>Has (lift T) [(0,(eL bK a0)),(1,(eL bK b1)),(5,(eI i5)),(41,(aD ((!decide (((gD a0 i5).N)=((gD b1 i5).N)))||(!x7))))]/\aN ⟨H0,[],[]⟩ H []) ?_ ?_
  ·refine cJ 12 [0<=i5/\i5<(lN a0),0<=i5/\i5<(lN b1)] ⟨c3,c4,trivial⟩ ?_;refine nZ (t:=28) (e := !decide (((gD a0 i5).N)=((gD b1 i5).N))) (by kernel_rfl) (fun hg9=>?_) (fun hg9=>?_)
   ·refine jK ?_;exact⟨⟨[(0,(eL bK a0)),(1,(eL bK b1)),(5,(eI i5)),(41,(aD true))],by kernel_rfl,rfl,⟨aR.refl _,aR.refl _,aR.refl _,aR.eq (congrArg aD (BZ hg9 rfl).symm),trivial⟩⟩,hO⟩
   refine cJ 22 [0<=i5/\i5<(lN a0),0<=i5/\i5<(lN b1)] ⟨(c5 (AK hg9)),(c6 (AK hg9)),trivial⟩ ?_;refine oL 37 [(eL aJ ((gD a0 i5).Row)),(eL aJ ((gD b1 i5).Row))] (aD x7) (by kernel_rfl) (by kernel_rfl) (LU ((gD a0 i5).Row) ((gD b1 i5).Row) _ (iC hx8 (AK hg9))) hO ?_;intro H hO;refine jK ?_;exact⟨⟨[(0,(eL bK a0)),(1,(eL bK b1)),(5,(eI i5)),(41,(aD (!x7)))],by kernel_rfl,rfl,⟨aR.refl _,aR.refl _,aR.refl _,aR.eq (congrArg aD (BZ hg9 rfl).symm),trivial⟩⟩,hO⟩
  ·rintro T H ⟨hT,hO⟩;refine dL hT ?_;clear hT;refine aG (aH ?_);refine bL h1 (fun h1=>?_) (fun h1=>?_)
   ·refine bW aC 1 [(4,(aD false))] ?_;refine bI ?_;obtain rfl:=oI h1;obtain rfl:_=rr0:=ho0;replace h0:some false=some r:=h0;obtain rfl:=oI h0;exact aG (bG (aT (aT (bG (aT (Q_r hO))))))
   refine bM ?_;refine dP [(0,(eL bK a0)),(1,(eL bK b1)),(5,(eI i5))] ?_;refine aG (aV (aH (?_)));refine aS aC 3 ?_;refine bA ?_;exact aG (aH (⟨rfl,_,(oI h1).symm,aZ,hO⟩))
 refine fP 0 ?_;obtain rfl:=oI h1;obtain rfl:_=rr0:=ho0;replace h0:oK  = some r:=h0;exact aG (aY (aY (bV (aH (⟨rfl,aZ,hO,h0⟩)))))

theorem ZM (a0:(List aK))(b1:(List aK))(r:Bool)(h0:wT a0 b1=some r):dB Tryz.prog 14 [(eL aO a0),(eL aO b1)] (aD r):=by
 intro H0;refine cY Tryz.func14 ?_;have hO:=aN.start H0;unfold wT at h0;refine aX aC 1 [] [] ?_;refine aP ?_;refine aX aC 5 [] [(10,(aD (!decide ((lN a0)=(lN b1)))))] ?_;refine bL h0 (fun h0=>?_) (fun h0=>?_)
 ·refine bW aC 1 [(4,(aD false))] ?_;refine bI ?_;obtain rfl:=oI h0;exact aG (aT (Q_r hO))
 refine bM ?_;refine bD [(0,(eL aO a0)),(1,(eL aO b1))] ?_;refine eH (fun T H=>Has T []/\aN ⟨H0,[],[]⟩ H []/\vD  = some r) ?_ ?_
 ·clear hO h0;rintro T H ⟨hT,hO,h0⟩;refine bF hT ?_;clear hT;unfold vD at h0;refine bW aC 1 [(4,(aD true))] ?_;refine bI ?_;obtain rfl:=oI h0;exact aG (Q_r hO)
 refine aX aC 1 [] [(5,(eI 0))] ?_;refine bX 0 ?_;refine eC [(0,(eL aO a0)),(1,(eL aO b1)),(5,(eI 0))] ?_;refine eD (fun T H=>∃ i5:Int,Has T [(0,(eL aO a0)),(1,(eL aO b1)),(5,(eI i5))]/\aN ⟨H0,[],[]⟩ H []/\zC a0 b1 i5=some r) ?_ ⟨(0:Int),aZ,hO,h0⟩;clear hO h0;rintro T H ⟨i5,hT,hO,h0⟩;refine bF hT ?_;clear hT;unfold zC at h0;obtain⟨rr0,hl0,h0⟩:=aW h0;refine iM (fun (s:Int) T H=>Has T [(0,(eL aO a0)),(1,(eL aO b1)),(5,(eI s))]/\aN ⟨H0,[],[]⟩ H []) hl0 ⟨aZ,hO⟩ ?_;clear hO;rintro k0 s out1 T H ⟨hT,hO⟩ h1 ho0;obtain⟨i5,rfl⟩:∃ x,x=s:=⟨_,rfl⟩;replace h1:rX a0 b1 i5=some out1:=h1;refine bF hT ?_;clear hT;unfold rX at h1;refine aP ?_;refine aX aC 4 [] [(14,(aD (decide (i5<(lN a0)))))] ?_;refine bL h1 (fun h1=>?_) (fun h1=>?_)
 ·refine bM ?_;refine bD [(0,(eL aO a0)),(1,(eL aO b1)),(5,(eI i5))] ?_;refine aP ?_;refine bX 1 ?_;refine aP ?_;obtain⟨c3,h1⟩:=bB h1;obtain⟨c4,h1⟩:=bB h1;obtain⟨c5,h1⟩:=bB h1;obtain⟨c6,h1⟩:=bB h1;obtain⟨x7,hx8,h1⟩:=aW h1;refine fS (fQ [21,26,33,38]) aC 25 ?_;refine qH (K:=fun T H=>Has (lift T) [(0,(eL aO a0)),(1,(eL aO b1)),(5,(eI i5)),(41,(aD ((!((decide ((((gD a0 i5).Span).From)=(((gD b1 i5).Span).From)))&&((decide ((((gD a0 i5).Span).To)=(((gD b1 i5).Span).To)))&&true)))||(!x7))))]/\aN ⟨H0,[],[]⟩ H []) ?_ ?_
  ·refine cJ 12 [0<=i5/\i5<(lN a0),0<=i5/\i5<(lN b1)] ⟨c3,c4,trivial⟩ ?_;refine nZ (t:=28) (e := !((decide ((((gD a0 i5).Span).From)=(((gD b1 i5).Span).From)))&&((decide ((((gD a0 i5).Span).To)=(((gD b1 i5).Span).To)))&&true))) (by kernel_rfl) (fun hg9=>?_) (fun hg9=>?_)
   ·refine jK ?_;exact⟨⟨[(0,(eL aO a0)),(1,(eL aO b1)),(5,(eI i5)),(41,(aD true))],by kernel_rfl,rfl,⟨aR.refl _,aR.refl _,aR.refl _,aR.eq (congrArg aD (BZ hg9 rfl).symm),trivial⟩⟩,hO⟩
   refine cJ 22 [0<=i5/\i5<(lN a0),0<=i5/\i5<(lN b1)] ⟨(c5 (AK hg9)),(c6 (AK hg9)),trivial⟩ ?_;refine oL 33 [(eL bK ((gD a0 i5).Rows)),(eL bK ((gD b1 i5).Rows))] (aD x7) (by kernel_rfl) (by kernel_rfl) (LG ((gD a0 i5).Rows) ((gD b1 i5).Rows) _ (iC hx8 (AK hg9))) hO ?_;intro H hO;refine jK ?_;exact⟨⟨[(0,(eL aO a0)),(1,(eL aO b1)),(5,(eI i5)),(41,(aD (!x7)))],by kernel_rfl,rfl,⟨aR.refl _,aR.refl _,aR.refl _,aR.eq (congrArg aD (BZ hg9 rfl).symm),trivial⟩⟩,hO⟩
  ·rintro T H ⟨hT,hO⟩;refine dL hT ?_;clear hT;refine aG (aH ?_);refine bL h1 (fun h1=>?_) (fun h1=>?_)
   ·refine bW aC 1 [(4,(aD false))] ?_;refine bI ?_;obtain rfl:=oI h1;obtain rfl:_=rr0:=ho0;replace h0:some false=some r:=h0;obtain rfl:=oI h0;exact aG (bG (aT (aT (bG (aT (Q_r hO))))))
   refine bM ?_;refine dP [(0,(eL aO a0)),(1,(eL aO b1)),(5,(eI i5))] ?_;refine aG (aV (aH (?_)));refine aS aC 3 ?_;refine bA ?_;exact aG (aH (⟨rfl,_,(oI h1).symm,aZ,hO⟩))
 refine fP 0 ?_;obtain rfl:=oI h1;obtain rfl:_=rr0:=ho0;replace h0:vD  = some r:=h0;exact aG (aY (aY (bV (aH (⟨rfl,aZ,hO,h0⟩)))))

end Go.Abs
namespace Go.Abs
open Go Go.RowKit Go.Proofs
theorem aBI (lo0p:Nat)(l0:(List aF))(r1:(List aI))(f2:(List aB))(r:(List aF))(h0:AH l0 r1 f2=some r):aBR Tryz.prog 95 lo0p 3 (List.map aE l0) [(.msl 3 lo0p 0 (List.length l0)),(eL aJ r1),(eL aL f2)] (fun lo=>.msl 3 lo 0 (List.length r)) (List.map aE r):=by
 intro H0 hl0;refine cY Tryz.func95 ?_;have hO:=aN.tO hl0;clear hl0;unfold AH at h0;refine aX aC 1 [] [] ?_;refine eH (fun T H=>∃ l0:List aF,∃ lo1:Nat,Has T [(0,(.msl 3 lo1 0 (List.length l0)))]/\aN ⟨H0,[lo0p],[]⟩ H [(lo1,3,List.map aE l0)]/\CJ l0=some r) ?_ ?_
 ·clear hO h0;rintro T H ⟨l0,lo1,hT,hO,h0⟩;refine bF hT ?_;clear hT;unfold CJ at h0;refine bW aC 2 [(6,(.msl 3 lo1 0 (List.length l0)))] ?_;refine bI ?_;obtain rfl:=oI h0;exact aG (kC (x:=(.msl 3 lo1 0 (List.length l0))) (by kernel_rfl) (aR.refl _) ⟨lo1,rfl,hO⟩)
 refine aX aC 3 [2] [(9,(eL aL f2)),(10,(eI (lN f2))),(11,(eI 0))] ?_;refine bX 0 ?_;refine eC [(0,(.msl 3 lo0p 0 (List.length l0))),(1,(eL aJ r1)),(9,(eL aL f2)),(10,(eI (lN f2))),(11,(eI 0))] ?_;refine eD (fun T H=>∃ l0:List aF,∃ t9:(List aB),∃ t10:Int,∃ t11:Int,∃ lo3:Nat,Has T [(0,(.msl 3 lo3 0 (List.length l0))),(1,(eL aJ r1)),(9,(eL aL t9)),(10,(eI t10)),(11,(eI t11))]/\aN ⟨H0,[lo0p],[]⟩ H [(lo3,3,List.map aE l0)]/\CE l0 r1 t9 t10 t11=some r) ?_ ⟨l0,f2,(lN f2),(0:Int),lo0p,aZ,hO,h0⟩;clear hO h0;rintro T H ⟨l0,t9,t10,t11,lo3,hT,hO,h0⟩;refine bF hT ?_;clear hT;unfold CE at h0;obtain⟨rr0,hl0,h0⟩:=aW h0;refine iM (fun (s:List aF×Int) T H=>∃ lo3:Nat,Has T [(0,(.msl 3 lo3 0 (List.length s.1))),(1,(eL aJ r1)),(9,(eL aL t9)),(10,(eI t10)),(11,(eI s.2))]/\aN ⟨H0,[lo0p],[]⟩ H [(lo3,3,List.map aE s.1)]) hl0 ⟨lo3,aZ,hO⟩ ?_;clear hO;rintro k0 s out1 T H ⟨lo3,hT,hO⟩ h1 ho0;obtain⟨l0,t11⟩:=s;replace h1:qM r1 t9 t10 l0 t11=some out1:=h1
 try dsimp only at hT
 refine bF hT ?_;clear hT;unfold qM at h1;refine aX aC 1 [] [(12,(aD (decide (t11<t10))))] ?_;refine aP ?_;refine bL h1 (fun h1=>?_) (fun h1=>?_)
 ·refine bM ?_;refine bD [(0,(.msl 3 lo3 0 (List.length l0))),(1,(eL aJ r1)),(9,(eL aL t9)),(10,(eI t10)),(11,(eI t11))] ?_;refine aP ?_;refine bX 1 ?_;refine aP ?_;refine aS aC 4 ?_;obtain⟨c5,h1⟩:=bB h1;refine rR 2 [0<=t11/\t11<(lN t9)] ⟨c5,trivial⟩ ?_;refine kM 2 (aL (aB.mk 0 0)) (by kernel_rfl) (by kernel_rfl) hO ?_;intro lo6 H hO;refine gL 1 lo6 2 0 (aL (aB.mk 0 0)) (aL (gD t9 t11)) [(aL (aB.mk 0 0))] [(lo3,3,List.map aE l0),(lo6,2,[(aL (gD t9 t11))])] hO rfl (by kernel_rfl) ?_;intro H hO;refine dA ?_;refine bP [] [(8,(.lp lo6 0 0))] ?_;refine eC [(0,(.msl 3 lo3 0 (List.length l0))),(1,(eL aJ r1)),(8,(.lp lo6 0 0)),(9,(eL aL t9)),(10,(eI t10)),(11,(eI t11))] ?_;refine LW 2 1 8 2 lo6 (aL (gD t9 t11)) [(lo3,3,List.map aE l0)] hO (by kernel_rfl) (by kernel_rfl) (by kernel_rfl) ?_;intro H hO;refine fS (fQ [19,21,23]) aC 11 ?_;refine kJ 2 ?_;obtain⟨x7,hx8,h1⟩:=aW h1;refine BQ (JI r1 _ hx8) hO ?_;intro H hO;refine kJ 8 ?_;refine WI (xs:=[(aE (aF.mk x7 ((gD t9 t11).At) ((gD t9 t11).Net)))]) (k:=3) (by kernel_rfl) (by kernel_rfl) ?_;obtain⟨c11,h1⟩:=bB h1;refine MO (e:=aE) l0 ([aF.mk x7 ((gD t9 t11).At) ((gD t9 t11).Net)]) 0 lo3 3 40 (eP [(aE (aF.mk x7 ((gD t9 t11).At) ((gD t9 t11).Net)))]) (fun lo10=>[(lo10,3,List.map aE (l0++([aF.mk x7 ((gD t9 t11).At) ((gD t9 t11).Net)])))]) (by kernel_rfl) (by kernel_rfl) hO (by kernel_rfl) (by kernel_rfl) c11 (fun _=>by kernel_rfl) ?_;intro lo10 H hO;refine jK ?_;refine dP [(0,(.msl 3 lo10 0 (List.length (l0++([aF.mk x7 ((gD t9 t11).At) ((gD t9 t11).Net)]))))),(1,(eL aJ r1)),(9,(eL aL t9)),(10,(eI t10)),(11,(eI t11))] ?_;refine aG (aV (aH (?_)));refine aS aC 2 ?_;refine bA ?_;exact aG (aH (⟨rfl,_,(oI h1).symm,_,aZ,hO⟩))
 refine fP 0 ?_;obtain rfl:=oI h1;obtain rfl:_=rr0:=ho0;replace h0:CJ l0=some r:=h0;exact aG (aY (aY (bV (aH (⟨rfl,_,_,aZ,hO,h0⟩)))))

theorem VY (l0:(List aF))(by1_f:Nat)(by1_a by1_c:List V)(by1:(List aB)->Option ((List aB)×Int))(by1_h:∀ a0 r,by1 a0=some r->dB Tryz.prog by1_f (by1_a++[(eL aL a0)]++by1_c) (.tup [(eL aL r.1),(eI r.2)]))(r:((List aF)×Int))(h0:vM l0 by1=some r):dB Tryz.prog 68 [(eL aE l0),(.fn (.func by1_f) by1_a by1_c)] (.tup [(eL aE r.1),(eI r.2)]):=by
 intro H0;refine AA aC Tryz.func68 (by kernel_rfl) (by kernel_rfl) (by kernel_rfl) ?_;have hO:=aN.start H0;unfold vM at h0;refine aP ?_;refine aS aC 3 ?_;refine kW 1 (.fn (.func by1_f) by1_a by1_c) ?_;refine nU 1 (.sl true 0 (fun _=>.bad)) (eL aE ([])) (by kernel_rfl) (by kernel_rfl) (by kernel_rfl) (eT) (by kernel_rfl) (by kernel_rfl) hO ?_;intro lo1 H hO;refine kM 1 (eI 0) (by kernel_rfl) (by kernel_rfl) hO ?_;intro lo2 H hO;refine dA ?_;refine bP [1] [(3,(.rp (.fn (.func by1_f) by1_a by1_c))),(4,(.lp lo1 0 0)),(5,(.lp lo2 0 0))] ?_;refine aP ?_;refine aS aC 3 ?_;refine pW [] 3 ?_;refine nU 1 (.sl true 0 (fun _=>.bad)) (eL aE ([])) (by kernel_rfl) (by kernel_rfl) (by kernel_rfl) (eT) (by kernel_rfl) (by kernel_rfl) hO ?_;intro lo3 H hO;refine XQ 11 3 (fun _=>.bad) (by kernel_rfl) hO (by kernel_rfl) ?_;intro lo4 H hO;refine gL 2 lo3 1 0 (eL aE ([])) (.msl 3 lo4 0 (List.length ([]:List aF))) [(eL aE ([]))] [(lo1,1,[(eL aE ([]))]),(lo2,1,[(eI 0)]),(lo3,1,[(.msl 3 lo4 0 (List.length ([]:List aF)))]),(lo4,3,List.map aE ([]:List aF))] hO rfl (by kernel_rfl) ?_;intro H hO;refine dA ?_;refine bP [] [(6,(.lp lo3 0 0))] ?_;refine aP ?_;refine aP ?_;refine aS aC 2 ?_;refine bH 1 ?_;obtain⟨x5,hx6,h0⟩:=aW h0;refine cW (GZ l0 _ hx6) hO ?_;intro H hO;refine dA ?_;refine bP [0] [(13,(.fn (.func 103) [] [(.rp (eL aE x5))]))] ?_;refine bX 0 ?_;refine eC [(3,(.rp (.fn (.func by1_f) by1_a by1_c))),(4,(.lp lo1 0 0)),(5,(.lp lo2 0 0)),(6,(.lp lo3 0 0)),(13,(.fn (.func 103) [] [(.rp (eL aE x5))]))] ?_;refine eD (fun T H=>∃ t4:(List aF),∃ t5:Int,∃ out6:List aF,∃ mG:(List aF),∃ lo7:Nat,Has T [(3,(.rp (.fn (.func by1_f) by1_a by1_c))),(4,(.lp lo1 0 0)),(5,(.lp lo2 0 0)),(6,(.lp lo3 0 0)),(13,(.fn (.func 103) [] [(.rp (eL aE mG))]))]/\aN ⟨H0,[],[]⟩ H [(lo1,1,[(eL aE t4)]),(lo2,1,[(eI t5)]),(lo3,1,[(.msl 3 lo7 0 (List.length out6))]),(lo7,3,List.map aE out6)]/\yG by1 t4 t5 out6 mG=some r) ?_ ⟨[],0,([]:List aF),x5,lo4,aZ,hO,h0⟩;clear hO h0;rintro T H ⟨t4,t5,out6,mG,lo7,hT,hO,h0⟩;refine bF (l:=[(3,(.rp (.fn (.func by1_f) by1_a by1_c))),(4,(.lp lo1 0 0)),(5,(.lp lo2 0 0)),(6,(.lp lo3 0 0)),(13,(.fn (.func 103) [] [(.rp (eL aE mG))]))]) hT ?_;clear hT;unfold yG at h0;obtain⟨o0,hl0,h0⟩:=aW h0;refine xR (fid:=103) (ys:=[]) (cs:=[(.rp (eL aE mG))]) #[14,15] (fun (A:sP) (b lL:Nat) (st:((List aF)×Int×List aF)⊕((List aF)×Int×List aF)) (G':Gs)=>Sum.elim (fun (s:(List aF)×Int×List aF)=>∃ lo7:Nat,G'=(lL,.raw (gQ b A .ready none))::(up [(lo1,1,[(eL aE s.1)]),(lo2,1,[(eI s.2.1)]),(lo3,1,[(.msl 3 lo7 0 (List.length s.2.2))]),(lo7,3,List.map aE s.2.2)]++[])) (fun (s:(List aF)×Int×List aF)=>∃ lo7:Nat,G'=(lL,.raw (gQ b A .done (some .ret)))::(up [(lo1,1,[(eL aE s.1)]),(lo2,1,[(eI s.2.1)]),(lo3,1,[(.msl 3 lo7 0 (List.length s.2.2))]),(lo7,3,List.map aE s.2.2)]++[])) st) (.inl (t4,t5,out6)) o0 (.tup []) (by kernel_rfl) (by kernel_rfl) (by kernel_rfl) hO (fun _ _=>⟨lo7,rfl⟩) ?_ ?_
 ·intro b lL;clear hO h0;refine BH _ b (fun st t14 t15=>rnd (fun (s:(List aF)×Int×List aF)=>oS by1 mG s.1 s.2.1 s.2.2 t14 t15) st) ?_ mG _ _ hl0;intro st t14 t15 out1 rr hr;obtain⟨s,rfl,h1,rfl⟩:=HX hr;clear hr;intro Hr Gr hi hg;obtain⟨t4,t5,out6⟩:=s;dsimp only [Sum.elim_inl] at hi;obtain⟨lo7,rfl⟩:=hi;replace h1:oS by1 mG t4 t5 out6 t14 t15=some out1:=h1;unfold oS at h1;obtain⟨E1,hE,hO⟩:=oU hg;refine oW (uS (hO.gm 0 _ rfl).2 (by kernel_rfl) (by kernel_rfl) ?_);refine eC [(3,(.rp (.fn (.func by1_f) by1_a by1_c))),(4,(.lp lo1 0 0)),(5,(.lp lo2 0 0)),(6,(.lp lo3 0 0)),(13,(.fn (.func 103) [] [(.rp (eL aE mG))])),(14,(eL aJ t14)),(15,(eL aL t15))] ?_;refine aX aC 1 [13,14] [(7,(eL aJ t14))] ?_;refine aS aC 1 ?_;refine bA ?_;refine dP [(3,(.rp (.fn (.func by1_f) by1_a by1_c))),(4,(.lp lo1 0 0)),(5,(.lp lo2 0 0)),(6,(.lp lo3 0 0)),(7,(eL aJ t14)),(8,(eL aL t15))] ?_;refine aG (⟨rfl,rfl,(hO.gm 0 _ rfl).2,?_⟩);intro o1 ho1;replace hO:=hO.nM o1;refine bX 1 ?_;refine aP ?_;refine aS aC 8 ?_;refine bH 2 ?_;obtain⟨x8,hx9,h1⟩:=aW h1;refine cW (by1_h t15 _ hx9) hO ?_;intro H hO;refine bA ?_;refine bP [3,8] [(9,(eL aL x8.1)),(10,(eI x8.2))] ?_;refine aP ?_;refine aX aC 2 [] [(23,(aD (!decide (x8.2=(0:Int)))))] ?_;refine bL h1 (fun h1=>?_) (fun h1=>?_)
  ·refine aP ?_;refine aS aC 3 ?_;refine bH 1 ?_;refine gL 0 lo1 1 0 (eL aE t4) (.sl true 0 (fun _=>.bad)) [(eL aE t4)] [(lo1,1,[(.sl true 0 (fun _=>.bad))]),(lo2,1,[(eI t5)]),(lo3,1,[(.msl 3 lo7 0 (List.length out6))]),(lo7,3,List.map aE out6)] hO rfl (by kernel_rfl) ?_;intro H hO;refine gL 1 lo2 1 0 (eI t5) (eI x8.2) [(eI t5)] [(lo1,1,[(.sl true 0 (fun _=>.bad))]),(lo2,1,[(eI x8.2)]),(lo3,1,[(.msl 3 lo7 0 (List.length out6))]),(lo7,3,List.map aE out6)] hO rfl (by kernel_rfl) ?_;intro H hO;refine dA ?_;refine BX 0 lo1 1 (.sl true 0 (fun _=>.bad)) (eL aE ([])) [(lo1,1,[(eL aE ([]))]),(lo2,1,[(eI x8.2)]),(lo3,1,[(.msl 3 lo7 0 (List.length out6))]),(lo7,3,List.map aE out6)] hO (by kernel_rfl) (by kernel_rfl) eT (by kernel_rfl) ?_;intro H hO;refine bD [(4,(.lp lo1 0 0)),(5,(.lp lo2 0 0)),(6,(.lp lo3 0 0))] ?_;refine bI ?_;refine dP [(4,(.lp lo1 0 0)),(5,(.lp lo2 0 0)),(6,(.lp lo3 0 0))] ?_;obtain rfl:=oI h1;exact aG (aT (bG (⟨(dG hO hE ho1 .dead).1,rfl,_,⟨lo7,rfl⟩,(dG hO hE ho1 _).2⟩)))
  refine bM ?_;refine bD [(4,(.lp lo1 0 0)),(5,(.lp lo2 0 0)),(6,(.lp lo3 0 0)),(7,(eL aJ t14)),(9,(eL aL x8.1))] ?_;refine aP ?_;refine aS aC 5 ?_;refine iG 2 lo3 1 0 (.msl 3 lo7 0 (List.length out6)) (.msl 3 lo7 0 (List.length out6)) [(.msl 3 lo7 0 (List.length out6))] hO rfl ?_;refine bH 3 ?_;obtain⟨x12,hx13,h1⟩:=aW h1;refine aBn (L':=fun lo14=>[(lo1,1,[(eL aE t4)]),(lo2,1,[(eI t5)]),(lo3,1,[(.msl 3 lo7 0 (List.length out6))]),(lo14,3,List.map aE x12)]) 3 lo7 3 (List.map aE out6) (List.map aE x12) 95 [(.msl 3 lo7 0 (List.length out6)),(eL aJ t14),(eL aL x8.1)] (fun lo14=>(.msl 3 lo14 0 (List.length x12))) (by kernel_rfl) (by kernel_rfl) (aBI lo7 out6 t14 x8.1 _ hx13) hO (by kernel_rfl) (fun _=>by kernel_rfl) ?_;intro lo14 H hO;refine gL 2 lo3 1 0 (.msl 3 lo7 0 (List.length out6)) (.msl 3 lo14 0 (List.length x12)) [(.msl 3 lo7 0 (List.length out6))] [(lo1,1,[(eL aE t4)]),(lo2,1,[(eI t5)]),(lo3,1,[(.msl 3 lo14 0 (List.length x12))]),(lo14,3,List.map aE x12)] hO rfl (by kernel_rfl) ?_;intro H hO;refine dA ?_;refine bP [7,9] [] ?_;refine aP ?_;refine aS aC 3 ?_;refine iG 2 lo3 1 0 (.msl 3 lo14 0 (List.length x12)) (.msl 3 lo14 0 (List.length x12)) [(.msl 3 lo14 0 (List.length x12))] hO rfl ?_;refine bA ?_;refine bP [] [(31,(aD (decide ((4096:Int)<(lN x12)))))] ?_;refine bL h1 (fun h1=>?_) (fun h1=>?_)
  ·refine aP ?_;refine aS aC 2 ?_;refine gL 0 lo1 1 0 (eL aE t4) (.sl true 0 (fun _=>.bad)) [(eL aE t4)] [(lo1,1,[(.sl true 0 (fun _=>.bad))]),(lo2,1,[(eI t5)]),(lo3,1,[(.msl 3 lo14 0 (List.length x12))]),(lo14,3,List.map aE x12)] hO rfl (by kernel_rfl) ?_;intro H hO;refine gL 1 lo2 1 0 (eI t5) (eI 7) [(eI t5)] [(lo1,1,[(.sl true 0 (fun _=>.bad))]),(lo2,1,[(eI 7)]),(lo3,1,[(.msl 3 lo14 0 (List.length x12))]),(lo14,3,List.map aE x12)] hO rfl (by kernel_rfl) ?_;intro H hO;refine dA ?_;refine BX 0 lo1 1 (.sl true 0 (fun _=>.bad)) (eL aE ([])) [(lo1,1,[(eL aE ([]))]),(lo2,1,[(eI 7)]),(lo3,1,[(.msl 3 lo14 0 (List.length x12))]),(lo14,3,List.map aE x12)] hO (by kernel_rfl) (by kernel_rfl) eT (by kernel_rfl) ?_;intro H hO;refine bD [(4,(.lp lo1 0 0)),(5,(.lp lo2 0 0)),(6,(.lp lo3 0 0))] ?_;refine bI ?_;refine dP [(4,(.lp lo1 0 0)),(5,(.lp lo2 0 0)),(6,(.lp lo3 0 0))] ?_;obtain rfl:=oI h1;exact aG (bG (⟨(dG hO hE ho1 .dead).1,rfl,_,⟨lo14,rfl⟩,(dG hO hE ho1 _).2⟩))
  refine bM ?_;refine dP [(4,(.lp lo1 0 0)),(5,(.lp lo2 0 0)),(6,(.lp lo3 0 0))] ?_;obtain rfl:=oI h1;exact aG (aV (⟨(dG hO hE ho1 .dead).1,rfl,_,⟨lo14,rfl⟩,(dG hO hE ho1 _).2⟩))
 ·intro b lD16 lL H' G' hi hO;rcases o0 with s | s
  ·dsimp only [Sum.elim_inl] at hi;obtain⟨lo7,rfl⟩:=hi;replace h0:(some (s.2.2,(0:Int)))=some r:=h0;obtain⟨hlL,hO⟩:=mH hO;refine⟨_,_,hlL,(by intro e; cases e),?_⟩;refine dP [(4,(.lp lo1 0 0)),(5,(.lp lo2 0 0)),(6,(.lp lo3 0 0))] ?_;refine aG (aV (aH (?_)));refine aP ?_;refine PK (e:=aE) s.2.2 2 3 1 3 lo3 lo7 (List.length s.2.2) [(lo1,1,[(eL aE s.1)]),(lo2,1,[(eI s.2.1)]),(lo3,1,[(eL aE s.2.2)])] hO (by kernel_rfl) (by kernel_rfl) (by kernel_rfl) (.inr (by decide)) (by kernel_rfl) ?_;intro H hO;refine aS aC 3 ?_;refine iG 2 lo3 1 0 (eL aE s.2.2) (eL aE s.2.2) [(eL aE s.2.2)] hO rfl ?_;refine gL 0 lo1 1 0 (eL aE s.1) (eL aE s.2.2) [(eL aE s.1)] [(lo1,1,[(eL aE s.2.2)]),(lo2,1,[(eI s.2.1)]),(lo3,1,[(eL aE s.2.2)])] hO rfl (by kernel_rfl) ?_;intro H hO;refine gL 1 lo2 1 0 (eI s.2.1) (eI 0) [(eI s.2.1)] [(lo1,1,[(eL aE s.2.2)]),(lo2,1,[(eI 0)]),(lo3,1,[(eL aE s.2.2)])] hO rfl (by kernel_rfl) ?_;intro H hO;refine dA ?_;replace hO:=hO.pick (L':=[(lo1,1,[(eL aE s.2.2)]),(lo2,1,[(eI 0)])]) [0,1] (by decide) (by kernel_rfl);refine bP [6] [] ?_;refine bI ?_;obtain rfl:=oI h0;have hD:=(hO.gm 0 _ rfl).2;replace hO:=(hO.nM .dead).nV;exact aG (QM1 (.inr rfl) hD (rs:=[.cell 4 25,.cell 5 28]) (xs:=[(eL aE s.2.2),(eI 0)]) (x:=(.tup [(eL aE s.2.2),(eI 0)])) (by kernel_rfl) (lR (lo:=lo1) (k:=1) (y:=(eL aE s.2.2)) (x:=(eL aE s.2.2)) 0 hO (by kernel_rfl) (by kernel_rfl) (by kernel_rfl) (by kernel_rfl) (lR (lo:=lo2) (k:=1) (y:=(eI 0)) (x:=(eI 0)) 1 hO (by kernel_rfl) (by kernel_rfl) (by kernel_rfl) (by kernel_rfl) nD)) (by kernel_rfl) ⟨rfl,hO.out⟩)
  ·dsimp only [Sum.elim_inr] at hi;obtain⟨lo7,rfl⟩:=hi;replace h0:(some (s.1,s.2.1))=some r:=h0;obtain⟨hlL,hO⟩:=mH hO;refine⟨_,_,hlL,(by intro e; cases e),?_⟩;refine bI ?_;replace hO:=hO.pick (L':=[(lo1,1,[(eL aE s.1)]),(lo2,1,[(eI s.2.1)])]) [0,1] (by decide) (by kernel_rfl);obtain rfl:=oI h0;have hD:=(hO.gm 0 _ rfl).2;replace hO:=(hO.nM .dead).nV;exact aG (bG (aT (QM1 (.inr rfl) hD (rs:=[.cell 4 25,.cell 5 28]) (xs:=[(eL aE s.1),(eI s.2.1)]) (x:=(.tup [(eL aE s.1),(eI s.2.1)])) (by kernel_rfl) (lR (lo:=lo1) (k:=1) (y:=(eL aE s.1)) (x:=(eL aE s.1)) 0 hO (by kernel_rfl) (by kernel_rfl) (by kernel_rfl) (by kernel_rfl) (lR (lo:=lo2) (k:=1) (y:=(eI s.2.1)) (x:=(eI s.2.1)) 1 hO (by kernel_rfl) (by kernel_rfl) (by kernel_rfl) (by kernel_rfl) nD)) (by kernel_rfl) ⟨rfl,hO.out⟩)))

theorem aB1 (l0:(List aF))(by1_f:Nat)(by1_a by1_c:List V)(by1:(List aB)->Option ((List aB)×Int))(by1_h:∀ a0 r,by1 a0=some r->dB Tryz.prog by1_f (by1_a++[(eL aL a0)]++by1_c) (.tup [(eL aL r.1),(eI r.2)]))(r:((List aF)×Int))(h0:BB l0 by1=some r):dB Tryz.prog 34 [(eL aE l0),(.fn (.func by1_f) by1_a by1_c)] (.tup [(eL aE r.1),(eI r.2)]):=by
 intro H0;refine cY Tryz.func34 ?_;have hO:=aN.start H0;unfold BB at h0;refine aX aC 2 [] [] ?_;refine aP ?_;refine aP ?_;refine aS aC 3 ?_;refine bH 1 ?_;obtain⟨x1,hx2,h0⟩:=aW h0;refine cW (xY l0 _ hx2) hO ?_;intro H hO;refine bA ?_;refine bP [] [(8,(aD (!x1)))] ?_;refine bL h0 (fun h0=>?_) (fun h0=>?_)
 ·refine bW aC 2 [(4,(.sl true 0 (fun _=>.bad))),(5,(eI 2))] ?_;refine bI ?_;refine dL (l:=[(4,(eL aE ([]))),(5,(eI 2))]) ⟨[(4,(.sl true 0 (fun _=>.bad))),(5,(eI 2))],by kernel_rfl,rfl,⟨eT,aR.refl _,trivial⟩⟩ ?_;obtain rfl:=oI h0;exact aG (aT (Q_r hO))
 refine bM ?_;refine bD [(0,(eL aE l0)),(1,(.fn (.func by1_f) by1_a by1_c))] ?_;refine aP ?_;refine aS aC 7 ?_;refine bH 2 ?_;obtain⟨x5,hx6,h0⟩:=aW h0;refine cW (VY l0 by1_f by1_a by1_c by1 by1_h _ hx6) hO ?_;intro H hO;refine bA ?_;refine bD [(4,(eL aE x5.1)),(5,(eI x5.2))] ?_;refine bI ?_;obtain rfl:=oI h0;exact aG (Q_r hO)

theorem zU (s0:(List aB))(r:(List aB))(h0:iU s0=some r):GG Tryz.prog 70 [(eL aL s0)] (fun lo=>(.msl 2 lo 0 (List.length r))) 2 (List.map aL r):=by
 intro H0;refine cY Tryz.func70 ?_;have hO:=aN.start H0;unfold iU at h0;refine aX aC 1 [] [] ?_;refine aP ?_;refine aP ?_;refine aS aC 2 ?_;refine bH 1 ?_;refine aFa false (List.length s0) (fun i=>aL (List.getD s0 i default)) (by kernel_rfl) (by kernel_rfl) ?_;intro b1 hn2;refine dA ?_;refine bP [] [(4,(aD b1))] ?_;refine mX (b1) (fun hc3=>?_) (fun hc3=>?_)
 ·replace h0:some ([]:List aB)=some r:=by
   have hl:=List.eq_nil_of_length_eq_zero (hn2 hc3);rw [hl] at h0;exact (bB h0).2
  refine bW aC 1 [(2,(.sl true 0 (fun _=>.bad)))] ?_;refine bI ?_;refine dP [(2,(.sl true 0 (fun _=>.bad)))] ?_;refine aDn (el:=(fun _=>.bad)) 0 2 2 hO (by kernel_rfl) ?_;intro lo4 H5 hO;obtain rfl:=oI h0;exact aG (aT (kC (x:=(.msl 2 lo4 0 (List.length ([]:List aB)))) (by kernel_rfl) (aR.refl _) ⟨lo4,rfl,hO⟩))
 ·refine bM ?_;refine bD [(0,(eL aL s0))] ?_;refine aP ?_;refine aS aC 4 ?_;refine pW [] 2 ?_;refine bH 2 ?_;obtain⟨c7,h0⟩:=bB h0;refine aA2 (e:=aL) s0 (fun _=>.bad) 2 16 (eL aL s0) (fun lo6=>[(lo6,2,List.map aL s0)]) (by kernel_rfl) (by kernel_rfl) hO (SM (fun _=>by kernel_rfl)) c7 (fun _=>by kernel_rfl) ?_;intro lo6 H hO;refine bA ?_;refine bD [(2,(.msl 2 lo6 0 (List.length s0)))] ?_;refine bI ?_;obtain rfl:=oI h0;exact aG (kC (x:=(.msl 2 lo6 0 (List.length s0))) (by kernel_rfl) (aR.refl _) ⟨lo6,rfl,hO⟩)

theorem aAE (f0:(List aB))(r:((List aB)×Int))(h0:wA f0=some r):dB Tryz.prog 71 [(eL aL f0)] (.tup [(eL aL r.1),(eI r.2)]):=by
 intro H0;refine cY Tryz.func71 ?_;have hO:=aN.start H0;unfold wA at h0;refine aX aC 2 [] [] ?_;refine aP ?_;refine aP ?_;refine aS aC 3 ?_;refine bH 1 ?_;obtain⟨x1,hx2,h0⟩:=aW h0;refine cW (xV f0 _ hx2) hO ?_;intro H hO;refine bA ?_;refine bP [] [(6,(aD (!x1)))] ?_;refine bL h0 (fun h0=>?_) (fun h0=>?_)
 ·refine bW aC 2 [(2,(.sl true 0 (fun _=>.bad))),(3,(eI 7))] ?_;refine bI ?_;refine dL (l:=[(2,(eL aL ([]))),(3,(eI 7))]) ⟨[(2,(.sl true 0 (fun _=>.bad))),(3,(eI 7))],by kernel_rfl,rfl,⟨eT,aR.refl _,trivial⟩⟩ ?_;obtain rfl:=oI h0;exact aG (aT (Q_r hO))
 refine bM ?_;refine bD [(0,(eL aL f0))] ?_;refine bW aC 3 [(2,(eL aL f0)),(3,(eI 0))] ?_;refine bI ?_;obtain rfl:=oI h0;exact aG (Q_r hO)

theorem ZF (f0:(List aB))(t1:Int)(r:((List aB)×Int))(h0:xA f0 t1=some r):dB Tryz.prog 36 [(eL aL f0),(eI t1)] (.tup [(eL aL r.1),(eI r.2)]):=by
 intro H0;refine cY Tryz.func36 ?_;have hO:=aN.start H0;unfold xA at h0;refine aX aC 2 [] [] ?_;refine aP ?_;refine aP ?_;refine aS aC 3 ?_;refine bH 1 ?_;obtain⟨x1,hx2,h0⟩:=aW h0;refine cW (xV f0 _ hx2) hO ?_;intro H hO;refine bA ?_;refine bP [] [(12,(aD (!x1)))] ?_;refine bL h0 (fun h0=>?_) (fun h0=>?_)
 ·refine bW aC 2 [(4,(.sl true 0 (fun _=>.bad))),(5,(eI 2))] ?_;refine bI ?_;refine dL (l:=[(4,(eL aL ([]))),(5,(eI 2))]) ⟨[(4,(.sl true 0 (fun _=>.bad))),(5,(eI 2))],by kernel_rfl,rfl,⟨eT,aR.refl _,trivial⟩⟩ ?_;obtain rfl:=oI h0;exact aG (aT (Q_r hO))
 refine bM ?_;refine bD [(0,(eL aL f0)),(1,(eI t1))] ?_;refine aP ?_;refine aX aC 2 [] [(14,(aD (decide ((1125899906842624:Int)<=t1))))] ?_;refine bL h0 (fun h0=>?_) (fun h0=>?_)
 ·refine aP ?_;refine aS aC 4 ?_;refine bH 1 ?_;obtain⟨x6,hx7,h0⟩:=aW h0;refine aBe (L':=fun lo8=>[(lo8,2,List.map aL x6)]) 2 (List.map aL x6) 70 [(eL aL f0)] (fun lo8=>(.msl 2 lo8 0 (List.length x6))) (by kernel_rfl) (by kernel_rfl) (zU f0 _ hx7) hO (fun _=>by kernel_rfl) ?_;intro lo8 H hO;refine bA ?_;refine bD [(4,(.msl 2 lo8 0 (List.length x6))),(5,(eI 0))] ?_;refine bI ?_;refine dP [(4,(.msl 2 lo8 0 (List.length x6))),(5,(eI 0))] ?_;refine sO (en:=aL) x6 0 0 4 2 lo8 (List.length x6) hO (by kernel_rfl) (by kernel_rfl) (by kernel_rfl) (L':=[]) (by kernel_rfl) ?_;intro H9 hO;obtain rfl:=oI h0;exact aG (aT (Q_r hO))
 refine bM ?_;refine bD [(0,(eL aL f0)),(1,(eI t1))] ?_;refine aP ?_;refine aS aC 3 ?_;refine pW [] 2 ?_;refine bA ?_;refine bP [] [(6,(.sl true 0 (fun _=>.bad))),(7,(eI 0))] ?_;refine eH (fun T H=>∃ out6:List aB,∃ v7:Int,∃ lo10:Nat,Has T [(1,(eI t1)),(6,(.msl 2 lo10 0 (List.length out6))),(7,(eI v7))]/\aN ⟨H0,[],[]⟩ H [(lo10,2,List.map aL out6)]/\rV t1 out6 v7=some r) ?_ ?_
 ·clear hO h0;rintro T H ⟨out6,v7,lo10,hT,hO,h0⟩;refine bF hT ?_;clear hT;unfold rV at h0;refine eH (fun T H=>∃ out6:List aB,∃ lo11:Nat,Has T [(6,(.msl 2 lo11 0 (List.length out6)))]/\aN ⟨H0,[],[]⟩ H [(lo11,2,List.map aL out6)]/\vA out6=some r) ?_ ?_
  ·clear hO h0;rintro T H ⟨out6,lo11,hT,hO,h0⟩;refine bF hT ?_;clear hT;unfold vA at h0;refine aP ?_;refine aS aC 6 ?_;refine KJ (e:=aL) out6 0 6 2 lo11 (List.length out6) [] (by kernel_rfl) hO (by kernel_rfl) (by kernel_rfl) (by kernel_rfl) (by kernel_rfl) ?_;intro H hO;refine bH 1 ?_;obtain⟨x12,hx13,h0⟩:=aW h0;refine cW (aAE out6 _ hx13) hO ?_;intro H hO;refine bA ?_;refine bD [(4,(eL aL x12.1)),(5,(eI x12.2))] ?_;refine bI ?_;obtain rfl:=oI h0;exact aG (Q_r hO)
  refine aX aC 2 [] [(38,(aD (!decide (v7=(0:Int)))))] ?_;refine bL h0 (fun h0=>?_) (fun h0=>?_)
  ·refine aS aC 8 ?_;refine bH 5 ?_;refine pW [(aL (aB.mk t1 (wR (0-v7))))] 2 ?_;obtain⟨c17,h0⟩:=bB h0;refine DB aL out6 ([aB.mk t1 (wR (0-v7))]) 0 lo10 2 16 (eP [(aL (aB.mk t1 (wR (0-v7))))]) (fun lo16=>[(lo16,2,List.map aL (out6++([aB.mk t1 (wR (0-v7))])))]) hO (by kernel_rfl) c17 ?_;intro lo16 H hO;refine bA ?_;exact aG (aH (⟨rfl,_,_,aZ,hO,h0⟩))
  refine bM ?_;exact aG (aH (⟨rfl,_,_,aZ,hO,h0⟩))
 refine aX aC 3 [0] [(18,(eL aL f0)),(19,(eI (lN f0))),(20,(eI 0))] ?_;refine bX 0 ?_;refine eC [(1,(eI t1)),(6,(.sl true 0 (fun _=>.bad))),(7,(eI 0)),(18,(eL aL f0)),(19,(eI (lN f0))),(20,(eI 0))] ?_;refine HK (el:=(fun _=>.bad)) 1 6 2 hO (by kernel_rfl) ?_;intro lo26 H27 hO;refine eD (fun T H=>∃ out6:List aB,∃ v7:Int,∃ t18:(List aB),∃ t19:Int,∃ t20:Int,∃ lo19:Nat,Has T [(1,(eI t1)),(6,(.msl 2 lo19 0 (List.length out6))),(7,(eI v7)),(18,(eL aL t18)),(19,(eI t19)),(20,(eI t20))]/\aN ⟨H0,[],[]⟩ H [(lo19,2,List.map aL out6)]/\yY t1 out6 v7 t18 t19 t20=some r) ?_ ⟨([]:List aB),(0:Int),f0,(lN f0),(0:Int),lo26,aZ,hO,h0⟩;clear hO h0;rintro T H ⟨out6,v7,t18,t19,t20,lo19,hT,hO,h0⟩;refine bF hT ?_;clear hT;unfold yY at h0;obtain⟨rr0,hl0,h0⟩:=aW h0;refine iM (fun (s:List aB×Int×Int) T H=>∃ lo19:Nat,Has T [(1,(eI t1)),(6,(.msl 2 lo19 0 (List.length s.1))),(7,(eI s.2.1)),(18,(eL aL t18)),(19,(eI t19)),(20,(eI s.2.2))]/\aN ⟨H0,[],[]⟩ H [(lo19,2,List.map aL s.1)]) hl0 ⟨lo19,aZ,hO⟩ ?_;clear hO;rintro k0 s out1 T H ⟨lo19,hT,hO⟩ h1 ho0;obtain⟨out6,v7,t20⟩:=s;replace h1:mB t1 t18 t19 out6 v7 t20=some out1:=h1
 try dsimp only at hT
 refine bF hT ?_;clear hT;unfold mB at h1;refine aX aC 1 [] [(21,(aD (decide (t20<t19))))] ?_;refine aP ?_;refine bL h1 (fun h1=>?_) (fun h1=>?_)
 ·refine bM ?_;refine bD [(1,(eI t1)),(6,(.msl 2 lo19 0 (List.length out6))),(7,(eI v7)),(18,(eL aL t18)),(19,(eI t19)),(20,(eI t20))] ?_;refine aP ?_;refine bX 1 ?_;refine aP ?_;refine aS aC 4 ?_;obtain⟨c21,h1⟩:=bB h1;refine rR 2 [0<=t20/\t20<(lN t18)] ⟨c21,trivial⟩ ?_;refine kM 2 (aL (aB.mk 0 0)) (by kernel_rfl) (by kernel_rfl) hO ?_;intro lo22 H hO;refine gL 1 lo22 2 0 (aL (aB.mk 0 0)) (aL (gD t18 t20)) [(aL (aB.mk 0 0))] [(lo19,2,List.map aL out6),(lo22,2,[(aL (gD t18 t20))])] hO rfl (by kernel_rfl) ?_;intro H hO;refine dA ?_;refine bP [] [(9,(.lp lo22 0 0))] ?_;refine aP ?_;refine aP ?_;refine aS aC 4 ?_;refine bH 1 ?_;refine iG 1 lo22 2 0 (aL (gD t18 t20)) (eI ((gD t18 t20).At)) [(aL (gD t18 t20))] hO rfl ?_;refine bA ?_;refine bP [] [(27,(aD (decide (t1<=((gD t18 t20).At)))))] ?_;refine bL h1 (fun h1=>?_) (fun h1=>?_)
  ·refine fP 0 ?_;replace hO:=hO.pick (L':=[(lo19,2,List.map aL out6)]) [0] (by decide) (by kernel_rfl);obtain rfl:=oI h1;obtain rfl:_=rr0:=ho0;replace h0:rV t1 out6 v7=some r:=h0;exact aG (aY (sS (by kernel_rfl) (aY (aY (bV (aH (⟨rfl,_,_,_,aZ,hO,h0⟩)))))))
  refine bM ?_;refine bD [(1,(eI t1)),(6,(.msl 2 lo19 0 (List.length out6))),(7,(eI v7)),(9,(.lp lo22 0 0)),(18,(eL aL t18)),(19,(eI t19)),(20,(eI t20))] ?_;refine aP ?_;refine aS aC 5 ?_;refine bH 1 ?_;refine iG 1 lo22 2 0 (aL (gD t18 t20)) (aL (gD t18 t20)) [(aL (gD t18 t20))] hO rfl ?_;refine pW [(aL (gD t18 t20))] 2 ?_;obtain⟨c25,h1⟩:=bB h1;refine DB aL out6 ([gD t18 t20]) 0 lo19 2 16 (eP [(aL (gD t18 t20))]) (fun lo24=>[(lo24,2,List.map aL (out6++([gD t18 t20]))),(lo22,2,[(aL (gD t18 t20))])]) hO (by kernel_rfl) c25 ?_;intro lo24 H hO;refine bA ?_;refine bP [6] [(6,(.msl 2 lo24 0 (List.length (out6++([gD t18 t20])))))] ?_;refine aS aC 5 ?_;refine bH 2 ?_;refine iG 1 lo22 2 0 (aL (gD t18 t20)) (eI ((gD t18 t20).Net)) [(aL (gD t18 t20))] hO rfl ?_;refine bA ?_;refine dP [(1,(eI t1)),(6,(.msl 2 lo24 0 (List.length (out6++([gD t18 t20]))))),(7,(eI (wR (v7+((gD t18 t20).Net))))),(18,(eL aL t18)),(19,(eI t19)),(20,(eI t20))] ?_;replace hO:=hO.pick (L':=[(lo24,2,List.map aL (out6++([gD t18 t20])))]) [0] (by decide) (by kernel_rfl);refine aG (aV (aH (?_)));refine aS aC 2 ?_;refine bA ?_;exact aG (aH (⟨rfl,_,(oI h1).symm,_,aZ,hO⟩))
 refine fP 0 ?_;obtain rfl:=oI h1;obtain rfl:_=rr0:=ho0;replace h0:rV t1 out6 v7=some r:=h0;exact aG (aY (aY (bV (aH (⟨rfl,_,_,_,aZ,hO,h0⟩)))))

theorem SO (f0:(List aB))(t1:Int)(r:((List aB)×Int))(h0:qO f0 t1=some r):dB Tryz.prog 35 [(eL aL f0),(.rp (eI t1))] (.tup [(eL aL r.1),(eI r.2)]):=by
 intro H0;refine cY Tryz.func35 ?_;have hO:=aN.start H0;unfold qO at h0;refine aX aC 2 [] [] ?_;refine aP ?_;refine aS aC 7 ?_;refine bH 2 ?_;obtain⟨x1,hx2,h0⟩:=aW h0;refine cW (ZF f0 t1 _ hx2) hO ?_;intro H hO;refine bA ?_;refine bD [(3,(eL aL x1.1)),(4,(eI x1.2))] ?_;refine bI ?_;obtain rfl:=oI h0;exact aG (Q_r hO)

theorem LH (l0:(List aF))(t1:Int)(r:((List aF)×Int))(h0:tL l0 t1=some r):dB Tryz.prog 15 [(eL aE l0),(eI t1)] (.tup [(eL aE r.1),(eI r.2)]):=by
 intro H0;refine cY Tryz.func15 ?_;have hO:=aN.start H0;unfold tL at h0;refine aP ?_;refine aS aC 3 ?_;refine kW 1 (eI t1) ?_;refine bA ?_;refine bP [1] [(3,(.rp (eI t1)))] ?_;refine aP ?_;refine aS aC 7 ?_;refine bH 2 ?_;obtain⟨x1,hx2,h0⟩:=aW h0;refine cW (aB1 l0 35 [] [(.rp (eI t1))] (fun y0=>qO y0 t1) (fun y0 r h=>SO y0 t1 r h) _ hx2) hO ?_;intro H hO;refine bA ?_;refine bD [(4,(eL aE x1.1)),(5,(eI x1.2))] ?_;refine bI ?_;obtain rfl:=oI h0;exact aG (Q_r hO)

theorem XM (a0:(List aF))(b1:(List aF))(r:Bool)(h0:wS a0 b1=some r):dB Tryz.prog 16 [(eL aE a0),(eL aE b1)] (aD r):=by
 intro H0;refine cY Tryz.func16 ?_;have hO:=aN.start H0;unfold wS at h0;refine aX aC 1 [] [] ?_;refine aP ?_;refine aX aC 5 [] [(10,(aD (!decide ((lN a0)=(lN b1)))))] ?_;refine bL h0 (fun h0=>?_) (fun h0=>?_)
 ·refine bW aC 1 [(4,(aD false))] ?_;refine bI ?_;obtain rfl:=oI h0;exact aG (aT (Q_r hO))
 refine bM ?_;refine bD [(0,(eL aE a0)),(1,(eL aE b1))] ?_;refine eH (fun T H=>Has T []/\aN ⟨H0,[],[]⟩ H []/\vS  = some r) ?_ ?_
 ·clear hO h0;rintro T H ⟨hT,hO,h0⟩;refine bF hT ?_;clear hT;unfold vS at h0;refine bW aC 1 [(4,(aD true))] ?_;refine bI ?_;obtain rfl:=oI h0;exact aG (Q_r hO)
 refine aX aC 1 [] [(5,(eI 0))] ?_;refine bX 0 ?_;refine eC [(0,(eL aE a0)),(1,(eL aE b1)),(5,(eI 0))] ?_;refine eD (fun T H=>∃ i5:Int,Has T [(0,(eL aE a0)),(1,(eL aE b1)),(5,(eI i5))]/\aN ⟨H0,[],[]⟩ H []/\zG a0 b1 i5=some r) ?_ ⟨(0:Int),aZ,hO,h0⟩;clear hO h0;rintro T H ⟨i5,hT,hO,h0⟩;refine bF hT ?_;clear hT;unfold zG at h0;obtain⟨rr0,hl0,h0⟩:=aW h0;refine iM (fun (s:Int) T H=>Has T [(0,(eL aE a0)),(1,(eL aE b1)),(5,(eI s))]/\aN ⟨H0,[],[]⟩ H []) hl0 ⟨aZ,hO⟩ ?_;clear hO;rintro k0 s out1 T H ⟨hT,hO⟩ h1 ho0;obtain⟨i5,rfl⟩:∃ x,x=s:=⟨_,rfl⟩;replace h1:rZ a0 b1 i5=some out1:=h1;refine bF hT ?_;clear hT;unfold rZ at h1;refine aP ?_;refine aX aC 4 [] [(14,(aD (decide (i5<(lN a0)))))] ?_;refine bL h1 (fun h1=>?_) (fun h1=>?_)
 ·refine bM ?_;refine bD [(0,(eL aE a0)),(1,(eL aE b1)),(5,(eI i5))] ?_;refine aP ?_;refine bX 1 ?_;refine aP ?_;obtain⟨c3,h1⟩:=bB h1;obtain⟨c4,h1⟩:=bB h1;obtain⟨c5,h1⟩:=bB h1;obtain⟨c6,h1⟩:=bB h1;obtain⟨c7,h1⟩:=bB h1;obtain⟨c8,h1⟩:=bB h1;obtain⟨x9,hx10,h1⟩:=aW h1;refine fS (fQ [21,26,33,38,46,51]) aC 38 ?_;refine qH (K:=fun T H=>Has (lift T) [(0,(eL aE a0)),(1,(eL aE b1)),(5,(eI i5)),(54,(aD (((!decide (((gD a0 i5).At)=((gD b1 i5).At)))||(!decide (((gD a0 i5).Net)=((gD b1 i5).Net))))||(!x9))))]/\aN ⟨H0,[],[]⟩ H []) ?_ ?_
  ·refine cJ 12 [0<=i5/\i5<(lN a0),0<=i5/\i5<(lN b1)] ⟨c3,c4,trivial⟩ ?_;refine nZ (t:=28) (e := !decide (((gD a0 i5).At)=((gD b1 i5).At))) (by kernel_rfl) (fun hg11=>?_) (fun hg11=>?_)
   ·refine jK ?_;exact⟨⟨[(0,(eL aE a0)),(1,(eL aE b1)),(5,(eI i5)),(54,(aD true))],by kernel_rfl,rfl,⟨aR.refl _,aR.refl _,aR.refl _,aR.eq (congrArg aD (BZ (BZ hg11 rfl) rfl).symm),trivial⟩⟩,hO⟩
   refine cJ 25 [0<=i5/\i5<(lN a0),0<=i5/\i5<(lN b1)] ⟨(c5 (AK hg11)),(c6 (AK hg11)),trivial⟩ ?_;refine nZ (t:=41) (e := !decide (((gD a0 i5).Net)=((gD b1 i5).Net))) (by kernel_rfl) (fun hg12=>?_) (fun hg12=>?_)
   ·refine jK ?_;exact⟨⟨[(0,(eL aE a0)),(1,(eL aE b1)),(5,(eI i5)),(54,(aD true))],by kernel_rfl,rfl,⟨aR.refl _,aR.refl _,aR.refl _,aR.eq (congrArg aD (BZ (BZ hg11 hg12) rfl).symm),trivial⟩⟩,hO⟩
   refine cJ 35 [0<=i5/\i5<(lN a0),0<=i5/\i5<(lN b1)] ⟨(c7 (AK (BZ hg11 hg12))),(c8 (AK (BZ hg11 hg12))),trivial⟩ ?_;refine oL 37 [(eL aJ ((gD a0 i5).Row)),(eL aJ ((gD b1 i5).Row))] (aD x9) (by kernel_rfl) (by kernel_rfl) (LU ((gD a0 i5).Row) ((gD b1 i5).Row) _ (iC hx10 (AK (BZ hg11 hg12)))) hO ?_;intro H hO;refine jK ?_;exact⟨⟨[(0,(eL aE a0)),(1,(eL aE b1)),(5,(eI i5)),(54,(aD (!x9)))],by kernel_rfl,rfl,⟨aR.refl _,aR.refl _,aR.refl _,aR.eq (congrArg aD (BZ (BZ hg11 hg12) rfl).symm),trivial⟩⟩,hO⟩
  ·rintro T H ⟨hT,hO⟩;refine dL hT ?_;clear hT;refine aG (aH ?_);refine bL h1 (fun h1=>?_) (fun h1=>?_)
   ·refine bW aC 1 [(4,(aD false))] ?_;refine bI ?_;obtain rfl:=oI h1;obtain rfl:_=rr0:=ho0;replace h0:some false=some r:=h0;obtain rfl:=oI h0;exact aG (bG (aT (aT (bG (aT (Q_r hO))))))
   refine bM ?_;refine dP [(0,(eL aE a0)),(1,(eL aE b1)),(5,(eI i5))] ?_;refine aG (aV (aH (?_)));refine aS aC 3 ?_;refine bA ?_;exact aG (aH (⟨rfl,_,(oI h1).symm,aZ,hO⟩))
 refine fP 0 ?_;obtain rfl:=oI h1;obtain rfl:_=rr0:=ho0;replace h0:vS  = some r:=h0;exact aG (aY (aY (bV (aH (⟨rfl,aZ,hO,h0⟩)))))

theorem JN (l0:(List aK))(t1:Int)(r:(List aK))(h0:rU l0 t1=some r):dB Tryz.prog 17 [(eL aO l0),(eI t1)] (eL aO r):=by
 intro H0;refine cY Tryz.func17 ?_;have hO:=aN.start H0;unfold rU at h0;refine aX aC 1 [] [] ?_;refine aP ?_;refine aS aC 2 ?_;refine pW [] 3 ?_;refine bA ?_;refine bP [] [(5,(.sl true 0 (fun _=>.bad)))] ?_;refine eH (fun T H=>∃ out5:List aK,∃ lo1:Nat,Has T [(5,(.msl 3 lo1 0 (List.length out5)))]/\aN ⟨H0,[],[]⟩ H [(lo1,3,List.map aO out5)]/\tQ out5=some r) ?_ ?_
 ·clear hO h0;rintro T H ⟨out5,lo1,hT,hO,h0⟩;refine bF hT ?_;clear hT;unfold tQ at h0;refine bW aC 2 [(4,(.msl 3 lo1 0 (List.length out5)))] ?_;refine bI ?_;refine dP [(4,(.msl 3 lo1 0 (List.length out5)))] ?_;refine sO (en:=aO) out5 0 0 4 3 lo1 (List.length out5) hO (by kernel_rfl) (by kernel_rfl) (by kernel_rfl) (L':=[]) (by kernel_rfl) ?_;intro H2 hO;obtain rfl:=oI h0;exact aG (Q_r hO)
 refine aX aC 1 [] [(6,(eI 0))] ?_;refine bX 0 ?_;refine eC [(0,(eL aO l0)),(1,(eI t1)),(5,(.sl true 0 (fun _=>.bad))),(6,(eI 0))] ?_;refine HK (el:=(fun _=>.bad)) 2 5 3 hO (by kernel_rfl) ?_;intro lo14 H15 hO;refine eD (fun T H=>∃ out5:List aK,∃ i6:Int,∃ lo4:Nat,Has T [(0,(eL aO l0)),(1,(eI t1)),(5,(.msl 3 lo4 0 (List.length out5))),(6,(eI i6))]/\aN ⟨H0,[],[]⟩ H [(lo4,3,List.map aO out5)]/\xT l0 t1 out5 i6=some r) ?_ ⟨([]:List aK),(0:Int),lo14,aZ,hO,h0⟩;clear hO h0;rintro T H ⟨out5,i6,lo4,hT,hO,h0⟩;refine bF hT ?_;clear hT;unfold xT at h0;obtain⟨rr0,hl0,h0⟩:=aW h0;refine iM (fun (s:List aK×Int) T H=>∃ lo4:Nat,Has T [(0,(eL aO l0)),(1,(eI t1)),(5,(.msl 3 lo4 0 (List.length s.1))),(6,(eI s.2))]/\aN ⟨H0,[],[]⟩ H [(lo4,3,List.map aO s.1)]) hl0 ⟨lo4,aZ,hO⟩ ?_;clear hO;rintro k0 s out1 T H ⟨lo4,hT,hO⟩ h1 ho0;obtain⟨out5,i6⟩:=s;replace h1:qV l0 t1 out5 i6=some out1:=h1
 try dsimp only at hT
 refine bF hT ?_;clear hT;unfold qV at h1;refine aP ?_;refine aX aC 4 [] [(12,(aD (decide (i6<(lN l0)))))] ?_;refine bL h1 (fun h1=>?_) (fun h1=>?_)
 ·refine bM ?_;refine bD [(0,(eL aO l0)),(1,(eI t1)),(5,(.msl 3 lo4 0 (List.length out5))),(6,(eI i6))] ?_;refine eH (fun T H=>∃ out5:List aK,∃ lo6:Nat,Has T [(0,(eL aO l0)),(1,(eI t1)),(5,(.msl 3 lo6 0 (List.length out5))),(6,(eI i6))]/\aN ⟨H0,[],[]⟩ H [(lo6,3,List.map aO out5)]/\tU l0 t1 out5 i6=some out1) ?_ ?_
  ·clear hO h1;rintro T H ⟨out5,lo6,hT,hO,h1⟩;refine bF hT ?_;clear hT;unfold tU at h1;refine aS aC 3 ?_;refine bA ?_;exact aG (aH (⟨rfl,_,(oI h1).symm,_,aZ,hO⟩))
  refine bX 1 ?_;refine aP ?_;refine aS aC 6 ?_;obtain⟨c7,h1⟩:=bB h1;refine rR 4 [0<=i6/\i6<(lN l0)] ⟨c7,trivial⟩ ?_;refine nU 3 (.agg [(eI 0),(eI 0),(.sl true 0 (fun _=>.bad))]) (aO (aK.mk (bJ.mk 0 0) ([]))) (by kernel_rfl) (by kernel_rfl) (by kernel_rfl) (xO (xs:=[(eI 0),(eI 0),(.sl true 0 (fun _=>.bad))]) (ys:=[(eI 0),(eI 0),(eL bK ([]))]) ⟨aR.refl _,aR.refl _,eT,trivial⟩) (by kernel_rfl) (by kernel_rfl) hO ?_;intro lo8 H hO;refine gL 1 lo8 3 0 (aO (aK.mk (bJ.mk 0 0) ([]))) (aO (gD l0 i6)) [(aO (aK.mk (bJ.mk 0 0) ([])))] [(lo4,3,List.map aO out5),(lo8,3,[(aO (gD l0 i6))])] hO rfl (by kernel_rfl) ?_;intro H hO;refine dA ?_;refine bP [] [(7,(.lp lo8 0 0))] ?_;refine eH (fun T H=>∃ out5:List aK,∃ p7:aK,∃ lo9:Nat,Has T [(0,(eL aO l0)),(1,(eI t1)),(5,(.msl 3 lo9 0 (List.length out5))),(6,(eI i6)),(7,(.lp lo8 0 0))]/\aN ⟨H0,[],[]⟩ H [(lo9,3,List.map aO out5),(lo8,3,[(aO p7)])]/\qS l0 t1 out5 i6 p7=some out1) ?_ ?_
  ·clear hO h1;rintro T H ⟨out5,p7,lo9,hT,hO,h1⟩;refine bF hT ?_;clear hT;unfold qS at h1;refine aP ?_;refine aS aC 5 ?_;refine bH 2 ?_;refine iG 1 lo8 3 0 (aO p7) (eI p7.Span.From) [(aO p7)] hO rfl ?_;refine bA ?_;refine bP [] [(31,(aD (decide (p7.Span.From<t1))))] ?_;refine bL h1 (fun h1=>?_) (fun h1=>?_)
   ·refine aS aC 5 ?_;refine bH 1 ?_;refine iG 1 lo8 3 0 (aO p7) (aO p7) [(aO p7)] hO rfl ?_;refine pW [(aO p7)] 3 ?_;obtain⟨c12,h1⟩:=bB h1;refine DB aO out5 ([p7]) 0 lo9 3 40 (eP [(aO p7)]) (fun lo11=>[(lo11,3,List.map aO (out5++([p7]))),(lo8,3,[(aO p7)])]) hO (by kernel_rfl) c12 ?_;intro lo11 H hO;refine bA ?_;replace hO:=hO.pick (L':=[(lo11,3,List.map aO (out5++([p7])))]) [0] (by decide) (by kernel_rfl);exact aG (aV (aH (⟨rfl,_,_,aZ,hO,h1⟩)))
   refine bM ?_;replace hO:=hO.pick (L':=[(lo9,3,List.map aO out5)]) [0] (by decide) (by kernel_rfl);exact aG (aV (aH (⟨rfl,_,_,aZ,hO,h1⟩)))
  refine aP ?_;refine aS aC 5 ?_;refine bH 2 ?_;refine iG 1 lo8 3 0 (aO (gD l0 i6)) (eI (((gD l0 i6).Span).To)) [(aO (gD l0 i6))] hO rfl ?_;refine bA ?_;refine bP [] [(23,(aD (decide (t1<(((gD l0 i6).Span).To)))))] ?_;refine bL h1 (fun h1=>?_) (fun h1=>?_)
  ·refine aS aC 4 ?_;refine bH 3 ?_;refine gL 1 lo8 3 0 (aO (gD l0 i6)) (aO (aK.mk (bJ.mk ((gD l0 i6).Span).From t1) (gD l0 i6).Rows)) [(aO (gD l0 i6))] [(lo4,3,List.map aO out5),(lo8,3,[(aO (aK.mk (bJ.mk ((gD l0 i6).Span).From t1) (gD l0 i6).Rows))])] hO rfl (by kernel_rfl) ?_;intro H hO;refine dA ?_;exact aG (aH (⟨rfl,_,_,_,aZ,hO,h1⟩))
  refine bM ?_;exact aG (aH (⟨rfl,_,_,_,aZ,hO,h1⟩))
 refine fP 0 ?_;obtain rfl:=oI h1;obtain rfl:_=rr0:=ho0;replace h0:tQ out5=some r:=h0;exact aG (aY (aY (bV (aH (⟨rfl,_,_,aZ,hO,h0⟩)))))

theorem HQ (w0:bY)(l1:(List aF))(m2:(List aF))(t3:Int)(r:Bool)(h0:pR w0 l1 m2 t3=some r):dB Tryz.prog 5 [(cQ w0),(eL aE l1),(eL aE m2),(eI t3)] (aD r):=by
 intro H0;refine cY Tryz.func5 ?_;have hO:=aN.start H0;unfold pR at h0;refine aP ?_;refine aS aC 2 ?_;refine kW 3 (cQ w0) ?_;refine bA ?_;refine bP [0] [(4,(.rp (cQ w0)))] ?_;refine aP ?_;refine aS aC 8 ?_;refine bH 2 ?_;obtain⟨x1,hx2,h0⟩:=aW h0;refine cW (LH l1 t3 _ hx2) hO ?_;intro H hO;refine bA ?_;refine bP [] [(9,(eL aE x1.1)),(10,(eI x1.2))] ?_;refine aP ?_;refine aS aC 8 ?_;refine bH 2 ?_;obtain⟨x4,hx5,h0⟩:=aW h0;refine cW (LH m2 t3 _ hx5) hO ?_;intro H hO;refine bA ?_;refine bP [] [(11,(eL aE x4.1)),(12,(eI x4.2))] ?_;refine aP ?_;refine aP ?_;refine aS aC 16 ?_;refine bH 9 ?_;obtain⟨x7,hx8,h0⟩:=aW h0;refine lQ [(39,false)] 16 [(eL aE x1.1),(eL aE x4.1)] (aD x7) (!((!decide (x1.2=(0:Int)))||(!decide (x4.2=(0:Int))))) (by kernel_rfl) (by kernel_rfl) (by kernel_rfl) (fun hb9=>(XM x1.1 x4.1 _ (iC hx8 hb9))) hO ?_;intro H hO;refine bA ?_;refine bP [9,10,11,12] [(48,(aD ((((!decide (x1.2=(0:Int)))||(!decide (x4.2=(0:Int))))||(!x7))||(decide ((1125899906842624:Int)<=t3)))))] ?_;refine bL h0 (fun h0=>?_) (fun h0=>?_)
 ·refine aP ?_;refine aS aC 2 ?_;obtain⟨x11,hx12,h0⟩:=aW h0;refine cW (AU  _ hx12) hO ?_;intro H hO;refine bA ?_;refine bD [(8,(aD x11))] ?_;refine bI ?_;obtain rfl:=oI h0;exact aG (aT (Q_r hO))
 refine bM ?_;refine bD [(1,(eL aE l1)),(2,(eL aE m2)),(3,(eI t3)),(4,(.rp (cQ w0)))] ?_;refine aP ?_;refine aS aC 9 ?_;refine bH 3 ?_;obtain⟨x14,hx15,h0⟩:=aW h0;refine cW (BM w0 l1 t3 _ hx15) hO ?_;intro H hO;refine bA ?_;refine bP [] [(13,(eI x14.1)),(14,(eI x14.2))] ?_;refine aP ?_;refine aS aC 9 ?_;refine bH 3 ?_;obtain⟨x17,hx18,h0⟩:=aW h0;refine cW (BM w0 m2 t3 _ hx18) hO ?_;intro H hO;refine bA ?_;refine bP [] [(15,(eI x17.1)),(16,(eI x17.2))] ?_;refine aP ?_;refine aX aC 6 [14,16] [(69,(aD ((!decide (x14.2=(0:Int)))||(!decide (x17.2=(0:Int))))))] ?_;refine bL h0 (fun h0=>?_) (fun h0=>?_)
 ·refine aP ?_;refine aS aC 2 ?_;obtain⟨x21,hx22,h0⟩:=aW h0;refine cW (AU  _ hx22) hO ?_;intro H hO;refine bA ?_;refine bD [(8,(aD x21))] ?_;refine bI ?_;obtain rfl:=oI h0;exact aG (aT (Q_r hO))
 refine bM ?_;refine bD [(1,(eL aE l1)),(2,(eL aE m2)),(3,(eI t3)),(4,(.rp (cQ w0))),(13,(eI x14.1)),(15,(eI x17.1))] ?_;refine aP ?_;refine aS aC 9 ?_;refine bH 3 ?_;obtain⟨x24,hx25,h0⟩:=aW h0;refine cW (BU w0 l1 (0:Int) t3 _ hx25) hO ?_;intro H hO;refine bA ?_;refine bP [1] [(17,(eL aO x24.1)),(18,(eI x24.2))] ?_;refine aP ?_;refine aS aC 9 ?_;refine bH 3 ?_;obtain⟨x27,hx28,h0⟩:=aW h0;refine cW (BU w0 m2 (0:Int) t3 _ hx28) hO ?_;intro H hO;refine bA ?_;refine bP [2,3,4] [(19,(eL aO x27.1)),(20,(eI x27.2))] ?_;refine aP ?_;refine aX aC 3 [15] [(87,(aD (!decide (x14.1=x17.1))))] ?_;refine bL h0 (fun h0=>?_) (fun h0=>?_)
 ·refine bW aC 1 [(8,(aD false))] ?_;refine bI ?_;obtain rfl:=oI h0;exact aG (aT (Q_r hO))
 refine bM ?_;refine bD [(13,(eI x14.1)),(17,(eL aO x24.1)),(18,(eI x24.2)),(19,(eL aO x27.1)),(20,(eI x27.2))] ?_;refine aP ?_;refine aX aC 6 [18,20] [(93,(aD ((!decide (x24.2=(0:Int)))||(!decide (x27.2=(0:Int))))))] ?_;refine bL h0 (fun h0=>?_) (fun h0=>?_)
 ·refine aP ?_;refine aS aC 2 ?_;obtain⟨x32,hx33,h0⟩:=aW h0;refine cW (AU  _ hx33) hO ?_;intro H hO;refine bA ?_;refine bD [(8,(aD x32))] ?_;refine bI ?_;obtain rfl:=oI h0;exact aG (aT (Q_r hO))
 refine bM ?_;refine bD [(13,(eI x14.1)),(17,(eL aO x24.1)),(19,(eL aO x27.1))] ?_;refine aP ?_;refine aS aC 11 ?_;obtain⟨x35,hx36,h0⟩:=aW h0;refine cW (AU  _ hx36) hO ?_;intro H hO;refine bH 4 ?_;obtain⟨x38,hx39,h0⟩:=aW h0;refine lQ [(96,true)] 17 [(eL aO x24.1),(eI x14.1)] (eL aO x38) x35 (by kernel_rfl) (by kernel_rfl) (by kernel_rfl) (fun hb40=>(JN x24.1 x14.1 _ (iC hx39 hb40))) hO ?_;intro H hO;refine bH 7 ?_;obtain⟨x41,hx42,h0⟩:=aW h0;refine lQ [(96,true)] 17 [(eL aO x27.1),(eI x14.1)] (eL aO x41) x35 (by kernel_rfl) (by kernel_rfl) (by kernel_rfl) (fun hb43=>(JN x27.1 x14.1 _ (iC hx42 hb43))) hO ?_;intro H hO;obtain⟨x44,hx45,h0⟩:=aW h0;refine lQ [(96,true)] 14 [(eL aO x38),(eL aO x41)] (aD x44) x35 (by kernel_rfl) (by kernel_rfl) (by kernel_rfl) (fun hb46=>(ZM x38 x41 _ (iC hx45 hb46))) hO ?_;intro H hO;refine bA ?_;refine bD [(8,(aD (x35&&x44)))] ?_;refine bI ?_;obtain rfl:=oI h0;exact aG (Q_r hO)

end Go.Abs
namespace Go.Abs
open Go Go.RowKit Go.Proofs
theorem JP {H:Type}{enc:TypeId×Value->H}{w:World}:yA enc Tryz.prog w 24 cQ zF :=
  EB Tryz.underlying24 (by kernel_rfl) (oX (c':=FD) (ok':=zF) (fun (a:Int) (b:Int×Int×Unit)=>(bY.mk a b.1 b.2.1:bY)) (by kernel_rfl) (wU Tryz.underlying22) (oX (c':=fun (b:Int×Int×Unit)=>(V.cells (cT .i64 b.1)++(V.cells (cT .i64 b.2.1)++[]))) (ok':=fun b=>(wD b.1/\(wD b.2.1/\True))) (fun a b=>(a,b)) (by kernel_rfl) (wU Tryz.underlying3) (oX (c':=fun (b:Int×Unit)=>(V.cells (cT .i64 b.1)++[])) (ok':=fun b=>(wD b.1/\True)) (fun a b=>(a,b)) (by kernel_rfl) (wU Tryz.underlying3) (HY ()) (fun _ _=>rfl) (fun _ _ h1 h2=>⟨h1,h2⟩)) (fun _ _=>rfl) (fun _ _ h1 h2=>⟨h1,h2⟩)) (fun _ _=>rfl) (fun _ _ h1 h2=>⟨h1,h2⟩))

theorem LO {H:Type}{enc:TypeId×Value->H}{w:World}:yA enc Tryz.prog w 50 aJ EH :=
  EB Tryz.underlying50 (by kernel_rfl) (oX (c':=NQ) (ok':=EH) (fun (a:Int) (b:Int×ByteArray×Unit)=>(aI.mk a b.1 b.2.1:aI)) (by kernel_rfl) (wU Tryz.underlying48) (oX (c':=fun (b:Int×ByteArray×Unit)=>(V.cells (cT .i64 b.1)++(V.cells (BV b.2.1)++[]))) (ok':=fun b=>(wD b.1/\((fun s=>s.size<=maxLen) b.2.1/\True))) (fun a b=>(a,b)) (by kernel_rfl) (wU Tryz.underlying3) (oX (c':=fun (b:ByteArray×Unit)=>(V.cells (BV b.1)++[])) (ok':=fun b=>((fun s=>s.size<=maxLen) b.1/\True)) (fun a b=>(a,b)) (by kernel_rfl) (YY Tryz.underlying9) (HY ()) (fun _ _=>rfl) (fun _ _ h1 h2=>⟨h1,h2⟩)) (fun _ _=>rfl) (fun _ _ h1 h2=>⟨h1,h2⟩)) (fun _ _=>rfl) (fun _ _ h1 h2=>⟨h1,h2⟩))

theorem DE {H:Type}{enc:TypeId×Value->H}{w:World}:yA enc Tryz.prog w 47 aE sU :=
  EB Tryz.underlying47 (by kernel_rfl) (oX (c':=RE) (ok':=sU) (fun (a:(List aI)) (b:Int×Int×Unit)=>(aF.mk a b.1 b.2.1:aF)) (by kernel_rfl) (aAI Tryz.underlying45 (by decide +kernel) (fun _=>by kernel_rfl) (fun _=>rfl) LO (by kernel_rfl)) (oX (c':=fun (b:Int×Int×Unit)=>(V.cells (cT .i64 b.1)++(V.cells (cT .i64 b.2.1)++[]))) (ok':=fun b=>(wD b.1/\(wD b.2.1/\True))) (fun a b=>(a,b)) (by kernel_rfl) (wU Tryz.underlying3) (oX (c':=fun (b:Int×Unit)=>(V.cells (cT .i64 b.1)++[])) (ok':=fun b=>(wD b.1/\True)) (fun a b=>(a,b)) (by kernel_rfl) (wU Tryz.underlying3) (HY ()) (fun _ _=>rfl) (fun _ _ h1 h2=>⟨h1,h2⟩)) (fun _ _=>rfl) (fun _ _ h1 h2=>⟨h1,h2⟩)) (fun _ _=>rfl) (fun _ _ h1 h2=>⟨h1,h2⟩))

end Go.Abs
namespace Go.Abs
open Go
theorem cZ {n:Int}(h1 : -9223372036854775808<=n)(h2:n<=9223372036854775807):IntKind.i64.wrap n=n:=by
 simp only [IntKind.wrap,IntKind.bits,IntKind.signed];simp;split <;> omega

def pL {α st R:Type}(step:st->α->Option (st⊕R))(fin:st->R):st->List α->Option R
 | s,[]=>some (fin s)
 | s,a::r=>match step s a with
  | some (.inl s')=>pL step fin s' r
  | some (.inr x)=>some x
  | none=>none

theorem JE {α st R:Type}{step:st->α->Option (st⊕R)}{fin:st->R}{s s':st}{a:α}{r:List α}(h:step s a=some (.inl s')):pL step fin s (a::r)=pL step fin s' r:=by
 simp only [pL,h]

theorem ID {α st R:Type}{step:st->α->Option (st⊕R)}{fin:st->R}{s:st}{x:R}{a:α}{r:List α}(h:step s a=some (.inr x)):pL step fin s (a::r)=some x:=by
 simp only [pL,h]

theorem aBh {α S st R:Type} {body:S->Option (S⊕R)} {l:List α} (mk:st->Int->S) (step:st->α->Option (st⊕R)) (fin:st->R)
  (hn:∀ (i:Nat) a s,l[i]?=some a->(∀ s',step s a=some (.inl s')->body (mk s i)=some (.inl (mk s' ((i+1:Nat):Int))))/\(∀ x,step s a=some (.inr x)->body (mk s i)=some (.inr x)))
  (he:∀ s,body (mk s (l.length:Nat))=some (.inr (fin s))):∀ (m k:Nat) (s:st) (r:R),l.length-k=m->k<=l.length->pL step fin s (l.drop k)=some r->lp body (mk s k)=some r
 | 0,k,s,r,hm,hk,h=>by
  have : k=l.length:=by omega
  subst this;rw [List.drop_length] at h;simp only [pL,Option.some.injEq] at h;subst h;exact dF (he s)
 | m+1,k,s,r,hm,hk,h=>by
  have hlt:k<l.length:=by omega
  have hd:l.drop k=l[k]::l.drop (k+1):=List.drop_eq_getElem_cons hlt;rw [hd] at h;simp only [pL] at h;obtain⟨h1,h2⟩:=hn k l[k] s (List.getElem?_eq_getElem hlt);split at h
  ·rename_i s' hs
   rw [fT (h1 s' hs)];exact aBh mk step fin hn he m (k+1) s' r (by omega) (by omega) h
  ·rename_i x hs
   simp at h; subst h;exact dF (h2 x hs)
  ·cases h

theorem XJ {α S st R:Type} {body:S->Option (S⊕R)} {l:List α} (mk:st->Int->S) (step:st->α->Option (st⊕R)) (fin:st->R)
  (hn:∀ (i:Nat) a s,l[i]?=some a->(∀ s',step s a=some (.inl s')->body (mk s i)=some (.inl (mk s' ((i+1:Nat):Int))))/\(∀ x,step s a=some (.inr x)->body (mk s i)=some (.inr x)))
  (he:∀ s,body (mk s (l.length:Nat))=some (.inr (fin s))) {s:st} {r:R} (h:pL step fin s l=some r):lp body (mk s 0)=some r :=
 aBh mk step fin hn he _ 0 s r rfl (Nat.zero_le _) (by simpa using h)

theorem XY {α S st R:Type} {body:S->Option (S⊕R)} {l:List α} (mk:st->Int->S) (step:st->α->Option (st⊕R)) (fin:st->R) (Inv:Nat->st->Prop)
  (hn:∀ (i:Nat) a s,Inv i s->l[i]?=some a->(∀ s',step s a=some (.inl s')->Inv (i+1) s'/\body (mk s i)=some (.inl (mk s' ((i+1:Nat):Int))))/\(∀ x,step s a=some (.inr x)->body (mk s i)=some (.inr x)))
  (he:∀ s,Inv l.length s->body (mk s (l.length:Nat))=some (.inr (fin s))):∀ (m k:Nat) (s:st) (r:R),l.length-k=m->k<=l.length->Inv k s->pL step fin s (l.drop k)=some r->lp body (mk s k)=some r
 | 0,k,s,r,hm,hk,hi,h=>by
  have : k=l.length:=by omega
  subst this;rw [List.drop_length] at h;simp only [pL,Option.some.injEq] at h;subst h;exact dF (he s hi)
 | m+1,k,s,r,hm,hk,hi,h=>by
  have hlt:k<l.length:=by omega
  have hd:l.drop k=l[k]::l.drop (k+1):=List.drop_eq_getElem_cons hlt;rw [hd] at h;simp only [pL] at h;obtain⟨h1,h2⟩:=hn k l[k] s hi (List.getElem?_eq_getElem hlt);split at h
  ·rename_i s' hs
   obtain⟨hi',hb⟩:=h1 s' hs;rw [fT hb];exact XY mk step fin Inv hn he m (k+1) s' r (by omega) (by omega) hi' h
  ·rename_i x hs
   simp at h; subst h;exact dF (h2 x hs)
  ·cases h

theorem aCI {α S st R:Type} {body:S->Option (S⊕R)} {l:List α} (mk:st->Int->S) (step:st->α->Option (st⊕R)) (fin:st->R) (Inv:Nat->st->Prop)
  (hn:∀ (i:Nat) a s,Inv i s->l[i]?=some a->(∀ s',step s a=some (.inl s')->Inv (i+1) s'/\body (mk s i)=some (.inl (mk s' ((i+1:Nat):Int))))/\(∀ x,step s a=some (.inr x)->body (mk s i)=some (.inr x)))
  (he:∀ s,Inv l.length s->body (mk s (l.length:Nat))=some (.inr (fin s))) {s:st} {r:R} (hi:Inv 0 s) (h:pL step fin s l=some r):lp body (mk s 0)=some r :=
 XY mk step fin Inv hn he _ 0 s r rfl (Nat.zero_le _) hi (by simpa using h)

theorem idx {α:Type}[Inhabited α]{l:List α}{i:Nat}{a:α}(h:l[i]?=some a)(hl:l.length<4611686018427387904) :
  decide ((i:Int)<((l.length:Nat):Int))=true/\(0<=(i:Int)/\(i:Int)<((l.length:Nat):Int))/\l.getD (Int.toNat (i:Int)) default=a/\IntKind.i64.wrap ((i:Int)+1)=((i+1:Nat):Int):=by
 have hlt:i<l.length:=(List.getElem?_eq_some_iff.1 h).1;refine⟨by simpa using hlt,⟨by omega,by omega⟩,?_,?_⟩
 ·rw [Int.toNat_natCast,List.getD_eq_getElem?_getD,h]; rfl
 ·rw [cZ (by omega) (by omega)]; omega

theorem jS {n:Nat}:decide (((n:Nat):Int)<((n:Nat):Int))=false:=by simp

theorem aG0 {α:Type}{j:α}{r:List α}:(0:Int)<=0/\(0:Int)<((List.length (j::r):Nat):Int):=⟨by omega,by simp⟩

theorem aGE {α:Type}[Inhabited α]{j:α}{r:List α}:List.getD (j::r) (Int.toNat (0:Int)) default=j:=rfl

end Go.Abs
namespace Go.Abs
open Go
theorem drop_cons {α:Type}{l r:List α}{a:α}{k:Nat}(h:l.drop k=a::r):l[k]?=some a/\l.drop (k+1)=r:=by
 have hk:k<l.length:=by
  apply Classical.byContradiction; intro hn;rw [List.drop_eq_nil_of_le (by omega)] at h; cases h
 rw [List.drop_eq_getElem_cons hk] at h;obtain⟨h1,h2⟩:=List.cons.inj h;exact⟨by rw [List.getElem?_eq_getElem hk,h1],h2⟩

theorem aDd {α S st R:Type} {body:S->Option (S⊕R)} {l:List α} (mk:st->Int->S) (G:st->List α->R) (Inv:st->List α->Prop)
  (hn:∀ (i:Nat) a r s,l[i]?=some a->Inv s (a::r)->(∃ s',body (mk s i)=some (.inl (mk s' ((i+1:Nat):Int)))/\Inv s' r/\G s' r=G s (a::r))∨body (mk s i)=some (.inr (G s (a::r))))
  (he:∀ s,Inv s []->body (mk s (l.length:Nat))=some (.inr (G s []))):∀ (r:List α) (k:Nat) (s:st),l.drop k=r->k<=l.length->Inv s r->lp body (mk s k)=some (G s r)
 | [],k,s,hd,hk,hi=>by
  have : k=l.length:=by
   have:=congrArg List.length hd;simp only [List.length_drop,List.length_nil] at this; omega
  subst this;exact dF (he s hi)
 | a::r,k,s,hd,hk,hi=>by
  obtain⟨h1,h2⟩:=drop_cons hd;have hlt:k<l.length:=(List.getElem?_eq_some_iff.1 h1).1;rcases hn k a r s h1 hi with ⟨s',hb,hi',hg⟩ | hb
  ·rw [fT hb,aDd mk G Inv hn he r (k+1) s' h2 (by omega) hi',hg]
  ·exact dF hb

theorem vV {α S st R:Type} {body:S->Option (S⊕R)} {l:List α} (mk:st->Int->S) (G:st->List α->R) (Inv:st->List α->Prop) (s:st)
  (hn:∀ (i:Nat) a r s,l[i]?=some a->Inv s (a::r)->(∃ s',body (mk s i)=some (.inl (mk s' ((i+1:Nat):Int)))/\Inv s' r/\G s' r=G s (a::r))∨body (mk s i)=some (.inr (G s (a::r))))
  (he:∀ s,Inv s []->body (mk s (l.length:Nat))=some (.inr (G s []))) (hi:Inv s l):lp body (mk s 0)=some (G s l) :=
 aDd mk G Inv hn he l 0 s rfl (Nat.zero_le _) hi

theorem aCB {α S R:Type} {body:S->Option (S⊕R)} {l:List α} (mk:Int->S) (bad:α->Bool) (x y:R)
  (hn:∀ (i:Nat) a,l[i]?=some a->body (mk i)=some (if bad a then .inr x else .inl (mk ((i+1:Nat):Int))))
  (he:body (mk (l.length:Nat))=some (.inr y)):lp body (mk 0)=some (if l.any bad then x else y):=by
 refine vV (st:=Unit) (fun _ i=>mk i) (fun _ r=>if r.any bad then x else y) (fun _ _=>True) () ?_ ?_ trivial
 ·intro i a r s ha _;have hb:=hn i a ha
  cases h:bad a
  ·left; refine ⟨(),?_,trivial,?_⟩
   ·simpa [h] using hb
   ·simp [List.any_cons,h]
  ·right; simpa [h,List.any_cons] using hb
 ·intro _ _; simpa using he

end Go.Abs
namespace Go.Abs
open Go
variable {α:Type} [Inhabited α]
theorem wr {n:Int}(h1 : -1099511627776<=n)(h2:n<=8796093022208):IntKind.i64.wrap n=n:=cZ (by omega) (by omega)

section ins
variable {ok:α->Prop} {le:α->α->Prop} {cmp:α->α->Option Int}
end ins
end Go.Abs
namespace Go.Abs
open Go
variable {α:Type} [Inhabited α]
theorem half {s:Nat}(h:s<=4398046511104):IntKind.i64.wrap (Int.fdiv (IntKind.u64.wrap (IntKind.i64.wrap (s:Int))) (2 ^ (min (Int.toNat (1:Int)) 64)))=((s / 2:Nat):Int):=by
 rw [wr (n:=(s:Int)) (by omega) (by omega)]
 have hu:IntKind.u64.wrap (s:Int)=(s:Int):=by
  simp only [IntKind.wrap,IntKind.bits,IntKind.signed];simp;omega
 have hp:(2:Int) ^ (min (Int.toNat (1:Int)) 64)=2:=by decide
 rw [hu,hp,Int.fdiv_eq_ediv_of_nonneg _ (by omega),wr (by omega) (by omega)];omega

section sym
variable {ok:α->Prop} {le:α->α->Prop} {cmp:α->α->Option Int}
end sym
end Go.Abs
namespace Go.Abs
open Go
def WO (n:Int):Bool:=decide (n<=1048576)&&decide (-1048576<=n)

theorem aFE (n:Int):CH n=some (WO n):=rfl

def OA (last:Int)(j:aB):Bool:=decide (j.At<=last)||decide (1125899906842624<=j.At)||decide (j.Net=0) || !WO j.Net

def chk (last:Int):List aB->Bool
 | []=>true
 | j::r => !OA last j&&chk j.At r

def eU (f:List aB):Bool:=decide (f.length<=1024)&&chk (-2) f

theorem aAe {f:List aB}{i:Nat}{a:aB}{last:Int}(ha:f[i]?=some a)(hl:f.length<4611686018427387904) :
  nN f (f.length:Nat) last i=some (if OA last a then .inr (.inr false) else .inl (a.At,((i+1:Nat):Int))):=by
 obtain⟨d1,d2,d3,d4⟩:=idx ha hl;simp only [nN,d1,cond_true,aQ d2,d3,d4,aFE];unfold OA
 cases h:(decide (a.At<=last)||decide (1125899906842624<=a.At)||decide (a.Net=0)) <;> cases h2:WO a.Net <;> simp [cX]

theorem YD:∀ (f:List aB) (last:Int),pL (fun last (j:aB)=>some (if OA last j then .inr (.inr false) else .inl j.At)) (fun _=>(.inl ():Unit⊕Bool)) last f=some (if chk last f then .inl () else .inr false)
 | [],last=>by simp [pL,chk]
 | j::r,last=>by
  cases h:OA last j
  ·rw [JE (s':=j.At) (by simp [h])];rw [YD r j.At];simp [chk,h]
  ·rw [ID (x:=.inr false) (by simp [h])];simp [chk,h]

theorem HM (f:List aB):nS f=some (eU f):=by
 unfold nS eU;by_cases hl:f.length<=1024
 ·have h1:decide ((1024:Int)<((f.length:Nat):Int))=false:=by simp; omega
  rw [h1,cond_false];unfold CB
  have key:=XJ (l:=f) (body:=fun s:Int×Int=>nN f (f.length:Nat) s.1 s.2) (fun last i=>(last,i)) _ _
   (fun i a s ha=>by
    constructor
    ·intro s' hs;show nN f (f.length:Nat) s i=_;rw [aAe ha (by omega)];split at hs <;> simp_all
    ·intro x hs;show nN f (f.length:Nat) s i=_;rw [aAe ha (by omega)];split at hs <;> simp_all)
   (fun s=>by show nN f (f.length:Nat) s (f.length:Nat)=_; simp only [nN,jS,cond_false]) (YD f (-2))
  rw [key]
  cases h:chk (-2) f <;> simp [yT,hl]
 ·have h1:decide ((1024:Int)<((f.length:Nat):Int))=true:=by simp; omega
  rw [h1,cond_true];simp [hl]

theorem aBK {last:Int}{j:aB}:OA last j=false↔last<j.At/\j.At<1125899906842624/\j.Net≠0/\j.Net<=1048576 /\ -1048576<=j.Net:=by
 simp [OA,WO];omega

def qX (last:Int):List aB->Prop
 | []=>True
 | j::r=>(last<j.At/\j.At<1125899906842624/\j.Net≠0/\j.Net<=1048576 /\ -1048576<=j.Net)/\qX j.At r

theorem aBb:∀ {f:List aB} {last:Int},chk last f=true↔qX last f
 | [],last=>by simp [chk,qX]
 | j::r,last=>by simp [chk,qX,aBK,aBb]

theorem jO {f:List aB}:eU f=true↔f.length<=1024/\qX (-2) f:=by simp [eU,aBb]

theorem qX.above:∀ {f:List aB} {last:Int},qX last f -> ∀ j∈f,last<j.At/\j.At<1125899906842624/\j.Net≠0/\j.Net<=1048576 /\ -1048576<=j.Net
 | [],_,_,j,hj=>by simp at hj
 | a::r,last,h,j,hj=>by
  rcases List.mem_cons.1 hj with rfl | hj
  ·exact h.1
  ·have:=h.2.above j hj;have h1:=h.1.1;exact⟨by omega,this.2⟩

def val (f:List aB)(t:Int):Int:=(f.map fun j=>if j.At<=t then j.Net else 0).sum

theorem aBd (t:Int):val [] t=0:=rfl

theorem mP (j:aB)(r:List aB)(t:Int):val (j::r) t=(if j.At<=t then j.Net else 0)+val r t:=by simp [val]

theorem aBG (f g:List aB)(t:Int):val (f++g) t=val f t+val g t:=by simp [val]

theorem KC:∀ {f:List aB} {b:Int} (t:Int),0<=b->(∀ j∈f,j.Net<=b /\ -b<=j.Net)->val f t<=b*f.length /\ -(b*f.length)<=val f t
 | [],b,t,_,_=>by simp [val]
 | j::r,b,t,hb,h=>by
  obtain⟨h1,h2⟩:=KC t hb (fun k hk=>h k (List.mem_cons_of_mem _ hk));have h3:=h j (List.mem_cons_self ..);rw [mP];simp only [List.length_cons,Int.natCast_add,Int.natCast_one,Int.mul_add,Int.mul_one];split <;> omega

theorem xE {f:List aB}{t:Int}(h:∀ j∈f,t<j.At):val f t=0:=by
 induction f with
 | nil=>rfl
 | cons j r ih =>
  rw [mP,ih (fun k hk=>h k (List.mem_cons_of_mem _ hk))];have:=h j (List.mem_cons_self ..);rw [if_neg (by omega)]; rfl

theorem aAY {f:List aB}{i:Nat}{a:aB}{t v:Int}(ha:f[i]?=some a)(hl:f.length<4611686018427387904) :
  oY t f (f.length:Nat) v i=some (if t<a.At then .inr v else .inl (IntKind.i64.wrap (v+a.Net),((i+1:Nat):Int))):=by
 obtain⟨d1,d2,d3,d4⟩:=idx ha hl;simp only [oY,d1,cond_true,aQ d2,d3,d4];by_cases h:t<a.At <;> simp [h]

theorem aFI {t:Int}(f:List aB):∀ (last v:Int),qX last f->v<=1048576*(2048-f.length) -> -(1048576*(2048-f.length))<=v->f.length<=1024 ->
  pL (fun v (j:aB)=>some (if t<j.At then .inr v else .inl (IntKind.i64.wrap (v+j.Net)))) (fun v=>(v:Int)) v f=some (v+val f t):=by
 induction f with
 | nil=>intro last v _ _ _ _; simp [pL,val]
 | cons j r ih =>
  intro last v h h1 h2 hl;simp only [List.length_cons] at h1 h2 hl;by_cases hj:t<j.At
  ·rw [ID (x:=v) (by simp [hj])]
   rw [xE (fun k hk=>by
    rcases List.mem_cons.1 hk with rfl | hk
    ·exact hj
    ·have:=(h.2.above k hk).1; omega)]
   simp
  ·have hj1:=h.1;have hw:IntKind.i64.wrap (v+j.Net)=v+j.Net:=cZ (by omega) (by omega);rw [JE (s':=v+j.Net) (by simp [hj,hw])];rw [ih j.At (v+j.Net) h.2 (by omega) (by omega) (by omega),mP,if_pos (by omega)]
   congr 1
   omega

theorem aCk (f:List aB)(t:Int):zV f t=some (if eU f then val f t else 0):=by
 unfold zV;rw [HM];simp only [Option.bind_some]
 cases h:eU f
 ·simp
 ·obtain⟨hl,hr⟩:=jO.1 h;simp only [Bool.not_true,cond_false,if_true];unfold DO
  have key:=XJ (l:=f) (body:=fun s:Int×Int=>oY t f (f.length:Nat) s.1 s.2) (fun v i=>(v,i)) _ _
   (fun i a s ha=>by
    constructor
    ·intro s' hs;show oY t f (f.length:Nat) s i=_;rw [aAY ha (by omega)];split at hs <;> simp_all
    ·intro x hs;show oY t f (f.length:Nat) s i=_;rw [aAY ha (by omega)];split at hs <;> simp_all)
   (fun s=>by show oY t f (f.length:Nat) s (f.length:Nat)=_; simp only [oY,jS,cond_false]) (aFI (t:=t) f (-2) 0 hr (by omega) (by omega) hl)
  rw [key];simp [yB]

theorem aFk (f:List aB):wA f=some (if eU f then (f,0) else ([],7)):=by
 unfold wA;rw [HM]
 cases h:eU f <;> simp

end Go.Abs
namespace Go.Abs
open Go
section both
variable {op:Int->Int->Option Int} {f g r:List aB} {out:List aB} {a b was t:Int} {j:aB}
end both
def emit (p v was:Int):List aB:=if v=was then [] else [⟨p,v-was⟩]

def aFe (was:Int):List (Int×Int)->List aB
 | []=>[]
 | x::r=>emit x.1 x.2 was++aFe x.2 r

def merge (f g:List aB)(a b:Int):List (Int×Int×Int) :=
 match f,g with
 | [],[]=>[]
 | j::f,[]=>(j.At,a+j.Net,b)::merge f [] (a+j.Net) b
 | [],k::g=>(k.At,a,b+k.Net)::merge [] g a (b+k.Net)
 | j::f,k::g =>
  if j.At<k.At then (j.At,a+j.Net,b)::merge f (k::g) (a+j.Net) b
  else if k.At<j.At then (k.At,a,b+k.Net)::merge (j::f) g a (b+k.Net)
  else (j.At,a+j.Net,b+k.Net)::merge f g (a+j.Net) (b+k.Net)

termination_by f.length+g.length
end Go.Abs
namespace Go.Abs
open Go
def comb (OP:Int->Int->Int)(f g:List aB):List aB:=aFe 0 ((merge f g 0 0).map fun x=>(x.1,OP x.2.1 x.2.2))

def told (f:List aB):List aB×Int:=if eU f then (f,0) else ([],7)

theorem aEg (f:List aB):wA f=some (told f):=aFk f

def two (OP:Int->Int->Int)(f g:List aB):List aB×Int:=if eU f&&eU g then told (comb OP f g) else ([],2)

end Go.Abs
namespace Go.Abs
open Go
theorem qX.aEy {l t:Int}{f:List aB}(h:qX l f)(ht:t<=l):val f t=0:=xE fun j hj=>by have:=(h.above j hj).1; omega

theorem WB {f:List aB}(hf:eU f=true)(t:Int):val f t<=1073741824 /\ -1073741824<=val f t:=by
 obtain⟨h1,h2⟩:=jO.1 hf;have:=KC t (b:=1048576) (by omega) (fun j hj=>by have:=h2.above j hj; omega) (f:=f);omega

end Go.Abs
namespace Go.Abs
open Go
def xM (f:List aB):Int:=(f.map aB.Net).sum

theorem VF (j:aB)(f:List aB):xM (j::f)=j.Net+xM f:=by simp [xM]

def fO (t:Int):List aB->List aB
 | []=>[]
 | j::r=>if t<=j.At then [] else j::fO t r

def aft (t:Int):List aB->List aB
 | []=>[]
 | j::r=>if t<=j.At then j::r else aft t r

theorem zP (t:Int):∀ f:List aB,fO t f++aft t f=f
 | []=>rfl
 | j::r=>by
  unfold fO aft;split
  ·rfl
  ·simp [zP t r]

theorem SA {t:Int}:∀ {f:List aB},∀ j∈fO t f,j.At<t
 | [],j,h=>by simp [fO] at h
 | k::r,j,h=>by
  unfold fO at h;split at h
  ·simp at h
  ·rcases List.mem_cons.1 h with rfl | h
   ·omega
   ·exact SA j h

theorem KM {t l:Int}:∀ {f:List aB},qX l f -> ∀ j∈aft t f,t<=j.At
 | [],_,j,h=>by simp [aft] at h
 | k::r,hr,j,h=>by
  unfold aft at h;split at h
  ·rcases List.mem_cons.1 h with rfl | h
   ·assumption
   ·have:=(hr.2.above j h).1; omega
  ·exact KM hr.2 j h

theorem aFB {f:List aB}{t:Int}(h:∀ j∈f,j.At<=t):val f t=xM f:=by
 induction f with
 | nil=>rfl
 | cons j r ih=>rw [mP,VF,if_pos (h j (List.mem_cons_self ..)),ih fun k hk=>h k (List.mem_cons_of_mem _ hk)]

theorem YG (t:Int):∀ f:List aB,(fO t f).length<=f.length
 | []=>by simp [fO]
 | j::r=>by
  unfold fO;split
  ·simp
  ·simpa using YG t r

theorem IV {l t p:Int}{f:List aB}(hf:qX l f)(hp:p<t):val f p=val (fO t f) p:=by
 conv=>lhs; rw [←zP t f]
 rw [aBG,xE (f:=aft t f) (fun j hj=>by have:=KM hf j hj; omega)];omega

theorem aC1 {l t:Int}{f:List aB}(hf:qX l f):xM (fO t f)=val f (t-1):=by
 rw [IV hf (p:=t-1) (t:=t) (by omega),aFB (fun j hj=>by have:=SA j hj; omega)]

theorem aBT {t:Int}(f:List aB):∀ (l v:Int) (out:List aB),qX l f->v<=1048576*(2048-f.length) -> -(1048576*(2048-f.length))<=v->f.length<=1024 ->
  pL (fun (s:List aB×Int) (j:aB)=>some (if t<=j.At then .inr s else .inl (s.1++[j],IntKind.i64.wrap (s.2+j.Net)))) (fun s=>s) (out,v) f=some (out++fO t f,v+xM (fO t f)):=by
 induction f with
 | nil=>intro l v out _ _ _ _; simp [pL,fO,xM]
 | cons j r ih =>
  intro l v out h h1 h2 hl;simp only [List.length_cons] at h1 h2 hl;have hj1:=h.1;by_cases hj:t<=j.At
  ·rw [ID (x:=(out,v)) (by simp [hj])];simp [fO,hj,xM]
  ·have hw:IntKind.i64.wrap (v+j.Net)=v+j.Net:=cZ (by omega) (by omega);rw [JE (s':=(out++[j],v+j.Net)) (by simp [hj,hw])];rw [ih j.At (v+j.Net) (out++[j]) h.2 (by omega) (by omega) (by omega)];have : fO t (j::r)=j::fO t r:=by simp [fO,hj]
   rw [this,VF];simp [Int.add_assoc]

def HI (t:Int)(f:List aB):List aB:=fO t f++(if xM (fO t f)=0 then [] else [⟨t,-xM (fO t f)⟩])

def ahead (f:List aB)(t:Int):List aB×Int :=
 if eU f then (if 1125899906842624<=t then (f,0) else told (HI t f)) else ([],2)

theorem aEN {f:List aB}(hl:f.length<=1024):iU f=some f:=by
 unfold iU;exact aQ ⟨by omega,by omega⟩

theorem aCb {f:List aB}(hf:eU f=true)(t:Int):xM (fO t f)<=1073741824 /\ -1073741824<=xM (fO t f):=by
 rw [aC1 (jO.1 hf).2];exact WB hf _

theorem aEq (f:List aB)(t:Int):xA f t=some (ahead f t):=by
 unfold xA ahead;rw [HM];simp only [Option.bind_some]
 cases h:eU f
 ·simp
 ·obtain⟨hl,hr⟩:=jO.1 h;simp only [Bool.not_true,cond_false,if_true];by_cases ht:1125899906842624<=t
  ·simp [ht,aEN hl]
  ·rw [decide_eq_false ht,cond_false,if_neg ht];unfold yY
   have key:=aCI (l:=f) (body:=fun s:List aB×Int×Int=>mB t f (f.length:Nat) s.1 s.2.1 s.2.2) (fun (s:List aB×Int) i=>(s.1,s.2,i)) _ _ (fun i s=>s.1.length=i)
    (fun i a s hi ha=>by
     obtain⟨d1,d2,d3,d4⟩:=idx ha (by omega);have hlt:i<f.length:=(List.getElem?_eq_some_iff.1 ha).1
     have hb:mB t f (f.length:Nat) s.1 s.2 i=some (if t<=a.At then .inr s else .inl (s.1++[a],IntKind.i64.wrap (s.2+a.Net),((i+1:Nat):Int))):=by
      simp only [mB,d1,cond_true,aQ d2,d3,d4];rw [aQ (by simp only [List.length_cons,List.length_nil]; omega)];by_cases h:t<=a.At <;> simp [h]
     by_cases hh:t<=a.At
     ·refine⟨fun s' hs=>by simp [hh] at hs,fun x hs=>?_⟩;simp [hh] at hs; subst hs;show mB t f (f.length:Nat) s.1 s.2 i=_;rw [hb,if_pos hh]
     ·refine⟨fun s' hs=>?_,fun x hs=>by simp [hh] at hs⟩;simp [hh] at hs; subst hs;refine⟨by simp [hi],?_⟩;show mB t f (f.length:Nat) s.1 s.2 i=_;rw [hb,if_neg hh])
    (fun s _=>by show mB t f (f.length:Nat) s.1 s.2 (f.length:Nat)=_; simp only [mB,jS,cond_false]) (s:=([],0)) rfl (aBT (t:=t) f (-2) 0 [] hr (by omega) (by omega) hl)
   rw [key];have hb:=aCb h t;have hlen:=YG t f;have hw:IntKind.i64.wrap (0-xM (fO t f)) = -xM (fO t f):=by rw [cZ (by omega) (by omega)]; omega
   simp only [Option.bind_some,List.nil_append,Int.zero_add,rV,vA,HI,hw,aEg];by_cases hv:xM (fO t f)=0
   ·simp [hv]
   ·rw [aQ (by simp only [List.length_cons,List.length_nil]; omega)];simp [hv]

end Go.Abs
namespace Go.Abs
open Go
def aGP (t:Int)(f:List aB):List aB:=(if xM (fO t f)=0 then [] else [⟨-1,xM (fO t f)⟩])++aft t f

def rest (f:List aB)(t:Int):List aB×Int :=
 if eU f then (if 1125899906842624<=t then ([],0) else if t <= -1 then (f,0) else told (aGP t f)) else ([],2)

end Go.Abs
namespace Go.Abs
open Go
def Inc (last:Int):List Int->Prop
 | []=>True
 | p::r=>(last<p/\p<1125899906842624)/\Inc p r

theorem Inc.above:∀ {ps:List Int} {last:Int},Inc last ps -> ∀ p∈ps,last<p/\p<1125899906842624
 | [],_,_,j,hj=>by simp at hj
 | a::r,last,h,j,hj=>by
  rcases List.mem_cons.1 hj with rfl | hj
  ·exact h.1
  ·have:=h.2.above j hj;have h1:=h.1.1;exact⟨by omega,this.2⟩

end Go.Abs
namespace Go.Abs
open Go
theorem aEe {f:List aB}(h:eU f=true):∀ j∈f,j.Net<=1048576 /\ -1048576<=j.Net:=fun j hj=>by have:=(jO.1 h).2.above j hj; omega

def jP (t:Int):List Int->List Int
 | []=>[t]
 | p::r=>if p=t then p::r else if t<p then t::p::r else p::jP t r

theorem GI {t x:Int}:∀ {ps:List Int},x∈jP t ps↔x=t∨x∈ps
 | []=>by simp [jP]
 | p::r=>by
  unfold jP;split
  ·rename_i h; subst h; simp
  ·split
   ·simp
   ·simp only [List.mem_cons,GI (ps:=r)]; constructor <;> (intro h; rcases h with h | h | h <;> simp [h])

theorem CQ {t:Int}:∀ {ps:List Int} {last:Int},Inc last ps->last<t->t<1125899906842624->Inc last (jP t ps)
 | [],last,_,h1,h2=>⟨⟨h1,h2⟩,trivial⟩
 | p::r,last,h,h1,h2=>by
  unfold jP;split
  ·exact h
  ·split
   ·rename_i h3 h4
    exact⟨⟨h1,h2⟩,⟨h4,h.1.2⟩,h.2⟩
   ·exact⟨h.1,CQ h.2 (by omega) h2⟩

theorem LY {t:Int}:∀ {ps:List Int},(jP t ps).length<=ps.length+1
 | []=>by simp [jP]
 | p::r=>by
  unfold jP;split
  ·simp
  ·split
   ·simp
   ·simp only [List.length_cons]; have:=LY (t:=t) (ps:=r); omega

theorem JB {t:Int}:∀ {ps:List Int} {last:Int},Inc last ps->t∈ps->jP t ps=ps
 | [],_,_,h=>by simp at h
 | p::r,last,hi,h=>by
  unfold jP;split
  ·rfl
  ·rename_i hp
   rcases List.mem_cons.1 h with h | h
   ·exact absurd h.symm hp
   ·have:=(hi.2.above t h).1;rw [if_neg (by omega),JB hi.2 h]

end Go.Abs
namespace Go.Abs
open Go
def mn (a b:Int):Int:=if b<a then b else a

def parts (v:Int):List aB->List Int
 | []=>[]
 | j::r=>(v+j.Net)::parts (v+j.Net) r

def HJ (f:List aB):Int:=(f.map fun j=>val f j.At).foldl mn (val f (-1))

theorem parts_eq:∀ {f:List aB} {l v:Int},qX l f->parts v f=f.map fun j=>v+val f j.At
 | [],_,_,_=>rfl
 | j::r,l,v,h=>by
  simp only [parts,List.map_cons];rw [parts_eq h.2,mP,if_pos (Int.le_refl _),h.2.aEy (Int.le_refl _),Int.add_zero]
  congr 1
  apply List.map_congr_left;intro k hk;have:=(h.2.above k hk).1;rw [mP,if_pos (by omega)]; omega

theorem aCA {j:aB}{r:List aB}(h:qX (-2) (j::r)):val (j::r) (-1)=if j.At = -1 then j.Net else 0:=by
 have:=h.1.1;by_cases e:j.At = -1
 ·rw [if_pos e,mP,if_pos (by omega),h.2.aEy (by omega)]; omega
 ·rw [if_neg e,xE];intro k hk;rcases List.mem_cons.1 hk with rfl | hk
  ·omega
  ·have:=(h.2.above k hk).1; omega

theorem QB {f:List aB}(hf:eU f=true)(m:Int)(hm : -1125899906842624<=m/\m<=1125899906842624):vC 0 m f (f.length:Nat) 0=some ((f.map fun j=>val f j.At).foldl mn m):=by
 obtain⟨hl,hr⟩:=jO.1 hf;unfold vC
 rw [vV (l:=f) (body:=fun s:Int×Int×Int=>oF f (f.length:Nat) s.1 s.2.1 s.2.2) (fun (s:Int×Int) i=>(s.1,s.2,i)) (fun s r=>(parts s.1 r).foldl mn s.2)
  (fun s r=>(∀ j∈r,j.Net<=1048576 /\ -1048576<=j.Net)/\r.length<=1024/\s.1<=1048576*(1024-r.length) /\ -(1048576*(1024-r.length))<=s.1) (0,m) ?_ ?_ ?_]
 ·simp only [Option.bind_some,vJ,parts_eq hr,Int.zero_add]
 ·rintro i a r ⟨v,m⟩ ha ⟨h1,h2,h3,h4⟩;obtain⟨d1,d2,d3,d4⟩:=idx ha (by omega);have hj:=h1 a (List.mem_cons_self ..);simp only [List.length_cons] at h2 h3 h4;have hw:IntKind.i64.wrap (v+a.Net)=v+a.Net:=cZ (by omega) (by omega);left;refine⟨(v+a.Net,mn m (v+a.Net)),?_,⟨fun j hj=>h1 j (List.mem_cons_of_mem _ hj),by omega,by simp only; omega,by simp only; omega⟩,rfl⟩;show oF f (f.length:Nat) v m i=_;simp only [oF,d1,cond_true,aQ d2,d3,d4,hw,mn]
 ·rintro ⟨v,m⟩ _;show oF f (f.length:Nat) v m (f.length:Nat)=_;simp only [oF,jS,cond_false,parts,List.foldl_nil]
 ·exact⟨aEe hf,hl,by simp only; omega,by simp only; omega⟩

theorem aD1 (f:List aB):xN f=some (if eU f then HJ f else 0):=by
 unfold xN;rw [HM]
 cases h:eU f
 ·simp
 ·cases f with
  | nil=>simp [HJ,val]
  | cons j r =>
   obtain⟨hl,hr⟩:=jO.1 h;have hne:decide (((List.length (j::r):Nat):Int)=0)=false:=by simp; omega
   simp only [Option.bind_some,Bool.not_true,Bool.false_or,hne,cond_false,aQ aG0,aGE,if_true];have hj:=hr.1;unfold HJ;rw [aCA hr];by_cases e:j.At = -1
   ·simp only [e,decide_true,cond_true,if_true,rW];exact QB h j.Net (by omega)
   ·simp only [e,decide_false,cond_false,if_false,rW];exact QB h 0 (by omega)

theorem aAT:eU []=true:=by decide

end Go.Abs
namespace Go.Abs
open Go
theorem w1:IntKind.i64.wrap (0+1)=1:=by rw [cZ] <;> omega

theorem w2:IntKind.i64.wrap (1+1)=2:=by rw [cZ] <;> omega

theorem w3:IntKind.i64.wrap (1-1)=0:=by rw [cZ] <;> omega

theorem v0:IntKind.i64.wrap 0=0:=by rw [cZ] <;> omega

theorem v1:IntKind.i64.wrap 1=1:=by rw [cZ] <;> omega

theorem v2:IntKind.i64.wrap 2=2:=by rw [cZ] <;> omega

theorem v3:IntKind.i64.wrap (-1) = -1:=by rw [cZ] <;> omega

end Go.Abs
namespace Go.Abs
open Go
theorem aEI (f:List aB):(told f).1.length<=1024:=by
 unfold told
 cases h:eU f
 ·simp
 ·simpa using (jO.1 h).1

theorem aCW (f:List aB)(t:Int):(ahead f t).1.length<=1024:=by
 unfold ahead;split
 ·split
  ·exact (jO.1 (by assumption)).1
  ·exact aEI _
 ·simp

end Go.Abs
namespace Go.Abs
open Go
variable {α:Type} [Inhabited α]
noncomputable def qP (f1:α->Option Bool)(s0:(List α))(t7:Int)(t8:Int):Option ((Int)⊕(Unit⊕Int)) :=
 cond (decide (t8<t7))
 (bE (0<=t8/\t8<((List.length s0:Nat):Int)) <|
 (f1 (List.getD s0 (Int.toNat t8) default)).bind fun x2 =>
 cond x2
 (some (.inr (.inr t8)))
 (some (.inl (IntKind.i64.wrap (t8+(1:Int))))))
 (some (.inr (.inl ())))

theorem XH {l:List α}{f:α->Option Bool}{g:α->Bool}(hl:l.length<=1099511627776)(hf:∀ x∈l,f x=some (g x)):∀ (r:List α) (k:Nat),l.drop k=r->k<=l.length ->
  ∃ x,lp (fun s=>qP f l (l.length:Nat) s) (k:Int)=some x/\((x=.inl ()/\r.any g=false)∨(∃ i:Nat,x=.inr (i:Int)/\k<=i/\i<l.length/\r.any g=true/\g (l.getD i default)=true /\ ∀ j,k<=j->j<i->g (l.getD j default)=false))
 | [],k,hd,hk=>by
  have : k=l.length:=by
   have:=congrArg List.length hd;simp only [List.length_drop,List.length_nil] at this; omega
  subst this;refine⟨.inl (),dF ?_,Or.inl ⟨rfl,rfl⟩⟩;show qP f l _ _=_;simp only [qP,jS,cond_false]
 | a::r,k,hd,hk=>by
  obtain⟨h1,h2⟩:=drop_cons hd;have hlt:k<l.length:=(List.getElem?_eq_some_iff.1 h1).1;obtain⟨d1,d2,d3,d4⟩:=idx h1 (by omega);have hga:l.getD k default=a:=by rw [Int.toNat_natCast] at d3; exact d3
  have hb:(fun s=>qP f l (l.length:Nat) s) (k:Int)=some (if g a then .inr (.inr (k:Int)) else .inl ((k+1:Nat):Int)):=by
   show qP f l _ _=_;simp only [qP,d1,cond_true,aQ d2,d3,d4,hf a (List.mem_of_getElem? h1),Option.bind_some]
   cases g a <;> simp
  cases hg:g a
  ·rw [hg] at hb;obtain⟨x,e,hx⟩:=XH hl hf r (k+1) h2 (by omega);refine⟨x,by rw [fT hb]; exact e,?_⟩;rcases hx with ⟨rfl,h⟩ | ⟨i,rfl,h3,h4,h5,h6,h7⟩
   ·exact Or.inl ⟨rfl,by simp [hg,h]⟩
   ·refine Or.inr ⟨i,rfl,by omega,h4,by simp [h5],h6,fun j hj hj'=>?_⟩;by_cases e:j=k
    ·subst e; rw [hga,hg]
    ·exact h7 j (by omega) hj'
  ·rw [hg] at hb;exact⟨.inr (k:Int),dF hb,Or.inr ⟨k,rfl,Nat.le_refl _,hlt,by simp [hg],by rw [hga,hg],fun j h h'=>by omega⟩⟩

end Go.Abs
namespace Go.Abs
open Go
theorem UO (x y:ByteArray):qK x y=decide (x=y):=by
 unfold qK;rw [ByteArray.toList_eq,ByteArray.toList_eq];by_cases h:x=y
 ·simp [h]
 ·have : x.data.toList≠y.data.toList:=by
   intro he;apply h
   cases x; cases y
   congr 1
   exact Array.toList_inj.1 he
  have h2:(x.data.toList==y.data.toList)=false:=by simpa using this
  rw [h2]; simp [h]

theorem veq (a b:aI):((decide (a.Kind=b.Kind))&&((decide (a.Num=b.Num))&&((qK a.Text b.Text)&&true)))=decide (a=b):=by
 rw [UO];obtain⟨a1,a2,a3⟩:=a;obtain⟨b1,b2,b3⟩:=b;by_cases h1:a1=b1 <;> by_cases h2:a2=b2 <;> by_cases h3:a3=b3 <;> simp [h1,h2,h3]

def HW (v:aI):Bool:=decide (v.Kind=1)&&qK v.Text (⟨#[]⟩:ByteArray)

def IF (v:aI):Bool:=((decide (v.Kind=2))&&(decide (v.Num=0)))&&(decide (((ByteArray.size v.Text:Nat):Int)<=64))

def IB (v:aI):Bool:=HW v||IF v

def wC (r:List aI):Bool:=decide (r.length<=8)&&r.all IB

theorem of_eq (v:aI):nA v=some (if HW v then (.k_number v.Num,true) else if IF v then (.k_words v.Text,true) else (.none_,false)):=by
 unfold nA HW IF
 cases (decide (v.Kind=1)&&qK v.Text (⟨#[]⟩:ByteArray)) <;> cases (((decide (v.Kind=2))&&(decide (v.Num=0)))&&(decide (((ByteArray.size v.Text:Nat):Int)<=64))) <;> rfl

theorem aFz (v:aI):yN v=some (IB v):=by
 unfold yN IB;rw [of_eq]
 cases HW v <;> cases IF v <;> rfl

theorem YP {l:List aI}{f:aI->Option Bool}{g:aI->Bool}(hl:l.length<=1099511627776)(hf:∀ x∈l,f x=some (g x)):fN l f=some (l.any g):=by
 unfold fN jG jB;obtain⟨x,e,hx⟩:=XH hl hf l 0 rfl (Nat.zero_le _);have e':lp (fun s=>jC f l (l.length:Nat) s) 0=some x:=e;rw [e'];rcases hx with ⟨rfl,h⟩ | ⟨i,rfl,_,_,h,_⟩
 ·simp [gJ,h]
 ·simp [h]

theorem TG (r:List aI):wX r=some (wC r):=by
 unfold wX wC;by_cases h:r.length<=8
 ·have h1:decide ((8:Int)<((r.length:Nat):Int))=false:=by simp; omega
  rw [h1,cond_false,YP (g:=fun v => !IB v) (by omega) (fun x _=>by simp [yX,aFz])];simp only [Option.bind_some,h,decide_true,Bool.true_and]
  congr 1
  rw [List.all_eq_not_any_not]
 ·have h1:decide ((8:Int)<((r.length:Nat):Int))=true:=by simp; omega
  rw [h1,cond_true];simp [h]

theorem WK {α:Type} [DecidableEq α] {f g:List α} {body:Int->Option (Int⊕(Unit⊕Bool))} (he:f.length=g.length)
  (hb:∀ (i:Nat) a b,f[i]?=some a->g[i]?=some b->body i=some (if a=b then .inl ((i+1:Nat):Int) else .inr (.inr false)))
  (hend:body (f.length:Nat)=some (.inr (.inl ()))):∀ (m k:Nat),f.length-k=m->k<=f.length->lp body (k:Int)=some (if f.drop k=g.drop k then .inl () else .inr false)
 | 0,k,hm,hk=>by
  have : k=f.length:=by omega
  subst this;rw [List.drop_length,he,List.drop_length,if_pos rfl];rw [←he];exact dF hend
 | m+1,k,hm,hk=>by
  have h1:k<f.length:=by omega
  have h2:k<g.length:=by omega
  have hbk:=hb k _ _ (List.getElem?_eq_getElem h1) (List.getElem?_eq_getElem h2);have e1:f.drop k=f[k]::f.drop (k+1):=List.drop_eq_getElem_cons h1;have e2:g.drop k=g[k]::g.drop (k+1):=List.drop_eq_getElem_cons h2;have hiff:(f.drop k=g.drop k)↔(f[k]=g[k]/\f.drop (k+1)=g.drop (k+1)):=by rw [e1,e2,List.cons.injEq]
  by_cases h:f[k]=g[k]
  ·rw [if_pos h] at hbk;rw [fT hbk,WK he hb hend m (k+1) (by omega) (by omega)];simp only [hiff,h,true_and]
  ·rw [if_neg h] at hbk;rw [dF hbk];simp only [hiff,h,false_and,if_false]

theorem aAb {α:Type}{f g:List α}(h:f.length≠g.length):(!decide (((f.length:Nat):Int)=((g.length:Nat):Int)))=true:=by simp; omega

theorem KN {α:Type}{f g:List α}(h:f.length=g.length):(!decide (((f.length:Nat):Int)=((g.length:Nat):Int)))=false:=by simp [h]

theorem IZ (a b:List aI)(hl:a.length<=17592186044416):sF a b=some (decide (a=b)):=by
 unfold sF gE;by_cases he:a.length=b.length
 ·rw [KN he,cond_false];unfold kI;have:=WK (f:=a) (g:=b) (body:=fun s=>fV a b (a.length:Nat) s) he ?_ ?_ a.length 0 rfl (Nat.zero_le _)
  ·simp only [Int.natCast_zero,List.drop_zero] at this;rw [this];by_cases h:a=b <;> simp [h,iJ]
  ·intro i x y hx hy;obtain⟨d1,d2,d3,d4⟩:=idx hx (by omega);obtain⟨_,e2,e3,_⟩:=idx hy (by omega);simp only [fV,d1,cond_true,aQ d2,aQ e2,d3,e3,d4,veq];by_cases h:x=y <;> simp [h]
  ·simp only [fV,jS,cond_false]
 ·rw [aAb he,cond_true];have : a≠b:=fun h=>he (by rw [h]);simp [this]

theorem JM (a b:List aI)(hl:a.length<=17592186044416):tG a b=some (decide (a=b)):=by
 unfold tG;by_cases he:a.length=b.length
 ·rw [KN he,cond_false];unfold yZ;have:=WK (f:=a) (g:=b) (body:=fun s=>rY a b s) he ?_ ?_ a.length 0 rfl (Nat.zero_le _)
  ·simp only [Int.natCast_zero,List.drop_zero] at this;rw [this];by_cases h:a=b <;> simp [h,vN]
  ·intro i x y hx hy;obtain⟨d1,d2,d3,d4⟩:=idx hx (by omega);obtain⟨_,e2,e3,_⟩:=idx hy (by omega);simp only [rY,d1,cond_true,aQ d2,aQ e2,d3,e3,d4,veq];by_cases h:x=y <;> simp [h]
  ·simp only [rY,jS,cond_false]
 ·rw [aAb he,cond_true];have : a≠b:=fun h=>he (by rw [h]);simp [this]

structure JX {α:Type} (c:α->α->Int):Prop where
 eq:∀ a b,c a b=0↔a=b
 anti:∀ a b,c a b<0↔0<c b a
 trans:∀ a b d,c a b<0->c b d<0->c a d<0

def uM (x y:Int):Int:=if x<y then -1 else if y<x then 1 else 0

theorem FK:JX uM where
 eq a b:=by unfold uM; (repeat' split) <;> omega
 anti a b:=by unfold uM; (repeat' split) <;> omega
 trans a b d:=by unfold uM; (repeat' split) <;> omega

def mU {α:Type}[DecidableEq α](c:α->α->Int):List α->List α->Int
 | [],[]=>0
 | [],_::_ => -1
 | _::_,[]=>1
 | a::r,b::s=>if a=b then mU c r s else c a b

theorem JX.list {α:Type}[DecidableEq α]{c:α->α->Int}(h:JX c):JX (mU c) where
 eq:=by
  intro a
  induction a with
  | nil=>intro b; cases b <;> simp [mU]
  | cons x r ih =>
   intro b
   cases b with
   | nil=>simp [mU]
   | cons y s =>
    unfold mU;split
    ·rename_i e; subst e; rw [ih]; simp
    ·rename_i e
     have:=h.eq x y;constructor
     ·intro h0; exact absurd (this.1 h0) e
     ·intro h0; cases h0; exact absurd rfl e
 anti:=by
  intro a
  induction a with
  | nil=>intro b; cases b <;> simp [mU]
  | cons x r ih =>
   intro b
   cases b with
   | nil=>simp [mU]
   | cons y s =>
    unfold mU;by_cases e:x=y
    ·subst e; simp only [if_true]; exact ih s
    ·rw [if_neg e,if_neg (fun e'=>e e'.symm)]; exact h.anti x y
 trans:=by
  intro a
  induction a with
  | nil =>
   intro b d
   cases b <;> cases d <;> simp [mU]
  | cons x r ih =>
   intro b d
   cases b with
   | nil=>simp [mU]
   | cons y s =>
    cases d with
    | nil=>simp [mU]
    | cons z t =>
     unfold mU;by_cases e1:x=y
     ·subst e1;rw [if_pos rfl];by_cases e2:x=z
      ·subst e2; rw [if_pos rfl,if_pos rfl]; exact ih s t
      ·rw [if_neg e2,if_neg e2]; exact fun _ h=>h
     ·rw [if_neg e1];by_cases e2:y=z
      ·have hz:¬ x=z:=fun e=>e1 (e.trans e2.symm);intro h _;rw [if_neg hz,←e2]; exact h
      ·rw [if_neg e2];intro h1 h2;by_cases e3:x=z
       ·subst e3;have h3:=(h.anti x y).1 h1;omega
       ·rw [if_neg e3]; exact h.trans x y z h1 h2

def NU (a b:UInt8):Int:=if a<b then -1 else if b<a then 1 else 0

theorem NS:JX NU where
 eq a b:=by
  unfold NU;constructor
  ·intro h;split at h
   ·cases h
   ·split at h
    ·cases h
    ·rename_i h1 h2
     rw [UInt8.lt_iff_toNat_lt] at h1 h2;exact UInt8.toNat_inj.1 (by omega)
  ·rintro rfl;have : ¬ a<a:=by rw [UInt8.lt_iff_toNat_lt]; omega
   simp [this]
 anti a b:=by
  unfold NU;simp only [UInt8.lt_iff_toNat_lt]
  (repeat' split) <;> omega
 trans a b d:=by
  unfold NU;simp only [UInt8.lt_iff_toNat_lt]
  (repeat' split) <;> omega

theorem FZ:∀ (a b:List UInt8),Go.Lib.compareBytes a b=mU NU a b
 | [],[]=>rfl
 | [],_::_=>rfl
 | _::_,[]=>rfl
 | a::r,b::s=>by
  unfold Go.Lib.compareBytes mU;rw [FZ r s];by_cases e:a=b
  ·subst e;have : ¬ a<a:=by rw [UInt8.lt_iff_toNat_lt]; omega
   simp [this]
  ·rw [if_neg e];unfold NU
   have : ¬ (¬ a<b /\ ¬ b<a):=by
    rintro ⟨h1,h2⟩;rw [UInt8.lt_iff_toNat_lt] at h1 h2;exact e (UInt8.toNat_inj.1 (by omega))
   by_cases h1:a<b
   ·simp [h1]
   ·have h2:b<a:=Classical.byContradiction fun h2=>this ⟨h1,h2⟩;simp [h1,h2]

def WT (a b:ByteArray):Int:=mU NU a.data.toList b.data.toList

theorem aFT (a b:ByteArray):SJ a b=WT a b:=FZ _ _

theorem data_inj {x y:ByteArray}(h:x.data.toList=y.data.toList):x=y:=by
 cases x; cases y
 congr 1
 exact Array.toList_inj.1 h

theorem IG:JX WT where
 eq a b:=by unfold WT; rw [(NS.list).eq]; exact ⟨data_inj,fun h=>by rw [h]⟩
 anti a b:=(NS.list).anti _ _
 trans a b d:=(NS.list).trans _ _ _

def EE (a b:aI):Int:=if a.Kind=b.Kind then (if a.Num=b.Num then WT a.Text b.Text else uM a.Num b.Num) else uM a.Kind b.Kind

theorem aEA:JX EE where
 eq a b:=by
  obtain⟨a1,a2,a3⟩:=a;obtain⟨b1,b2,b3⟩:=b;unfold EE;simp only [aI.mk.injEq];by_cases h1:a1=b1
  ·by_cases h2:a2=b2
   ·simp [h1,h2,IG.eq]
   ·simp [h1,h2,FK.eq]
  ·simp [h1,FK.eq]
 anti a b:=by
  unfold EE;by_cases h1:a.Kind=b.Kind
  ·rw [if_pos h1,if_pos h1.symm];by_cases h2:a.Num=b.Num
   ·rw [if_pos h2,if_pos h2.symm]; exact IG.anti _ _
   ·rw [if_neg h2,if_neg (fun h=>h2 h.symm)]; exact FK.anti _ _
  ·rw [if_neg h1,if_neg (fun h=>h1 h.symm)]; exact FK.anti _ _
 trans a b d:=by
  unfold EE;intro h1 h2;have lt:∀ {x y:Int},uM x y<0->x<y:=fun {x y} h=>by unfold uM at h; split at h <;> (try split at h) <;> omega
  have mk:∀ {x y:Int},x<y->uM x y<0:=fun {x y} h=>by unfold uM; rw [if_pos h]; omega
  by_cases e1:a.Kind=b.Kind
  ·rw [if_pos e1] at h1;by_cases e2:b.Kind=d.Kind
   ·rw [if_pos e2] at h2;rw [if_pos (e1.trans e2)];by_cases f1:a.Num=b.Num
    ·rw [if_pos f1] at h1;by_cases f2:b.Num=d.Num
     ·rw [if_pos f2] at h2;rw [if_pos (f1.trans f2)];exact IG.trans _ _ _ h1 h2
     ·rw [if_neg f2] at h2;rw [f1,if_neg f2]; exact h2
    ·rw [if_neg f1] at h1;have g1:=lt h1;by_cases f2:b.Num=d.Num
     ·rw [←f2,if_neg f1]; exact h1
     ·rw [if_neg f2] at h2;have g2:=lt h2;rw [if_neg (by omega)];exact mk (by omega)
   ·rw [if_neg e2] at h2;rw [e1,if_neg e2]; exact h2
  ·rw [if_neg e1] at h1;have g1:=lt h1;by_cases e2:b.Kind=d.Kind
   ·rw [←e2,if_neg e1]; exact h1
   ·rw [if_neg e2] at h2;have g2:=lt h2;rw [if_neg (by omega)];exact mk (by omega)

def tW (a b:List aI):Int:=mU EE a b

theorem BK:JX tW:=aEA.list

end Go.Abs
namespace Go.Abs
open Go
theorem aDO (x y:Int):qG x y=some (uM x y):=by
 unfold qG kZ uM;by_cases h1:x<y
 ·simp [h1]
 ·by_cases h2:y<x <;> simp [h1,h2]

theorem aCZ (x y:Int):gV x y=some (uM x y):=by
 unfold gV lY uM;by_cases h1:x<y
 ·simp [h1]
 ·by_cases h2:y<x <;> simp [h1,h2]

theorem MJ {v:aI}(h:HW v=true):v.Kind=1/\v.Text=(⟨#[]⟩:ByteArray):=by
 simp only [HW,UO,Bool.and_eq_true,decide_eq_true_eq] at h; exact h

theorem IL {v:aI}(h:IF v=true):v.Kind=2/\v.Num=0/\v.Text.size<=64:=by
 simp only [IF,Bool.and_eq_true,decide_eq_true_eq] at h; exact ⟨h.1.1,h.1.2,by omega⟩

theorem aAU {v:aI}(h:IB v=true):HW v=true∨(HW v=false/\IF v=true):=by
 unfold IB at h
 cases hn:HW v
 ·rw [hn] at h; exact .inr ⟨rfl,by simpa using h⟩
 ·exact .inl rfl

theorem aDU (a:ByteArray):WT a a=0:=(IG.eq a a).2 rfl

theorem KY (a:Int):uM a a=0:=(FK.eq a a).2 rfl

theorem aDf {a b:aI}(ha:IB a=true)(hb:IB b=true):sK a b=some (EE a b):=by
 unfold sK;simp only [of_eq,Option.bind_some];rcases aAU ha with h1 | ⟨h1,h1'⟩ <;> rcases aAU hb with h2 | ⟨h2,h2'⟩
 ·obtain⟨k1,t1⟩:=MJ h1;obtain⟨k2,t2⟩:=MJ h2;simp only [h1,h2,if_true,Bool.not_true,Bool.or_self,cond_false,aCZ,Option.bind_some];unfold EE;rw [k1,k2,t1,t2,if_pos rfl,aDU];by_cases hn:a.Num=b.Num
  ·rw [if_pos hn,hn,KY]
  ·rw [if_neg hn]
 ·obtain⟨k1,t1⟩:=MJ h1;obtain⟨k2,n2,_⟩:=IL h2';simp only [h1,h2,h2',if_true,Bool.false_eq_true,if_false,Bool.not_true,Bool.or_self,cond_false];unfold EE;rw [k1,k2]; rfl
 ·obtain⟨k1,n1,_⟩:=IL h1';obtain⟨k2,t2⟩:=MJ h2;simp only [h1,h1',h2,if_true,Bool.false_eq_true,if_false,Bool.not_true,Bool.or_self,cond_false];unfold EE;rw [k1,k2]; rfl
 ·obtain⟨k1,n1,_⟩:=IL h1';obtain⟨k2,n2,_⟩:=IL h2';simp only [h1,h1',h2,h2',if_true,Bool.false_eq_true,if_false,Bool.not_true,Bool.or_self,cond_false];unfold EE oB kO;rw [k1,k2,n1,n2,if_pos rfl,if_pos rfl];simp [aFT]

theorem aBs {r:List aI}(h:wC r=true):r.length<=8 /\ ∀ v∈r,IB v=true:=by
 simp only [wC,Bool.and_eq_true,decide_eq_true_eq,List.all_eq_true] at h; exact h

theorem aD9 {a b:List aI}{k:Nat}(hk:k=a.length∨k=b.length)(h1:k<=a.length)(h2:k<=b.length):tW (a.drop k) (b.drop k)=uM a.length b.length:=by
 rcases hk with rfl | rfl
 ·rw [List.drop_length];by_cases h:a.length=b.length
  ·rw [h,List.drop_length,KY]; rfl
  ·rw [List.drop_eq_getElem_cons (by omega)];show (-1:Int)=_;unfold uM; rw [if_pos (by omega)]
 ·rw [List.drop_length];by_cases h:a.length=b.length
  ·rw [←h,List.drop_length,KY]; rfl
  ·rw [List.drop_eq_getElem_cons (by omega)];show (1:Int)=_;unfold uM; rw [if_neg (by omega),if_pos (by omega)]

theorem aA4 {a b:List aI}(hl:a.length<=8)(hlb:b.length<=8)(n:Nat)(hn:n=min a.length b.length):∀ (m k:Nat),n-k=m->k<=n ->
  ∃ x,lp (fun s:Int×Int=>cK (fun st y0=>(kV y0 st b).bind fun o=>some (o.2,o.1)) (a.take n) (n:Nat) s.1 s.2) ((k:Int)-1,(k:Int))=some x /\
   ((∃ sg,x=.inl sg/\tW (a.drop k) (b.drop k)=uM a.length b.length) ∨
    (∃ i:Nat,x=.inr ((i:Int),(i:Int))/\i<a.length/\i<b.length/\tW (a.drop k) (b.drop k)=EE (a.getD i default) (b.getD i default)))
 | 0,k,hm,hk=>by
  have : k=n:=by omega
  subst this;refine⟨.inl ((k:Int)-1),dF ?_,.inl ⟨_,rfl,aD9 (by omega) (by omega) (by omega)⟩⟩;show cK _ _ _ _ _=_;simp only [cK,jS,cond_false]
 | m+1,k,hm,hk=>by
  have h1:k<a.length:=by omega
  have h2:k<b.length:=by omega
  have ht:(a.take n)[k]?=some a[k]:=by
   rw [List.getElem?_take_of_lt (by omega)]; exact List.getElem?_eq_getElem h1
  obtain⟨d1,d2,d3,d4⟩:=idx ht (by simp; omega);have hlt:(a.take n).length=n:=by simp; omega
  rw [hlt] at d1 d2;obtain⟨_,e2,e3,_⟩:=idx (List.getElem?_eq_getElem h2) (by omega);have hw:IntKind.i64.wrap ((k:Int)-1+1)=(k:Int):=by rw [cZ (by omega) (by omega)]; omega
  have hb:(fun s:Int×Int=>cK (fun st y0=>(kV y0 st b).bind fun o=>some (o.2,o.1)) (a.take n) (n:Nat) s.1 s.2) ((k:Int)-1,(k:Int)) =
    some (if a[k]=b[k] then .inl ((k:Int),((k+1:Nat):Int)) else .inr (.inr ((k:Int),(k:Int)))):=by
   show cK _ _ _ _ _=_;simp only [cK,d1,cond_true,hlt,aQ d2,d3,d4,kV,hw,aQ e2,e3,veq,Option.bind_some];by_cases h:a[k]=b[k] <;> simp [h]
  have ea:a.drop k=a[k]::a.drop (k+1):=List.drop_eq_getElem_cons h1;have eb:b.drop k=b[k]::b.drop (k+1):=List.drop_eq_getElem_cons h2;by_cases h:a[k]=b[k]
  ·rw [if_pos h] at hb;obtain⟨x,e,hx⟩:=aA4 hl hlb n hn m (k+1) (by omega) (by omega)
   have hc:tW (a.drop k) (b.drop k)=tW (a.drop (k+1)) (b.drop (k+1)):=by
    rw [ea,eb]; unfold tW; rw [mU,if_pos h]
   refine⟨x,?_,by rw [hc]; exact hx⟩;rw [fT hb];rw [show ((k+1:Nat):Int)-1=(k:Int) by omega] at e;exact e
  ·rw [if_neg h] at hb;refine⟨_,dF hb,.inr ⟨k,rfl,h1,h2,?_⟩⟩;rw [ea,eb]; unfold tW; rw [mU,if_neg h];simp [List.getD_eq_getElem?_getD,h1,h2]

theorem aDq (a b:List aI):vH a b=some (if wC a&&wC b then tW a b else 0):=by
 unfold vH;rw [TG];simp only [Option.bind_some]
 cases ha:wC a
 ·simp [cX]
 ·simp only [Bool.not_true,Bool.not_false,cX,cond_true,TG,Option.bind_some,Bool.false_or]
  cases hb:wC b
  ·simp
  ·obtain⟨la,ma⟩:=aBs ha;obtain⟨lb,mb⟩:=aBs hb;have hif:(if ((List.length b:Nat):Int)<((List.length a:Nat):Int) then ((List.length b:Nat):Int) else ((List.length a:Nat):Int))=((min a.length b.length:Nat):Int):=by split <;> omega
   have hlt:(a.take (min a.length b.length)).length=min a.length b.length:=by rw [List.length_take]; omega
   simp only [Bool.not_true,cond_false,hif,Int.toNat_natCast,wO,Option.bind_some,iW,iT,hlt,Bool.and_self,if_true];rw [aQ ⟨by omega,by omega⟩];obtain⟨x,e,hx⟩:=aA4 (a:=a) (b:=b) la lb _ rfl _ 0 rfl (Nat.zero_le _);have e':lp (fun s:Int×Int=>cK (fun st y0=>(kV y0 st b).bind fun o=>some (o.2,o.1)) (a.take (min a.length b.length)) (min a.length b.length:Nat) s.1 s.2) ((-1:Int),(0:Int))=some x:=e;rw [e'];simp only [List.drop_zero] at hx;rcases hx with ⟨sg,rfl,h⟩ | ⟨i,rfl,h1,h2,h⟩
   ·simp [fM,aDO,h]
   ·have hi:decide ((i:Int)<0)=false:=by simp
    simp only [Option.bind_some,Sum.elim_inr,hi,cond_false,Int.toNat_natCast];rw [aQ ⟨by omega,by omega⟩,aQ ⟨by omega,by omega⟩];have g1:a.getD i default∈a:=by simp [List.getD_eq_getElem?_getD,h1]
    have g2:b.getD i default∈b:=by simp [List.getD_eq_getElem?_getD,h2]
    rw [aDf (ma _ g1) (mb _ g2),h];simp only [Option.bind_some]

end Go.Abs
namespace Go.Abs
open Go
def jE (e:aF):aB:=⟨e.At,e.Net⟩

def gA (r:List aI)(f:List aB):List aF->List (List aI×List aB)
 | []=>[(r,f)]
 | e::l=>if e.Row=r then gA r (f++[jE e]) l else (r,f)::gA e.Row [jE e] l

def groups:List aF->List (List aI×List aB)
 | []=>[]
 | e::l=>gA e.Row [jE e] l

def itG {σ:Type}(y:σ->List aI->List aB->Option (σ×Bool)):List (List aI×List aB)->σ->Option σ
 | [],s=>some s
 | g::gs,s=>(y s g.1 g.2).bind fun x=>if x.2 then itG y gs x.1 else some x.1

def okL (l:List aF):Prop:=l.length<=3518437208783 /\ ∀ e∈l,e.Row.length<=4398046510976

theorem DL {r:List aI}(h:r.length<=4398046510976):uK r=some r:=by
 unfold uK;rw [aQ ⟨by omega,by omega,by omega⟩,aQ (by simp only [List.length_nil,Nat.zero_add]; omega)];rfl

theorem PF {σ:Type}{y:σ->List aI->List aB->Option (σ×Bool)}{l:List aF}(hl:okL l)(row:List aI)(sg:σ):∀ (r:List aF) (k:Nat) (f:List aB),l.drop k=r->k<=l.length->f.length<=k ->
  ∃ k' f',k<=k'/\k'<=l.length/\f'.length<=k'/\lp (fun s:σ×Int×List aB=>kN y l row s.1 s.2.1 s.2.2) (sg,(k:Int),f)=some (sg,((k':Nat):Int),f') /\
   gA row f r=(row,f')::groups (l.drop k')/\(∀ e r',r=e::r'->e.Row=row->k<k')
 | [],k,f,hd,hk,hf=>by
  have : k=l.length:=by
   have:=congrArg List.length hd;simp only [List.length_drop,List.length_nil] at this; omega
  subst this;refine⟨l.length,f,Nat.le_refl _,Nat.le_refl _,hf,dF ?_,by simp [gA,groups],fun e r' h=>by cases h⟩;show kN _ _ _ _ _ _=_;simp only [kN,jS,cX,cond_false,Option.bind_some,Bool.false_and];exact aQ (fun h=>by cases h)
 | a::r,k,f,hd,hk,hf=>by
  obtain⟨h1,h2⟩:=drop_cons hd;have hlt:k<l.length:=(List.getElem?_eq_some_iff.1 h1).1;obtain⟨hll,hlr⟩:=hl;obtain⟨d1,d2,d3,d4⟩:=idx h1 (by omega);have har:=hlr a (List.mem_of_getElem? h1)
  have hb:(fun s:σ×Int×List aB=>kN y l row s.1 s.2.1 s.2.2) (sg,(k:Int),f)=some (if a.Row=row then .inl (sg,((k+1:Nat):Int),f++[jE a]) else .inr (sg,(k:Int),f)):=by
   show kN _ _ _ _ _ _=_;simp only [kN,d1,d3,d4,cX,cond_true,IZ a.Row row (by omega),Option.bind_some,Bool.true_and];rw [aQ (fun _=>d2)];by_cases e:a.Row=row
   ·simp only [e,decide_true,cond_true,if_true];rw [aQ d2,aQ d2,aQ (by simp only [List.length_cons,List.length_nil]; omega)];rfl
   ·simp [e]
  by_cases e:a.Row=row
  ·rw [if_pos e] at hb;obtain⟨k',f',g1,g2,g3,g4,g5,_⟩:=PF ⟨hll,hlr⟩ row sg r (k+1) (f++[jE a]) h2 (by omega) (by simp; omega) (y:=y);refine⟨k',f',by omega,g2,g3,by rw [fT hb]; exact g4,by simp [gA,e,g5],fun _ _ _ _=>by omega⟩
  ·rw [if_neg e] at hb;refine⟨k,f,Nat.le_refl _,hk,hf,dF hb,?_,fun b r' h hr=>by cases h; exact absurd hr e⟩;rw [hd]; simp [gA,e,groups]

theorem aB6 {σ:Type}{y:σ->List aI->List aB->Option (σ×Bool)}{l:List aF}(hl:okL l):∀ (m k:Nat) (sg s':σ),l.length-k<=m->k<=l.length->itG y (groups (l.drop k)) sg=some s' ->
  ∃ x,lp (fun s:σ×Int=>jM y l s.1 s.2) (sg,(k:Int))=some x/\Sum.elim id id x=s':=by
 have stop:∀ (sg s':σ),itG y (groups (l.drop l.length)) sg=some s' -> ∃ x,lp (fun s:σ×Int=>jM y l s.1 s.2) (sg,((l.length:Nat):Int))=some x/\Sum.elim id id x=s':=by
  intro sg s' h;rw [List.drop_length] at h;simp only [groups,itG,Option.some.injEq] at h;refine⟨.inl sg,dF ?_,h⟩;show jM _ _ _ _=_;simp only [jM,jS,cond_false]
 intro m
 induction m with
 | zero =>
  intro k sg s' hm hk h;have : k=l.length:=by omega
  subst this; exact stop sg s' h
 | succ m ih =>
  intro k sg s' hm hk h;by_cases he:k=l.length
  ·subst he; exact stop sg s' h
  ·have hlt:k<l.length:=by omega
   have hd:l.drop k=l[k]::l.drop (k+1):=List.drop_eq_getElem_cons hlt;obtain⟨d1,d2,d3,d4⟩:=idx (List.getElem?_eq_getElem hlt) (by have:=hl.1; omega);obtain⟨k',f',g1,g2,g3,g4,g5,g6⟩:=PF hl l[k].Row sg (l.drop k) k [] rfl hk (by simp) (y:=y);have hk':=g6 _ _ hd rfl
   have hg:groups (l.drop k)=(l[k].Row,f')::groups (l.drop k'):=by
    rw [←g5,hd]; simp [groups,gA]
   rw [hg] at h;simp only [itG] at h;obtain⟨x,hx,h⟩:=aW h;have hrow:=hl.2 _ (List.getElem_mem hlt)
   have hb:(fun s:σ×Int=>jM y l s.1 s.2) (sg,(k:Int))=some (if x.2 then .inl (x.1,((k':Nat):Int)) else .inr (.inr x.1)):=by
    show jM _ _ _ _=_;simp only [jM,d1,cond_true,aQ d2,d3,uP,g4,Option.bind_some,rC,DL hrow,hx]
    cases x.2 <;> simp
   cases hx2:x.2
   ·rw [hx2] at hb h;simp only [Bool.false_eq_true,if_false,Option.some.injEq] at hb h;exact⟨_,dF hb,h⟩
   ·rw [hx2] at hb h;simp only [if_true] at hb h;obtain⟨z,hz1,hz2⟩:=ih k' x.1 s' (by omega) g2 h;exact⟨z,by rw [fT hb]; exact hz1,hz2⟩

theorem SY {σ:Type}{y:σ->List aI->List aB->Option (σ×Bool)}{l:List aF}(hl:okL l){s s':σ}(h:itG y (groups l) s=some s'):nO y l s=some s':=by
 unfold nO uT;obtain⟨x,h1,h2⟩:=aB6 hl l.length 0 s s' (by omega) (Nat.zero_le _) (by simpa using h);simp only [Int.natCast_zero] at h1;rw [h1]
 cases x <;> simpa using h2

def ahd (last:Option (List aI))(r:List aI):Bool:=match last with
 | none=>true
 | some q=>decide (tW q r<0)

def zI (p:List aB->Bool):Option (List aI)->List (List aI×List aB)->Bool
 | _,[]=>true
 | last,g::gs=>(wC g.1&&ahd last g.1&&p g.2)&&zI p (some g.1) gs

theorem aA0 {holds:List aB->Option Bool}{p:List aB->Bool}(hp:∀ f,holds f=some (p f))(c:List aF)(t:Bool):∀ (gs:List (List aI×List aB)) (last:List aI) (b:Bool),(b=true->wC last=true) ->
  ∃ x,itG (fun st r f=>rnd (fun (s:Bool×(List aI)×Bool)=>rA holds c s.1 s.2.1 s.2.2 r f) st) gs (.inl (t,last,b))=some x /\
   (if zI p (if b then some last else none) gs then ∃ u,x=.inl (t,u) else ∃ u,x=.inr (false,u))
 | [],last,b,_=>⟨_,rfl,by simp [zI]⟩
 | g::gs,last,b,hb=>by
  have hy:rA holds c t last b g.1 g.2=some (if wC g.1&&ahd (if b then some last else none) g.1&&p g.2 then .inl (t,g.1,true) else .inr (false,last,b)):=by
   unfold rA;simp only [TG,Option.bind_some,aDq,hp]
   cases hm:wC g.1
   ·simp [cX]
   ·cases b
    ·cases h2:p g.2 <;> simp [cX,ahd,h2]
    ·have hl:=hb rfl;by_cases h1:tW last g.1<0
     ·have h1':¬ (0<=tW last g.1):=by omega
      cases h2:p g.2 <;> simp [cX,ahd,h2,hl,h1,h1']
     ·have h1':0<=tW last g.1:=by omega
      simp [cX,ahd,hl,h1,h1']
  cases hc:(wC g.1&&ahd (if b then some last else none) g.1&&p g.2)
  ·rw [hc] at hy;simp only [itG,rnd,hy,Option.bind_some,zI,hc];exact⟨.inr (false,last,b),by simp,by simp⟩
  ·rw [hc] at hy;simp only [itG,rnd,hy,Option.bind_some,zI,hc];have hm:wC g.1=true:=by simp only [Bool.and_eq_true] at hc; exact hc.1.1
   obtain⟨x,h1,h2⟩:=aA0 hp c t gs g.1 true (fun _=>hm);refine⟨x,?_,?_⟩
   ·simpa [rnd] using h1
   ·simpa using h2

theorem aAV {l:List aF}(hl:okL l){holds:List aB->Option Bool}{p:List aB->Bool}(hp:∀ f,holds f=some (p f)):vY l holds=some (decide (l.length<=4096)&&zI p none (groups l)):=by
 unfold vY;by_cases h:l.length<=4096
 ·have h1:decide ((4096:Int)<((l.length:Nat):Int))=false:=by simp; omega
  rw [h1,cond_false];simp only [qN,Option.bind_some,AE];obtain⟨x,e1,e2⟩:=aA0 hp l false (groups l) [] false (fun h=>by cases h);rw [SY hl e1];simp only [Bool.false_eq_true,if_false] at e2;simp only [h,decide_true,Bool.true_and]
  cases hc:zI p none (groups l)
  ·rw [hc] at e2;simp only [Bool.false_eq_true,if_false] at e2;obtain⟨u,rfl⟩:=e2;rfl
  ·rw [hc] at e2;simp only [if_true] at e2;obtain⟨u,rfl⟩:=e2;rfl
 ·have h1:decide ((4096:Int)<((l.length:Nat):Int))=true:=by simp; omega
  rw [h1,cond_true];simp [h]

def eO (l:List aF):Bool:=decide (l.length<=4096)&&zI eU none (groups l)

theorem DU {l:List aF}(hl:okL l):oT l=some (eO l):=by
 unfold oT;rw [aAV hl (p:=eU) (fun f=>HM f)]; rfl

def SV (f:List aB):Bool:=eU f&&decide (0<=HJ f)

def mJ (l:List aF):Bool:=decide (l.length<=4096)&&zI SV none (groups l)

theorem FQ {l:List aF}(hl:okL l):pH l=some (mJ l):=by
 unfold pH
 rw [aAV hl (p:=SV) (fun f=>by
  unfold tB SV;rw [HM]
  cases h:eU f <;> simp [cX,aD1,h])]
 rfl

def iY (r:List aI)(f:List aB):List aF:=f.map fun j=>⟨r,j.At,j.Net⟩

theorem put_eq {out:List aF}{r:List aI}{f:List aB}(hr:r.length<=4398046510976)(hl:out.length+f.length<=1099511627776):AH out r f=some (out++iY r f):=by
 unfold AH CE;rw [vV (l:=f) (body:=fun s:List aF×Int=>qM r f (f.length:Nat) s.1 s.2) (fun o i=>(o,i)) (fun o t=>o++iY r t) (fun o t=>o.length+t.length<=1099511627776) out ?_ ?_ hl]
 ·rfl
 ·intro i a t o ha hi;left;obtain⟨d1,d2,d3,d4⟩:=idx ha (by have:=(List.getElem?_eq_some_iff.1 ha).1; omega);simp only [List.length_cons] at hi;refine⟨o++[⟨r,a.At,a.Net⟩],?_,by simp; omega,by simp [iY]⟩;show qM _ _ _ _ _=_;simp only [qM,d1,cond_true,aQ d2,d3,d4,DL hr,Option.bind_some];exact aQ (by simp only [List.length_cons,List.length_nil]; omega)
 ·intro o _;show qM _ _ _ _ _=_;simp only [qM,jS,cond_false];simp [iY]

def AL (by1:List aB->List aB×Int):List (List aI×List aB)->List aF->List aF×Int
 | [],out=>(out,0)
 | g::gs,out=>if (by1 g.2).2≠0 then ([],(by1 g.2).2) else if 4096<(out++iY g.1 (by1 g.2).1).length then ([],7) else AL by1 gs (out++iY g.1 (by1 g.2).1)

theorem VA {by0:List aB->Option (List aB×Int)}{by1:List aB->List aB×Int}(c:List aF):∀ (gs:List (List aI×List aB)) (out:List aF),out.length<=4096->(∀ g∈gs,by0 g.2=some (by1 g.2)/\(by1 g.2).1.length<=1024/\g.1.length<=4398046510976) ->
  ∃ x,itG (fun st r f=>rnd (fun (s:(List aF)×Int×List aF)=>oS by0 c s.1 s.2.1 s.2.2 r f) st) gs (.inl ([],0,out))=some x/\Sum.elim (fun s:(List aF)×Int×List aF=>(s.2.2,(0:Int))) (fun s=>(s.1,s.2.1)) x=AL by1 gs out
 | [],out,_,_=>⟨_,rfl,rfl⟩
 | g::gs,out,ho,hg=>by
  obtain⟨h1,h2,h3⟩:=hg g (by simp)
  have hy:oS by0 c [] 0 out g.1 g.2=some (if (by1 g.2).2≠0 then .inr ([],(by1 g.2).2,out) else if 4096<(out++iY g.1 (by1 g.2).1).length then .inr ([],7,out++iY g.1 (by1 g.2).1) else .inl ([],0,out++iY g.1 (by1 g.2).1)):=by
   unfold oS;simp only [h1,Option.bind_some,put_eq h3 (show out.length+(by1 g.2).1.length<=1099511627776 by omega)];by_cases e1:(by1 g.2).2=0
   ·by_cases e2:4096<(out++iY g.1 (by1 g.2).1).length
    ·have e2':(4096:Int)<(((out++iY g.1 (by1 g.2).1).length:Nat):Int):=by omega
     simp only [e1,e2,e2',decide_true,Bool.not_true,cond_false,cond_true,ne_eq,not_true_eq_false,if_false,if_true]
    ·have e2':¬ (4096:Int)<(((out++iY g.1 (by1 g.2).1).length:Nat):Int):=by omega
     simp only [e1,e2,e2',decide_true,decide_false,Bool.not_true,cond_false,ne_eq,not_true_eq_false,if_false]
   ·simp only [e1,decide_false,Bool.not_false,cond_true,ne_eq,not_false_eq_true,if_true]
  simp only [itG,rnd,hy,Option.bind_some,AL];by_cases e1:(by1 g.2).2≠0
  ·rw [if_pos e1,if_pos e1]; exact ⟨_,rfl,rfl⟩
  ·rw [if_neg e1,if_neg e1];by_cases e2:4096<(out++iY g.1 (by1 g.2).1).length
   ·rw [if_pos e2,if_pos e2]; exact ⟨_,rfl,rfl⟩
   ·rw [if_neg e2,if_neg e2];exact VA c gs _ (by omega) (fun q hq=>hg q (by simp [hq]))

theorem aCL {l:List aF}(hl:okL l){by0:List aB->Option (List aB×Int)}{by1:List aB->List aB×Int}(hb:∀ g∈groups l,by0 g.2=some (by1 g.2)/\(by1 g.2).1.length<=1024/\g.1.length<=4398046510976):vM l by0=some (AL by1 (groups l) []):=by
 unfold vM;simp only [qN,Option.bind_some,yG];obtain⟨x,e1,e2⟩:=VA (by0:=by0) (by1:=by1) l (groups l) [] (by simp) hb;rw [SY hl e1]
 cases x <;> simpa using e2

def flat (gs:List (List aI×List aB)):List aF:=gs.flatMap fun g=>iY g.1 g.2

theorem SK:∀ (l:List aF) (r:List aI) (f:List aB),flat (gA r f l)=iY r f++l
 | [],r,f=>by simp [gA,flat]
 | e::l,r,f=>by
  unfold gA;split
  ·rename_i h
   rw [SK l r];simp [iY,jE,←h]
  ·have:=SK l e.Row [jE e];simp only [flat,List.flatMap_cons] at this ⊢;rw [this];simp [iY,jE]

theorem GO (l:List aF):flat (groups l)=l:=by
 cases l with
 | nil=>rfl
 | cons e l=>unfold groups; rw [SK]; simp [iY,jE]

theorem XU {r:List aI}:∀ {l:List aF} {f:List aB} {g:List aI×List aB},g∈gA r f l->f≠[]->g.2≠[]/\(g.1=r ∨ ∃ e∈l,g.1=e.Row)
 | [],f,g,h,hf=>by simp only [gA,List.mem_singleton] at h; subst h; exact ⟨hf,.inl rfl⟩
 | e::l,f,g,h,hf=>by
  unfold gA at h;split at h
  ·obtain⟨h1,h2⟩:=XU h (by simp);exact⟨h1,h2.imp id fun ⟨x,hx,hx'⟩=>⟨x,by simp [hx],hx'⟩⟩
  ·rcases List.mem_cons.1 h with rfl | h
   ·exact⟨hf,.inl rfl⟩
   ·obtain⟨h1,h2⟩:=XU (r:=e.Row) h (by simp);refine⟨h1,.inr ?_⟩;rcases h2 with h2 | ⟨x,hx,hx'⟩
    ·exact⟨e,by simp,h2⟩
    ·exact⟨x,by simp [hx],hx'⟩

theorem aB8 {l:List aF}{g:List aI×List aB}(h:g∈groups l):g.2≠[] /\ ∃ e∈l,g.1=e.Row:=by
 cases l with
 | nil=>simp [groups] at h
 | cons e l =>
  obtain⟨h1,h2⟩:=XU h (by simp);refine⟨h1,?_⟩;rcases h2 with h2 | ⟨x,hx,hx'⟩
  ·exact⟨e,by simp,h2⟩
  ·exact⟨x,by simp [hx],hx'⟩

end Go.Abs
namespace Go.Abs
open Go
def cR (l:List aF)(r:List aI):List aB:=(l.filter fun e=>decide (e.Row=r)).map jE

theorem HN (a b:List aF)(r:List aI):cR (a++b) r=cR a r++cR b r:=by simp [cR]

theorem VQ (q:List aI)(f:List aB)(r:List aI):cR (iY q f) r=if q=r then f else []:=by
 induction f with
 | nil=>simp [cR,iY]
 | cons j f ih =>
  have h1:iY q (j::f)=[⟨q,j.At,j.Net⟩]++iY q f:=rfl;rw [h1,HN,ih];by_cases h:q=r <;> simp [cR,jE,h]

def look:List (List aI×List aB)->List aI->List aB
 | [],_=>[]
 | g::gs,r=>if g.1=r then g.2 else look gs r

theorem uC (g:List aI×List aB)(gs:List (List aI×List aB))(r:List aI):look (g::gs) r=if g.1=r then g.2 else look gs r:=rfl

abbrev ltG (a b:List aI×List aB):Prop:=tW a.1 b.1<0

abbrev uR (gs:List (List aI×List aB)):Prop:=gs.Pairwise ltG

abbrev Full (gs:List (List aI×List aB)):Prop:=∀ g∈gs,g.2≠[]

theorem sR {a:List aI}:¬ tW a a<0:=by rw [(BK.eq a a).2 rfl]; omega

theorem zX:∀ {gs:List (List aI×List aB)} {r:List aI},(∀ g∈gs,g.1≠r)->look gs r=[]
 | [],_,_=>rfl
 | g::gs,r,h=>by
  rw [uC];rw [if_neg (h g (by simp))];exact zX fun q hq=>h q (by simp [hq])

theorem DK (gs:List (List aI×List aB))(r:List aI):(look gs r=[] /\ ∀ g∈gs,g.1≠r) ∨ ∃ g∈gs,g.1=r/\look gs r=g.2:=by
 induction gs with
 | nil=>exact .inl ⟨rfl,by simp⟩
 | cons g gs ih =>
  rw [uC];by_cases h:g.1=r
  ·rw [if_pos h]; exact .inr ⟨g,by simp,h,rfl⟩
  ·rw [if_neg h];rcases ih with ⟨h1,h2⟩ | ⟨q,hq,h1,h2⟩
   ·refine .inl ⟨h1,fun q hq=>?_⟩;rcases List.mem_cons.1 hq with rfl | hq
    ·exact h
    ·exact h2 q hq
   ·exact .inr ⟨q,by simp [hq],h1,h2⟩

theorem BL {gs:List (List aI×List aB)}(hs:uR gs){g:List aI×List aB}(hg:g∈gs):look gs g.1=g.2:=by
 induction gs with
 | nil=>simp at hg
 | cons q gs ih =>
  have hs':=List.pairwise_cons.1 hs;rw [uC];rcases List.mem_cons.1 hg with rfl | hg
  ·rw [if_pos rfl]
  ·rw [if_neg (fun e=>by have:=hs'.1 g hg; simp only [ltG,e] at this; exact sR this)];exact ih hs'.2 hg

theorem tY (g:List aI×List aB)(gs:List (List aI×List aB)):flat (g::gs)=iY g.1 g.2++flat gs:=rfl

theorem BA:∀ {gs:List (List aI×List aB)},uR gs -> ∀ r,cR (flat gs) r=look gs r
 | [],_,r=>rfl
 | g::gs,hs,r=>by
  have hs':=List.pairwise_cons.1 hs;rw [tY,HN,VQ,BA hs'.2,uC];by_cases h:g.1=r
  ·rw [if_pos h,if_pos h,zX,List.append_nil];intro q hq e;have:=hs'.1 q hq;simp only [ltG,h,e] at this; exact sR this
  ·rw [if_neg h,if_neg h]; rfl

theorem MQ:∀ {gs hs:List (List aI×List aB)},uR gs->uR hs->Full gs->Full hs->(∀ r,look gs r=look hs r)->gs=hs
 | [],[],_,_,_,_,_=>rfl
 | [],h::hs,_,_,_,fh,he=>by
  have:=he h.1;simp only [uC,look,if_true] at this;exact absurd this.symm (fh h (by simp))
 | g::gs,[],_,_,fg,_,he=>by
  have:=he g.1;simp only [uC,look,if_true] at this;exact absurd this (fg g (by simp))
 | g::gs,h::hs,sg,sh,fg,fh,he=>by
  have sg':=List.pairwise_cons.1 sg;have sh':=List.pairwise_cons.1 sh;by_cases e:g.1=h.1
  ·have h2:=he g.1;simp only [look,if_true,if_pos e.symm] at h2
   have ht:gs=hs:=MQ sg'.2 sh'.2 (fun q hq=>fg q (by simp [hq])) (fun q hq=>fh q (by simp [hq])) fun r=>by
    by_cases hr:g.1=r
    ·subst hr;rw [zX (gs:=gs),zX (gs:=hs)]
     ·intro q hq e'; have:=sh'.1 q hq; simp only [ltG,←e,e'] at this; exact sR this
     ·intro q hq e'; have:=sg'.1 q hq; simp only [ltG,e'] at this; exact sR this
    ·have:=he r;simp only [look,if_neg hr,if_neg (fun x=>hr (e.trans x))] at this;exact this
   rw [ht];obtain⟨g1,g2⟩:=g;obtain⟨h1,h3⟩:=h;simp only at e h2;rw [e,h2]
  ·exfalso
   have hne:tW g.1 h.1≠0:=fun x=>e ((BK.eq _ _).1 x);by_cases hlt:tW g.1 h.1<0
   ·have h2:=he g.1;rw [BL sg (by simp),zX] at h2
    ·exact fg g (by simp) h2
    ·intro q hq e';rcases List.mem_cons.1 hq with rfl | hq
     ·exact e e'.symm
     ·have:=BK.trans _ _ _ hlt (sh'.1 q hq);rw [e'] at this; exact sR this
   ·have hlt':tW h.1 g.1<0:=(BK.anti _ _).2 (by omega);have h2:=he h.1;rw [BL sh (by simp),zX] at h2
    ·exact fh h (by simp) h2.symm
    ·intro q hq e';rcases List.mem_cons.1 hq with rfl | hq
     ·exact e e'
     ·have:=BK.trans _ _ _ hlt' (sg'.1 q hq);rw [e'] at this; exact sR this

theorem zZ {p:List aB->Bool}:∀ {gs:List (List aI×List aB)} {last:Option (List aI)},zI p last gs=true↔(∀ g∈gs,wC g.1=true/\p g.2=true)/\uR gs/\(∀ q,last=some q -> ∀ g∈gs,tW q g.1<0)
 | [],last=>by simp [zI]
 | g::gs,last=>by
  unfold zI;simp only [Bool.and_eq_true,zZ (gs:=gs),List.mem_cons,List.pairwise_cons];constructor
  ·rintro ⟨⟨⟨h1,h2⟩,h3⟩,h4,h5,h6⟩;refine⟨?_,⟨fun q hq=>h6 _ rfl q hq,h5⟩,?_⟩
   ·rintro q (rfl | hq)
    ·exact⟨h1,h3⟩
    ·exact h4 q hq
   ·rintro q rfl x (rfl | hx)
    ·simpa [ahd] using h2
    ·simp only [ahd,decide_eq_true_eq] at h2;exact BK.trans _ _ _ h2 (h6 _ rfl x hx)
  ·rintro ⟨h1,⟨h2,h3⟩,h4⟩;refine⟨⟨⟨(h1 g (.inl rfl)).1,?_⟩,(h1 g (.inl rfl)).2⟩,fun q hq=>h1 q (.inr hq),h3,?_⟩
   ·unfold ahd;split
    ·rfl
    ·exact decide_eq_true (h4 _ rfl g (.inl rfl))
   ·rintro q hq x hx
    cases hq
    exact h2 x hx

theorem jQ {l:List aF}(h:eO l=true):l.length<=4096/\(∀ g∈groups l,wC g.1=true/\eU g.2=true)/\uR (groups l):=by
 simp only [eO,Bool.and_eq_true,decide_eq_true_eq] at h;obtain⟨h1,h2,_⟩:=zZ.1 h.2;exact⟨h.1,h1,h2⟩

theorem aDR {l:List aF}(h:eO l=true)(r:List aI):eU (look (groups l) r)=true:=by
 rcases DK (groups l) r with ⟨h1,_⟩ | ⟨g,hg,_,h1⟩
 ·rw [h1]; exact aAT
 ·rw [h1]; exact ((jQ h).2.1 g hg).2

theorem uG {l:List aF}(h:uR (groups l))(r:List aI):look (groups l) r=cR l r:=by
 rw [←BA h,GO]

theorem aBc (r:List aI)(f:List aB)(e:aF)(l:List aF):gA r f (e::l)=if e.Row=r then gA r (f++[jE e]) l else (r,f)::gA e.Row [jE e] l:=rfl

theorem WX (r:List aI):∀ (f2 f:List aB) (l:List aF),gA r f (iY r f2++l)=gA r (f++f2) l
 | [],f,l=>by simp [iY]
 | j::f2,f,l=>by
  show gA r f (⟨r,j.At,j.Net⟩::(iY r f2++l))=_;rw [aBc,if_pos rfl,WX r f2];simp [jE]

theorem UT:∀ {gs:List (List aI×List aB)},uR gs->Full gs->groups (flat gs)=gs
 | [],_,_=>rfl
 | (r,f)::gs,hs,hf=>by
  have hs':=List.pairwise_cons.1 hs;have hne:=hf (r,f) (by simp);have ih:=UT hs'.2 (fun g hg=>hf g (by simp [hg]))
  cases f with
  | nil=>exact absurd rfl hne
  | cons j f =>
   rw [tY];show gA r [jE ⟨r,j.At,j.Net⟩] (iY r f++flat gs)=_;rw [WX]
   have key:∀ (F:List aB),gA r F (flat gs)=(r,F)::groups (flat gs):=by
    intro F
    cases gs with
    | nil=>rfl
    | cons g gs =>
     obtain⟨q,f'⟩:=g;have hq:=hf (q,f') (by simp)
     cases f' with
     | nil=>exact absurd rfl hq
     | cons j' f' =>
      have hqr:q≠r:=fun e=>by
       have:=hs'.1 (q,j'::f') (by simp);simp only [ltG,e] at this; exact sR this
      rw [tY];show gA r F (⟨q,j'.At,j'.Net⟩::(iY q f'++flat gs))=_;rw [gA,if_neg hqr];rfl
   rw [key,ih];rfl

def sW (gs:List (List aI×List aB)):List (List aI×List aB):=gs.filter fun g => !g.2.isEmpty

theorem FO:∀ (gs:List (List aI×List aB)),flat (sW gs)=flat gs
 | []=>rfl
 | (r,[])::gs=>by
  have : sW ((r,[])::gs)=sW gs:=rfl;rw [this,FO gs,tY]; rfl
 | (r,j::f)::gs=>by
  have : sW ((r,j::f)::gs)=(r,j::f)::sW gs:=rfl;rw [this,tY,tY,FO gs]

theorem xI (gs:List (List aI×List aB)):Full (sW gs):=by
 intro g hg;have:=(List.mem_filter.1 hg).2;intro h; rw [h] at this; simp at this

theorem BG {gs:List (List aI×List aB)}(hs:uR gs):groups (flat gs)=sW gs:=by
 rw [←FO];exact UT (hs.filter _) (xI gs)

theorem TP {gs:List (List aI×List aB)}(hs:uR gs)(r:List aI):look (groups (flat gs)) r=look gs r:=by
 have h1:=BA (gs:=sW gs) (hs.filter _) r;rw [BG hs,←h1,←BA hs,FO]

theorem aDb {gs:List (List aI×List aB)}(hs:uR gs)(hm:∀ g∈gs,wC g.1=true/\eU g.2=true)(hl:(flat gs).length<=4096):eO (flat gs)=true:=by
 simp only [eO,Bool.and_eq_true,decide_eq_true_eq];refine⟨hl,zZ.2 ?_⟩;rw [BG hs];exact⟨fun g hg=>hm g (List.mem_filter.1 hg).1,hs.filter _,by simp⟩

def qY (by1:List aB->List aB×Int)(gs:List (List aI×List aB)):List (List aI×List aB):=gs.map fun g=>(g.1,(by1 g.2).1)

theorem xG {by1:List aB->List aB×Int}{gs:List (List aI×List aB)}(hs:uR gs):uR (qY by1 gs):=by
 rw [uR,qY,List.pairwise_map]; exact hs

theorem uA {by1:List aB->List aB×Int}(h0:(by1 []).1=[]):∀ (gs:List (List aI×List aB)) (r:List aI),look (qY by1 gs) r=(by1 (look gs r)).1
 | [],r=>h0.symm
 | g::gs,r=>by
  show look ((g.1,(by1 g.2).1)::qY by1 gs) r=_;rw [uC,uC];by_cases h:g.1=r
  ·rw [if_pos h,if_pos h]
  ·rw [if_neg h,if_neg h]; exact uA h0 gs r

theorem aAX {by1:List aB->List aB×Int}:∀ {gs:List (List aI×List aB)} {out:List aF},out.length<=4096->(AL by1 gs out).2=0->(∀ g∈gs,(by1 g.2).2=0)/\(AL by1 gs out).1=out++flat (qY by1 gs)/\(AL by1 gs out).1.length<=4096
 | [],out,ho,_=>by simp [AL,qY,flat,ho]
 | g::gs,out,ho,h=>by
  unfold AL at h ⊢;by_cases e1:(by1 g.2).2=0
  ·rw [if_neg (by simp [e1])] at h ⊢;by_cases e2:4096<(out++iY g.1 (by1 g.2).1).length
   ·rw [if_pos e2] at h; simp at h
   ·rw [if_neg e2] at h ⊢;obtain⟨h1,h2,h3⟩:=aAX (by omega) h;refine⟨?_,?_,h3⟩
    ·intro q hq;rcases List.mem_cons.1 hq with rfl | hq
     ·exact e1
     ·exact h1 q hq
    ·rw [h2]; simp [qY,tY]
  ·rw [if_pos e1] at h; exact absurd h e1

theorem WU {by1:List aB->List aB×Int}:∀ {gs:List (List aI×List aB)} {out:List aF},(AL by1 gs out).2≠0->(AL by1 gs out).1=[]
 | [],out,h=>by simp [AL] at h
 | g::gs,out,h=>by
  unfold AL at h ⊢;split
  ·rfl
  ·rename_i e1
   rw [if_neg e1] at h;split
   ·rfl
   ·rename_i e2
    rw [if_neg e2] at h;exact WU h

def zN (by1:List aB->List aB×Int)(l:List aF):List aF×Int:=if eO l then AL by1 (groups l) [] else ([],2)

theorem GD {l:List aF}(hl:okL l){g:List aI×List aB}(hg:g∈groups l):g.1.length<=4398046510976:=by
 obtain⟨_,e,he,h⟩:=aB8 hg;rw [h]; exact hl.2 e he

theorem all_eq {l:List aF}(hl:okL l){by0:List aB->Option (List aB×Int)}{by1:List aB->List aB×Int}(hb:∀ f,by0 f=some (by1 f))(h1:∀ f,(by1 f).1.length<=1024):BB l by0=some (zN by1 l):=by
 unfold BB zN;rw [DU hl]
 cases h:eO l
 ·rfl
 ·simp only [Option.bind_some,Bool.not_true,cond_false,if_true];rw [aCL hl (fun g hg=>⟨hb g.2,h1 g.2,GD hl hg⟩)];rfl

theorem HS {by1:List aB->List aB×Int}{l:List aF}(h:(zN by1 l).2=0):eO l=true/\(∀ g∈groups l,(by1 g.2).2=0)/\(zN by1 l).1=flat (qY by1 (groups l))/\(zN by1 l).1.length<=4096:=by
 unfold zN at h ⊢
 cases hm:eO l
 ·rw [hm] at h; simp at h
 ·rw [hm] at h;simp only [if_true] at h ⊢;obtain⟨h1,h2,h3⟩:=aAX (by simp) h;exact⟨trivial,h1,by simpa using h2,h3⟩

theorem aDc {by1:List aB->List aB×Int}(h0:(by1 []).1=[]){l:List aF}(h:(zN by1 l).2=0)(r:List aI):look (groups (zN by1 l).1) r=(by1 (look (groups l) r)).1:=by
 obtain⟨h1,h2,h3,_⟩:=HS h;rw [h3,TP (xG (jQ h1).2.2),uA h0]

theorem aE4 {by1:List aB->List aB×Int}(h0:(by1 []).2=0){l:List aF}(h:(zN by1 l).2=0)(r:List aI):(by1 (look (groups l) r)).2=0:=by
 obtain⟨h1,h2,_,_⟩:=HS h;rcases DK (groups l) r with ⟨e,_⟩ | ⟨g,hg,_,e⟩
 ·rw [e]; exact h0
 ·rw [e]; exact h2 g hg

theorem aAq {f g:List aF}(hl:okL f):wS f g=some (decide (f=g)):=by
 unfold wS;by_cases he:f.length=g.length
 ·rw [KN he,cond_false];unfold zG;have:=WK (f:=f) (g:=g) (body:=fun s=>rZ f g s) he ?_ ?_ f.length 0 rfl (Nat.zero_le _)
  ·simp only [Int.natCast_zero,List.drop_zero] at this;rw [this];by_cases h:f=g <;> simp [h,vS]
  ·intro i x y hx hy;have hll:=hl.1;obtain⟨d1,d2,d3,d4⟩:=idx hx (by omega);obtain⟨_,e2,e3,_⟩:=idx hy (by omega);have hr:=hl.2 x (List.mem_of_getElem? hx);simp only [rZ,d1,cond_true,aQ d2,aQ e2,d3,e3,d4,cX];rw [aQ (fun _=>d2),aQ (fun _=>e2),aQ (fun _=>d2),aQ (fun _=>e2),JM x.Row y.Row (by omega)];obtain⟨x1,x2,x3⟩:=x;obtain⟨y1,y2,y3⟩:=y;by_cases h1:x2=y2 <;> by_cases h2:x3=y3 <;> by_cases h3:x1=y1 <;> simp [h1,h2,h3]
  ·simp only [rZ,jS,cond_false]
 ·rw [aAb he,cond_true];have : f≠g:=fun h=>he (by rw [h]);simp [this]

theorem DC:∀ (l:List aF) (r:List aI) (f:List aB),(gA r f l).length<=l.length+1
 | [],_,_=>by simp [gA]
 | e::l,r,f=>by
  rw [aBc];split
  ·have:=DC l r (f++[jE e]); simp only [List.length_cons]; omega
  ·have:=DC l e.Row [jE e]; simp only [List.length_cons]; omega

theorem QS (l:List aF):(groups l).length<=l.length:=by
 cases l with
 | nil=>simp [groups]
 | cons e l=>exact DC l e.Row [jE e]

end Go.Abs
namespace Go.Abs
open Go
def vL:aI:=⟨1,1,ByteArray.empty⟩

end Go.Abs
namespace Go.Abs
open Go
theorem aA3:okL []:=⟨by simp,by simp⟩

theorem aEt {gs:List (List aI×List aB)}(h:∀ g∈gs,g.1.length<=4398046510976)(hl:(flat gs).length<=4096):okL (flat gs):=by
 refine⟨by omega,fun e he=>?_⟩;obtain⟨g,hg,h1⟩:=List.mem_flatMap.1 he;obtain⟨j,_,rfl⟩:=List.mem_map.1 h1;exact h g hg

theorem aEC {by1:List aB->List aB×Int}{l:List aF}(hl:okL l):okL (zN by1 l).1:=by
 by_cases h:(zN by1 l).2=0
 ·obtain⟨_,_,h3,h4⟩:=HS h;rw [h3] at h4 ⊢;refine aEt (fun g hg=>?_) h4;obtain⟨q,hq,rfl⟩:=List.mem_map.1 hg;have:=GD hl hq;exact this
 ·unfold zN at h ⊢;split
  ·rename_i hm
   rw [if_pos hm] at h;rw [WU h]; exact aA3
  ·exact aA3

def qE (l:List aF)(t:Int):List aF×Int:=zN (fun f=>ahead f t) l

theorem aCo {l:List aF}(hl:okL l)(t:Int):okL (qE l t).1:=aEC hl

theorem VM {l:List aF}(hl:okL l)(t:Int):tL l t=some (qE l t):=by
 unfold tL qE;rw [all_eq hl (by0:=fun y0=>qO y0 t) (by1:=fun f=>ahead f t) (fun f=>by unfold qO; rw [aEq]; rfl) (fun f=>aCW f t)];rfl

theorem UQ {t:Int}(ht0:0<=t):ahead [] t=([],0):=by
 unfold ahead;rw [if_pos aAT];split
 ·rfl
 ·rfl

end Go.Abs
namespace Go.Abs
open Go
theorem ND {σ:Type}{y:σ->List aI->List aB->Option (σ×Bool)}(c:List aF):∀ (gs:List (List aI×List aB)) (s s':σ),itG y gs s=some s' ->
  ∃ x,itG (fun st t10 t11=>rnd (fun (s:σ)=>mA y c s t10 t11) st) gs (.inl s)=some x/\Sum.elim id id x=s'
 | [],s,s',h=>by simp only [itG,Option.some.injEq] at h; exact ⟨_,rfl,h⟩
 | g::gs,s,s',h=>by
  simp only [itG] at h;obtain⟨z,hz,h⟩:=aW h
  have hl:mA y c s g.1 g.2=some (if z.2 then .inl z.1 else .inr z.1):=by
   unfold mA;rw [hz];obtain⟨z1,z2⟩:=z
   cases z2 <;> rfl
  cases h2:z.2
  ·rw [h2] at h hl;simp only [Bool.false_eq_true,if_false,Option.some.injEq] at h hl;refine⟨.inr z.1,?_,h⟩;simp [itG,rnd,hl]
  ·rw [h2] at h hl;simp only [if_true] at h hl;obtain⟨x,h3,h4⟩:=ND c gs z.1 s' h;refine⟨x,?_,h4⟩;simp only [itG,rnd,hl,Option.bind_some,Sum.isLeft_inl,if_true];exact h3

theorem RK {σ:Type}{y:σ->List aI->List aB->Option (σ×Bool)}{l:List aF}(hl:okL l){s s':σ}(h:itG y (if eO l then groups l else []) s=some s'):nX y l s=some s':=by
 unfold nX;rw [DU hl]
 cases hm:eO l
 ·rw [hm] at h;simp only [Bool.false_eq_true,if_false,itG] at h
  simpa using h
 ·rw [hm] at h;simp only [if_true] at h;simp only [Option.bind_some,Bool.not_true,cond_false,qN,sI];obtain⟨x,h1,h2⟩:=ND l (groups l) s s' h;rw [SY hl h1]
  cases x <;> simpa using h2

theorem xU {l:List aF}(hm:eO l=true){e:aF}(he:e∈l):wC e.Row=true /\ -2<e.At/\e.At<1125899906842624/\e.Net≠0/\e.Net<=1048576 /\ -1048576<=e.Net:=by
 obtain⟨_,h2,_⟩:=jQ hm;have he':e∈flat (groups l):=by rw [GO]; exact he
 obtain⟨g,hg,h1⟩:=List.mem_flatMap.1 he';obtain⟨j,hj,rfl⟩:=List.mem_map.1 h1;obtain⟨a,b⟩:=h2 g hg;exact⟨a,(jO.1 b).2.above j hj⟩

theorem qI {l:List aF}(hm:eO l=true)(r:List aI):eU (cR l r)=true:=by
 rw [←uG (jQ hm).2.2]; exact aDR hm r

end Go.Abs
namespace Go.Abs
open Go
theorem aBq {c:Int}:∀ {l:List Int} {m:Int},c<=l.foldl mn m↔c<=m /\ ∀ x∈l,c<=x
 | [],m=>by simp
 | a::l,m=>by
  rw [List.foldl_cons,aBq];unfold mn;constructor
  ·rintro ⟨h1,h2⟩;have h3:c<=m/\c<=a:=by split at h1 <;> omega
   refine⟨h3.1,fun x hx=>?_⟩;rcases List.mem_cons.1 hx with rfl | hx
   ·exact h3.2
   ·exact h2 x hx
  ·rintro ⟨h1,h2⟩;have:=h2 a (by simp);exact⟨by split <;> omega,fun x hx=>h2 x (by simp [hx])⟩

theorem UK {t:Int}:∀ {f:List aB} {l v:Int},qX l f->v+val f t=v∨v+val f t∈parts v f
 | [],l,v,_=>.inl (by simp [val])
 | j::r,l,v,h=>by
  unfold parts;rw [mP];by_cases e:j.At<=t
  ·rw [if_pos e];right;rcases UK (t:=t) (v:=v+j.Net) h.2 with h1 | h1
   ·rw [show v+(j.Net+val r t)=v+j.Net by omega]; simp
   ·rw [show v+(j.Net+val r t)=v+j.Net+val r t by omega]; exact List.mem_cons_of_mem _ h1
  ·left;rw [if_neg e,h.2.aEy (by omega)]; omega

theorem UY {f:List aB}(hf:eU f=true):0<=HJ f ↔ ∀ t,0<=val f t:=by
 have hr:=(jO.1 hf).2;unfold HJ;rw [aBq];constructor
 ·rintro ⟨_,h2⟩ t;rcases UK (t:=t) (v:=0) hr with h | h
  ·omega
  ·rw [parts_eq hr] at h;obtain⟨j,hj,h⟩:=List.mem_map.1 h;have:=h2 _ (List.mem_map.2 ⟨j,hj,rfl⟩);omega
 ·intro h;refine⟨h _,fun x hx=>?_⟩;obtain⟨j,_,rfl⟩:=List.mem_map.1 hx;exact h _

theorem PM {l:List aF}:mJ l=true↔eO l=true /\ ∀ r t,0<=val (cR l r) t:=by
 constructor
 ·intro h;unfold mJ at h;rw [Bool.and_eq_true,zZ] at h;obtain⟨h1,h2,h3,_⟩:=h
  have hm:eO l=true:=by
   unfold eO;rw [Bool.and_eq_true];exact⟨h1,zZ.2 ⟨fun g hg=>⟨(h2 g hg).1,by have:=(h2 g hg).2; unfold SV at this; rw [Bool.and_eq_true] at this; exact this.1⟩,h3,fun q hq=>by cases hq⟩⟩
  refine⟨hm,fun r=>?_⟩;rw [←uG h3];rcases DK (groups l) r with ⟨e,_⟩ | ⟨g,hg,_,e⟩
  ·rw [e]; intro t; simp [val]
  ·rw [e];have:=(h2 g hg).2;unfold SV at this;rw [Bool.and_eq_true,decide_eq_true_eq] at this;exact (UY this.1).1 this.2
 ·rintro ⟨hm,h⟩;obtain⟨h1,h2,h3⟩:=jQ hm;unfold mJ;rw [Bool.and_eq_true];refine⟨by simpa using h1,zZ.2 ⟨fun g hg=>⟨(h2 g hg).1,?_⟩,h3,fun q hq=>by cases hq⟩⟩;unfold SV;rw [Bool.and_eq_true,decide_eq_true_eq];refine⟨(h2 g hg).2,(UY (h2 g hg).2).2 ?_⟩;have : g.2=cR l g.1:=by rw [←uG h3,BL h3 hg]
  rw [this]; exact h g.1

end Go.Abs
namespace Go.Abs
open Go
abbrev gN (d:List Int)(i:Nat):Int:=d.getD i default

def swp (d:List Int)(i j:Nat):List Int:=(d.set i (gN d j)).set j (gN d i)

theorem aDS {d:List Int}{i k:Nat}{x:Int}(h:i<d.length):gN (d.set i x) k=if k=i then x else gN d k:=by
 simp only [gN,List.getD_eq_getElem?_getD,List.getElem?_set];by_cases e:i=k
 ·subst e; simp [h]
 ·rw [if_neg e,if_neg (fun h=>e h.symm)]

theorem iP (d:List Int)(i j:Nat):(swp d i j).length=d.length:=by simp [swp]

theorem vW {d:List Int}{i j:Nat}(hi:i<d.length)(hj:j<d.length)(k:Nat):gN (swp d i j) k=if k=j then gN d i else if k=i then gN d j else gN d k:=by
 unfold swp;rw [aDS (by simpa using hj),aDS hi]

theorem aEZ {d:List Int}{i j:Nat}(hi:i<d.length)(hj:j<d.length):(swp d i j).Perm d:=by
 have h1:gN d i=d[i]:=by simp [gN,List.getD_eq_getElem?_getD,List.getElem?_eq_getElem hi]
 have h2:gN d j=d[j]:=by simp [gN,List.getD_eq_getElem?_getD,List.getElem?_eq_getElem hj]
 unfold swp;rw [h1,h2];exact List.set_set_perm hi hj

structure Rel (a b:Nat) (d d':List Int):Prop where
 len:d'.length=d.length
 perm:d'.Perm d
 out:∀ k,k<a∨b<=k->gN d' k=gN d k
 src:∀ k,a<=k->k<b -> ∃ k',a<=k'/\k'<b/\gN d' k=gN d k'

theorem Rel.refl (a b:Nat)(d:List Int):Rel a b d d:=⟨rfl,.refl _,fun _ _=>rfl,fun k h1 h2=>⟨k,h1,h2,rfl⟩⟩

theorem Rel.trans {a b:Nat}{d d' d'':List Int}(h:Rel a b d d')(h':Rel a b d' d''):Rel a b d d'' :=
 ⟨h'.len.trans h.len,h'.perm.trans h.perm,fun k hk=>(h'.out k hk).trans (h.out k hk),fun k h1 h2=>by
  obtain⟨k1,a1,a2,a3⟩:=h'.src k h1 h2;obtain⟨k2,b1,b2,b3⟩:=h.src k1 a1 a2;exact⟨k2,b1,b2,a3.trans b3⟩⟩

theorem Rel.mono {a b a' b':Nat}{d d':List Int}(h:Rel a b d d')(h1:a'<=a)(h2:b<=b'):Rel a' b' d d' :=
 ⟨h.len,h.perm,fun k hk=>h.out k (by omega),fun k k1 k2=>by
  by_cases hk:a<=k/\k<b
  ·obtain⟨k',c1,c2,c3⟩:=h.src k hk.1 hk.2;exact⟨k',by omega,by omega,c3⟩
  ·exact⟨k,k1,k2,h.out k (by omega)⟩⟩

theorem Rel.swp {a b:Nat}{d:List Int}{i j:Nat}(hi:i<d.length)(hj:j<d.length)(h1:a<=i/\i<b)(h2:a<=j/\j<b):Rel a b d (swp d i j) :=
 ⟨iP ..,aEZ hi hj,fun k hk=>by rw [vW hi hj,if_neg (by omega),if_neg (by omega)],fun k k1 k2=>by
  rw [vW hi hj];split
  ·exact⟨i,h1.1,h1.2,rfl⟩
  ·split
   ·exact⟨j,h2.1,h2.2,rfl⟩
   ·exact⟨k,k1,k2,rfl⟩⟩

theorem Rel.all {a b:Nat}{d d':List Int}(h:Rel a b d d'){p:Int->Prop}(hp:∀ k,a<=k->k<b->p (gN d k)):∀ k,a<=k->k<b->p (gN d' k):=fun k k1 k2=>by
 obtain⟨k',c1,c2,c3⟩:=h.src k k1 k2;rw [c3]; exact hp k' c1 c2

def rT (a b:Nat)(d:List Int):Prop:=∀ p q,a<=p->p<=q->q<b->gN d p<=gN d q

theorem uF (a b:Int):dH a b=some (decide (a<b)):=by simp [dH,kZ,cX]

theorem wrN {x:Int}{n:Nat}(h:x=(n:Int))(hn:n<=9000000000000000000):IntKind.i64.wrap x=(n:Int):=by
 rw [cZ (by omega) (by omega),h]

theorem asN {i n:Nat}(h:i<n):0<=(i:Int)/\(i:Int)<((n:Nat):Int):=by omega

theorem YW {a b i:Int}{d:List Int}{lo j:Nat}(ha:a=(lo:Nat))(h1:lo<=j)(hj:j<d.length)(hl:d.length<4611686018427387904) :
  fL a b i d (j:Nat)=if lo<j/\gN d j<gN d (j-1) then some (.inl (swp d j (j-1),((j-1:Nat):Int))) else some (.inr d):=by
 subst ha;unfold fL;by_cases h:lo<j
 ·have e1:IntKind.i64.wrap ((j:Int)-1)=((j-1:Nat):Int):=wrN (by omega) (by omega);have d1:decide (((lo:Nat):Int)<((j:Nat):Int))=true:=by simp; omega
  rw [e1,d1];simp only [true_and,Int.toNat_natCast,uF,cX,cond_true,Option.bind_some,Bool.true_and];rw [aQ fun _=>asN hj,aQ fun _=>asN (by omega)];by_cases h2:gN d j<gN d (j-1)
  ·rw [if_pos ⟨h,h2⟩];simp only [gN] at h2;simp only [h2,decide_true,cond_true];rw [aQ (asN (by omega)),aQ (asN hj),aQ (asN hj),aQ (asN (by omega))];rfl
  ·rw [if_neg (fun hh=>h2 hh.2)];simp only [gN] at h2;simp only [h2,decide_false,cond_false]
 ·have d1:decide (((lo:Nat):Int)<((j:Nat):Int))=false:=by simp; omega
  rw [if_neg (fun hh=>h hh.1),d1];simp only [Bool.false_eq_true,false_implies,cX,cond_false,Option.bind_some,Bool.false_and];rw [aQ trivial,aQ trivial]

structure LJ (a j i:Nat) (d:List Int):Prop where
 oth:∀ p q,a<=p->p<=q->q<=i->p≠j->q≠j->gN d p<=gN d q
 up:∀ q,j<q->q<=i->gN d j<=gN d q

theorem LJ.done {a j i:Nat}{d:List Int}(h:LJ a j i d)(hj:a<=j)(hn:¬ (a<j/\gN d j<gN d (j-1))):rT a (i+1) d:=by
 intro p q h1 h2 h3;by_cases hp:p=j
 ·by_cases hq:q=j
  ·subst hp; subst hq; exact Int.le_refl _
  ·subst hp; exact h.up q (by omega) (by omega)
 ·by_cases hq:q=j
  ·subst hq;have h4:¬ gN d q<gN d (q-1):=fun hh=>hn ⟨by omega,hh⟩;have:=h.oth p (q-1) h1 (by omega) (by omega) hp (by omega);omega
  ·exact h.oth p q h1 h2 (by omega) hp hq

theorem LJ.next {a j i:Nat}{d:List Int}(h:LJ a j i d)(hj:a<j)(hji:j<=i)(hi:i<d.length)(hlt:gN d j<gN d (j-1)):LJ a (j-1) i (swp d j (j-1)):=by
 have g:=vW (d:=d) (i:=j) (j:=j-1) (by omega) (by omega);refine⟨fun p q h1 h2 h3 hp hq=>?_,fun q h1 h2=>?_⟩
 ·rw [g,g,if_neg hp,if_neg hq];by_cases hpj:p=j
  ·rw [if_pos hpj];by_cases hqj:q=j
   ·rw [if_pos hqj]; exact Int.le_refl _
   ·rw [if_neg hqj]; exact h.oth (j-1) q (by omega) (by omega) h3 (by omega) hqj
  ·rw [if_neg hpj];by_cases hqj:q=j
   ·rw [if_pos hqj]; exact h.oth p (j-1) h1 (by omega) (by omega) hpj (by omega)
   ·rw [if_neg hqj]; exact h.oth p q h1 h2 h3 hpj hqj
 ·rw [g,g,if_pos rfl,if_neg (by omega)];by_cases hqj:q=j
  ·rw [if_pos hqj]; omega
  ·rw [if_neg hqj]; exact h.up q (by omega) h2

theorem aGx {a b i:Int}{lo hi:Nat}(ha:a=(lo:Nat)):∀ (j:Nat) (d:List Int),lo<=j->j<=hi->hi<d.length->d.length<4611686018427387904->LJ lo j hi d ->
  ∃ d',lp (fun s:List Int×Int=>fL a b i s.1 s.2) (d,(j:Int))=some d'/\Rel lo (hi+1) d d'/\rT lo (hi+1) d':=by
 intro j
 induction j with
 | zero =>
  intro d h1 h2 h3 h4 h5;have hs:=YW (a:=a) (b:=b) (i:=i) ha h1 (by omega) h4 (d:=d);rw [if_neg (by omega)] at hs;exact⟨d,dF hs,Rel.refl ..,h5.done h1 (by omega)⟩
 | succ j ih =>
  intro d h1 h2 h3 h4 h5;have hs:=YW (a:=a) (b:=b) (i:=i) ha h1 (by omega) h4 (d:=d);by_cases h:lo<j+1/\gN d (j+1)<gN d (j+1-1)
  ·rw [if_pos h] at hs;obtain⟨d',e,r,s⟩:=ih (swp d (j+1) (j+1-1)) (by omega) (by omega) (by rw [iP]; omega) (by rw [iP]; omega) (h5.next h.1 h2 h3 h.2);exact⟨d',(fT hs).trans e,(Rel.swp (by omega) (by omega) (by omega) (by omega)).trans r,s⟩
  ·rw [if_neg h] at hs;exact⟨d,dF hs,Rel.refl ..,h5.done h1 h⟩

theorem aAQ {a b:Int}{lo hi:Nat}(ha:a=(lo:Nat))(hb:b=(hi:Nat)):∀ (n i:Nat) (d:List Int),hi-i=n->lo<i->hi<=d.length->d.length<4611686018427387904->rT lo i d->(i<=hi∨hi<=i) ->
  ∃ d',lp (fun s:List Int×Int=>dU a b s.1 s.2) (d,(i:Int))=some d'/\Rel lo hi d d'/\rT lo hi d':=by
 intro n
 induction n with
 | zero =>
  intro i d h1 h2 h3 h4 h5 _;refine⟨d,dF ?_,Rel.refl ..,fun p q p1 p2 p3=>h5 p q p1 p2 (by omega)⟩;show dU _ _ _ _=_;have : decide (((i:Nat):Int)<b)=false:=by simp; omega
  simp only [dU,this,cond_false]
 | succ n ih =>
  intro i d h1 h2 h3 h4 h5 _;obtain⟨d1,e,r,s⟩:=aGx (a:=a) (b:=b) (i:=(i:Int)) (hi:=i) ha i d (by omega) (Nat.le_refl _) (by omega) h4 ⟨fun p q p1 p2 p3 p4 p5=>h5 p q p1 p2 (by omega),fun q q1 q2=>by omega⟩;obtain⟨d2,e2,r2,s2⟩:=ih (i+1) d1 (by omega) (by omega) (by rw [r.len]; exact h3) (by rw [r.len]; exact h4) s (by omega);refine⟨d2,?_,(r.mono (Nat.le_refl _) (by omega)).trans r2,s2⟩;rw [fT (s':=(d1,((i+1:Nat):Int))) ?_,e2];show dU _ _ _ _=_;have : decide (((i:Nat):Int)<b)=true:=by simp; omega
  simp only [dU,this,cond_true,jZ];rw [e];simp only [Option.bind_some,iA];rw [wrN (n:=i+1) (by omega) (by omega)]

theorem OJ (lo:Nat)(d:List Int):rT lo (lo+1) d:=fun p q p1 p2 p3=>by
 have : p=q:=by omega
 subst this;exact Int.le_refl _

theorem aEx {lo hi:Nat}{d:List Int}(h3:hi<=d.length)(h4:d.length<4611686018427387904)(h0:lo<=hi):∃ d',iL d (lo:Int) (hi:Int)=some d'/\Rel lo hi d d'/\rT lo hi d':=by
 unfold iL kA;obtain⟨d',e,r,s⟩:=aAQ (a:=(lo:Int)) (b:=(hi:Int)) (lo:=lo) (hi:=hi) rfl rfl (hi-(lo+1)) (lo+1) d rfl (by omega) h3 h4 (OJ lo d) (by omega);rw [wrN (n:=lo+1) (by omega) (by omega),e];exact⟨d',rfl,r,s⟩

theorem aGo {lo hi:Nat}:∀ (n i j:Nat) (d:List Int),j+1-i=n->lo<=i->j+1<=hi∨j<=i->hi<=d.length->d.length<4611686018427387904->i<4611686018427387904->j<4611686018427387904 ->
  ∃ d',lp (fun s:List Int×Int×Int=>dW s.1 s.2.1 s.2.2) (d,(i:Int),(j:Int))=some d'/\Rel lo hi d d':=by
 intro n
 induction n using Nat.strongRecOn with
 | ind n ih =>
  intro i j d h1 h2 h3 h4 h5 h6 h7;by_cases h:i<j
  ·obtain⟨d',e,r⟩:=ih (j-1+1-(i+1)) (by omega) (i+1) (j-1) (swp d i j) rfl (by omega) (by omega) (by rw [iP]; exact h4) (by rw [iP]; exact h5) (by omega) (by omega);refine⟨d',?_,(Rel.swp (by omega) (by omega) (by omega) (by omega)).trans r⟩;rw [fT (s':=(swp d i j,((i+1:Nat):Int),((j-1:Nat):Int))) ?_,e];show dW _ _ _=_;have : decide (((i:Nat):Int)<((j:Nat):Int))=true:=by simp; omega
   simp only [dW,this,cond_true,Int.toNat_natCast];rw [aQ (asN (by omega)),aQ (asN (by omega)),aQ (asN (by omega)),aQ (asN (by omega)),wrN (n:=i+1) (by omega) (by omega),wrN (n:=j-1) (by omega) (by omega)];rfl
  ·refine⟨d,dF ?_,Rel.refl ..⟩;show dW _ _ _=_;have : decide (((i:Nat):Int)<((j:Nat):Int))=false:=by simp; omega
   simp only [dW,this,cond_false]

theorem aC8 {lo hi:Nat}{d:List Int}(h0:lo<hi)(h3:hi<=d.length)(h4:d.length<4611686018427387904):∃ d',iV d (lo:Int) (hi:Int)=some d'/\Rel lo hi d d':=by
 unfold iV kH;obtain⟨d',e,r⟩:=aGo (lo:=lo) (hi:=hi) (hi-1+1-lo) lo (hi-1) d rfl (Nat.le_refl _) (by omega) h3 h4 (by omega) (by omega);rw [wrN (n:=hi-1) (by omega) (by omega),e];exact⟨d',rfl,r⟩

end Go.Abs
namespace Go.Abs
open Go
def BC (f hi:Nat)(d:List Int)(r:Nat):Nat:=if 2*r+2<hi/\gN d (f+(2*r+1))<gN d (f+(2*r+2)) then 2*r+2 else 2*r+1

theorem TC {f hi r c:Nat}{d:List Int}(hf:f+hi<=d.length)(hr:r<hi)(hc:c<hi)(hl:d.length<2305843009213693951) :
  iD d (hi:Nat) (f:Nat) (r:Nat) (c:Nat)=if gN d (f+r)<gN d (f+c) then some (.inl (swp d (f+r) (f+c),(c:Int))) else some (.inr (.inr d)):=by
 unfold iD;have e1:IntKind.i64.wrap ((f:Int)+(r:Int))=((f+r:Nat):Int):=wrN (by omega) (by omega);have e2:IntKind.i64.wrap ((f:Int)+(c:Int))=((f+c:Nat):Int):=wrN (by omega) (by omega);rw [e1,e2];simp only [Int.toNat_natCast,uF,Option.bind_some];rw [aQ (asN (by omega)),aQ (asN (by omega))];by_cases h:gN d (f+r)<gN d (f+c)
 ·rw [if_pos h];simp only [gN] at h;simp only [h,decide_true,Bool.not_true,cond_false];rw [aQ (asN (by omega)),aQ (asN (by omega)),aQ (asN (by omega)),aQ (asN (by omega))];rfl
 ·rw [if_neg h];simp only [gN] at h;simp only [h,decide_false,Bool.not_false,cond_true]

theorem aDt {f hi r:Nat}{d:List Int}(hf:f+hi<=d.length)(hr:r<hi)(hl:d.length<2305843009213693951) :
  dQ (hi:Nat) (f:Nat) d (r:Nat)=if hi<=2*r+1 then some (.inr (.inl d)) else if gN d (f+r)<gN d (f+BC f hi d r) then some (.inl (swp d (f+r) (f+BC f hi d r),(BC f hi d r:Int))) else some (.inr (.inr d)):=by
 unfold dQ
 have e1:IntKind.i64.wrap (IntKind.i64.wrap ((2:Int)*(r:Int))+1)=((2*r+1:Nat):Int):=by
  rw [wrN (x:=(2:Int)*(r:Int)) (n:=2*r) (by omega) (by omega)]; exact wrN (by omega) (by omega)
 have e2:IntKind.i64.wrap (((2*r+1:Nat):Int)+1)=((2*r+2:Nat):Int):=wrN (by omega) (by omega);simp only [e1,e2];by_cases h:hi<=2*r+1
 ·rw [if_pos h];have : decide (((hi:Nat):Int)<=((2*r+1:Nat):Int))=true:=by simp; omega
  rw [this,cond_true]
 ·rw [if_neg h];have d1:decide (((hi:Nat):Int)<=((2*r+1:Nat):Int))=false:=by simp; omega
  rw [d1,cond_false];by_cases h2:2*r+2<hi
  ·have d2:decide (((2*r+2:Nat):Int)<((hi:Nat):Int))=true:=by simp; omega
   have e3:IntKind.i64.wrap ((f:Int)+((2*r+1:Nat):Int))=((f+(2*r+1):Nat):Int):=wrN (by omega) (by omega);have e4:IntKind.i64.wrap (((f+(2*r+1):Nat):Int)+1)=((f+(2*r+2):Nat):Int):=wrN (by omega) (by omega);simp only [d2,e3,e4,Int.toNat_natCast,uF,cX,cond_true,Option.bind_some,Bool.true_and];rw [aQ fun _=>asN (by omega),aQ fun _=>asN (by omega)];by_cases h3:gN d (f+(2*r+1))<gN d (f+(2*r+2))
   ·have hb:BC f hi d r=2*r+2:=if_pos ⟨h2,h3⟩;simp only [gN] at h3;simp only [h3,decide_true,cond_true];rw [TC hf hr h2 hl,hb]
   ·have hb:BC f hi d r=2*r+1:=if_neg fun hh=>h3 hh.2;simp only [gN] at h3;simp only [h3,decide_false,cond_false];rw [TC hf hr (by omega) hl,hb]
  ·have d2:decide (((2*r+2:Nat):Int)<((hi:Nat):Int))=false:=by simp; omega
   have hb:BC f hi d r=2*r+1:=if_neg fun hh=>h2 hh.1;simp only [d2,Bool.false_eq_true,false_implies,cX,cond_false,Option.bind_some,Bool.false_and];rw [aQ trivial,aQ trivial,TC hf hr (by omega) hl,hb]

def chd (c p:Nat):Prop:=c=2*p+1∨c=2*p+2

def Hp (f lo hi:Nat)(d:List Int):Prop:=∀ i c,lo<=i->chd c i->c<hi->gN d (f+c)<=gN d (f+i)

structure HpX (f lo hi r:Nat) (d:List Int):Prop where
 oth:∀ i c,lo<=i->i≠r->chd c i->c<hi->gN d (f+c)<=gN d (f+i)
 up:∀ p c,lo<=p->chd r p->chd c r->c<hi->gN d (f+c)<=gN d (f+p)

theorem aDM {f hi r:Nat}{d:List Int}(h:¬ hi<=2*r+1):chd (BC f hi d r) r/\BC f hi d r<hi /\ ∀ c,chd c r->c<hi->gN d (f+c)<=gN d (f+BC f hi d r):=by
 unfold BC;split
 ·rename_i h1
  refine⟨.inr rfl,h1.1,fun c hc hlt=>?_⟩;rcases hc with rfl | rfl
  ·omega
  ·exact Int.le_refl _
 ·rename_i h1
  refine⟨.inl rfl,by omega,fun c hc hlt=>?_⟩;rcases hc with rfl | rfl
  ·exact Int.le_refl _
  ·have : ¬ gN d (f+(2*r+1))<gN d (f+(2*r+2)):=fun hh=>h1 ⟨hlt,hh⟩;omega

theorem HpX.done {f lo hi r:Nat}{d:List Int}(h:HpX f lo hi r d)(hr:∀ c,chd c r->c<hi->gN d (f+c)<=gN d (f+r)):Hp f lo hi d:=by
 intro i c h1 h2 h3;by_cases e:i=r
 ·subst e; exact hr c h2 h3
 ·exact h.oth i c h1 e h2 h3

theorem HpX.next {f lo hi r c:Nat}{d:List Int}(h:HpX f lo hi r d)(hf:f+hi<=d.length)(hlo:lo<=r)(hrh:r<hi)(hc:chd c r)(hch:c<hi)(hbig:∀ k,chd k r->k<hi->gN d (f+k)<=gN d (f+c))(hlt:gN d (f+r)<gN d (f+c)):HpX f lo hi c (swp d (f+r) (f+c)):=by
 have g:=vW (d:=d) (i:=f+r) (j:=f+c) (by omega) (by omega);have hcr:r<c:=by unfold chd at hc; omega
 refine⟨fun i k h1 h2 h3 h4=>?_,fun p k h1 h2 h3 h4=>?_⟩
 ·rw [g,g,if_neg (show ¬ f+i=f+c by omega)];by_cases hir:i=r
  ·subst hir;rw [if_pos (show f+i=f+i from rfl)];by_cases hkc:k=c
   ·subst hkc; rw [if_pos rfl]; omega
   ·rw [if_neg (by omega),if_neg (by unfold chd at h3; omega)];exact hbig k h3 h4
  ·rw [if_neg (show ¬ f+i=f+r by omega)];have hkc:k≠c:=by intro e; subst e; unfold chd at h3 hc; omega
   rw [if_neg (by omega)];by_cases hkr:k=r
   ·subst hkr;rw [if_pos rfl];exact h.up i c h1 h3 hc hch
   ·rw [if_neg (by omega)];exact h.oth i k h1 hir h3 h4
 ·have hp:p=r:=by unfold chd at h2 hc; omega
  subst hp;have hk:c<k:=by unfold chd at h3; omega
  rw [g,g,if_neg (by omega),if_neg (by omega),if_neg (by omega),if_pos rfl];exact h.oth c k (by omega) (by omega) h3 h4

theorem aFV {f lo hi:Nat}:∀ (n r:Nat) (d:List Int),hi-r=n->f+hi<=d.length->lo<=r->r<hi->d.length<2305843009213693951->HpX f lo hi r d ->
  ∃ d',(lp (fun s:List Int×Int=>dQ (hi:Nat) (f:Nat) s.1 s.2) (d,(r:Int))=some (.inl d')∨lp (fun s:List Int×Int=>dQ (hi:Nat) (f:Nat) s.1 s.2) (d,(r:Int))=some (.inr d'))/\Rel f (f+hi) d d'/\Hp f lo hi d':=by
 intro n
 induction n using Nat.strongRecOn with
 | ind n ih =>
  intro r d h1 h2 h3 h4 h5 h6;have hs:=aDt h2 h4 h5;by_cases h:hi<=2*r+1
  ·rw [if_pos h] at hs;exact⟨d,.inl (dF hs),Rel.refl ..,h6.done fun c hc hlt=>by unfold chd at hc; omega⟩
  ·rw [if_neg h] at hs;obtain⟨b1,b2,b3⟩:=aDM (f:=f) (d:=d) h;by_cases hlt:gN d (f+r)<gN d (f+BC f hi d r)
   ·rw [if_pos hlt] at hs;have hb:r<BC f hi d r:=by unfold chd at b1; omega
    obtain⟨d',e,rl,hp⟩:=ih (hi-BC f hi d r) (by omega) (BC f hi d r) _ rfl (by rw [iP]; exact h2) (by omega) b2 (by rw [iP]; exact h5) (h6.next h2 h3 h4 b1 b2 b3 hlt);exact⟨d',e.imp (fun e=>(fT hs).trans e) (fun e=>(fT hs).trans e),(Rel.swp (by omega) (by omega) (by omega) (by omega)).trans rl,hp⟩
   ·rw [if_neg hlt] at hs;exact⟨d,.inr (dF hs),Rel.refl ..,h6.done fun c hc hc2=>by have:=b3 c hc hc2; omega⟩

theorem aA8 {f lo hi:Nat}{d:List Int}(h2:f+hi<=d.length)(h5:d.length<2305843009213693951)(hlo:lo<2305843009213693951)(h6:HpX f lo hi lo d) :
  ∃ d',fY d (lo:Nat) (hi:Nat) (f:Nat)=some d'/\Rel f (f+hi) d d'/\Hp f lo hi d':=by
 unfold fY lT;by_cases h:lo<hi
 ·obtain⟨d',e,r,p⟩:=aFV (hi-lo) lo d rfl h2 (Nat.le_refl _) h h5 h6;rcases e with e | e <;> rw [e] <;> exact ⟨d',rfl,r,p⟩
 ·refine⟨d,?_,Rel.refl ..,fun i c h1 hc hlt=>by unfold chd at hc; omega⟩
  have hs:dQ (hi:Nat) (f:Nat) d (lo:Nat)=some (.inr (.inl d)):=by
   unfold dQ
   have e1:IntKind.i64.wrap (IntKind.i64.wrap ((2:Int)*(lo:Int))+1)=((2*lo+1:Nat):Int):=by
    rw [wrN (x:=(2:Int)*(lo:Int)) (n:=2*lo) (by omega) (by omega)]; exact wrN (by omega) (by omega)
   have : decide (((hi:Nat):Int)<=((2*lo+1:Nat):Int))=true:=by simp; omega
   simp only [e1,this,cond_true]
  rw [dF (show (fun s:List Int×Int=>dQ (hi:Nat) (f:Nat) s.1 s.2) (d,(lo:Int))=_ from hs)];rfl

theorem aDk {f k:Nat}{d:List Int}(h:Hp f 0 k d):∀ i,i<k->gN d (f+i)<=gN d f:=by
 intro i
 induction i using Nat.strongRecOn with
 | ind i ih =>
  intro hi;by_cases h0:i=0
  ·subst h0; exact Int.le_refl _
  ·have h1:=h ((i-1) / 2) i (Nat.zero_le _) (by unfold chd; omega) hi;have h2:=ih ((i-1) / 2) (by omega) (by omega);omega

theorem aBp {f hi:Nat}:∀ (k:Nat) (d:List Int),f+hi<=d.length->k<2305843009213693951->d.length<2305843009213693951->Hp f k hi d ->
  ∃ d',lp (fun s:List Int×Int=>eM (f:Nat) 0 (hi:Nat) s.1 s.2) (d,(k:Int)-1)=some d'/\Rel f (f+hi) d d'/\Hp f 0 hi d'
 | 0,d,_,_,_,h=>by
  refine⟨d,dF ?_,Rel.refl ..,h⟩;show eM _ _ _ _ _=_;have : decide ((0:Int)<=((0:Nat):Int)-1)=false:=by simp
  simp only [eM,this,cond_false]
 | k+1,d,h1,h2,h3,h=>by
  obtain⟨d1,e,r,p⟩:=aA8 (f:=f) (lo:=k) (hi:=hi) h1 h3 (by omega) ⟨fun i c a1 a2 a3 a4=>h i c (by omega) a3 a4,fun p c a1 a2=>by unfold chd at a2; omega⟩;obtain⟨d2,e2,r2,p2⟩:=aBp (f:=f) (hi:=hi) k d1 (by rw [r.len]; exact h1) (by omega) (by rw [r.len]; exact h3) p;refine⟨d2,?_,r.trans r2,p2⟩;rw [fT (s':=(d1,(k:Int)-1)) ?_,e2];show eM _ _ _ _ _=_;have g1:(((k+1:Nat):Int)-1)=(k:Int):=by omega
  have g2:decide ((0:Int)<=(k:Int))=true:=by simp
  simp only [eM,g1,g2,cond_true,e,Option.bind_some];rw [cZ (by omega) (by omega)]

theorem aDz {f n:Nat}:∀ (k:Nat) (d:List Int),k<=n->f+n<=d.length->d.length<2305843009213693951->Hp f 0 k d->rT (f+k) (f+n) d->(∀ p q,f<=p->p<f+k->f+k<=q->q<f+n->gN d p<=gN d q) ->
  ∃ d',lp (fun s:List Int×Int=>eK (f:Nat) 0 s.1 s.2) (d,(k:Int)-1)=some d'/\Rel f (f+n) d d'/\rT f (f+n) d'
 | 0,d,_,_,_,_,hs,_=>by
  refine⟨d,dF ?_,Rel.refl ..,hs⟩;show eK _ _ _ _=_;have : decide ((0:Int)<=((0:Nat):Int)-1)=false:=by simp
  simp only [eK,this,cond_false]
 | k+1,d,h1,h2,h3,h,hs,hb=>by
  have g:=vW (d:=d) (i:=f) (j:=f+k) (by omega) (by omega);have hroot:=aDk h
  obtain⟨d1,e,r,p⟩:=aA8 (f:=f) (lo:=0) (hi:=k) (d:=swp d f (f+k)) (by rw [iP]; omega) (by rw [iP]; exact h3) (by omega) ⟨fun i c a1 a2 a3 a4=>by
   rw [g,g,if_neg (by unfold chd at a3; omega),if_neg (by unfold chd at a3; omega),if_neg (by unfold chd at a3; omega),if_neg (by omega)];exact h i c (by omega) a3 (by omega),fun p c a1 a2=>by unfold chd at a2; omega⟩
  have rs:Rel f (f+n) d (swp d f (f+k)):=Rel.swp (i:=f) (j:=f+k) (by omega) (by omega) (by omega) (by omega);have top:gN d1 (f+k)=gN d f:=by rw [r.out _ (by omega),g,if_pos rfl]
  have tail:∀ q,f+k<q->gN d1 q=gN d q:=fun q hq=>by rw [r.out _ (by omega),g,if_neg (by omega),if_neg (by omega)]
  have low:∀ p,f<=p->p<f+k -> ∃ p',f<=p'/\p'<f+(k+1)/\gN d1 p=gN d p':=fun p p1 p2=>by
   obtain⟨p',a1,a2,a3⟩:=r.src p p1 p2;rw [g,if_neg (by omega)] at a3;by_cases hp:p'=f
   ·rw [if_pos hp] at a3; exact ⟨f+k,by omega,by omega,a3⟩
   ·rw [if_neg hp] at a3; exact ⟨p',a1,by omega,a3⟩
  obtain⟨d2,e2,r2,s2⟩:=aDz (f:=f) (n:=n) k d1 (by omega) (by rw [r.len,iP]; exact h2) (by rw [r.len,iP]; exact h3) p (fun p q p1 p2 p3=>by
   by_cases hq:q=f+k
   ·have : p=f+k:=by omega
    rw [hq,this]; exact Int.le_refl _
   ·rw [tail q (by omega)];by_cases hp:p=f+k
    ·rw [hp,top]; exact hb f q (Nat.le_refl _) (by omega) (by omega) p3
    ·rw [tail p (by omega)]; exact hs p q (by omega) p2 p3) (fun p q p1 p2 p3 p4=>by
   obtain⟨p',a1,a2,a3⟩:=low p p1 p2;rw [a3];by_cases hq:q=f+k
   ·rw [hq,top];have:=hroot (p'-f) (by omega);rw [show f+(p'-f)=p' by omega] at this;exact this
   ·rw [tail q (by omega)]; exact hb p' q a1 a2 (by omega) p4)
  refine⟨d2,?_,(rs.trans (r.mono (Nat.le_refl _) (by omega))).trans r2,s2⟩;rw [fT (s':=(d1,(k:Int)-1)) ?_,e2];show eK _ _ _ _=_;have g1:(((k+1:Nat):Int)-1)=(k:Int):=by omega
  have g2:decide ((0:Int)<=(k:Int))=true:=by simp
  have g3:IntKind.i64.wrap ((f:Int)+(k:Int))=((f+k:Nat):Int):=wrN (by omega) (by omega);simp only [eK,g1,g2,g3,cond_true,Int.toNat_natCast];rw [aQ (asN (by omega)),aQ (asN (by omega)),aQ (asN (by omega)),aQ (asN (by omega))];have e':fY (List.set (List.set d f (List.getD d (f+k) default)) (f+k) (List.getD d f default)) 0 (k:Int) (f:Int)=some d1:=e;rw [e'];simp only [Option.bind_some];rw [cZ (by omega) (by omega)]

theorem aCY {lo hi:Nat}{d:List Int}(h0:lo<hi)(h1:hi<=d.length)(h3:d.length<2305843009213693951):∃ d',kF d (lo:Int) (hi:Int)=some d'/\Rel lo hi d d'/\rT lo hi d':=by
 unfold kF;rw [aQ (by decide)];have e1:IntKind.i64.wrap ((hi:Int)-(lo:Int))=((hi-lo:Nat):Int):=wrN (by omega) (by omega);have e2:IntKind.i64.wrap (((hi-lo:Nat):Int)-1)=((hi-lo-1:Nat):Int):=wrN (by omega) (by omega)
 have e3:IntKind.i64.wrap (Int.tdiv ((hi-lo-1:Nat):Int) 2)=(((hi-lo-1) / 2+1:Nat):Int)-1:=by
  have : Int.tdiv ((hi-lo-1:Nat):Int) 2=(((hi-lo-1) / 2:Nat):Int):=by rw [Int.tdiv_eq_ediv_of_nonneg (by omega)]; omega
  rw [this,wrN (n:=(hi-lo-1) / 2) rfl (by omega)]; omega
 rw [e1,e2,e3];unfold lU;obtain⟨d1,a1,r1,p1⟩:=aBp (f:=lo) (hi:=hi-lo) ((hi-lo-1) / 2+1) d (by omega) (by omega) h3 (fun i c b1 b2 b3=>by unfold chd at b2; omega);rw [a1];simp only [Option.bind_some,jX,lS];obtain⟨d2,a2,r2,s2⟩:=aDz (f:=lo) (n:=hi-lo) (hi-lo) d1 (Nat.le_refl _) (by rw [r1.len]; omega) (by rw [r1.len]; exact h3) p1 (fun p q b1 b2 b3=>by omega) (fun p q b1 b2 b3 b4=>by omega);have e4:IntKind.i64.wrap (((hi-lo:Nat):Int)-1)=((hi-lo:Nat):Int)-1:=cZ (by omega) (by omega);rw [e4,a2];have : lo+(hi-lo)=hi:=by omega
 rw [this] at r1 r2 s2;exact⟨d2,rfl,r1.trans r2,s2⟩

end Go.Abs
namespace Go.Abs
open Go
def OR:ByteArray:=⟨#[0,1,2,2,3,3,3,3,4,4,4,4,4,4,4,4,5,5,5,5,5,5,5,5,5,5,5,5,5,5,5,5,6,6,6,6,6,6,6,6,6,6,6,6,6,6,6,6,6,6,6,6,6,6,6,6,6,6,6,6,6,6,6,6,7,7,7,7,7,7,7,7,7,7,7,7,7,7,7,7,7,7,7,7,7,7,7,7,7,7,7,7,7,7,7,7,7,7,7,7,7,7,7,7,7,7,7,7,7,7,7,7,7,7,7,7,7,7,7,7,7,7,7,7,7,7,7,7,8,8,8,8,8,8,8,8,8,8,8,8,8,8,8,8,8,8,8,8,8,8,8,8,8,8,8,8,8,8,8,8,8,8,8,8,8,8,8,8,8,8,8,8,8,8,8,8,8,8,8,8,8,8,8,8,8,8,8,8,8,8,8,8,8,8,8,8,8,8,8,8,8,8,8,8,8,8,8,8,8,8,8,8,8,8,8,8,8,8,8,8,8,8,8,8,8,8,8,8,8,8,8,8,8,8,8,8,8,8,8,8,8,8,8,8,8,8,8,8,8,8,8,8,8,8,8,8]⟩

theorem aDJ:∀ i:Fin 256,i.val≠0 -> ∃ k:Fin 8,bt OR (i.val:Int)=(k.val:Int)+1/\2 ^ k.val<=i.val:=by decide +kernel

theorem UI:ByteArray.size OR=256:=by decide +kernel

theorem aFg {x:Int}(h:0<=x)(h2:x<=255):IntKind.u8.wrap x=x:=by
 simp only [IntKind.wrap,IntKind.bits,IntKind.signed];simp;omega

theorem KV {x:Int}(h:0<=x)(h2:x<=9223372036854775807):IntKind.u64.wrap x=x:=by
 simp only [IntKind.wrap,IntKind.bits,IntKind.signed];simp;omega

theorem aDY {x n:Int}(h1:1<=x)(h2:x<=255)(hn:0<=n/\n<=100):∃ k:Nat,nH x n=some (n+k+1)/\k<=7/\(2:Int) ^ k<=x:=by
 obtain⟨k,e,hk⟩:=aDJ ⟨x.toNat,by omega⟩ (by simp; omega);refine⟨k.val,?_,by omega,?_⟩
 ·show (bE (0<=(IntKind.u8.wrap x)/\(IntKind.u8.wrap x)<((ByteArray.size OR:Nat):Int)) <| some (IntKind.i64.wrap (n+(IntKind.i64.wrap (bt OR (IntKind.u8.wrap x))))))=_;rw [aFg (by omega) h2,aQ (by rw [UI]; omega)];simp only at e;rw [Int.toNat_of_nonneg (by omega)] at e;rw [e,cZ (n:=(k.val:Int)+1) (by omega) (by omega),cZ (by omega) (by omega)]
  congr 1
  omega
 ·simp only at hk;have : ((2 ^ k.val:Nat):Int)<=((x.toNat:Nat):Int):=by exact_mod_cast hk
  rw [Int.toNat_of_nonneg (by omega)] at this
  simpa using this

theorem OB {x m:Int}(hm:0<m):Int.fdiv x m=x / m:=Int.fdiv_eq_ediv_of_nonneg _ (by omega)

theorem aDV {x n:Int}(h1:1<=x)(h2:x<=65535)(hn:0<=n/\n<=90):∃ k:Nat,lV x n=some (n+k+1)/\k<=15/\(2:Int) ^ k<=x:=by
 unfold lV;by_cases h:256<=x
 ·have hd:Int.fdiv x (2 ^ (min (Int.toNat (8:Int)) 64))=x / 256:=by rw [show (2 ^ (min (Int.toNat (8:Int)) 64):Int)=256 from by decide]; exact OB (by omega)
  obtain⟨k,e,h3,h4⟩:=aDY (x:=x / 256) (n:=n+8) (by omega) (by omega) (by omega);refine⟨k+8,?_,by omega,?_⟩
  ·simp only [h,decide_true,cond_true];rw [aQ (by decide),hd,cZ (n:=n+8) (by omega) (by omega),e]
   congr 1; omega
  ·rw [Int.pow_add]; have : (2:Int) ^ 8=256:=by decide
   rw [this]; omega
 ·obtain⟨k,e,h3,h4⟩:=aDY (x:=x) (n:=n) h1 (by omega) (by omega);exact⟨k,by simp only [h,decide_false,cond_false,e],by omega,h4⟩

theorem aCF {x n:Int}(h1:1<=x)(h2:x<=4294967295)(hn:0<=n/\n<=70):∃ k:Nat,lZ x n=some (n+k+1)/\k<=31/\(2:Int) ^ k<=x:=by
 unfold lZ;by_cases h:65536<=x
 ·have hd:Int.fdiv x (2 ^ (min (Int.toNat (16:Int)) 64))=x / 65536:=by rw [show (2 ^ (min (Int.toNat (16:Int)) 64):Int)=65536 from by decide]; exact OB (by omega)
  obtain⟨k,e,h3,h4⟩:=aDV (x:=x / 65536) (n:=n+16) (by omega) (by omega) (by omega);refine⟨k+16,?_,by omega,?_⟩
  ·simp only [h,decide_true,cond_true];rw [aQ (by decide),hd,cZ (n:=n+16) (by omega) (by omega),e]
   congr 1; omega
  ·rw [Int.pow_add]; have : (2:Int) ^ 16=65536:=by decide
   rw [this]; omega
 ·obtain⟨k,e,h3,h4⟩:=aDV (x:=x) (n:=n) h1 (by omega) (by omega);exact⟨k,by simp only [h,decide_false,cond_false,e],by omega,h4⟩

theorem aDi {x:Int}(h1:1<=x)(h2:x<=9223372036854775807):∃ k:Nat,lM x=some ((k:Int)+1)/\k<=63/\(2:Int) ^ k<=x:=by
 unfold lM qC;by_cases h:4294967296<=x
 ·have hd:Int.fdiv x (2 ^ (min (Int.toNat (32:Int)) 64))=x / 4294967296:=by rw [show (2 ^ (min (Int.toNat (32:Int)) 64):Int)=4294967296 from by decide]; exact OB (by omega)
  obtain⟨k,e,h3,h4⟩:=aCF (x:=x / 4294967296) (n:=32) (by omega) (by omega) (by omega);refine⟨k+32,?_,by omega,?_⟩
  ·simp only [h,decide_true,cond_true];rw [aQ (by decide),hd,e];simp only [Option.bind_some]
   congr 1; omega
  ·rw [Int.pow_add]; have : (2:Int) ^ 32=4294967296:=by decide
   rw [this]; omega
 ·obtain⟨k,e,h3,h4⟩:=aCF (x:=x) (n:=0) h1 (by omega) (by omega);refine⟨k,?_,by omega,h4⟩;simp only [h,decide_false,cond_false,e,Option.bind_some]
  congr 1; omega

theorem aC6:bt OR 0=0:=by decide +kernel

theorem aD7:lM 0=some 0:=by
 have h3:nH 0 0=some 0:=by
  show (bE (0<=(IntKind.u8.wrap 0)/\(IntKind.u8.wrap 0)<((ByteArray.size OR:Nat):Int)) <| some (IntKind.i64.wrap (0+(IntKind.i64.wrap (bt OR (IntKind.u8.wrap 0))))))=_;rw [aFg (by omega) (by omega),aQ (by rw [UI]; omega),aC6,cZ (n:=0) (by omega) (by omega),cZ (by omega) (by omega)];rfl
 have h2:lV 0 0=some 0:=h3;have h1:lZ 0 0=some 0:=h2;unfold lM qC;have : decide ((4294967296:Int)<=0)=false:=by decide
 rw [this,cond_false,h1];rfl

theorem aE0 {n:Nat}(h1:1<=n)(h2:n<2305843009213693951):∃ m:Int,mL (n:Int)=some m/\1<=m/\m<=2*n:=by
 unfold mL;rw [KV (by omega) (by omega)];obtain⟨k,e,h3,h4⟩:=aDi (x:=(n:Int)) (by omega) (by omega);have hk:(2:Int) ^ (k+1)=2*2 ^ k:=by rw [Int.pow_succ]; omega
 have hp:(1:Int)<=2 ^ k:=by
  have : (0:Int)<2 ^ k:=Int.pow_pos (by decide);omega
 rw [e];simp only [Option.bind_some];rw [aQ (by omega),show min (Int.toNat ((k:Int)+1)) 64=k+1 by omega,Int.one_mul,hk,KV (by omega) (by omega)];exact⟨_,rfl,by omega,by omega⟩

theorem aGi (x:Int){m:Int}(h0:0<=m)(hm:m<=9223372036854775807):0<=bT .and .u64 x m/\bT .and .u64 x m<=m:=by
 have h1:(BitVec.ofInt IntKind.u64.bits x &&& BitVec.ofInt IntKind.u64.bits m).toNat<=m.toNat:=by
  rw [BitVec.toNat_and];refine Nat.le_trans Nat.and_le_right ?_;rw [BitVec.toNat_ofInt];have : IntKind.u64.bits=64:=rfl;rw [this];omega
 have h2:bT .and .u64 x m=((BitVec.ofInt IntKind.u64.bits x &&& BitVec.ofInt IntKind.u64.bits m).toNat:Int):=KV (by omega) (by omega);rw [h2];omega

theorem aBH (r:Int):∃ x,mV r=some x:=by
 unfold mV;rw [aQ (by decide),aQ (by decide),aQ (by decide)];exact⟨_,rfl⟩

theorem aCR {lo i o:Nat}{d:List Int}(l r m:Int)(hi:i<d.length)(ho:lo+o<d.length)(hl:d.length<2305843009213693951) :
  fJ d (lo:Nat) l r m (i:Nat) (o:Nat)=some (.inl (swp d i (lo+o),r,((i+1:Nat):Int))):=by
 unfold fJ;rw [wrN (x:=(lo:Int)+(o:Int)) (n:=lo+o) (by omega) (by omega),wrN (n:=i+1) (by omega) (by omega)];simp only [Int.toNat_natCast];rw [aQ (asN (by omega)),aQ (asN (by omega)),aQ (asN (by omega)),aQ (asN (by omega))];rfl

theorem aGl {lo n:Nat}{m:Int}(hm:1<=m/\m<=2*n)(h8:8<=n):∀ (q i:Nat) (r:Int) (d:List Int),lo+n / 4*2+2-i=q->lo<=i->i<=lo+n / 4*2+2->lo+n<=d.length->d.length<2305843009213693951 ->
  ∃ d',lp (fun s:List Int×Int×Int=>dM (lo:Nat) (n:Nat) m s.1 s.2.1 s.2.2) (d,r,(i:Int))=some d'/\Rel lo (lo+n) d d':=by
 have t4:IntKind.i64.wrap (Int.tdiv (n:Int) 4)=((n / 4:Nat):Int)∨2305843009213693951<=n:=by
  by_cases h:n<2305843009213693951
  ·left;have : Int.tdiv (n:Int) 4=((n / 4:Nat):Int):=by rw [Int.tdiv_eq_ediv_of_nonneg (by omega)]; omega
   rw [this]; exact wrN rfl (by omega)
  ·right; omega
 intro q
 induction q with
 | zero =>
  intro i r d h1 h2 h3 h4 h5;have t4:=t4.resolve_right (by omega);refine⟨d,dF ?_,Rel.refl ..⟩;show dM _ _ _ _ _ _=_;unfold dM;rw [aQ (by decide),t4,wrN (x:=((n / 4:Nat):Int)*2) (n:=n / 4*2) (by omega) (by omega),wrN (x:=(lo:Int)+((n / 4*2:Nat):Int)) (n:=lo+n / 4*2) (by omega) (by omega),wrN (x:=((lo+n / 4*2:Nat):Int)+1) (n:=lo+n / 4*2+1) (by omega) (by omega)];have : decide (((i:Nat):Int)<=((lo+n / 4*2+1:Nat):Int))=false:=by simp; omega
  rw [this,cond_false]
 | succ q ih =>
  intro i r d h1 h2 h3 h4 h5;have t4:=t4.resolve_right (by omega);obtain⟨x,hx⟩:=aBH r;obtain⟨a1,a2⟩:=aGi x.1 (m:=m-1) (by omega) (by omega);have hd:decide (((i:Nat):Int)<=((lo+n / 4*2+1:Nat):Int))=true:=by simp; omega
  have step:∃ o,o<n/\dM (lo:Nat) (n:Nat) m d r (i:Nat)=some (.inl (swp d i (lo+o),x.2,((i+1:Nat):Int))):=by
   unfold dM;rw [aQ (by decide),t4,wrN (x:=((n / 4:Nat):Int)*2) (n:=n / 4*2) (by omega) (by omega),wrN (x:=(lo:Int)+((n / 4*2:Nat):Int)) (n:=lo+n / 4*2) (by omega) (by omega),wrN (x:=((lo+n / 4*2:Nat):Int)+1) (n:=lo+n / 4*2+1) (by omega) (by omega),hd,cond_true,hx];simp only [Option.bind_some];rw [KV (x:=m-1) (by omega) (by omega)];have e1:IntKind.i64.wrap (bT .and .u64 x.1 (m-1))=(((bT .and .u64 x.1 (m-1)).toNat:Nat):Int):=wrN (by omega) (by omega);rw [e1];by_cases h:(n:Int)<=(((bT .and .u64 x.1 (m-1)).toNat:Nat):Int)
   ·refine⟨(bT .and .u64 x.1 (m-1)).toNat-n,by omega,?_⟩;simp only [h,decide_true,cond_true];rw [wrN (x:=(((bT .and .u64 x.1 (m-1)).toNat:Nat):Int)-(n:Int)) (n:=(bT .and .u64 x.1 (m-1)).toNat-n) (by omega) (by omega)];exact aCR _ _ _ (by omega) (by omega) h5
   ·refine⟨(bT .and .u64 x.1 (m-1)).toNat,by omega,?_⟩;simp only [h,decide_false,cond_false];exact aCR _ _ _ (by omega) (by omega) h5
  obtain⟨o,ho,hs⟩:=step;obtain⟨d',e,rl⟩:=ih (i+1) x.2 (swp d i (lo+o)) (by omega) (by omega) (by omega) (by rw [iP]; exact h4) (by rw [iP]; exact h5);exact⟨d',(fT (show (fun s:List Int×Int×Int=>dM (lo:Nat) (n:Nat) m s.1 s.2.1 s.2.2) (d,r,(i:Int))=_ from hs)).trans e,(Rel.swp (i:=i) (j:=lo+o) (by omega) (by omega) (by omega) (by omega)).trans rl⟩

theorem aCP {lo hi:Nat}{d:List Int}(h8:8<=hi-lo)(h1:hi<=d.length)(h2:d.length<2305843009213693951):∃ d',iK d (lo:Int) (hi:Int)=some d'/\Rel lo hi d d':=by
 unfold iK;have e1:IntKind.i64.wrap ((hi:Int)-(lo:Int))=((hi-lo:Nat):Int):=wrN (by omega) (by omega);have d1:decide ((8:Int)<=((hi-lo:Nat):Int))=true:=by simp; omega
 obtain⟨m,em,m1,m2⟩:=aE0 (n:=hi-lo) (by omega) (by omega)
 have t4:IntKind.i64.wrap (Int.tdiv ((hi-lo:Nat):Int) 4)=(((hi-lo) / 4:Nat):Int):=by
  have : Int.tdiv ((hi-lo:Nat):Int) 4=(((hi-lo) / 4:Nat):Int):=by rw [Int.tdiv_eq_ediv_of_nonneg (by omega)]; omega
  rw [this]; exact wrN rfl (by omega)
 rw [e1,d1,cond_true,em];simp only [Option.bind_some];rw [aQ (by decide),t4,wrN (x:=(((hi-lo) / 4:Nat):Int)*2) (n:=(hi-lo) / 4*2) (by omega) (by omega),wrN (x:=(lo:Int)+(((hi-lo) / 4*2:Nat):Int)) (n:=lo+(hi-lo) / 4*2) (by omega) (by omega),wrN (x:=((lo+(hi-lo) / 4*2:Nat):Int)-1) (n:=lo+(hi-lo) / 4*2-1) (by omega) (by omega)];unfold kD;obtain⟨d',e,r⟩:=aGl (lo:=lo) (n:=hi-lo) (m:=m) ⟨m1,m2⟩ h8 (lo+(hi-lo) / 4*2+2-(lo+(hi-lo) / 4*2-1)) (lo+(hi-lo) / 4*2-1) (IntKind.u64.wrap ((hi-lo:Nat):Int)) d rfl (by omega) (by omega) (by omega) h2;rw [e];have : lo+(hi-lo)=hi:=by omega
 rw [this] at r;exact⟨d',rfl,r⟩

theorem aEa {a b:Nat}{d:List Int}(s:Int)(ha:a<d.length)(hb:b<d.length):∃ (p q:Nat) (s':Int),gX d (a:Int) (b:Int) s=some (((p:Int),(q:Int)),s')/\((p=a/\q=b)∨(p=b/\q=a)):=by
 unfold gX;rw [aQ (asN hb),aQ (asN ha),uF];simp only [Option.bind_some]
 cases decide (d.getD (Int.toNat (b:Int)) default<d.getD (Int.toNat (a:Int)) default)
 ·exact⟨a,b,_,rfl,.inl ⟨rfl,rfl⟩⟩
 ·exact⟨b,a,_,rfl,.inr ⟨rfl,rfl⟩⟩

theorem med {a b c:Nat}{d:List Int}(s:Int)(ha:a<d.length)(hb:b<d.length)(hc:c<d.length):∃ (p:Nat) (s':Int),jD d (a:Int) (b:Int) (c:Int) s=some ((p:Int),s')/\(p=a∨p=b∨p=c):=by
 unfold jD;obtain⟨p1,q1,s1,e1,h1⟩:=aEa s ha hb;obtain⟨p2,q2,s2,e2,h2⟩:=aEa (a:=q1) (b:=c) (d:=d) s1 (by omega) hc;obtain⟨p3,q3,s3,e3,h3⟩:=aEa (a:=p1) (b:=p2) (d:=d) s2 (by omega) (by omega);rw [e1]; simp only [Option.bind_some];rw [e2]; simp only [Option.bind_some];rw [e3];exact⟨q3,s3,rfl,by omega⟩

theorem aEJ {a:Nat}{d:List Int}(s:Int)(h1:1<=a)(ha:a+1<d.length)(hl:d.length<2305843009213693951):∃ (p:Nat) (s':Int),eF d (a:Int) s=some ((p:Int),s')/\a-1<=p/\p<=a+1:=by
 unfold eF;rw [wrN (x:=(a:Int)-1) (n:=a-1) (by omega) (by omega),wrN (x:=(a:Int)+1) (n:=a+1) (by omega) (by omega)];obtain⟨p,s',e,h⟩:=med (a:=a-1) (b:=a) (c:=a+1) (d:=d) s (by omega) (by omega) (by omega);rw [e];exact⟨p,s',rfl,by omega,by omega⟩

theorem aE6 (d:List Int)(s:Int)(j:Int):∃ h,gH d s j=some (j,h):=by
 unfold gH
 cases decide (s=0) <;> cases decide (s=12) <;> exact ⟨_,rfl⟩

theorem aBJ {lo hi:Nat}{d:List Int}(h8:12<hi-lo)(h1:hi<=d.length)(h2:d.length<2305843009213693951):∃ (p:Nat) (h:Int),iZ d (lo:Int) (hi:Int)=some ((p:Int),h)/\lo<=p/\p<hi:=by
 unfold iZ;have e1:IntKind.i64.wrap ((hi:Int)-(lo:Int))=((hi-lo:Nat):Int):=wrN (by omega) (by omega)
 have t4:IntKind.i64.wrap (Int.tdiv ((hi-lo:Nat):Int) 4)=(((hi-lo) / 4:Nat):Int):=by
  have : Int.tdiv ((hi-lo:Nat):Int) 4=(((hi-lo) / 4:Nat):Int):=by rw [Int.tdiv_eq_ediv_of_nonneg (by omega)]; omega
  rw [this]; exact wrN rfl (by omega)
 have d1:decide ((8:Int)<=((hi-lo:Nat):Int))=true:=by simp; omega
 have q1:IntKind.i64.wrap ((lo:Int)+IntKind.i64.wrap ((((hi-lo) / 4:Nat):Int)*1))=((lo+(hi-lo) / 4:Nat):Int):=by
  rw [wrN (x:=(((hi-lo) / 4:Nat):Int)*1) (n:=(hi-lo) / 4) (by omega) (by omega)]; exact wrN (by omega) (by omega)
 have q2:IntKind.i64.wrap ((lo:Int)+IntKind.i64.wrap ((((hi-lo) / 4:Nat):Int)*2))=((lo+(hi-lo) / 4*2:Nat):Int):=by
  rw [wrN (x:=(((hi-lo) / 4:Nat):Int)*2) (n:=(hi-lo) / 4*2) (by omega) (by omega)]; exact wrN (by omega) (by omega)
 have q3:IntKind.i64.wrap ((lo:Int)+IntKind.i64.wrap ((((hi-lo) / 4:Nat):Int)*3))=((lo+(hi-lo) / 4*3:Nat):Int):=by
  rw [wrN (x:=(((hi-lo) / 4:Nat):Int)*3) (n:=(hi-lo) / 4*3) (by omega) (by omega)]; exact wrN (by omega) (by omega)
 rw [aQ (by decide),aQ (by decide),aQ (by decide)];simp only [e1,t4,d1,q1,q2,q3,cond_true];by_cases h50:(50:Int)<=((hi-lo:Nat):Int)
 ·simp only [h50,decide_true,cond_true];obtain⟨p1,s1,f1,g1,g2⟩:=aEJ (a:=lo+(hi-lo) / 4) (d:=d) 0 (by omega) (by omega) h2;obtain⟨p2,s2,f2,g3,g4⟩:=aEJ (a:=lo+(hi-lo) / 4*2) (d:=d) s1 (by omega) (by omega) h2;obtain⟨p3,s3,f3,g5,g6⟩:=aEJ (a:=lo+(hi-lo) / 4*3) (d:=d) s2 (by omega) (by omega) h2;obtain⟨p4,s4,f4,g7⟩:=med (a:=p1) (b:=p2) (c:=p3) (d:=d) s3 (by omega) (by omega) (by omega);obtain⟨h,f5⟩:=aE6 d s4 p4;rw [f1]; simp only [Option.bind_some];rw [f2]; simp only [Option.bind_some];rw [f3]; simp only [Option.bind_some,fZ];rw [f4]; simp only [Option.bind_some];exact⟨p4,h,f5,by omega,by omega⟩
 ·simp only [h50,decide_false,cond_false,fZ];obtain⟨p4,s4,f4,g7⟩:=med (a:=lo+(hi-lo) / 4) (b:=lo+(hi-lo) / 4*2) (c:=lo+(hi-lo) / 4*3) (d:=d) 0 (by omega) (by omega) (by omega);obtain⟨h,f5⟩:=aE6 d s4 p4;rw [f4]; simp only [Option.bind_some];exact⟨p4,h,f5,by omega,by omega⟩

end Go.Abs
namespace Go.Abs
open Go
theorem TA {body:List Int×Int->Option ((List Int×Int)⊕(List Int×Int))} {d:List Int} {p:Nat->Prop} [DecidablePred p] {j:Nat}
  (hs:∀ i,i<=j+1->body (d,(i:Int))=if i<=j/\p i then some (.inl (d,((i+1:Nat):Int))) else some (.inr (d,(i:Int)))) :
  ∀ (n i:Nat),j+1-i=n->i<=j+1 -> ∃ i':Nat,lp body (d,(i:Int))=some (d,(i':Int))/\i<=i'/\i'<=j+1/\(∀ k,i<=k->k<i'->p k)/\(i'<=j -> ¬ p i'):=by
 intro n
 induction n with
 | zero =>
  intro i h1 h2;have:=hs i h2;rw [if_neg (by omega)] at this;exact⟨i,dF this,Nat.le_refl _,h2,fun k a b=>by omega,fun h=>by omega⟩
 | succ n ih =>
  intro i h1 h2;have h:=hs i h2;by_cases hp:p i
  ·rw [if_pos ⟨by omega,hp⟩] at h;obtain⟨i',e,a1,a2,a3,a4⟩:=ih (i+1) (by omega) (by omega);refine⟨i',(fT h).trans e,by omega,a2,fun k b1 b2=>?_,a4⟩;by_cases hk:k=i
   ·rw [hk]; exact hp
   ·exact a3 k (by omega) b2
  ·rw [if_neg fun hh=>hp hh.2] at h;exact⟨i,dF h,Nat.le_refl _,h2,fun k a b=>by omega,fun _=>hp⟩

theorem LM {body:List Int×Int->Option ((List Int×Int)⊕(List Int×Int))} {d:List Int} {p:Nat->Prop} [DecidablePred p] {i m:Nat} (hi:1<=i)
  (hs:∀ j,j<=m->body (d,(j:Int))=if i<=j/\p j then some (.inl (d,((j-1:Nat):Int))) else some (.inr (d,(j:Int)))) :
  ∀ (j:Nat),j<=m->i<=j+1 -> ∃ j':Nat,lp body (d,(j:Int))=some (d,(j':Int))/\i<=j'+1/\j'<=j/\(∀ k,j'<k->k<=j->p k)/\(i<=j' -> ¬ p j'):=by
 intro j
 induction j with
 | zero =>
  intro h1 h2;have:=hs 0 h1;rw [if_neg (by omega)] at this;exact⟨0,dF this,by omega,Nat.le_refl _,fun k a b=>by omega,fun h=>by omega⟩
 | succ j ih =>
  intro h1 h2;have h:=hs (j+1) h1;by_cases hp:i<=j+1/\p (j+1)
  ·rw [if_pos hp] at h;obtain⟨j',e,a1,a2,a3,a4⟩:=ih (by omega) (by omega);refine⟨j',(fT h).trans e,a1,by omega,fun k b1 b2=>?_,a4⟩;by_cases hk:k=j+1
   ·rw [hk]; exact hp.2
   ·exact a3 k b1 (by omega)
  ·rw [if_neg hp] at h;exact⟨j+1,dF h,by omega,Nat.le_refl _,fun k a b=>by omega,fun h1 h2=>hp ⟨h1,h2⟩⟩

theorem aBr {α:Type}{i j u v:Nat}{d:List Int}{n:Bool}{x y:Option α}(hu:i<=j->u<d.length)(hv:i<=j->v<d.length) :
  (bE ((decide ((i:Int)<=(j:Int)))=true->0<=(u:Int)/\(u:Int)<((List.length d:Nat):Int)) <|
  bE ((decide ((i:Int)<=(j:Int)))=true->0<=(v:Int)/\(v:Int)<((List.length d:Nat):Int)) <|
  (cX (decide ((i:Int)<=(j:Int))) (dH (List.getD d (Int.toNat (u:Int)) default) (List.getD d (Int.toNat (v:Int)) default))).bind fun z =>
  cond ((decide ((i:Int)<=(j:Int)))&&(Bool.xor n z)) x y)=if i<=j/\(Bool.xor n (decide (gN d u<gN d v)))=true then x else y:=by
 by_cases h:i<=j
 ·have hd:decide ((i:Int)<=(j:Int))=true:=by simp; omega
  rw [hd];rw [aQ fun _=>asN (hu h),aQ fun _=>asN (hv h)];simp only [cX,cond_true,uF,Option.bind_some,Bool.true_and,Int.toNat_natCast,h,true_and,gN]
  cases Bool.xor n (decide (d.getD u default<d.getD v default)) <;> simp
 ·have hd:decide ((i:Int)<=(j:Int))=false:=by simp; omega
  rw [hd,aQ (fun h=>by cases h),aQ (fun h=>by cases h)];simp [cX,h]

theorem NY {α:Type}{i j u v:Nat}{d:List Int}{x y:Option α}(hu:i<=j->u<d.length)(hv:i<=j->v<d.length) :
  (bE ((decide ((i:Int)<=(j:Int)))=true->0<=(u:Int)/\(u:Int)<((List.length d:Nat):Int)) <|
  bE ((decide ((i:Int)<=(j:Int)))=true->0<=(v:Int)/\(v:Int)<((List.length d:Nat):Int)) <|
  (cX (decide ((i:Int)<=(j:Int))) (dH (List.getD d (Int.toNat (u:Int)) default) (List.getD d (Int.toNat (v:Int)) default))).bind fun z =>
  cond ((decide ((i:Int)<=(j:Int)))&&z) x y)=if i<=j/\gN d u<gN d v then x else y:=by
 have:=aBr (n:=false) (x:=x) (y:=y) hu hv;simp only [Bool.false_xor] at this;exact this.trans (by simp)

theorem ON {α:Type}{i j u v:Nat}{d:List Int}{x y:Option α}(hu:i<=j->u<d.length)(hv:i<=j->v<d.length) :
  (bE ((decide ((i:Int)<=(j:Int)))=true->0<=(u:Int)/\(u:Int)<((List.length d:Nat):Int)) <|
  bE ((decide ((i:Int)<=(j:Int)))=true->0<=(v:Int)/\(v:Int)<((List.length d:Nat):Int)) <|
  (cX (decide ((i:Int)<=(j:Int))) (dH (List.getD d (Int.toNat (u:Int)) default) (List.getD d (Int.toNat (v:Int)) default))).bind fun z =>
  cond ((decide ((i:Int)<=(j:Int)))&&(!z)) x y)=if i<=j /\ ¬ gN d u<gN d v then x else y:=by
 have:=aBr (n:=true) (x:=x) (y:=y) hu hv;simp only [Bool.true_xor] at this;exact this.trans (by simp)

theorem aFS {a j:Nat}{d:List Int}(ha:a<d.length)(hj:j<d.length)(hl:d.length<2305843009213693951):∀ i,i<=j+1->eX (a:Nat) (j:Nat) d (i:Nat)=if i<=j/\gN d i<gN d a then some (.inl (d,((i+1:Nat):Int))) else some (.inr (d,(i:Int))):=by
 intro i hi;unfold eX;rw [wrN (x:=(i:Int)+1) (n:=i+1) (by omega) (by omega)];exact NY (u:=i) (v:=a) (by omega) (by omega)

theorem aEr {a j:Nat}{d:List Int}(ha:a<d.length)(hj:j<d.length)(hl:d.length<2305843009213693951):∀ i,i<=j+1->fE (a:Nat) (j:Nat) d (i:Nat)=if i<=j/\gN d i<gN d a then some (.inl (d,((i+1:Nat):Int))) else some (.inr (d,(i:Int))):=by
 intro i hi;unfold fE;rw [wrN (x:=(i:Int)+1) (n:=i+1) (by omega) (by omega)];exact NY (u:=i) (v:=a) (by omega) (by omega)

theorem aCJ {a i m:Nat}{d:List Int}(hi:1<=i)(ha:a<d.length)(hm:m<d.length)(hl:d.length<2305843009213693951):∀ j,j<=m->fH (a:Nat) (i:Nat) d (j:Nat)=if i<=j /\ ¬ gN d j<gN d a then some (.inl (d,((j-1:Nat):Int))) else some (.inr (d,(j:Int))):=by
 intro j hj;unfold fH;refine (ON (i:=i) (j:=j) (d:=d) (α:=(List Int×Int)⊕(List Int×Int)) (u:=j) (v:=a) (x:=some (.inl (d,IntKind.i64.wrap ((j:Int)-1)))) (y:=some (.inr (d,(j:Int)))) (by omega) (by omega)).trans ?_;by_cases h:i<=j /\ ¬ gN d j<gN d a
 ·rw [if_pos h,if_pos h,wrN (x:=(j:Int)-1) (n:=j-1) (by omega) (by omega)]
 ·rw [if_neg h,if_neg h]

theorem aBL {a i m:Nat}{d:List Int}(hi:1<=i)(ha:a<d.length)(hm:m<d.length)(hl:d.length<2305843009213693951):∀ j,j<=m->fC (a:Nat) (i:Nat) d (j:Nat)=if i<=j /\ ¬ gN d j<gN d a then some (.inl (d,((j-1:Nat):Int))) else some (.inr (d,(j:Int))):=by
 intro j hj;unfold fC;refine (ON (i:=i) (j:=j) (d:=d) (α:=(List Int×Int)⊕(List Int×Int)) (u:=j) (v:=a) (x:=some (.inl (d,IntKind.i64.wrap ((j:Int)-1)))) (y:=some (.inr (d,(j:Int)))) (by omega) (by omega)).trans ?_;by_cases h:i<=j /\ ¬ gN d j<gN d a
 ·rw [if_pos h,if_pos h,wrN (x:=(j:Int)-1) (n:=j-1) (by omega) (by omega)]
 ·rw [if_neg h,if_neg h]

theorem aEs {a j:Nat}{d:List Int}(ha:a<d.length)(hj:j<d.length)(hl:d.length<2305843009213693951):∀ i,i<=j+1->dZ (a:Nat) (j:Nat) d (i:Nat)=if i<=j /\ ¬ gN d a<gN d i then some (.inl (d,((i+1:Nat):Int))) else some (.inr (d,(i:Int))):=by
 intro i hi;unfold dZ;rw [wrN (x:=(i:Int)+1) (n:=i+1) (by omega) (by omega)];exact ON (u:=a) (v:=i) (by omega) (by omega)

theorem aCa {a i m:Nat}{d:List Int}(hi:1<=i)(ha:a<d.length)(hm:m<d.length)(hl:d.length<2305843009213693951):∀ j,j<=m->eA (a:Nat) (i:Nat) d (j:Nat)=if i<=j/\gN d a<gN d j then some (.inl (d,((j-1:Nat):Int))) else some (.inr (d,(j:Int))):=by
 intro j hj;unfold eA;refine (NY (i:=i) (j:=j) (d:=d) (α:=(List Int×Int)⊕(List Int×Int)) (u:=a) (v:=j) (x:=some (.inl (d,IntKind.i64.wrap ((j:Int)-1)))) (y:=some (.inr (d,(j:Int)))) (by omega) (by omega)).trans ?_;by_cases h:i<=j/\gN d a<gN d j
 ·rw [if_pos h,if_pos h,wrN (x:=(j:Int)-1) (n:=j-1) (by omega) (by omega)]
 ·rw [if_neg h,if_neg h]

structure CZ (a b i j:Nat) (d:List Int):Prop where
 hi:a<i
 hij:i<=j+1
 hj:j<b
 lo:∀ k,a<k->k<i->gN d k<gN d a
 up:∀ k,j<k->k<b->gN d a<=gN d k

theorem CZ.swap {a b i j:Nat}{d:List Int}(h:CZ a b i j d)(hb:b<=d.length)(hij:i<j)(h1:gN d a<=gN d i)(h2:gN d j<gN d a):CZ a b (i+1) (j-1) (swp d i j):=by
 have:=h.hi; have:=h.hj;have g:=vW (d:=d) (i:=i) (j:=j) (by omega) (by omega);have ga:gN (swp d i j) a=gN d a:=by rw [g,if_neg (by omega),if_neg (by omega)]
 refine⟨by omega,by omega,by omega,fun k k1 k2=>?_,fun k k1 k2=>?_⟩
 ·rw [ga,g,if_neg (by omega)];by_cases hk:k=i
  ·rw [if_pos hk]; exact h2
  ·rw [if_neg hk]; exact h.lo k k1 (by omega)
 ·rw [ga,g];by_cases hk:k=j
  ·rw [if_pos hk]; exact h1
  ·rw [if_neg hk,if_neg (by omega)]; exact h.up k (by omega) k2

theorem PX {a b i j:Nat}{d:List Int}(h:CZ a b i j d)(hb:b<=d.length)(hl:d.length<2305843009213693951):∃ i' j':Nat,CZ a b i' j' d/\i<=i'/\j'<=j/\(j'<i'->j'+1=i')/\(i'<=j'->i'<j'/\gN d a<=gN d i'/\gN d j'<gN d a) /\
  dV (a:Nat) d (i:Nat) (j:Nat)=fA d (a:Nat) (i':Nat) (j':Nat)/\gM d (a:Nat) (i:Nat) (j:Nat)=fF d (a:Nat) (i':Nat) (j':Nat):=by
 have h1:=h.hi; have h2:=h.hij; have h3:=h.hj;obtain⟨i',e1,a1,a2,a3,a4⟩:=TA (body:=fun s=>fE (a:Nat) (j:Nat) s.1 s.2) (d:=d) (p:=fun k=>gN d k<gN d a) (j:=j) (aEr (a:=a) (j:=j) (d:=d) (by omega) (by omega) hl) (j+1-i) i rfl h2;obtain⟨i2,e1',b1,b2,b3,b4⟩:=TA (body:=fun s=>eX (a:Nat) (j:Nat) s.1 s.2) (d:=d) (p:=fun k=>gN d k<gN d a) (j:=j) (aFS (a:=a) (j:=j) (d:=d) (by omega) (by omega) hl) (j+1-i) i rfl h2
 have hii:i2=i':=by
  rcases Nat.lt_trichotomy i2 i' with hh | hh | hh
  ·exact absurd (a3 i2 b1 hh) (b4 (by omega))
  ·exact hh
  ·exact absurd (b3 i' a1 hh) (a4 (by omega))
 subst hii;obtain⟨j',f1,c1,c2,c3,c4⟩:=LM (body:=fun s=>fC (a:Nat) (i2:Nat) s.1 s.2) (d:=d) (p:=fun k => ¬ gN d k<gN d a) (i:=i2) (m:=j) (by omega) (aBL (a:=a) (i:=i2) (m:=j) (d:=d) (by omega) (by omega) (by omega) hl) j (Nat.le_refl _) a2;obtain⟨j2,f1',g1,g2,g3,g4⟩:=LM (body:=fun s=>fH (a:Nat) (i2:Nat) s.1 s.2) (d:=d) (p:=fun k => ¬ gN d k<gN d a) (i:=i2) (m:=j) (by omega) (aCJ (a:=a) (i:=i2) (m:=j) (d:=d) (by omega) (by omega) (by omega) hl) j (Nat.le_refl _) a2
 have hjj:j2=j':=by
  rcases Nat.lt_trichotomy j2 j' with hh | hh | hh
  ·exact absurd (g3 j' hh c2) (c4 (by omega))
  ·exact hh
  ·exact absurd (c3 j2 hh g2) (g4 (by omega))
 subst hjj
 have hend:i2<=j2->i2<j2/\gN d a<=gN d i2/\gN d j2<gN d a:=fun hh=>by
  have k1:¬ gN d i2<gN d a:=a4 (by omega);have k2:gN d j2<gN d a:=Classical.byContradiction fun hn=>c4 hh hn;refine⟨?_,by omega,k2⟩;rcases Nat.lt_or_ge i2 j2 with h | h
  ·exact h
  ·have : i2=j2:=by omega
   rw [this] at k1; exact absurd k2 k1
 refine⟨i2,j2,⟨by omega,by omega,by omega,fun k k1 k2=>?_,fun k k1 k2=>?_⟩,a1,c2,fun hh=>by omega,hend,?_,?_⟩
 ·by_cases hk:k<i
  ·exact h.lo k k1 hk
  ·exact a3 k (by omega) k2
 ·by_cases hk:j<k
  ·exact h.up k hk k2
  ·have:=c3 k k1 (by omega); omega
 ·unfold dV lE;rw [show lp (fun s:List Int×Int=>fE (a:Nat) (j:Nat) s.1 s.2) (d,(i:Int))=some (d,(i2:Int)) from e1];simp only [Option.bind_some];unfold jF lA;rw [show lp (fun s:List Int×Int=>fC (a:Nat) (i2:Nat) s.1 s.2) (d,(j:Int))=some (d,(j2:Int)) from f1];rfl
 ·unfold gM;rw [show lp (fun s:List Int×Int=>eX (a:Nat) (j:Nat) s.1 s.2) (d,(i:Int))=some (d,(i2:Int)) from e1'];simp only [Option.bind_some];unfold jH lC;rw [show lp (fun s:List Int×Int=>fH (a:Nat) (i2:Nat) s.1 s.2) (d,(j:Int))=some (d,(j2:Int)) from f1'];rfl

theorem CZ.rel {a b i j:Nat}{d:List Int}(h:CZ a b i j d)(hb:b<=d.length)(hij:i<=j):Rel (a+1) b d (swp d i j):=by
 have:=h.hi; have:=h.hj;exact Rel.swp (i:=i) (j:=j) (by omega) (by omega) (by omega) (by omega)

theorem aFo {a b:Nat}:∀ (n i j:Nat) (d:List Int),j+1-i=n->b<=d.length->d.length<2305843009213693951->CZ a b i j d ->
  ∃ (d':List Int) (j':Nat),lp (fun s:List Int×Int×Int=>dV (a:Nat) s.1 s.2.1 s.2.2) (d,(i:Int),(j:Int))=some (d',(j':Int))/\Rel (a+1) b d d'/\CZ a b (j'+1) j' d':=by
 intro n
 induction n using Nat.strongRecOn with
 | ind n ih =>
  intro i j d h1 h2 h3 h;obtain⟨i',j',p1,p2,p3,p4,p5,p6,_⟩:=PX h h2 h3;have q1:=p1.hi; have q2:=p1.hj; have q3:=p1.hij;by_cases hlt:j'<i'
  ·have hs:dV (a:Nat) d (i:Nat) (j:Nat)=some (.inr (d,(j':Int))):=by
    rw [p6];unfold fA;have : decide ((j':Int)<(i':Int))=true:=by simp; omega
    rw [this,cond_true]
   have:=p4 hlt;exact⟨d,j',dF hs,Rel.refl ..,by rw [this]; exact p1⟩
  ·obtain⟨k1,k2,k3⟩:=p5 (by omega)
   have hs:dV (a:Nat) d (i:Nat) (j:Nat)=some (.inl (swp d i' j',((i'+1:Nat):Int),((j'-1:Nat):Int))):=by
    rw [p6];unfold fA;have : decide ((j':Int)<(i':Int))=false:=by simp; omega
    rw [this,cond_false];simp only [Int.toNat_natCast];rw [aQ (asN (by omega)),aQ (asN (by omega)),aQ (asN (by omega)),aQ (asN (by omega)),wrN (x:=(i':Int)+1) (n:=i'+1) (by omega) (by omega),wrN (x:=(j':Int)-1) (n:=j'-1) (by omega) (by omega)];rfl
   obtain⟨d',j2,e,r,p⟩:=ih (j'-1+1-(i'+1)) (by omega) (i'+1) (j'-1) (swp d i' j') rfl (by rw [iP]; exact h2) (by rw [iP]; exact h3) (p1.swap h2 k1 k2 k3);exact⟨d',j2,(fT hs).trans e,(p1.rel h2 (by omega)).trans r,p⟩

theorem XN {a b j:Nat}{d:List Int}(h:CZ a b (j+1) j d)(hb:b<=d.length):Rel a b d (swp d j a)/\(∀ k,a<=k->k<j->gN (swp d j a) k<=gN (swp d j a) j)/\(∀ k,j<k->k<b->gN (swp d j a) j<=gN (swp d j a) k):=by
 have h1:=h.hi; have h3:=h.hj;have g:=vW (d:=d) (i:=j) (j:=a) (by omega) (by omega)
 have gj:gN (swp d j a) j=gN d a:=by
  rw [g];by_cases hh:j=a
  ·rw [if_pos hh,hh]
  ·rw [if_neg hh,if_pos rfl]
 refine⟨Rel.swp (i:=j) (j:=a) (by omega) (by omega) (by omega) (by omega),fun k k1 k2=>?_,fun k k1 k2=>?_⟩
 ·rw [gj,g];by_cases hk:k=a
  ·rw [if_pos hk];have:=h.lo j (by omega) (by omega); omega
  ·rw [if_neg hk,if_neg (by omega)];have:=h.lo k (by omega) (by omega); omega
 ·rw [gj,g,if_neg (by omega),if_neg (by omega)];exact h.up k k1 k2

theorem XB {lo hi p:Nat}{d:List Int}(h0:lo<hi)(hb:hi<=d.length)(hl:d.length<2305843009213693951)(hp:lo<=p/\p<hi) :
  ∃ (m:Nat) (fl:Bool) (d':List Int),iE d (lo:Int) (hi:Int) (p:Int)=some (((m:Int),fl),d')/\lo<=m/\m<hi/\Rel lo hi d d'/\(∀ k,lo<=k->k<m->gN d' k<=gN d' m)/\(∀ k,m<k->k<hi->gN d' m<=gN d' k):=by
 unfold iE;rw [aQ (asN (by omega)),aQ (asN (by omega)),aQ (asN (by omega)),aQ (asN (by omega)),wrN (x:=(lo:Int)+1) (n:=lo+1) (by omega) (by omega),wrN (x:=(hi:Int)-1) (n:=hi-1) (by omega) (by omega)];simp only [Int.toNat_natCast];have r0:Rel lo hi d (swp d lo p):=Rel.swp (i:=lo) (j:=p) (by omega) (by omega) (by omega) (by omega);have l0:(swp d lo p).length=d.length:=iP ..;have inv:CZ lo hi (lo+1) (hi-1) (swp d lo p):=⟨by omega,by omega,by omega,fun k k1 k2=>by omega,fun k k1 k2=>by omega⟩;obtain⟨i',j',p1,p2,p3,p4,p5,_,p6⟩:=PX inv (by rw [l0]; exact hb) (by rw [l0]; exact hl);have e0:gM (List.set (List.set d lo (List.getD d p default)) p (List.getD d lo default)) (lo:Int) ((lo+1:Nat):Int) ((hi-1:Nat):Int)=fF (swp d lo p) (lo:Nat) (i':Nat) (j':Nat):=p6;rw [e0];have q1:=p1.hi; have q2:=p1.hj; have q3:=p1.hij
 generalize hg:swp d lo p=d1 at *
 unfold fF;by_cases hlt:j'<i'
 ·have : decide ((j':Int)<(i':Int))=true:=by simp; omega
  rw [this,cond_true];simp only [Int.toNat_natCast];rw [aQ (asN (by omega)),aQ (asN (by omega)),aQ (asN (by omega)),aQ (asN (by omega))];have hp1:CZ lo hi (j'+1) j' d1:=by rw [p4 hlt]; exact p1
  obtain⟨r,a1,a2⟩:=XN hp1 (by omega);exact⟨j',true,swp d1 j' lo,rfl,by omega,by omega,r0.trans r,a1,a2⟩
 ·obtain⟨k1,k2,k3⟩:=p5 (by omega);have : decide ((j':Int)<(i':Int))=false:=by simp; omega
  rw [this,cond_false];simp only [Int.toNat_natCast];rw [aQ (asN (by omega)),aQ (asN (by omega)),aQ (asN (by omega)),aQ (asN (by omega)),wrN (x:=(i':Int)+1) (n:=i'+1) (by omega) (by omega),wrN (x:=(j':Int)-1) (n:=j'-1) (by omega) (by omega)];obtain⟨d2,j2,e,r,pp⟩:=aFo (a:=lo) (b:=hi) (j'-1+1-(i'+1)) (i'+1) (j'-1) (swp d1 i' j') rfl (by rw [iP]; omega) (by rw [iP]; omega) (p1.swap (by omega) k1 k2 k3);have w1:=pp.hi; have w2:=pp.hj;have l2:d2.length=d1.length:=by rw [r.len,iP]
  unfold lK;rw [show lp (fun s:List Int×Int×Int=>dV (lo:Int) s.1 s.2.1 s.2.2) ((List.set (List.set d1 i' (List.getD d1 j' default)) j' (List.getD d1 i' default)),((i'+1:Nat):Int),((j'-1:Nat):Int))=some (d2,(j2:Int)) from e];simp only [Option.bind_some,jI,Int.toNat_natCast];rw [aQ (asN (by omega)),aQ (asN (by omega)),aQ (asN (by omega)),aQ (asN (by omega))];obtain⟨rr,a1,a2⟩:=XN pp (by omega);exact⟨j2,false,swp d2 j2 lo,rfl,by omega,by omega,((r0.trans ((p1.rel (by omega) (by omega)).mono (by omega) (Nat.le_refl _))).trans (r.mono (by omega) (Nat.le_refl _))).trans rr,a1,a2⟩

end Go.Abs
namespace Go.Abs
open Go
structure KF (a b i j:Nat) (d:List Int):Prop where
 hi:a<i
 hij:i<=j+1
 hj:j<b
 lo:∀ k,a<k->k<i->gN d k<=gN d a
 up:∀ k,j<k->k<b->gN d a<gN d k

theorem KF.swap {a b i j:Nat}{d:List Int}(h:KF a b i j d)(hb:b<=d.length)(hij:i<j)(h1:gN d a<gN d i)(h2:gN d j<=gN d a):KF a b (i+1) (j-1) (swp d i j):=by
 have:=h.hi; have:=h.hj;have g:=vW (d:=d) (i:=i) (j:=j) (by omega) (by omega);have ga:gN (swp d i j) a=gN d a:=by rw [g,if_neg (by omega),if_neg (by omega)]
 refine⟨by omega,by omega,by omega,fun k k1 k2=>?_,fun k k1 k2=>?_⟩
 ·rw [ga,g,if_neg (by omega)];by_cases hk:k=i
  ·rw [if_pos hk]; exact h2
  ·rw [if_neg hk]; exact h.lo k k1 (by omega)
 ·rw [ga,g];by_cases hk:k=j
  ·rw [if_pos hk]; exact h1
  ·rw [if_neg hk,if_neg (by omega)]; exact h.up k (by omega) k2

theorem aAC {a b i j:Nat}{d:List Int}(h:KF a b i j d)(hb:b<=d.length)(hl:d.length<2305843009213693951):∃ i' j':Nat,KF a b i' j' d/\i<=i'/\j'<=j/\(j'<i'->j'+1=i')/\(i'<=j'->i'<j'/\gN d a<gN d i'/\gN d j'<=gN d a) /\
  dK (a:Nat) d (i:Nat) (j:Nat)=eB d (a:Nat) (i':Nat) (j':Nat):=by
 have h1:=h.hi; have h2:=h.hij; have h3:=h.hj;obtain⟨i',e1,a1,a2,a3,a4⟩:=TA (body:=fun s=>dZ (a:Nat) (j:Nat) s.1 s.2) (d:=d) (p:=fun k => ¬ gN d a<gN d k) (j:=j) (aEs (a:=a) (j:=j) (d:=d) (by omega) (by omega) hl) (j+1-i) i rfl h2;obtain⟨j',f1,c1,c2,c3,c4⟩:=LM (body:=fun s=>eA (a:Nat) (i':Nat) s.1 s.2) (d:=d) (p:=fun k=>gN d a<gN d k) (i:=i') (m:=j) (by omega) (aCa (a:=a) (i:=i') (m:=j) (d:=d) (by omega) (by omega) (by omega) hl) j (Nat.le_refl _) a2
 have hend:i'<=j'->i'<j'/\gN d a<gN d i'/\gN d j'<=gN d a:=fun hh=>by
  have k1:gN d a<gN d i':=Classical.byContradiction fun hn=>a4 (by omega) hn;have k2:¬ gN d a<gN d j':=c4 hh;refine⟨?_,k1,by omega⟩;rcases Nat.lt_or_ge i' j' with h | h
  ·exact h
  ·have : i'=j':=by omega
   rw [this] at k1; exact absurd k1 k2
 refine⟨i',j',⟨by omega,by omega,by omega,fun k k1 k2=>?_,fun k k1 k2=>?_⟩,a1,c2,fun hh=>by omega,hend,?_⟩
 ·by_cases hk:k<i
  ·exact h.lo k k1 hk
  ·have:=a3 k (by omega) k2; omega
 ·by_cases hk:j<k
  ·exact h.up k hk k2
  ·exact c3 k k1 (by omega)
 ·unfold dK jT;rw [show lp (fun s:List Int×Int=>dZ (a:Nat) (j:Nat) s.1 s.2) (d,(i:Int))=some (d,(i':Int)) from e1];simp only [Option.bind_some];unfold gS jR;rw [show lp (fun s:List Int×Int=>eA (a:Nat) (i':Nat) s.1 s.2) (d,(j:Int))=some (d,(j':Int)) from f1];rfl

theorem aEL {a b:Nat}:∀ (n i j:Nat) (d:List Int),j+1-i=n->b<=d.length->d.length<2305843009213693951->KF a b i j d ->
  ∃ (d':List Int) (j':Nat),lp (fun s:List Int×Int×Int=>dK (a:Nat) s.1 s.2.1 s.2.2) (d,(i:Int),(j:Int))=some (d',((j'+1:Nat):Int))/\Rel (a+1) b d d'/\KF a b (j'+1) j' d':=by
 intro n
 induction n using Nat.strongRecOn with
 | ind n ih =>
  intro i j d h1 h2 h3 h;obtain⟨i',j',p1,p2,p3,p4,p5,p6⟩:=aAC h h2 h3;have q1:=p1.hi; have q2:=p1.hj; have q3:=p1.hij;by_cases hlt:j'<i'
  ·have hs:dK (a:Nat) d (i:Nat) (j:Nat)=some (.inr (d,(i':Int))):=by
    rw [p6];unfold eB;have : decide ((j':Int)<(i':Int))=true:=by simp; omega
    rw [this,cond_true]
   have:=p4 hlt;exact⟨d,j',by rw [this]; exact dF hs,Rel.refl ..,by rw [this]; exact p1⟩
  ·obtain⟨k1,k2,k3⟩:=p5 (by omega)
   have hs:dK (a:Nat) d (i:Nat) (j:Nat)=some (.inl (swp d i' j',((i'+1:Nat):Int),((j'-1:Nat):Int))):=by
    rw [p6];unfold eB;have : decide ((j':Int)<(i':Int))=false:=by simp; omega
    rw [this,cond_false];simp only [Int.toNat_natCast];rw [aQ (asN (by omega)),aQ (asN (by omega)),aQ (asN (by omega)),aQ (asN (by omega)),wrN (x:=(i':Int)+1) (n:=i'+1) (by omega) (by omega),wrN (x:=(j':Int)-1) (n:=j'-1) (by omega) (by omega)];rfl
   obtain⟨d',j2,e,r,p⟩:=ih (j'-1+1-(i'+1)) (by omega) (i'+1) (j'-1) (swp d i' j') rfl (by rw [iP]; exact h2) (by rw [iP]; exact h3) (p1.swap h2 k1 k2 k3);exact⟨d',j2,(fT hs).trans e,(Rel.swp (i:=i') (j:=j') (by omega) (by omega) (by omega) (by omega)).trans r,p⟩

theorem VP {lo hi p:Nat}{d:List Int}(h0:lo<hi)(hb:hi<=d.length)(hl:d.length<2305843009213693951)(hp:lo<=p/\p<hi) :
  ∃ (m:Nat) (d':List Int),fK d (lo:Int) (hi:Int) (p:Int)=some ((m:Int),d')/\lo<m/\m<=hi/\Rel lo hi d d'/\(∀ k,lo<=k->k<m->gN d' k<=gN d p)/\(∀ k,m<=k->k<hi->gN d p<gN d' k):=by
 unfold fK;rw [aQ (asN (by omega)),aQ (asN (by omega)),aQ (asN (by omega)),aQ (asN (by omega)),wrN (x:=(lo:Int)+1) (n:=lo+1) (by omega) (by omega),wrN (x:=(hi:Int)-1) (n:=hi-1) (by omega) (by omega)];simp only [Int.toNat_natCast];have r0:Rel lo hi d (swp d lo p):=Rel.swp (i:=lo) (j:=p) (by omega) (by omega) (by omega) (by omega);have l0:(swp d lo p).length=d.length:=iP ..;have g:=vW (d:=d) (i:=lo) (j:=p) (by omega) (by omega)
 have g0:gN (swp d lo p) lo=gN d p:=by
  rw [g];by_cases hh:lo=p
  ·rw [if_pos hh,hh]
  ·rw [if_neg hh,if_pos rfl]
 have inv:KF lo hi (lo+1) (hi-1) (swp d lo p):=⟨by omega,by omega,by omega,fun k k1 k2=>by omega,fun k k1 k2=>by omega⟩;obtain⟨d',j',e,r,pp⟩:=aEL (a:=lo) (b:=hi) (hi-1+1-(lo+1)) (lo+1) (hi-1) (swp d lo p) rfl (by rw [l0]; exact hb) (by rw [l0]; exact hl) inv;have w1:=pp.hi; have w2:=pp.hj;have ga:gN d' lo=gN d p:=by rw [r.out lo (by omega),g0]
 unfold jV;rw [show lp (fun s:List Int×Int×Int=>dK (lo:Int) s.1 s.2.1 s.2.2) ((List.set (List.set d lo (List.getD d p default)) p (List.getD d lo default)),((lo+1:Nat):Int),((hi-1:Nat):Int))=some (d',((j'+1:Nat):Int)) from e];refine⟨j'+1,d',rfl,by omega,by omega,r0.trans (r.mono (by omega) (Nat.le_refl _)),fun k k1 k2=>?_,fun k k1 k2=>?_⟩
 ·rw [←ga];by_cases hk:k=lo
  ·rw [hk]; exact Int.le_refl _
  ·exact pp.lo k (by omega) k2
 ·rw [←ga]; exact pp.up k (by omega) k2

theorem aBm {lo i:Nat}{d:List Int}:∀ (n i':Nat),i'-i=n->rT lo i d->lo<i->(∀ k,i<=k->k<i'->gN d (k-1)<=gN d k)->rT lo i' d
 | 0,i',h,hs,_,_=>fun p q p1 p2 p3=>hs p q p1 p2 (by omega)
 | n+1,i',h,hs,hl,hk=>by
  have ih:=aBm (d:=d) n (i'-1) (by omega) hs hl fun k k1 k2=>hk k k1 (by omega);intro p q p1 p2 p3;by_cases hq:q=i'-1
  ·by_cases hp:p=q
   ·rw [hp]; exact Int.le_refl _
   ·have h1:=hk q (by omega) (by omega);have h2:=ih p (q-1) p1 (by omega) (by omega);omega
  ·exact ih p q p1 p2 (by omega)

theorem aD3 {lo hi:Nat}{d:List Int}(x:Int)(hb:hi<=d.length)(hl:d.length<2305843009213693951):∀ (n i:Nat),hi-i=n->1<=i->i<=hi ->
  ∃ i':Nat,lp (fun s:List Int×Int=>cU (lo:Nat) (hi:Nat) x s.1 s.2) (d,(i:Int))=some (d,(i':Int))/\i<=i'/\i'<=hi/\(∀ k,i<=k->k<i'->gN d (k-1)<=gN d k):=by
 intro n
 induction n with
 | zero =>
  intro i h1 h2 h3;refine⟨i,dF ?_,Nat.le_refl _,h3,fun k k1 k2=>by omega⟩;show cU _ _ _ _ _=_;have : decide ((i:Int)<(hi:Int))=false:=by simp; omega
  simp only [cU,this];rw [aQ (fun h=>by cases h),aQ (fun h=>by cases h)];rfl
 | succ n ih =>
  intro i h1 h2 h3;have hd:decide ((i:Int)<(hi:Int))=true:=by simp; omega
  have hs:cU (lo:Nat) (hi:Nat) x d (i:Nat)=if gN d i<gN d (i-1) then some (.inr (d,(i:Int))) else some (.inl (d,((i+1:Nat):Int))):=by
   unfold cU;rw [hd,wrN (x:=(i:Int)-1) (n:=i-1) (by omega) (by omega),wrN (x:=(i:Int)+1) (n:=i+1) (by omega) (by omega),aQ fun _=>asN (by omega),aQ fun _=>asN (by omega)];simp only [cX,cond_true,uF,Option.bind_some,Bool.true_and,Int.toNat_natCast,gN];by_cases h:d.getD i default<d.getD (i-1) default <;> simp [h]
  by_cases h:gN d i<gN d (i-1)
  ·rw [if_pos h] at hs;exact⟨i,dF hs,Nat.le_refl _,h3,fun k k1 k2=>by omega⟩
  ·rw [if_neg h] at hs;obtain⟨i',e,a1,a2,a3⟩:=ih (i+1) (by omega) (by omega) (by omega);refine⟨i',(fT hs).trans e,by omega,a2,fun k k1 k2=>?_⟩;by_cases hk:k=i
   ·rw [hk]; omega
   ·exact a3 k (by omega) k2

theorem MI {lo hi:Nat}{d d':List Int}(r:Rel lo hi d d')(h:lo=0 ∨ ∀ k,lo<=k->k<hi->gN d (lo-1)<=gN d k):lo=0 ∨ ∀ k,lo<=k->k<hi->gN d' (lo-1)<=gN d' k:=by
 by_cases h0:lo=0
 ·exact .inl h0
 ·rcases h with h | h
  ·exact .inl h
  ·exact .inr fun k k1 k2=>by
    rw [r.out (lo-1) (by omega)];exact r.all (p:=fun v=>gN d (lo-1)<=v) h k k1 k2

theorem aD6 {lo hi i:Nat}(x y:Int):∀ (j:Nat) (d:List Int),lo<=j->j<=i->i<d.length->d.length<2305843009213693951->LJ lo j i d->(lo=0 ∨ ∀ k,lo<=k->k<=i->gN d (lo-1)<=gN d k) ->
  ∃ d',lp (fun s:List Int×Int=>cO (lo:Nat) (hi:Nat) x y s.1 s.2) (d,(j:Int))=some d'/\Rel lo (i+1) d d'/\rT lo (i+1) d':=by
 intro j
 induction j with
 | zero =>
  intro d h1 h2 h3 h4 h5 h6;refine⟨d,dF ?_,Rel.refl ..,h5.done h1 (by omega)⟩;show cO _ _ _ _ _ _=_;have : decide ((1:Int)<=((0:Nat):Int))=false:=by simp
  simp only [cO,this,cond_false]
 | succ j ih =>
  intro d h1 h2 h3 h4 h5 h6;have hd:decide ((1:Int)<=((j+1:Nat):Int))=true:=by simp; omega
  have hs:cO (lo:Nat) (hi:Nat) x y d ((j+1:Nat):Int)=if gN d (j+1)<gN d j then some (.inl (swp d (j+1) j,(j:Int))) else some (.inr d):=by
   unfold cO;rw [hd,cond_true,wrN (x:=((j+1:Nat):Int)-1) (n:=j) (by omega) (by omega),aQ (asN (by omega)),aQ (asN (by omega))];simp only [uF,Option.bind_some,Int.toNat_natCast,gN];by_cases h:d.getD (j+1) default<d.getD j default
   ·simp only [h,decide_true,Bool.not_true,cond_false,if_true];rw [aQ (asN (by omega)),aQ (asN (by omega)),aQ (asN (by omega)),aQ (asN (by omega))];rfl
   ·simp only [h,decide_false,Bool.not_false,cond_true,if_false]
  by_cases h:gN d (j+1)<gN d j
  ·rw [if_pos h] at hs
   have hlo:lo<j+1:=by
    rcases h6 with h6 | h6
    ·omega
    ·rcases Nat.lt_or_ge lo (j+1) with hh | hh
     ·exact hh
     ·have : lo=j+1:=by omega
      have h7:=h6 (j+1) (by omega) h2;rw [this] at h7;simp only [Nat.add_sub_cancel] at h7;omega
   have r1:Rel lo (i+1) d (swp d (j+1) j):=Rel.swp (i:=j+1) (j:=j) (by omega) (by omega) (by omega) (by omega);obtain⟨d',e,r,s⟩:=ih (swp d (j+1) j) (by omega) (by omega) (by rw [iP]; exact h3) (by rw [iP]; exact h4) (h5.next hlo h2 h3 h) ((MI r1 (h6.imp id fun h k a b=>h k a (by omega))).imp id fun h k a b=>h k a (by omega));exact⟨d',(fT hs).trans e,r1.trans r,s⟩
  ·rw [if_neg h] at hs;exact⟨d,dF hs,Rel.refl ..,h5.done h1 fun hh=>h hh.2⟩

end Go.Abs
