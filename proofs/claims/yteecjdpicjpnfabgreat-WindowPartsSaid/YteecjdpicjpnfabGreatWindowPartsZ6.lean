/- What the law WindowParts stands on: the framework, the given functions as plain functions, their walks, and the plain laws; part 6. -/
import Derived.Test.YteecjdpicjpnfabGreatWindowPartsZ5
set_option linter.unusedSimpArgs false
set_option linter.unusedVariables false
namespace Go.Abs
open Go Go.RowKit Go.Proofs
theorem aAJ (w0:cC)(l1:(List aJ))(bZ:Int)(t3:Int)(r:((List aG)×Int))(h0:yY w0 l1 bZ t3=some r):dF Tryz.prog 13 [(cB w0),(eL aI l1),(eI bZ),(eI t3)] (.tup [(eL aK r.1),(eI r.2)]):=by
 intro H0;refine dB Tryz.func13 ?_;have hO:=aL.start H0;unfold yY at h0;refine aN ?_;refine aT aB 3 ?_;refine kE 3 (cB w0) ?_;refine bE ?_;refine bP [0] [(4,(.rp (cB w0)))] ?_;refine aN ?_;refine aT aB 5 ?_;refine bN 3 ?_;obtain⟨x1,hx2,h0⟩:=aZ h0;refine cJ (aAz w0 l1 t3 _ hx2) hO ?_;intro H hO;refine bE ?_;refine bP [] [(10,(eI x1))] ?_;refine aN ?_;refine aY aB 2 [] [(18,(aF (!decide (x1=(0:Int)))))] ?_;refine bJ h0 (fun h0=>?_) (fun h0=>?_)
 ·refine bS aB 3 [(8,(.sl true 0 (fun _=>.bad))),(9,(eI x1))] ?_;refine bL ?_;refine cT (l:=[(8,(eL aK ([]))),(9,(eI x1))]) ⟨[(8,(.sl true 0 (fun _=>.bad))),(9,(eI x1))],by kernel_rfl,rfl,⟨dV,aQ.refl _,trivial⟩⟩ ?_;obtain rfl:=oI h0;exact aE (aS (Q_r hO))
 refine bK ?_;refine bH [(1,(eL aI l1)),(2,(eI bZ)),(3,(eI t3)),(4,(.rp (cB w0)))] ?_;refine aN ?_;refine aY aB 3 [] [(22,(aF (decide (w0.Kind=(1:Int)))))] ?_;refine bJ h0 (fun h0=>?_) (fun h0=>?_)
 ·refine aN ?_;refine aT aB 7 ?_;refine bN 2 ?_;obtain⟨x6,hx7,h0⟩:=aZ h0;refine cJ (aAS l1 bZ _ hx7) hO ?_;intro H hO;refine bE ?_;refine bH [(8,(eL aK x6.1)),(9,(eI x6.2))] ?_;refine bL ?_;obtain rfl:=oI h0;exact aE (aS (Q_r hO))
 refine bK ?_;refine bH [(1,(eL aI l1)),(2,(eI bZ)),(3,(eI t3)),(4,(.rp (cB w0)))] ?_;refine aN ?_;refine aY aB 3 [] [(30,(aF (decide (w0.Kind=(3:Int)))))] ?_;refine bJ h0 (fun h0=>?_) (fun h0=>?_)
 ·refine aN ?_;refine aT aB 9 ?_;refine bN 4 ?_;obtain⟨x10,hx11,h0⟩:=aZ h0;refine cJ (aAF l1 w0.Size bZ _ hx11) hO ?_;intro H hO;refine bE ?_;refine bH [(8,(eL aK x10.1)),(9,(eI x10.2))] ?_;refine bL ?_;obtain rfl:=oI h0;exact aE (aS (Q_r hO))
 refine bK ?_;refine bH [(1,(eL aI l1)),(2,(eI bZ)),(3,(eI t3)),(4,(.rp (cB w0)))] ?_;refine aY aB 2 [3] [(11,(eI t3))] ?_;refine cV (fun T H=>∃ w4:cC,∃ jI:Int,Has T [(1,(eL aI l1)),(2,(eI bZ)),(4,(.rp (cB w4))),(11,(eI jI))]/\aL ⟨H0,[],[]⟩ H []/\xC l1 bZ w4 jI=some r) ?_ ?_
 ·clear hO h0;rintro T H ⟨w4,jI,hT,hO,h0⟩;refine bD hT ?_;clear hT;unfold xC at h0;refine aN ?_;refine aT aB 12 ?_;refine bN 7 ?_;obtain⟨x13,hx14,h0⟩:=aZ h0;refine cJ (aAG l1 w4.Size w4.Hop bZ jI _ hx14) hO ?_;intro H hO;refine bE ?_;refine bH [(8,(eL aK x13.1)),(9,(eI x13.2))] ?_;refine bL ?_;obtain rfl:=oI h0;exact aE (Q_r hO)
 refine aY aB 1 [] [(12,(eI 0))] ?_;refine bT 0 ?_;refine eC [(1,(eL aI l1)),(2,(eI bZ)),(4,(.rp (cB w0))),(11,(eI t3)),(12,(eI 0))] ?_;refine dR (fun T H=>∃ w4:cC,∃ jI:Int,∃ i12:Int,Has T [(1,(eL aI l1)),(2,(eI bZ)),(4,(.rp (cB w4))),(11,(eI jI)),(12,(eI i12))]/\aL ⟨H0,[],[]⟩ H []/\BV l1 bZ w4 jI i12=some r) ?_ ⟨w0,t3,(0:Int),aX,hO,h0⟩;clear hO h0;rintro T H ⟨w4,jI,i12,hT,hO,h0⟩;refine bD hT ?_;clear hT;unfold BV at h0;obtain⟨rr0,hl0,h0⟩:=aZ h0;refine eX (fun (s:Int×Int) T H=>Has T [(1,(eL aI l1)),(2,(eI bZ)),(4,(.rp (cB w4))),(11,(eI s.1)),(12,(eI s.2))]/\aL ⟨H0,[],[]⟩ H []) hl0 ⟨aX,hO⟩ ?_;clear hO;rintro k0 s out1 T H ⟨hT,hO⟩ h1 ho0;obtain⟨jI,i12⟩:=s;replace h1:qD l1 bZ w4 jI i12=some out1:=h1
 try dsimp only at hT
 refine bD hT ?_;clear hT;unfold qD at h1;refine aN ?_;refine aY aB 4 [] [(42,(aF (decide (i12<(lN l1)))))] ?_;refine bJ h1 (fun h1=>?_) (fun h1=>?_)
 ·refine bK ?_;refine bH [(1,(eL aI l1)),(2,(eI bZ)),(4,(.rp (cB w4))),(11,(eI jI)),(12,(eI i12))] ?_;refine cV (fun T H=>∃ jI:Int,Has T [(1,(eL aI l1)),(2,(eI bZ)),(4,(.rp (cB w4))),(11,(eI jI)),(12,(eI i12))]/\aL ⟨H0,[],[]⟩ H []/\wC l1 bZ w4 jI i12=some out1) ?_ ?_
  ·clear hO h1;rintro T H ⟨jI,hT,hO,h1⟩;refine bD hT ?_;clear hT;unfold wC at h1;refine aT aB 3 ?_;refine bE ?_;exact aE (aC (⟨rfl,_,(oI h1).symm,aX,hO⟩))
  refine bT 1 ?_;refine aN ?_;refine aT aB 15 ?_;obtain⟨c17,h1⟩:=bC h1;obtain⟨c18,h1⟩:=bC h1;refine lP [0<=i12/\i12<(lN l1),(((decide ((0:Int)<((gD l1 i12).Net))))=true->0<=i12/\i12<(lN l1))] ⟨c17,c18,trivial⟩ ?_;refine bP [] [(59,(aF ((decide ((0:Int)<((gD l1 i12).Net)))&&(decide (jI<=((gD l1 i12).At))))))] ?_;refine bJ h1 (fun h1=>?_) (fun h1=>?_)
  ·refine aT aB 7 ?_;obtain⟨c20,h1⟩:=bC h1;refine lP [0<=i12/\i12<(lN l1)] ⟨c20,trivial⟩ ?_;exact aE (aV (aC (⟨rfl,_,aX,hO,h1⟩)))
  refine bK ?_;exact aE (aV (aC (⟨rfl,_,aX,hO,h1⟩)))
 refine eH 0 ?_;obtain rfl:=oI h1;obtain rfl:_=rr0:=ho0;replace h0:xC l1 bZ w4 jI=some r:=h0;exact aE (aW (aW (bQ (aC (⟨rfl,_,_,aX,hO,h0⟩)))))

theorem PI (a0:(List bA))(b1:(List bA))(r:Bool)(h0:rC a0 b1=some r):dF Tryz.prog 33 [(eL bB a0),(eL bB b1)] (aF r):=by
 intro H0;refine dB Tryz.func33 ?_;have hO:=aL.start H0;unfold rC at h0;refine aY aB 1 [] [] ?_;refine aN ?_;refine aY aB 5 [] [(10,(aF (!decide ((lN a0)=(lN b1)))))] ?_;refine bJ h0 (fun h0=>?_) (fun h0=>?_)
 ·refine bS aB 1 [(4,(aF false))] ?_;refine bL ?_;obtain rfl:=oI h0;exact aE (aS (Q_r hO))
 refine bK ?_;refine bH [(0,(eL bB a0)),(1,(eL bB b1))] ?_;refine cV (fun T H=>Has T []/\aL ⟨H0,[],[]⟩ H []/\qA  = some r) ?_ ?_
 ·clear hO h0;rintro T H ⟨hT,hO,h0⟩;refine bD hT ?_;clear hT;unfold qA at h0;refine bS aB 1 [(4,(aF true))] ?_;refine bL ?_;obtain rfl:=oI h0;exact aE (Q_r hO)
 refine aY aB 1 [] [(5,(eI 0))] ?_;refine bT 0 ?_;refine eC [(0,(eL bB a0)),(1,(eL bB b1)),(5,(eI 0))] ?_;refine dR (fun T H=>∃ i5:Int,Has T [(0,(eL bB a0)),(1,(eL bB b1)),(5,(eI i5))]/\aL ⟨H0,[],[]⟩ H []/\tT a0 b1 i5=some r) ?_ ⟨(0:Int),aX,hO,h0⟩;clear hO h0;rintro T H ⟨i5,hT,hO,h0⟩;refine bD hT ?_;clear hT;unfold tT at h0;obtain⟨rr0,hl0,h0⟩:=aZ h0;refine eX (fun (s:Int) T H=>Has T [(0,(eL bB a0)),(1,(eL bB b1)),(5,(eI s))]/\aL ⟨H0,[],[]⟩ H []) hl0 ⟨aX,hO⟩ ?_;clear hO;rintro k0 s out1 T H ⟨hT,hO⟩ h1 ho0;obtain⟨i5,rfl⟩:∃ x,x=s:=⟨_,rfl⟩;replace h1:nW a0 b1 i5=some out1:=h1;refine bD hT ?_;clear hT;unfold nW at h1;refine aN ?_;refine aY aB 4 [] [(14,(aF (decide (i5<(lN a0)))))] ?_;refine bJ h1 (fun h1=>?_) (fun h1=>?_)
 ·refine bK ?_;refine bH [(0,(eL bB a0)),(1,(eL bB b1)),(5,(eI i5))] ?_;refine aN ?_;refine bT 1 ?_;refine aN ?_;obtain⟨c3,h1⟩:=bC h1;obtain⟨c4,h1⟩:=bC h1;obtain⟨c5,h1⟩:=bC h1;obtain⟨c6,h1⟩:=bC h1;obtain⟨x7,hx8,h1⟩:=aZ h1;refine eU (eW [21,26,33,38]) aB 25 ?_;refine nC (K:=fun T H=>Has (lift T) [(0,(eL bB a0)),(1,(eL bB b1)),(5,(eI i5)),(41,(aF ((!decide (((gD a0 i5).N)=((gD b1 i5).N)))||(!x7))))]/\aL ⟨H0,[],[]⟩ H []) ?_ ?_
  ·refine cL 12 [0<=i5/\i5<(lN a0),0<=i5/\i5<(lN b1)] ⟨c3,c4,trivial⟩ ?_;refine jX (t:=28) (e := !decide (((gD a0 i5).N)=((gD b1 i5).N))) (by kernel_rfl) (fun hg9=>?_) (fun hg9=>?_)
   ·refine gH ?_;exact⟨⟨[(0,(eL bB a0)),(1,(eL bB b1)),(5,(eI i5)),(41,(aF true))],by kernel_rfl,rfl,⟨aQ.refl _,aQ.refl _,aQ.refl _,aQ.eq (congrArg aF (NI hg9 rfl).symm),trivial⟩⟩,hO⟩
   refine cL 22 [0<=i5/\i5<(lN a0),0<=i5/\i5<(lN b1)] ⟨(c5 (FG hg9)),(c6 (FG hg9)),trivial⟩ ?_;refine nK 37 [(eL aD ((gD a0 i5).Row)),(eL aD ((gD b1 i5).Row))] (aF x7) (by kernel_rfl) (by kernel_rfl) (KE ((gD a0 i5).Row) ((gD b1 i5).Row) _ (fZ hx8 (FG hg9))) hO ?_;intro H hO;refine gH ?_;exact⟨⟨[(0,(eL bB a0)),(1,(eL bB b1)),(5,(eI i5)),(41,(aF (!x7)))],by kernel_rfl,rfl,⟨aQ.refl _,aQ.refl _,aQ.refl _,aQ.eq (congrArg aF (NI hg9 rfl).symm),trivial⟩⟩,hO⟩
  ·rintro T H ⟨hT,hO⟩;refine cT hT ?_;clear hT;refine aE (aC ?_);refine bJ h1 (fun h1=>?_) (fun h1=>?_)
   ·refine bS aB 1 [(4,(aF false))] ?_;refine bL ?_;obtain rfl:=oI h1;obtain rfl:_=rr0:=ho0;replace h0:some false=some r:=h0;obtain rfl:=oI h0;exact aE (bI (aS (aS (bI (aS (Q_r hO))))))
   refine bK ?_;refine eA [(0,(eL bB a0)),(1,(eL bB b1)),(5,(eI i5))] ?_;refine aE (aV (aC (?_)));refine aT aB 3 ?_;refine bE ?_;exact aE (aC (⟨rfl,_,(oI h1).symm,aX,hO⟩))
 refine eH 0 ?_;obtain rfl:=oI h1;obtain rfl:_=rr0:=ho0;replace h0:qA  = some r:=h0;exact aE (aW (aW (bQ (aC (⟨rfl,aX,hO,h0⟩)))))

theorem aB7 (a0:(List aG))(b1:(List aG))(r:Bool)(h0:AU a0 b1=some r):dF Tryz.prog 14 [(eL aK a0),(eL aK b1)] (aF r):=by
 intro H0;refine dB Tryz.func14 ?_;have hO:=aL.start H0;unfold AU at h0;refine aY aB 1 [] [] ?_;refine aN ?_;refine aY aB 5 [] [(10,(aF (!decide ((lN a0)=(lN b1)))))] ?_;refine bJ h0 (fun h0=>?_) (fun h0=>?_)
 ·refine bS aB 1 [(4,(aF false))] ?_;refine bL ?_;obtain rfl:=oI h0;exact aE (aS (Q_r hO))
 refine bK ?_;refine bH [(0,(eL aK a0)),(1,(eL aK b1))] ?_;refine cV (fun T H=>Has T []/\aL ⟨H0,[],[]⟩ H []/\yS  = some r) ?_ ?_
 ·clear hO h0;rintro T H ⟨hT,hO,h0⟩;refine bD hT ?_;clear hT;unfold yS at h0;refine bS aB 1 [(4,(aF true))] ?_;refine bL ?_;obtain rfl:=oI h0;exact aE (Q_r hO)
 refine aY aB 1 [] [(5,(eI 0))] ?_;refine bT 0 ?_;refine eC [(0,(eL aK a0)),(1,(eL aK b1)),(5,(eI 0))] ?_;refine dR (fun T H=>∃ i5:Int,Has T [(0,(eL aK a0)),(1,(eL aK b1)),(5,(eI i5))]/\aL ⟨H0,[],[]⟩ H []/\DQ a0 b1 i5=some r) ?_ ⟨(0:Int),aX,hO,h0⟩;clear hO h0;rintro T H ⟨i5,hT,hO,h0⟩;refine bD hT ?_;clear hT;unfold DQ at h0;obtain⟨rr0,hl0,h0⟩:=aZ h0;refine eX (fun (s:Int) T H=>Has T [(0,(eL aK a0)),(1,(eL aK b1)),(5,(eI s))]/\aL ⟨H0,[],[]⟩ H []) hl0 ⟨aX,hO⟩ ?_;clear hO;rintro k0 s out1 T H ⟨hT,hO⟩ h1 ho0;obtain⟨i5,rfl⟩:∃ x,x=s:=⟨_,rfl⟩;replace h1:uL a0 b1 i5=some out1:=h1;refine bD hT ?_;clear hT;unfold uL at h1;refine aN ?_;refine aY aB 4 [] [(14,(aF (decide (i5<(lN a0)))))] ?_;refine bJ h1 (fun h1=>?_) (fun h1=>?_)
 ·refine bK ?_;refine bH [(0,(eL aK a0)),(1,(eL aK b1)),(5,(eI i5))] ?_;refine aN ?_;refine bT 1 ?_;refine aN ?_;obtain⟨c3,h1⟩:=bC h1;obtain⟨c4,h1⟩:=bC h1;obtain⟨c5,h1⟩:=bC h1;obtain⟨c6,h1⟩:=bC h1;obtain⟨x7,hx8,h1⟩:=aZ h1;refine eU (eW [21,26,33,38]) aB 25 ?_;refine nC (K:=fun T H=>Has (lift T) [(0,(eL aK a0)),(1,(eL aK b1)),(5,(eI i5)),(41,(aF ((!((decide ((((gD a0 i5).Span).From)=(((gD b1 i5).Span).From)))&&((decide ((((gD a0 i5).Span).To)=(((gD b1 i5).Span).To)))&&true)))||(!x7))))]/\aL ⟨H0,[],[]⟩ H []) ?_ ?_
  ·refine cL 12 [0<=i5/\i5<(lN a0),0<=i5/\i5<(lN b1)] ⟨c3,c4,trivial⟩ ?_;refine jX (t:=28) (e := !((decide ((((gD a0 i5).Span).From)=(((gD b1 i5).Span).From)))&&((decide ((((gD a0 i5).Span).To)=(((gD b1 i5).Span).To)))&&true))) (by kernel_rfl) (fun hg9=>?_) (fun hg9=>?_)
   ·refine gH ?_;exact⟨⟨[(0,(eL aK a0)),(1,(eL aK b1)),(5,(eI i5)),(41,(aF true))],by kernel_rfl,rfl,⟨aQ.refl _,aQ.refl _,aQ.refl _,aQ.eq (congrArg aF (NI hg9 rfl).symm),trivial⟩⟩,hO⟩
   refine cL 22 [0<=i5/\i5<(lN a0),0<=i5/\i5<(lN b1)] ⟨(c5 (FG hg9)),(c6 (FG hg9)),trivial⟩ ?_;refine nK 33 [(eL bB ((gD a0 i5).Rows)),(eL bB ((gD b1 i5).Rows))] (aF x7) (by kernel_rfl) (by kernel_rfl) (PI ((gD a0 i5).Rows) ((gD b1 i5).Rows) _ (fZ hx8 (FG hg9))) hO ?_;intro H hO;refine gH ?_;exact⟨⟨[(0,(eL aK a0)),(1,(eL aK b1)),(5,(eI i5)),(41,(aF (!x7)))],by kernel_rfl,rfl,⟨aQ.refl _,aQ.refl _,aQ.refl _,aQ.eq (congrArg aF (NI hg9 rfl).symm),trivial⟩⟩,hO⟩
  ·rintro T H ⟨hT,hO⟩;refine cT hT ?_;clear hT;refine aE (aC ?_);refine bJ h1 (fun h1=>?_) (fun h1=>?_)
   ·refine bS aB 1 [(4,(aF false))] ?_;refine bL ?_;obtain rfl:=oI h1;obtain rfl:_=rr0:=ho0;replace h0:some false=some r:=h0;obtain rfl:=oI h0;exact aE (bI (aS (aS (bI (aS (Q_r hO))))))
   refine bK ?_;refine eA [(0,(eL aK a0)),(1,(eL aK b1)),(5,(eI i5))] ?_;refine aE (aV (aC (?_)));refine aT aB 3 ?_;refine bE ?_;exact aE (aC (⟨rfl,_,(oI h1).symm,aX,hO⟩))
 refine eH 0 ?_;obtain rfl:=oI h1;obtain rfl:_=rr0:=ho0;replace h0:yS  = some r:=h0;exact aE (aW (aW (bQ (aC (⟨rfl,aX,hO,h0⟩)))))

theorem OX (w0:cC)(l1:(List aJ))(bZ:Int)(t3:Int)(r:Bool)(h0:tV w0 l1 bZ t3=some r):dF Tryz.prog 4 [(cB w0),(eL aI l1),(eI bZ),(eI t3)] (aF r):=by
 intro H0;refine dB Tryz.func4 ?_;have hO:=aL.start H0;unfold tV at h0;refine aN ?_;refine aT aB 2 ?_;refine kE 3 (cB w0) ?_;refine bE ?_;refine bP [0] [(4,(.rp (cB w0)))] ?_;refine aN ?_;refine aN ?_;refine aT aB 3 ?_;refine bN 1 ?_;obtain⟨x1,hx2,h0⟩:=aZ h0;refine cJ (aC3 l1 _ hx2) hO ?_;intro H hO;refine bE ?_;refine bP [] [(15,(aF (!x1)))] ?_;refine bJ h0 (fun h0=>?_) (fun h0=>?_)
 ·refine aN ?_;refine aT aB 2 ?_;obtain⟨x5,hx6,h0⟩:=aZ h0;refine cJ (QX  _ hx6) hO ?_;intro H hO;refine bE ?_;refine bH [(8,(aF x5))] ?_;refine bL ?_;obtain rfl:=oI h0;exact aE (aS (Q_r hO))
 refine bK ?_;refine bH [(1,(eL aI l1)),(2,(eI bZ)),(3,(eI t3)),(4,(.rp (cB w0)))] ?_;refine aN ?_;refine aT aB 10 ?_;refine bN 4 ?_;obtain⟨x8,hx9,h0⟩:=aZ h0;refine cJ (MH w0 l1 bZ t3 _ hx9) hO ?_;intro H hO;refine bE ?_;refine bP [] [(9,(eL aK x8.1)),(10,(eI x8.2))] ?_;refine aN ?_;refine aT aB 10 ?_;refine bN 4 ?_;obtain⟨x11,hx12,h0⟩:=aZ h0;refine cJ (aAJ w0 l1 bZ t3 _ hx12) hO ?_;intro H hO;refine bE ?_;refine bP [1,2,3,4] [(11,(eL aK x11.1)),(12,(eI x11.2))] ?_;refine aN ?_;refine aT aB 12 ?_;obtain⟨x14,hx15,h0⟩:=aZ h0;refine cJ (QX  _ hx15) hO ?_;intro H hO;refine bN 9 ?_;obtain⟨x17,hx18,h0⟩:=aZ h0;refine lE [(39,true)] 14 [(eL aK x8.1),(eL aK x11.1)] (aF x17) (x14&&(decide (x8.2=x11.2))) (by kernel_rfl) (by kernel_rfl) (by kernel_rfl) (fun hb19=>(aB7 x8.1 x11.1 _ (fZ hx18 hb19))) hO ?_;intro H hO;refine bE ?_;refine bH [(8,(aF ((x14&&(decide (x8.2=x11.2)))&&x17)))] ?_;refine bL ?_;obtain rfl:=oI h0;exact aE (Q_r hO)

end Go.Abs
namespace Go.Abs
open Go Go.RowKit Go.Proofs
theorem OY {H:Type}{enc:TypeId×Value->H}{w:World}:BT enc Tryz.prog w 24 cB DZ :=
  KB Tryz.underlying24 (by kernel_rfl) (qO (c':=JD) (ok':=DZ) (fun (a:Int) (b:Int×Int×Unit)=>(cC.mk a b.1 b.2.1:cC)) (by kernel_rfl) (BJ Tryz.underlying22) (qO (c':=fun (b:Int×Int×Unit)=>(V.cells (dX .i64 b.1)++(V.cells (dX .i64 b.2.1)++[]))) (ok':=fun b=>(yE b.1/\(yE b.2.1/\True))) (fun a b=>(a,b)) (by kernel_rfl) (BJ Tryz.underlying3) (qO (c':=fun (b:Int×Unit)=>(V.cells (dX .i64 b.1)++[])) (ok':=fun b=>(yE b.1/\True)) (fun a b=>(a,b)) (by kernel_rfl) (BJ Tryz.underlying3) (MZ ()) (fun _ _=>rfl) (fun _ _ h1 h2=>⟨h1,h2⟩)) (fun _ _=>rfl) (fun _ _ h1 h2=>⟨h1,h2⟩)) (fun _ _=>rfl) (fun _ _ h1 h2=>⟨h1,h2⟩))

theorem RK {H:Type}{enc:TypeId×Value->H}{w:World}:BT enc Tryz.prog w 50 aD JJ :=
  KB Tryz.underlying50 (by kernel_rfl) (qO (c':=TB) (ok':=JJ) (fun (a:Int) (b:Int×ByteArray×Unit)=>(aH.mk a b.1 b.2.1:aH)) (by kernel_rfl) (BJ Tryz.underlying48) (qO (c':=fun (b:Int×ByteArray×Unit)=>(V.cells (dX .i64 b.1)++(V.cells (GN b.2.1)++[]))) (ok':=fun b=>(yE b.1/\((fun s=>s.size<=maxLen) b.2.1/\True))) (fun a b=>(a,b)) (by kernel_rfl) (BJ Tryz.underlying3) (qO (c':=fun (b:ByteArray×Unit)=>(V.cells (GN b.1)++[])) (ok':=fun b=>((fun s=>s.size<=maxLen) b.1/\True)) (fun a b=>(a,b)) (by kernel_rfl) (aCu Tryz.underlying9) (MZ ()) (fun _ _=>rfl) (fun _ _ h1 h2=>⟨h1,h2⟩)) (fun _ _=>rfl) (fun _ _ h1 h2=>⟨h1,h2⟩)) (fun _ _=>rfl) (fun _ _ h1 h2=>⟨h1,h2⟩))

theorem RZ {H:Type}{enc:TypeId×Value->H}{w:World}:BT enc Tryz.prog w 47 aI CU :=
  KB Tryz.underlying47 (by kernel_rfl) (qO (c':=VO) (ok':=CU) (fun (a:(List aH)) (b:Int×Int×Unit)=>(aJ.mk a b.1 b.2.1:aJ)) (by kernel_rfl) (aC7 Tryz.underlying45 (by decide +kernel) (fun _=>by kernel_rfl) (fun _=>rfl) RK (by kernel_rfl)) (qO (c':=fun (b:Int×Int×Unit)=>(V.cells (dX .i64 b.1)++(V.cells (dX .i64 b.2.1)++[]))) (ok':=fun b=>(yE b.1/\(yE b.2.1/\True))) (fun a b=>(a,b)) (by kernel_rfl) (BJ Tryz.underlying3) (qO (c':=fun (b:Int×Unit)=>(V.cells (dX .i64 b.1)++[])) (ok':=fun b=>(yE b.1/\True)) (fun a b=>(a,b)) (by kernel_rfl) (BJ Tryz.underlying3) (MZ ()) (fun _ _=>rfl) (fun _ _ h1 h2=>⟨h1,h2⟩)) (fun _ _=>rfl) (fun _ _ h1 h2=>⟨h1,h2⟩)) (fun _ _=>rfl) (fun _ _ h1 h2=>⟨h1,h2⟩))

end Go.Abs
namespace Go.Abs
open Go
theorem cO {n:Int}(h1 : -9223372036854775808<=n)(h2:n<=9223372036854775807):IntKind.i64.wrap n=n:=by
 simp only [IntKind.wrap,IntKind.bits,IntKind.signed];simp;split <;> omega

def zW {α st R:Type}(step:st->α->Option (st⊕R))(fin:st->R):st->List α->Option R
 | s,[]=>some (fin s)
 | s,a::r=>match step s a with
  | some (.inl s')=>zW step fin s' r
  | some (.inr x)=>some x
  | none=>none

theorem VL {α st R:Type}{step:st->α->Option (st⊕R)}{fin:st->R}{s s':st}{a:α}{r:List α}(h:step s a=some (.inl s')):zW step fin s (a::r)=zW step fin s' r:=by
 simp only [zW,h]

theorem WZ {α st R:Type}{step:st->α->Option (st⊕R)}{fin:st->R}{s:st}{x:R}{a:α}{r:List α}(h:step s a=some (.inr x)):zW step fin s (a::r)=some x:=by
 simp only [zW,h]

theorem aDG {α S st R:Type} {body:S->Option (S⊕R)} {l:List α} (mk:st->Int->S) (step:st->α->Option (st⊕R)) (fin:st->R)
  (hn:∀ (i:Nat) a s,l[i]?=some a->(∀ s',step s a=some (.inl s')->body (mk s i)=some (.inl (mk s' ((i+1:Nat):Int))))/\(∀ x,step s a=some (.inr x)->body (mk s i)=some (.inr x)))
  (he:∀ s,body (mk s (l.length:Nat))=some (.inr (fin s))):∀ (m k:Nat) (s:st) (r:R),l.length-k=m->k<=l.length->zW step fin s (l.drop k)=some r->lp body (mk s k)=some r
 | 0,k,s,r,hm,hk,h=>by
  have : k=l.length:=by omega
  subst this;rw [List.drop_length] at h;simp only [zW,Option.some.injEq] at h;subst h;exact cZ (he s)
 | m+1,k,s,r,hm,hk,h=>by
  have hlt:k<l.length:=by omega
  have hd:l.drop k=l[k]::l.drop (k+1):=List.drop_eq_getElem_cons hlt;rw [hd] at h;simp only [zW] at h;obtain⟨h1,h2⟩:=hn k l[k] s (List.getElem?_eq_getElem hlt);split at h
  ·rename_i s' hs
   rw [eT (h1 s' hs)];exact aDG mk step fin hn he m (k+1) s' r (by omega) (by omega) h
  ·rename_i x hs
   simp at h; subst h;exact cZ (h2 x hs)
  ·cases h

theorem aBq {α S st R:Type} {body:S->Option (S⊕R)} {l:List α} (mk:st->Int->S) (step:st->α->Option (st⊕R)) (fin:st->R)
  (hn:∀ (i:Nat) a s,l[i]?=some a->(∀ s',step s a=some (.inl s')->body (mk s i)=some (.inl (mk s' ((i+1:Nat):Int))))/\(∀ x,step s a=some (.inr x)->body (mk s i)=some (.inr x)))
  (he:∀ s,body (mk s (l.length:Nat))=some (.inr (fin s))) {s:st} {r:R} (h:zW step fin s l=some r):lp body (mk s 0)=some r :=
 aDG mk step fin hn he _ 0 s r rfl (Nat.zero_le _) (by simpa using h)

theorem idx {α:Type}[Inhabited α]{l:List α}{i:Nat}{a:α}(h:l[i]?=some a)(hl:l.length<4611686018427387904) :
  decide ((i:Int)<((l.length:Nat):Int))=true/\(0<=(i:Int)/\(i:Int)<((l.length:Nat):Int))/\l.getD (Int.toNat (i:Int)) default=a/\IntKind.i64.wrap ((i:Int)+1)=((i+1:Nat):Int):=by
 have hlt:i<l.length:=(List.getElem?_eq_some_iff.1 h).1;refine⟨by simpa using hlt,⟨by omega,by omega⟩,?_,?_⟩
 ·rw [Int.toNat_natCast,List.getD_eq_getElem?_getD,h]; rfl
 ·rw [cO (by omega) (by omega)]; omega

theorem eP {n:Nat}:decide (((n:Nat):Int)<((n:Nat):Int))=false:=by simp

theorem aI7 {α:Type}{j:α}{r:List α}:(0:Int)<=0/\(0:Int)<((List.length (j::r):Nat):Int):=⟨by omega,by simp⟩

theorem aId {α:Type}[Inhabited α]{j:α}{r:List α}:List.getD (j::r) (Int.toNat (0:Int)) default=j:=rfl

end Go.Abs
namespace Go.Abs
open Go
theorem drop_cons {α:Type}{l r:List α}{a:α}{k:Nat}(h:l.drop k=a::r):l[k]?=some a/\l.drop (k+1)=r:=by
 have hk:k<l.length:=by
  apply Classical.byContradiction; intro hn;rw [List.drop_eq_nil_of_le (by omega)] at h; cases h
 rw [List.drop_eq_getElem_cons hk] at h;obtain⟨h1,h2⟩:=List.cons.inj h;exact⟨by rw [List.getElem?_eq_getElem hk,h1],h2⟩

theorem aFw {α S st R:Type} {body:S->Option (S⊕R)} {l:List α} (mk:st->Int->S) (G:st->List α->R) (Inv:st->List α->Prop)
  (hn:∀ (i:Nat) a r s,l[i]?=some a->Inv s (a::r)->(∃ s',body (mk s i)=some (.inl (mk s' ((i+1:Nat):Int)))/\Inv s' r/\G s' r=G s (a::r))∨body (mk s i)=some (.inr (G s (a::r))))
  (he:∀ s,Inv s []->body (mk s (l.length:Nat))=some (.inr (G s []))):∀ (r:List α) (k:Nat) (s:st),l.drop k=r->k<=l.length->Inv s r->lp body (mk s k)=some (G s r)
 | [],k,s,hd,hk,hi=>by
  have : k=l.length:=by
   have:=congrArg List.length hd;simp only [List.length_drop,List.length_nil] at this; omega
  subst this;exact cZ (he s hi)
 | a::r,k,s,hd,hk,hi=>by
  obtain⟨h1,h2⟩:=drop_cons hd;have hlt:k<l.length:=(List.getElem?_eq_some_iff.1 h1).1;rcases hn k a r s h1 hi with ⟨s',hb,hi',hg⟩ | hb
  ·rw [eT hb,aFw mk G Inv hn he r (k+1) s' h2 (by omega) hi',hg]
  ·exact cZ hb

theorem jY {α S st R:Type} {body:S->Option (S⊕R)} {l:List α} (mk:st->Int->S) (G:st->List α->R) (Inv:st->List α->Prop) (s:st)
  (hn:∀ (i:Nat) a r s,l[i]?=some a->Inv s (a::r)->(∃ s',body (mk s i)=some (.inl (mk s' ((i+1:Nat):Int)))/\Inv s' r/\G s' r=G s (a::r))∨body (mk s i)=some (.inr (G s (a::r))))
  (he:∀ s,Inv s []->body (mk s (l.length:Nat))=some (.inr (G s []))) (hi:Inv s l):lp body (mk s 0)=some (G s l) :=
 aFw mk G Inv hn he l 0 s rfl (Nat.zero_le _) hi

theorem JX {α S R:Type} {body:S->Option (S⊕R)} {l:List α} (mk:Int->S) (bad:α->Bool) (x y:R)
  (hn:∀ (i:Nat) a,l[i]?=some a->body (mk i)=some (if bad a then .inr x else .inl (mk ((i+1:Nat):Int))))
  (he:body (mk (l.length:Nat))=some (.inr y)):lp body (mk 0)=some (if l.any bad then x else y):=by
 refine jY (st:=Unit) (fun _ i=>mk i) (fun _ r=>if r.any bad then x else y) (fun _ _=>True) () ?_ ?_ trivial
 ·intro i a r s ha _;have hb:=hn i a ha
  cases h:bad a
  ·left; refine ⟨(),?_,trivial,?_⟩
   ·simpa [h] using hb
   ·simp [List.any_cons,h]
  ·right; simpa [h,List.any_cons] using hb
 ·intro _ _; simpa using he

end Go.Abs
namespace Go.Abs
open Go
variable {α:Type} [Inhabited α]
abbrev Srt {β:Type}(le:β->β->Prop)(l:List β):Prop:=l.Pairwise le

theorem wr {n:Int}(h1 : -1099511627776<=n)(h2:n<=8796093022208):IntKind.i64.wrap n=n:=cO (by omega) (by omega)

section ins
variable {ok:α->Prop} {le:α->α->Prop} {cmp:α->α->Option Int}
end ins
end Go.Abs
namespace Go.Abs
open Go
variable {α:Type} [Inhabited α]
theorem half {s:Nat}(h:s<=4398046511104):IntKind.i64.wrap (Int.fdiv (IntKind.u64.wrap (IntKind.i64.wrap (s:Int))) (2 ^ (min (Int.toNat (1:Int)) 64)))=((s / 2:Nat):Int):=by
 rw [wr (n:=(s:Int)) (by omega) (by omega)]
 have hu:IntKind.u64.wrap (s:Int)=(s:Int):=by
  simp only [IntKind.wrap,IntKind.bits,IntKind.signed];simp;omega
 have hp:(2:Int) ^ (min (Int.toNat (1:Int)) 64)=2:=by decide
 rw [hu,hp,Int.fdiv_eq_ediv_of_nonneg _ (by omega),wr (by omega) (by omega)];omega

section sym
variable {ok:α->Prop} {le:α->α->Prop} {cmp:α->α->Option Int}
end sym
end Go.Abs
namespace Go.Abs
open Go
def RR (n:Int):Bool:=decide (n<=1048576)&&decide (-1048576<=n)

theorem aH4 (n:Int):HB n=some (RR n):=rfl

def sZ (last:Int)(j:aM):Bool:=decide (j.At<=last)||decide (1125899906842624<=j.At)||decide (j.Net=0) || !RR j.Net

def chk (last:Int):List aM->Bool
 | []=>true
 | j::r => !sZ last j&&chk j.At r

def gJ (f:List aM):Bool:=decide (f.length<=1024)&&chk (-2) f

theorem aCv {f:List aM}{i:Nat}{a:aM}{last:Int}(ha:f[i]?=some a)(hl:f.length<4611686018427387904) :
  oW f (f.length:Nat) last i=some (if sZ last a then .inr (.inr false) else .inl (a.At,((i+1:Nat):Int))):=by
 obtain⟨d1,d2,d3,d4⟩:=idx ha hl;simp only [oW,d1,cond_true,aO d2,d3,d4,aH4];unfold sZ
 cases h:(decide (a.At<=last)||decide (1125899906842624<=a.At)||decide (a.Net=0)) <;> cases h2:RR a.Net <;> simp [cW]

theorem aB2:∀ (f:List aM) (last:Int),zW (fun last (j:aM)=>some (if sZ last j then .inr (.inr false) else .inl j.At)) (fun _=>(.inl ():Unit⊕Bool)) last f=some (if chk last f then .inl () else .inr false)
 | [],last=>by simp [zW,chk]
 | j::r,last=>by
  cases h:sZ last j
  ·rw [VL (s':=j.At) (by simp [h])];rw [aB2 r j.At];simp [chk,h]
  ·rw [WZ (x:=.inr false) (by simp [h])];simp [chk,h]

theorem WQ (f:List aM):sC f=some (gJ f):=by
 unfold sC gJ;by_cases hl:f.length<=1024
 ·have h1:decide ((1024:Int)<((f.length:Nat):Int))=false:=by simp; omega
  rw [h1,cond_false];unfold HD
  have key:=aBq (l:=f) (body:=fun s:Int×Int=>oW f (f.length:Nat) s.1 s.2) (fun last i=>(last,i)) _ _
   (fun i a s ha=>by
    constructor
    ·intro s' hs;show oW f (f.length:Nat) s i=_;rw [aCv ha (by omega)];split at hs <;> simp_all
    ·intro x hs;show oW f (f.length:Nat) s i=_;rw [aCv ha (by omega)];split at hs <;> simp_all)
   (fun s=>by show oW f (f.length:Nat) s (f.length:Nat)=_; simp only [oW,eP,cond_false]) (aB2 f (-2))
  rw [key]
  cases h:chk (-2) f <;> simp [DB,hl]
 ·have h1:decide ((1024:Int)<((f.length:Nat):Int))=true:=by simp; omega
  rw [h1,cond_true];simp [hl]

theorem oB {last:Int}{j:aM}:sZ last j=false↔last<j.At/\j.At<1125899906842624/\j.Net≠0/\j.Net<=1048576 /\ -1048576<=j.Net:=by
 simp [sZ,RR];omega

def vH (last:Int):List aM->Prop
 | []=>True
 | j::r=>(last<j.At/\j.At<1125899906842624/\j.Net≠0/\j.Net<=1048576 /\ -1048576<=j.Net)/\vH j.At r

theorem aDs:∀ {f:List aM} {last:Int},chk last f=true↔vH last f
 | [],last=>by simp [chk,vH]
 | j::r,last=>by simp [chk,vH,oB,aDs]

theorem mQ {f:List aM}:gJ f=true↔f.length<=1024/\vH (-2) f:=by simp [gJ,aDs]

theorem vH.above:∀ {f:List aM} {last:Int},vH last f -> ∀ j∈f,last<j.At/\j.At<1125899906842624/\j.Net≠0/\j.Net<=1048576 /\ -1048576<=j.Net
 | [],_,_,j,hj=>by simp at hj
 | a::r,last,h,j,hj=>by
  rcases List.mem_cons.1 hj with rfl | hj
  ·exact h.1
  ·have:=h.2.above j hj;have h1:=h.1.1;exact⟨by omega,this.2⟩

def val (f:List aM)(t:Int):Int:=(f.map fun j=>if j.At<=t then j.Net else 0).sum

theorem aDH (t:Int):val [] t=0:=rfl

theorem mY (j:aM)(r:List aM)(t:Int):val (j::r) t=(if j.At<=t then j.Net else 0)+val r t:=by simp [val]

theorem QY:∀ {f:List aM} {b:Int} (t:Int),0<=b->(∀ j∈f,j.Net<=b /\ -b<=j.Net)->val f t<=b*f.length /\ -(b*f.length)<=val f t
 | [],b,t,_,_=>by simp [val]
 | j::r,b,t,hb,h=>by
  obtain⟨h1,h2⟩:=QY t hb (fun k hk=>h k (List.mem_cons_of_mem _ hk));have h3:=h j (List.mem_cons_self ..);rw [mY];simp only [List.length_cons,Int.natCast_add,Int.natCast_one,Int.mul_add,Int.mul_one];split <;> omega

theorem EO {f:List aM}{t:Int}(h:∀ j∈f,t<j.At):val f t=0:=by
 induction f with
 | nil=>rfl
 | cons j r ih =>
  rw [mY,ih (fun k hk=>h k (List.mem_cons_of_mem _ hk))];have:=h j (List.mem_cons_self ..);rw [if_neg (by omega)]; rfl

theorem aDv {f:List aM}{i:Nat}{a:aM}{t v:Int}(ha:f[i]?=some a)(hl:f.length<4611686018427387904) :
  qR t f (f.length:Nat) v i=some (if t<a.At then .inr v else .inl (IntKind.i64.wrap (v+a.Net),((i+1:Nat):Int))):=by
 obtain⟨d1,d2,d3,d4⟩:=idx ha hl;simp only [qR,d1,cond_true,aO d2,d3,d4];by_cases h:t<a.At <;> simp [h]

theorem aHx {t:Int}(f:List aM):∀ (last v:Int),vH last f->v<=1048576*(2048-f.length) -> -(1048576*(2048-f.length))<=v->f.length<=1024 ->
  zW (fun v (j:aM)=>some (if t<j.At then .inr v else .inl (IntKind.i64.wrap (v+j.Net)))) (fun v=>(v:Int)) v f=some (v+val f t):=by
 induction f with
 | nil=>intro last v _ _ _ _; simp [zW,val]
 | cons j r ih =>
  intro last v h h1 h2 hl;simp only [List.length_cons] at h1 h2 hl;by_cases hj:t<j.At
  ·rw [WZ (x:=v) (by simp [hj])]
   rw [EO (fun k hk=>by
    rcases List.mem_cons.1 hk with rfl | hk
    ·exact hj
    ·have:=(h.2.above k hk).1; omega)]
   simp
  ·have hj1:=h.1;have hw:IntKind.i64.wrap (v+j.Net)=v+j.Net:=cO (by omega) (by omega);rw [VL (s':=v+j.Net) (by simp [hj,hw])];rw [ih j.At (v+j.Net) h.2 (by omega) (by omega) (by omega),mY,if_pos (by omega)]
   congr 1
   omega

theorem aDY (f:List aM)(t:Int):EM f t=some (if gJ f then val f t else 0):=by
 unfold EM;rw [WQ];simp only [Option.bind_some]
 cases h:gJ f
 ·simp
 ·obtain⟨hl,hr⟩:=mQ.1 h;simp only [Bool.not_true,cond_false,if_true];unfold IM
  have key:=aBq (l:=f) (body:=fun s:Int×Int=>qR t f (f.length:Nat) s.1 s.2) (fun v i=>(v,i)) _ _
   (fun i a s ha=>by
    constructor
    ·intro s' hs;show qR t f (f.length:Nat) s i=_;rw [aDv ha (by omega)];split at hs <;> simp_all
    ·intro x hs;show qR t f (f.length:Nat) s i=_;rw [aDv ha (by omega)];split at hs <;> simp_all)
   (fun s=>by show qR t f (f.length:Nat) s (f.length:Nat)=_; simp only [qR,eP,cond_false]) (aHx (t:=t) f (-2) 0 hr (by omega) (by omega) hl)
  rw [key];simp [CB]

end Go.Abs
namespace Go.Abs
open Go
section both
variable {op:Int->Int->Option Int} {f g r:List aM} {out:List aM} {a b was t:Int} {j:aM}
end both
def emit (p v was:Int):List aM:=if v=was then [] else [⟨p,v-was⟩]

def aG7 (was:Int):List (Int×Int)->List aM
 | []=>[]
 | x::r=>emit x.1 x.2 was++aG7 x.2 r

def merge (f g:List aM)(a b:Int):List (Int×Int×Int) :=
 match f,g with
 | [],[]=>[]
 | j::f,[]=>(j.At,a+j.Net,b)::merge f [] (a+j.Net) b
 | [],k::g=>(k.At,a,b+k.Net)::merge [] g a (b+k.Net)
 | j::f,k::g =>
  if j.At<k.At then (j.At,a+j.Net,b)::merge f (k::g) (a+j.Net) b
  else if k.At<j.At then (k.At,a,b+k.Net)::merge (j::f) g a (b+k.Net)
  else (j.At,a+j.Net,b+k.Net)::merge f g (a+j.Net) (b+k.Net)

termination_by f.length+g.length
end Go.Abs
namespace Go.Abs
open Go
def comb (OP:Int->Int->Int)(f g:List aM):List aM:=aG7 0 ((merge f g 0 0).map fun x=>(x.1,OP x.2.1 x.2.2))

def told (f:List aM):List aM×Int:=if gJ f then (f,0) else ([],7)

def two (OP:Int->Int->Int)(f g:List aM):List aM×Int:=if gJ f&&gJ g then told (comb OP f g) else ([],2)

end Go.Abs
namespace Go.Abs
open Go
theorem vH.aGS {l t:Int}{f:List aM}(h:vH l f)(ht:t<=l):val f t=0:=EO fun j hj=>by have:=(h.above j hj).1; omega

end Go.Abs
namespace Go.Abs
open Go
def DJ (f:List aM):Nat->Int
 | 0 => -2
 | k+1=>(f.getD k default).At

theorem aCM {f:List aM}{i:Nat}{a:aM}{last:Int}(ha:f[i]?=some a)(hl:f.length<=1024)(hlast:last=DJ f i)(hp : -2<=last)(hp':0<i -> -1<=last) :
  nY f i=some (if sZ last a then .inr (.inr false) else .inl ((i+1:Nat):Int)):=by
 obtain⟨d1,d2,d3,d4⟩:=idx ha (by omega);have hlt:i<f.length:=(List.getElem?_eq_some_iff.1 ha).1;simp only [nY,d1,cond_true,d3,d4];rw [aO d2,aO (fun _=>d2),aO (fun _=>d2),aO (fun _=>d2),aO (fun _=>d2),aO (fun _=>d2)]
 cases i with
 | zero =>
  rw [aO (fun h=>by simp at h)];have hm2:last = -2:=hlast;subst hm2;by_cases hb:sZ (-2) a=true
  ·rw [if_pos hb]
   have hx:(((((decide (a.At < -1))||(decide (1125899906842624<=a.At)))||(decide (a.Net=0)))||(decide (1048576<a.Net)))||(decide (a.Net < -1048576)))=true:=by
    simp [sZ,RR] at hb ⊢; omega
   rw [hx,cond_true]
  ·have hb':sZ (-2) a=false:=by simpa using hb
   rw [if_neg hb];rw [oB] at hb'
   have hx:(((((decide (a.At < -1))||(decide (1125899906842624<=a.At)))||(decide (a.Net=0)))||(decide (1048576<a.Net)))||(decide (a.Net < -1048576)))=false:=by
    simp; omega
   rw [hx,cond_false];simp
 | succ k =>
  have hw:IntKind.i64.wrap (((k+1:Nat):Int)-1)=(k:Int):=by rw [cO (by omega) (by omega)]; omega
  have hg:List.getD f (Int.toNat (k:Int)) default=f.getD k default:=by rw [Int.toNat_natCast]
  rw [hw,hg,aO (fun _=>⟨by omega,by omega⟩)];have hpos:decide ((0:Int)<((k+1:Nat):Int))=true:=by simp
  have hp1:=hp' (by omega);have hl2:(f.getD k default).At=last:=hlast.symm;rw [hpos,Bool.true_and,hl2];by_cases hb:sZ last a=true
  ·rw [if_pos hb];by_cases hx:(((((decide (a.At < -1))||(decide (1125899906842624<=a.At)))||(decide (a.Net=0)))||(decide (1048576<a.Net)))||(decide (a.Net < -1048576)))=true
   ·rw [hx,cond_true]
   ·have hx':(((((decide (a.At < -1))||(decide (1125899906842624<=a.At)))||(decide (a.Net=0)))||(decide (1048576<a.Net)))||(decide (a.Net < -1048576)))=false:=by simpa using hx
    have hy:decide (a.At<=last)=true:=by
     simp [sZ,RR] at hb hx' ⊢; omega
    rw [hx',cond_false,hy,cond_true]
  ·have hb':sZ last a=false:=by simpa using hb
   rw [if_neg hb];rw [oB] at hb'
   have hx:(((((decide (a.At < -1))||(decide (1125899906842624<=a.At)))||(decide (a.Net=0)))||(decide (1048576<a.Net)))||(decide (a.Net < -1048576)))=false:=by
    simp; omega
   have hy:decide (a.At<=last)=false:=by simp; omega
   rw [hx,cond_false,hy,cond_false]

theorem ZG {f:List aM}(hl:f.length<=1024):∀ (m k:Nat),f.length-k=m->k<=f.length -> -2<=DJ f k->(0<k -> -1<=DJ f k)->lp (fun s=>nY f s) (k:Int)=some (if chk (DJ f k) (f.drop k)=true then .inl () else .inr false)
 | 0,k,hm,hk,_,_=>by
  have : k=f.length:=by omega
  subst this;rw [List.drop_length];refine cZ ?_;show nY f _=_;simp [nY,chk]
 | m+1,k,hm,hk,hp,hp'=>by
  have h1:k<f.length:=by omega
  have hb:=aCM (List.getElem?_eq_getElem h1) hl rfl hp hp';have e1:f.drop k=f[k]::f.drop (k+1):=List.drop_eq_getElem_cons h1;have hpa:DJ f (k+1)=f[k].At:=by simp [DJ,List.getD_eq_getElem?_getD,h1]
  rw [e1];by_cases h:sZ (DJ f k) f[k]=true
  ·rw [if_pos h] at hb;rw [cZ (show (fun s=>nY f s) (k:Int)=_ from hb)];simp [chk,h]
  ·rw [if_neg h] at hb;have h':sZ (DJ f k) f[k]=false:=by simpa using h
   have:=oB.1 h';rw [eT (show (fun s=>nY f s) (k:Int)=_ from hb),ZG hl m (k+1) (by omega) (by omega) (by rw [hpa]; omega) (fun _=>by rw [hpa]; omega),hpa];simp [chk,h']

theorem ZS (f:List aM):vI f=some (gJ f):=by
 unfold vI gJ;by_cases hl:f.length<=1024
 ·have h1:decide ((1024:Int)<((f.length:Nat):Int))=false:=by simp; omega
  rw [h1,cond_false];unfold FP;have:=ZG hl f.length 0 rfl (Nat.zero_le _) (by simp [DJ]) (by omega);simp only [Int.natCast_zero,List.drop_zero,DJ] at this;rw [this]
  cases h:chk (-2) f <;> simp [AN,hl]
 ·have h1:decide ((1024:Int)<((f.length:Nat):Int))=true:=by simp; omega
  rw [h1,cond_true];simp [hl]

end Go.Abs
namespace Go.Abs
open Go
def aIM (f:List aM):Int:=(f.map aM.Net).sum

def aGH (t:Int):List aM->List aM
 | []=>[]
 | j::r=>if t<=j.At then [] else j::aGH t r

def aft (t:Int):List aM->List aM
 | []=>[]
 | j::r=>if t<=j.At then j::r else aft t r

end Go.Abs
namespace Go.Abs
open Go
def aIR (t:Int)(f:List aM):List aM:=(if aIM (aGH t f)=0 then [] else [⟨-1,aIM (aGH t f)⟩])++aft t f

def rest (f:List aM)(t:Int):List aM×Int :=
 if gJ f then (if 1125899906842624<=t then ([],0) else if t <= -1 then (f,0) else told (aIR t f)) else ([],2)

end Go.Abs
namespace Go.Abs
open Go
def Inc (last:Int):List Int->Prop
 | []=>True
 | p::r=>(last<p/\p<1125899906842624)/\Inc p r

theorem Inc.above:∀ {ps:List Int} {last:Int},Inc last ps -> ∀ p∈ps,last<p/\p<1125899906842624
 | [],_,_,j,hj=>by simp at hj
 | a::r,last,h,j,hj=>by
  rcases List.mem_cons.1 hj with rfl | hj
  ·exact h.1
  ·have:=h.2.above j hj;have h1:=h.1.1;exact⟨by omega,this.2⟩

end Go.Abs
namespace Go.Abs
open Go
theorem aCK {f:List aM}(t:Int)(hb:∀ j∈f,j.Net<=1048576 /\ -1048576<=j.Net)(hl:f.length<=1099511627776):nI f t=some (val f t):=by
 unfold nI BP
 rw [jY (l:=f) (body:=fun s:Int×Int=>lW f t s.1 s.2) (fun v i=>(v,i)) (fun v r=>v+val r t)
  (fun v r=>(∀ j∈r,j.Net<=1048576 /\ -1048576<=j.Net)/\r.length<=1099511627776/\v<=1048576*(1099511627776-r.length) /\ -(1048576*(1099511627776-r.length))<=v) 0 ?_ ?_ ?_]
 ·simp [wV]
 ·intro i a r v ha ⟨h1,h2,h3,h4⟩;obtain⟨d1,d2,d3,d4⟩:=idx ha (by omega);have hj:=h1 a (List.mem_cons_self ..);simp only [List.length_cons] at h2 h3 h4;left;by_cases h:a.At<=t
  ·refine⟨v+a.Net,?_,⟨fun j hj=>h1 j (List.mem_cons_of_mem _ hj),by omega,by omega,by omega⟩,?_⟩
   ·show lW f t v i=_;have hw:IntKind.i64.wrap (v+a.Net)=v+a.Net:=cO (by omega) (by omega);simp only [lW,sV,d1,cond_true,aO d2,d3,d4,h,decide_true,hw]
   ·show v+a.Net+val r t=v+val (a::r) t;rw [mY,if_pos h]; omega
  ·refine⟨v,?_,⟨fun j hj=>h1 j (List.mem_cons_of_mem _ hj),by omega,by omega,by omega⟩,?_⟩
   ·show lW f t v i=_;simp only [lW,sV,d1,cond_true,aO d2,d3,d4,h,decide_false,cond_false]
   ·show v+val r t=v+val (a::r) t;rw [mY,if_neg h]; omega
 ·intro s _;show lW f t s (f.length:Nat)=_;simp only [lW,eP,cond_false];simp [val]
 ·exact⟨hb,hl,by omega,by omega⟩

theorem UG {f:List aM}(h:gJ f=true):∀ j∈f,j.Net<=1048576 /\ -1048576<=j.Net:=fun j hj=>by have:=(mQ.1 h).2.above j hj; omega

theorem BI {f:List aM}(h:gJ f=true)(t:Int):nI f t=some (val f t) :=
 aCK t (UG h) (by have:=(mQ.1 h).1; omega)

def iA (t:Int):List Int->List Int
 | []=>[t]
 | p::r=>if p=t then p::r else if t<p then t::p::r else p::iA t r

theorem QA {t x:Int}:∀ {ps:List Int},x∈iA t ps↔x=t∨x∈ps
 | []=>by simp [iA]
 | p::r=>by
  unfold iA;split
  ·rename_i h; subst h; simp
  ·split
   ·simp
   ·simp only [List.mem_cons,QA (ps:=r)]; constructor <;> (intro h; rcases h with h | h | h <;> simp [h])

theorem xH {t:Int}:∀ {ps:List Int} {last:Int},Inc last ps->last<t->t<1125899906842624->Inc last (iA t ps)
 | [],last,_,h1,h2=>⟨⟨h1,h2⟩,trivial⟩
 | p::r,last,h,h1,h2=>by
  unfold iA;split
  ·exact h
  ·split
   ·rename_i h3 h4
    exact⟨⟨h1,h2⟩,⟨h4,h.1.2⟩,h.2⟩
   ·exact⟨h.1,xH h.2 (by omega) h2⟩

theorem ER {t:Int}:∀ {ps:List Int},(iA t ps).length<=ps.length+1
 | []=>by simp [iA]
 | p::r=>by
  unfold iA;split
  ·simp
  ·split
   ·simp
   ·simp only [List.length_cons]; have:=ER (t:=t) (ps:=r); omega

theorem QJ {t:Int}:∀ {ps:List Int},(∀ x∈ps,x<t)->iA t ps=ps++[t]
 | [],_=>rfl
 | p::r,h=>by
  have:=h p (List.mem_cons_self ..);unfold iA;rw [if_neg (by omega),if_neg (by omega),QJ (fun x hx=>h x (List.mem_cons_of_mem _ hx))]; rfl

theorem IK {t:Int}:∀ {ps:List Int} {last:Int},Inc last ps->t∈ps->iA t ps=ps
 | [],_,_,h=>by simp at h
 | p::r,last,hi,h=>by
  unfold iA;split
  ·rfl
  ·rename_i hp
   rcases List.mem_cons.1 h with h | h
   ·exact absurd h.symm hp
   ·have:=(hi.2.above t h).1;rw [if_neg (by omega),IK hi.2 h]

theorem aFq {l out:List Int}{t a:Int}{put:Bool}{i:Nat}(ha:l[i]?=some a)(hl:l.length<=1099511627776)(ho:out.length<=2199023255552) :
  kZ l t out put i=some (if a=t then .inr (.inr l) else if t<a/\put=false then .inl (out++[t]++[a],true,((i+1:Nat):Int)) else .inl (out++[a],put,((i+1:Nat):Int))):=by
 obtain⟨d1,d2,d3,d4⟩:=idx ha (by omega);simp only [kZ,yQ,d1,cond_true,aO d2,d3,d4];by_cases h1:a=t
 ·simp [h1]
 ·rw [decide_eq_false h1,cond_false,if_neg h1];by_cases h2:t<a
  ·cases put
   ·simp only [h2,decide_true,Bool.not_false,Bool.and_self,cond_true,and_self,if_true];rw [aO (by simp only [List.length_cons,List.length_nil]; omega),aO (by simp only [List.length_append,List.length_cons,List.length_nil]; omega)]
   ·simp only [h2,decide_true,Bool.not_true,Bool.and_false,cond_false,and_false,if_false,reduceCtorEq];rw [aO (by simp only [List.length_cons,List.length_nil]; omega)]
  ·simp only [h2,decide_false,Bool.false_and,cond_false,false_and,if_false];rw [aO (by simp only [List.length_cons,List.length_nil]; omega)]

theorem XP {l:List Int}{last t:Int}(hi:Inc last l)(hl:l.length<=1099511627776):tP l t=some (iA t l):=by
 unfold tP DT
 rw [jY (l:=l) (body:=fun s:List Int×Bool×Int=>kZ l t s.1 s.2.1 s.2.2) (fun (s:List Int×Bool) i=>(s.1,s.2,i))
  (fun s r=>if s.2 then .inl (s.1++r,true) else if t∈r then .inr l else if (∃ x∈r,t<x) then .inl (s.1++iA t r,true) else .inl (s.1++r,false))
  (fun s r=>(∃ m,Inc m r)/\(s.2=true -> ∀ x∈r,t<x)/\r.length<=1099511627776/\s.1.length+r.length<=1099511627777+(if s.2 then 1 else 0)) ([],false) ?_ ?_ ?_]
 ·simp only [Bool.false_eq_true,if_false,List.nil_append,Option.bind_some];by_cases h1:t∈l
  ·simp [h1,IK hi h1]
  ·simp only [h1,if_false];by_cases h2:∃ x∈l,t<x
   ·simp only [h2,if_true];simp [uJ,uE]
   ·simp only [h2,if_false]
    have : ∀ x∈l,x<t:=fun x hx=>by
     have h3:¬ t<x:=fun h=>h2 ⟨x,hx,h⟩;have h4:x≠t:=fun h=>h1 (h ▸ hx);omega
    rw [QJ this];simp only [Sum.elim_inl,uJ,uE,Bool.not_false,cond_true];rw [aO (by simp only [List.length_cons,List.length_nil]; omega)]
 ·rintro i a r ⟨out,put⟩ ha ⟨⟨m,hm⟩,h1,h2,h3⟩;simp only [List.length_cons] at h2 h3;have hb:=aFq (t:=t) (put:=put) (out:=out) ha hl (by split at h3 <;> omega);have hab:∀ x∈r,a<x:=fun x hx=>(hm.2.above x hx).1
  cases put
  ·by_cases e:a=t
   ·right;show kZ l t out false i=_;rw [hb]; simp [e]
   ·left;by_cases e2:t<a
    ·have hnt:t ∉ a::r:=fun h=>by
      rcases List.mem_cons.1 h with h | h
      ·exact e h.symm
      ·have:=hab t h; omega
     refine⟨(out++[t]++[a],true),?_,⟨⟨a,hm.2⟩,fun _ x hx=>by have:=hab x hx; omega,by omega,by simp only [List.length_append,List.length_cons,List.length_nil,Bool.false_eq_true,if_false,if_true] at h3 ⊢; omega⟩,?_⟩
     ·show kZ l t out false i=_;rw [hb]; simp [e,e2]
     ·have hex:∃ x∈a::r,t<x:=⟨a,List.mem_cons_self ..,e2⟩;simp only [if_true,Bool.false_eq_true,if_false,hnt,hex];simp [iA,e,e2]
    ·refine⟨(out++[a],false),?_,⟨⟨a,hm.2⟩,fun h=>absurd h (by simp),by omega,by simp only [List.length_append,List.length_cons,List.length_nil,Bool.false_eq_true,if_false] at h3 ⊢; omega⟩,?_⟩
     ·show kZ l t out false i=_;rw [hb]; simp [e,e2]
     ·have i1:(t∈a::r)↔t∈r:=by simp only [List.mem_cons]; constructor; (intro h; rcases h with h | h; exact absurd h.symm e; exact h); exact Or.inr
      have i2:(∃ x∈a::r,t<x)↔(∃ x∈r,t<x):=by
       constructor
       ·rintro ⟨x,hx,hx'⟩;rcases List.mem_cons.1 hx with rfl | hx
        ·exact absurd hx' e2
        ·exact⟨x,hx,hx'⟩
       ·rintro ⟨x,hx,hx'⟩; exact ⟨x,List.mem_cons_of_mem _ hx,hx'⟩
      simp only [Bool.false_eq_true,if_false,i1,i2];simp [iA,e,e2]
  ·left;have ht:=h1 rfl a (List.mem_cons_self ..);refine⟨(out++[a],true),?_,⟨⟨a,hm.2⟩,fun _ x hx=>h1 rfl x (List.mem_cons_of_mem _ hx),by omega,by simp only [List.length_append,List.length_cons,List.length_nil,if_true] at h3 ⊢; omega⟩,?_⟩
   ·show kZ l t out true i=_;have : a≠t:=by omega
    rw [hb]; simp [this]
   ·simp
 ·rintro ⟨out,put⟩ _;show kZ l t out put (l.length:Nat)=_;simp only [kZ,eP,cond_false]
  cases put <;> simp
 ·exact⟨⟨last,hi⟩,fun h=>absurd h (by simp),hl,by simp only [List.length_nil]; simp; omega⟩

end Go.Abs
namespace Go.Abs
open Go
def mn (a b:Int):Int:=if b<a then b else a

def parts (v:Int):List aM->List Int
 | []=>[]
 | j::r=>(v+j.Net)::parts (v+j.Net) r

def AV (f:List aM):Int:=(f.map fun j=>val f j.At).foldl mn (val f (-1))

theorem parts_eq:∀ {f:List aM} {l v:Int},vH l f->parts v f=f.map fun j=>v+val f j.At
 | [],_,_,_=>rfl
 | j::r,l,v,h=>by
  simp only [parts,List.map_cons];rw [parts_eq h.2,mY,if_pos (Int.le_refl _),h.2.aGS (Int.le_refl _),Int.add_zero]
  congr 1
  apply List.map_congr_left;intro k hk;have:=(h.2.above k hk).1;rw [mY,if_pos (by omega)]; omega

theorem aFM {j:aM}{r:List aM}(h:vH (-2) (j::r)):val (j::r) (-1)=if j.At = -1 then j.Net else 0:=by
 have:=h.1.1;by_cases e:j.At = -1
 ·rw [if_pos e,mY,if_pos (by omega),h.2.aGS (by omega)]; omega
 ·rw [if_neg e,EO];intro k hk;rcases List.mem_cons.1 hk with rfl | hk
  ·omega
  ·have:=(h.2.above k hk).1; omega

theorem VJ {f:List aM}(hf:gJ f=true)(m:Int)(hm : -1125899906842624<=m/\m<=1125899906842624):zE 0 m f (f.length:Nat) 0=some ((f.map fun j=>val f j.At).foldl mn m):=by
 obtain⟨hl,hr⟩:=mQ.1 hf;unfold zE
 rw [jY (l:=f) (body:=fun s:Int×Int×Int=>pU f (f.length:Nat) s.1 s.2.1 s.2.2) (fun (s:Int×Int) i=>(s.1,s.2,i)) (fun s r=>(parts s.1 r).foldl mn s.2)
  (fun s r=>(∀ j∈r,j.Net<=1048576 /\ -1048576<=j.Net)/\r.length<=1024/\s.1<=1048576*(1024-r.length) /\ -(1048576*(1024-r.length))<=s.1) (0,m) ?_ ?_ ?_]
 ·simp only [Option.bind_some,yG,parts_eq hr,Int.zero_add]
 ·rintro i a r ⟨v,m⟩ ha ⟨h1,h2,h3,h4⟩;obtain⟨d1,d2,d3,d4⟩:=idx ha (by omega);have hj:=h1 a (List.mem_cons_self ..);simp only [List.length_cons] at h2 h3 h4;have hw:IntKind.i64.wrap (v+a.Net)=v+a.Net:=cO (by omega) (by omega);left;refine⟨(v+a.Net,mn m (v+a.Net)),?_,⟨fun j hj=>h1 j (List.mem_cons_of_mem _ hj),by omega,by simp only; omega,by simp only; omega⟩,rfl⟩;show pU f (f.length:Nat) v m i=_;simp only [pU,d1,cond_true,aO d2,d3,d4,hw,mn]
 ·rintro ⟨v,m⟩ _;show pU f (f.length:Nat) v m (f.length:Nat)=_;simp only [pU,eP,cond_false,parts,List.foldl_nil]
 ·exact⟨UG hf,hl,by simp only; omega,by simp only; omega⟩

theorem aGY (f:List aM):BB f=some (if gJ f then AV f else 0):=by
 unfold BB;rw [WQ]
 cases h:gJ f
 ·simp
 ·cases f with
  | nil=>simp [AV,val]
  | cons j r =>
   obtain⟨hl,hr⟩:=mQ.1 h;have hne:decide (((List.length (j::r):Nat):Int)=0)=false:=by simp; omega
   simp only [Option.bind_some,Bool.not_true,Bool.false_or,hne,cond_false,aO aI7,aId,if_true];have hj:=hr.1;unfold AV;rw [aFM hr];by_cases e:j.At = -1
   ·simp only [e,decide_true,cond_true,if_true,uC];exact VJ h j.Net (by omega)
   ·simp only [e,decide_false,cond_false,if_false,uC];exact VJ h 0 (by omega)

theorem aDe (f:List aM):yX f=some (if gJ f then AV f else 0):=by
 unfold yX;rw [ZS]
 cases h:gJ f
 ·simp
 ·obtain⟨hl,hr⟩:=mQ.1 h;simp only [Option.bind_some,Bool.not_true,cond_false,BI h,if_true,BX];rw [jY (l:=f) (body:=fun s:Int×Int=>oK f s.1 s.2) (fun m i=>(m,i)) (fun m r=>(r.map fun j=>val f j.At).foldl mn m) (fun _ _=>True) (val f (-1)) ?_ ?_ trivial]
  ·simp [vU,AV]
  ·rintro i a r m ha _;obtain⟨d1,d2,d3,d4⟩:=idx ha (by omega);left;refine⟨mn m (val f a.At),?_,trivial,rfl⟩;show oK f m i=_;simp only [oK,wS,d1,cond_true,aO d2,d3,d4,BI h,Option.bind_some,mn];by_cases e:val f a.At<m <;> simp [e]
  ·intro m _;show oK f m (f.length:Nat)=_;simp only [oK,eP,cond_false,List.map_nil,List.foldl_nil]

theorem aHv:gJ []=true:=by decide

end Go.Abs
namespace Go.Abs
open Go
theorem w1:IntKind.i64.wrap (0+1)=1:=by rw [cO] <;> omega

theorem w2:IntKind.i64.wrap (1+1)=2:=by rw [cO] <;> omega

theorem w3:IntKind.i64.wrap (1-1)=0:=by rw [cO] <;> omega

theorem v0:IntKind.i64.wrap 0=0:=by rw [cO] <;> omega

theorem v1:IntKind.i64.wrap 1=1:=by rw [cO] <;> omega

theorem v2:IntKind.i64.wrap 2=2:=by rw [cO] <;> omega

theorem v3:IntKind.i64.wrap (-1) = -1:=by rw [cO] <;> omega

end Go.Abs
namespace Go.Abs
open Go
variable {α:Type} [Inhabited α]
noncomputable def sU (f1:α->Option Bool)(s0:(List α))(t7:Int)(t8:Int):Option ((Int)⊕(Unit⊕Int)) :=
 cond (decide (t8<t7))
 (bG (0<=t8/\t8<((List.length s0:Nat):Int)) <|
 (f1 (List.getD s0 (Int.toNat t8) default)).bind fun x2 =>
 cond x2
 (some (.inr (.inr t8)))
 (some (.inl (IntKind.i64.wrap (t8+(1:Int))))))
 (some (.inr (.inl ())))

theorem aCB {l:List α}{f:α->Option Bool}{g:α->Bool}(hl:l.length<=1099511627776)(hf:∀ x∈l,f x=some (g x)):∀ (r:List α) (k:Nat),l.drop k=r->k<=l.length ->
  ∃ x,lp (fun s=>sU f l (l.length:Nat) s) (k:Int)=some x/\((x=.inl ()/\r.any g=false)∨(∃ i:Nat,x=.inr (i:Int)/\k<=i/\i<l.length/\r.any g=true/\g (l.getD i default)=true /\ ∀ j,k<=j->j<i->g (l.getD j default)=false))
 | [],k,hd,hk=>by
  have : k=l.length:=by
   have:=congrArg List.length hd;simp only [List.length_drop,List.length_nil] at this; omega
  subst this;refine⟨.inl (),cZ ?_,Or.inl ⟨rfl,rfl⟩⟩;show sU f l _ _=_;simp only [sU,eP,cond_false]
 | a::r,k,hd,hk=>by
  obtain⟨h1,h2⟩:=drop_cons hd;have hlt:k<l.length:=(List.getElem?_eq_some_iff.1 h1).1;obtain⟨d1,d2,d3,d4⟩:=idx h1 (by omega);have hga:l.getD k default=a:=by rw [Int.toNat_natCast] at d3; exact d3
  have hb:(fun s=>sU f l (l.length:Nat) s) (k:Int)=some (if g a then .inr (.inr (k:Int)) else .inl ((k+1:Nat):Int)):=by
   show sU f l _ _=_;simp only [sU,d1,cond_true,aO d2,d3,d4,hf a (List.mem_of_getElem? h1),Option.bind_some]
   cases g a <;> simp
  cases hg:g a
  ·rw [hg] at hb;obtain⟨x,e,hx⟩:=aCB hl hf r (k+1) h2 (by omega);refine⟨x,by rw [eT hb]; exact e,?_⟩;rcases hx with ⟨rfl,h⟩ | ⟨i,rfl,h3,h4,h5,h6,h7⟩
   ·exact Or.inl ⟨rfl,by simp [hg,h]⟩
   ·refine Or.inr ⟨i,rfl,by omega,h4,by simp [h5],h6,fun j hj hj'=>?_⟩;by_cases e:j=k
    ·subst e; rw [hga,hg]
    ·exact h7 j (by omega) hj'
  ·rw [hg] at hb;exact⟨.inr (k:Int),cZ hb,Or.inr ⟨k,rfl,Nat.le_refl _,hlt,by simp [hg],by rw [hga,hg],fun j h h'=>by omega⟩⟩

end Go.Abs
namespace Go.Abs
open Go
theorem ZR (x y:ByteArray):qT x y=decide (x=y):=by
 unfold qT;rw [ByteArray.toList_eq,ByteArray.toList_eq];by_cases h:x=y
 ·simp [h]
 ·have : x.data.toList≠y.data.toList:=by
   intro he;apply h
   cases x; cases y
   congr 1
   exact Array.toList_inj.1 he
  have h2:(x.data.toList==y.data.toList)=false:=by simpa using this
  rw [h2]; simp [h]

theorem veq (a b:aH):((decide (a.Kind=b.Kind))&&((decide (a.Num=b.Num))&&((qT a.Text b.Text)&&true)))=decide (a=b):=by
 rw [ZR];obtain⟨a1,a2,a3⟩:=a;obtain⟨b1,b2,b3⟩:=b;by_cases h1:a1=b1 <;> by_cases h2:a2=b2 <;> by_cases h3:a3=b3 <;> simp [h1,h2,h3]

def LW (v:aH):Bool:=decide (v.Kind=1)&&qT v.Text (⟨#[]⟩:ByteArray)

def KQ (v:aH):Bool:=((decide (v.Kind=2))&&(decide (v.Num=0)))&&(decide (((ByteArray.size v.Text:Nat):Int)<=64))

def xV (v:aH):Bool:=LW v||KQ v

def mB (r:List aH):Bool:=decide (r.length<=8)&&r.all xV

theorem of_eq (v:aH):oD v=some (if LW v then (.k_number v.Num,true) else if KQ v then (.k_words v.Text,true) else (.none_,false)):=by
 unfold oD LW KQ
 cases (decide (v.Kind=1)&&qT v.Text (⟨#[]⟩:ByteArray)) <;> cases (((decide (v.Kind=2))&&(decide (v.Num=0)))&&(decide (((ByteArray.size v.Text:Nat):Int)<=64))) <;> rfl

theorem aHT (v:aH):DG v=some (xV v):=by
 unfold DG xV;rw [of_eq]
 cases LW v <;> cases KQ v <;> rfl

theorem WV (v:aH):vK v=some (xV v):=by
 unfold vK xV LW KQ;by_cases h:v.Kind=1
 ·simp [h]
 ·simp [h]

theorem aBW {l:List aH}{f:aH->Option Bool}{g:aH->Bool}(hl:l.length<=1099511627776)(hf:∀ x∈l,f x=some (g x)):gK l f=some (l.any g):=by
 unfold gK kA jR;obtain⟨x,e,hx⟩:=aCB hl hf l 0 rfl (Nat.zero_le _);have e':lp (fun s=>jQ f l (l.length:Nat) s) 0=some x:=e;rw [e'];rcases hx with ⟨rfl,h⟩ | ⟨i,rfl,_,_,h,_⟩
 ·simp [hU,h]
 ·simp [h]

theorem YS (r:List aH):AZ r=some (mB r):=by
 unfold AZ mB;by_cases h:r.length<=8
 ·have h1:decide ((8:Int)<((r.length:Nat):Int))=false:=by simp; omega
  rw [h1,cond_false,aBW (g:=fun v => !xV v) (by omega) (fun x _=>by simp [CV,aHT])];simp only [Option.bind_some,h,decide_true,Bool.true_and]
  congr 1
  rw [List.all_eq_not_any_not]
 ·have h1:decide ((8:Int)<((r.length:Nat):Int))=true:=by simp; omega
  rw [h1,cond_true];simp [h]

theorem NJ (r:List aH)(hl:r.length<=1099511627776*16):vF r=some (mB r):=by
 unfold vF EU;have hl9:(r.take 9).length<=9:=by simp; omega
 rw [JX (l:=r.take 9) (fun i=>i) (fun v => !xV v) (.inr false) (.inl ()) ?_ ?_]
 ·unfold mB;by_cases h:r.length<=8
  ·have ht:r.take 9=r:=List.take_of_length_le (by omega);rw [ht,List.all_eq_not_any_not]
   cases h1:(r.any fun v => !xV v)
   ·have : ((r.length:Nat):Int)<=8:=by omega
    simp [vX,this,h]
   ·simp
  ·cases h1:((r.take 9).any fun v => !xV v)
   ·have : ¬ ((r.length:Nat):Int)<=8:=by omega
    simp [vX,this,h]
   ·simp [h]
 ·intro i a ha;have hi:i<(r.take 9).length:=(List.getElem?_eq_some_iff.1 ha).1;have hi2:i<r.length:=by simp at hi; omega
  have ha2:r[i]?=some a:=by
   rw [List.getElem?_take] at ha;split at ha
   ·exact ha
   ·cases ha
  obtain⟨d1,d2,d3,d4⟩:=idx ha2 (by omega);have h9:decide ((i:Int)<9)=true:=by simp; omega
  show tM r i=_;simp only [tM,d1,h9,Bool.and_self,cond_true,aO d2,d3,d4,WV,Option.bind_some]
  cases xV a <;> simp
 ·show tM r _=_
  have : ((decide ((((r.take 9).length:Nat):Int)<((r.length:Nat):Int)))&&(decide ((((r.take 9).length:Nat):Int)<9)))=false:=by
   rw [Bool.and_eq_false_iff];by_cases h:r.length<=8
   ·left; simp; omega
   ·right; simp; omega
  simp only [tM,this,cond_false]

theorem aEG {α:Type} [DecidableEq α] {f g:List α} {body:Int->Option (Int⊕(Unit⊕Bool))} (he:f.length=g.length)
  (hb:∀ (i:Nat) a b,f[i]?=some a->g[i]?=some b->body i=some (if a=b then .inl ((i+1:Nat):Int) else .inr (.inr false)))
  (hend:body (f.length:Nat)=some (.inr (.inl ()))):∀ (m k:Nat),f.length-k=m->k<=f.length->lp body (k:Int)=some (if f.drop k=g.drop k then .inl () else .inr false)
 | 0,k,hm,hk=>by
  have : k=f.length:=by omega
  subst this;rw [List.drop_length,he,List.drop_length,if_pos rfl];rw [←he];exact cZ hend
 | m+1,k,hm,hk=>by
  have h1:k<f.length:=by omega
  have h2:k<g.length:=by omega
  have hbk:=hb k _ _ (List.getElem?_eq_getElem h1) (List.getElem?_eq_getElem h2);have e1:f.drop k=f[k]::f.drop (k+1):=List.drop_eq_getElem_cons h1;have e2:g.drop k=g[k]::g.drop (k+1):=List.drop_eq_getElem_cons h2;have hiff:(f.drop k=g.drop k)↔(f[k]=g[k]/\f.drop (k+1)=g.drop (k+1)):=by rw [e1,e2,List.cons.injEq]
  by_cases h:f[k]=g[k]
  ·rw [if_pos h] at hbk;rw [eT hbk,aEG he hb hend m (k+1) (by omega) (by omega)];simp only [hiff,h,true_and]
  ·rw [if_neg h] at hbk;rw [cZ hbk];simp only [hiff,h,false_and,if_false]

theorem aFi {α:Type}{f g:List α}(h:f.length≠g.length):(!decide (((f.length:Nat):Int)=((g.length:Nat):Int)))=true:=by simp; omega

theorem WC {α:Type}{f g:List α}(h:f.length=g.length):(!decide (((f.length:Nat):Int)=((g.length:Nat):Int)))=false:=by simp [h]

theorem NF (a b:List aH)(hl:a.length<=17592186044416):uQ a b=some (decide (a=b)):=by
 unfold uQ gV;by_cases he:a.length=b.length
 ·rw [WC he,cond_false];unfold lH;have:=aEG (f:=a) (g:=b) (body:=fun s=>gO a b (a.length:Nat) s) he ?_ ?_ a.length 0 rfl (Nat.zero_le _)
  ·simp only [Int.natCast_zero,List.drop_zero] at this;rw [this];by_cases h:a=b <;> simp [h,jB]
  ·intro i x y hx hy;obtain⟨d1,d2,d3,d4⟩:=idx hx (by omega);obtain⟨_,e2,e3,_⟩:=idx hy (by omega);simp only [gO,d1,cond_true,aO d2,aO e2,d3,e3,d4,veq];by_cases h:x=y <;> simp [h]
  ·simp only [gO,eP,cond_false]
 ·rw [aFi he,cond_true];have : a≠b:=fun h=>he (by rw [h]);simp [this]

theorem HT (a b:List aH)(hl:a.length<=17592186044416):tO a b=some (decide (a=b)):=by
 unfold tO;by_cases he:a.length=b.length
 ·rw [WC he,cond_false];unfold DX;have:=aEG (f:=a) (g:=b) (body:=fun s=>uH a b s) he ?_ ?_ a.length 0 rfl (Nat.zero_le _)
  ·simp only [Int.natCast_zero,List.drop_zero] at this;rw [this];by_cases h:a=b <;> simp [h,yP]
  ·intro i x y hx hy;obtain⟨d1,d2,d3,d4⟩:=idx hx (by omega);obtain⟨_,e2,e3,_⟩:=idx hy (by omega);simp only [uH,d1,cond_true,aO d2,aO e2,d3,e3,d4,veq];by_cases h:x=y <;> simp [h]
  ·simp only [uH,eP,cond_false]
 ·rw [aFi he,cond_true];have : a≠b:=fun h=>he (by rw [h]);simp [this]

structure RM {α:Type} (c:α->α->Int):Prop where
 eq:∀ a b,c a b=0↔a=b
 anti:∀ a b,c a b<0↔0<c b a
 trans:∀ a b d,c a b<0->c b d<0->c a d<0

def rD (x y:Int):Int:=if x<y then -1 else if y<x then 1 else 0

theorem JU:RM rD where
 eq a b:=by unfold rD; (repeat' split) <;> omega
 anti a b:=by unfold rD; (repeat' split) <;> omega
 trans a b d:=by unfold rD; (repeat' split) <;> omega

def jU {α:Type}[DecidableEq α](c:α->α->Int):List α->List α->Int
 | [],[]=>0
 | [],_::_ => -1
 | _::_,[]=>1
 | a::r,b::s=>if a=b then jU c r s else c a b

theorem RM.list {α:Type}[DecidableEq α]{c:α->α->Int}(h:RM c):RM (jU c) where
 eq:=by
  intro a
  induction a with
  | nil=>intro b; cases b <;> simp [jU]
  | cons x r ih =>
   intro b
   cases b with
   | nil=>simp [jU]
   | cons y s =>
    unfold jU;split
    ·rename_i e; subst e; rw [ih]; simp
    ·rename_i e
     have:=h.eq x y;constructor
     ·intro h0; exact absurd (this.1 h0) e
     ·intro h0; cases h0; exact absurd rfl e
 anti:=by
  intro a
  induction a with
  | nil=>intro b; cases b <;> simp [jU]
  | cons x r ih =>
   intro b
   cases b with
   | nil=>simp [jU]
   | cons y s =>
    unfold jU;by_cases e:x=y
    ·subst e; simp only [if_true]; exact ih s
    ·rw [if_neg e,if_neg (fun e'=>e e'.symm)]; exact h.anti x y
 trans:=by
  intro a
  induction a with
  | nil =>
   intro b d
   cases b <;> cases d <;> simp [jU]
  | cons x r ih =>
   intro b d
   cases b with
   | nil=>simp [jU]
   | cons y s =>
    cases d with
    | nil=>simp [jU]
    | cons z t =>
     unfold jU;by_cases e1:x=y
     ·subst e1;rw [if_pos rfl];by_cases e2:x=z
      ·subst e2; rw [if_pos rfl,if_pos rfl]; exact ih s t
      ·rw [if_neg e2,if_neg e2]; exact fun _ h=>h
     ·rw [if_neg e1];by_cases e2:y=z
      ·have hz:¬ x=z:=fun e=>e1 (e.trans e2.symm);intro h _;rw [if_neg hz,←e2]; exact h
      ·rw [if_neg e2];intro h1 h2;by_cases e3:x=z
       ·subst e3;have h3:=(h.anti x y).1 h1;omega
       ·rw [if_neg e3]; exact h.trans x y z h1 h2

def IA (a b:UInt8):Int:=if a<b then -1 else if b<a then 1 else 0

theorem UD:RM IA where
 eq a b:=by
  unfold IA;constructor
  ·intro h;split at h
   ·cases h
   ·split at h
    ·cases h
    ·rename_i h1 h2
     rw [UInt8.lt_iff_toNat_lt] at h1 h2;exact UInt8.toNat_inj.1 (by omega)
  ·rintro rfl;have : ¬ a<a:=by rw [UInt8.lt_iff_toNat_lt]; omega
   simp [this]
 anti a b:=by
  unfold IA;simp only [UInt8.lt_iff_toNat_lt]
  (repeat' split) <;> omega
 trans a b d:=by
  unfold IA;simp only [UInt8.lt_iff_toNat_lt]
  (repeat' split) <;> omega

theorem KY:∀ (a b:List UInt8),Go.Lib.compareBytes a b=jU IA a b
 | [],[]=>rfl
 | [],_::_=>rfl
 | _::_,[]=>rfl
 | a::r,b::s=>by
  unfold Go.Lib.compareBytes jU;rw [KY r s];by_cases e:a=b
  ·subst e;have : ¬ a<a:=by rw [UInt8.lt_iff_toNat_lt]; omega
   simp [this]
  ·rw [if_neg e];unfold IA
   have : ¬ (¬ a<b /\ ¬ b<a):=by
    rintro ⟨h1,h2⟩;rw [UInt8.lt_iff_toNat_lt] at h1 h2;exact e (UInt8.toNat_inj.1 (by omega))
   by_cases h1:a<b
   ·simp [h1]
   ·have h2:b<a:=Classical.byContradiction fun h2=>this ⟨h1,h2⟩;simp [h1,h2]

def YD (a b:ByteArray):Int:=jU IA a.data.toList b.data.toList

theorem aHn (a b:ByteArray):YP a b=YD a b:=KY _ _

theorem data_inj {x y:ByteArray}(h:x.data.toList=y.data.toList):x=y:=by
 cases x; cases y
 congr 1
 exact Array.toList_inj.1 h

theorem NW:RM YD where
 eq a b:=by unfold YD; rw [(UD.list).eq]; exact ⟨data_inj,fun h=>by rw [h]⟩
 anti a b:=(UD.list).anti _ _
 trans a b d:=(UD.list).trans _ _ _

def EK (a b:aH):Int:=if a.Kind=b.Kind then (if a.Num=b.Num then YD a.Text b.Text else rD a.Num b.Num) else rD a.Kind b.Kind

theorem OG:RM EK where
 eq a b:=by
  obtain⟨a1,a2,a3⟩:=a;obtain⟨b1,b2,b3⟩:=b;unfold EK;simp only [aH.mk.injEq];by_cases h1:a1=b1
  ·by_cases h2:a2=b2
   ·simp [h1,h2,NW.eq]
   ·simp [h1,h2,JU.eq]
  ·simp [h1,JU.eq]
 anti a b:=by
  unfold EK;by_cases h1:a.Kind=b.Kind
  ·rw [if_pos h1,if_pos h1.symm];by_cases h2:a.Num=b.Num
   ·rw [if_pos h2,if_pos h2.symm]; exact NW.anti _ _
   ·rw [if_neg h2,if_neg (fun h=>h2 h.symm)]; exact JU.anti _ _
  ·rw [if_neg h1,if_neg (fun h=>h1 h.symm)]; exact JU.anti _ _
 trans a b d:=by
  unfold EK;intro h1 h2;have lt:∀ {x y:Int},rD x y<0->x<y:=fun {x y} h=>by unfold rD at h; split at h <;> (try split at h) <;> omega
  have mk:∀ {x y:Int},x<y->rD x y<0:=fun {x y} h=>by unfold rD; rw [if_pos h]; omega
  by_cases e1:a.Kind=b.Kind
  ·rw [if_pos e1] at h1;by_cases e2:b.Kind=d.Kind
   ·rw [if_pos e2] at h2;rw [if_pos (e1.trans e2)];by_cases f1:a.Num=b.Num
    ·rw [if_pos f1] at h1;by_cases f2:b.Num=d.Num
     ·rw [if_pos f2] at h2;rw [if_pos (f1.trans f2)];exact NW.trans _ _ _ h1 h2
     ·rw [if_neg f2] at h2;rw [f1,if_neg f2]; exact h2
    ·rw [if_neg f1] at h1;have g1:=lt h1;by_cases f2:b.Num=d.Num
     ·rw [←f2,if_neg f1]; exact h1
     ·rw [if_neg f2] at h2;have g2:=lt h2;rw [if_neg (by omega)];exact mk (by omega)
   ·rw [if_neg e2] at h2;rw [e1,if_neg e2]; exact h2
  ·rw [if_neg e1] at h1;have g1:=lt h1;by_cases e2:b.Kind=d.Kind
   ·rw [←e2,if_neg e1]; exact h1
   ·rw [if_neg e2] at h2;have g2:=lt h2;rw [if_neg (by omega)];exact mk (by omega)

def jS (a b:List aH):Int:=jU EK a b

theorem vG:RM jS:=OG.list

end Go.Abs
namespace Go.Abs
open Go
theorem aFV (x y:Int):rW x y=some (rD x y):=by
 unfold rW mJ rD;by_cases h1:x<y
 ·simp [h1]
 ·by_cases h2:y<x <;> simp [h1,h2]

theorem aE6 (x y:Int):iJ x y=some (rD x y):=by
 unfold iJ mZ rD;by_cases h1:x<y
 ·simp [h1]
 ·by_cases h2:y<x <;> simp [h1,h2]

theorem IV {v:aH}(h:LW v=true):v.Kind=1/\v.Text=(⟨#[]⟩:ByteArray):=by
 simp only [LW,ZR,Bool.and_eq_true,decide_eq_true_eq] at h; exact h

theorem GO {v:aH}(h:KQ v=true):v.Kind=2/\v.Num=0/\v.Text.size<=64:=by
 simp only [KQ,Bool.and_eq_true,decide_eq_true_eq] at h; exact ⟨h.1.1,h.1.2,by omega⟩

theorem RY {v:aH}(h:xV v=true):LW v=true∨(LW v=false/\KQ v=true):=by
 unfold xV at h
 cases hn:LW v
 ·rw [hn] at h; exact .inr ⟨rfl,by simpa using h⟩
 ·exact .inl rfl

theorem aEW (a:ByteArray):YD a a=0:=(NW.eq a a).2 rfl

theorem LA (a:Int):rD a a=0:=(JU.eq a a).2 rfl

theorem aE8 {a b:aH}(ha:xV a=true)(hb:xV b=true):uT a b=some (EK a b):=by
 unfold uT;simp only [of_eq,Option.bind_some];rcases RY ha with h1 | ⟨h1,h1'⟩ <;> rcases RY hb with h2 | ⟨h2,h2'⟩
 ·obtain⟨k1,t1⟩:=IV h1;obtain⟨k2,t2⟩:=IV h2;simp only [h1,h2,if_true,Bool.not_true,Bool.or_self,cond_false,aE6,Option.bind_some];unfold EK;rw [k1,k2,t1,t2,if_pos rfl,aEW];by_cases hn:a.Num=b.Num
  ·rw [if_pos hn,hn,LA]
  ·rw [if_neg hn]
 ·obtain⟨k1,t1⟩:=IV h1;obtain⟨k2,n2,_⟩:=GO h2';simp only [h1,h2,h2',if_true,Bool.false_eq_true,if_false,Bool.not_true,Bool.or_self,cond_false];unfold EK;rw [k1,k2]; rfl
 ·obtain⟨k1,n1,_⟩:=GO h1';obtain⟨k2,t2⟩:=IV h2;simp only [h1,h1',h2,if_true,Bool.false_eq_true,if_false,Bool.not_true,Bool.or_self,cond_false];unfold EK;rw [k1,k2]; rfl
 ·obtain⟨k1,n1,_⟩:=GO h1';obtain⟨k2,n2,_⟩:=GO h2';simp only [h1,h1',h2,h2',if_true,Bool.false_eq_true,if_false,Bool.not_true,Bool.or_self,cond_false];unfold EK pQ lM;rw [k1,k2,n1,n2,if_pos rfl,if_pos rfl];simp [aHn]

theorem GL {r:List aH}(h:mB r=true):r.length<=8 /\ ∀ v∈r,xV v=true:=by
 simp only [mB,Bool.and_eq_true,decide_eq_true_eq,List.all_eq_true] at h; exact h

theorem aBs {a b:List aH}{k:Nat}(hk:k=a.length∨k=b.length)(h1:k<=a.length)(h2:k<=b.length):jS (a.drop k) (b.drop k)=rD a.length b.length:=by
 rcases hk with rfl | rfl
 ·rw [List.drop_length];by_cases h:a.length=b.length
  ·rw [h,List.drop_length,LA]; rfl
  ·rw [List.drop_eq_getElem_cons (by omega)];show (-1:Int)=_;unfold rD; rw [if_pos (by omega)]
 ·rw [List.drop_length];by_cases h:a.length=b.length
  ·rw [←h,List.drop_length,LA]; rfl
  ·rw [List.drop_eq_getElem_cons (by omega)];show (1:Int)=_;unfold rD; rw [if_neg (by omega),if_pos (by omega)]

theorem aDM {a b:List aH}(hl:a.length<=8)(hlb:b.length<=8)(n:Nat)(hn:n=min a.length b.length):∀ (m k:Nat),n-k=m->k<=n ->
  ∃ x,lp (fun s:Int×Int=>dJ (fun st y0=>(mA y0 st b).bind fun o=>some (o.2,o.1)) (a.take n) (n:Nat) s.1 s.2) ((k:Int)-1,(k:Int))=some x /\
   ((∃ sg,x=.inl sg/\jS (a.drop k) (b.drop k)=rD a.length b.length) ∨
    (∃ i:Nat,x=.inr ((i:Int),(i:Int))/\i<a.length/\i<b.length/\jS (a.drop k) (b.drop k)=EK (a.getD i default) (b.getD i default)))
 | 0,k,hm,hk=>by
  have : k=n:=by omega
  subst this;refine⟨.inl ((k:Int)-1),cZ ?_,.inl ⟨_,rfl,aBs (by omega) (by omega) (by omega)⟩⟩;show dJ _ _ _ _ _=_;simp only [dJ,eP,cond_false]
 | m+1,k,hm,hk=>by
  have h1:k<a.length:=by omega
  have h2:k<b.length:=by omega
  have ht:(a.take n)[k]?=some a[k]:=by
   rw [List.getElem?_take_of_lt (by omega)]; exact List.getElem?_eq_getElem h1
  obtain⟨d1,d2,d3,d4⟩:=idx ht (by simp; omega);have hlt:(a.take n).length=n:=by simp; omega
  rw [hlt] at d1 d2;obtain⟨_,e2,e3,_⟩:=idx (List.getElem?_eq_getElem h2) (by omega);have hw:IntKind.i64.wrap ((k:Int)-1+1)=(k:Int):=by rw [cO (by omega) (by omega)]; omega
  have hb:(fun s:Int×Int=>dJ (fun st y0=>(mA y0 st b).bind fun o=>some (o.2,o.1)) (a.take n) (n:Nat) s.1 s.2) ((k:Int)-1,(k:Int)) =
    some (if a[k]=b[k] then .inl ((k:Int),((k+1:Nat):Int)) else .inr (.inr ((k:Int),(k:Int)))):=by
   show dJ _ _ _ _ _=_;simp only [dJ,d1,cond_true,hlt,aO d2,d3,d4,mA,hw,aO e2,e3,veq,Option.bind_some];by_cases h:a[k]=b[k] <;> simp [h]
  have ea:a.drop k=a[k]::a.drop (k+1):=List.drop_eq_getElem_cons h1;have eb:b.drop k=b[k]::b.drop (k+1):=List.drop_eq_getElem_cons h2;by_cases h:a[k]=b[k]
  ·rw [if_pos h] at hb;obtain⟨x,e,hx⟩:=aDM hl hlb n hn m (k+1) (by omega) (by omega)
   have hc:jS (a.drop k) (b.drop k)=jS (a.drop (k+1)) (b.drop (k+1)):=by
    rw [ea,eb]; unfold jS; rw [jU,if_pos h]
   refine⟨x,?_,by rw [hc]; exact hx⟩;rw [eT hb];rw [show ((k+1:Nat):Int)-1=(k:Int) by omega] at e;exact e
  ·rw [if_neg h] at hb;refine⟨_,cZ hb,.inr ⟨k,rfl,h1,h2,?_⟩⟩;rw [ea,eb]; unfold jS; rw [jU,if_neg h];simp [List.getD_eq_getElem?_getD,h1,h2]

theorem aFn (a b:List aH):yH a b=some (if mB a&&mB b then jS a b else 0):=by
 unfold yH;rw [YS];simp only [Option.bind_some]
 cases ha:mB a
 ·simp [cW]
 ·simp only [Bool.not_true,Bool.not_false,cW,cond_true,YS,Option.bind_some,Bool.false_or]
  cases hb:mB b
  ·simp
  ·obtain⟨la,ma⟩:=GL ha;obtain⟨lb,mb⟩:=GL hb;have hif:(if ((List.length b:Nat):Int)<((List.length a:Nat):Int) then ((List.length b:Nat):Int) else ((List.length a:Nat):Int))=((min a.length b.length:Nat):Int):=by split <;> omega
   have hlt:(a.take (min a.length b.length)).length=min a.length b.length:=by rw [List.length_take]; omega
   simp only [Bool.not_true,cond_false,hif,Int.toNat_natCast,AM,Option.bind_some,jN,jK,hlt,Bool.and_self,if_true];rw [aO ⟨by omega,by omega⟩];obtain⟨x,e,hx⟩:=aDM (a:=a) (b:=b) la lb _ rfl _ 0 rfl (Nat.zero_le _);have e':lp (fun s:Int×Int=>dJ (fun st y0=>(mA y0 st b).bind fun o=>some (o.2,o.1)) (a.take (min a.length b.length)) (min a.length b.length:Nat) s.1 s.2) ((-1:Int),(0:Int))=some x:=e;rw [e'];simp only [List.drop_zero] at hx;rcases hx with ⟨sg,rfl,h⟩ | ⟨i,rfl,h1,h2,h⟩
   ·simp [gL,aFV,h]
   ·have hi:decide ((i:Int)<0)=false:=by simp
    simp only [Option.bind_some,Sum.elim_inr,hi,cond_false,Int.toNat_natCast];rw [aO ⟨by omega,by omega⟩,aO ⟨by omega,by omega⟩];have g1:a.getD i default∈a:=by simp [List.getD_eq_getElem?_getD,h1]
    have g2:b.getD i default∈b:=by simp [List.getD_eq_getElem?_getD,h2]
    rw [aE8 (ma _ g1) (mb _ g2),h];simp only [Option.bind_some]

theorem aG8 {s:ByteArray}{i:Nat}(h:i<s.data.toList.length):bt s (i:Int)=((s.data.toList[i]).toNat:Int):=by
 have h':i<s.data.size:=by simpa using h
 unfold bt;simp only [Int.toNat_natCast,Array.getElem_toList];rw [Array.getD_eq_getD_getElem?,Array.getElem?_eq_getElem h'];rfl

theorem aA3 {a b:aH}(ha:a.Text.size<=64)(hb:b.Text.size<=64):∀ (m k:Nat),min a.Text.size b.Text.size-k=m->k<=min a.Text.size b.Text.size ->
  ∃ x,lp (fun s=>kJ a b s) (k:Int)=some x /\
   ((x=.inl ()/\jU IA (a.Text.data.toList.drop k) (b.Text.data.toList.drop k)=rD a.Text.size b.Text.size)∨(∃ v,x=.inr v/\jU IA (a.Text.data.toList.drop k) (b.Text.data.toList.drop k)=v))
 | 0,k,hm,hk=>by
  have hsa:a.Text.data.toList.length=a.Text.size:=by rw [Array.length_toList]; rfl
  have hsb:b.Text.data.toList.length=b.Text.size:=by rw [Array.length_toList]; rfl
  refine⟨.inl (),cZ ?_,.inl ⟨rfl,?_⟩⟩
  ·show kJ a b _=_
   have : ((decide ((k:Int)<((ByteArray.size a.Text:Nat):Int)))&&(decide ((k:Int)<((ByteArray.size b.Text:Nat):Int))))=false:=by
    rw [Bool.and_eq_false_iff];simp only [decide_eq_false_iff_not];omega
   simp only [kJ,this,cond_false]
  ·by_cases h1:a.Text.size<=k
   ·rw [List.drop_eq_nil_of_le (by omega)];by_cases h2:b.Text.size<=k
    ·rw [List.drop_eq_nil_of_le (by omega)];have : a.Text.size=b.Text.size:=by omega
     rw [this,LA]; rfl
    ·rw [List.drop_eq_getElem_cons (by omega)];show (-1:Int)=_;unfold rD; rw [if_pos (by omega)]
   ·have h2:b.Text.size<=k:=by omega
    rw [@List.drop_eq_nil_of_le _ b.Text.data.toList k (by omega),List.drop_eq_getElem_cons (by omega)];show (1:Int)=_;unfold rD; rw [if_neg (by omega),if_pos (by omega)]
 | m+1,k,hm,hk=>by
  have hsa:a.Text.data.toList.length=a.Text.size:=by rw [Array.length_toList]; rfl
  have hsb:b.Text.data.toList.length=b.Text.size:=by rw [Array.length_toList]; rfl
  have h1:k<a.Text.data.toList.length:=by omega
  have h2:k<b.Text.data.toList.length:=by omega
  have c1:decide ((k:Int)<((ByteArray.size a.Text:Nat):Int))=true:=by simp; omega
  have c2:decide ((k:Int)<((ByteArray.size b.Text:Nat):Int))=true:=by simp; omega
  have p1:0<=(k:Int)/\(k:Int)<((ByteArray.size a.Text:Nat):Int):=⟨by omega,by omega⟩;have p2:0<=(k:Int)/\(k:Int)<((ByteArray.size b.Text:Nat):Int):=⟨by omega,by omega⟩;have hw:IntKind.i64.wrap ((k:Int)+1)=((k+1:Nat):Int):=by rw [cO (by omega) (by omega)]; omega
  have ea:=List.drop_eq_getElem_cons h1;have eb:=List.drop_eq_getElem_cons h2
  have hb':kJ a b (k:Int)=some (if a.Text.data.toList[k]=b.Text.data.toList[k] then .inl ((k+1:Nat):Int) else .inr (.inr (IA a.Text.data.toList[k] b.Text.data.toList[k]))):=by
   simp only [kJ,c1,c2,Bool.and_self,cond_true,aO p1,aO p2,aG8 h1,aG8 h2,hw]
   generalize a.Text.data.toList[k]=x
   generalize b.Text.data.toList[k]=y
   by_cases e:x=y
   ·subst e; simp
   ·have e':¬ ((x.toNat:Int)=(y.toNat:Int)):=fun h=>e (UInt8.toNat_inj.1 (by omega));simp only [e',decide_false,Bool.not_false,cond_true,if_neg e];unfold IA;simp only [UInt8.lt_iff_toNat_lt];by_cases l:x.toNat<y.toNat
    ·have : ((x.toNat:Int)<(y.toNat:Int)):=by omega
     simp [l]
    ·have l2:y.toNat<x.toNat:=by
      rcases Nat.lt_or_ge y.toNat x.toNat with h | h
      ·exact h
      ·exact absurd (UInt8.toNat_inj.1 (by omega)) e
     simp [l,l2]
  by_cases e:a.Text.data.toList[k]=b.Text.data.toList[k]
  ·rw [if_pos e] at hb';obtain⟨x,hx1,hx2⟩:=aA3 ha hb m (k+1) (by omega) (by omega);refine⟨x,by rw [eT (show (fun s=>kJ a b s) (k:Int)=_ from hb')]; exact hx1,?_⟩;rw [ea,eb,jU,if_pos e]; exact hx2
  ·rw [if_neg e] at hb';refine⟨_,cZ (show (fun s=>kJ a b s) (k:Int)=_ from hb'),.inr ⟨_,rfl,?_⟩⟩;rw [ea,eb,jU,if_neg e]

theorem ZZ {v:aH}(h:xV v=true):v.Text.size<=64:=by
 rcases RY h with h | ⟨_,h⟩
 ·rw [(IV h).2]; decide
 ·exact (GO h).2.2

theorem aAa {v:aH}(h:xV v=true):v.Kind=1∨v.Kind=2:=by
 rcases RY h with h | ⟨_,h⟩
 ·exact .inl (IV h).1
 ·exact .inr (GO h).1

theorem aA5 {a b:aH}(ha:xV a=true)(hb:xV b=true):uP a b=some (EK a b):=by
 unfold uP;simp only [WV,ha,hb,Option.bind_some,Bool.not_true,Bool.not_false,cW,cond_true,Bool.or_self,cond_false];unfold EK;by_cases hk:a.Kind=b.Kind
 ·rw [if_pos hk];by_cases hn:a.Num=b.Num
  ·rw [if_pos hn];simp only [hk,hn,decide_true,Bool.not_true,cond_false,yB];obtain⟨x,e,hx⟩:=aA3 (ZZ ha) (ZZ hb) _ 0 rfl (Nat.zero_le _);simp only [Int.natCast_zero,List.drop_zero] at e hx;rw [e];have ht:YD a.Text b.Text=jU IA a.Text.data.toList b.Text.data.toList:=rfl;rcases hx with ⟨rfl,h⟩ | ⟨v,rfl,h⟩
   ·rw [ht,h];simp only [Option.bind_some,Sum.elim_inl,tL];unfold rD;by_cases h1:a.Text.size=b.Text.size
    ·have h1':((a.Text.size:Nat):Int)=((b.Text.size:Nat):Int):=by omega
     simp [h1']
    ·have h1':¬ ((a.Text.size:Nat):Int)=((b.Text.size:Nat):Int):=by omega
     by_cases h2:((a.Text.size:Nat):Int)<((b.Text.size:Nat):Int)
     ·simp only [h1',h2,decide_false,decide_true,Bool.not_false,cond_true,if_true]
     ·have h3:((b.Text.size:Nat):Int)<((a.Text.size:Nat):Int):=by omega
      simp only [h1',h2,h3,decide_false,Bool.not_false,cond_true,cond_false,if_true,if_false]
   ·rw [ht,h]; rfl
  ·rw [if_neg hn];simp only [hk,hn,decide_true,decide_false,Bool.not_true,Bool.not_false,cond_false,cond_true];unfold rD;by_cases h1:a.Num<b.Num
   ·simp [h1]
   ·have h2:b.Num<a.Num:=by omega
    simp [h1,h2]
 ·rw [if_neg hk];simp only [hk,decide_false,Bool.not_false,cond_true];rcases aAa ha with h1 | h1 <;> rcases aAa hb with h2 | h2
  ·exact absurd (h1.trans h2.symm) hk
  ·rw [h1,h2]; rfl
  ·rw [h1,h2]; rfl
  ·exact absurd (h1.trans h2.symm) hk

theorem ZW {a b:List aH}(ha:mB a=true)(hb:mB b=true):∀ (m k:Nat),min a.length b.length-k=m->k<=min a.length b.length ->
  ∃ x,lp (fun s=>kF a b s) (k:Int)=some x/\((x=.inl ()/\jS (a.drop k) (b.drop k)=rD a.length b.length)∨(∃ v,x=.inr v/\jS (a.drop k) (b.drop k)=v))
 | 0,k,hm,hk=>by
  refine⟨.inl (),cZ ?_,.inl ⟨rfl,aBs (by omega) (by omega) (by omega)⟩⟩;show kF a b _=_
  have : ((decide ((k:Int)<((a.length:Nat):Int)))&&(decide ((k:Int)<((b.length:Nat):Int))))=false:=by
   rw [Bool.and_eq_false_iff];simp only [decide_eq_false_iff_not];omega
  simp only [kF,this,cond_false]
 | m+1,k,hm,hk=>by
  obtain⟨la,ma⟩:=GL ha;obtain⟨lb,mb⟩:=GL hb;have h1:k<a.length:=by omega
  have h2:k<b.length:=by omega
  obtain⟨d1,d2,d3,d4⟩:=idx (List.getElem?_eq_getElem h1) (by omega);obtain⟨e1,e2,e3,_⟩:=idx (List.getElem?_eq_getElem h2) (by omega);have ea:=List.drop_eq_getElem_cons h1;have eb:=List.drop_eq_getElem_cons h2
  have hb':kF a b (k:Int)=some (if a[k]=b[k] then .inl ((k+1:Nat):Int) else .inr (.inr (EK a[k] b[k]))):=by
   simp only [kF,d1,e1,Bool.and_self,cond_true,aO d2,aO e2,d3,e3,d4,aA5 (ma _ (List.getElem_mem h1)) (mb _ (List.getElem_mem h2)),Option.bind_some];by_cases h:a[k]=b[k]
   ·have:=(OG.eq a[k] b[k]).2 h;simp [h,(OG.eq b[k] b[k]).2 rfl]
   ·have : ¬ EK a[k] b[k]=0:=fun h'=>h ((OG.eq _ _).1 h');simp [h,this]
  by_cases h:a[k]=b[k]
  ·rw [if_pos h] at hb';obtain⟨x,hx1,hx2⟩:=ZW ha hb m (k+1) (by omega) (by omega);refine⟨x,by rw [eT (show (fun s=>kF a b s) (k:Int)=_ from hb')]; exact hx1,?_⟩
   have hc:jS (a.drop k) (b.drop k)=jS (a.drop (k+1)) (b.drop (k+1)):=by
    rw [ea,eb]; unfold jS; rw [jU,if_pos h]
   rw [hc]; exact hx2
  ·rw [if_neg h] at hb';refine⟨_,cZ (show (fun s=>kF a b s) (k:Int)=_ from hb'),.inr ⟨_,rfl,?_⟩⟩;rw [ea,eb]; unfold jS; rw [jU,if_neg h]

theorem QK (a b:List aH)(hla:a.length<=17592186044416)(hlb:b.length<=17592186044416):rK a b=some (if mB a&&mB b then jS a b else 0):=by
 unfold rK;rw [NJ a (by omega)];simp only [Option.bind_some]
 cases ha:mB a
 ·simp [cW]
 ·simp only [Bool.not_true,Bool.not_false,cW,cond_true,NJ b (by omega),Option.bind_some,Bool.false_or]
  cases hb:mB b
  ·simp
  ·simp only [Bool.not_true,cond_false,xS,Bool.and_self,if_true];obtain⟨x,e,hx⟩:=ZW ha hb _ 0 rfl (Nat.zero_le _);simp only [Int.natCast_zero,List.drop_zero] at e hx;rw [e];rcases hx with ⟨rfl,h⟩ | ⟨v,rfl,h⟩
   ·rw [h];simp only [Option.bind_some,Sum.elim_inl,tA];unfold rD;by_cases h1:a.length<b.length
    ·simp [h1]
    ·by_cases h2:b.length<a.length <;> simp [h1,h2]
   ·rw [h]; rfl

end Go.Abs
namespace Go.Abs
open Go
def jE (e:aJ):aM:=⟨e.At,e.Net⟩

def gA (r:List aH)(f:List aM):List aJ->List (List aH×List aM)
 | []=>[(r,f)]
 | e::l=>if e.Row=r then gA r (f++[jE e]) l else (r,f)::gA e.Row [jE e] l

def groups:List aJ->List (List aH×List aM)
 | []=>[]
 | e::l=>gA e.Row [jE e] l

def itG {σ:Type}(y:σ->List aH->List aM->Option (σ×Bool)):List (List aH×List aM)->σ->Option σ
 | [],s=>some s
 | g::gs,s=>(y s g.1 g.2).bind fun x=>if x.2 then itG y gs x.1 else some x.1

def okL (l:List aJ):Prop:=l.length<=3518437208783 /\ ∀ e∈l,e.Row.length<=4398046510976

theorem NO {r:List aH}(h:r.length<=4398046510976):BZ r=some r:=by
 unfold BZ;rw [aO ⟨by omega,by omega,by omega⟩,aO (by simp only [List.length_nil,Nat.zero_add]; omega)];rfl

theorem VA {σ:Type}{y:σ->List aH->List aM->Option (σ×Bool)}{l:List aJ}(hl:okL l)(row:List aH)(sg:σ):∀ (r:List aJ) (k:Nat) (f:List aM),l.drop k=r->k<=l.length->f.length<=k ->
  ∃ k' f',k<=k'/\k'<=l.length/\f'.length<=k'/\lp (fun s:σ×Int×List aM=>lO y l row s.1 s.2.1 s.2.2) (sg,(k:Int),f)=some (sg,((k':Nat):Int),f') /\
   gA row f r=(row,f')::groups (l.drop k')/\(∀ e r',r=e::r'->e.Row=row->k<k')
 | [],k,f,hd,hk,hf=>by
  have : k=l.length:=by
   have:=congrArg List.length hd;simp only [List.length_drop,List.length_nil] at this; omega
  subst this;refine⟨l.length,f,Nat.le_refl _,Nat.le_refl _,hf,cZ ?_,by simp [gA,groups],fun e r' h=>by cases h⟩;show lO _ _ _ _ _ _=_;simp only [lO,eP,cW,cond_false,Option.bind_some,Bool.false_and];exact aO (fun h=>by cases h)
 | a::r,k,f,hd,hk,hf=>by
  obtain⟨h1,h2⟩:=drop_cons hd;have hlt:k<l.length:=(List.getElem?_eq_some_iff.1 h1).1;obtain⟨hll,hlr⟩:=hl;obtain⟨d1,d2,d3,d4⟩:=idx h1 (by omega);have har:=hlr a (List.mem_of_getElem? h1)
  have hb:(fun s:σ×Int×List aM=>lO y l row s.1 s.2.1 s.2.2) (sg,(k:Int),f)=some (if a.Row=row then .inl (sg,((k+1:Nat):Int),f++[jE a]) else .inr (sg,(k:Int),f)):=by
   show lO _ _ _ _ _ _=_;simp only [lO,d1,d3,d4,cW,cond_true,NF a.Row row (by omega),Option.bind_some,Bool.true_and];rw [aO (fun _=>d2)];by_cases e:a.Row=row
   ·simp only [e,decide_true,cond_true,if_true];rw [aO d2,aO d2,aO (by simp only [List.length_cons,List.length_nil]; omega)];rfl
   ·simp [e]
  by_cases e:a.Row=row
  ·rw [if_pos e] at hb;obtain⟨k',f',g1,g2,g3,g4,g5,_⟩:=VA ⟨hll,hlr⟩ row sg r (k+1) (f++[jE a]) h2 (by omega) (by simp; omega) (y:=y);refine⟨k',f',by omega,g2,g3,by rw [eT hb]; exact g4,by simp [gA,e,g5],fun _ _ _ _=>by omega⟩
  ·rw [if_neg e] at hb;refine⟨k,f,Nat.le_refl _,hk,hf,cZ hb,?_,fun b r' h hr=>by cases h; exact absurd hr e⟩;rw [hd]; simp [gA,e,groups]

theorem aEq {σ:Type}{y:σ->List aH->List aM->Option (σ×Bool)}{l:List aJ}(hl:okL l):∀ (m k:Nat) (sg s':σ),l.length-k<=m->k<=l.length->itG y (groups (l.drop k)) sg=some s' ->
  ∃ x,lp (fun s:σ×Int=>kI y l s.1 s.2) (sg,(k:Int))=some x/\Sum.elim id id x=s':=by
 have stop:∀ (sg s':σ),itG y (groups (l.drop l.length)) sg=some s' -> ∃ x,lp (fun s:σ×Int=>kI y l s.1 s.2) (sg,((l.length:Nat):Int))=some x/\Sum.elim id id x=s':=by
  intro sg s' h;rw [List.drop_length] at h;simp only [groups,itG,Option.some.injEq] at h;refine⟨.inl sg,cZ ?_,h⟩;show kI _ _ _ _=_;simp only [kI,eP,cond_false]
 intro m
 induction m with
 | zero =>
  intro k sg s' hm hk h;have : k=l.length:=by omega
  subst this; exact stop sg s' h
 | succ m ih =>
  intro k sg s' hm hk h;by_cases he:k=l.length
  ·subst he; exact stop sg s' h
  ·have hlt:k<l.length:=by omega
   have hd:l.drop k=l[k]::l.drop (k+1):=List.drop_eq_getElem_cons hlt;obtain⟨d1,d2,d3,d4⟩:=idx (List.getElem?_eq_getElem hlt) (by have:=hl.1; omega);obtain⟨k',f',g1,g2,g3,g4,g5,g6⟩:=VA hl l[k].Row sg (l.drop k) k [] rfl hk (by simp) (y:=y);have hk':=g6 _ _ hd rfl
   have hg:groups (l.drop k)=(l[k].Row,f')::groups (l.drop k'):=by
    rw [←g5,hd]; simp [groups,gA]
   rw [hg] at h;simp only [itG] at h;obtain⟨x,hx,h⟩:=aZ h;have hrow:=hl.2 _ (List.getElem_mem hlt)
   have hb:(fun s:σ×Int=>kI y l s.1 s.2) (sg,(k:Int))=some (if x.2 then .inl (x.1,((k':Nat):Int)) else .inr (.inr x.1)):=by
    show kI _ _ _ _=_;simp only [kI,d1,cond_true,aO d2,d3,xM,g4,Option.bind_some,tF,NO hrow,hx]
    cases x.2 <;> simp
   cases hx2:x.2
   ·rw [hx2] at hb h;simp only [Bool.false_eq_true,if_false,Option.some.injEq] at hb h;exact⟨_,cZ hb,h⟩
   ·rw [hx2] at hb h;simp only [if_true] at hb h;obtain⟨z,hz1,hz2⟩:=ih k' x.1 s' (by omega) g2 h;exact⟨z,by rw [eT hb]; exact hz1,hz2⟩

theorem aDz {σ:Type}{y:σ->List aH->List aM->Option (σ×Bool)}{l:List aJ}(hl:okL l){s s':σ}(h:itG y (groups l) s=some s'):rI y l s=some s':=by
 unfold rI xN;obtain⟨x,h1,h2⟩:=aEq hl l.length 0 s s' (by omega) (Nat.zero_le _) (by simpa using h);simp only [Int.natCast_zero] at h1;rw [h1]
 cases x <;> simpa using h2

def ahd (last:Option (List aH))(r:List aH):Bool:=match last with
 | none=>true
 | some q=>decide (jS q r<0)

def DW (p:List aM->Bool):Option (List aH)->List (List aH×List aM)->Bool
 | _,[]=>true
 | last,g::gs=>(mB g.1&&ahd last g.1&&p g.2)&&DW p (some g.1) gs

theorem aDK {holds:List aM->Option Bool}{p:List aM->Bool}(hp:∀ f,holds f=some (p f))(c:List aJ)(t:Bool):∀ (gs:List (List aH×List aM)) (last:List aH) (b:Bool),(b=true->mB last=true) ->
  ∃ x,itG (fun st r f=>rnd (fun (s:Bool×(List aH)×Bool)=>tK holds c s.1 s.2.1 s.2.2 r f) st) gs (.inl (t,last,b))=some x /\
   (if DW p (if b then some last else none) gs then ∃ u,x=.inl (t,u) else ∃ u,x=.inr (false,u))
 | [],last,b,_=>⟨_,rfl,by simp [DW]⟩
 | g::gs,last,b,hb=>by
  have hy:tK holds c t last b g.1 g.2=some (if mB g.1&&ahd (if b then some last else none) g.1&&p g.2 then .inl (t,g.1,true) else .inr (false,last,b)):=by
   unfold tK;simp only [YS,Option.bind_some,aFn,hp]
   cases hm:mB g.1
   ·simp [cW]
   ·cases b
    ·cases h2:p g.2 <;> simp [cW,ahd,h2]
    ·have hl:=hb rfl;by_cases h1:jS last g.1<0
     ·have h1':¬ (0<=jS last g.1):=by omega
      cases h2:p g.2 <;> simp [cW,ahd,h2,hl,h1,h1']
     ·have h1':0<=jS last g.1:=by omega
      simp [cW,ahd,hl,h1,h1']
  cases hc:(mB g.1&&ahd (if b then some last else none) g.1&&p g.2)
  ·rw [hc] at hy;simp only [itG,rnd,hy,Option.bind_some,DW,hc];exact⟨.inr (false,last,b),by simp,by simp⟩
  ·rw [hc] at hy;simp only [itG,rnd,hy,Option.bind_some,DW,hc];have hm:mB g.1=true:=by simp only [Bool.and_eq_true] at hc; exact hc.1.1
   obtain⟨x,h1,h2⟩:=aDK hp c t gs g.1 true (fun _=>hm);refine⟨x,?_,?_⟩
   ·simpa [rnd] using h1
   ·simpa using h2

theorem aDw {l:List aJ}(hl:okL l){holds:List aM->Option Bool}{p:List aM->Bool}(hp:∀ f,holds f=some (p f)):zJ l holds=some (decide (l.length<=4096)&&DW p none (groups l)):=by
 unfold zJ;by_cases h:l.length<=4096
 ·have h1:decide ((4096:Int)<((l.length:Nat):Int))=false:=by simp; omega
  rw [h1,cond_false];simp only [zQ,Option.bind_some,GC];obtain⟨x,e1,e2⟩:=aDK hp l false (groups l) [] false (fun h=>by cases h);rw [aDz hl e1];simp only [Bool.false_eq_true,if_false] at e2;simp only [h,decide_true,Bool.true_and]
  cases hc:DW p none (groups l)
  ·rw [hc] at e2;simp only [Bool.false_eq_true,if_false] at e2;obtain⟨u,rfl⟩:=e2;rfl
  ·rw [hc] at e2;simp only [if_true] at e2;obtain⟨u,rfl⟩:=e2;rfl
 ·have h1:decide ((4096:Int)<((l.length:Nat):Int))=true:=by simp; omega
  rw [h1,cond_true];simp [h]

def iM (l:List aJ):Bool:=decide (l.length<=4096)&&DW gJ none (groups l)

theorem ME {l:List aJ}(hl:okL l):rY l=some (iM l):=by
 unfold rY;rw [aDw hl (p:=gJ) (fun f=>WQ f)]; rfl

def YT (f:List aM):Bool:=gJ f&&decide (0<=AV f)

def lC (l:List aJ):Bool:=decide (l.length<=4096)&&DW YT none (groups l)

theorem LH {l:List aJ}(hl:okL l):qY l=some (lC l):=by
 unfold qY
 rw [aDw hl (p:=YT) (fun f=>by
  unfold wF YT;rw [WQ]
  cases h:gJ f <;> simp [cW,aGY,h])]
 rfl

def rX (r:List aH)(f:List aM):List aJ:=f.map fun j=>⟨r,j.At,j.Net⟩

def flat (gs:List (List aH×List aM)):List aJ:=gs.flatMap fun g=>rX g.1 g.2

theorem XU:∀ (l:List aJ) (r:List aH) (f:List aM),flat (gA r f l)=rX r f++l
 | [],r,f=>by simp [gA,flat]
 | e::l,r,f=>by
  unfold gA;split
  ·rename_i h
   rw [XU l r];simp [rX,jE,←h]
  ·have:=XU l e.Row [jE e];simp only [flat,List.flatMap_cons] at this ⊢;rw [this];simp [rX,jE]

theorem DC (l:List aJ):flat (groups l)=l:=by
 cases l with
 | nil=>rfl
 | cons e l=>unfold groups; rw [XU]; simp [rX,jE]

theorem aBJ {r:List aH}:∀ {l:List aJ} {f:List aM} {g:List aH×List aM},g∈gA r f l->f≠[]->g.2≠[]/\(g.1=r ∨ ∃ e∈l,g.1=e.Row)
 | [],f,g,h,hf=>by simp only [gA,List.mem_singleton] at h; subst h; exact ⟨hf,.inl rfl⟩
 | e::l,f,g,h,hf=>by
  unfold gA at h;split at h
  ·obtain⟨h1,h2⟩:=aBJ h (by simp);exact⟨h1,h2.imp id fun ⟨x,hx,hx'⟩=>⟨x,by simp [hx],hx'⟩⟩
  ·rcases List.mem_cons.1 h with rfl | h
   ·exact⟨hf,.inl rfl⟩
   ·obtain⟨h1,h2⟩:=aBJ (r:=e.Row) h (by simp);refine⟨h1,.inr ?_⟩;rcases h2 with h2 | ⟨x,hx,hx'⟩
    ·exact⟨e,by simp,h2⟩
    ·exact⟨x,by simp [hx],hx'⟩

theorem NC {l:List aJ}{g:List aH×List aM}(h:g∈groups l):g.2≠[] /\ ∃ e∈l,g.1=e.Row:=by
 cases l with
 | nil=>simp [groups] at h
 | cons e l =>
  obtain⟨h1,h2⟩:=aBJ h (by simp);refine⟨h1,?_⟩;rcases h2 with h2 | ⟨x,hx,hx'⟩
  ·exact⟨e,by simp,h2⟩
  ·exact⟨x,by simp [hx],hx'⟩

end Go.Abs
namespace Go.Abs
open Go
def dK (l:List aJ)(r:List aH):List aM:=(l.filter fun e=>decide (e.Row=r)).map jE

theorem MG (a b:List aJ)(r:List aH):dK (a++b) r=dK a r++dK b r:=by simp [dK]

theorem aAx (q:List aH)(f:List aM)(r:List aH):dK (rX q f) r=if q=r then f else []:=by
 induction f with
 | nil=>simp [dK,rX]
 | cons j f ih =>
  have h1:rX q (j::f)=[⟨q,j.At,j.Net⟩]++rX q f:=rfl;rw [h1,MG,ih];by_cases h:q=r <;> simp [dK,jE,h]

def look:List (List aH×List aM)->List aH->List aM
 | [],_=>[]
 | g::gs,r=>if g.1=r then g.2 else look gs r

theorem LF (g:List aH×List aM)(gs:List (List aH×List aM))(r:List aH):look (g::gs) r=if g.1=r then g.2 else look gs r:=rfl

abbrev ltG (a b:List aH×List aM):Prop:=jS a.1 b.1<0

abbrev KI (gs:List (List aH×List aM)):Prop:=gs.Pairwise ltG

theorem xK {a:List aH}:¬ jS a a<0:=by rw [(vG.eq a a).2 rfl]; omega

theorem aAd:∀ {gs:List (List aH×List aM)} {r:List aH},(∀ g∈gs,g.1≠r)->look gs r=[]
 | [],_,_=>rfl
 | g::gs,r,h=>by
  rw [LF];rw [if_neg (h g (by simp))];exact aAd fun q hq=>h q (by simp [hq])

theorem VF (gs:List (List aH×List aM))(r:List aH):(look gs r=[] /\ ∀ g∈gs,g.1≠r) ∨ ∃ g∈gs,g.1=r/\look gs r=g.2:=by
 induction gs with
 | nil=>exact .inl ⟨rfl,by simp⟩
 | cons g gs ih =>
  rw [LF];by_cases h:g.1=r
  ·rw [if_pos h]; exact .inr ⟨g,by simp,h,rfl⟩
  ·rw [if_neg h];rcases ih with ⟨h1,h2⟩ | ⟨q,hq,h1,h2⟩
   ·refine .inl ⟨h1,fun q hq=>?_⟩;rcases List.mem_cons.1 hq with rfl | hq
    ·exact h
    ·exact h2 q hq
   ·exact .inr ⟨q,by simp [hq],h1,h2⟩

theorem OM {gs:List (List aH×List aM)}(hs:KI gs){g:List aH×List aM}(hg:g∈gs):look gs g.1=g.2:=by
 induction gs with
 | nil=>simp at hg
 | cons q gs ih =>
  have hs':=List.pairwise_cons.1 hs;rw [LF];rcases List.mem_cons.1 hg with rfl | hg
  ·rw [if_pos rfl]
  ·rw [if_neg (fun e=>by have:=hs'.1 g hg; simp only [ltG,e] at this; exact xK this)];exact ih hs'.2 hg

theorem ZT (g:List aH×List aM)(gs:List (List aH×List aM)):flat (g::gs)=rX g.1 g.2++flat gs:=rfl

theorem QS:∀ {gs:List (List aH×List aM)},KI gs -> ∀ r,dK (flat gs) r=look gs r
 | [],_,r=>rfl
 | g::gs,hs,r=>by
  have hs':=List.pairwise_cons.1 hs;rw [ZT,MG,aAx,QS hs'.2,LF];by_cases h:g.1=r
  ·rw [if_pos h,if_pos h,aAd,List.append_nil];intro q hq e;have:=hs'.1 q hq;simp only [ltG,h,e] at this; exact xK this
  ·rw [if_neg h,if_neg h]; rfl

theorem EN {p:List aM->Bool}:∀ {gs:List (List aH×List aM)} {last:Option (List aH)},DW p last gs=true↔(∀ g∈gs,mB g.1=true/\p g.2=true)/\KI gs/\(∀ q,last=some q -> ∀ g∈gs,jS q g.1<0)
 | [],last=>by simp [DW]
 | g::gs,last=>by
  unfold DW;simp only [Bool.and_eq_true,EN (gs:=gs),List.mem_cons,List.pairwise_cons];constructor
  ·rintro ⟨⟨⟨h1,h2⟩,h3⟩,h4,h5,h6⟩;refine⟨?_,⟨fun q hq=>h6 _ rfl q hq,h5⟩,?_⟩
   ·rintro q (rfl | hq)
    ·exact⟨h1,h3⟩
    ·exact h4 q hq
   ·rintro q rfl x (rfl | hx)
    ·simpa [ahd] using h2
    ·simp only [ahd,decide_eq_true_eq] at h2;exact vG.trans _ _ _ h2 (h6 _ rfl x hx)
  ·rintro ⟨h1,⟨h2,h3⟩,h4⟩;refine⟨⟨⟨(h1 g (.inl rfl)).1,?_⟩,(h1 g (.inl rfl)).2⟩,fun q hq=>h1 q (.inr hq),h3,?_⟩
   ·unfold ahd;split
    ·rfl
    ·exact decide_eq_true (h4 _ rfl g (.inl rfl))
   ·rintro q hq x hx
    cases hq
    exact h2 x hx

theorem lK {l:List aJ}(h:iM l=true):l.length<=4096/\(∀ g∈groups l,mB g.1=true/\gJ g.2=true)/\KI (groups l):=by
 simp only [iM,Bool.and_eq_true,decide_eq_true_eq] at h;obtain⟨h1,h2,_⟩:=EN.1 h.2;exact⟨h.1,h1,h2⟩

theorem aFb {l:List aJ}(h:iM l=true)(r:List aH):gJ (look (groups l) r)=true:=by
 rcases VF (groups l) r with ⟨h1,_⟩ | ⟨g,hg,_,h1⟩
 ·rw [h1]; exact aHv
 ·rw [h1]; exact ((lK h).2.1 g hg).2

theorem CH {l:List aJ}(h:KI (groups l))(r:List aH):look (groups l) r=dK l r:=by
 rw [←QS h,DC]

theorem aDX (r:List aH)(f:List aM)(e:aJ)(l:List aJ):gA r f (e::l)=if e.Row=r then gA r (f++[jE e]) l else (r,f)::gA e.Row [jE e] l:=rfl

theorem YY {l:List aJ}(hl:okL l){g:List aH×List aM}(hg:g∈groups l):g.1.length<=4398046510976:=by
 obtain⟨_,e,he,h⟩:=NC hg;rw [h]; exact hl.2 e he

theorem HY:∀ (l:List aJ) (r:List aH) (f:List aM),(gA r f l).length<=l.length+1
 | [],_,_=>by simp [gA]
 | e::l,r,f=>by
  rw [aDX];split
  ·have:=HY l r (f++[jE e]); simp only [List.length_cons]; omega
  ·have:=HY l e.Row [jE e]; simp only [List.length_cons]; omega

theorem EY (l:List aJ):(groups l).length<=l.length:=by
 cases l with
 | nil=>simp [groups]
 | cons e l=>exact HY l e.Row [jE e]

end Go.Abs
namespace Go.Abs
open Go
abbrev leE (x y:aJ):Prop:=jS x.Row y.Row<0∨(x.Row=y.Row/\x.At<=y.At)

theorem aBY:∀ {l:List aJ} {r:List aH} {f:List aM},Srt leE l->(∀ e∈l,e.Row=r∨jS r e.Row<0)->KI (gA r f l) /\ ∀ g∈gA r f l,g.1=r∨jS r g.1<0
 | [],r,f,_,_=>by simp [gA]
 | e::l,r,f,hs,hr=>by
  have hs':=List.pairwise_cons.1 hs;rw [aDX];by_cases h:e.Row=r
  ·rw [if_pos h];exact aBY hs'.2 (fun x hx=>hr x (by simp [hx]))
  ·rw [if_neg h];have hlt:jS r e.Row<0:=(hr e (by simp)).resolve_left h
   obtain⟨h1,h2⟩:=aBY (r:=e.Row) (f:=[jE e]) hs'.2 (fun x hx=>by
    rcases hs'.1 x hx with h | ⟨h,_⟩
    ·exact .inr h
    ·exact .inl h.symm)
   have key:∀ g∈gA e.Row [jE e] l,jS r g.1<0:=fun g hg=>by
    rcases h2 g hg with h | h
    ·rw [h]; exact hlt
    ·exact vG.trans _ _ _ hlt h
   refine⟨List.pairwise_cons.2 ⟨key,h1⟩,?_⟩;intro g hg;rcases List.mem_cons.1 hg with rfl | hg
   ·exact .inl rfl
   ·exact .inr (key g hg)

theorem OH {l:List aJ}(hs:Srt leE l):KI (groups l):=by
 cases l with
 | nil=>exact List.Pairwise.nil
 | cons e l =>
  have hs':=List.pairwise_cons.1 hs
  exact (aBY hs'.2 (fun x hx=>by
   rcases hs'.1 x hx with h | ⟨h,_⟩
   ·exact .inr h
   ·exact .inl h.symm)).1

abbrev QV (rs:List (List aH)):Prop:=rs.Pairwise fun a b=>jS a b<0

def vE (r:List aH):List (List aH)->List (List aH)
 | []=>[r]
 | x::xs=>if jS x r<0 then x::vE r xs else if x=r then x::xs else r::x::xs

def rowsOf (l:List aJ):List (List aH):=l.foldl (fun rs e=>vE e.Row rs) []

theorem NM {r x:List aH}:∀ {rs:List (List aH)},x∈vE r rs↔x=r∨x∈rs
 | []=>by simp [vE]
 | y::ys=>by
  unfold vE;split
  ·simp only [List.mem_cons,NM (rs:=ys)];constructor
   ·rintro (h | h | h)
    ·exact .inr (.inl h)
    ·exact .inl h
    ·exact .inr (.inr h)
   ·rintro (h | h | h)
    ·exact .inr (.inl h)
    ·exact .inl h
    ·exact .inr (.inr h)
  ·split
   ·rename_i h; subst h; simp
   ·simp

theorem aCa {r:List aH}:∀ {rs:List (List aH)},QV rs->QV (vE r rs)
 | [],_=>by simp [vE]
 | y::ys,hs=>by
  have hs':=List.pairwise_cons.1 hs;unfold vE;split
  ·rename_i h
   refine List.pairwise_cons.2 ⟨fun z hz=>?_,aCa hs'.2⟩;rcases NM.1 hz with rfl | hz
   ·exact h
   ·exact hs'.1 z hz
  ·rename_i h
   split
   ·exact hs
   ·rename_i hne
    have hlt:jS r y<0:=by
     have h0:jS y r≠0:=fun e=>hne ((vG.eq _ _).1 e);exact (vG.anti _ _).2 (by omega)
    refine List.pairwise_cons.2 ⟨fun z hz=>?_,hs⟩;rcases List.mem_cons.1 hz with rfl | hz
    ·exact hlt
    ·exact vG.trans _ _ _ hlt (hs'.1 z hz)

theorem PO:∀ (l:List aJ) (rs:List (List aH)),QV rs->QV (l.foldl (fun rs e=>vE e.Row rs) rs) /\ ∀ x,x∈l.foldl (fun rs e=>vE e.Row rs) rs↔x∈rs ∨ ∃ e∈l,e.Row=x
 | [],rs,hs=>⟨hs,by simp⟩
 | e::l,rs,hs=>by
  obtain⟨h1,h2⟩:=PO l (vE e.Row rs) (aCa hs);refine⟨h1,fun x=>?_⟩;simp only [List.foldl_cons];rw [h2 x,NM];simp only [List.mem_cons,exists_eq_or_imp];constructor
  ·rintro ((h | h) | h)
   ·exact .inr (.inl h.symm)
   ·exact .inl h
   ·exact .inr (.inr h)
  ·rintro (h | h | h)
   ·exact .inl (.inr h)
   ·exact .inl (.inl h.symm)
   ·exact .inr h

theorem aEz (l:List aJ):QV (rowsOf l):=(PO l [] List.Pairwise.nil).1

theorem NL {l:List aJ}{x:List aH}:x∈rowsOf l ↔ ∃ e∈l,e.Row=x:=by
 have:=(PO l [] List.Pairwise.nil).2 x
 simpa [rowsOf] using this

theorem aB4:∀ {a b:List (List aH)},QV a->QV b->(∀ x,x∈a↔x∈b)->a=b
 | [],[],_,_,_=>rfl
 | [],y::ys,_,_,h=>absurd ((h y).2 (by simp)) (by simp)
 | x::xs,[],_,_,h=>absurd ((h x).1 (by simp)) (by simp)
 | x::xs,y::ys,ha,hb,h=>by
  have ha':=List.pairwise_cons.1 ha;have hb':=List.pairwise_cons.1 hb
  have e:x=y:=by
   rcases List.mem_cons.1 ((h x).1 (by simp)) with h1 | h1
   ·exact h1
   ·rcases List.mem_cons.1 ((h y).2 (by simp)) with h2 | h2
    ·exact h2.symm
    ·exact absurd (vG.trans _ _ _ (hb'.1 x h1) (ha'.1 y h2)) xK
  subst e;rw [aB4 ha'.2 hb'.2 fun z=>?_];constructor
  ·intro hz;rcases List.mem_cons.1 ((h z).1 (by simp [hz])) with h1 | h1
   ·subst h1; exact absurd (ha'.1 z hz) xK
   ·exact h1
  ·intro hz;rcases List.mem_cons.1 ((h z).2 (by simp [hz])) with h1 | h1
   ·subst h1; exact absurd (hb'.1 z hz) xK
   ·exact h1

def PG (l:List aJ):List (List aH×List aM):=(rowsOf l).map fun r=>(r,dK l r)

theorem aDi {l:List aJ}{r:List aH}(h:∀ e∈l,e.Row≠r):dK l r=[]:=by
 unfold dK;rw [List.map_eq_nil_iff,List.filter_eq_nil_iff];intro e he
 simpa using h e he

theorem aC5 {l l':List aJ}(hp:l'.Perm l)(hs:Srt leE l'):(groups l').map (·.1)=rowsOf l:=by
 refine aB4 ?_ (aEz l) fun x=>?_
 ·rw [QV,List.pairwise_map]; exact OH hs
 ·rw [NL];constructor
  ·intro h;obtain⟨g,hg,rfl⟩:=List.mem_map.1 h;obtain⟨_,e,he,h1⟩:=NC hg;exact⟨e,hp.mem_iff.1 he,h1.symm⟩
  ·rintro ⟨e,he,rfl⟩;have he':e∈flat (groups l'):=by rw [DC]; exact hp.mem_iff.2 he
   obtain⟨g,hg,h1⟩:=List.mem_flatMap.1 he';obtain⟨j,_,rfl⟩:=List.mem_map.1 h1;exact List.mem_map.2 ⟨g,hg,rfl⟩

end Go.Abs
namespace Go.Abs
open Go
def vL:aH:=⟨1,1,ByteArray.empty⟩

end Go.Abs
namespace Go.Abs
open Go
theorem SG {σ:Type}{y:σ->List aH->List aM->Option (σ×Bool)}(c:List aJ):∀ (gs:List (List aH×List aM)) (s s':σ),itG y gs s=some s' ->
  ∃ x,itG (fun st t10 t11=>rnd (fun (s:σ)=>mW y c s t10 t11) st) gs (.inl s)=some x/\Sum.elim id id x=s'
 | [],s,s',h=>by simp only [itG,Option.some.injEq] at h; exact ⟨_,rfl,h⟩
 | g::gs,s,s',h=>by
  simp only [itG] at h;obtain⟨z,hz,h⟩:=aZ h
  have hl:mW y c s g.1 g.2=some (if z.2 then .inl z.1 else .inr z.1):=by
   unfold mW;rw [hz];obtain⟨z1,z2⟩:=z
   cases z2 <;> rfl
  cases h2:z.2
  ·rw [h2] at h hl;simp only [Bool.false_eq_true,if_false,Option.some.injEq] at h hl;refine⟨.inr z.1,?_,h⟩;simp [itG,rnd,hl]
  ·rw [h2] at h hl;simp only [if_true] at h hl;obtain⟨x,h3,h4⟩:=SG c gs z.1 s' h;refine⟨x,?_,h4⟩;simp only [itG,rnd,hl,Option.bind_some,Sum.isLeft_inl,if_true];exact h3

theorem VC {σ:Type}{y:σ->List aH->List aM->Option (σ×Bool)}{l:List aJ}(hl:okL l){s s':σ}(h:itG y (if iM l then groups l else []) s=some s'):pN y l s=some s':=by
 unfold pN;rw [ME hl]
 cases hm:iM l
 ·rw [hm] at h;simp only [Bool.false_eq_true,if_false,itG] at h
  simpa using h
 ·rw [hm] at h;simp only [if_true] at h;simp only [Option.bind_some,Bool.not_true,cond_false,zQ,uY];obtain⟨x,h1,h2⟩:=SG l (groups l) s s' h;rw [aDz hl h1]
  cases x <;> simpa using h2

theorem pG {l:List aJ}(hm:iM l=true){e:aJ}(he:e∈l):mB e.Row=true /\ -2<e.At/\e.At<1125899906842624/\e.Net≠0/\e.Net<=1048576 /\ -1048576<=e.Net:=by
 obtain⟨_,h2,_⟩:=lK hm;have he':e∈flat (groups l):=by rw [DC]; exact he
 obtain⟨g,hg,h1⟩:=List.mem_flatMap.1 he';obtain⟨j,hj,rfl⟩:=List.mem_map.1 h1;obtain⟨a,b⟩:=h2 g hg;exact⟨a,(mQ.1 b).2.above j hj⟩

theorem sB {l:List aJ}(hm:iM l=true)(r:List aH):gJ (dK l r)=true:=by
 rw [←CH (lK hm).2.2]; exact aFb hm r

end Go.Abs
namespace Go.Abs
open Go
theorem sG {l:List aJ}(hl:okL l)(hn:l.length<=1099511627776){r:List aH}:nH l r=some (dK l r):=by
 unfold nH BY;rw [jY (l:=l) (body:=fun s:List aM×Int=>oR l r s.1 s.2) (fun o i=>(o,i)) (fun o t=>o++dK t r) (fun o t=>o.length+t.length<=1099511627776) [] ?_ ?_ (by simpa using hn)]
 ·rfl
 ·intro i a t o ha hi;left;obtain⟨d1,d2,d3,d4⟩:=idx ha (by omega);simp only [List.length_cons] at hi;have hr:=hl.2 a (List.mem_of_getElem? ha)
  have hb:oR l r o (i:Int)=some (.inl (if a.Row=r then o++[jE a] else o,((i+1:Nat):Int))):=by
   simp only [oR,vS,d1,cond_true,aO d2,d3,d4,HT a.Row r (by omega),Option.bind_some];by_cases e:a.Row=r
   ·simp only [e,decide_true,cond_true,if_true];rw [aO (by simp only [List.length_cons,List.length_nil]; omega)]; rfl
   ·simp [e]
  refine⟨_,hb,?_,?_⟩
  ·split
   ·simp; omega
   ·omega
  ·by_cases e:a.Row=r <;> simp [dK,e]
 ·intro o _;show oR _ _ _ _=_;simp only [oR,eP,cond_false];simp [dK]

theorem TN (r:List aH):∀ rs:List (List aH),(vE r rs).length<=rs.length+1
 | []=>by simp [vE]
 | x::xs=>by
  unfold vE;split
  ·simp only [List.length_cons]; have:=TN r xs; omega
  ·split <;> simp

def CR (r:List aH):List (List aH)->Nat
 | []=>0
 | x::xs=>if jS x r<0 then CR r xs+1 else 0

theorem aDr (r:List aH):∀ rs,CR r rs<=rs.length
 | []=>by simp [CR]
 | x::xs=>by unfold CR; split <;> simp [aDr r xs]

theorem aBo (r:List aH):∀ rs,vE r rs=if rs[CR r rs]?=some r then rs else rs.take (CR r rs)++[r]++rs.drop (CR r rs)
 | []=>by simp [vE]
 | x::xs=>by
  unfold vE CR;by_cases h:jS x r<0
  ·rw [if_pos h,if_pos h,aBo r xs];simp only [List.getElem?_cons_succ,List.take_succ_cons,List.drop_succ_cons];split <;> simp
  ·rw [if_neg h,if_neg h];by_cases e:x=r <;> simp [e]

theorem WT {l:List aJ}{rs:List (List aH)}{e:aJ}{i:Nat}(hi:l[i]?=some e)(hl:okL l)(he:mB e.Row=true)(hr:∀ x∈rs,mB x=true)(hn:rs.length<=1099511627776):∀ (t:List (List aH)) (k:Nat),rs.drop k=t->k<=rs.length ->
  lp (fun s:List (List aH)×Int=>oE l (i:Int) s.1 s.2) (rs,(k:Int))=some (rs,((k+CR e.Row t:Nat):Int))
 | [],k,hd,hk=>by
  have : k=rs.length:=by
   have:=congrArg List.length hd;simp only [List.length_drop,List.length_nil] at this; omega
  subst this;refine cZ ?_;show oE _ _ _ _=_;simp only [oE,eP,cW,cond_false,Option.bind_some,Bool.false_and];rw [aO (fun h=>by cases h),aO (fun h=>by cases h)];simp [CR]
 | x::t,k,hd,hk=>by
  obtain⟨h1,h2⟩:=drop_cons hd;have hlt:=(List.getElem?_eq_some_iff.1 h1).1;obtain⟨d1,d2,d3,d4⟩:=idx h1 (by omega);obtain⟨_,c2,c3,_⟩:=idx hi (by have:=hl.1; omega);have hx:=hr x (List.mem_of_getElem? h1)
  have hb:(fun s:List (List aH)×Int=>oE l (i:Int) s.1 s.2) (rs,(k:Int))=some (if jS x e.Row<0 then .inl (rs,((k+1:Nat):Int)) else .inr (rs,(k:Int))):=by
   show oE _ _ _ _=_;simp only [oE,d1,cW,cond_true,d3,c3,d4,Bool.true_and];rw [aO (fun _=>d2),aO (fun _=>c2),QK x e.Row (by have:=(GL hx).1; omega) (by have:=(GL he).1; omega),hx,he];simp only [Bool.and_self,if_true,Option.bind_some];by_cases h:jS x e.Row<0 <;> simp [h]
  unfold CR;by_cases h:jS x e.Row<0
  ·rw [if_pos h] at hb;rw [eT hb,WT hi hl he hr hn t (k+1) h2 (by omega),if_pos h]
   congr 3; omega
  ·rw [if_neg h] at hb;rw [cZ hb,if_neg h]; rfl

theorem FV {l:List aJ}(hl:okL l)(hm:∀ e∈l,mB e.Row=true)(hn:l.length<=1099511627776):pL l=some (rowsOf l):=by
 unfold pL EA;rw [jY (l:=l) (body:=fun s:List (List aH)×Int=>pW l s.1 s.2) (fun o i=>(o,i)) (fun o t=>t.foldl (fun rs e=>vE e.Row rs) o) (fun o t=>o.length+t.length<=1099511627776 /\ ∀ x∈o,mB x=true) [] ?_ ?_ ⟨by simpa using hn,by simp⟩]
 ·rfl
 ·rintro i e t rs hi ⟨h1,h2⟩;left;obtain⟨d1,d2,d3,d4⟩:=idx hi (by omega);have he:=hm e (List.mem_of_getElem? hi);simp only [List.length_cons] at h1
  refine⟨vE e.Row rs,?_,⟨by have:=TN e.Row rs; omega,fun x hx=>by
   rcases NM.1 hx with rfl | h
   ·exact he
   ·exact h2 x h⟩,rfl⟩
  show pW _ _ _=_;have hin:=WT hi hl he h2 (by omega) rs 0 rfl (Nat.zero_le _);simp only [Int.natCast_zero,Nat.zero_add] at hin;have hple:=aDr e.Row rs;simp only [pW,d1,cond_true,DP,hin,Option.bind_some,yZ,yU,d3,d4];rw [aBo];by_cases hp:CR e.Row rs<rs.length
  ·have hx:rs[CR e.Row rs]?=some rs[CR e.Row rs]:=List.getElem?_eq_getElem hp;obtain⟨f1,f2,f3,_⟩:=idx hx (by omega);have hrow:=h2 _ (List.mem_of_getElem? hx);simp only [f1,f3,cW,cond_true,Bool.true_and];rw [aO (fun _=>f2),aO (fun _=>d2),HT _ _ (by have:=(GL hrow).1; omega)];by_cases hq:rs[CR e.Row rs]=e.Row
   ·simp [hq,hx]
   ·simp only [hq,decide_false,cond_false,Option.bind_some,hx,Option.some.injEq,if_false,Int.toNat_natCast];rw [aO ⟨by omega,by omega⟩,aO ⟨by simp; omega,by simp; omega⟩,aO d2,aO ⟨by simp; omega,by simp; omega⟩,aO ⟨by omega,by omega⟩,aO ⟨by simp; omega,by simp; omega⟩]
  ·have hpe:CR e.Row rs=rs.length:=by omega
   rw [hpe];simp only [eP,cW,cond_false,Option.bind_some,Bool.false_and];rw [aO (fun h=>by cases h),aO (fun h=>by cases h)];have hnone:rs[rs.length]?=none:=by simp
   simp only [hnone,reduceCtorEq,if_false,Int.toNat_natCast];rw [aO ⟨by omega,by omega⟩,aO ⟨by simp; omega,by simp; omega⟩,aO d2,aO ⟨by simp; omega,by simp; omega⟩,aO ⟨by omega,by omega⟩,aO ⟨by simp; omega,by simp; omega⟩]
 ·rintro rs ⟨_,_⟩;show pW _ _ _=_;simp only [pW,eP,cond_false];rfl

theorem OV:∀ (l:List aJ) (rs:List (List aH)),(l.foldl (fun rs e=>vE e.Row rs) rs).length<=rs.length+l.length
 | [],rs=>by simp
 | e::l,rs=>by
  have:=OV l (vE e.Row rs);have:=TN e.Row rs;simp only [List.foldl_cons,List.length_cons]; omega

theorem WO (l:List aJ):(rowsOf l).length<=l.length:=by
 have:=OV l []
 simpa [rowsOf] using this

end Go.Abs
namespace Go.Abs
open Go
abbrev ltE (x y:aJ):Prop:=jS x.Row y.Row<0∨(x.Row=y.Row/\x.At<y.At)

theorem aE0 {x y z:aJ}(h1:ltE x y)(h2:ltE y z):ltE x z:=by
 rcases h1 with h1 | ⟨h1,h1'⟩ <;> rcases h2 with h2 | ⟨h2,h2'⟩
 ·exact .inl (vG.trans _ _ _ h1 h2)
 ·exact .inl (h2 ▸ h1)
 ·exact .inl (h1 ▸ h2)
 ·exact .inr ⟨h1.trans h2,by omega⟩

theorem KV:∀ {f:List aM} {last:Int},vH last f↔(∀ j∈f,sZ last j=false)/\f.Pairwise fun a b=>a.At<b.At
 | [],last=>by simp [vH]
 | j::f,last=>by
  rw [List.pairwise_cons];unfold vH;rw [←oB];constructor
  ·rintro ⟨h1,h2⟩;have h3:=KV.1 h2;have h4:=oB.1 h1;refine⟨fun k hk=>?_,fun k hk=>(oB.1 (h3.1 k hk)).1,h3.2⟩;rcases List.mem_cons.1 hk with rfl | hk
   ·exact h1
   ·have:=oB.1 (h3.1 k hk);exact oB.2 (by omega)
  ·rintro ⟨h1,h2,h3⟩;refine⟨h1 j (by simp),KV.2 ⟨fun k hk=>?_,h3⟩⟩;have:=oB.1 (h1 k (by simp [hk]));have:=h2 k hk;exact oB.2 (by omega)

theorem JC {l:List aJ}:iM l=true↔l.length<=4096/\(∀ e∈l,mB e.Row=true/\sZ (-2) (jE e)=false)/\l.Pairwise ltE /\ ∀ r∈rowsOf l,(dK l r).length<=1024:=by
 constructor
 ·intro h;obtain⟨h1,h2,h3⟩:=lK h;refine⟨h1,fun e he=>?_,?_,fun r _=>(mQ.1 (sB h r)).1⟩
  ·obtain⟨a,b,c,d,e1,e2⟩:=pG h he;exact⟨a,oB.2 ⟨b,c,d,e1,e2⟩⟩
  ·rw [←DC l];unfold flat;rw [List.flatMap,List.pairwise_flatten,List.pairwise_map];constructor
   ·intro x hx;obtain⟨g,hg,rfl⟩:=List.mem_map.1 hx;have:=(KV.1 (mQ.1 (h2 g hg).2).2).2;rw [rX,List.pairwise_map];exact this.imp fun h=>.inr ⟨rfl,h⟩
   ·refine h3.imp fun {a b} h x hx y hy=>?_;obtain⟨j,_,rfl⟩:=List.mem_map.1 hx;obtain⟨k,_,rfl⟩:=List.mem_map.1 hy;exact .inl h
 ·rintro ⟨h1,h2,h3,h4⟩
  have hs:Srt leE l:=h3.imp fun h=>by
   rcases h with h | ⟨h,h'⟩
   ·exact .inl h
   ·exact .inr ⟨h,by omega⟩
  have hg:=OH hs;unfold iM;rw [Bool.and_eq_true];refine⟨by simpa using h1,EN.2 ⟨fun g hg'=>?_,hg,fun q hq=>by cases hq⟩⟩;obtain⟨_,e,he,h5⟩:=NC hg';have hj:g.2=dK l g.1:=by rw [←CH hg,OM hg hg']
  refine⟨by rw [h5]; exact (h2 e he).1,?_⟩;rw [hj];refine mQ.2 ⟨h4 _ (NL.2 ⟨e,he,h5.symm⟩),KV.2 ⟨fun j hj=>?_,?_⟩⟩
  ·obtain⟨e,he,rfl⟩:=List.mem_map.1 hj;exact (h2 e (List.mem_filter.1 he).1).2
  ·unfold dK;rw [List.pairwise_map,List.pairwise_filter];refine h3.imp fun {a b} h ha hb=>?_;rcases h with h | ⟨_,h⟩
   ·simp only [decide_eq_true_eq] at ha hb;rw [ha,hb] at h;exact absurd h xK
   ·exact h

theorem aGz {α:Type}{R:α->α->Prop}(ht:∀ {x y z},R x y->R y z->R x z){l:List α}:l.Pairwise R ↔ ∀ (i:Nat) (a b:α),l[i]?=some a->l[i+1]?=some b->R a b:=by
 constructor
 ·intro h i a b ha hb;obtain⟨h1,rfl⟩:=List.getElem?_eq_some_iff.1 ha;obtain⟨h2,rfl⟩:=List.getElem?_eq_some_iff.1 hb;exact List.pairwise_iff_getElem.1 h i (i+1) h1 h2 (by omega)
 ·intro h;refine List.pairwise_iff_getElem.2 fun i j hi hj hij=>?_;obtain⟨k,rfl⟩:∃ k,j=i+1+k:=⟨j-i-1,by omega⟩;clear hij
  induction k with
  | zero=>exact h i _ _ (List.getElem?_eq_getElem hi) (List.getElem?_eq_getElem hj)
  | succ k ih=>exact ht (ih (by omega)) (h (i+1+k) _ _ (List.getElem?_eq_getElem (by omega)) (List.getElem?_eq_getElem hj))

def XN (a b:List aH):Int:=if mB a&&mB b then jS a b else 0

def KO (l:List aJ)(i:Nat):Bool := !(mB (l.getD i default).Row && !sZ (-2) (jE (l.getD i default)))||(decide (i≠0)&&(decide (0<XN (l.getD (i-1) default).Row (l.getD i default).Row)||(decide (XN (l.getD (i-1) default).Row (l.getD i default).Row=0)&&decide ((l.getD i default).At<=(l.getD (i-1) default).At))))

theorem aAe {l:List aJ}:(List.range l.length).any (KO l)=false↔(∀ e∈l,mB e.Row=true/\sZ (-2) (jE e)=false)/\l.Pairwise ltE:=by
 rw [List.any_eq_false,aGz (R:=ltE) (fun h1 h2=>aE0 h1 h2)];constructor
 ·intro h;have h':∀ i,i<l.length->KO l i=false:=fun i hi=>by simpa using h i (List.mem_range.2 hi)
  refine⟨fun e he=>?_,fun i a b ha hb=>?_⟩
  ·obtain⟨i,hi,rfl⟩:=List.mem_iff_getElem.1 he;have:=h' i hi;unfold KO at this;rw [Bool.or_eq_false_iff] at this;have h1:=this.1;simp only [List.getD_eq_getElem?_getD,List.getElem?_eq_getElem hi,Option.getD_some,Bool.not_eq_false',Bool.and_eq_true,Bool.not_eq_true'] at h1;exact h1
  ·obtain⟨hi,rfl⟩:=List.getElem?_eq_some_iff.1 ha;obtain⟨hj,rfl⟩:=List.getElem?_eq_some_iff.1 hb;have:=h' (i+1) hj;have r1:=h' i hi;unfold KO at this r1;rw [Bool.or_eq_false_iff] at this r1;have h1:=this.2;have r2:=this.1;have r1:=r1.1;simp only [List.getD_eq_getElem?_getD,List.getElem?_eq_getElem hi,List.getElem?_eq_getElem hj,Option.getD_some,Bool.not_eq_false',Bool.and_eq_true,Bool.not_eq_true'] at r1 r2;simp only [List.getD_eq_getElem?_getD,Nat.add_sub_cancel,List.getElem?_eq_getElem hi,List.getElem?_eq_getElem hj,Option.getD_some,ne_eq,Nat.add_eq_zero_iff,Nat.one_ne_zero,and_false,not_false_eq_true,decide_true,Bool.true_and,Bool.or_eq_false_iff,decide_eq_false_iff_not,Bool.and_eq_false_iff,XN,r1.1,r2.1,Bool.and_self,if_true] at h1;by_cases hc:jS l[i].Row l[i+1].Row=0
   ·refine .inr ⟨(vG.eq _ _).1 hc,?_⟩;rcases h1.2 with h | h
    ·exact absurd hc h
    ·omega
   ·exact .inl (by omega)
 ·rintro ⟨h1,h2⟩ i hi;have hi:=List.mem_range.1 hi;unfold KO;have ge:l.getD i default=l[i]:=by simp [List.getD_eq_getElem?_getD,hi]
  have:=h1 l[i] (List.getElem_mem hi);rw [ge,this.1,this.2];by_cases h0:i=0
  ·simp [h0]
  ·have hi':i-1<l.length:=by omega
   have ge':l.getD (i-1) default=l[i-1]:=by simp [List.getD_eq_getElem?_getD,hi']
   have h3:=h2 (i-1) l[i-1] l[i] (List.getElem?_eq_getElem hi') (by rw [show i-1+1=i by omega]; exact List.getElem?_eq_getElem hi);rw [ge'];have r1:=(h1 l[i-1] (List.getElem_mem hi')).1;unfold XN;rw [r1,this.1];rcases h3 with h3 | ⟨h3,h4⟩
   ·have a:¬ 0<jS l[i-1].Row l[i].Row:=by omega
    have b:¬ jS l[i-1].Row l[i].Row=0:=by omega
    simp [a,b]
   ·have a:jS l[i-1].Row l[i].Row=0:=(vG.eq _ _).2 h3;have b:¬ l[i].At<=l[i-1].At:=by omega
    simp [a,b]

theorem FY {l:List aJ}(hl:okL l):qU l=some (iM l):=by
 unfold qU;by_cases hn:l.length<=4096
 ·have h1:decide ((4096:Int)<((l.length:Nat):Int))=false:=by simp; omega
  rw [h1,cond_false];unfold FZ;have hlp:=JX (body:=fun s=>qZ l s) (l:=List.range l.length) (fun i=>i) (KO l) (.inr false) (.inl ()) ?_ ?_
  ·rw [hlp]
   cases hb:(List.range l.length).any (KO l)
   ·obtain⟨h2,h3⟩:=aAe.1 hb;have hr:=FV hl (fun e he=>(h2 e he).1) (by omega);simp only [Bool.false_eq_true,if_false,Option.bind_some,Sum.elim_inl,BA,hr,GG];have hrl:=WO l;rw [JX (l:=rowsOf l) (fun i=>i) (fun r=>decide (1024<(dK l r).length)) (.inr false) (.inl ()) ?_ ?_]
    ·cases hc:(rowsOf l).any fun r=>decide (1024<(dK l r).length)
     ·have : iM l=true:=JC.2 ⟨hn,h2,h3,fun r hr=>by
       have:=List.any_eq_false.1 hc r hr;simp only [decide_eq_true_eq] at this; omega⟩
      rw [this]; rfl
     ·have : iM l=false:=by
       rw [Bool.eq_false_iff];intro hm;obtain⟨r,hr,h4⟩:=List.any_eq_true.1 hc;have:=(JC.1 hm).2.2.2 r hr;simp only [decide_eq_true_eq] at h4; omega
      rw [this]; rfl
    ·intro i r hi;obtain⟨d1,d2,d3,d4⟩:=idx hi (by omega);show tB _ _ _=_;simp only [tB,d1,cond_true,aO d2,d3,d4,sG hl (show l.length<=1099511627776 by omega),Option.bind_some];by_cases h:1024<(dK l r).length
     ·have h':(1024:Int)<(((dK l r).length:Nat):Int):=by omega
      simp [h,h']
     ·have h':¬ (1024:Int)<(((dK l r).length:Nat):Int):=by omega
      simp [h,h']
    ·show tB _ _ _=_;simp only [tB,eP,cond_false]
   ·have : iM l=false:=by
     rw [Bool.eq_false_iff];intro hm;obtain⟨_,h2,h3,_⟩:=JC.1 hm;have:=aAe.2 ⟨h2,h3⟩;rw [this] at hb; cases hb
    rw [this]; rfl
  ·intro i k hi;obtain⟨hi0,hk⟩:=List.getElem?_eq_some_iff.1 hi;rw [List.getElem_range] at hk;subst hk;have hi1:i<l.length:=by simpa using hi0
   have hx:=List.getElem?_eq_getElem hi1;obtain⟨d1,d2,d3,d4⟩:=idx hx (by omega);have hr:=hl.2 _ (List.getElem_mem hi1);have ge:l.getD i default=l[i]:=by simp [List.getD_eq_getElem?_getD,hi1]
   show qZ _ _=_;simp only [qZ,d1,cond_true,aO d2,d3,NJ l[i].Row (by omega),Option.bind_some];rw [aO (fun _=>d2),aO (fun _=>d2)]
   have hm:vI [⟨l[i].At,l[i].Net⟩]=some (!sZ (-2) (jE l[i])):=by
    rw [ZS];simp only [gJ,chk,List.length_cons,List.length_nil,jE]
    cases sZ (-2) ⟨l[i].At,l[i].Net⟩ <;> rfl
   rw [hm];unfold KO;rw [ge]
   cases h2:mB l[i].Row
   ·simp [cW]
   ·cases h3:sZ (-2) (jE l[i])
    ·simp only [cW,Bool.not_true,Bool.not_false,cond_true,Option.bind_some,Bool.or_self,cond_false,Bool.and_self];by_cases h0:i=0
     ·subst h0;simp [vW,cO]
     ·have hi':i-1<l.length:=by omega
      have hw:IntKind.i64.wrap ((i:Int)-1)=((i-1:Nat):Int):=by rw [cO (by omega) (by omega)]; omega
      have hx':=List.getElem?_eq_getElem hi';obtain⟨_,e2,e3,_⟩:=idx hx' (by omega);have ge':l.getD (i-1) default=l[i-1]:=by simp [List.getD_eq_getElem?_getD,hi']
      have hr':=hl.2 _ (List.getElem_mem hi');have hz:decide ((i:Int)=0)=false:=by simp; omega
      simp only [hz,cond_false,hw,aO e2,aO d2,e3,d3,ge'];rw [QK _ _ (by omega) (by omega),show (if (mB l[i-1].Row&&mB l[i].Row)=true then jS l[i-1].Row l[i].Row else 0)=XN l[i-1].Row l[i].Row from rfl];simp only [Option.bind_some,vW,d4];rw [aO (fun _=>e2),aO (fun _=>d2)]
      generalize XN l[i-1].Row l[i].Row=c
      cases hz2:(decide (0<c)||(decide (c=0)&&decide (l[i].At<=l[i-1].At)))
      ·simp
      ·simp [h0]
    ·simp [cW]
  ·show qZ _ _=_;simp only [qZ,List.length_range,eP,cond_false]
 ·have h1:decide ((4096:Int)<((l.length:Nat):Int))=true:=by simp; omega
  rw [h1,cond_true];simp [iM,hn]

end Go.Abs
namespace Go.Abs
open Go
theorem aDA {c:Int}:∀ {l:List Int} {m:Int},c<=l.foldl mn m↔c<=m /\ ∀ x∈l,c<=x
 | [],m=>by simp
 | a::l,m=>by
  rw [List.foldl_cons,aDA];unfold mn;constructor
  ·rintro ⟨h1,h2⟩;have h3:c<=m/\c<=a:=by split at h1 <;> omega
   refine⟨h3.1,fun x hx=>?_⟩;rcases List.mem_cons.1 hx with rfl | hx
   ·exact h3.2
   ·exact h2 x hx
  ·rintro ⟨h1,h2⟩;have:=h2 a (by simp);exact⟨by split <;> omega,fun x hx=>h2 x (by simp [hx])⟩

theorem ZV {t:Int}:∀ {f:List aM} {l v:Int},vH l f->v+val f t=v∨v+val f t∈parts v f
 | [],l,v,_=>.inl (by simp [val])
 | j::r,l,v,h=>by
  unfold parts;rw [mY];by_cases e:j.At<=t
  ·rw [if_pos e];right;rcases ZV (t:=t) (v:=v+j.Net) h.2 with h1 | h1
   ·rw [show v+(j.Net+val r t)=v+j.Net by omega]; simp
   ·rw [show v+(j.Net+val r t)=v+j.Net+val r t by omega]; exact List.mem_cons_of_mem _ h1
  ·left;rw [if_neg e,h.2.aGS (by omega)]; omega

theorem KR {f:List aM}(hf:gJ f=true):0<=AV f ↔ ∀ t,0<=val f t:=by
 have hr:=(mQ.1 hf).2;unfold AV;rw [aDA];constructor
 ·rintro ⟨_,h2⟩ t;rcases ZV (t:=t) (v:=0) hr with h | h
  ·omega
  ·rw [parts_eq hr] at h;obtain⟨j,hj,h⟩:=List.mem_map.1 h;have:=h2 _ (List.mem_map.2 ⟨j,hj,rfl⟩);omega
 ·intro h;refine⟨h _,fun x hx=>?_⟩;obtain⟨j,_,rfl⟩:=List.mem_map.1 hx;exact h _

theorem IJ {l:List aJ}:lC l=true↔iM l=true /\ ∀ r t,0<=val (dK l r) t:=by
 constructor
 ·intro h;unfold lC at h;rw [Bool.and_eq_true,EN] at h;obtain⟨h1,h2,h3,_⟩:=h
  have hm:iM l=true:=by
   unfold iM;rw [Bool.and_eq_true];exact⟨h1,EN.2 ⟨fun g hg=>⟨(h2 g hg).1,by have:=(h2 g hg).2; unfold YT at this; rw [Bool.and_eq_true] at this; exact this.1⟩,h3,fun q hq=>by cases hq⟩⟩
  refine⟨hm,fun r=>?_⟩;rw [←CH h3];rcases VF (groups l) r with ⟨e,_⟩ | ⟨g,hg,_,e⟩
  ·rw [e]; intro t; simp [val]
  ·rw [e];have:=(h2 g hg).2;unfold YT at this;rw [Bool.and_eq_true,decide_eq_true_eq] at this;exact (KR this.1).1 this.2
 ·rintro ⟨hm,h⟩;obtain⟨h1,h2,h3⟩:=lK hm;unfold lC;rw [Bool.and_eq_true];refine⟨by simpa using h1,EN.2 ⟨fun g hg=>⟨(h2 g hg).1,?_⟩,h3,fun q hq=>by cases hq⟩⟩;unfold YT;rw [Bool.and_eq_true,decide_eq_true_eq];refine⟨(h2 g hg).2,(KR (h2 g hg).2).2 ?_⟩;have : g.2=dK l g.1:=by rw [←CH h3,OM h3 hg]
  rw [this]; exact h g.1

theorem aCw {l:List aJ}{r:List aH}(h:r ∉ rowsOf l):dK l r=[] :=
 aDi fun e he hr=>h (NL.2 ⟨e,he,hr⟩)

theorem EX {l:List aJ}(hl:okL l):pT l=some (lC l):=by
 unfold pT;rw [FY hl]
 cases hm:iM l
 ·have : lC l=false:=by
   rw [Bool.eq_false_iff]; intro h;rw [(IJ.1 h).1] at hm; cases hm
  rw [this]; rfl
 ·obtain⟨h1,h2,_⟩:=JC.1 hm;simp only [Option.bind_some,Bool.not_true,cond_false,FV hl (fun e he=>(h2 e he).1) (show l.length<=1099511627776 by omega),CC];have hrl:=WO l;rw [JX (l:=rowsOf l) (fun i=>i) (fun r=>decide (AV (dK l r)<0)) (.inr false) (.inl ()) ?_ ?_]
  ·cases hc:(rowsOf l).any fun r=>decide (AV (dK l r)<0)
   ·have : lC l=true:=IJ.2 ⟨hm,fun r=>by
     by_cases hr:r∈rowsOf l
     ·have:=List.any_eq_false.1 hc r hr;simp only [decide_eq_true_eq] at this;exact (KR (sB hm r)).1 (by omega)
     ·rw [aCw hr]; intro t; simp [val]⟩
    rw [this]; rfl
   ·have : lC l=false:=by
     rw [Bool.eq_false_iff]; intro h;obtain⟨r,_,hr⟩:=List.any_eq_true.1 hc;simp only [decide_eq_true_eq] at hr;have:=(KR (sB hm r)).2 ((IJ.1 h).2 r);omega
    rw [this]; rfl
  ·intro i r hi;obtain⟨d1,d2,d3,d4⟩:=idx hi (by omega);show qL _ _ _=_;simp only [qL,d1,cond_true,aO d2,d3,d4,sG hl (show l.length<=1099511627776 by omega),Option.bind_some,aDe,sB hm r,if_true];by_cases h:AV (dK l r)<0 <;> simp [h]
  ·show qL _ _ _=_;simp only [qL,eP,cond_false]

end Go.Abs
namespace Go.Abs
open Go
theorem zI {l:List aJ}(hm:iM l=true):PG l=groups l:=by
 obtain⟨_,_,hp,_⟩:=JC.1 hm
 have hs:Srt leE l:=hp.imp fun h=>by
  rcases h with h | ⟨h,h'⟩
  ·exact .inl h
  ·exact .inr ⟨h,by omega⟩
 have hg:=OH hs;unfold PG;rw [←aC5 (List.Perm.refl l) hs,List.map_map]
 conv=>rhs; rw [←List.map_id (groups l)]
 refine List.map_congr_left fun g hg'=>?_;simp only [Function.comp,id];rw [←CH hg,OM hg hg']

end Go.Abs
namespace Go.Abs
open Go
abbrev gN (d:List Int)(i:Nat):Int:=d.getD i default

def swp (d:List Int)(i j:Nat):List Int:=(d.set i (gN d j)).set j (gN d i)

theorem aFG {d:List Int}{i k:Nat}{x:Int}(h:i<d.length):gN (d.set i x) k=if k=i then x else gN d k:=by
 simp only [gN,List.getD_eq_getElem?_getD,List.getElem?_set];by_cases e:i=k
 ·subst e; simp [h]
 ·rw [if_neg e,if_neg (fun h=>e h.symm)]

theorem jF (d:List Int)(i j:Nat):(swp d i j).length=d.length:=by simp [swp]

theorem zK {d:List Int}{i j:Nat}(hi:i<d.length)(hj:j<d.length)(k:Nat):gN (swp d i j) k=if k=j then gN d i else if k=i then gN d j else gN d k:=by
 unfold swp;rw [aFG (by simpa using hj),aFG hi]

theorem aGR {d:List Int}{i j:Nat}(hi:i<d.length)(hj:j<d.length):(swp d i j).Perm d:=by
 have h1:gN d i=d[i]:=by simp [gN,List.getD_eq_getElem?_getD,List.getElem?_eq_getElem hi]
 have h2:gN d j=d[j]:=by simp [gN,List.getD_eq_getElem?_getD,List.getElem?_eq_getElem hj]
 unfold swp;rw [h1,h2];exact List.set_set_perm hi hj

structure Rel (a b:Nat) (d d':List Int):Prop where
 len:d'.length=d.length
 perm:d'.Perm d
 out:∀ k,k<a∨b<=k->gN d' k=gN d k
 src:∀ k,a<=k->k<b -> ∃ k',a<=k'/\k'<b/\gN d' k=gN d k'

theorem Rel.refl (a b:Nat)(d:List Int):Rel a b d d:=⟨rfl,.refl _,fun _ _=>rfl,fun k h1 h2=>⟨k,h1,h2,rfl⟩⟩

theorem Rel.trans {a b:Nat}{d d' d'':List Int}(h:Rel a b d d')(h':Rel a b d' d''):Rel a b d d'' :=
 ⟨h'.len.trans h.len,h'.perm.trans h.perm,fun k hk=>(h'.out k hk).trans (h.out k hk),fun k h1 h2=>by
  obtain⟨k1,a1,a2,a3⟩:=h'.src k h1 h2;obtain⟨k2,b1,b2,b3⟩:=h.src k1 a1 a2;exact⟨k2,b1,b2,a3.trans b3⟩⟩

theorem Rel.mono {a b a' b':Nat}{d d':List Int}(h:Rel a b d d')(h1:a'<=a)(h2:b<=b'):Rel a' b' d d' :=
 ⟨h.len,h.perm,fun k hk=>h.out k (by omega),fun k k1 k2=>by
  by_cases hk:a<=k/\k<b
  ·obtain⟨k',c1,c2,c3⟩:=h.src k hk.1 hk.2;exact⟨k',by omega,by omega,c3⟩
  ·exact⟨k,k1,k2,h.out k (by omega)⟩⟩

theorem Rel.swp {a b:Nat}{d:List Int}{i j:Nat}(hi:i<d.length)(hj:j<d.length)(h1:a<=i/\i<b)(h2:a<=j/\j<b):Rel a b d (swp d i j) :=
 ⟨jF ..,aGR hi hj,fun k hk=>by rw [zK hi hj,if_neg (by omega),if_neg (by omega)],fun k k1 k2=>by
  rw [zK hi hj];split
  ·exact⟨i,h1.1,h1.2,rfl⟩
  ·split
   ·exact⟨j,h2.1,h2.2,rfl⟩
   ·exact⟨k,k1,k2,rfl⟩⟩

theorem Rel.all {a b:Nat}{d d':List Int}(h:Rel a b d d'){p:Int->Prop}(hp:∀ k,a<=k->k<b->p (gN d k)):∀ k,a<=k->k<b->p (gN d' k):=fun k k1 k2=>by
 obtain⟨k',c1,c2,c3⟩:=h.src k k1 k2;rw [c3]; exact hp k' c1 c2

def tZ (a b:Nat)(d:List Int):Prop:=∀ p q,a<=p->p<=q->q<b->gN d p<=gN d q

theorem xR (a b:Int):eG a b=some (decide (a<b)):=by simp [eG,mJ,cW]

theorem wrN {x:Int}{n:Nat}(h:x=(n:Int))(hn:n<=9000000000000000000):IntKind.i64.wrap x=(n:Int):=by
 rw [cO (by omega) (by omega),h]

theorem asN {i n:Nat}(h:i<n):0<=(i:Int)/\(i:Int)<((n:Nat):Int):=by omega

theorem aBM {a b i:Int}{d:List Int}{lo j:Nat}(ha:a=(lo:Nat))(h1:lo<=j)(hj:j<d.length)(hl:d.length<4611686018427387904) :
  gF a b i d (j:Nat)=if lo<j/\gN d j<gN d (j-1) then some (.inl (swp d j (j-1),((j-1:Nat):Int))) else some (.inr d):=by
 subst ha;unfold gF;by_cases h:lo<j
 ·have e1:IntKind.i64.wrap ((j:Int)-1)=((j-1:Nat):Int):=wrN (by omega) (by omega);have d1:decide (((lo:Nat):Int)<((j:Nat):Int))=true:=by simp; omega
  rw [e1,d1];simp only [true_and,Int.toNat_natCast,xR,cW,cond_true,Option.bind_some,Bool.true_and];rw [aO fun _=>asN hj,aO fun _=>asN (by omega)];by_cases h2:gN d j<gN d (j-1)
  ·rw [if_pos ⟨h,h2⟩];simp only [gN] at h2;simp only [h2,decide_true,cond_true];rw [aO (asN (by omega)),aO (asN hj),aO (asN hj),aO (asN (by omega))];rfl
  ·rw [if_neg (fun hh=>h2 hh.2)];simp only [gN] at h2;simp only [h2,decide_false,cond_false]
 ·have d1:decide (((lo:Nat):Int)<((j:Nat):Int))=false:=by simp; omega
  rw [if_neg (fun hh=>h hh.1),d1];simp only [Bool.false_eq_true,false_implies,cW,cond_false,Option.bind_some,Bool.false_and];rw [aO trivial,aO trivial]

structure PN (a j i:Nat) (d:List Int):Prop where
 oth:∀ p q,a<=p->p<=q->q<=i->p≠j->q≠j->gN d p<=gN d q
 up:∀ q,j<q->q<=i->gN d j<=gN d q

theorem PN.done {a j i:Nat}{d:List Int}(h:PN a j i d)(hj:a<=j)(hn:¬ (a<j/\gN d j<gN d (j-1))):tZ a (i+1) d:=by
 intro p q h1 h2 h3;by_cases hp:p=j
 ·by_cases hq:q=j
  ·subst hp; subst hq; exact Int.le_refl _
  ·subst hp; exact h.up q (by omega) (by omega)
 ·by_cases hq:q=j
  ·subst hq;have h4:¬ gN d q<gN d (q-1):=fun hh=>hn ⟨by omega,hh⟩;have:=h.oth p (q-1) h1 (by omega) (by omega) hp (by omega);omega
  ·exact h.oth p q h1 h2 (by omega) hp hq

theorem PN.next {a j i:Nat}{d:List Int}(h:PN a j i d)(hj:a<j)(hji:j<=i)(hi:i<d.length)(hlt:gN d j<gN d (j-1)):PN a (j-1) i (swp d j (j-1)):=by
 have g:=zK (d:=d) (i:=j) (j:=j-1) (by omega) (by omega);refine⟨fun p q h1 h2 h3 hp hq=>?_,fun q h1 h2=>?_⟩
 ·rw [g,g,if_neg hp,if_neg hq];by_cases hpj:p=j
  ·rw [if_pos hpj];by_cases hqj:q=j
   ·rw [if_pos hqj]; exact Int.le_refl _
   ·rw [if_neg hqj]; exact h.oth (j-1) q (by omega) (by omega) h3 (by omega) hqj
  ·rw [if_neg hpj];by_cases hqj:q=j
   ·rw [if_pos hqj]; exact h.oth p (j-1) h1 (by omega) (by omega) hpj (by omega)
   ·rw [if_neg hqj]; exact h.oth p q h1 h2 h3 hpj hqj
 ·rw [g,g,if_pos rfl,if_neg (by omega)];by_cases hqj:q=j
  ·rw [if_pos hqj]; omega
  ·rw [if_neg hqj]; exact h.up q (by omega) h2

theorem aIJ {a b i:Int}{lo hi:Nat}(ha:a=(lo:Nat)):∀ (j:Nat) (d:List Int),lo<=j->j<=hi->hi<d.length->d.length<4611686018427387904->PN lo j hi d ->
  ∃ d',lp (fun s:List Int×Int=>gF a b i s.1 s.2) (d,(j:Int))=some d'/\Rel lo (hi+1) d d'/\tZ lo (hi+1) d':=by
 intro j
 induction j with
 | zero =>
  intro d h1 h2 h3 h4 h5;have hs:=aBM (a:=a) (b:=b) (i:=i) ha h1 (by omega) h4 (d:=d);rw [if_neg (by omega)] at hs;exact⟨d,cZ hs,Rel.refl ..,h5.done h1 (by omega)⟩
 | succ j ih =>
  intro d h1 h2 h3 h4 h5;have hs:=aBM (a:=a) (b:=b) (i:=i) ha h1 (by omega) h4 (d:=d);by_cases h:lo<j+1/\gN d (j+1)<gN d (j+1-1)
  ·rw [if_pos h] at hs;obtain⟨d',e,r,s⟩:=ih (swp d (j+1) (j+1-1)) (by omega) (by omega) (by rw [jF]; omega) (by rw [jF]; omega) (h5.next h.1 h2 h3 h.2);exact⟨d',(eT hs).trans e,(Rel.swp (by omega) (by omega) (by omega) (by omega)).trans r,s⟩
  ·rw [if_neg h] at hs;exact⟨d,cZ hs,Rel.refl ..,h5.done h1 h⟩

theorem aDl {a b:Int}{lo hi:Nat}(ha:a=(lo:Nat))(hb:b=(hi:Nat)):∀ (n i:Nat) (d:List Int),hi-i=n->lo<i->hi<=d.length->d.length<4611686018427387904->tZ lo i d->(i<=hi∨hi<=i) ->
  ∃ d',lp (fun s:List Int×Int=>eS a b s.1 s.2) (d,(i:Int))=some d'/\Rel lo hi d d'/\tZ lo hi d':=by
 intro n
 induction n with
 | zero =>
  intro i d h1 h2 h3 h4 h5 _;refine⟨d,cZ ?_,Rel.refl ..,fun p q p1 p2 p3=>h5 p q p1 p2 (by omega)⟩;show eS _ _ _ _=_;have : decide (((i:Nat):Int)<b)=false:=by simp; omega
  simp only [eS,this,cond_false]
 | succ n ih =>
  intro i d h1 h2 h3 h4 h5 _;obtain⟨d1,e,r,s⟩:=aIJ (a:=a) (b:=b) (i:=(i:Int)) (hi:=i) ha i d (by omega) (Nat.le_refl _) (by omega) h4 ⟨fun p q p1 p2 p3 p4 p5=>h5 p q p1 p2 (by omega),fun q q1 q2=>by omega⟩;obtain⟨d2,e2,r2,s2⟩:=ih (i+1) d1 (by omega) (by omega) (by rw [r.len]; exact h3) (by rw [r.len]; exact h4) s (by omega);refine⟨d2,?_,(r.mono (Nat.le_refl _) (by omega)).trans r2,s2⟩;rw [eT (s':=(d1,((i+1:Nat):Int))) ?_,e2];show eS _ _ _ _=_;have : decide (((i:Nat):Int)<b)=true:=by simp; omega
  simp only [eS,this,cond_true,kX];rw [e];simp only [Option.bind_some,iS];rw [wrN (n:=i+1) (by omega) (by omega)]

theorem TM (lo:Nat)(d:List Int):tZ lo (lo+1) d:=fun p q p1 p2 p3=>by
 have : p=q:=by omega
 subst this;exact Int.le_refl _

theorem aG6 {lo hi:Nat}{d:List Int}(h3:hi<=d.length)(h4:d.length<4611686018427387904)(h0:lo<=hi):∃ d',jA d (lo:Int) (hi:Int)=some d'/\Rel lo hi d d'/\tZ lo hi d':=by
 unfold jA kT;obtain⟨d',e,r,s⟩:=aDl (a:=(lo:Int)) (b:=(hi:Int)) (lo:=lo) (hi:=hi) rfl rfl (hi-(lo+1)) (lo+1) d rfl (by omega) h3 h4 (TM lo d) (by omega);rw [wrN (n:=lo+1) (by omega) (by omega),e];exact⟨d',rfl,r,s⟩

theorem aIt {lo hi:Nat}:∀ (n i j:Nat) (d:List Int),j+1-i=n->lo<=i->j+1<=hi∨j<=i->hi<=d.length->d.length<4611686018427387904->i<4611686018427387904->j<4611686018427387904 ->
  ∃ d',lp (fun s:List Int×Int×Int=>eZ s.1 s.2.1 s.2.2) (d,(i:Int),(j:Int))=some d'/\Rel lo hi d d':=by
 intro n
 induction n using Nat.strongRecOn with
 | ind n ih =>
  intro i j d h1 h2 h3 h4 h5 h6 h7;by_cases h:i<j
  ·obtain⟨d',e,r⟩:=ih (j-1+1-(i+1)) (by omega) (i+1) (j-1) (swp d i j) rfl (by omega) (by omega) (by rw [jF]; exact h4) (by rw [jF]; exact h5) (by omega) (by omega);refine⟨d',?_,(Rel.swp (by omega) (by omega) (by omega) (by omega)).trans r⟩;rw [eT (s':=(swp d i j,((i+1:Nat):Int),((j-1:Nat):Int))) ?_,e];show eZ _ _ _=_;have : decide (((i:Nat):Int)<((j:Nat):Int))=true:=by simp; omega
   simp only [eZ,this,cond_true,Int.toNat_natCast];rw [aO (asN (by omega)),aO (asN (by omega)),aO (asN (by omega)),aO (asN (by omega)),wrN (n:=i+1) (by omega) (by omega),wrN (n:=j-1) (by omega) (by omega)];rfl
  ·refine⟨d,cZ ?_,Rel.refl ..⟩;show eZ _ _ _=_;have : decide (((i:Nat):Int)<((j:Nat):Int))=false:=by simp; omega
   simp only [eZ,this,cond_false]

theorem aF9 {lo hi:Nat}{d:List Int}(h0:lo<hi)(h3:hi<=d.length)(h4:d.length<4611686018427387904):∃ d',jM d (lo:Int) (hi:Int)=some d'/\Rel lo hi d d':=by
 unfold jM lG;obtain⟨d',e,r⟩:=aIt (lo:=lo) (hi:=hi) (hi-1+1-lo) lo (hi-1) d rfl (Nat.le_refl _) (by omega) h3 h4 (by omega) (by omega);rw [wrN (n:=hi-1) (by omega) (by omega),e];exact⟨d',rfl,r⟩

end Go.Abs
namespace Go.Abs
open Go
def EW (f hi:Nat)(d:List Int)(r:Nat):Nat:=if 2*r+2<hi/\gN d (f+(2*r+1))<gN d (f+(2*r+2)) then 2*r+2 else 2*r+1

theorem YC {f hi r c:Nat}{d:List Int}(hf:f+hi<=d.length)(hr:r<hi)(hc:c<hi)(hl:d.length<2305843009213693951) :
  iW d (hi:Nat) (f:Nat) (r:Nat) (c:Nat)=if gN d (f+r)<gN d (f+c) then some (.inl (swp d (f+r) (f+c),(c:Int))) else some (.inr (.inr d)):=by
 unfold iW;have e1:IntKind.i64.wrap ((f:Int)+(r:Int))=((f+r:Nat):Int):=wrN (by omega) (by omega);have e2:IntKind.i64.wrap ((f:Int)+(c:Int))=((f+c:Nat):Int):=wrN (by omega) (by omega);rw [e1,e2];simp only [Int.toNat_natCast,xR,Option.bind_some];rw [aO (asN (by omega)),aO (asN (by omega))];by_cases h:gN d (f+r)<gN d (f+c)
 ·rw [if_pos h];simp only [gN] at h;simp only [h,decide_true,Bool.not_true,cond_false];rw [aO (asN (by omega)),aO (asN (by omega)),aO (asN (by omega)),aO (asN (by omega))];rfl
 ·rw [if_neg h];simp only [gN] at h;simp only [h,decide_false,Bool.not_false,cond_true]

theorem aFZ {f hi r:Nat}{d:List Int}(hf:f+hi<=d.length)(hr:r<hi)(hl:d.length<2305843009213693951) :
  eO (hi:Nat) (f:Nat) d (r:Nat)=if hi<=2*r+1 then some (.inr (.inl d)) else if gN d (f+r)<gN d (f+EW f hi d r) then some (.inl (swp d (f+r) (f+EW f hi d r),(EW f hi d r:Int))) else some (.inr (.inr d)):=by
 unfold eO
 have e1:IntKind.i64.wrap (IntKind.i64.wrap ((2:Int)*(r:Int))+1)=((2*r+1:Nat):Int):=by
  rw [wrN (x:=(2:Int)*(r:Int)) (n:=2*r) (by omega) (by omega)]; exact wrN (by omega) (by omega)
 have e2:IntKind.i64.wrap (((2*r+1:Nat):Int)+1)=((2*r+2:Nat):Int):=wrN (by omega) (by omega);simp only [e1,e2];by_cases h:hi<=2*r+1
 ·rw [if_pos h];have : decide (((hi:Nat):Int)<=((2*r+1:Nat):Int))=true:=by simp; omega
  rw [this,cond_true]
 ·rw [if_neg h];have d1:decide (((hi:Nat):Int)<=((2*r+1:Nat):Int))=false:=by simp; omega
  rw [d1,cond_false];by_cases h2:2*r+2<hi
  ·have d2:decide (((2*r+2:Nat):Int)<((hi:Nat):Int))=true:=by simp; omega
   have e3:IntKind.i64.wrap ((f:Int)+((2*r+1:Nat):Int))=((f+(2*r+1):Nat):Int):=wrN (by omega) (by omega);have e4:IntKind.i64.wrap (((f+(2*r+1):Nat):Int)+1)=((f+(2*r+2):Nat):Int):=wrN (by omega) (by omega);simp only [d2,e3,e4,Int.toNat_natCast,xR,cW,cond_true,Option.bind_some,Bool.true_and];rw [aO fun _=>asN (by omega),aO fun _=>asN (by omega)];by_cases h3:gN d (f+(2*r+1))<gN d (f+(2*r+2))
   ·have hb:EW f hi d r=2*r+2:=if_pos ⟨h2,h3⟩;simp only [gN] at h3;simp only [h3,decide_true,cond_true];rw [YC hf hr h2 hl,hb]
   ·have hb:EW f hi d r=2*r+1:=if_neg fun hh=>h3 hh.2;simp only [gN] at h3;simp only [h3,decide_false,cond_false];rw [YC hf hr (by omega) hl,hb]
  ·have d2:decide (((2*r+2:Nat):Int)<((hi:Nat):Int))=false:=by simp; omega
   have hb:EW f hi d r=2*r+1:=if_neg fun hh=>h2 hh.1;simp only [d2,Bool.false_eq_true,false_implies,cW,cond_false,Option.bind_some,Bool.false_and];rw [aO trivial,aO trivial,YC hf hr (by omega) hl,hb]

def chd (c p:Nat):Prop:=c=2*p+1∨c=2*p+2

def Hp (f lo hi:Nat)(d:List Int):Prop:=∀ i c,lo<=i->chd c i->c<hi->gN d (f+c)<=gN d (f+i)

structure HpX (f lo hi r:Nat) (d:List Int):Prop where
 oth:∀ i c,lo<=i->i≠r->chd c i->c<hi->gN d (f+c)<=gN d (f+i)
 up:∀ p c,lo<=p->chd r p->chd c r->c<hi->gN d (f+c)<=gN d (f+p)

theorem aFO {f hi r:Nat}{d:List Int}(h:¬ hi<=2*r+1):chd (EW f hi d r) r/\EW f hi d r<hi /\ ∀ c,chd c r->c<hi->gN d (f+c)<=gN d (f+EW f hi d r):=by
 unfold EW;split
 ·rename_i h1
  refine⟨.inr rfl,h1.1,fun c hc hlt=>?_⟩;rcases hc with rfl | rfl
  ·omega
  ·exact Int.le_refl _
 ·rename_i h1
  refine⟨.inl rfl,by omega,fun c hc hlt=>?_⟩;rcases hc with rfl | rfl
  ·exact Int.le_refl _
  ·have : ¬ gN d (f+(2*r+1))<gN d (f+(2*r+2)):=fun hh=>h1 ⟨hlt,hh⟩;omega

theorem HpX.done {f lo hi r:Nat}{d:List Int}(h:HpX f lo hi r d)(hr:∀ c,chd c r->c<hi->gN d (f+c)<=gN d (f+r)):Hp f lo hi d:=by
 intro i c h1 h2 h3;by_cases e:i=r
 ·subst e; exact hr c h2 h3
 ·exact h.oth i c h1 e h2 h3

theorem HpX.next {f lo hi r c:Nat}{d:List Int}(h:HpX f lo hi r d)(hf:f+hi<=d.length)(hlo:lo<=r)(hrh:r<hi)(hc:chd c r)(hch:c<hi)(hbig:∀ k,chd k r->k<hi->gN d (f+k)<=gN d (f+c))(hlt:gN d (f+r)<gN d (f+c)):HpX f lo hi c (swp d (f+r) (f+c)):=by
 have g:=zK (d:=d) (i:=f+r) (j:=f+c) (by omega) (by omega);have hcr:r<c:=by unfold chd at hc; omega
 refine⟨fun i k h1 h2 h3 h4=>?_,fun p k h1 h2 h3 h4=>?_⟩
 ·rw [g,g,if_neg (show ¬ f+i=f+c by omega)];by_cases hir:i=r
  ·subst hir;rw [if_pos (show f+i=f+i from rfl)];by_cases hkc:k=c
   ·subst hkc; rw [if_pos rfl]; omega
   ·rw [if_neg (by omega),if_neg (by unfold chd at h3; omega)];exact hbig k h3 h4
  ·rw [if_neg (show ¬ f+i=f+r by omega)];have hkc:k≠c:=by intro e; subst e; unfold chd at h3 hc; omega
   rw [if_neg (by omega)];by_cases hkr:k=r
   ·subst hkr;rw [if_pos rfl];exact h.up i c h1 h3 hc hch
   ·rw [if_neg (by omega)];exact h.oth i k h1 hir h3 h4
 ·have hp:p=r:=by unfold chd at h2 hc; omega
  subst hp;have hk:c<k:=by unfold chd at h3; omega
  rw [g,g,if_neg (by omega),if_neg (by omega),if_neg (by omega),if_pos rfl];exact h.oth c k (by omega) (by omega) h3 h4

theorem aHp {f lo hi:Nat}:∀ (n r:Nat) (d:List Int),hi-r=n->f+hi<=d.length->lo<=r->r<hi->d.length<2305843009213693951->HpX f lo hi r d ->
  ∃ d',(lp (fun s:List Int×Int=>eO (hi:Nat) (f:Nat) s.1 s.2) (d,(r:Int))=some (.inl d')∨lp (fun s:List Int×Int=>eO (hi:Nat) (f:Nat) s.1 s.2) (d,(r:Int))=some (.inr d'))/\Rel f (f+hi) d d'/\Hp f lo hi d':=by
 intro n
 induction n using Nat.strongRecOn with
 | ind n ih =>
  intro r d h1 h2 h3 h4 h5 h6;have hs:=aFZ h2 h4 h5;by_cases h:hi<=2*r+1
  ·rw [if_pos h] at hs;exact⟨d,.inl (cZ hs),Rel.refl ..,h6.done fun c hc hlt=>by unfold chd at hc; omega⟩
  ·rw [if_neg h] at hs;obtain⟨b1,b2,b3⟩:=aFO (f:=f) (d:=d) h;by_cases hlt:gN d (f+r)<gN d (f+EW f hi d r)
   ·rw [if_pos hlt] at hs;have hb:r<EW f hi d r:=by unfold chd at b1; omega
    obtain⟨d',e,rl,hp⟩:=ih (hi-EW f hi d r) (by omega) (EW f hi d r) _ rfl (by rw [jF]; exact h2) (by omega) b2 (by rw [jF]; exact h5) (h6.next h2 h3 h4 b1 b2 b3 hlt);exact⟨d',e.imp (fun e=>(eT hs).trans e) (fun e=>(eT hs).trans e),(Rel.swp (by omega) (by omega) (by omega) (by omega)).trans rl,hp⟩
   ·rw [if_neg hlt] at hs;exact⟨d,.inr (cZ hs),Rel.refl ..,h6.done fun c hc hc2=>by have:=b3 c hc hc2; omega⟩

theorem aDq {f lo hi:Nat}{d:List Int}(h2:f+hi<=d.length)(h5:d.length<2305843009213693951)(hlo:lo<2305843009213693951)(h6:HpX f lo hi lo d) :
  ∃ d',gZ d (lo:Nat) (hi:Nat) (f:Nat)=some d'/\Rel f (f+hi) d d'/\Hp f lo hi d':=by
 unfold gZ mT;by_cases h:lo<hi
 ·obtain⟨d',e,r,p⟩:=aHp (hi-lo) lo d rfl h2 (Nat.le_refl _) h h5 h6;rcases e with e | e <;> rw [e] <;> exact ⟨d',rfl,r,p⟩
 ·refine⟨d,?_,Rel.refl ..,fun i c h1 hc hlt=>by unfold chd at hc; omega⟩
  have hs:eO (hi:Nat) (f:Nat) d (lo:Nat)=some (.inr (.inl d)):=by
   unfold eO
   have e1:IntKind.i64.wrap (IntKind.i64.wrap ((2:Int)*(lo:Int))+1)=((2*lo+1:Nat):Int):=by
    rw [wrN (x:=(2:Int)*(lo:Int)) (n:=2*lo) (by omega) (by omega)]; exact wrN (by omega) (by omega)
   have : decide (((hi:Nat):Int)<=((2*lo+1:Nat):Int))=true:=by simp; omega
   simp only [e1,this,cond_true]
  rw [cZ (show (fun s:List Int×Int=>eO (hi:Nat) (f:Nat) s.1 s.2) (d,(lo:Int))=_ from hs)];rfl

theorem aFP {f k:Nat}{d:List Int}(h:Hp f 0 k d):∀ i,i<k->gN d (f+i)<=gN d f:=by
 intro i
 induction i using Nat.strongRecOn with
 | ind i ih =>
  intro hi;by_cases h0:i=0
  ·subst h0; exact Int.le_refl _
  ·have h1:=h ((i-1) / 2) i (Nat.zero_le _) (by unfold chd; omega) hi;have h2:=ih ((i-1) / 2) (by omega) (by omega);omega

theorem aDN {f hi:Nat}:∀ (k:Nat) (d:List Int),f+hi<=d.length->k<2305843009213693951->d.length<2305843009213693951->Hp f k hi d ->
  ∃ d',lp (fun s:List Int×Int=>fJ (f:Nat) 0 (hi:Nat) s.1 s.2) (d,(k:Int)-1)=some d'/\Rel f (f+hi) d d'/\Hp f 0 hi d'
 | 0,d,_,_,_,h=>by
  refine⟨d,cZ ?_,Rel.refl ..,h⟩;show fJ _ _ _ _ _=_;have : decide ((0:Int)<=((0:Nat):Int)-1)=false:=by simp
  simp only [fJ,this,cond_false]
 | k+1,d,h1,h2,h3,h=>by
  obtain⟨d1,e,r,p⟩:=aDq (f:=f) (lo:=k) (hi:=hi) h1 h3 (by omega) ⟨fun i c a1 a2 a3 a4=>h i c (by omega) a3 a4,fun p c a1 a2=>by unfold chd at a2; omega⟩;obtain⟨d2,e2,r2,p2⟩:=aDN (f:=f) (hi:=hi) k d1 (by rw [r.len]; exact h1) (by omega) (by rw [r.len]; exact h3) p;refine⟨d2,?_,r.trans r2,p2⟩;rw [eT (s':=(d1,(k:Int)-1)) ?_,e2];show fJ _ _ _ _ _=_;have g1:(((k+1:Nat):Int)-1)=(k:Int):=by omega
  have g2:decide ((0:Int)<=(k:Int))=true:=by simp
  simp only [fJ,g1,g2,cond_true,e,Option.bind_some];rw [cO (by omega) (by omega)]

theorem aFN {f n:Nat}:∀ (k:Nat) (d:List Int),k<=n->f+n<=d.length->d.length<2305843009213693951->Hp f 0 k d->tZ (f+k) (f+n) d->(∀ p q,f<=p->p<f+k->f+k<=q->q<f+n->gN d p<=gN d q) ->
  ∃ d',lp (fun s:List Int×Int=>fI (f:Nat) 0 s.1 s.2) (d,(k:Int)-1)=some d'/\Rel f (f+n) d d'/\tZ f (f+n) d'
 | 0,d,_,_,_,_,hs,_=>by
  refine⟨d,cZ ?_,Rel.refl ..,hs⟩;show fI _ _ _ _=_;have : decide ((0:Int)<=((0:Nat):Int)-1)=false:=by simp
  simp only [fI,this,cond_false]
 | k+1,d,h1,h2,h3,h,hs,hb=>by
  have g:=zK (d:=d) (i:=f) (j:=f+k) (by omega) (by omega);have hroot:=aFP h
  obtain⟨d1,e,r,p⟩:=aDq (f:=f) (lo:=0) (hi:=k) (d:=swp d f (f+k)) (by rw [jF]; omega) (by rw [jF]; exact h3) (by omega) ⟨fun i c a1 a2 a3 a4=>by
   rw [g,g,if_neg (by unfold chd at a3; omega),if_neg (by unfold chd at a3; omega),if_neg (by unfold chd at a3; omega),if_neg (by omega)];exact h i c (by omega) a3 (by omega),fun p c a1 a2=>by unfold chd at a2; omega⟩
  have rs:Rel f (f+n) d (swp d f (f+k)):=Rel.swp (i:=f) (j:=f+k) (by omega) (by omega) (by omega) (by omega);have top:gN d1 (f+k)=gN d f:=by rw [r.out _ (by omega),g,if_pos rfl]
  have tail:∀ q,f+k<q->gN d1 q=gN d q:=fun q hq=>by rw [r.out _ (by omega),g,if_neg (by omega),if_neg (by omega)]
  have low:∀ p,f<=p->p<f+k -> ∃ p',f<=p'/\p'<f+(k+1)/\gN d1 p=gN d p':=fun p p1 p2=>by
   obtain⟨p',a1,a2,a3⟩:=r.src p p1 p2;rw [g,if_neg (by omega)] at a3;by_cases hp:p'=f
   ·rw [if_pos hp] at a3; exact ⟨f+k,by omega,by omega,a3⟩
   ·rw [if_neg hp] at a3; exact ⟨p',a1,by omega,a3⟩
  obtain⟨d2,e2,r2,s2⟩:=aFN (f:=f) (n:=n) k d1 (by omega) (by rw [r.len,jF]; exact h2) (by rw [r.len,jF]; exact h3) p (fun p q p1 p2 p3=>by
   by_cases hq:q=f+k
   ·have : p=f+k:=by omega
    rw [hq,this]; exact Int.le_refl _
   ·rw [tail q (by omega)];by_cases hp:p=f+k
    ·rw [hp,top]; exact hb f q (Nat.le_refl _) (by omega) (by omega) p3
    ·rw [tail p (by omega)]; exact hs p q (by omega) p2 p3) (fun p q p1 p2 p3 p4=>by
   obtain⟨p',a1,a2,a3⟩:=low p p1 p2;rw [a3];by_cases hq:q=f+k
   ·rw [hq,top];have:=hroot (p'-f) (by omega);rw [show f+(p'-f)=p' by omega] at this;exact this
   ·rw [tail q (by omega)]; exact hb p' q a1 a2 (by omega) p4)
  refine⟨d2,?_,(rs.trans (r.mono (Nat.le_refl _) (by omega))).trans r2,s2⟩;rw [eT (s':=(d1,(k:Int)-1)) ?_,e2];show fI _ _ _ _=_;have g1:(((k+1:Nat):Int)-1)=(k:Int):=by omega
  have g2:decide ((0:Int)<=(k:Int))=true:=by simp
  have g3:IntKind.i64.wrap ((f:Int)+(k:Int))=((f+k:Nat):Int):=wrN (by omega) (by omega);simp only [fI,g1,g2,g3,cond_true,Int.toNat_natCast];rw [aO (asN (by omega)),aO (asN (by omega)),aO (asN (by omega)),aO (asN (by omega))];have e':gZ (List.set (List.set d f (List.getD d (f+k) default)) (f+k) (List.getD d f default)) 0 (k:Int) (f:Int)=some d1:=e;rw [e'];simp only [Option.bind_some];rw [cO (by omega) (by omega)]

theorem aFT {lo hi:Nat}{d:List Int}(h0:lo<hi)(h1:hi<=d.length)(h3:d.length<2305843009213693951):∃ d',lF d (lo:Int) (hi:Int)=some d'/\Rel lo hi d d'/\tZ lo hi d':=by
 unfold lF;rw [aO (by decide)];have e1:IntKind.i64.wrap ((hi:Int)-(lo:Int))=((hi-lo:Nat):Int):=wrN (by omega) (by omega);have e2:IntKind.i64.wrap (((hi-lo:Nat):Int)-1)=((hi-lo-1:Nat):Int):=wrN (by omega) (by omega)
 have e3:IntKind.i64.wrap (Int.tdiv ((hi-lo-1:Nat):Int) 2)=(((hi-lo-1) / 2+1:Nat):Int)-1:=by
  have : Int.tdiv ((hi-lo-1:Nat):Int) 2=(((hi-lo-1) / 2:Nat):Int):=by rw [Int.tdiv_eq_ediv_of_nonneg (by omega)]; omega
  rw [this,wrN (n:=(hi-lo-1) / 2) rfl (by omega)]; omega
 rw [e1,e2,e3];unfold mU;obtain⟨d1,a1,r1,p1⟩:=aDN (f:=lo) (hi:=hi-lo) ((hi-lo-1) / 2+1) d (by omega) (by omega) h3 (fun i c b1 b2 b3=>by unfold chd at b2; omega);rw [a1];simp only [Option.bind_some,kR,mR];obtain⟨d2,a2,r2,s2⟩:=aFN (f:=lo) (n:=hi-lo) (hi-lo) d1 (Nat.le_refl _) (by rw [r1.len]; omega) (by rw [r1.len]; exact h3) p1 (fun p q b1 b2 b3=>by omega) (fun p q b1 b2 b3 b4=>by omega);have e4:IntKind.i64.wrap (((hi-lo:Nat):Int)-1)=((hi-lo:Nat):Int)-1:=cO (by omega) (by omega);rw [e4,a2];have : lo+(hi-lo)=hi:=by omega
 rw [this] at r1 r2 s2;exact⟨d2,rfl,r1.trans r2,s2⟩

end Go.Abs
namespace Go.Abs
open Go
def UC:ByteArray:=⟨#[0,1,2,2,3,3,3,3,4,4,4,4,4,4,4,4,5,5,5,5,5,5,5,5,5,5,5,5,5,5,5,5,6,6,6,6,6,6,6,6,6,6,6,6,6,6,6,6,6,6,6,6,6,6,6,6,6,6,6,6,6,6,6,6,7,7,7,7,7,7,7,7,7,7,7,7,7,7,7,7,7,7,7,7,7,7,7,7,7,7,7,7,7,7,7,7,7,7,7,7,7,7,7,7,7,7,7,7,7,7,7,7,7,7,7,7,7,7,7,7,7,7,7,7,7,7,7,7,8,8,8,8,8,8,8,8,8,8,8,8,8,8,8,8,8,8,8,8,8,8,8,8,8,8,8,8,8,8,8,8,8,8,8,8,8,8,8,8,8,8,8,8,8,8,8,8,8,8,8,8,8,8,8,8,8,8,8,8,8,8,8,8,8,8,8,8,8,8,8,8,8,8,8,8,8,8,8,8,8,8,8,8,8,8,8,8,8,8,8,8,8,8,8,8,8,8,8,8,8,8,8,8,8,8,8,8,8,8,8,8,8,8,8,8,8,8,8,8,8,8,8,8,8,8,8,8]⟩

theorem aFs:∀ i:Fin 256,i.val≠0 -> ∃ k:Fin 8,bt UC (i.val:Int)=(k.val:Int)+1/\2 ^ k.val<=i.val:=by decide +kernel

theorem aAq:ByteArray.size UC=256:=by decide +kernel

theorem aHk {x:Int}(h:0<=x)(h2:x<=255):IntKind.u8.wrap x=x:=by
 simp only [IntKind.wrap,IntKind.bits,IntKind.signed];simp;omega

theorem QW {x:Int}(h:0<=x)(h2:x<=9223372036854775807):IntKind.u64.wrap x=x:=by
 simp only [IntKind.wrap,IntKind.bits,IntKind.signed];simp;omega

theorem aF4 {x n:Int}(h1:1<=x)(h2:x<=255)(hn:0<=n/\n<=100):∃ k:Nat,oN x n=some (n+k+1)/\k<=7/\(2:Int) ^ k<=x:=by
 obtain⟨k,e,hk⟩:=aFs ⟨x.toNat,by omega⟩ (by simp; omega);refine⟨k.val,?_,by omega,?_⟩
 ·show (bG (0<=(IntKind.u8.wrap x)/\(IntKind.u8.wrap x)<((ByteArray.size UC:Nat):Int)) <| some (IntKind.i64.wrap (n+(IntKind.i64.wrap (bt UC (IntKind.u8.wrap x))))))=_;rw [aHk (by omega) h2,aO (by rw [aAq]; omega)];simp only at e;rw [Int.toNat_of_nonneg (by omega)] at e;rw [e,cO (n:=(k.val:Int)+1) (by omega) (by omega),cO (by omega) (by omega)]
  congr 1
  omega
 ·simp only at hk;have : ((2 ^ k.val:Nat):Int)<=((x.toNat:Nat):Int):=by exact_mod_cast hk
  rw [Int.toNat_of_nonneg (by omega)] at this
  simpa using this

theorem TZ {x m:Int}(hm:0<m):Int.fdiv x m=x / m:=Int.fdiv_eq_ediv_of_nonneg _ (by omega)

theorem aE7 {x n:Int}(h1:1<=x)(h2:x<=65535)(hn:0<=n/\n<=90):∃ k:Nat,nG x n=some (n+k+1)/\k<=15/\(2:Int) ^ k<=x:=by
 unfold nG;by_cases h:256<=x
 ·have hd:Int.fdiv x (2 ^ (min (Int.toNat (8:Int)) 64))=x / 256:=by rw [show (2 ^ (min (Int.toNat (8:Int)) 64):Int)=256 from by decide]; exact TZ (by omega)
  obtain⟨k,e,h3,h4⟩:=aF4 (x:=x / 256) (n:=n+8) (by omega) (by omega) (by omega);refine⟨k+8,?_,by omega,?_⟩
  ·simp only [h,decide_true,cond_true];rw [aO (by decide),hd,cO (n:=n+8) (by omega) (by omega),e]
   congr 1; omega
  ·rw [Int.pow_add]; have : (2:Int) ^ 8=256:=by decide
   rw [this]; omega
 ·obtain⟨k,e,h3,h4⟩:=aF4 (x:=x) (n:=n) h1 (by omega) (by omega);exact⟨k,by simp only [h,decide_false,cond_false,e],by omega,h4⟩

theorem aFX {x n:Int}(h1:1<=x)(h2:x<=4294967295)(hn:0<=n/\n<=70):∃ k:Nat,nA x n=some (n+k+1)/\k<=31/\(2:Int) ^ k<=x:=by
 unfold nA;by_cases h:65536<=x
 ·have hd:Int.fdiv x (2 ^ (min (Int.toNat (16:Int)) 64))=x / 65536:=by rw [show (2 ^ (min (Int.toNat (16:Int)) 64):Int)=65536 from by decide]; exact TZ (by omega)
  obtain⟨k,e,h3,h4⟩:=aE7 (x:=x / 65536) (n:=n+16) (by omega) (by omega) (by omega);refine⟨k+16,?_,by omega,?_⟩
  ·simp only [h,decide_true,cond_true];rw [aO (by decide),hd,cO (n:=n+16) (by omega) (by omega),e]
   congr 1; omega
  ·rw [Int.pow_add]; have : (2:Int) ^ 16=65536:=by decide
   rw [this]; omega
 ·obtain⟨k,e,h3,h4⟩:=aE7 (x:=x) (n:=n) h1 (by omega) (by omega);exact⟨k,by simp only [h,decide_false,cond_false,e],by omega,h4⟩

theorem aFx {x:Int}(h1:1<=x)(h2:x<=9223372036854775807):∃ k:Nat,mD x=some ((k:Int)+1)/\k<=63/\(2:Int) ^ k<=x:=by
 unfold mD rU;by_cases h:4294967296<=x
 ·have hd:Int.fdiv x (2 ^ (min (Int.toNat (32:Int)) 64))=x / 4294967296:=by rw [show (2 ^ (min (Int.toNat (32:Int)) 64):Int)=4294967296 from by decide]; exact TZ (by omega)
  obtain⟨k,e,h3,h4⟩:=aFX (x:=x / 4294967296) (n:=32) (by omega) (by omega) (by omega);refine⟨k+32,?_,by omega,?_⟩
  ·simp only [h,decide_true,cond_true];rw [aO (by decide),hd,e];simp only [Option.bind_some]
   congr 1; omega
  ·rw [Int.pow_add]; have : (2:Int) ^ 32=4294967296:=by decide
   rw [this]; omega
 ·obtain⟨k,e,h3,h4⟩:=aFX (x:=x) (n:=0) h1 (by omega) (by omega);refine⟨k,?_,by omega,h4⟩;simp only [h,decide_false,cond_false,e,Option.bind_some]
  congr 1; omega

theorem aFR:bt UC 0=0:=by decide +kernel

theorem aGV:mD 0=some 0:=by
 have h3:oN 0 0=some 0:=by
  show (bG (0<=(IntKind.u8.wrap 0)/\(IntKind.u8.wrap 0)<((ByteArray.size UC:Nat):Int)) <| some (IntKind.i64.wrap (0+(IntKind.i64.wrap (bt UC (IntKind.u8.wrap 0))))))=_;rw [aHk (by omega) (by omega),aO (by rw [aAq]; omega),aFR,cO (n:=0) (by omega) (by omega),cO (by omega) (by omega)];rfl
 have h2:nG 0 0=some 0:=h3;have h1:nA 0 0=some 0:=h2;unfold mD rU;have : decide ((4294967296:Int)<=0)=false:=by decide
 rw [this,cond_false,h1];rfl

theorem aGC {n:Nat}(h1:1<=n)(h2:n<2305843009213693951):∃ m:Int,nP (n:Int)=some m/\1<=m/\m<=2*n:=by
 unfold nP;rw [QW (by omega) (by omega)];obtain⟨k,e,h3,h4⟩:=aFx (x:=(n:Int)) (by omega) (by omega);have hk:(2:Int) ^ (k+1)=2*2 ^ k:=by rw [Int.pow_succ]; omega
 have hp:(1:Int)<=2 ^ k:=by
  have : (0:Int)<2 ^ k:=Int.pow_pos (by decide);omega
 rw [e];simp only [Option.bind_some];rw [aO (by omega),show min (Int.toNat ((k:Int)+1)) 64=k+1 by omega,Int.one_mul,hk,QW (by omega) (by omega)];exact⟨_,rfl,by omega,by omega⟩

theorem aIo (x:Int){m:Int}(h0:0<=m)(hm:m<=9223372036854775807):0<=cH .and .u64 x m/\cH .and .u64 x m<=m:=by
 have h1:(BitVec.ofInt IntKind.u64.bits x &&& BitVec.ofInt IntKind.u64.bits m).toNat<=m.toNat:=by
  rw [BitVec.toNat_and];refine Nat.le_trans Nat.and_le_right ?_;rw [BitVec.toNat_ofInt];have : IntKind.u64.bits=64:=rfl;rw [this];omega
 have h2:cH .and .u64 x m=((BitVec.ofInt IntKind.u64.bits x &&& BitVec.ofInt IntKind.u64.bits m).toNat:Int):=QW (by omega) (by omega);rw [h2];omega

theorem aEA (r:Int):∃ x,nZ r=some x:=by
 unfold nZ;rw [aO (by decide),aO (by decide),aO (by decide)];exact⟨_,rfl⟩

theorem aE1 {lo i o:Nat}{d:List Int}(l r m:Int)(hi:i<d.length)(ho:lo+o<d.length)(hl:d.length<2305843009213693951) :
  gE d (lo:Nat) l r m (i:Nat) (o:Nat)=some (.inl (swp d i (lo+o),r,((i+1:Nat):Int))):=by
 unfold gE;rw [wrN (x:=(lo:Int)+(o:Int)) (n:=lo+o) (by omega) (by omega),wrN (n:=i+1) (by omega) (by omega)];simp only [Int.toNat_natCast];rw [aO (asN (by omega)),aO (asN (by omega)),aO (asN (by omega)),aO (asN (by omega))];rfl

theorem aIh {lo n:Nat}{m:Int}(hm:1<=m/\m<=2*n)(h8:8<=n):∀ (q i:Nat) (r:Int) (d:List Int),lo+n / 4*2+2-i=q->lo<=i->i<=lo+n / 4*2+2->lo+n<=d.length->d.length<2305843009213693951 ->
  ∃ d',lp (fun s:List Int×Int×Int=>eJ (lo:Nat) (n:Nat) m s.1 s.2.1 s.2.2) (d,r,(i:Int))=some d'/\Rel lo (lo+n) d d':=by
 have t4:IntKind.i64.wrap (Int.tdiv (n:Int) 4)=((n / 4:Nat):Int)∨2305843009213693951<=n:=by
  by_cases h:n<2305843009213693951
  ·left;have : Int.tdiv (n:Int) 4=((n / 4:Nat):Int):=by rw [Int.tdiv_eq_ediv_of_nonneg (by omega)]; omega
   rw [this]; exact wrN rfl (by omega)
  ·right; omega
 intro q
 induction q with
 | zero =>
  intro i r d h1 h2 h3 h4 h5;have t4:=t4.resolve_right (by omega);refine⟨d,cZ ?_,Rel.refl ..⟩;show eJ _ _ _ _ _ _=_;unfold eJ;rw [aO (by decide),t4,wrN (x:=((n / 4:Nat):Int)*2) (n:=n / 4*2) (by omega) (by omega),wrN (x:=(lo:Int)+((n / 4*2:Nat):Int)) (n:=lo+n / 4*2) (by omega) (by omega),wrN (x:=((lo+n / 4*2:Nat):Int)+1) (n:=lo+n / 4*2+1) (by omega) (by omega)];have : decide (((i:Nat):Int)<=((lo+n / 4*2+1:Nat):Int))=false:=by simp; omega
  rw [this,cond_false]
 | succ q ih =>
  intro i r d h1 h2 h3 h4 h5;have t4:=t4.resolve_right (by omega);obtain⟨x,hx⟩:=aEA r;obtain⟨a1,a2⟩:=aIo x.1 (m:=m-1) (by omega) (by omega);have hd:decide (((i:Nat):Int)<=((lo+n / 4*2+1:Nat):Int))=true:=by simp; omega
  have step:∃ o,o<n/\eJ (lo:Nat) (n:Nat) m d r (i:Nat)=some (.inl (swp d i (lo+o),x.2,((i+1:Nat):Int))):=by
   unfold eJ;rw [aO (by decide),t4,wrN (x:=((n / 4:Nat):Int)*2) (n:=n / 4*2) (by omega) (by omega),wrN (x:=(lo:Int)+((n / 4*2:Nat):Int)) (n:=lo+n / 4*2) (by omega) (by omega),wrN (x:=((lo+n / 4*2:Nat):Int)+1) (n:=lo+n / 4*2+1) (by omega) (by omega),hd,cond_true,hx];simp only [Option.bind_some];rw [QW (x:=m-1) (by omega) (by omega)];have e1:IntKind.i64.wrap (cH .and .u64 x.1 (m-1))=(((cH .and .u64 x.1 (m-1)).toNat:Nat):Int):=wrN (by omega) (by omega);rw [e1];by_cases h:(n:Int)<=(((cH .and .u64 x.1 (m-1)).toNat:Nat):Int)
   ·refine⟨(cH .and .u64 x.1 (m-1)).toNat-n,by omega,?_⟩;simp only [h,decide_true,cond_true];rw [wrN (x:=(((cH .and .u64 x.1 (m-1)).toNat:Nat):Int)-(n:Int)) (n:=(cH .and .u64 x.1 (m-1)).toNat-n) (by omega) (by omega)];exact aE1 _ _ _ (by omega) (by omega) h5
   ·refine⟨(cH .and .u64 x.1 (m-1)).toNat,by omega,?_⟩;simp only [h,decide_false,cond_false];exact aE1 _ _ _ (by omega) (by omega) h5
  obtain⟨o,ho,hs⟩:=step;obtain⟨d',e,rl⟩:=ih (i+1) x.2 (swp d i (lo+o)) (by omega) (by omega) (by omega) (by rw [jF]; exact h4) (by rw [jF]; exact h5);exact⟨d',(eT (show (fun s:List Int×Int×Int=>eJ (lo:Nat) (n:Nat) m s.1 s.2.1 s.2.2) (d,r,(i:Int))=_ from hs)).trans e,(Rel.swp (i:=i) (j:=lo+o) (by omega) (by omega) (by omega) (by omega)).trans rl⟩

theorem aF1 {lo hi:Nat}{d:List Int}(h8:8<=hi-lo)(h1:hi<=d.length)(h2:d.length<2305843009213693951):∃ d',jC d (lo:Int) (hi:Int)=some d'/\Rel lo hi d d':=by
 unfold jC;have e1:IntKind.i64.wrap ((hi:Int)-(lo:Int))=((hi-lo:Nat):Int):=wrN (by omega) (by omega);have d1:decide ((8:Int)<=((hi-lo:Nat):Int))=true:=by simp; omega
 obtain⟨m,em,m1,m2⟩:=aGC (n:=hi-lo) (by omega) (by omega)
 have t4:IntKind.i64.wrap (Int.tdiv ((hi-lo:Nat):Int) 4)=(((hi-lo) / 4:Nat):Int):=by
  have : Int.tdiv ((hi-lo:Nat):Int) 4=(((hi-lo) / 4:Nat):Int):=by rw [Int.tdiv_eq_ediv_of_nonneg (by omega)]; omega
  rw [this]; exact wrN rfl (by omega)
 rw [e1,d1,cond_true,em];simp only [Option.bind_some];rw [aO (by decide),t4,wrN (x:=(((hi-lo) / 4:Nat):Int)*2) (n:=(hi-lo) / 4*2) (by omega) (by omega),wrN (x:=(lo:Int)+(((hi-lo) / 4*2:Nat):Int)) (n:=lo+(hi-lo) / 4*2) (by omega) (by omega),wrN (x:=((lo+(hi-lo) / 4*2:Nat):Int)-1) (n:=lo+(hi-lo) / 4*2-1) (by omega) (by omega)];unfold kU;obtain⟨d',e,r⟩:=aIh (lo:=lo) (n:=hi-lo) (m:=m) ⟨m1,m2⟩ h8 (lo+(hi-lo) / 4*2+2-(lo+(hi-lo) / 4*2-1)) (lo+(hi-lo) / 4*2-1) (IntKind.u64.wrap ((hi-lo:Nat):Int)) d rfl (by omega) (by omega) (by omega) h2;rw [e];have : lo+(hi-lo)=hi:=by omega
 rw [this] at r;exact⟨d',rfl,r⟩

theorem aGg {a b:Nat}{d:List Int}(s:Int)(ha:a<d.length)(hb:b<d.length):∃ (p q:Nat) (s':Int),iK d (a:Int) (b:Int) s=some (((p:Int),(q:Int)),s')/\((p=a/\q=b)∨(p=b/\q=a)):=by
 unfold iK;rw [aO (asN hb),aO (asN ha),xR];simp only [Option.bind_some]
 cases decide (d.getD (Int.toNat (b:Int)) default<d.getD (Int.toNat (a:Int)) default)
 ·exact⟨a,b,_,rfl,.inl ⟨rfl,rfl⟩⟩
 ·exact⟨b,a,_,rfl,.inr ⟨rfl,rfl⟩⟩

theorem med {a b c:Nat}{d:List Int}(s:Int)(ha:a<d.length)(hb:b<d.length)(hc:c<d.length):∃ (p:Nat) (s':Int),jV d (a:Int) (b:Int) (c:Int) s=some ((p:Int),s')/\(p=a∨p=b∨p=c):=by
 unfold jV;obtain⟨p1,q1,s1,e1,h1⟩:=aGg s ha hb;obtain⟨p2,q2,s2,e2,h2⟩:=aGg (a:=q1) (b:=c) (d:=d) s1 (by omega) hc;obtain⟨p3,q3,s3,e3,h3⟩:=aGg (a:=p1) (b:=p2) (d:=d) s2 (by omega) (by omega);rw [e1]; simp only [Option.bind_some];rw [e2]; simp only [Option.bind_some];rw [e3];exact⟨q3,s3,rfl,by omega⟩

theorem aGt {a:Nat}{d:List Int}(s:Int)(h1:1<=a)(ha:a+1<d.length)(hl:d.length<2305843009213693951):∃ (p:Nat) (s':Int),fE d (a:Int) s=some ((p:Int),s')/\a-1<=p/\p<=a+1:=by
 unfold fE;rw [wrN (x:=(a:Int)-1) (n:=a-1) (by omega) (by omega),wrN (x:=(a:Int)+1) (n:=a+1) (by omega) (by omega)];obtain⟨p,s',e,h⟩:=med (a:=a-1) (b:=a) (c:=a+1) (d:=d) s (by omega) (by omega) (by omega);rw [e];exact⟨p,s',rfl,by omega,by omega⟩

theorem aG9 (d:List Int)(s:Int)(j:Int):∃ h,gX d s j=some (j,h):=by
 unfold gX
 cases decide (s=0) <;> cases decide (s=12) <;> exact ⟨_,rfl⟩

theorem aEs {lo hi:Nat}{d:List Int}(h8:12<hi-lo)(h1:hi<=d.length)(h2:d.length<2305843009213693951):∃ (p:Nat) (h:Int),jO d (lo:Int) (hi:Int)=some ((p:Int),h)/\lo<=p/\p<hi:=by
 unfold jO;have e1:IntKind.i64.wrap ((hi:Int)-(lo:Int))=((hi-lo:Nat):Int):=wrN (by omega) (by omega)
 have t4:IntKind.i64.wrap (Int.tdiv ((hi-lo:Nat):Int) 4)=(((hi-lo) / 4:Nat):Int):=by
  have : Int.tdiv ((hi-lo:Nat):Int) 4=(((hi-lo) / 4:Nat):Int):=by rw [Int.tdiv_eq_ediv_of_nonneg (by omega)]; omega
  rw [this]; exact wrN rfl (by omega)
 have d1:decide ((8:Int)<=((hi-lo:Nat):Int))=true:=by simp; omega
 have q1:IntKind.i64.wrap ((lo:Int)+IntKind.i64.wrap ((((hi-lo) / 4:Nat):Int)*1))=((lo+(hi-lo) / 4:Nat):Int):=by
  rw [wrN (x:=(((hi-lo) / 4:Nat):Int)*1) (n:=(hi-lo) / 4) (by omega) (by omega)]; exact wrN (by omega) (by omega)
 have q2:IntKind.i64.wrap ((lo:Int)+IntKind.i64.wrap ((((hi-lo) / 4:Nat):Int)*2))=((lo+(hi-lo) / 4*2:Nat):Int):=by
  rw [wrN (x:=(((hi-lo) / 4:Nat):Int)*2) (n:=(hi-lo) / 4*2) (by omega) (by omega)]; exact wrN (by omega) (by omega)
 have q3:IntKind.i64.wrap ((lo:Int)+IntKind.i64.wrap ((((hi-lo) / 4:Nat):Int)*3))=((lo+(hi-lo) / 4*3:Nat):Int):=by
  rw [wrN (x:=(((hi-lo) / 4:Nat):Int)*3) (n:=(hi-lo) / 4*3) (by omega) (by omega)]; exact wrN (by omega) (by omega)
 rw [aO (by decide),aO (by decide),aO (by decide)];simp only [e1,t4,d1,q1,q2,q3,cond_true];by_cases h50:(50:Int)<=((hi-lo:Nat):Int)
 ·simp only [h50,decide_true,cond_true];obtain⟨p1,s1,f1,g1,g2⟩:=aGt (a:=lo+(hi-lo) / 4) (d:=d) 0 (by omega) (by omega) h2;obtain⟨p2,s2,f2,g3,g4⟩:=aGt (a:=lo+(hi-lo) / 4*2) (d:=d) s1 (by omega) (by omega) h2;obtain⟨p3,s3,f3,g5,g6⟩:=aGt (a:=lo+(hi-lo) / 4*3) (d:=d) s2 (by omega) (by omega) h2;obtain⟨p4,s4,f4,g7⟩:=med (a:=p1) (b:=p2) (c:=p3) (d:=d) s3 (by omega) (by omega) (by omega);obtain⟨h,f5⟩:=aG9 d s4 p4;rw [f1]; simp only [Option.bind_some];rw [f2]; simp only [Option.bind_some];rw [f3]; simp only [Option.bind_some,gW];rw [f4]; simp only [Option.bind_some];exact⟨p4,h,f5,by omega,by omega⟩
 ·simp only [h50,decide_false,cond_false,gW];obtain⟨p4,s4,f4,g7⟩:=med (a:=lo+(hi-lo) / 4) (b:=lo+(hi-lo) / 4*2) (c:=lo+(hi-lo) / 4*3) (d:=d) 0 (by omega) (by omega) (by omega);obtain⟨h,f5⟩:=aG9 d s4 p4;rw [f4]; simp only [Option.bind_some];exact⟨p4,h,f5,by omega,by omega⟩

end Go.Abs
namespace Go.Abs
open Go
theorem XX {body:List Int×Int->Option ((List Int×Int)⊕(List Int×Int))} {d:List Int} {p:Nat->Prop} [DecidablePred p] {j:Nat}
  (hs:∀ i,i<=j+1->body (d,(i:Int))=if i<=j/\p i then some (.inl (d,((i+1:Nat):Int))) else some (.inr (d,(i:Int)))) :
  ∀ (n i:Nat),j+1-i=n->i<=j+1 -> ∃ i':Nat,lp body (d,(i:Int))=some (d,(i':Int))/\i<=i'/\i'<=j+1/\(∀ k,i<=k->k<i'->p k)/\(i'<=j -> ¬ p i'):=by
 intro n
 induction n with
 | zero =>
  intro i h1 h2;have:=hs i h2;rw [if_neg (by omega)] at this;exact⟨i,cZ this,Nat.le_refl _,h2,fun k a b=>by omega,fun h=>by omega⟩
 | succ n ih =>
  intro i h1 h2;have h:=hs i h2;by_cases hp:p i
  ·rw [if_pos ⟨by omega,hp⟩] at h;obtain⟨i',e,a1,a2,a3,a4⟩:=ih (i+1) (by omega) (by omega);refine⟨i',(eT h).trans e,by omega,a2,fun k b1 b2=>?_,a4⟩;by_cases hk:k=i
   ·rw [hk]; exact hp
   ·exact a3 k (by omega) b2
  ·rw [if_neg fun hh=>hp hh.2] at h;exact⟨i,cZ h,Nat.le_refl _,h2,fun k a b=>by omega,fun _=>hp⟩

theorem RI {body:List Int×Int->Option ((List Int×Int)⊕(List Int×Int))} {d:List Int} {p:Nat->Prop} [DecidablePred p] {i m:Nat} (hi:1<=i)
  (hs:∀ j,j<=m->body (d,(j:Int))=if i<=j/\p j then some (.inl (d,((j-1:Nat):Int))) else some (.inr (d,(j:Int)))) :
  ∀ (j:Nat),j<=m->i<=j+1 -> ∃ j':Nat,lp body (d,(j:Int))=some (d,(j':Int))/\i<=j'+1/\j'<=j/\(∀ k,j'<k->k<=j->p k)/\(i<=j' -> ¬ p j'):=by
 intro j
 induction j with
 | zero =>
  intro h1 h2;have:=hs 0 h1;rw [if_neg (by omega)] at this;exact⟨0,cZ this,by omega,Nat.le_refl _,fun k a b=>by omega,fun h=>by omega⟩
 | succ j ih =>
  intro h1 h2;have h:=hs (j+1) h1;by_cases hp:i<=j+1/\p (j+1)
  ·rw [if_pos hp] at h;obtain⟨j',e,a1,a2,a3,a4⟩:=ih (by omega) (by omega);refine⟨j',(eT h).trans e,a1,by omega,fun k b1 b2=>?_,a4⟩;by_cases hk:k=j+1
   ·rw [hk]; exact hp.2
   ·exact a3 k b1 (by omega)
  ·rw [if_neg hp] at h;exact⟨j+1,cZ h,by omega,Nat.le_refl _,fun k a b=>by omega,fun h1 h2=>hp ⟨h1,h2⟩⟩

theorem aDP {α:Type}{i j u v:Nat}{d:List Int}{n:Bool}{x y:Option α}(hu:i<=j->u<d.length)(hv:i<=j->v<d.length) :
  (bG ((decide ((i:Int)<=(j:Int)))=true->0<=(u:Int)/\(u:Int)<((List.length d:Nat):Int)) <|
  bG ((decide ((i:Int)<=(j:Int)))=true->0<=(v:Int)/\(v:Int)<((List.length d:Nat):Int)) <|
  (cW (decide ((i:Int)<=(j:Int))) (eG (List.getD d (Int.toNat (u:Int)) default) (List.getD d (Int.toNat (v:Int)) default))).bind fun z =>
  cond ((decide ((i:Int)<=(j:Int)))&&(Bool.xor n z)) x y)=if i<=j/\(Bool.xor n (decide (gN d u<gN d v)))=true then x else y:=by
 by_cases h:i<=j
 ·have hd:decide ((i:Int)<=(j:Int))=true:=by simp; omega
  rw [hd];rw [aO fun _=>asN (hu h),aO fun _=>asN (hv h)];simp only [cW,cond_true,xR,Option.bind_some,Bool.true_and,Int.toNat_natCast,h,true_and,gN]
  cases Bool.xor n (decide (d.getD u default<d.getD v default)) <;> simp
 ·have hd:decide ((i:Int)<=(j:Int))=false:=by simp; omega
  rw [hd,aO (fun h=>by cases h),aO (fun h=>by cases h)];simp [cW,h]

theorem TP {α:Type}{i j u v:Nat}{d:List Int}{x y:Option α}(hu:i<=j->u<d.length)(hv:i<=j->v<d.length) :
  (bG ((decide ((i:Int)<=(j:Int)))=true->0<=(u:Int)/\(u:Int)<((List.length d:Nat):Int)) <|
  bG ((decide ((i:Int)<=(j:Int)))=true->0<=(v:Int)/\(v:Int)<((List.length d:Nat):Int)) <|
  (cW (decide ((i:Int)<=(j:Int))) (eG (List.getD d (Int.toNat (u:Int)) default) (List.getD d (Int.toNat (v:Int)) default))).bind fun z =>
  cond ((decide ((i:Int)<=(j:Int)))&&z) x y)=if i<=j/\gN d u<gN d v then x else y:=by
 have:=aDP (n:=false) (x:=x) (y:=y) hu hv;simp only [Bool.false_xor] at this;exact this.trans (by simp)

theorem TQ {α:Type}{i j u v:Nat}{d:List Int}{x y:Option α}(hu:i<=j->u<d.length)(hv:i<=j->v<d.length) :
  (bG ((decide ((i:Int)<=(j:Int)))=true->0<=(u:Int)/\(u:Int)<((List.length d:Nat):Int)) <|
  bG ((decide ((i:Int)<=(j:Int)))=true->0<=(v:Int)/\(v:Int)<((List.length d:Nat):Int)) <|
  (cW (decide ((i:Int)<=(j:Int))) (eG (List.getD d (Int.toNat (u:Int)) default) (List.getD d (Int.toNat (v:Int)) default))).bind fun z =>
  cond ((decide ((i:Int)<=(j:Int)))&&(!z)) x y)=if i<=j /\ ¬ gN d u<gN d v then x else y:=by
 have:=aDP (n:=true) (x:=x) (y:=y) hu hv;simp only [Bool.true_xor] at this;exact this.trans (by simp)

theorem aH8 {a j:Nat}{d:List Int}(ha:a<d.length)(hj:j<d.length)(hl:d.length<2305843009213693951):∀ i,i<=j+1->fP (a:Nat) (j:Nat) d (i:Nat)=if i<=j/\gN d i<gN d a then some (.inl (d,((i+1:Nat):Int))) else some (.inr (d,(i:Int))):=by
 intro i hi;unfold fP;rw [wrN (x:=(i:Int)+1) (n:=i+1) (by omega) (by omega)];exact TP (u:=i) (v:=a) (by omega) (by omega)

theorem aGp {a j:Nat}{d:List Int}(ha:a<d.length)(hj:j<d.length)(hl:d.length<2305843009213693951):∀ i,i<=j+1->gC (a:Nat) (j:Nat) d (i:Nat)=if i<=j/\gN d i<gN d a then some (.inl (d,((i+1:Nat):Int))) else some (.inr (d,(i:Int))):=by
 intro i hi;unfold gC;rw [wrN (x:=(i:Int)+1) (n:=i+1) (by omega) (by omega)];exact TP (u:=i) (v:=a) (by omega) (by omega)

theorem aFy {a i m:Nat}{d:List Int}(hi:1<=i)(ha:a<d.length)(hm:m<d.length)(hl:d.length<2305843009213693951):∀ j,j<=m->fY (a:Nat) (i:Nat) d (j:Nat)=if i<=j /\ ¬ gN d j<gN d a then some (.inl (d,((j-1:Nat):Int))) else some (.inr (d,(j:Int))):=by
 intro j hj;unfold fY;refine (TQ (i:=i) (j:=j) (d:=d) (α:=(List Int×Int)⊕(List Int×Int)) (u:=j) (v:=a) (x:=some (.inl (d,IntKind.i64.wrap ((j:Int)-1)))) (y:=some (.inr (d,(j:Int)))) (by omega) (by omega)).trans ?_;by_cases h:i<=j /\ ¬ gN d j<gN d a
 ·rw [if_pos h,if_pos h,wrN (x:=(j:Int)-1) (n:=j-1) (by omega) (by omega)]
 ·rw [if_neg h,if_neg h]

theorem aEL {a i m:Nat}{d:List Int}(hi:1<=i)(ha:a<d.length)(hm:m<d.length)(hl:d.length<2305843009213693951):∀ j,j<=m->fT (a:Nat) (i:Nat) d (j:Nat)=if i<=j /\ ¬ gN d j<gN d a then some (.inl (d,((j-1:Nat):Int))) else some (.inr (d,(j:Int))):=by
 intro j hj;unfold fT;refine (TQ (i:=i) (j:=j) (d:=d) (α:=(List Int×Int)⊕(List Int×Int)) (u:=j) (v:=a) (x:=some (.inl (d,IntKind.i64.wrap ((j:Int)-1)))) (y:=some (.inr (d,(j:Int)))) (by omega) (by omega)).trans ?_;by_cases h:i<=j /\ ¬ gN d j<gN d a
 ·rw [if_pos h,if_pos h,wrN (x:=(j:Int)-1) (n:=j-1) (by omega) (by omega)]
 ·rw [if_neg h,if_neg h]

theorem aGO {a j:Nat}{d:List Int}(ha:a<d.length)(hj:j<d.length)(hl:d.length<2305843009213693951):∀ i,i<=j+1->fB (a:Nat) (j:Nat) d (i:Nat)=if i<=j /\ ¬ gN d a<gN d i then some (.inl (d,((i+1:Nat):Int))) else some (.inr (d,(i:Int))):=by
 intro i hi;unfold fB;rw [wrN (x:=(i:Int)+1) (n:=i+1) (by omega) (by omega)];exact TQ (u:=a) (v:=i) (by omega) (by omega)

theorem aD3 {a i m:Nat}{d:List Int}(hi:1<=i)(ha:a<d.length)(hm:m<d.length)(hl:d.length<2305843009213693951):∀ j,j<=m->fC (a:Nat) (i:Nat) d (j:Nat)=if i<=j/\gN d a<gN d j then some (.inl (d,((j-1:Nat):Int))) else some (.inr (d,(j:Int))):=by
 intro j hj;unfold fC;refine (TP (i:=i) (j:=j) (d:=d) (α:=(List Int×Int)⊕(List Int×Int)) (u:=a) (v:=j) (x:=some (.inl (d,IntKind.i64.wrap ((j:Int)-1)))) (y:=some (.inr (d,(j:Int)))) (by omega) (by omega)).trans ?_;by_cases h:i<=j/\gN d a<gN d j
 ·rw [if_pos h,if_pos h,wrN (x:=(j:Int)-1) (n:=j-1) (by omega) (by omega)]
 ·rw [if_neg h,if_neg h]

structure HX (a b i j:Nat) (d:List Int):Prop where
 hi:a<i
 hij:i<=j+1
 hj:j<b
 lo:∀ k,a<k->k<i->gN d k<gN d a
 up:∀ k,j<k->k<b->gN d a<=gN d k

theorem HX.swap {a b i j:Nat}{d:List Int}(h:HX a b i j d)(hb:b<=d.length)(hij:i<j)(h1:gN d a<=gN d i)(h2:gN d j<gN d a):HX a b (i+1) (j-1) (swp d i j):=by
 have:=h.hi; have:=h.hj;have g:=zK (d:=d) (i:=i) (j:=j) (by omega) (by omega);have ga:gN (swp d i j) a=gN d a:=by rw [g,if_neg (by omega),if_neg (by omega)]
 refine⟨by omega,by omega,by omega,fun k k1 k2=>?_,fun k k1 k2=>?_⟩
 ·rw [ga,g,if_neg (by omega)];by_cases hk:k=i
  ·rw [if_pos hk]; exact h2
  ·rw [if_neg hk]; exact h.lo k k1 (by omega)
 ·rw [ga,g];by_cases hk:k=j
  ·rw [if_pos hk]; exact h1
  ·rw [if_neg hk,if_neg (by omega)]; exact h.up k (by omega) k2

theorem WB {a b i j:Nat}{d:List Int}(h:HX a b i j d)(hb:b<=d.length)(hl:d.length<2305843009213693951):∃ i' j':Nat,HX a b i' j' d/\i<=i'/\j'<=j/\(j'<i'->j'+1=i')/\(i'<=j'->i'<j'/\gN d a<=gN d i'/\gN d j'<gN d a) /\
  eV (a:Nat) d (i:Nat) (j:Nat)=fW d (a:Nat) (i':Nat) (j':Nat)/\iB d (a:Nat) (i:Nat) (j:Nat)=fU d (a:Nat) (i':Nat) (j':Nat):=by
 have h1:=h.hi; have h2:=h.hij; have h3:=h.hj;obtain⟨i',e1,a1,a2,a3,a4⟩:=XX (body:=fun s=>gC (a:Nat) (j:Nat) s.1 s.2) (d:=d) (p:=fun k=>gN d k<gN d a) (j:=j) (aGp (a:=a) (j:=j) (d:=d) (by omega) (by omega) hl) (j+1-i) i rfl h2;obtain⟨i2,e1',b1,b2,b3,b4⟩:=XX (body:=fun s=>fP (a:Nat) (j:Nat) s.1 s.2) (d:=d) (p:=fun k=>gN d k<gN d a) (j:=j) (aH8 (a:=a) (j:=j) (d:=d) (by omega) (by omega) hl) (j+1-i) i rfl h2
 have hii:i2=i':=by
  rcases Nat.lt_trichotomy i2 i' with hh | hh | hh
  ·exact absurd (a3 i2 b1 hh) (b4 (by omega))
  ·exact hh
  ·exact absurd (b3 i' a1 hh) (a4 (by omega))
 subst hii;obtain⟨j',f1,c1,c2,c3,c4⟩:=RI (body:=fun s=>fT (a:Nat) (i2:Nat) s.1 s.2) (d:=d) (p:=fun k => ¬ gN d k<gN d a) (i:=i2) (m:=j) (by omega) (aEL (a:=a) (i:=i2) (m:=j) (d:=d) (by omega) (by omega) (by omega) hl) j (Nat.le_refl _) a2;obtain⟨j2,f1',g1,g2,g3,g4⟩:=RI (body:=fun s=>fY (a:Nat) (i2:Nat) s.1 s.2) (d:=d) (p:=fun k => ¬ gN d k<gN d a) (i:=i2) (m:=j) (by omega) (aFy (a:=a) (i:=i2) (m:=j) (d:=d) (by omega) (by omega) (by omega) hl) j (Nat.le_refl _) a2
 have hjj:j2=j':=by
  rcases Nat.lt_trichotomy j2 j' with hh | hh | hh
  ·exact absurd (g3 j' hh c2) (c4 (by omega))
  ·exact hh
  ·exact absurd (c3 j2 hh g2) (g4 (by omega))
 subst hjj
 have hend:i2<=j2->i2<j2/\gN d a<=gN d i2/\gN d j2<gN d a:=fun hh=>by
  have k1:¬ gN d i2<gN d a:=a4 (by omega);have k2:gN d j2<gN d a:=Classical.byContradiction fun hn=>c4 hh hn;refine⟨?_,by omega,k2⟩;rcases Nat.lt_or_ge i2 j2 with h | h
  ·exact h
  ·have : i2=j2:=by omega
   rw [this] at k1; exact absurd k2 k1
 refine⟨i2,j2,⟨by omega,by omega,by omega,fun k k1 k2=>?_,fun k k1 k2=>?_⟩,a1,c2,fun hh=>by omega,hend,?_,?_⟩
 ·by_cases hk:k<i
  ·exact h.lo k k1 hk
  ·exact a3 k (by omega) k2
 ·by_cases hk:j<k
  ·exact h.up k hk k2
  ·have:=c3 k k1 (by omega); omega
 ·unfold eV mI;rw [show lp (fun s:List Int×Int=>gC (a:Nat) (j:Nat) s.1 s.2) (d,(i:Int))=some (d,(i2:Int)) from e1];simp only [Option.bind_some];unfold jZ mK;rw [show lp (fun s:List Int×Int=>fT (a:Nat) (i2:Nat) s.1 s.2) (d,(j:Int))=some (d,(j2:Int)) from f1];rfl
 ·unfold iB;rw [show lp (fun s:List Int×Int=>fP (a:Nat) (j:Nat) s.1 s.2) (d,(i:Int))=some (d,(i2:Int)) from e1'];simp only [Option.bind_some];unfold kD mE;rw [show lp (fun s:List Int×Int=>fY (a:Nat) (i2:Nat) s.1 s.2) (d,(j:Int))=some (d,(j2:Int)) from f1'];rfl

theorem HX.rel {a b i j:Nat}{d:List Int}(h:HX a b i j d)(hb:b<=d.length)(hij:i<=j):Rel (a+1) b d (swp d i j):=by
 have:=h.hi; have:=h.hj;exact Rel.swp (i:=i) (j:=j) (by omega) (by omega) (by omega) (by omega)

theorem aH7 {a b:Nat}:∀ (n i j:Nat) (d:List Int),j+1-i=n->b<=d.length->d.length<2305843009213693951->HX a b i j d ->
  ∃ (d':List Int) (j':Nat),lp (fun s:List Int×Int×Int=>eV (a:Nat) s.1 s.2.1 s.2.2) (d,(i:Int),(j:Int))=some (d',(j':Int))/\Rel (a+1) b d d'/\HX a b (j'+1) j' d':=by
 intro n
 induction n using Nat.strongRecOn with
 | ind n ih =>
  intro i j d h1 h2 h3 h;obtain⟨i',j',p1,p2,p3,p4,p5,p6,_⟩:=WB h h2 h3;have q1:=p1.hi; have q2:=p1.hj; have q3:=p1.hij;by_cases hlt:j'<i'
  ·have hs:eV (a:Nat) d (i:Nat) (j:Nat)=some (.inr (d,(j':Int))):=by
    rw [p6];unfold fW;have : decide ((j':Int)<(i':Int))=true:=by simp; omega
    rw [this,cond_true]
   have:=p4 hlt;exact⟨d,j',cZ hs,Rel.refl ..,by rw [this]; exact p1⟩
  ·obtain⟨k1,k2,k3⟩:=p5 (by omega)
   have hs:eV (a:Nat) d (i:Nat) (j:Nat)=some (.inl (swp d i' j',((i'+1:Nat):Int),((j'-1:Nat):Int))):=by
    rw [p6];unfold fW;have : decide ((j':Int)<(i':Int))=false:=by simp; omega
    rw [this,cond_false];simp only [Int.toNat_natCast];rw [aO (asN (by omega)),aO (asN (by omega)),aO (asN (by omega)),aO (asN (by omega)),wrN (x:=(i':Int)+1) (n:=i'+1) (by omega) (by omega),wrN (x:=(j':Int)-1) (n:=j'-1) (by omega) (by omega)];rfl
   obtain⟨d',j2,e,r,p⟩:=ih (j'-1+1-(i'+1)) (by omega) (i'+1) (j'-1) (swp d i' j') rfl (by rw [jF]; exact h2) (by rw [jF]; exact h3) (p1.swap h2 k1 k2 k3);exact⟨d',j2,(eT hs).trans e,(p1.rel h2 (by omega)).trans r,p⟩

theorem aBl {a b j:Nat}{d:List Int}(h:HX a b (j+1) j d)(hb:b<=d.length):Rel a b d (swp d j a)/\(∀ k,a<=k->k<j->gN (swp d j a) k<=gN (swp d j a) j)/\(∀ k,j<k->k<b->gN (swp d j a) j<=gN (swp d j a) k):=by
 have h1:=h.hi; have h3:=h.hj;have g:=zK (d:=d) (i:=j) (j:=a) (by omega) (by omega)
 have gj:gN (swp d j a) j=gN d a:=by
  rw [g];by_cases hh:j=a
  ·rw [if_pos hh,hh]
  ·rw [if_neg hh,if_pos rfl]
 refine⟨Rel.swp (i:=j) (j:=a) (by omega) (by omega) (by omega) (by omega),fun k k1 k2=>?_,fun k k1 k2=>?_⟩
 ·rw [gj,g];by_cases hk:k=a
  ·rw [if_pos hk];have:=h.lo j (by omega) (by omega); omega
  ·rw [if_neg hk,if_neg (by omega)];have:=h.lo k (by omega) (by omega); omega
 ·rw [gj,g,if_neg (by omega),if_neg (by omega)];exact h.up k k1 k2

theorem aA9 {lo hi p:Nat}{d:List Int}(h0:lo<hi)(hb:hi<=d.length)(hl:d.length<2305843009213693951)(hp:lo<=p/\p<hi) :
  ∃ (m:Nat) (fl:Bool) (d':List Int),iV d (lo:Int) (hi:Int) (p:Int)=some (((m:Int),fl),d')/\lo<=m/\m<hi/\Rel lo hi d d'/\(∀ k,lo<=k->k<m->gN d' k<=gN d' m)/\(∀ k,m<k->k<hi->gN d' m<=gN d' k):=by
 unfold iV;rw [aO (asN (by omega)),aO (asN (by omega)),aO (asN (by omega)),aO (asN (by omega)),wrN (x:=(lo:Int)+1) (n:=lo+1) (by omega) (by omega),wrN (x:=(hi:Int)-1) (n:=hi-1) (by omega) (by omega)];simp only [Int.toNat_natCast];have r0:Rel lo hi d (swp d lo p):=Rel.swp (i:=lo) (j:=p) (by omega) (by omega) (by omega) (by omega);have l0:(swp d lo p).length=d.length:=jF ..;have inv:HX lo hi (lo+1) (hi-1) (swp d lo p):=⟨by omega,by omega,by omega,fun k k1 k2=>by omega,fun k k1 k2=>by omega⟩;obtain⟨i',j',p1,p2,p3,p4,p5,_,p6⟩:=WB inv (by rw [l0]; exact hb) (by rw [l0]; exact hl);have e0:iB (List.set (List.set d lo (List.getD d p default)) p (List.getD d lo default)) (lo:Int) ((lo+1:Nat):Int) ((hi-1:Nat):Int)=fU (swp d lo p) (lo:Nat) (i':Nat) (j':Nat):=p6;rw [e0];have q1:=p1.hi; have q2:=p1.hj; have q3:=p1.hij
 generalize hg:swp d lo p=d1 at *
 unfold fU;by_cases hlt:j'<i'
 ·have : decide ((j':Int)<(i':Int))=true:=by simp; omega
  rw [this,cond_true];simp only [Int.toNat_natCast];rw [aO (asN (by omega)),aO (asN (by omega)),aO (asN (by omega)),aO (asN (by omega))];have hp1:HX lo hi (j'+1) j' d1:=by rw [p4 hlt]; exact p1
  obtain⟨r,a1,a2⟩:=aBl hp1 (by omega);exact⟨j',true,swp d1 j' lo,rfl,by omega,by omega,r0.trans r,a1,a2⟩
 ·obtain⟨k1,k2,k3⟩:=p5 (by omega);have : decide ((j':Int)<(i':Int))=false:=by simp; omega
  rw [this,cond_false];simp only [Int.toNat_natCast];rw [aO (asN (by omega)),aO (asN (by omega)),aO (asN (by omega)),aO (asN (by omega)),wrN (x:=(i':Int)+1) (n:=i'+1) (by omega) (by omega),wrN (x:=(j':Int)-1) (n:=j'-1) (by omega) (by omega)];obtain⟨d2,j2,e,r,pp⟩:=aH7 (a:=lo) (b:=hi) (j'-1+1-(i'+1)) (i'+1) (j'-1) (swp d1 i' j') rfl (by rw [jF]; omega) (by rw [jF]; omega) (p1.swap (by omega) k1 k2 k3);have w1:=pp.hi; have w2:=pp.hj;have l2:d2.length=d1.length:=by rw [r.len,jF]
  unfold mF;rw [show lp (fun s:List Int×Int×Int=>eV (lo:Int) s.1 s.2.1 s.2.2) ((List.set (List.set d1 i' (List.getD d1 j' default)) j' (List.getD d1 i' default)),((i'+1:Nat):Int),((j'-1:Nat):Int))=some (d2,(j2:Int)) from e];simp only [Option.bind_some,kC,Int.toNat_natCast];rw [aO (asN (by omega)),aO (asN (by omega)),aO (asN (by omega)),aO (asN (by omega))];obtain⟨rr,a1,a2⟩:=aBl pp (by omega);exact⟨j2,false,swp d2 j2 lo,rfl,by omega,by omega,((r0.trans ((p1.rel (by omega) (by omega)).mono (by omega) (Nat.le_refl _))).trans (r.mono (by omega) (Nat.le_refl _))).trans rr,a1,a2⟩

end Go.Abs
namespace Go.Abs
open Go
structure QT (a b i j:Nat) (d:List Int):Prop where
 hi:a<i
 hij:i<=j+1
 hj:j<b
 lo:∀ k,a<k->k<i->gN d k<=gN d a
 up:∀ k,j<k->k<b->gN d a<gN d k

theorem QT.swap {a b i j:Nat}{d:List Int}(h:QT a b i j d)(hb:b<=d.length)(hij:i<j)(h1:gN d a<gN d i)(h2:gN d j<=gN d a):QT a b (i+1) (j-1) (swp d i j):=by
 have:=h.hi; have:=h.hj;have g:=zK (d:=d) (i:=i) (j:=j) (by omega) (by omega);have ga:gN (swp d i j) a=gN d a:=by rw [g,if_neg (by omega),if_neg (by omega)]
 refine⟨by omega,by omega,by omega,fun k k1 k2=>?_,fun k k1 k2=>?_⟩
 ·rw [ga,g,if_neg (by omega)];by_cases hk:k=i
  ·rw [if_pos hk]; exact h2
  ·rw [if_neg hk]; exact h.lo k k1 (by omega)
 ·rw [ga,g];by_cases hk:k=j
  ·rw [if_pos hk]; exact h1
  ·rw [if_neg hk,if_neg (by omega)]; exact h.up k (by omega) k2

theorem aCS {a b i j:Nat}{d:List Int}(h:QT a b i j d)(hb:b<=d.length)(hl:d.length<2305843009213693951):∃ i' j':Nat,QT a b i' j' d/\i<=i'/\j'<=j/\(j'<i'->j'+1=i')/\(i'<=j'->i'<j'/\gN d a<gN d i'/\gN d j'<=gN d a) /\
  eD (a:Nat) d (i:Nat) (j:Nat)=fD d (a:Nat) (i':Nat) (j':Nat):=by
 have h1:=h.hi; have h2:=h.hij; have h3:=h.hj;obtain⟨i',e1,a1,a2,a3,a4⟩:=XX (body:=fun s=>fB (a:Nat) (j:Nat) s.1 s.2) (d:=d) (p:=fun k => ¬ gN d a<gN d k) (j:=j) (aGO (a:=a) (j:=j) (d:=d) (by omega) (by omega) hl) (j+1-i) i rfl h2;obtain⟨j',f1,c1,c2,c3,c4⟩:=RI (body:=fun s=>fC (a:Nat) (i':Nat) s.1 s.2) (d:=d) (p:=fun k=>gN d a<gN d k) (i:=i') (m:=j) (by omega) (aD3 (a:=a) (i:=i') (m:=j) (d:=d) (by omega) (by omega) (by omega) hl) j (Nat.le_refl _) a2
 have hend:i'<=j'->i'<j'/\gN d a<gN d i'/\gN d j'<=gN d a:=fun hh=>by
  have k1:gN d a<gN d i':=Classical.byContradiction fun hn=>a4 (by omega) hn;have k2:¬ gN d a<gN d j':=c4 hh;refine⟨?_,k1,by omega⟩;rcases Nat.lt_or_ge i' j' with h | h
  ·exact h
  ·have : i'=j':=by omega
   rw [this] at k1; exact absurd k1 k2
 refine⟨i',j',⟨by omega,by omega,by omega,fun k k1 k2=>?_,fun k k1 k2=>?_⟩,a1,c2,fun hh=>by omega,hend,?_⟩
 ·by_cases hk:k<i
  ·exact h.lo k k1 hk
  ·have:=a3 k (by omega) k2; omega
 ·by_cases hk:j<k
  ·exact h.up k hk k2
  ·exact c3 k k1 (by omega)
 ·unfold eD kN;rw [show lp (fun s:List Int×Int=>fB (a:Nat) (j:Nat) s.1 s.2) (d,(i:Int))=some (d,(i':Int)) from e1];simp only [Option.bind_some];unfold iG kM;rw [show lp (fun s:List Int×Int=>fC (a:Nat) (i':Nat) s.1 s.2) (d,(j:Int))=some (d,(j':Int)) from f1];rfl

theorem aGr {a b:Nat}:∀ (n i j:Nat) (d:List Int),j+1-i=n->b<=d.length->d.length<2305843009213693951->QT a b i j d ->
  ∃ (d':List Int) (j':Nat),lp (fun s:List Int×Int×Int=>eD (a:Nat) s.1 s.2.1 s.2.2) (d,(i:Int),(j:Int))=some (d',((j'+1:Nat):Int))/\Rel (a+1) b d d'/\QT a b (j'+1) j' d':=by
 intro n
 induction n using Nat.strongRecOn with
 | ind n ih =>
  intro i j d h1 h2 h3 h;obtain⟨i',j',p1,p2,p3,p4,p5,p6⟩:=aCS h h2 h3;have q1:=p1.hi; have q2:=p1.hj; have q3:=p1.hij;by_cases hlt:j'<i'
  ·have hs:eD (a:Nat) d (i:Nat) (j:Nat)=some (.inr (d,(i':Int))):=by
    rw [p6];unfold fD;have : decide ((j':Int)<(i':Int))=true:=by simp; omega
    rw [this,cond_true]
   have:=p4 hlt;exact⟨d,j',by rw [this]; exact cZ hs,Rel.refl ..,by rw [this]; exact p1⟩
  ·obtain⟨k1,k2,k3⟩:=p5 (by omega)
   have hs:eD (a:Nat) d (i:Nat) (j:Nat)=some (.inl (swp d i' j',((i'+1:Nat):Int),((j'-1:Nat):Int))):=by
    rw [p6];unfold fD;have : decide ((j':Int)<(i':Int))=false:=by simp; omega
    rw [this,cond_false];simp only [Int.toNat_natCast];rw [aO (asN (by omega)),aO (asN (by omega)),aO (asN (by omega)),aO (asN (by omega)),wrN (x:=(i':Int)+1) (n:=i'+1) (by omega) (by omega),wrN (x:=(j':Int)-1) (n:=j'-1) (by omega) (by omega)];rfl
   obtain⟨d',j2,e,r,p⟩:=ih (j'-1+1-(i'+1)) (by omega) (i'+1) (j'-1) (swp d i' j') rfl (by rw [jF]; exact h2) (by rw [jF]; exact h3) (p1.swap h2 k1 k2 k3);exact⟨d',j2,(eT hs).trans e,(Rel.swp (i:=i') (j:=j') (by omega) (by omega) (by omega) (by omega)).trans r,p⟩

theorem aAO {lo hi p:Nat}{d:List Int}(h0:lo<hi)(hb:hi<=d.length)(hl:d.length<2305843009213693951)(hp:lo<=p/\p<hi) :
  ∃ (m:Nat) (d':List Int),gG d (lo:Int) (hi:Int) (p:Int)=some ((m:Int),d')/\lo<m/\m<=hi/\Rel lo hi d d'/\(∀ k,lo<=k->k<m->gN d' k<=gN d p)/\(∀ k,m<=k->k<hi->gN d p<gN d' k):=by
 unfold gG;rw [aO (asN (by omega)),aO (asN (by omega)),aO (asN (by omega)),aO (asN (by omega)),wrN (x:=(lo:Int)+1) (n:=lo+1) (by omega) (by omega),wrN (x:=(hi:Int)-1) (n:=hi-1) (by omega) (by omega)];simp only [Int.toNat_natCast];have r0:Rel lo hi d (swp d lo p):=Rel.swp (i:=lo) (j:=p) (by omega) (by omega) (by omega) (by omega);have l0:(swp d lo p).length=d.length:=jF ..;have g:=zK (d:=d) (i:=lo) (j:=p) (by omega) (by omega)
 have g0:gN (swp d lo p) lo=gN d p:=by
  rw [g];by_cases hh:lo=p
  ·rw [if_pos hh,hh]
  ·rw [if_neg hh,if_pos rfl]
 have inv:QT lo hi (lo+1) (hi-1) (swp d lo p):=⟨by omega,by omega,by omega,fun k k1 k2=>by omega,fun k k1 k2=>by omega⟩;obtain⟨d',j',e,r,pp⟩:=aGr (a:=lo) (b:=hi) (hi-1+1-(lo+1)) (lo+1) (hi-1) (swp d lo p) rfl (by rw [l0]; exact hb) (by rw [l0]; exact hl) inv;have w1:=pp.hi; have w2:=pp.hj;have ga:gN d' lo=gN d p:=by rw [r.out lo (by omega),g0]
 unfold kP;rw [show lp (fun s:List Int×Int×Int=>eD (lo:Int) s.1 s.2.1 s.2.2) ((List.set (List.set d lo (List.getD d p default)) p (List.getD d lo default)),((lo+1:Nat):Int),((hi-1:Nat):Int))=some (d',((j'+1:Nat):Int)) from e];refine⟨j'+1,d',rfl,by omega,by omega,r0.trans (r.mono (by omega) (Nat.le_refl _)),fun k k1 k2=>?_,fun k k1 k2=>?_⟩
 ·rw [←ga];by_cases hk:k=lo
  ·rw [hk]; exact Int.le_refl _
  ·exact pp.lo k (by omega) k2
 ·rw [←ga]; exact pp.up k (by omega) k2

theorem aDL {lo i:Nat}{d:List Int}:∀ (n i':Nat),i'-i=n->tZ lo i d->lo<i->(∀ k,i<=k->k<i'->gN d (k-1)<=gN d k)->tZ lo i' d
 | 0,i',h,hs,_,_=>fun p q p1 p2 p3=>hs p q p1 p2 (by omega)
 | n+1,i',h,hs,hl,hk=>by
  have ih:=aDL (d:=d) n (i'-1) (by omega) hs hl fun k k1 k2=>hk k k1 (by omega);intro p q p1 p2 p3;by_cases hq:q=i'-1
  ·by_cases hp:p=q
   ·rw [hp]; exact Int.le_refl _
   ·have h1:=hk q (by omega) (by omega);have h2:=ih p (q-1) p1 (by omega) (by omega);omega
  ·exact ih p q p1 p2 (by omega)

theorem aGZ {lo hi:Nat}{d:List Int}(x:Int)(hb:hi<=d.length)(hl:d.length<2305843009213693951):∀ (n i:Nat),hi-i=n->1<=i->i<=hi ->
  ∃ i':Nat,lp (fun s:List Int×Int=>dY (lo:Nat) (hi:Nat) x s.1 s.2) (d,(i:Int))=some (d,(i':Int))/\i<=i'/\i'<=hi/\(∀ k,i<=k->k<i'->gN d (k-1)<=gN d k):=by
 intro n
 induction n with
 | zero =>
  intro i h1 h2 h3;refine⟨i,cZ ?_,Nat.le_refl _,h3,fun k k1 k2=>by omega⟩;show dY _ _ _ _ _=_;have : decide ((i:Int)<(hi:Int))=false:=by simp; omega
  simp only [dY,this];rw [aO (fun h=>by cases h),aO (fun h=>by cases h)];rfl
 | succ n ih =>
  intro i h1 h2 h3;have hd:decide ((i:Int)<(hi:Int))=true:=by simp; omega
  have hs:dY (lo:Nat) (hi:Nat) x d (i:Nat)=if gN d i<gN d (i-1) then some (.inr (d,(i:Int))) else some (.inl (d,((i+1:Nat):Int))):=by
   unfold dY;rw [hd,wrN (x:=(i:Int)-1) (n:=i-1) (by omega) (by omega),wrN (x:=(i:Int)+1) (n:=i+1) (by omega) (by omega),aO fun _=>asN (by omega),aO fun _=>asN (by omega)];simp only [cW,cond_true,xR,Option.bind_some,Bool.true_and,Int.toNat_natCast,gN];by_cases h:d.getD i default<d.getD (i-1) default <;> simp [h]
  by_cases h:gN d i<gN d (i-1)
  ·rw [if_pos h] at hs;exact⟨i,cZ hs,Nat.le_refl _,h3,fun k k1 k2=>by omega⟩
  ·rw [if_neg h] at hs;obtain⟨i',e,a1,a2,a3⟩:=ih (i+1) (by omega) (by omega) (by omega);refine⟨i',(eT hs).trans e,by omega,a2,fun k k1 k2=>?_⟩;by_cases hk:k=i
   ·rw [hk]; omega
   ·exact a3 k (by omega) k2

theorem RT {lo hi:Nat}{d d':List Int}(r:Rel lo hi d d')(h:lo=0 ∨ ∀ k,lo<=k->k<hi->gN d (lo-1)<=gN d k):lo=0 ∨ ∀ k,lo<=k->k<hi->gN d' (lo-1)<=gN d' k:=by
 by_cases h0:lo=0
 ·exact .inl h0
 ·rcases h with h | h
  ·exact .inl h
  ·exact .inr fun k k1 k2=>by
    rw [r.out (lo-1) (by omega)];exact r.all (p:=fun v=>gN d (lo-1)<=v) h k k1 k2

theorem aG3 {lo hi i:Nat}(x y:Int):∀ (j:Nat) (d:List Int),lo<=j->j<=i->i<d.length->d.length<2305843009213693951->PN lo j i d->(lo=0 ∨ ∀ k,lo<=k->k<=i->gN d (lo-1)<=gN d k) ->
  ∃ d',lp (fun s:List Int×Int=>dO (lo:Nat) (hi:Nat) x y s.1 s.2) (d,(j:Int))=some d'/\Rel lo (i+1) d d'/\tZ lo (i+1) d':=by
 intro j
 induction j with
 | zero =>
  intro d h1 h2 h3 h4 h5 h6;refine⟨d,cZ ?_,Rel.refl ..,h5.done h1 (by omega)⟩;show dO _ _ _ _ _ _=_;have : decide ((1:Int)<=((0:Nat):Int))=false:=by simp
  simp only [dO,this,cond_false]
 | succ j ih =>
  intro d h1 h2 h3 h4 h5 h6;have hd:decide ((1:Int)<=((j+1:Nat):Int))=true:=by simp; omega
  have hs:dO (lo:Nat) (hi:Nat) x y d ((j+1:Nat):Int)=if gN d (j+1)<gN d j then some (.inl (swp d (j+1) j,(j:Int))) else some (.inr d):=by
   unfold dO;rw [hd,cond_true,wrN (x:=((j+1:Nat):Int)-1) (n:=j) (by omega) (by omega),aO (asN (by omega)),aO (asN (by omega))];simp only [xR,Option.bind_some,Int.toNat_natCast,gN];by_cases h:d.getD (j+1) default<d.getD j default
   ·simp only [h,decide_true,Bool.not_true,cond_false,if_true];rw [aO (asN (by omega)),aO (asN (by omega)),aO (asN (by omega)),aO (asN (by omega))];rfl
   ·simp only [h,decide_false,Bool.not_false,cond_true,if_false]
  by_cases h:gN d (j+1)<gN d j
  ·rw [if_pos h] at hs
   have hlo:lo<j+1:=by
    rcases h6 with h6 | h6
    ·omega
    ·rcases Nat.lt_or_ge lo (j+1) with hh | hh
     ·exact hh
     ·have : lo=j+1:=by omega
      have h7:=h6 (j+1) (by omega) h2;rw [this] at h7;simp only [Nat.add_sub_cancel] at h7;omega
   have r1:Rel lo (i+1) d (swp d (j+1) j):=Rel.swp (i:=j+1) (j:=j) (by omega) (by omega) (by omega) (by omega);obtain⟨d',e,r,s⟩:=ih (swp d (j+1) j) (by omega) (by omega) (by rw [jF]; exact h3) (by rw [jF]; exact h4) (h5.next hlo h2 h3 h) ((RT r1 (h6.imp id fun h k a b=>h k a (by omega))).imp id fun h k a b=>h k a (by omega));exact⟨d',(eT hs).trans e,r1.trans r,s⟩
  ·rw [if_neg h] at hs;exact⟨d,cZ hs,Rel.refl ..,h5.done h1 fun hh=>h hh.2⟩

theorem aIu {lo hi i:Nat}(x y:Int):∀ (n j:Nat) (d:List Int),hi-j=n->i<j->hi<=d.length->d.length<2305843009213693951 ->
  ∃ d',lp (fun s:List Int×Int=>dZ (lo:Nat) (hi:Nat) x y s.1 s.2) (d,(j:Int))=some d'/\Rel i hi d d':=by
 intro n
 induction n with
 | zero =>
  intro j d h1 h2 h3 h4;refine⟨d,cZ ?_,Rel.refl ..⟩;show dZ _ _ _ _ _ _=_;have : decide ((j:Int)<(hi:Int))=false:=by simp; omega
  simp only [dZ,this,cond_false]
 | succ n ih =>
  intro j d h1 h2 h3 h4;have hd:decide ((j:Int)<(hi:Int))=true:=by simp; omega
  have hs:dZ (lo:Nat) (hi:Nat) x y d (j:Nat)=if gN d j<gN d (j-1) then some (.inl (swp d j (j-1),((j+1:Nat):Int))) else some (.inr d):=by
   unfold dZ;rw [hd,cond_true,wrN (x:=(j:Int)-1) (n:=j-1) (by omega) (by omega),wrN (x:=(j:Int)+1) (n:=j+1) (by omega) (by omega),aO (asN (by omega)),aO (asN (by omega))];simp only [xR,Option.bind_some,Int.toNat_natCast,gN];by_cases h:d.getD j default<d.getD (j-1) default
   ·simp only [h,decide_true,Bool.not_true,cond_false,if_true];rw [aO (asN (by omega)),aO (asN (by omega)),aO (asN (by omega)),aO (asN (by omega))];rfl
   ·simp only [h,decide_false,Bool.not_false,cond_true,if_false]
  by_cases h:gN d j<gN d (j-1)
  ·rw [if_pos h] at hs;obtain⟨d',e,r⟩:=ih (j+1) (swp d j (j-1)) (by omega) (by omega) (by rw [jF]; exact h3) (by rw [jF]; exact h4);exact⟨d',(eT hs).trans e,(Rel.swp (i:=j) (j:=j-1) (by omega) (by omega) (by omega) (by omega)).trans r⟩
  ·rw [if_neg h] at hs;exact⟨d,cZ hs,Rel.refl ..⟩

theorem aFS {lo hi i:Nat}(x:Int){d:List Int}(h1:lo<i)(h2:i<hi)(h3:hi<=d.length)(h4:d.length<2305843009213693951) :
  ∃ d',dP d (lo:Nat) (hi:Nat) (i:Nat) x=some (.inl (d',(i:Int),IntKind.i64.wrap (x+1)))/\Rel i hi d d':=by
 unfold dP;rw [wrN (x:=(hi:Int)-(i:Int)) (n:=hi-i) (by omega) (by omega)];by_cases h:(2:Int)<=((hi-i:Nat):Int)
 ·simp only [h,decide_true,cond_true];unfold iP;rw [wrN (x:=(i:Int)+1) (n:=i+1) (by omega) (by omega)];obtain⟨d',e,r⟩:=aIu (lo:=lo) (hi:=hi) (i:=i) (i:Int) x (hi-(i+1)) (i+1) d rfl (by omega) h3 h4;rw [e];exact⟨d',rfl,r⟩
 ·simp only [h,decide_false,cond_false];exact⟨d,rfl,Rel.refl ..⟩

theorem aG1 {lo hi i:Nat}(x:Int){d:List Int}(h1:lo<i)(h2:i<=hi)(h3:hi<=d.length)(h4:d.length<2305843009213693951)(hs:tZ lo i d)(hb:lo=0 ∨ ∀ k,lo<=k->k<hi->gN d (lo-1)<=gN d k) :
  (∃ (fl:Bool) (d':List Int),eM d (lo:Nat) (hi:Nat) (i:Nat) x=some (.inr (.inr (fl,d')))/\Rel lo hi d d'/\(fl=true->tZ lo hi d')) ∨
  (∃ (d':List Int) (i':Nat),eM d (lo:Nat) (hi:Nat) (i:Nat) x=some (.inl (d',(i':Int),IntKind.i64.wrap (x+1)))/\Rel lo hi d d'/\lo<i'/\i'<=hi/\tZ lo i' d'):=by
 unfold eM;obtain⟨i',e,a1,a2,a3⟩:=aGZ (lo:=lo) (hi:=hi) x h3 h4 (hi-i) i rfl (by omega) h2;rw [e];simp only [Option.bind_some];have hs':=aDL (i'-i) i' rfl hs h1 a3;unfold fQ;by_cases hi':i'=hi
 ·have : decide ((i':Int)=(hi:Int))=true:=by simp; omega
  rw [this,cond_true];left;exact⟨true,d,rfl,Rel.refl ..,fun _=>hi' ▸ hs'⟩
 ·have hne:decide ((i':Int)=(hi:Int))=false:=by simp; omega
  rw [hne,cond_false,wrN (x:=(hi:Int)-(lo:Int)) (n:=hi-lo) (by omega) (by omega)];by_cases h50:((hi-lo:Nat):Int)<50
  ·simp only [h50,decide_true,cond_true];left;exact⟨false,d,rfl,Rel.refl ..,fun h=>by cases h⟩
  ·simp only [h50,decide_false,cond_false];rw [wrN (x:=(i':Int)-1) (n:=i'-1) (by omega) (by omega),wrN (x:=(i':Int)-(lo:Int)) (n:=i'-lo) (by omega) (by omega)];simp only [Int.toNat_natCast];rw [aO (asN (by omega)),aO (asN (by omega)),aO (asN (by omega)),aO (asN (by omega))];have r1:Rel lo hi d (swp d i' (i'-1)):=Rel.swp (i:=i') (j:=i'-1) (by omega) (by omega) (by omega) (by omega);have l1:(swp d i' (i'-1)).length=d.length:=jF ..;have g:=zK (d:=d) (i:=i') (j:=i'-1) (by omega) (by omega);right;by_cases hge:(2:Int)<=((i'-lo:Nat):Int)
   ·simp only [hge,decide_true,cond_true];unfold iQ
    have ins:PN lo (i'-1) (i'-1) (swp d i' (i'-1)):=⟨fun p q p1 p2 p3 p4 p5=>by
     rw [g,g,if_neg p4,if_neg p5,if_neg (by omega),if_neg (by omega)];exact hs' p q p1 p2 (by omega),fun q q1 q2=>by omega⟩
    obtain⟨d2,e2,r2,s2⟩:=aG3 (lo:=lo) (hi:=hi) (i:=i'-1) (i':Int) x (i'-1) (swp d i' (i'-1)) (by omega) (Nat.le_refl _) (by rw [l1]; omega) (by rw [l1]; exact h4) ins ((RT r1 hb).imp id fun h k a b=>h k a (by omega));have e2':lp (fun s:List Int×Int=>dO (lo:Int) (hi:Int) (i':Int) x s.1 s.2) ((List.set (List.set d i' (List.getD d (i'-1) default)) (i'-1) (List.getD d i' default)),((i'-1:Nat):Int))=some d2:=e2;rw [e2'];simp only [Option.bind_some];rw [show i'-1+1=i' by omega] at r2 s2;have l2:d2.length=d.length:=by rw [r2.len,l1]
    obtain⟨d3,e3,r3⟩:=aFS (lo:=lo) (hi:=hi) (i:=i') x (d:=d2) (by omega) (by omega) (by omega) (by omega);rw [e3];refine⟨d3,i',rfl,(r1.trans (r2.mono (Nat.le_refl _) (by omega))).trans (r3.mono (by omega) (Nat.le_refl _)),by omega,a2,fun p q p1 p2 p3=>?_⟩;rw [r3.out p (by omega),r3.out q (by omega)];exact s2 p q p1 p2 p3
   ·simp only [hge,decide_false,cond_false];obtain⟨d3,e3,r3⟩:=aFS (lo:=lo) (hi:=hi) (i:=i') x (d:=swp d i' (i'-1)) (by omega) (by omega) (by omega) (by omega);have e3':dP (List.set (List.set d i' (List.getD d (i'-1) default)) (i'-1) (List.getD d i' default)) (lo:Int) (hi:Int) (i':Int) x=_:=e3;rw [e3'];refine⟨d3,i',rfl,r1.trans (r3.mono (by omega) (Nat.le_refl _)),by omega,a2,?_⟩;have : i'=lo+1:=by omega
    rw [this]; exact TM lo d3

theorem aIq {lo hi:Nat}:∀ (n x i:Nat) (d:List Int),5-x=n->lo<i->i<=hi->hi<=d.length->d.length<2305843009213693951->tZ lo i d->(lo=0 ∨ ∀ k,lo<=k->k<hi->gN d (lo-1)<=gN d k)->x<=5 ->
  ∃ (fl:Bool) (d':List Int),(lp (fun s:List Int×Int×Int=>cN (lo:Nat) (hi:Nat) s.1 s.2.1 s.2.2) (d,(i:Int),(x:Int))).bind (Sum.elim (fun rr=>fR rr) (fun rr=>some (rr.1,rr.2)))=some (fl,d')/\Rel lo hi d d'/\(fl=true->tZ lo hi d'):=by
 intro n
 induction n with
 | zero =>
  intro x i d h1 h2 h3 h4 h5 h6 h7 h8
  have hs:cN (lo:Nat) (hi:Nat) d (i:Nat) (x:Nat)=some (.inr (.inl d)):=by
   have : decide ((x:Int)<5)=false:=by simp; omega
   simp only [cN,this,cond_false]
  rw [cZ (show (fun s:List Int×Int×Int=>cN (lo:Nat) (hi:Nat) s.1 s.2.1 s.2.2) (d,(i:Int),(x:Int))=_ from hs)];exact⟨false,d,rfl,Rel.refl ..,fun h=>by cases h⟩
 | succ n ih =>
  intro x i d h1 h2 h3 h4 h5 h6 h7 h8
  have hl2:cN (lo:Nat) (hi:Nat) d (i:Nat) (x:Nat)=eM d (lo:Nat) (hi:Nat) (i:Nat) (x:Nat):=by
   have : decide ((x:Int)<5)=true:=by simp; omega
   simp only [cN,this,cond_true]
  rcases aG1 (lo:=lo) (hi:=hi) (x:Int) h2 h3 h4 h5 h6 h7 with ⟨fl,d',e,r,s⟩ | ⟨d',i',e,r,k1,k2,s⟩
  ·rw [cZ (show (fun s:List Int×Int×Int=>cN (lo:Nat) (hi:Nat) s.1 s.2.1 s.2.2) (d,(i:Int),(x:Int))=_ from hl2.trans e)];exact⟨fl,d',rfl,r,s⟩
  ·rw [wrN (x:=(x:Int)+1) (n:=x+1) (by omega) (by omega)] at e;obtain⟨fl,d2,e2,r2,s2⟩:=ih (x+1) i' d' (by omega) k1 k2 (by rw [r.len]; exact h4) (by rw [r.len]; exact h5) s (RT r h7) (by omega);rw [eT (show (fun s:List Int×Int×Int=>cN (lo:Nat) (hi:Nat) s.1 s.2.1 s.2.2) (d,(i:Int),(x:Int))=_ from hl2.trans e)];exact⟨fl,d2,e2,r.trans r2,s2⟩

theorem aGd {lo hi:Nat}{d:List Int}(h0:lo<hi)(h1:hi<=d.length)(h2:d.length<2305843009213693951)(hb:lo=0 ∨ ∀ k,lo<=k->k<hi->gN d (lo-1)<=gN d k) :
  ∃ (fl:Bool) (d':List Int),fS d (lo:Int) (hi:Int)=some (fl,d')/\Rel lo hi d d'/\(fl=true->tZ lo hi d'):=by
 unfold fS iO;rw [wrN (x:=(lo:Int)+1) (n:=lo+1) (by omega) (by omega)];exact aIq (lo:=lo) (hi:=hi) (5-0) 0 (lo+1) d rfl (by omega) (by omega) h1 h2 (TM lo d) hb (by omega)

end Go.Abs
namespace Go.Abs
open Go
abbrev PS:=List Int×Int×Int×Int×Bool×Bool

abbrev PR:=List Int->Int->Int->Int->Option (List Int)

def GU (a b:Nat)(d d':List Int):Prop:=Rel a b d d'/\tZ a b d'

structure GR (a b lim:Nat) (d:List Int):Prop where
 ab:a<=b
 bl:b<=d.length
 len:d.length<2305843009213693951
 bnd:a=0 ∨ ∀ k,a<=k->k<b->gN d (a-1)<=gN d k
 lim:lim<=100

def RS (rec:PR)(N:Nat):Prop:=∀ (d:List Int) (a b lim:Nat),GR a b lim d->(rec d (a:Int) (b:Int) (lim:Int)=none/\N<=b-a) ∨ ∃ d',rec d (a:Int) (b:Int) (lim:Int)=some d'/\GU a b d d'

def OI (N a b:Nat)(d:List Int)(F:Option (PS⊕List Int)):Prop :=
 (F=none/\N+1<=b-a)∨(∃ d',F=some (.inr d')/\GU a b d d') ∨
 ∃ (d':List Int) (a' b' lim':Nat) (wb wp:Bool),F=some (.inl (d',(a':Int),(b':Int),(lim':Int),wb,wp))/\b'-a'<b-a/\GR a' b' lim' d' /\ ∀ d'',GU a' b' d' d''->GU a b d d''

theorem GU.pre {a b:Nat}{d d1 d':List Int}(r:Rel a b d d1)(h:GU a b d1 d'):GU a b d d':=⟨r.trans h.1,h.2⟩

theorem OI.pre {N a b:Nat}{d d1:List Int}{F:Option (PS⊕List Int)}(r:Rel a b d d1)(h:OI N a b d1 F):OI N a b d F:=by
 rcases h with h | ⟨d',h1,h2⟩ | ⟨d',a',b',lim',wb,wp,h1,h2,h3,h4⟩
 ·exact .inl h
 ·exact .inr (.inl ⟨d',h1,h2.pre r⟩)
 ·exact .inr (.inr ⟨d',a',b',lim',wb,wp,h1,h2,h3,fun d'' hg=>(h4 d'' hg).pre r⟩)

theorem GR.rel {a b lim:Nat}{d d1:List Int}(h:GR a b lim d)(r:Rel a b d d1):GR a b lim d1 :=
 ⟨h.ab,by rw [r.len]; exact h.bl,by rw [r.len]; exact h.len,RT r h.bnd,h.lim⟩

theorem aBr {a m b:Nat}{d:List Int}(hm:m<b)(h1:∀ k,a<=k->k<m->gN d k<=gN d m)(h2:∀ k,m<k->k<b->gN d m<=gN d k)(s1:tZ a m d)(s2:tZ (m+1) b d):tZ a b d:=by
 intro p q p1 p2 p3;by_cases hq:q<m
 ·exact s1 p q p1 p2 hq
 ·by_cases hp:m<p
  ·exact s2 p q hp p2 p3
  ·have g1:gN d p<=gN d m:=by
    by_cases e:p=m
    ·rw [e]; exact Int.le_refl _
    ·exact h1 p p1 (by omega)
   have g2:gN d m<=gN d q:=by
    by_cases e:q=m
    ·rw [e]; exact Int.le_refl _
    ·exact h2 q (by omega) p3
   omega

theorem aFe {rec:PR}{N a b lim p:Nat}{d:List Int}(hrec:RS rec N)(hv:GR a b lim d)(h12:12<b-a)(hp:a<=p/\p<b)(wb wp:Bool)(len:Int) :
  OI N a b d (jJ rec d (a:Int) (b:Int) (lim:Int) wb wp len (p:Int)):=by
 have hb:=hv.bl; have hl:=hv.len
 -- with all equal ones on the left
 have eqc:0<a -> ¬ gN d (a-1)<gN d p->OI N a b d ((gG d (a:Int) (b:Int) (p:Int)).bind fun x20=>some (.inl (x20.2,x20.1,(b:Int),(lim:Int),wb,wp))):=by
  intro ha hn;obtain⟨m,d',e,m1,m2,r,q1,q2⟩:=aAO (lo:=a) (hi:=b) (p:=p) (d:=d) (by omega) hb hl hp
  have hall:∀ k,a<=k->k<b->gN d p<=gN d' k:=by
   refine r.all (p:=fun v=>gN d p<=v) fun k k1 k2=>?_;rcases hv.bnd with h | h
   ·omega
   ·have:=h k k1 k2; omega
  rw [e];refine .inr (.inr ⟨d',m,b,lim,wb,wp,rfl,by omega,⟨m2,by rw [r.len]; exact hb,by rw [r.len]; exact hl,.inr fun k k1 k2=>?_,hv.lim⟩,fun d'' hg=>⟨r.trans (hg.1.mono (by omega) (Nat.le_refl _)),fun x y x1 x2 x3=>?_⟩⟩)
  ·have:=q1 (m-1) (by omega) (by omega); have:=q2 k k1 k2; omega
  ·by_cases hx:m<=x
   ·exact hg.2 x y hx x2 x3
   ·rw [hg.1.out x (by omega)];have g1:=q1 x x1 (by omega);by_cases hy:y<m
    ·rw [hg.1.out y (by omega)];have g2:=hall y (by omega) (by omega); omega
    ·have g2:=hg.1.all (p:=fun v=>gN d p<v) q2 y (by omega) x3;omega
 -- a partition,and the lesser part first
 have ptc:OI N a b d ((iV d (a:Int) (b:Int) (p:Int)).bind fun x23 =>
   bG ((8:Int)≠0) <|
   cond (decide ((IntKind.i64.wrap (x23.1.1-(a:Int)))<(IntKind.i64.wrap ((b:Int)-x23.1.1))))
   ((rec x23.2 (a:Int) x23.1.1 (lim:Int)).bind fun x28 =>
   some (.inl (x28,IntKind.i64.wrap (x23.1.1+(1:Int)),(b:Int),(lim:Int),decide ((IntKind.i64.wrap (Int.tdiv len (8:Int)))<=(IntKind.i64.wrap (x23.1.1-(a:Int)))),x23.1.2)))
   ((rec x23.2 (IntKind.i64.wrap (x23.1.1+(1:Int))) (b:Int) (lim:Int)).bind fun x31 =>
   some (.inl (x31,(a:Int),x23.1.1,(lim:Int),decide ((IntKind.i64.wrap (Int.tdiv len (8:Int)))<=(IntKind.i64.wrap ((b:Int)-x23.1.1))),x23.1.2)))):=by
  obtain⟨m,fl,d1,e,m1,m2,r,q1,q2⟩:=aA9 (lo:=a) (hi:=b) (p:=p) (d:=d) (by omega) hb hl hp;have hv1:=hv.rel r;rw [e];simp only [Option.bind_some];rw [aO (by decide),wrN (x:=(m:Int)+1) (n:=m+1) (by omega) (by omega)];have vL:GR a m lim d1:=⟨m1,by have:=hv1.bl; omega,hv1.len,hv1.bnd.imp id fun h k k1 k2=>h k k1 (by omega),hv.lim⟩;have vR:GR (m+1) b lim d1:=⟨by omega,hv1.bl,hv1.len,.inr fun k k1 k2=>by simpa using q2 k (by omega) k2,hv.lim⟩
  cases decide ((IntKind.i64.wrap ((m:Int)-(a:Int)))<(IntKind.i64.wrap ((b:Int)-(m:Int)))) with
  | true =>
   rw [cond_true];rcases hrec d1 a m lim vL with ⟨hn,hN⟩ | ⟨d2,e2,g2⟩
   ·rw [hn]; exact .inl ⟨rfl,by omega⟩
   ·rw [e2];simp only [Option.bind_some];have top:gN d2 m=gN d1 m:=g2.1.out m (by omega);refine .inr (.inr ⟨d2,m+1,b,lim,_,_,rfl,by omega,⟨by omega,by rw [g2.1.len]; exact hv1.bl,by rw [g2.1.len]; exact hv1.len,.inr fun k k1 k2=>?_,hv.lim⟩,fun d3 hg=>⟨(r.trans (g2.1.mono (Nat.le_refl _) (by omega))).trans (hg.1.mono (by omega) (Nat.le_refl _)),?_⟩⟩)
    ·rw [show m+1-1=m by omega,top,g2.1.out k (by omega)]; exact q2 k (by omega) k2
    ·have o3:∀ k,k<=m->gN d3 k=gN d2 k:=fun k hk=>hg.1.out k (by omega);refine aBr m2 (fun k k1 k2=>?_) (fun k k1 k2=>?_) (fun x y x1 x2 x3=>by rw [o3 x (by omega),o3 y (by omega)]; exact g2.2 x y x1 x2 x3) hg.2
     ·rw [o3 k (by omega),o3 m (by omega),top];exact g2.1.all (p:=fun v=>v<=gN d1 m) q1 k k1 k2
     ·rw [o3 m (by omega),top];exact hg.1.all (p:=fun v=>gN d1 m<=v) (fun k k1 k2=>by rw [g2.1.out k (by omega)]; exact q2 k (by omega) k2) k (by omega) k2
  | false =>
   rw [cond_false];rcases hrec d1 (m+1) b lim vR with ⟨hn,hN⟩ | ⟨d2,e2,g2⟩
   ·rw [hn]; exact .inl ⟨rfl,by omega⟩
   ·rw [e2];simp only [Option.bind_some];have low:∀ k,k<=m->gN d2 k=gN d1 k:=fun k hk=>g2.1.out k (by omega);refine .inr (.inr ⟨d2,a,m,lim,_,_,rfl,by omega,⟨m1,by rw [g2.1.len]; have:=hv1.bl; omega,by rw [g2.1.len]; exact hv1.len,?_,hv.lim⟩,fun d3 hg=>⟨(r.trans (g2.1.mono (by omega) (Nat.le_refl _))).trans (hg.1.mono (Nat.le_refl _) (by omega)),?_⟩⟩)
    ·rcases hv1.bnd with h | h
     ·exact .inl h
     ·exact .inr fun k k1 k2=>by rw [low (a-1) (by omega),low k (by omega)]; exact h k k1 (by omega)
    ·have o3:∀ k,m<=k->gN d3 k=gN d2 k:=fun k hk=>hg.1.out k (by omega);refine aBr m2 (fun k k1 k2=>?_) (fun k k1 k2=>?_) hg.2 (fun x y x1 x2 x3=>by rw [o3 x (by omega),o3 y (by omega)]; exact g2.2 x y x1 x2 x3)
     ·rw [o3 m (Nat.le_refl _),low m (Nat.le_refl _)];exact hg.1.all (p:=fun v=>v<=gN d1 m) (fun k k1 k2=>by rw [low k (by omega)]; exact q1 k k1 k2) k k1 k2
     ·rw [o3 m (Nat.le_refl _),low m (Nat.le_refl _),o3 k (by omega)];exact g2.1.all (p:=fun v=>gN d1 m<=v) (fun k k1 k2=>q2 k (by omega) k2) k (by omega) k2
 unfold jJ;by_cases ha:0<a
 ·have hd:decide ((0:Int)<(a:Int))=true:=by simp; omega
  rw [hd,wrN (x:=(a:Int)-1) (n:=a-1) (by omega) (by omega),aO fun _=>asN (by omega),aO fun _=>asN (by omega)];simp only [cW,cond_true,xR,Option.bind_some,Bool.true_and,Int.toNat_natCast];by_cases hlt:gN d (a-1)<gN d p
  ·simp only [gN] at hlt;simp only [hlt,decide_true,Bool.not_true,cond_false];exact ptc
  ·have:=eqc ha hlt;simp only [gN] at hlt;simp only [hlt,decide_false,Bool.not_false,cond_true];exact this
 ·have hd:decide ((0:Int)<(a:Int))=false:=by simp; omega
  rw [hd,aO (fun h=>by cases h),aO (fun h=>by cases h)];simp only [cW,cond_false,Option.bind_some,Bool.false_and];exact ptc

theorem aFm {rec:PR}{N a b lim p:Nat}{d:List Int}(hrec:RS rec N)(hv:GR a b lim d)(h12:12<b-a)(hp:a<=p/\p<b)(wb wp:Bool)(len hint:Int) :
  OI N a b d (jH rec d (a:Int) (b:Int) (lim:Int) wb wp len (p:Int) hint):=by
 unfold jH
 cases ((wb&&wp)&&(decide (hint=(1:Int)))) with
 | false=>exact aFe hrec hv h12 hp wb wp len
 | true =>
  rw [cond_true];obtain⟨fl,d',e,r,s⟩:=aGd (lo:=a) (hi:=b) (d:=d) (by omega) hv.bl hv.len hv.bnd;rw [e];simp only [Option.bind_some]
  cases fl with
  | true=>exact .inr (.inl ⟨d',rfl,r,s rfl⟩)
  | false=>exact (aFe hrec (hv.rel r) h12 hp wb wp len).pre r

theorem aFt {rec:PR}{N a b lim:Nat}{d:List Int}(hrec:RS rec N)(hv:GR a b lim d)(h12:12<b-a)(wb wp:Bool)(len:Int) :
  OI N a b d (jD rec d (a:Int) (b:Int) (lim:Int) wb wp len):=by
 have hb:=hv.bl; have hl:=hv.len;unfold jD;obtain⟨p,h,e,p1,p2⟩:=aEs (lo:=a) (hi:=b) (d:=d) h12 hb hl;rw [e];simp only [Option.bind_some];by_cases h2:h=2
 ·simp only [h2,decide_true,cond_true];obtain⟨d',e2,r⟩:=aF9 (lo:=a) (hi:=b) (d:=d) (by omega) hb (by omega);rw [e2];simp only [Option.bind_some];rw [wrN (x:=(b:Int)-1) (n:=b-1) (by omega) (by omega),wrN (x:=(p:Int)-(a:Int)) (n:=p-a) (by omega) (by omega),wrN (x:=((b-1:Nat):Int)-((p-a:Nat):Int)) (n:=b-1-(p-a)) (by omega) (by omega)];exact (aFm hrec (hv.rel r) h12 ⟨by omega,by omega⟩ wb wp len 1).pre r
 ·simp only [h2,decide_false,cond_false];exact aFm hrec hv h12 ⟨p1,p2⟩ wb wp len h

theorem aIf {rec:PR}{N a b lim:Nat}{d:List Int}(hrec:RS rec N)(hv:GR a b lim d)(wb wp:Bool) :
  OI N a b d (fM rec d (a:Int) (b:Int) (lim:Int) wb wp):=by
 have hb:=hv.bl; have hl:=hv.len; have hab:=hv.ab;unfold fM;rw [wrN (x:=(b:Int)-(a:Int)) (n:=b-a) (by omega) (by omega)];by_cases h12:((b-a:Nat):Int)<=12
 ·simp only [h12,decide_true,cond_true];obtain⟨d',e,r,s⟩:=aG6 (lo:=a) (hi:=b) (d:=d) hb (by omega) hab;rw [e];exact .inr (.inl ⟨d',rfl,r,s⟩)
 ·simp only [h12,decide_false,cond_false];by_cases h0:lim=0
  ·have : decide ((lim:Int)=0)=true:=by simp; exact h0
   rw [this,cond_true];obtain⟨d',e,r,s⟩:=aFT (lo:=a) (hi:=b) (d:=d) (by omega) hb hl;rw [e];exact .inr (.inl ⟨d',rfl,r,s⟩)
  ·have : decide ((lim:Int)=0)=false:=by simp; exact h0
   rw [this,cond_false]
   cases wb with
   | true=>exact aFt hrec hv (by omega) true wp _
   | false =>
    simp only [Bool.not_false,cond_true];obtain⟨d',e,r⟩:=aF1 (lo:=a) (hi:=b) (d:=d) (by omega) hb hl;rw [e];simp only [Option.bind_some];have hlim:=hv.lim;rw [wrN (x:=(lim:Int)-1) (n:=lim-1) (by omega) (by omega)];have hv':=hv.rel r;exact (aFt hrec ⟨hv'.ab,hv'.bl,hv'.len,hv'.bnd,by omega⟩ (by omega) false wp _).pre r

theorem aHo {S R:Type}{body:S->Option (S⊕R)}{s:S}(h:body s=none):lp body s=none:=by
 cases e:lp body s with
 | none=>rfl
 | some r =>
  obtain⟨k,hk⟩:=RX.1 e
  cases k with
  | zero=>simp [iter] at hk
  | succ k=>simp [iter,h] at hk

theorem aIA {rec:PR}{N:Nat}(hrec:RS rec N):∀ (n a b lim:Nat) (d:List Int) (wb wp:Bool),b-a=n->GR a b lim d ->
  (lp (fun s:PS=>fM rec s.1 s.2.1 s.2.2.1 s.2.2.2.1 s.2.2.2.2.1 s.2.2.2.2.2) (d,(a:Int),(b:Int),(lim:Int),wb,wp)=none/\N+1<=b-a) ∨
  ∃ d',lp (fun s:PS=>fM rec s.1 s.2.1 s.2.2.1 s.2.2.2.1 s.2.2.2.2.1 s.2.2.2.2.2) (d,(a:Int),(b:Int),(lim:Int),wb,wp)=some d'/\GU a b d d':=by
 intro n
 induction n using Nat.strongRecOn with
 | ind n ih =>
  intro a b lim d wb wp hn hv;rcases aIf hrec hv wb wp with ⟨h1,h2⟩ | ⟨d',h1,h2⟩ | ⟨d',a',b',lim',wb',wp',h1,h2,h3,h4⟩
  ·exact .inl ⟨aHo h1,h2⟩
  ·exact .inr ⟨d',cZ h1,h2⟩
  ·rw [eT (show (fun s:PS=>fM rec s.1 s.2.1 s.2.2.1 s.2.2.2.1 s.2.2.2.2.1 s.2.2.2.2.2) (d,(a:Int),(b:Int),(lim:Int),wb,wp)=_ from h1)];rcases ih (b'-a') (by omega) a' b' lim' d' wb' wp' rfl h3 with ⟨g1,g2⟩ | ⟨d2,g1,g2⟩
   ·exact .inl ⟨g1,by omega⟩
   ·exact .inr ⟨d2,g1,h4 d2 g2⟩

theorem aBm:∀ k:Nat,RS (eR k) k
 | 0=>fun _ _ _ _ _=>.inl ⟨rfl,Nat.zero_le _⟩
 | k+1=>fun d a b lim hv=>by
  show (iI (eR k) d a b lim=none/\_) ∨ ∃ d',iI (eR k) d a b lim=some d'/\_;unfold iI nM;rcases aIA (aBm k) (b-a) a b lim d true true rfl hv with ⟨h1,h2⟩ | ⟨d',h1,h2⟩
  ·rw [h1]; exact .inl ⟨rfl,h2⟩
  ·rw [h1]; exact .inr ⟨d',rfl,h2⟩

theorem aIE {a b lim:Nat}{d:List Int}(hv:GR a b lim d):∃ d',lJ d (a:Int) (b:Int) (lim:Int)=some d'/\GU a b d d':=by
 unfold lJ
 obtain⟨d',e,g⟩:∃ d',eR (b-a+1) d (a:Int) (b:Int) (lim:Int)=some d'/\GU a b d d':=by
  rcases aBm (b-a+1) d a b lim hv with ⟨_,h⟩ | h
  ·omega
  ·exact h
 cases hf:aBK (fun k=>eR k d (a:Int) (b:Int) (lim:Int)) with
 | none =>
  exfalso
  unfold aBK at hf;have hex:∃ k r,eR k d (a:Int) (b:Int) (lim:Int)=some r:=⟨_,d',e⟩;rw [dif_pos hex] at hf;obtain⟨r,hr⟩:=Classical.choose_spec hex;have hf':eR (Classical.choose hex) d (a:Int) (b:Int) (lim:Int)=none:=hf;rw [hr] at hf'
  cases hf'
 | some r =>
  obtain⟨k,hk⟩:=aAi hf;rcases aBm k d a b lim hv with ⟨h,_⟩ | ⟨d2,h,g2⟩
  ·rw [h] at hk; cases hk
  ·rw [h] at hk; cases hk; exact ⟨_,rfl,g2⟩

theorem aDW {d:List Int}(hl:d.length<2305843009213693951):∃ d',iH d=some d'/\d'.Perm d/\d'.Pairwise (· <= ·):=by
 unfold iH
 have hL:∃ L:Nat,mD (IntKind.u64.wrap ((List.length d:Nat):Int))=some (L:Int)/\L<=100:=by
  rw [QW (by omega) (by omega)];by_cases h0:d.length=0
  ·rw [h0]; exact ⟨0,aGV,by omega⟩
  ·obtain⟨k,e,h1,_⟩:=aFx (x:=((List.length d:Nat):Int)) (by omega) (by omega);exact⟨k+1,by rw [e]; rfl,by omega⟩
 obtain⟨L,eL,hL⟩:=hL;rw [eL];simp only [Option.bind_some];obtain⟨d',e,g⟩:=aIE (a:=0) (b:=d.length) (lim:=L) (d:=d) ⟨Nat.zero_le _,Nat.le_refl _,hl,.inl rfl,hL⟩;have e':lJ d 0 ((List.length d:Nat):Int) (L:Int)=some d':=e;rw [e'];refine⟨d',rfl,g.1.perm,List.pairwise_iff_getElem.2 fun i j hi hj hij=>?_⟩;have:=g.2 i j (Nat.zero_le _) (by omega) (by rw [g.1.len] at hj; exact hj);simp only [gN,List.getD_eq_getElem?_getD,List.getElem?_eq_getElem hi,List.getElem?_eq_getElem hj] at this;exact this

theorem aDS {d s:List Int}(hl:d.length<2305843009213693951)(hp:s.Perm d)(hs:s.Pairwise (· <= ·)):iH d=some s:=by
 obtain⟨d',e,p,q⟩:=aDW hl;rw [e]
 congr 1
 exact (p.trans hp.symm).eq_of_pairwise (le:=(· <= ·)) (fun a b _ _ h1 h2=>Int.le_antisymm h1 h2) q hs

end Go.Abs
namespace Go.Abs
open Go
def oA (frm:Int)(l:List aJ)(c:List Int):List Int:=l.foldl (fun c e=>if frm<e.At then iA e.At c else c) c

def DY (frm:Int)(l:List aJ)(m:List (Int×Int)):List (Int×Int):=l.foldl (fun m e=>if frm<e.At then fX m e.At 1 else m) m

def pF (l:List aJ)(frm:Int):List Int×Int :=
 if !iM l then ([],2) else if !lC l then ([],20) else if frm<0∨1125899906842624<frm then ([],13) else if frm=1125899906842624 then ([],0) else (oA frm l [frm],0)

theorem OS {k v:Int}:∀ {m:List (Int×Int)},k∈m.map (·.1)->(fX m k v).map (·.1)=m.map (·.1)
 | [],h=>by simp at h
 | p::m,h=>by
  by_cases hp:p.1=k
  ·simp [fX,hp]
  ·simp only [List.map_cons,List.mem_cons] at h;rcases h with h | h
   ·exact absurd h.symm hp
   ·simp only [fX,hp,if_false,List.map_cons,OS h]

theorem aAR {k v:Int}{m:List (Int×Int)}(h:k ∉ m.map (·.1)):(fX m k v).map (·.1)=m.map (·.1)++[k]:=by
 rw [NX fun p hp e=>h (List.mem_map.2 ⟨p,hp,e⟩)]; simp

theorem NH {t:Int}:∀ {ps:List Int},t ∉ ps->(iA t ps).Perm (t::ps)
 | [],_=>List.Perm.refl _
 | p::r,h=>by
  simp only [List.mem_cons,not_or] at h;unfold iA;rw [if_neg (fun e=>h.1 e.symm)];split
  ·exact List.Perm.refl _
  ·exact (List.Perm.cons p (NH h.2)).trans (List.Perm.swap ..)

theorem KP {frm:Int}:∀ {l:List aJ} {c:List Int} {m:List (Int×Int)},(∀ e∈l,e.At<1125899906842624)->Inc (frm-1) c->(m.map (·.1)).Perm c ->
  ((DY frm l m).map (·.1)).Perm (oA frm l c)/\Inc (frm-1) (oA frm l c)
 | [],_,_,_,hi,hp=>⟨hp,hi⟩
 | e::l,c,m,he,hi,hp=>by
  have hl:∀ e∈l,e.At<1125899906842624:=fun q hq=>he q (List.mem_cons_of_mem _ hq);by_cases h:frm<e.At
  ·have e1:DY frm (e::l) m=DY frm l (fX m e.At 1):=by simp [DY,h]
   have e2:oA frm (e::l) c=oA frm l (iA e.At c):=by simp [oA,h]
   rw [e1,e2];refine KP hl (xH hi (by omega) (he e (by simp))) ?_;by_cases hm:e.At∈m.map (·.1)
   ·rw [OS hm,IK hi (hp.mem_iff.1 hm)]; exact hp
   ·rw [aAR hm];exact ((List.perm_append_comm).trans (List.Perm.cons _ hp)).trans (NH fun hc=>hm (hp.mem_iff.2 hc)).symm
  ·have e1:DY frm (e::l) m=DY frm l m:=by simp [DY,h]
   have e2:oA frm (e::l) c=oA frm l c:=by simp [oA,h]
   rw [e1,e2];exact KP hl hi hp

theorem LJ {frm:Int}:∀ {l:List aJ} {c:List Int},(oA frm l c).length<=c.length+l.length
 | [],c=>by simp [oA]
 | e::l,c=>by
  by_cases h:frm<e.At
  ·have e2:oA frm (e::l) c=oA frm l (iA e.At c):=by simp [oA,h]
   rw [e2];have h1:=LJ (frm:=frm) (l:=l) (c:=iA e.At c);have h2:=ER (t:=e.At) (ps:=c);simp only [List.length_cons]; omega
  ·have e2:oA frm (e::l) c=oA frm l c:=by simp [oA,h]
   rw [e2];have h1:=LJ (frm:=frm) (l:=l) (c:=c);simp only [List.length_cons]; omega

theorem NS:∀ {ps:List Int} {last:Int},Inc last ps->ps.Pairwise (· < ·)
 | [],_,_=>List.Pairwise.nil
 | p::r,last,h=>List.Pairwise.cons (fun x hx=>(h.2.above x hx).1) (NS h.2)

theorem XM {ps:List Int}{last:Int}(h:Inc last ps):ps.Pairwise (· <= ·):=(NS h).imp fun h=>by omega

theorem aC9 {frm:Int}{l:List aJ}(hl:l.length<=1000000)(m:List (Int×Int)):lp (fun s:List (Int×Int)×Int=>rA frm l ((l.length:Nat):Int) s.1 s.2) (m,0)=some (DY frm l m):=by
 refine jY (l:=l) (body:=fun s:List (Int×Int)×Int=>rA frm l ((l.length:Nat):Int) s.1 s.2) (fun (s:List (Int×Int)) i=>(s,i)) (fun s r=>DY frm r s) (fun _ _=>True) m ?_ ?_ trivial
 ·intro i a r s ha _;left;obtain⟨d1,d2,d3,d4⟩:=idx ha (by omega);by_cases h:frm<a.At
  ·refine⟨fX s a.At 1,?_,trivial,by simp [DY,h]⟩;simp only [rA,wK,d1,cond_true,aO d2,d3,d4,h,decide_true]
  ·refine⟨s,?_,trivial,by simp [DY,h]⟩;simp only [rA,wK,d1,cond_true,aO d2,d3,d4,h,decide_false,cond_false]
 ·intro s _;simp only [rA,eP,cond_false]; rfl

theorem aAp {m:List (Int×Int)}:∀ {q:List (Int×Int)} {out:List Int},out.length+q.length<=1000000->dL (fun (s:List Int) (x:Int×Int)=>wZ m s x.1 x.2) out q=some (out++q.map (·.1))
 | [],out,_=>by simp [dL]
 | x::q,out,h=>by
  simp only [List.length_cons] at h
  have e1:wZ m out x.1 x.2=some (out++[x.1]):=by
   unfold wZ;rw [aO (by simp only [List.length_cons,List.length_nil]; omega)]
  simp only [dL,e1,Option.bind_some];rw [aAp (by simp only [List.length_append,List.length_cons,List.length_nil]; omega)];simp

theorem aCZ {l:List aJ}(hl:okL l)(frm:Int):DF l frm=some (pF l frm):=by
 unfold DF pF;rw [ME hl,Option.bind_some]
 cases hm:iM l with
 | false=>simp
 | true =>
  simp only [Bool.not_true,cond_false,Bool.false_eq_true,if_false,LH hl,Option.bind_some]
  cases ht:lC l with
  | false=>simp
  | true =>
   simp only [Bool.not_true,cond_false,Bool.false_eq_true,if_false];by_cases h1:frm<0∨1125899906842624<frm
   ·have : (decide (frm<0)||decide (1125899906842624<frm))=true:=by simpa using h1
    rw [this,cond_true,if_pos h1]
   ·have : (decide (frm<0)||decide (1125899906842624<frm))=false:=by simpa using h1
    rw [this,cond_false,if_neg h1];by_cases h2:frm=1125899906842624
    ·simp [h2]
    ·rw [decide_eq_false h2,cond_false,if_neg h2];have hn:=(lK hm).1;have hat:∀ e∈l,e.At<1125899906842624:=fun e he=>(pG hm he).2.2.1;obtain⟨p1,p2⟩:=KP (frm:=frm) (l:=l) (c:=[frm]) (m:=[(frm,1)]) hat ⟨⟨by omega,by omega⟩,trivial⟩ (List.Perm.refl _);have hcl:=LJ (frm:=frm) (l:=l) (c:=[frm]);have hsl:(DY frm l [(frm,1)]).length=(oA frm l [frm]).length:=by have:=p1.length_eq; simpa using this
     simp only [List.length_cons,List.length_nil] at hcl;have e0:fX ([]:List (Int×Int)) frm 1=[(frm,1)]:=rfl;rw [e0];unfold FD;rw [aC9 (by omega),Option.bind_some];unfold AP;rw [aO (by omega)];unfold FC;refine PM fun q hq=>?_;rw [aAp (by have:=hq.length_eq; simp only [List.length_nil]; omega),Option.bind_some,List.nil_append];unfold GD FO;have hp:(oA frm l [frm]).Perm (q.map (·.1)):=((hq.map (·.1)).trans p1).symm;rw [aDS (s:=oA frm l [frm]) (by have:=hp.length_eq; omega) hp (XM p2)];rfl

theorem aEQ {frm:Int}{l:List aJ}(hl:l.length<=1000000)(hat:∀ e∈l,e.At<1125899906842624)(hf:frm<1125899906842624):lp (fun s:List Int×Int=>pS l frm s.1 s.2) ([frm],0)=some (oA frm l [frm]):=by
 refine jY (l:=l) (body:=fun s:List Int×Int=>pS l frm s.1 s.2) (fun (s:List Int) i=>(s,i)) (fun s r=>oA frm r s) (fun s r=>Inc (frm-1) s/\s.length+r.length<=1000001 /\ ∀ e∈r,e.At<1125899906842624) [frm] ?_ ?_ ⟨⟨⟨by omega,hf⟩,trivial⟩,by simp; omega,hat⟩
 ·rintro i a r s ha ⟨hi,hs,hr⟩;left;obtain⟨d1,d2,d3,d4⟩:=idx ha (by omega);simp only [List.length_cons] at hs;have ha1:=hr a (by simp);have hr':∀ e∈r,e.At<1125899906842624:=fun e he=>hr e (by simp [he]);by_cases h:frm<a.At
  ·refine⟨iA a.At s,?_,⟨xH hi (by omega) ha1,by have:=ER (t:=a.At) (ps:=s); omega,hr'⟩,by simp [oA,h]⟩;simp only [pS,uD,d1,cond_true,aO d2,d3,d4,h,decide_true];rw [XP hi (by omega)]; rfl
  ·refine⟨s,?_,⟨hi,by omega,hr'⟩,by simp [oA,h]⟩;simp only [pS,uD,d1,cond_true,aO d2,d3,d4,h,decide_false,cond_false]
 ·rintro s _;simp only [pS,eP,cond_false]; rfl

theorem aEd {l:List aJ}(hl:okL l)(frm:Int):AS l frm=some (pF l frm):=by
 unfold AS pF;rw [FY hl,Option.bind_some]
 cases hm:iM l with
 | false=>simp
 | true =>
  simp only [Bool.not_true,cond_false,Bool.false_eq_true,if_false,EX hl,Option.bind_some]
  cases ht:lC l with
  | false=>simp
  | true =>
   simp only [Bool.not_true,cond_false,Bool.false_eq_true,if_false,iU,Option.bind_some];by_cases h1:frm<0∨1125899906842624<frm
   ·have : (!(decide (0<=frm)&&decide (frm<=1125899906842624)))=true:=by
     simp only [Bool.not_eq_true',Bool.and_eq_false_iff,decide_eq_false_iff_not]; omega
    rw [this,cond_true,if_pos h1]
   ·have : (!(decide (0<=frm)&&decide (frm<=1125899906842624)))=false:=by
     simp only [Bool.not_eq_false',Bool.and_eq_true,decide_eq_true_eq]; omega
    rw [this,cond_false,if_neg h1];by_cases h2:frm=1125899906842624
    ·simp [h2]
    ·rw [decide_eq_false h2,cond_false,if_neg h2];unfold DN;rw [aEQ (by have:=(lK hm).1; omega) (fun e he=>(pG hm he).2.2.1) (by omega)];rfl

theorem NZ {l:List aJ}{frm:Int}(h:(pF l frm).2=0):iM l=true/\lC l=true/\0<=frm/\((frm=1125899906842624/\(pF l frm).1=[])∨(frm<1125899906842624/\(pF l frm).1=oA frm l [frm])):=by
 unfold pF at h ⊢
 cases hm:iM l with
 | false=>simp [hm] at h
 | true =>
  cases ht:lC l with
  | false=>simp [hm,ht] at h
  | true =>
   by_cases h1:frm<0∨1125899906842624<frm
   ·simp [hm,ht,h1] at h
   ·by_cases h2:frm=1125899906842624
    ·subst h2; simp
    ·simp only [hm,ht,h1,h2,Bool.not_true,Bool.false_eq_true,if_false,true_and,false_and,false_or,and_true];omega

theorem aFk {l:List aJ}{frm:Int}(h:(pF l frm).2≠0):(pF l frm).1=[]:=by
 unfold pF at h ⊢;split
 ·rfl
 ·split
  ·rfl
  ·split
   ·rfl
   ·split
    ·rfl
    ·rename_i h1 h2 h3 h4; simp [h1,h2,h3,h4] at h

theorem PF {l:List aJ}{frm:Int}:Inc (frm-1) (pF l frm).1/\(pF l frm).1.length<=4097:=by
 by_cases h:(pF l frm).2=0
 ·obtain⟨hm,_,_,⟨_,h2⟩ | ⟨h1,h2⟩⟩:=NZ h
  ·rw [h2]; exact ⟨trivial,by simp⟩
  ·rw [h2];refine⟨(KP (frm:=frm) (l:=l) (c:=[frm]) (m:=[(frm,1)]) (fun e he=>(pG hm he).2.2.1) ⟨⟨by omega,h1⟩,trivial⟩ (List.Perm.refl _)).2,?_⟩;have h4:=(lK hm).1;have h3:=LJ (frm:=frm) (l:=l) (c:=[frm]);simp only [List.length_cons,List.length_nil] at h3;omega
 ·rw [aFk h]; exact ⟨trivial,by simp⟩

end Go.Abs
namespace Go.Abs
open Go
def lQ (t:Int)(gs:List (List aH×List aM)):List bA:=gs.filterMap fun g=>if 0<val g.2 t then some ⟨g.1,val g.2 t⟩ else none

def nO (al:Int->List bA):List Int->List aG
 | []=>[]
 | t::cs=>(if al t=[] then [] else [⟨⟨t,cs.headD 1125899906842624⟩,al t⟩])++nO al cs

def aEr (x:List aG):List aG×Int:=if 1024<x.length then ([],7) else (x,0)

def HK (l:List aJ)(frm:Int):List aG×Int:=if (pF l frm).2≠0 then ([],(pF l frm).2) else aEr (nO (fun t=>lQ t (groups l)) (pF l frm).1)

theorem SF (t:Int)(g:List aH×List aM)(gs:List (List aH×List aM)):lQ t (g::gs)=(if 0<val g.2 t then [⟨g.1,val g.2 t⟩] else [])++lQ t gs:=by
 unfold lQ;rw [List.filterMap_cons];by_cases h:0<val g.2 t <;> simp [h]

theorem aEB (t:Int)(gs:List (List aH×List aM)):(lQ t gs).length<=gs.length:=List.length_filterMap_le ..

theorem LK {r:List aH}(h:r.length<=4398046510976):gT r=some r:=by
 unfold gT;rw [aO (by omega)]

theorem aBh {gs:List (List aH×List aM)}(hg:∀ g∈gs,gJ g.2=true/\g.1.length<=4398046510976)(hn:gs.length<=1000000)(t:Int):vY t (gs.map fun g=>⟨g.1,g.2⟩)=some (lQ t gs):=by
 unfold vY zT;rw [List.length_map]
 have key:=jY (l:=gs) (body:=fun s:List bA×Int=>oX t (gs.map fun g=>⟨g.1,g.2⟩) ((gs.length:Nat):Int) s.1 s.2) (fun (s:List bA) i=>(s,i)) (fun s r=>s++lQ t r)
  (fun s r=>s.length+r.length<=1000000 /\ ∀ g∈r,gJ g.2=true/\g.1.length<=4398046510976) [] ?_ ?_ ⟨by simpa using hn,hg⟩
 ·rw [key]; rfl
 ·rintro i a r s ha ⟨hs,hr⟩;left;simp only [List.length_cons] at hs;have ha':(gs.map fun g=>(⟨g.1,g.2⟩:cP))[i]?=some ⟨a.1,a.2⟩:=by rw [List.getElem?_map,ha]; rfl
  obtain⟨d1,d2,d3,d4⟩:=idx ha' (by rw [List.length_map]; omega);rw [List.length_map] at d1;obtain⟨m1,m2⟩:=hr a (by simp);have hr':∀ g∈r,gJ g.2=true/\g.1.length<=4398046510976:=fun g hg=>hr g (by simp [hg]);rw [SF];by_cases h:0<val a.2 t
  ·refine⟨s++[⟨a.1,val a.2 t⟩],?_,⟨by simp only [List.length_append,List.length_cons,List.length_nil]; omega,hr'⟩,by simp [h]⟩;simp only [oX,rL,d1,cond_true,aO d2,d3,d4,aDY,m1,if_true,Option.bind_some,h,decide_true,LK m2];rw [aO (by simp only [List.length_cons,List.length_nil]; omega)]
  ·refine⟨s,?_,⟨by omega,hr'⟩,by simp [h]⟩;simp only [oX,rL,d1,cond_true,aO d2,d3,d4,aDY,m1,if_true,Option.bind_some,h,decide_false,cond_false]
 ·rintro s _;simp only [oX,eP,cond_false];simp [lQ]

theorem WJ (al:Int->List bA):∀ cs:List Int,(nO al cs).length<=cs.length
 | []=>by simp [nO]
 | t::cs=>by
  unfold nO;have:=WJ al cs;split <;> simp <;> omega

theorem aBA {cs r:List Int}{t:Int}{i:Nat}(hd:cs.drop i=t::r)(d:Int):(cs[i+1]?).getD d=r.headD d:=by
 have:=(drop_cons hd).2;rw [←List.head?_drop,this]
 cases r <;> rfl

theorem aBD {cuts:List Int}{gs:List (List aH×List aM)}(hc:cuts.length<=1000000)(hg:∀ g∈gs,gJ g.2=true/\g.1.length<=4398046510976)(hn:gs.length<=1000000) :
  lp (fun s:List aG×Int=>pY cuts (gs.map fun g=>⟨g.1,g.2⟩) cuts ((cuts.length:Nat):Int) s.1 s.2) ([],0)=some (if 1024<(nO (fun t=>lQ t gs) cuts).length then .inr ([],7) else .inl (nO (fun t=>lQ t gs) cuts)):=by
 let al:=fun t=>lQ t gs
 have key:∀ (r:List Int) (k:Nat) (s:List aG),cuts.drop k=r->k<=cuts.length->s.length<=1024 ->
   lp (fun s:List aG×Int=>pY cuts (gs.map fun g=>⟨g.1,g.2⟩) cuts ((cuts.length:Nat):Int) s.1 s.2) (s,(k:Int))=some (if 1024<(s++nO al r).length then .inr ([],7) else .inl (s++nO al r)):=by
  intro r
  induction r with
  | nil =>
   intro k s hd hk hs
   have : k=cuts.length:=by
    have:=congrArg List.length hd;simp only [List.length_drop,List.length_nil] at this; omega
   subst this;refine cZ ?_;simp only [pY,eP,cond_false,nO,List.append_nil];rw [if_neg (by omega)]
  | cons t r ih =>
   intro k s hd hk hs;obtain⟨h1,h2⟩:=drop_cons hd;obtain⟨d1,d2,d3,d4⟩:=idx h1 (by omega);have hlt:k<cuts.length:=(List.getElem?_eq_some_iff.1 h1).1
   have hb:pY cuts (gs.map fun g=>⟨g.1,g.2⟩) cuts ((cuts.length:Nat):Int) s (k:Int) =
     some (if al t=[] then .inl (s,((k+1:Nat):Int)) else if s.length=1024 then .inr (.inr ([],7)) else .inl (s++[⟨⟨t,r.headD 1125899906842624⟩,al t⟩],((k+1:Nat):Int))):=by
    simp only [pY,yF,yM,d1,cond_true,aO d2,d3,d4,aBh hg hn,Option.bind_some];by_cases ha:lQ t gs=[]
    ·simp [al,ha]
    ·have ha1:decide (((lQ t gs).length:Int)=0)=false:=by
      rw [decide_eq_false_iff_not]; intro e;exact ha (List.length_eq_zero_iff.1 (by omega))
     rw [ha1,cond_false,if_neg (show ¬ al t=[] from ha)];by_cases hs1:s.length=1024
     ·rw [if_pos hs1,decide_eq_true (by omega),cond_true]
     ·rw [if_neg hs1,decide_eq_false (by omega),cond_false];have hh:=aBA hd 1125899906842624;by_cases hk1:k+1<cuts.length
      ·rw [decide_eq_true (by omega),cond_true,aO (by omega),aO (by simp only [List.length_cons,List.length_nil]; omega)]
       have : List.getD cuts (Int.toNat ((k+1:Nat):Int)) default=r.headD 1125899906842624:=by
        rw [←hh,Int.toNat_natCast,List.getD_eq_getElem?_getD,List.getElem?_eq_getElem hk1]; rfl
       rw [this]
      ·rw [decide_eq_false (by omega),cond_false,aO (by simp only [List.length_cons,List.length_nil]; omega)]
       have : r.headD 1125899906842624=1125899906842624:=by
        rw [←hh,List.getElem?_eq_none (by omega)]; rfl
       rw [this]
   by_cases ha:al t=[]
   ·rw [if_pos ha] at hb;rw [eT hb,ih (k+1) s h2 (by omega) hs];simp [nO,ha]
   ·rw [if_neg ha] at hb;by_cases hs1:s.length=1024
    ·rw [if_pos hs1] at hb;rw [cZ hb,if_pos];simp [nO,ha]; omega
    ·rw [if_neg hs1] at hb;rw [eT hb,ih (k+1) _ h2 (by omega) (by simp only [List.length_append,List.length_cons,List.length_nil]; omega)];simp [nO,ha]
 exact key cuts 0 [] rfl (by omega) (by simp)

theorem UO (c0:List Int)(c:List aJ):∀ (gs:List (List aH×List aM)) (out:List cP),out.length+gs.length<=1000000 ->
  itG (fun st t29 t30=>rnd (fun (s:List cP)=>pV c0 c s t29 t30) st) gs (.inl out:List cP⊕List cP)=some (.inl (out++gs.map fun g=>⟨g.1,g.2⟩))
 | [],out,_=>by simp [itG]
 | g::gs,out,h=>by
  simp only [List.length_cons] at h
  have e1:pV c0 c out g.1 g.2=some (.inl (out++[⟨g.1,g.2⟩])):=by
   unfold pV;rw [aO (by simp only [List.length_cons,List.length_nil]; omega)]
  have e2:rnd (fun (s:List cP)=>pV c0 c s g.1 g.2) (.inl out:List cP⊕List cP)=some (.inl (out++[⟨g.1,g.2⟩]),true):=by
   simp only [rnd,e1,Option.bind_some]; rfl
  unfold itG;rw [e2];simp only [Option.bind_some,if_true];rw [UO c0 c gs _ (by simp only [List.length_append,List.length_cons,List.length_nil]; omega)];simp

theorem IS {l:List aJ}(hl:okL l)(hm:iM l=true):(∀ g∈groups l,gJ g.2=true/\g.1.length<=4398046510976)/\(groups l).length<=4096:=by
 obtain⟨h1,h2,_⟩:=lK hm;exact⟨fun g hg=>⟨(h2 g hg).2,YY hl hg⟩,by have:=EY l; omega⟩

theorem aCd {l:List aJ}(hl:okL l)(frm:Int):BE l frm=some (HK l frm):=by
 unfold BE HK;rw [aCZ hl,Option.bind_some];by_cases h:(pF l frm).2=0
 ·rw [if_neg (by simpa using h),decide_eq_true h,Bool.not_true,cond_false];have hm:=(NZ h).1;obtain⟨g1,g2⟩:=IS hl hm;have hc:=(PF (l:=l) (frm:=frm)).2;unfold uF;rw [Option.bind_some];unfold EB;rw [VC hl (s':=.inl ([]++(groups l).map fun g=>(⟨g.1,g.2⟩:cP))) (by rw [hm,if_pos rfl]; exact UO _ _ _ _ (by simp; omega)),Option.bind_some,Sum.elim_inl,List.nil_append];unfold zD;rw [aBD (by omega) g1 (by omega)];unfold aEr;split <;> rfl
 ·rw [if_pos h,decide_eq_false h]; rfl

end Go.Abs
namespace Go.Abs
open Go
def jW (hop n:Int):Int:=if n<0 then 0 else (n / hop+1)*hop

def tQ (size hop:Int):Bool:=(((decide ((1:Int)<=size))&&(decide (size<=(1099511627776:Int))))&&(decide ((1:Int)<=hop)))&&(decide (hop<=(1099511627776:Int)))

def kO (t:Int):Bool:=(decide ((0:Int)<=t))&&(decide (t<=(1125899906842624:Int)))

def VY (size hop t:Int):Int×Int :=
 if !tQ size hop then (0,2) else if !kO t then (0,13) else if t=1125899906842624 then (1125899906842624,0) else (min (jW hop (t-size)) 1125899906842624,0)

theorem ZK {size hop:Int}(h:tQ size hop=true):1<=size/\size<=1099511627776/\1<=hop/\hop<=1099511627776:=by
 simp only [tQ,Bool.and_eq_true,decide_eq_true_eq] at h; omega

theorem IQ {t:Int}(h:kO t=true):0<=t/\t<=1125899906842624:=by
 simp only [kO,Bool.and_eq_true,decide_eq_true_eq] at h; omega

theorem aBB {n hop:Int}(h:0<=n):Int.tdiv n hop=n / hop:=Int.tdiv_eq_ediv_of_nonneg h

theorem LI {n hop:Int}(hh:1<=hop):n / hop*hop<=n/\n<(n / hop+1)*hop:=by
 have h1:=Int.mul_ediv_add_emod n hop;have h2:=Int.emod_nonneg n (show hop≠0 by omega);have h3:=Int.emod_lt_of_pos n (show 0<hop by omega);rw [Int.add_mul,Int.mul_comm (n / hop) hop];omega

theorem FJ {hop n:Int}(hh:1<=hop):0<=jW hop n/\n<jW hop n/\(0<=n->jW hop n<=n+hop)/\(n<0->jW hop n=0) /\ ∃ k:Int,jW hop n=k*hop:=by
 unfold jW;split
 ·exact⟨Int.le_refl _,by omega,by omega,fun _=>rfl,0,by simp⟩
 ·rename_i h
  have:=LI (n:=n) hh;rw [Int.add_mul] at this ⊢;refine⟨by omega,by omega,by omega,by omega,n / hop+1,by rw [Int.add_mul]⟩

theorem PZ {hop n:Int}(h1:1<=hop)(h2:hop<=1099511627776)(h3:n<=4503599627370496):tD hop n=some (jW hop n):=by
 unfold tD;by_cases hn:n<0
 ·simp [hn,jW]
 ·have hn0:0<=n:=by omega
  have hm:Int.tmod n hop=n % hop:=Int.tmod_eq_emod_of_nonneg hn0;have hr:¬ n % hop<0:=by have:=Int.emod_nonneg n (show hop≠0 by omega); omega
  have hd0:0<=n / hop:=Int.ediv_nonneg hn0 (by omega);have hd1:n / hop<=n:=Int.ediv_le_self _ hn0;have hf:=LI (n:=n) h1;have e1:wR (Int.tdiv n hop)=n / hop:=by rw [aBB hn0]; exact cO (by omega) (by omega)
  have e2:IntKind.i64.wrap (n / hop+1)=n / hop+1:=cO (by omega) (by omega);have e3:IntKind.i64.wrap ((n / hop+1)*hop)=(n / hop+1)*hop:=cO (by omega) (by rw [Int.add_mul]; omega)
  have e0:CW n hop=some (n / hop,n % hop,0):=by
   unfold CW;have hb:decide (hop<1)=false:=by simp; omega
   rw [hb,cond_false,aO (by omega),aO (by omega),hm,decide_eq_false hr,cond_false];unfold AT;rw [show IntKind.i64.wrap (Int.tdiv n hop)=n / hop from e1]
  have hb:decide (n<(0:Int))=false:=decide_eq_false hn;rw [hb,cond_false,e0];simp only [Option.bind_some,e2,e3,jW,if_neg hn]

theorem aHU {size hop t:Int}:FX size hop t=some (VY size hop t):=by
 unfold FX VY;simp only [EP,yC,Option.bind_some];rw [show ((((decide ((1:Int)<=size))&&(decide (size<=(1099511627776:Int))))&&(decide ((1:Int)<=hop)))&&(decide (hop<=(1099511627776:Int))))=tQ size hop from rfl,show ((decide ((0:Int)<=t))&&(decide (t<=(1125899906842624:Int))))=kO t from rfl]
 cases hm:tQ size hop with
 | false=>rfl
 | true =>
  cases ht:kO t with
  | false=>rfl
  | true =>
   have hm':=ZK hm; have ht':=IQ ht;by_cases hf:t=1125899906842624
   ·simp [hf]
   ·have e1:IntKind.i64.wrap (t-size)=t-size:=cO (by omega) (by omega);simp only [Bool.not_true,cond_false,decide_eq_false hf,Bool.false_eq_true,if_false,if_neg hf,e1];rw [PZ hm'.2.2.1 hm'.2.2.2 (by omega)];simp only [Option.bind_some]
    have : (if (1125899906842624:Int)<jW hop (t-size) then (1125899906842624:Int) else jW hop (t-size))=min (jW hop (t-size)) 1125899906842624:=by
     rw [Int.min_def]; split <;> split <;> omega
    rw [this]

def aHa (hop:Int):Nat->Int->List Int
 | 0,_=>[]
 | n+1,t=>t::aHa hop n (t+hop)

def EI (hop t b:Int):List Int:=aHa hop ((b-t+hop-1) / hop).toNat t

theorem JY {hop t b:Int}(hh:1<=hop)(h:b<=t):EI hop t b=[]:=by
 unfold EI
 have : (b-t+hop-1) / hop<=0:=by
  have h1:b-t+hop-1<1*hop:=by omega
  have:=Int.ediv_lt_of_lt_mul (by omega) h1;omega
 rw [show ((b-t+hop-1) / hop).toNat=0 by omega]; rfl

theorem LD {hop t b:Int}(hh:1<=hop)(h:t<b):EI hop t b=t::EI hop (t+hop) b:=by
 unfold EI
 have h1:(b-t+hop-1) / hop=(b-(t+hop)+hop-1) / hop+1:=by
  rw [show b-t+hop-1=(b-(t+hop)+hop-1)+hop by omega,Int.add_ediv_of_dvd_right (Int.dvd_refl hop),Int.ediv_self (by omega)]
 have h2:0<=(b-(t+hop)+hop-1) / hop:=Int.ediv_nonneg (by omega) (by omega);rw [h1,show ((b-(t+hop)+hop-1) / hop+1).toNat=((b-(t+hop)+hop-1) / hop).toNat+1 by omega];rfl

theorem NK {hop b:Int}(hh:1<=hop){C:Int->Prop}(h0:∀ t,b<=t->C t)(h1:∀ t,t<b->C (t+hop)->C t)(t:Int):C t:=by
 generalize hn:(b-t).toNat=n
 induction n using Nat.strongRecOn generalizing t with
 | ind n ih =>
  by_cases h:t<b
  ·exact h1 t h (ih (b-(t+hop)).toNat (by omega) _ rfl)
  ·exact h0 t (by omega)

theorem aCj {hop b x:Int}(hh:1<=hop):∀ t,x∈EI hop t b ↔ ∃ k:Nat,x=t+k*hop/\x<b:=by
 refine NK hh (b:=b) (fun t h=>?_) (fun t h ih=>?_)
 ·rw [JY hh h];simp only [List.not_mem_nil,false_iff,not_exists,not_and];intro k hk;have : 0<=(k:Int)*hop:=Int.mul_nonneg (by omega) (by omega);omega
 ·rw [LD hh h,List.mem_cons,ih];constructor
  ·rintro (rfl | ⟨k,rfl,hk⟩)
   ·exact⟨0,by simp,h⟩
   ·refine⟨k+1,?_,hk⟩;rw [Int.natCast_add,Int.add_mul]; omega
  ·rintro ⟨k,hk1,hk2⟩
   match k with
   | 0=>left; simpa using hk1
   | k+1 =>
    right;refine⟨k,?_,hk2⟩;rw [Int.natCast_add,Int.add_mul] at hk1; omega

theorem YW {hop b:Int}(hh:1<=hop):∀ t,(EI hop t b).Pairwise (· < ·) /\ ∀ x∈EI hop t b,t<=x:=by
 refine NK hh (b:=b) (fun t h=>?_) (fun t h ih=>?_)
 ·rw [JY hh h]; simp
 ·rw [LD hh h];refine⟨List.pairwise_cons.2 ⟨fun x hx=>?_,ih.1⟩,fun x hx=>?_⟩
  ·have:=ih.2 x hx; omega
  ·rcases List.mem_cons.1 hx with rfl | hx
   ·exact Int.le_refl _
   ·have:=ih.2 x hx; omega

def EJ {σ α:Type}(y:σ->α->Option (σ×Bool)):List α->σ->Option σ
 | [],s=>some s
 | a::r,s=>(y s a).bind fun x=>if x.2 then EJ y r x.1 else some x.1

def tN (size hop frm:Int)(s:aU):Int:=max (jW hop (s.From-size)) (jW hop (frm-1))

def mV (front:Int)(s:aU):Int:=min (min s.To front) 1125899906842624

def eE (size hop frm front:Int)(s:aU):List Int:=EI hop (tN size hop frm s) (mV front s)

structure OkH (size hop frm front:Int):Prop where
 s0:1<=size
 s1:size<=1099511627776
 h0:1<=hop
 h1:hop<=1099511627776
 f0:0<=frm
 f1:frm<=1125899906842624
 r0:0<=front
 r1:front<=1125899906842624

theorem aCo {σ:Type}{y:σ->Int->Option (σ×Bool)}{hop front:Int}{sp:aU}(hh:1<=hop)(hh1:hop<=1099511627776):∀ (t:Int) (s s':σ),0<=t->EJ y (EI hop t (mV front sp)) s=some s'->rV y s hop sp front t=some s':=by
 have main:∀ (t:Int),∀ (s s':σ),0<=t->EJ y (EI hop t (mV front sp)) s=some s' -> ∃ x,lp (fun s=>kV y hop sp front s.1 s.2) (s,t)=some x/\Sum.elim id id x=s':=by
  have hbe:(if (1125899906842624:Int)<(if front<sp.To then front else sp.To) then (1125899906842624:Int) else (if front<sp.To then front else sp.To))=mV front sp:=by
   unfold mV; simp only [Int.min_def]; split <;> split <;> split <;> split <;> omega
  refine NK hh (b:=mV front sp) (fun t h s s' ht hi=>?_) (fun t h ih s s' ht hi=>?_)
  ·rw [JY hh h] at hi;simp only [EJ,Option.some.injEq] at hi;refine⟨.inl s,cZ ?_,hi⟩;show kV _ _ _ _ _ _=_;simp only [kV,hbe];rw [decide_eq_false (by omega),cond_false]
  ·rw [LD hh h] at hi;simp only [EJ] at hi;obtain⟨x,hx,hi⟩:=aZ hi;have hb1:mV front sp<=1125899906842624:=Int.min_le_right _ _;have hw:IntKind.i64.wrap (t+hop)=t+hop:=cO (by omega) (by omega)
   have hb:(fun s:σ×Int=>kV y hop sp front s.1 s.2) (s,t)=some (if x.2 then .inl (x.1,t+hop) else .inr (.inr x.1)):=by
    show kV _ _ _ _ _ _=_;simp only [kV,hbe];rw [decide_eq_true h,cond_true,hx];simp only [Option.bind_some,hw]
    cases x.2 <;> rfl
   cases hx2:x.2
   ·rw [hx2] at hb hi;simp only [Bool.false_eq_true,if_false,Option.some.injEq] at hb hi;exact⟨_,cZ hb,hi⟩
   ·rw [hx2] at hb hi;simp only [if_true] at hb hi;obtain⟨z,hz1,hz2⟩:=ih x.1 s' (by omega) hi;exact⟨z,by rw [eT hb]; exact hz1,hz2⟩
 intro t s s' ht hi;obtain⟨x,h1,h2⟩:=main t s s' ht hi;unfold rV;rw [h1]
 cases x <;> simpa using h2

theorem aES {σ:Type}{y:σ->Int->Option (σ×Bool)}{size hop frm front:Int}{sp:aU}(ok:OkH size hop frm front)(h1 : -1<=sp.From)(h2:sp.From<=1125899906842624){s s':σ}(h:EJ y (eE size hop frm front sp) s=some s') :
  tR y hop sp size frm front s=some s':=by
 obtain⟨a1,a2,a3,a4,a5,a6,a7,a8⟩:=ok;unfold tR;have w1:IntKind.i64.wrap (sp.From-size)=sp.From-size:=cO (by omega) (by omega);have w2:IntKind.i64.wrap (frm-1)=frm-1:=cO (by omega) (by omega);rw [w1,w2,PZ a3 a4 (by omega),PZ a3 a4 (by omega)];simp only [Option.bind_some]
 have e:(if jW hop (frm-1)>jW hop (sp.From-size) then jW hop (frm-1) else jW hop (sp.From-size))=tN size hop frm sp:=by
  unfold tN; rw [Int.max_def]; split <;> split <;> omega
 rw [e];refine aCo a3 a4 _ _ _ ?_ h;have:=(FJ (n:=sp.From-size) a3).1;unfold tN; omega

end Go.Abs
namespace Go.Abs
open Go
theorem aC8 {l:List aJ}(hl:okL l)(hm:iM l=true)(t:Int):zG l t=some (lQ t (groups l)):=by
 unfold zG;have hn:=(lK hm).1;rw [FV hl (fun e he=>(pG hm he).1) (by omega),Option.bind_some]
 have hr:(rowsOf l).length<=4096:=by
  have h1:(PG l).length=(rowsOf l).length:=by simp [PG]
  have h2:=EY l;rw [zI hm] at h1;omega
 unfold CD
 have key:=jY (l:=rowsOf l) (body:=fun s:List bA×Int=>qJ l t (rowsOf l) s.1 s.2) (fun (s:List bA) i=>(s,i)) (fun s r=>s++lQ t (r.map fun r=>(r,dK l r)))
  (fun s r=>s.length+r.length<=1000000) [] ?_ ?_ (by simp only [List.length_nil]; omega)
 ·rw [key,Option.bind_some];rw [←zI hm]; rfl
 ·rintro i a r s ha hs;left;simp only [List.length_cons] at hs;obtain⟨d1,d2,d3,d4⟩:=idx ha (by omega);simp only [List.map_cons];rw [SF];by_cases h:0<val (dK l a) t
  ·refine⟨s++[⟨a,val (dK l a) t⟩],?_,by simp only [List.length_append,List.length_cons,List.length_nil]; omega,by simp [h]⟩;simp only [qJ,sN,d1,cond_true,aO d2,d3,d4,sG hl (show l.length<=1099511627776 by omega),BI (sB hm a),Option.bind_some,h,decide_true];rw [aO (by simp only [List.length_cons,List.length_nil]; omega)]
  ·refine⟨s,?_,by omega,by simp [h]⟩;simp only [qJ,sN,d1,cond_true,aO d2,d3,d4,sG hl (show l.length<=1099511627776 by omega),BI (sB hm a),Option.bind_some,h,decide_false,cond_false]
 ·rintro s _;simp only [qJ,eP,cond_false];simp [lQ]

end Go.Abs
