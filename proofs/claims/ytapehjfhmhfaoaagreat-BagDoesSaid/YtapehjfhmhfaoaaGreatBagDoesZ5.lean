/- What the law BagDoes stands on: the framework, the given functions as plain functions, their walks, and the plain laws; part 5. -/
import Derived.Test.YtapehjfhmhfaoaaGreatBagDoesZ4
set_option linter.unusedSimpArgs false
set_option linter.unusedVariables false
noncomputable section
namespace Go.Abs
open Go IntKind Go.RowKit Go.Proofs
theorem aAD (a0:(List aK))(b1:(List aK))(r:Bool)(h0:AX a0 b1=some r):cW Tryz.prog 15 [eL aM a0,eL aM b1] (aL r):=by
 intro H0;have hO:=aN.start H0;unfold AX at h0;refine cX Tryz.func15 (aY aG 1 [] [] (aO (aY aG 5 [] [(10,aL (!decide ((lN a0)=(lN b1))))] (bI h0 (fun h0=>?_) (fun h0=>?_)))))
 ·obtain rfl:=oI h0;exact bW aG 1 [(4,aL false)] (bK (aJ (aR (Q_r hO))))
 refine bG (bD [(0,eL aM a0),(1,eL aM b1)] (dH (fun T H=>Has T []/\aN ⟨H0,[],[]⟩ H []/\DH  = some r) ?_ ?_))
 ·rintro T H ⟨hT,hO,h0⟩;unfold DH at h0;obtain rfl:=oI h0;exact bB hT (bW aG 1 [(4,aL true)] (bK (aJ (Q_r hO))))
 refine aY aG 1 [] [(5,eI 0)] (bS 0 (eA [(0,eL aM a0),(1,eL aM b1),(5,eI 0)] (dJ (fun T H=>∃ i5:Int,Has T [(0,eL aM a0),(1,eL aM b1),(5,eI i5)]/\aN ⟨H0,[],[]⟩ H []/\KN a0 b1 i5=some r) ?_ ⟨(0:Int),aV,hO,h0⟩)));rintro T H ⟨i5,hT,hO,h0⟩;unfold KN at h0;obtain⟨b7,e3,h0⟩:=aW h0;refine bB hT (eE (fun (s:Int) T H=>Has T [(0,eL aM a0),(1,eL aM b1),(5,eI s)]/\aN ⟨H0,[],[]⟩ H []) e3 ⟨aV,hO⟩ ?_);rintro k0 s b9 T H ⟨hT,hO⟩ h1 b8;obtain⟨i5,rfl⟩:∃ x,x=s:=⟨_,rfl⟩;replace h1:yE a0 b1 i5=some b9:=h1;unfold yE at h1;refine bB hT (aO (aY aG 4 [] [(14,aL (decide (i5<(lN a0))))] (bI h1 (fun h1=>?_) (fun h1=>?_))))
 ·obtain⟨c3,h1⟩:=aZ h1;obtain⟨c4,h1⟩:=aZ h1;obtain⟨c5,h1⟩:=aZ h1;obtain⟨c6,h1⟩:=aZ h1;obtain⟨c7,h1⟩:=aZ h1;obtain⟨c8,h1⟩:=aZ h1;obtain⟨x9,c9,h1⟩:=aW h1;refine bG (bD [(0,eL aM a0),(1,eL aM b1),(5,eI i5)] (aO (bS 1 (aO (fF (fC [21,26,33,38,46,51]) aG 38 (rI (K:=fun T H=>Has (lift T) [(0,eL aM a0),(1,eL aM b1),(5,eI i5),(54,aL (((!decide (((gD a0 i5).At)=((gD b1 i5).At)))||(!decide (((gD a0 i5).Net)=((gD b1 i5).Net))))||(!x9)))]/\aN ⟨H0,[],[]⟩ H []) ?_ ?_))))))
  ·refine cS 12 [0<=i5/\i5<(lN a0),0<=i5/\i5<(lN b1)] ⟨c3,c4,trivial⟩ (pR (t:=28) (e := !decide (((gD a0 i5).At)=((gD b1 i5).At))) (by kernel_rfl) (fun b5=>?_) (fun b5=>?_))
   ·refine gT ?_;exact⟨⟨[(0,eL aM a0),(1,eL aM b1),(5,eI i5),(54,aL true)],by kernel_rfl,rfl,⟨sR,sR,sR,dF.eq (congrArg aL (wU (wU b5 rfl) rfl).symm),trivial⟩⟩,hO⟩
   refine cS 25 [0<=i5/\i5<(lN a0),0<=i5/\i5<(lN b1)] ⟨c5 (zN b5),c6 (zN b5),trivial⟩ (pR (t:=41) (e := !decide (((gD a0 i5).Net)=((gD b1 i5).Net))) (by kernel_rfl) (fun b6=>?_) (fun b6=>?_))
   ·refine gT ?_;exact⟨⟨[(0,eL aM a0),(1,eL aM b1),(5,eI i5),(54,aL true)],by kernel_rfl,rfl,⟨sR,sR,sR,dF.eq (congrArg aL (wU (wU b5 b6) rfl).symm),trivial⟩⟩,hO⟩
   refine cS 35 [0<=i5/\i5<(lN a0),0<=i5/\i5<(lN b1)] ⟨c7 (zN (wU b5 b6)),c8 (zN (wU b5 b6)),trivial⟩ (sW 37 [eL aI ((gD a0 i5).Row),eL aI ((gD b1 i5).Row)] (aL x9) (by kernel_rfl) (by kernel_rfl) (NA ((gD a0 i5).Row) ((gD b1 i5).Row) _ (kW c9 (zN (wU b5 b6)))) hO (fun H hO=>gT ?_));exact⟨⟨[(0,eL aM a0),(1,eL aM b1),(5,eI i5),(54,aL (!x9))],by kernel_rfl,rfl,⟨sR,sR,sR,dF.eq (congrArg aL (wU (wU b5 b6) rfl).symm),trivial⟩⟩,hO⟩
  ·rintro T H ⟨hT,hO⟩;refine cV hT (aJ (aH (bI h1 (fun h1=>?_) (fun h1=>?_))))
   ·obtain rfl:=oI h1;obtain rfl:_=b7:=b8;replace h0:some false=some r:=h0;obtain rfl:=oI h0;exact bW aG 1 [(4,aL false)] (bK (aJ (bH (aR (aR (bH (aR (Q_r hO))))))))
   exact bG (cN [(0,eL aM a0),(1,eL aM b1),(5,eI i5)] (aJ (aX (aH (aS aG 3 (bC (aJ (aH (⟨rfl,_,(oI h1).symm,aV,hO⟩)))))))))
 obtain rfl:=oI h1;obtain rfl:_=b7:=b8;replace h0:DH  = some r:=h0;exact dV 0 (aJ (aT (aT (bN (aH (⟨rfl,aV,hO,h0⟩))))))
theorem aAz  (r:Bool)(h0:AT  = some r):cW Tryz.prog 5 [] (aL r):=by
 intro H0;have hO:=aN.start H0;unfold AT at h0;obtain⟨x1,g6,h0⟩:=aW h0;refine cX Tryz.func5 (bW aG 1 [] (aO (aS aG 3 (bM 1 (mW [aI (aF.mk (1:Int) (1:Int) ByteArray.empty)] 3 (bC (cV (l:=[(1,eL aI ([aF.mk (1:Int) (1:Int) ByteArray.empty]))]) ⟨[(1,dB [aI (aF.mk (1:Int) (1:Int) ByteArray.empty)])],by kernel_rfl,rfl,⟨aAg (l:=[aF.mk (1:Int) (1:Int) ByteArray.empty]),trivial⟩⟩ (aJ (aH (aO (aS aG 2 (QH [] true (.tup []) [] [] [] (List.Perm.refl _) (fun _=>aEz x1 g6) (fun hb=>by cases hb) hO ?_))))))))))));intro r3 M4 L5 H g7 hO;obtain⟨b7,b5,rfl,rfl,rfl⟩:=g7;replace hO:aN ⟨H0,[],eZ b5 x1::[]⟩ H [mX b7 b5 x1]:=hO;obtain⟨x9,e3,h0⟩:=aW h0;refine bC (bT [] [(2,.lp b7 0 0)] (aO (aS aG 8 (bM 5 (mW [aM (aK.mk ([aF.mk (1:Int) (1:Int) ByteArray.empty]) (2:Int) (1:Int)),aM (aK.mk ([aF.mk (1:Int) (1:Int) ByteArray.empty]) (9:Int) (-1:Int))] 3 (QH [] true (eI 0) [eZ b5 x1] [] [0] (List.Perm.refl _) (fun hb=>(@vO.sub _ _ [.lp b7 0 0,dB [aM (aK.mk ([aF.mk (1:Int) (1:Int) ByteArray.empty]) (2:Int) (1:Int)),aM (aK.mk ([aF.mk (1:Int) (1:Int) ByteArray.empty]) (9:Int) (-1:Int))]] _ _ _ _ (aAl b7 b5 x1 ([aK.mk ([aF.mk (1:Int) (1:Int) ByteArray.empty]) (2:Int) (1:Int),aK.mk ([aF.mk (1:Int) (1:Int) ByteArray.empty]) (9:Int) (-1:Int)]) _ e3) ⟨sR,aAg (l:=[aK.mk ([aF.mk (1:Int) (1:Int) ByteArray.empty]) (2:Int) (1:Int),aK.mk ([aF.mk (1:Int) (1:Int) ByteArray.empty]) (9:Int) (-1:Int)]),trivial⟩)) (fun hb=>by cases hb) hO ?_))))));intro g8 g9 h8 H e4 hO;obtain⟨rfl,rfl,rfl⟩:=e4;replace hO:aN ⟨H0,[],eZ b5 x9.2::[]⟩ H [mX b7 b5 x9.2]:=hO;obtain⟨b8,e5,h0⟩:=aW h0;refine bC (bT [] [(3,eI x9.1)] (aO (aS aG 3 (bM 1 (QH [] true (eI 0) [eZ b5 x9.2] [] [0] (List.Perm.refl _) (fun hb=>(aAE b7 b5 x9.2 (5:Int) _ e5)) (fun hb=>by cases hb) hO ?_)))));intro h9 j0 j3 H e6 hO;obtain⟨rfl,rfl,rfl⟩:=e6;replace hO:aN ⟨H0,[],eZ b5 b8.2::[]⟩ H [mX b7 b5 b8.2]:=hO;obtain⟨b6,e7,h0⟩:=aW h0;refine bC (bT [] [(4,eI b8.1)] (aO (aS aG 6 (bM 3 (mW [aM (aK.mk ([aF.mk (1:Int) (1:Int) ByteArray.empty]) (4:Int) (1:Int))] 3 (QH [] true (eI 0) [eZ b5 b8.2] [] [0] (List.Perm.refl _) (fun hb=>(@vO.sub _ _ [.lp b7 0 0,dB [aM (aK.mk ([aF.mk (1:Int) (1:Int) ByteArray.empty]) (4:Int) (1:Int))]] _ _ _ _ (aAl b7 b5 b8.2 ([aK.mk ([aF.mk (1:Int) (1:Int) ByteArray.empty]) (4:Int) (1:Int)]) _ e7) ⟨sR,aAg (l:=[aK.mk ([aF.mk (1:Int) (1:Int) ByteArray.empty]) (4:Int) (1:Int)]),trivial⟩)) (fun hb=>by cases hb) hO ?_))))));intro j4 j5 j6 H e8 hO;obtain⟨rfl,rfl,rfl⟩:=e8;replace hO:aN ⟨H0,[],eZ b5 b6.2::[]⟩ H [mX b7 b5 b6.2]:=hO;obtain⟨b9,c4,h0⟩:=aW h0;refine bC (bT [] [(5,eI b6.1)] (aO (aS aG 31 (bM 12 (QH [(33,true)] (((decide (x9.1=0))&&(decide (b8.1=0)))&&(decide (b6.1=16))) (eI 0) [eZ b5 b6.2] [] [0] (List.Perm.refl _) (fun hb=>(aDz b7 b5 b6.2 _ (aC4 hb c4))) (fun hb=>by have hz:=oI (aDh hb c4);subst hz;exact ⟨rfl,rfl,rfl⟩) hO ?_)))));intro j7 j8 j9 H e9 hO;obtain⟨rfl,rfl,rfl⟩:=e9;replace hO:aN ⟨H0,[],eZ b5 b6.2::[]⟩ H [mX b7 b5 b6.2]:=hO;obtain⟨c5,c6,h0⟩:=aW h0;refine bM 17 (QH [(38,true)] ((((decide (x9.1=0))&&(decide (b8.1=0)))&&(decide (b6.1=16)))&&(decide (b9=5))) (eI 0) [eZ b5 b6.2] [] [0] (List.Perm.refl _) (fun hb=>(aBV b7 b5 b6.2 _ (aC4 hb c6))) (fun hb=>by have hz:=oI (aDh hb c6);subst hz;exact ⟨rfl,rfl,rfl⟩) hO ?_);intro k3 k4 k5 H g2 hO;obtain⟨rfl,rfl,rfl⟩:=g2;replace hO:aN ⟨H0,[],eZ b5 b6.2::[]⟩ H [mX b7 b5 b6.2]:=hO;obtain⟨c8,c7,h0⟩:=aW h0;refine bM 22 (QH [(43,true)] (((((decide (x9.1=0))&&(decide (b8.1=0)))&&(decide (b6.1=16)))&&(decide (b9=5)))&&(decide (c5=1))) (eL aM ([]:List aK)) [eZ b5 b6.2] [] [0] (List.Perm.refl _) (fun hb=>(XT b7 b5 b6.2 _ (aC4 hb c7))) (fun hb=>by have hz:=oI (aDh hb c7);subst hz;exact ⟨rfl,rfl,rfl⟩) hO ?_);intro k6 k7 k8 H g3 hO;obtain⟨rfl,rfl,rfl⟩:=g3;replace hO:aN ⟨H0,[],eZ b5 b6.2::[]⟩ H [mX b7 b5 b6.2]:=hO;obtain⟨c9,g4,h0⟩:=aW h0;refine bM 27 (aN3 [(43,true)] [aM (aK.mk ([aF.mk (1:Int) (1:Int) ByteArray.empty]) (-1:Int) (1:Int)),aM (aK.mk ([aF.mk (1:Int) (1:Int) ByteArray.empty]) (9:Int) (-1:Int))] (by kernel_rfl) (by kernel_rfl) (rY [(43,true)] 15 [eL aM c8,dB [aM (aK.mk ([aF.mk (1:Int) (1:Int) ByteArray.empty]) (-1:Int) (1:Int)),aM (aK.mk ([aF.mk (1:Int) (1:Int) ByteArray.empty]) (9:Int) (-1:Int))]] (aL c9) (((((decide (x9.1=0))&&(decide (b8.1=0)))&&(decide (b6.1=16)))&&(decide (b9=5)))&&(decide (c5=1))) (by kernel_rfl) (by kernel_rfl) (by kernel_rfl) (fun g5=>(cW.sub (aAD c8 ([aK.mk ([aF.mk (1:Int) (1:Int) ByteArray.empty]) (-1:Int) (1:Int),aK.mk ([aF.mk (1:Int) (1:Int) ByteArray.empty]) (9:Int) (-1:Int)]) _ (kW g4 g5)) ⟨sR,aAg (l:=[aK.mk ([aF.mk (1:Int) (1:Int) ByteArray.empty]) (-1:Int) (1:Int),aK.mk ([aF.mk (1:Int) (1:Int) ByteArray.empty]) (9:Int) (-1:Int)]),trivial⟩)) hO (fun H hO=>bC (cN [(0,aL ((((((decide (x9.1=0))&&(decide (b8.1=0)))&&(decide (b6.1=16)))&&(decide (b9=5)))&&(decide (c5=1)))&&c9))] ?_))));replace hO:=hO.pick (L':=[]) [] (by decide) (by kernel_rfl);replace hO:=hO.tC;obtain rfl:=oI h0;exact aJ (aH (bK (aJ (Q_r hO))))
theorem aHQ  (r:cJ)(h0:QO  = some r):BX Tryz.prog 7 [] [] (fun x L=>∃ b6:Nat,x=(.lp b6 0 0)/\L=[(b6,2,[bV r])]):=by
 intro F H0 hO;obtain⟨Fh,Fe,Fg⟩:=F;unfold QO at h0;obtain rfl:=oI h0;exact cX Tryz.func7 (bW aG 1 [] (aO (aS aG 3 (bM 1 (nF 2 (.agg [.sl true 0 (fun _=>.bad),eI (-1:Int)]) (by kernel_rfl) (by kernel_rfl) hO (fun b5 H hO=>bC (aLr 0 b5 2 (.agg [.sl true 0 (fun _=>.bad),eI (-1:Int)]) (bV (cJ.mk ([]) (-1:Int))) [(b5,2,[bV (cJ.mk ([]) (-1:Int))])] hO (by kernel_rfl) (by kernel_rfl) (RW (xs:=[.sl true 0 (fun _=>.bad),eI (-1:Int)]) (ys:=[eL aM ([]),eI (-1:Int)]) ⟨dN,sR,trivial⟩) (by kernel_rfl) (fun H hO=>bD [(0,.lp b5 0 0)] (bK (aJ (EE hO ⟨b5,rfl,rfl⟩)))))))))))
theorem XP (v0:aF)(r:Bool)(h0:zU v0=some r):cW Tryz.prog 45 [aI v0] (aL r):=by
 intro H0;have hO:=aN.start H0;unfold zU at h0;refine cX Tryz.func45 (aO (aS aG 2 (AU 3 (aI v0) (bC (bD [(1,.rp (aI v0))] (aO (aY aG 3 [] [(5,aL (decide (v0.Kind=1)))] (bI h0 (fun h0=>?_) (fun h0=>?_)))))))))
 ·obtain rfl:=oI h0;exact bW aG 4 [(2,aL (uU v0.Text (⟨#[]⟩:ByteArray)))] (bK (aJ (aR (Q_r hO))))
 obtain rfl:=oI h0;exact bG (bD [(1,.rp (aI v0))] (bW aG 15 [(2,aL (((decide (v0.Kind=2))&&(decide (v0.Num=0)))&&(decide (((ByteArray.size v0.Text:Nat):Int)<=64))))] (bK (aJ (Q_r hO)))))
theorem JW (r0:(List aF))(r:Bool)(h0:uV r0=some r):cW Tryz.prog 19 [eL aI r0] (aL r):=by
 intro H0;have hO:=aN.start H0;unfold uV at h0;refine cX Tryz.func19 (aY aG 1 [] [] (dH (fun T H=>Has T [(0,eL aI r0)]/\aN ⟨H0,[],[]⟩ H []/\BA r0=some r) ?_ ?_))
 ·rintro T H ⟨hT,hO,h0⟩;unfold BA at h0;refine bB hT (bW aG 4 [(2,aL (decide ((lN r0)<=8)))] ?_);obtain rfl:=oI h0;exact bK (aJ (Q_r hO))
 refine aY aG 1 [] [(3,eI 0)] (bS 0 (eA [(0,eL aI r0),(3,eI 0)] (dJ (fun T H=>∃ i3:Int,Has T [(0,eL aI r0),(3,eI i3)]/\aN ⟨H0,[],[]⟩ H []/\NN r0 i3=some r) ?_ ⟨(0:Int),aV,hO,h0⟩)));rintro T H ⟨i3,hT,hO,h0⟩;unfold NN at h0;obtain⟨b5,b8,h0⟩:=aW h0;refine bB hT (eE (fun (s:Int) T H=>Has T [(0,eL aI r0),(3,eI s)]/\aN ⟨H0,[],[]⟩ H []) b8 ⟨aV,hO⟩ ?_);rintro k0 s b7 T H ⟨hT,hO⟩ h1 b6;obtain⟨i3,rfl⟩:∃ x,x=s:=⟨_,rfl⟩;replace h1:xU r0 i3=some b7:=h1;unfold xU at h1;refine bB hT (aO (aY aG 8 [] [(11,aL ((decide (i3<(lN r0)))&&(decide (i3<9))))] (bI h1 (fun h1=>?_) (fun h1=>?_))))
 ·obtain⟨c2,h1⟩:=aZ h1;obtain⟨x3,b9,h1⟩:=aW h1;refine bG (bD [(0,eL aI r0),(3,eI i3)] (aO (bS 1 (aO (aS aG 6 (nM 4 [0<=i3/\i3<(lN r0)] ⟨c2,trivial⟩ (cU (XP (gD r0 i3) _ b9) hO (fun H hO=>bC (bT [] [(19,aL (!x3))] (bI h1 (fun h1=>?_) (fun h1=>?_)))))))))))
  ·obtain rfl:=oI h1;obtain rfl:_=b5:=b6;replace h0:some false=some r:=h0;obtain rfl:=oI h0;exact bW aG 1 [(2,aL false)] (bK (aJ (bH (aR (aR (bH (aR (Q_r hO))))))))
  exact bG (cN [(0,eL aI r0),(3,eI i3)] (aJ (aX (aH (aS aG 3 (bC (aJ (aH (⟨rfl,_,(oI h1).symm,aV,hO⟩)))))))))
 obtain rfl:=oI h1;obtain rfl:_=b5:=b6;replace h0:BA r0=some r:=h0;exact dV 0 (aJ (aT (aT (bN (aH (⟨rfl,aV,hO,h0⟩))))))
theorem zV (f0:(List aB))(r:Bool)(h0:qX f0=some r):cW Tryz.prog 56 [eL aE f0] (aL r):=by
 intro H0;have hO:=aN.start H0;unfold qX at h0;refine cX Tryz.func56 (aY aG 1 [] [] (aO (aY aG 3 [] [(6,aL (decide (1024<(lN f0))))] (bI h0 (fun h0=>?_) (fun h0=>?_)))))
 ·obtain rfl:=oI h0;exact bW aG 1 [(2,aL false)] (bK (aJ (aR (Q_r hO))))
 refine bG (bD [(0,eL aE f0)] (dH (fun T H=>Has T []/\aN ⟨H0,[],[]⟩ H []/\GA  = some r) ?_ ?_))
 ·rintro T H ⟨hT,hO,h0⟩;unfold GA at h0;obtain rfl:=oI h0;exact bB hT (bW aG 1 [(2,aL true)] (bK (aJ (Q_r hO))))
 refine aY aG 1 [] [(3,eI 0)] (bS 0 (eA [(0,eL aE f0),(3,eI 0)] (dJ (fun T H=>∃ i3:Int,Has T [(0,eL aE f0),(3,eI i3)]/\aN ⟨H0,[],[]⟩ H []/\NW f0 i3=some r) ?_ ⟨(0:Int),aV,hO,h0⟩)));rintro T H ⟨i3,hT,hO,h0⟩;unfold NW at h0;obtain⟨b6,b9,h0⟩:=aW h0;refine bB hT (eE (fun (s:Int) T H=>Has T [(0,eL aE f0),(3,eI s)]/\aN ⟨H0,[],[]⟩ H []) b9 ⟨aV,hO⟩ ?_);rintro k0 s b8 T H ⟨hT,hO⟩ h1 b7;obtain⟨i3,rfl⟩:∃ x,x=s:=⟨_,rfl⟩;replace h1:sC f0 i3=some b8:=h1;unfold sC at h1;refine bB hT (aO (aY aG 4 [] [(10,aL (decide (i3<(lN f0))))] (bI h1 (fun h1=>?_) (fun h1=>?_))))
 ·obtain⟨c3,h1⟩:=aZ h1;obtain⟨c4,h1⟩:=aZ h1;obtain⟨c5,h1⟩:=aZ h1;obtain⟨c6,h1⟩:=aZ h1;obtain⟨c7,h1⟩:=aZ h1;refine bG (bD [(0,eL aE f0),(3,eI i3)] (aO (bS 1 (aO (aO (aS aG 38 (nI [0<=i3/\i3<(lN f0),(!(decide (((gD f0 i3).At)<(-1:Int))))=true->0<=i3/\i3<(lN f0),(!((decide (((gD f0 i3).At)<(-1:Int)))||(decide (1125899906842624<=((gD f0 i3).At)))))=true->0<=i3/\i3<(lN f0),(!(((decide (((gD f0 i3).At)<(-1:Int)))||(decide (1125899906842624<=((gD f0 i3).At))))||(decide (((gD f0 i3).Net)=0))))=true->0<=i3/\i3<(lN f0),(!((((decide (((gD f0 i3).At)<(-1:Int)))||(decide (1125899906842624<=((gD f0 i3).At))))||(decide (((gD f0 i3).Net)=0)))||(decide (1048576<((gD f0 i3).Net)))))=true->0<=i3/\i3<(lN f0)] ⟨c3,c4,c5,c6,c7,trivial⟩ (bT [] [(50,aL (((((decide (((gD f0 i3).At)<(-1:Int)))||(decide (1125899906842624<=((gD f0 i3).At))))||(decide (((gD f0 i3).Net)=0)))||(decide (1048576<((gD f0 i3).Net))))||(decide (((gD f0 i3).Net)<(-1048576:Int)))))] (bI h1 (fun h1=>?_) (fun h1=>?_))))))))))
  ·obtain rfl:=oI h1;obtain rfl:_=b6:=b7;replace h0:some false=some r:=h0;obtain rfl:=oI h0;exact bW aG 1 [(2,aL false)] (bK (aJ (aR (bH (aR (aR (bH (aR (Q_r hO)))))))))
  obtain⟨c9,h1⟩:=aZ h1;obtain⟨c8,h1⟩:=aZ h1;refine bG (bD [(0,eL aE f0),(3,eI i3)] (aO (fF (fC [58,64]) aG 16 (rI (K:=fun T H=>Has (lift T) [(0,eL aE f0),(3,eI i3),(66,aL ((decide (0<i3))&&(decide (((gD f0 i3).At)<=((gD f0 (wR (i3-1))).At)))))]/\aN ⟨H0,[],[]⟩ H []) ?_ ?_))))
  ·refine jX 3 (pR (t:=53) (e:=decide (0<i3)) (by kernel_rfl) (fun b5=>?_) (fun b5=>?_))
   ·refine LL (Ds:=[0<=i3/\i3<(lN f0),0<=(wR (i3-1))/\(wR (i3-1))<(lN f0)]) (by kernel_rfl) ⟨c9 b5,c8 b5,trivial⟩ ?_;exact⟨⟨[(0,eL aE f0),(3,eI i3),(66,aL (decide (((gD f0 i3).At)<=((gD f0 (wR (i3-1))).At))))],by kernel_rfl,rfl,⟨sR,sR,dF.eq (congrArg aL (pM b5 rfl).symm),trivial⟩⟩,hO⟩
   refine gT ?_;exact⟨⟨[(0,eL aE f0),(3,eI i3),(66,aL false)],by kernel_rfl,rfl,⟨sR,sR,dF.eq (congrArg aL (pM b5 rfl).symm),trivial⟩⟩,hO⟩
  ·rintro T H ⟨hT,hO⟩;refine cV hT (aJ (aH (bI h1 (fun h1=>?_) (fun h1=>?_))))
   ·obtain rfl:=oI h1;obtain rfl:_=b6:=b7;replace h0:some false=some r:=h0;obtain rfl:=oI h0;exact bW aG 1 [(2,aL false)] (bK (aJ (bH (aR (aR (bH (aR (Q_r hO))))))))
   exact bG (cN [(0,eL aE f0),(3,eI i3)] (aJ (aX (aH (aS aG 3 (bC (aJ (aH (⟨rfl,_,(oI h1).symm,aV,hO⟩)))))))))
 obtain rfl:=oI h1;obtain rfl:_=b6:=b7;replace h0:GA  = some r:=h0;exact dV 0 (aJ (aT (aT (bN (aH (⟨rfl,aV,hO,h0⟩))))))
theorem aDo (a0 b1:aF)(r:Int)(h0:yV a0 b1=some r):cW Tryz.prog 84 [aI a0,aI b1] (eI r):=by
 intro H0;have hO:=aN.start H0;unfold yV at h0;obtain⟨x1,b8,h0⟩:=aW h0;obtain⟨x4,b9,h0⟩:=aW h0;refine cX Tryz.func84 (aO (aS aG 3 (AU 3 (aI a0) (AU 3 (aI b1) (bC (bD [(2,.rp (aI a0)),(3,.rp (aI b1))] (aO (aO (aS aG 8 (bM 1 (cU (XP a0 _ b8) hO (fun H hO=>bM 5 (rY [(9,false)] 45 [aI b1] (aL x4) (!(!x1)) (by kernel_rfl) (by kernel_rfl) (by kernel_rfl) (fun c4=>(XP b1 _ (kW b9 c4))) hO (fun H hO=>bC (bT [] [(13,aL ((!x1)||(!x4)))] (bI h0 (fun h0=>?_) (fun h0=>?_)))))))))))))))))
 ·obtain rfl:=oI h0;exact bW aG 1 [(4,eI 0)] (bK (aJ (aR (Q_r hO))))
 refine bG (bD [(2,.rp (aI a0)),(3,.rp (aI b1))] (aO (aY aG 5 [] [(18,aL (!decide (a0.Kind=b1.Kind)))] (bI h0 (fun h0=>?_) (fun h0=>?_)))))
 ·refine aO (bW aG 3 [(21,aL (decide (a0.Kind=1)))] (bI h0 (fun h0=>?_) (fun h0=>?_)))
  ·obtain rfl:=oI h0;exact bW aG 1 [(4,eI (-1:Int))] (bK (aJ (aR (aR (Q_r hO)))))
  obtain rfl:=oI h0;exact bG (bD [] (bW aG 1 [(4,eI 1)] (bK (aJ (aR (Q_r hO))))))
 refine bG (bD [(2,.rp (aI a0)),(3,.rp (aI b1))] (aO (aY aG 5 [] [(26,aL (!decide (a0.Num=b1.Num)))] (bI h0 (fun h0=>?_) (fun h0=>?_)))))
 ·refine aO (bW aG 5 [(31,aL (decide (a0.Num<b1.Num)))] (bI h0 (fun h0=>?_) (fun h0=>?_)))
  ·obtain rfl:=oI h0;exact bW aG 1 [(4,eI (-1:Int))] (bK (aJ (aR (aR (Q_r hO)))))
  obtain rfl:=oI h0;exact bG (bD [] (bW aG 1 [(4,eI 1)] (bK (aJ (aR (Q_r hO))))))
 refine bG (bD [(2,.rp (aI a0)),(3,.rp (aI b1))] (dH (fun T H=>∃ a2:aF,∃ b3:aF,Has T [(2,.rp (aI a2)),(3,.rp (aI b3))]/\aN ⟨H0,[],[]⟩ H []/\xJ a2 b3=some r) ?_ ?_))
 ·rintro T H ⟨a2,b3,hT,hO,h0⟩;unfold xJ at h0;refine bB hT (aO (aY aG 7 [] [(70,aL (!decide (((ByteArray.size a2.Text:Nat):Int)=((ByteArray.size b3.Text:Nat):Int))))] (bI h0 (fun h0=>?_) (fun h0=>?_))))
  ·refine aO (bW aG 7 [(77,aL (decide (((ByteArray.size a2.Text:Nat):Int)<((ByteArray.size b3.Text:Nat):Int))))] (bI h0 (fun h0=>?_) (fun h0=>?_)))
   ·obtain rfl:=oI h0;exact bW aG 1 [(4,eI (-1:Int))] (bK (aJ (aR (aR (Q_r hO)))))
   obtain rfl:=oI h0;exact bG (bD [] (bW aG 1 [(4,eI 1)] (bK (aJ (aR (Q_r hO))))))
  obtain rfl:=oI h0;exact bG (bD [] (bW aG 1 [(4,eI 0)] (bK (aJ (Q_r hO)))))
 refine aY aG 1 [] [(5,eI 0)] (bS 0 (eA [(2,.rp (aI a0)),(3,.rp (aI b1)),(5,eI 0)] (dJ (fun T H=>∃ a2:aF,∃ b3:aF,∃ i5:Int,Has T [(2,.rp (aI a2)),(3,.rp (aI b3)),(5,eI i5)]/\aN ⟨H0,[],[]⟩ H []/\BW a2 b3 i5=some r) ?_ ⟨a0,b1,(0:Int),aV,hO,h0⟩)));rintro T H ⟨a2,b3,i5,hT,hO,h0⟩;unfold BW at h0;obtain⟨b5,c5,h0⟩:=aW h0;refine bB hT (eE (fun (s:Int) T H=>Has T [(2,.rp (aI a2)),(3,.rp (aI b3)),(5,eI s)]/\aN ⟨H0,[],[]⟩ H []) c5 ⟨aV,hO⟩ ?_);rintro k0 s b7 T H ⟨hT,hO⟩ h1 b6;obtain⟨i5,rfl⟩:∃ x,x=s:=⟨_,rfl⟩;replace h1:nS a2 b3 i5=some b7:=h1;unfold nS at h1;refine bB hT (aO (aY aG 12 [] [(43,aL ((decide (i5<((ByteArray.size a2.Text:Nat):Int)))&&(decide (i5<((ByteArray.size b3.Text:Nat):Int)))))] (bI h1 (fun h1=>?_) (fun h1=>?_))))
 ·obtain⟨c6,h1⟩:=aZ h1;obtain⟨c7,h1⟩:=aZ h1;refine bG (bD [(2,.rp (aI a2)),(3,.rp (aI b3)),(5,eI i5)] (aO (bS 1 (aO (fF (fC [47,51]) aG 9 (LL (Ds:=[0<=i5/\i5<((ByteArray.size a2.Text:Nat):Int),0<=i5/\i5<((ByteArray.size b3.Text:Nat):Int)]) (by kernel_rfl) ⟨c6,c7,trivial⟩ (bT [] [(54,aL (!decide ((bt a2.Text i5)=(bt b3.Text i5))))] (bI h1 (fun h1=>?_) (fun h1=>?_)))))))))
  ·obtain⟨c8,h1⟩:=aZ h1;obtain⟨c9,h1⟩:=aZ h1;refine aO (aO (fF (fC [56,60]) aG 9 (LL (Ds:=[0<=i5/\i5<((ByteArray.size a2.Text:Nat):Int),0<=i5/\i5<((ByteArray.size b3.Text:Nat):Int)]) (by kernel_rfl) ⟨c8,c9,trivial⟩ (bD [(63,aL (decide ((bt a2.Text i5)<(bt b3.Text i5))))] (bI h1 (fun h1=>?_) (fun h1=>?_))))))
   ·obtain rfl:=oI h1;obtain rfl:_=b5:=b6;replace h0:some (-1:Int)=some r:=h0;obtain rfl:=oI h0;exact bW aG 1 [(4,eI (-1:Int))] (bK (aJ (aR (bH (aR (aR (bH (aR (Q_r hO)))))))))
   obtain rfl:=oI h1;obtain rfl:_=b5:=b6;replace h0:some 1=some r:=h0;obtain rfl:=oI h0;exact bG (bD [] (bW aG 1 [(4,eI 1)] (bK (aJ (bH (aR (aR (bH (aR (Q_r hO))))))))))
  exact bG (cN [(2,.rp (aI a2)),(3,.rp (aI b3)),(5,eI i5)] (aJ (aX (aH (aS aG 3 (bC (aJ (aH (⟨rfl,_,(oI h1).symm,aV,hO⟩)))))))))
 obtain rfl:=oI h1;obtain rfl:_=b5:=b6;replace h0:xJ a2 b3=some r:=h0;exact dV 0 (aJ (aT (aT (bN (aH (⟨rfl,_,_,aV,hO,h0⟩))))))
theorem VR (a0:(List aF))(b1:(List aF))(r:Int)(h0:vU a0 b1=some r):cW Tryz.prog 57 [eL aI a0,eL aI b1] (eI r):=by
 intro H0;have hO:=aN.start H0;unfold vU at h0;obtain⟨x1,c4,h0⟩:=aW h0;obtain⟨x4,c5,h0⟩:=aW h0;refine cX Tryz.func57 (aY aG 1 [] [] (aO (aO (aS aG 8 (bM 1 (cU (JW a0 _ c4) hO (fun H hO=>bM 5 (rY [(10,false)] 19 [eL aI b1] (aL x4) (!(!x1)) (by kernel_rfl) (by kernel_rfl) (by kernel_rfl) (fun c6=>(JW b1 _ (kW c5 c6))) hO (fun H hO=>bC (bT [] [(14,aL ((!x1)||(!x4)))] (bI h0 (fun h0=>?_) (fun h0=>?_))))))))))))
 ·obtain rfl:=oI h0;exact bW aG 1 [(4,eI 0)] (bK (aJ (aR (Q_r hO))))
 refine bG (bD [(0,eL aI a0),(1,eL aI b1)] (dH (fun T H=>Has T [(0,eL aI a0),(1,eL aI b1)]/\aN ⟨H0,[],[]⟩ H []/\xL a0 b1=some r) ?_ ?_))
 ·rintro T H ⟨hT,hO,h0⟩;unfold xL at h0;refine bB hT (aO (aY aG 5 [] [(43,aL (decide ((lN a0)<(lN b1))))] (bI h0 (fun h0=>?_) (fun h0=>?_))))
  ·obtain rfl:=oI h0;exact bW aG 1 [(4,eI (-1:Int))] (bK (aJ (aR (Q_r hO))))
  refine bG (bD [(0,eL aI a0),(1,eL aI b1)] (aO (bW aG 5 [(48,aL (decide ((lN b1)<(lN a0))))] (bI h0 (fun h0=>?_) (fun h0=>?_)))))
  ·obtain rfl:=oI h0;exact bW aG 1 [(4,eI 1)] (bK (aJ (aR (Q_r hO))))
  obtain rfl:=oI h0;exact bG (bD [] (bW aG 1 [(4,eI 0)] (bK (aJ (Q_r hO)))))
 refine aY aG 1 [] [(5,eI 0)] (bS 0 (eA [(0,eL aI a0),(1,eL aI b1),(5,eI 0)] (dJ (fun T H=>∃ i5:Int,Has T [(0,eL aI a0),(1,eL aI b1),(5,eI i5)]/\aN ⟨H0,[],[]⟩ H []/\CC a0 b1 i5=some r) ?_ ⟨(0:Int),aV,hO,h0⟩)));rintro T H ⟨i5,hT,hO,h0⟩;unfold CC at h0;obtain⟨b6,c7,h0⟩:=aW h0;refine bB hT (eE (fun (s:Int) T H=>Has T [(0,eL aI a0),(1,eL aI b1),(5,eI s)]/\aN ⟨H0,[],[]⟩ H []) c7 ⟨aV,hO⟩ ?_);rintro k0 s b8 T H ⟨hT,hO⟩ h1 b7;obtain⟨i5,rfl⟩:∃ x,x=s:=⟨_,rfl⟩;replace h1:nT a0 b1 i5=some b8:=h1;unfold nT at h1;refine bB hT (aO (aY aG 10 [] [(24,aL ((decide (i5<(lN a0)))&&(decide (i5<(lN b1)))))] (bI h1 (fun h1=>?_) (fun h1=>?_))))
 ·obtain⟨c8,h1⟩:=aZ h1;obtain⟨c9,h1⟩:=aZ h1;obtain⟨b5,b9,h1⟩:=aW h1;refine bG (bD [(0,eL aI a0),(1,eL aI b1),(5,eI i5)] (aO (bS 1 (aO (fF (fC [30,34,35]) aG 10 (cS 8 [0<=i5/\i5<(lN a0),0<=i5/\i5<(lN b1)] ⟨c8,c9,trivial⟩ (PZ (aDo (gD a0 i5) (gD b1 i5) _ b9) hO (fun H hO=>gT (bT [] [(6,eI b5)] (aY aG 2 [] [(37,aL (!decide (b5=0)))] (bI h1 (fun h1=>?_) (fun h1=>?_))))))))))))
  ·obtain rfl:=oI h1;obtain rfl:_=b6:=b7;replace h0:some b5=some r:=h0;obtain rfl:=oI h0;exact bW aG 2 [(4,eI b5)] (bK (aJ (bH (aR (aR (bH (aR (Q_r hO))))))))
  exact bG (cN [(0,eL aI a0),(1,eL aI b1),(5,eI i5)] (aJ (aX (aH (aS aG 3 (bC (aJ (aH (⟨rfl,_,(oI h1).symm,aV,hO⟩)))))))))
 obtain rfl:=oI h1;obtain rfl:_=b6:=b7;replace h0:xL a0 b1=some r:=h0;exact dV 0 (aJ (aT (aT (bN (aH (⟨rfl,aV,hO,h0⟩))))))
theorem FX (l0:(List aK))(r:(List (List aF)))(h0:tN l0=some r):cW Tryz.prog 43 [eL aM l0] (eL (eL aI) r):=by
 intro H0;have hO:=aN.start H0;unfold tN at h0;refine cX Tryz.func43 (aY aG 1 [] [] (aO (aS aG 2 (mW [] 1 (bC (bT [] [(3,.sl true 0 (fun _=>.bad))] (dH (fun T H=>∃ cC:List (List aF),∃ c6:Nat,Has T [(3,mL 1 c6 cC)]/\aN ⟨H0,[],[]⟩ H [(c6,1,List.map (eL aI) cC)]/\LG cC=some r) ?_ ?_)))))))
 ·rintro T H ⟨cC,c6,hT,hO,h0⟩;unfold LG at h0;obtain rfl:=oI h0;refine bB hT (bW aG 2 [(2,mL 1 c6 cC)] (bK (cN [(2,mL 1 c6 cC)] (nL (en:=(eL aI)) cC 0 0 2 1 c6 cC.length hO (by kernel_rfl) (by kernel_rfl) (by kernel_rfl) (L':=[]) (by kernel_rfl) ?_))));intro H2 hO;exact aJ (Q_r hO)
 refine aY aG 1 [] [(4,eI 0)] (bS 0 (eA [(0,eL aM l0),(3,.sl true 0 (fun _=>.bad)),(4,eI 0)] (vI (el:=(fun _=>.bad)) 1 3 1 hO (by kernel_rfl) ?_)));intro g3 j8 hO;refine dJ (fun T H=>∃ cC:List (List aF),∃ i4:Int,∃ b8:Nat,Has T [(0,eL aM l0),(3,mL 1 b8 cC),(4,eI i4)]/\aN ⟨H0,[],[]⟩ H [(b8,1,List.map (eL aI) cC)]/\LH l0 cC i4=some r) ?_ ⟨([]:List (List aF)),(0:Int),g3,aV,hO,h0⟩;rintro T H ⟨cC,i4,b8,hT,hO,h0⟩;unfold LH at h0;obtain⟨g7,g8,h0⟩:=aW h0;refine bB hT (eE (fun (s:List (List aF)×Int) T H=>∃ b8:Nat,Has T [(0,eL aM l0),(3,mL 1 b8 s.1),(4,eI s.2)]/\aN ⟨H0,[],[]⟩ H [(b8,1,List.map (eL aI) s.1)]) g8 ⟨b8,aV,hO⟩ ?_);rintro k0 s c5 T H ⟨b8,hT,hO⟩ h1 g9;obtain⟨cC,i4⟩:=s;replace h1:tY l0 cC i4=some c5:=h1
 try dsimp only at hT
 unfold tY at h1;refine bB hT (aO (aY aG 4 [] [(11,aL (decide (i4<(lN l0))))] (bI h1 (fun h1=>?_) (fun h1=>?_))))
 ·refine bG (bD [(0,eL aM l0),(3,mL 1 b8 cC),(4,eI i4)] (dH (fun T H=>∃ cC:List (List aF),∃ e5:Nat,Has T [(0,eL aM l0),(3,mL 1 e5 cC),(4,eI i4)]/\aN ⟨H0,[],[]⟩ H [(e5,1,List.map (eL aI) cC)]/\CH l0 cC i4=some c5) ?_ ?_))
  ·rintro T H ⟨cC,e5,hT,hO,h1⟩;unfold CH at h1;exact bB hT (aS aG 3 (bC (aJ (aH (⟨rfl,_,(oI h1).symm,_,aV,hO⟩)))))
  refine bS 1 (aY aG 1 [] [(5,eI 0)] (dH (fun T H=>∃ cC:List (List aF),∃ b5:Int,∃ b7:Nat,Has T [(0,eL aM l0),(3,mL 1 b7 cC),(4,eI i4),(5,eI b5)]/\aN ⟨H0,[],[]⟩ H [(b7,1,List.map (eL aI) cC)]/\CR l0 cC i4 b5=some c5) ?_ ?_))
  ·rintro T H ⟨cC,b5,b7,hT,hO,h1⟩;unfold CR at h1;obtain⟨c8,h1⟩:=aZ h1;obtain⟨c9,h1⟩:=aZ h1;obtain⟨e6,g4,h1⟩:=aW h1;refine bB hT (aO (aO (fF (fC [46]) aG 16 (rI (K:=fun T H=>Has (lift T) [(0,eL aM l0),(3,mL 1 b7 cC),(4,eI i4),(5,eI b5),(48,aL ((decide (b5<(lN cC)))&&e6))]/\aN ⟨H0,[],[]⟩ H [(b7,1,List.map (eL aI) cC)]) ?_ ?_))))
   ·refine jX 5 (pR (t:=37) (e:=decide (b5<(lN cC))) (by kernel_rfl) (fun b9=>?_) (fun b9=>?_))
    ·refine cS 8 [0<=b5/\b5<(lN cC)] ⟨c8 b9,trivial⟩ (wT 0 b7 1 (0+b5.toNat) (eL aI (gD cC b5)) (eL aI (gD cC b5)) (List.map (eL aI) cC) hO (cM (c8 b9)) (cS 14 [0<=i4/\i4<(lN l0)] ⟨c9 b9,trivial⟩ (sW 37 [eL aI (gD cC b5),eL aI ((gD l0 i4).Row)] (aL e6) (by kernel_rfl) (by kernel_rfl) (NA (gD cC b5) ((gD l0 i4).Row) _ (kW g4 b9)) hO (fun H hO=>gT ?_))));exact⟨⟨[(0,eL aM l0),(3,.msl 1 b7 0 cC.length),(4,eI i4),(5,eI b5),(48,aL e6)],by kernel_rfl,rfl,⟨sR,sR,sR,sR,dF.eq (congrArg aL (pM b9 rfl).symm),trivial⟩⟩,hO⟩
    refine gT ?_;exact⟨⟨[(0,eL aM l0),(3,.msl 1 b7 0 cC.length),(4,eI i4),(5,eI b5),(48,aL false)],by kernel_rfl,rfl,⟨sR,sR,sR,sR,dF.eq (congrArg aL (pM b9 rfl).symm),trivial⟩⟩,hO⟩
   ·rintro T H ⟨hT,hO⟩;refine cV hT (aJ (aH (bI h1 (fun h1=>?_) (fun h1=>?_))))
    ·exact dV 1 (aJ (aT (bN (aH (⟨rfl,_,_,aV,hO,h1⟩)))))
    obtain⟨e8,h1⟩:=aZ h1;obtain⟨h8,h1⟩:=aZ h1;obtain⟨h9,h1⟩:=aZ h1;obtain⟨j0,h1⟩:=aZ h1;obtain⟨e9,h1⟩:=aZ h1;obtain⟨j3,h1⟩:=aZ h1;refine bG (bD [(0,eL aM l0),(3,mL 1 b7 cC),(4,eI i4),(5,eI b5)] (aO (aS aG 6 (mW [] 1 (nM 4 [0<=b5/\b5<=(lN cC)] ⟨e8,trivial⟩ (aBq (e:=(eL aI)) (List.take b5.toNat cC) (fun _=>.bad) 1 24 (.msl 1 b7 0 b5.toNat) (fun c7=>[(b7,1,List.map (eL aI) cC),(c7,1,List.map (eL aI) (List.take b5.toNat cC))]) (by kernel_rfl) (by kernel_rfl) hO (aG0 hO 0 (by kernel_rfl) (Int.toNat_le.2 (And.right e8))) h8 (fun _=>by kernel_rfl) (fun c7 H hO=>bC (bT [] [(6,.msl 1 c7 0 (List.length (List.take b5.toNat cC)))] (aO (aS aG 9 (nM 6 [0<=i4/\i4<(lN l0)] ⟨h9,trivial⟩ (mW [eL aI ((gD l0 i4).Row)] 1 (wD (eL aI) (List.take b5.toNat cC) ([(gD l0 i4).Row]) 1 c7 1 24 (dB [eL aI ((gD l0 i4).Row)]) (fun e3=>[(b7,1,List.map (eL aI) cC),(e3,1,List.map (eL aI) ((List.take b5.toNat cC)++([(gD l0 i4).Row])))]) hO (by kernel_rfl) j0 (fun e3 H hO=>bC (bT [6] [(6,.msl 1 e3 0 (List.length ((List.take b5.toNat cC)++([(gD l0 i4).Row]))))] (aS aG 6 (nM 4 [0<=b5/\b5<=(lN cC)] ⟨e9,trivial⟩ (wD (eL aI) ((List.take b5.toNat cC)++([(gD l0 i4).Row])) (List.drop b5.toNat cC) 1 e3 1 24 (.msl 1 b7 (0+b5.toNat) (List.length cC-b5.toNat)) (fun e4=>[(b7,1,List.map (eL aI) cC),(e4,1,List.map (eL aI) (((List.take b5.toNat cC)++([(gD l0 i4).Row]))++(List.drop b5.toNat cC)))]) hO (aGn hO 0 (by kernel_rfl) rfl (Int.toNat_le.2 (And.right e9))) j3 (fun e4 H hO=>bC ?_)))))))))))))))))));replace hO:=hO.pick (L':=[(e4,1,List.map (eL aI) (((List.take b5.toNat cC)++([(gD l0 i4).Row]))++(List.drop b5.toNat cC)))]) [1] (by decide) (by kernel_rfl);exact aJ (aX (aH (⟨rfl,_,_,aV,hO,h1⟩)))
  refine bS 2 (eA [(0,eL aM l0),(3,mL 1 b8 cC),(4,eI i4),(5,eI 0)] (dJ (fun T H=>∃ cC:List (List aF),∃ b5:Int,∃ b6:Nat,Has T [(0,eL aM l0),(3,mL 1 b6 cC),(4,eI i4),(5,eI b5)]/\aN ⟨H0,[],[]⟩ H [(b6,1,List.map (eL aI) cC)]/\KQ l0 cC i4 b5=some c5) ?_ ⟨cC,(0:Int),b8,aV,hO,h1⟩));rintro T H ⟨cC,b5,b6,hT,hO,h1⟩;unfold KQ at h1;obtain⟨j4,j5,h1⟩:=aW h1;refine bB hT (eE (fun (s:List (List aF)×Int) T H=>∃ b6:Nat,Has T [(0,eL aM l0),(3,mL 1 b6 s.1),(4,eI i4),(5,eI s.2)]/\aN ⟨H0,[],[]⟩ H [(b6,1,List.map (eL aI) s.1)]) j5 ⟨b6,aV,hO⟩ ?_);rintro k1 s g5 T H ⟨b6,hT,hO⟩ h2 j6;obtain⟨cC,b5⟩:=s;replace h2:sF l0 i4 cC b5=some g5:=h2
  try dsimp only at hT
  unfold sF at h2;obtain⟨g2,h2⟩:=aZ h2;obtain⟨j7,h2⟩:=aZ h2;obtain⟨e7,g6,h2⟩:=aW h2;refine bB hT (aO (aO (fF (fC [27]) aG 17 (rI (K:=fun T H=>Has (lift T) [(0,eL aM l0),(3,mL 1 b6 cC),(4,eI i4),(5,eI b5),(30,aL ((decide (b5<(lN cC)))&&(decide (e7<0))))]/\aN ⟨H0,[],[]⟩ H [(b6,1,List.map (eL aI) cC)]) ?_ ?_))))
  ·refine jX 5 (pR (t:=18) (e:=decide (b5<(lN cC))) (by kernel_rfl) (fun c4=>?_) (fun c4=>?_))
   ·refine cS 8 [0<=b5/\b5<(lN cC)] ⟨g2 c4,trivial⟩ (wT 0 b6 1 (0+b5.toNat) (eL aI (gD cC b5)) (eL aI (gD cC b5)) (List.map (eL aI) cC) hO (cM (g2 c4)) (cS 14 [0<=i4/\i4<(lN l0)] ⟨j7 c4,trivial⟩ (sW 57 [eL aI (gD cC b5),eL aI ((gD l0 i4).Row)] (eI e7) (by kernel_rfl) (by kernel_rfl) (VR (gD cC b5) ((gD l0 i4).Row) _ (kW g6 c4)) hO (fun H hO=>gT ?_))));exact⟨⟨[(0,eL aM l0),(3,.msl 1 b6 0 cC.length),(4,eI i4),(5,eI b5),(30,aL (decide (e7<0)))],by kernel_rfl,rfl,⟨sR,sR,sR,sR,dF.eq (congrArg aL (pM c4 rfl).symm),trivial⟩⟩,hO⟩
   refine gT ?_;exact⟨⟨[(0,eL aM l0),(3,.msl 1 b6 0 cC.length),(4,eI i4),(5,eI b5),(30,aL false)],by kernel_rfl,rfl,⟨sR,sR,sR,sR,dF.eq (congrArg aL (pM c4 rfl).symm),trivial⟩⟩,hO⟩
  ·rintro T H ⟨hT,hO⟩;refine cV hT (aJ (aH (bI h2 (fun h2=>?_) (fun h2=>?_))))
   ·exact bG (bD [(0,eL aM l0),(3,mL 1 b6 cC),(4,eI i4),(5,eI b5)] (bS 3 (aS aG 3 (bC (aJ (aX (aH (⟨rfl,_,(oI h2).symm,_,aV,hO⟩))))))))
   obtain rfl:=oI h2;obtain rfl:_=j4:=j6;replace h1:CR l0 cC i4 b5=some c5:=h1;exact dV 2 (aJ (aT (aT (bN (aH (⟨rfl,_,_,_,aV,hO,h1⟩))))))
 obtain rfl:=oI h1;obtain rfl:_=g7:=g9;replace h0:LG cC=some r:=h0;exact dV 0 (aJ (aT (aT (bN (aH (⟨rfl,_,_,aV,hO,h0⟩))))))
theorem yG (l0:(List aK))(r1:(List aF))(r:(List aB))(h0:qV l0 r1=some r):cW Tryz.prog 20 [eL aM l0,eL aI r1] (eL aE r):=by
 intro H0;have hO:=aN.start H0;unfold qV at h0;refine cX Tryz.func20 (aY aG 1 [] [] (aO (aS aG 2 (mW [] 2 (bC (bT [] [(5,.sl true 0 (fun _=>.bad))] (dH (fun T H=>∃ f5:List aB,∃ b6:Nat,Has T [(5,mL 2 b6 f5)]/\aN ⟨H0,[],[]⟩ H [(b6,2,f5.map aE)]/\HT f5=some r) ?_ ?_)))))))
 ·rintro T H ⟨f5,b6,hT,hO,h0⟩;unfold HT at h0;obtain rfl:=oI h0;refine bB hT (bW aG 2 [(4,mL 2 b6 f5)] (bK (cN [(4,mL 2 b6 f5)] (nL (en:=aE) f5 0 0 4 2 b6 f5.length hO (by kernel_rfl) (by kernel_rfl) (by kernel_rfl) (L':=[]) (by kernel_rfl) ?_))));intro H2 hO;exact aJ (Q_r hO)
 refine aY aG 1 [] [(6,eI 0)] (bS 0 (eA [(0,eL aM l0),(1,eL aI r1),(5,.sl true 0 (fun _=>.bad)),(6,eI 0)] (vI (el:=(fun _=>.bad)) 2 5 2 hO (by kernel_rfl) ?_)));intro c4 e6 hO;refine dJ (fun T H=>∃ f5:List aB,∃ i6:Int,∃ b5:Nat,Has T [(0,eL aM l0),(1,eL aI r1),(5,mL 2 b5 f5),(6,eI i6)]/\aN ⟨H0,[],[]⟩ H [(b5,2,f5.map aE)]/\GY l0 r1 f5 i6=some r) ?_ ⟨([]:List aB),(0:Int),c4,aV,hO,h0⟩;rintro T H ⟨f5,i6,b5,hT,hO,h0⟩;unfold GY at h0;obtain⟨c5,c6,h0⟩:=aW h0;refine bB hT (eE (fun (s:List aB×Int) T H=>∃ b5:Nat,Has T [(0,eL aM l0),(1,eL aI r1),(5,mL 2 b5 s.1),(6,eI s.2)]/\aN ⟨H0,[],[]⟩ H [(b5,2,s.1.map aE)]) c6 ⟨b5,aV,hO⟩ ?_);rintro k0 s b7 T H ⟨b5,hT,hO⟩ h1 c8;obtain⟨f5,i6⟩:=s;replace h1:sV l0 r1 f5 i6=some b7:=h1
 try dsimp only at hT
 unfold sV at h1;refine bB hT (aO (aY aG 4 [] [(11,aL (decide (i6<(lN l0))))] (bI h1 (fun h1=>?_) (fun h1=>?_))))
 ·refine bG (bD [(0,eL aM l0),(1,eL aI r1),(5,mL 2 b5 f5),(6,eI i6)] (dH (fun T H=>∃ f5:List aB,∃ b8:Nat,Has T [(0,eL aM l0),(1,eL aI r1),(5,mL 2 b8 f5),(6,eI i6)]/\aN ⟨H0,[],[]⟩ H [(b8,2,f5.map aE)]/\AL l0 r1 f5 i6=some b7) ?_ ?_))
  ·rintro T H ⟨f5,b8,hT,hO,h1⟩;unfold AL at h1;exact bB hT (aS aG 3 (bC (aJ (aH (⟨rfl,_,(oI h1).symm,_,aV,hO⟩)))))
  obtain⟨c7,h1⟩:=aZ h1;obtain⟨x8,c9,h1⟩:=aW h1;refine bS 1 (aO (aS aG 7 (nM 6 [0<=i6/\i6<(lN l0)] ⟨c7,trivial⟩ (cU (NA ((gD l0 i6).Row) r1 _ c9) hO (fun H hO=>eC (bT [] [(20,aL x8)] (bI h1 (fun h1=>?_) (fun h1=>?_))))))))
  ·obtain⟨e3,h1⟩:=aZ h1;obtain⟨e4,h1⟩:=aZ h1;obtain⟨e5,h1⟩:=aZ h1;exact fF (fC [26,31,33]) aG 15 (cS 12 [0<=i6/\i6<(lN l0),0<=i6/\i6<(lN l0)] ⟨e3,e4,trivial⟩ (OF (xs:=[aE (aB.mk ((gD l0 i6).At) ((gD l0 i6).Net))]) (k:=2) (by kernel_rfl) (by kernel_rfl) (MW (e:=aE) f5 ([aB.mk ((gD l0 i6).At) ((gD l0 i6).Net)]) 0 b5 2 16 (dB [aE (aB.mk ((gD l0 i6).At) ((gD l0 i6).Net))]) (fun b9=>[(b9,2,List.map aE (f5++([aB.mk ((gD l0 i6).At) ((gD l0 i6).Net)])))]) (by kernel_rfl) (by kernel_rfl) hO (by kernel_rfl) (by kernel_rfl) e5 (fun _=>by kernel_rfl) (fun b9 H hO=>gT (aJ (aX (aH (⟨rfl,_,_,aV,hO,h1⟩))))))))
  exact bG (aJ (aX (aH (⟨rfl,_,_,aV,hO,h1⟩))))
 obtain rfl:=oI h1;obtain rfl:_=c5:=c8;replace h0:HT f5=some r:=h0;exact dV 0 (aJ (aT (aT (bN (aH (⟨rfl,_,_,aV,hO,h0⟩))))))
theorem DW (l0:(List aK))(r:Bool)(h0:tK l0=some r):cW Tryz.prog 32 [eL aM l0] (aL r):=by
 intro H0;have hO:=aN.start H0;unfold tK at h0;refine cX Tryz.func32 (aY aG 1 [] [] (aO (aY aG 3 [] [(9,aL (decide (4096<(lN l0))))] (bI h0 (fun h0=>?_) (fun h0=>?_)))))
 ·obtain rfl:=oI h0;exact bW aG 1 [(2,aL false)] (bK (aJ (aR (Q_r hO))))
 refine bG (bD [(0,eL aM l0)] (dH (fun T H=>Has T [(0,eL aM l0)]/\aN ⟨H0,[],[]⟩ H []/\FN l0=some r) ?_ ?_))
 ·rintro T H ⟨hT,hO,h0⟩;unfold FN at h0;obtain⟨x2,e6,h0⟩:=aW h0;refine bB hT (aO (aS aG 3 (bM 1 (cU (FX l0 _ e6) hO (fun H hO=>bC (bT [] [(5,eL (eL aI) x2)] (dH (fun T H=>Has T []/\aN ⟨H0,[],[]⟩ H []/\NC  = some r) ?_ ?_)))))))
  ·rintro T H ⟨hT,hO,h0⟩;unfold NC at h0;obtain rfl:=oI h0;exact bB hT (bW aG 1 [(2,aL true)] (bK (aJ (Q_r hO))))
  refine aY aG 1 [] [(6,eI 0)] (bS 2 (eA [(0,eL aM l0),(5,eL (eL aI) x2),(6,eI 0)] (dJ (fun T H=>∃ eH:(List (List aF)),∃ i6:Int,Has T [(0,eL aM l0),(5,eL (eL aI) eH),(6,eI i6)]/\aN ⟨H0,[],[]⟩ H []/\NO l0 eH i6=some r) ?_ ⟨x2,(0:Int),aV,hO,h0⟩)));rintro T H ⟨eH,i6,hT,hO,h0⟩;unfold NO at h0;obtain⟨b8,c7,h0⟩:=aW h0;refine bB hT (eE (fun (s:Int) T H=>Has T [(0,eL aM l0),(5,eL (eL aI) eH),(6,eI s)]/\aN ⟨H0,[],[]⟩ H []) c7 ⟨aV,hO⟩ ?_);rintro k0 s c4 T H ⟨hT,hO⟩ h1 b9;obtain⟨i6,rfl⟩:∃ x,x=s:=⟨_,rfl⟩;replace h1:xT l0 eH i6=some c4:=h1;unfold xT at h1;refine bB hT (aO (aY aG 4 [] [(78,aL (decide (i6<(lN eH))))] (bI h1 (fun h1=>?_) (fun h1=>?_))))
  ·obtain⟨c6,h1⟩:=aZ h1;obtain⟨x7,e7,h1⟩:=aW h1;refine bG (bD [(0,eL aM l0),(5,eL (eL aI) eH),(6,eI i6)] (aO (bS 3 (aO (aS aG 8 (nM 5 [0<=i6/\i6<(lN eH)] ⟨c6,trivial⟩ (cU (yG l0 (gD eH i6) _ e7) hO (fun H hO=>bC (bT [] [(88,aL (decide (1024<(lN x7))))] (bI h1 (fun h1=>?_) (fun h1=>?_)))))))))))
   ·obtain rfl:=oI h1;obtain rfl:_=b8:=b9;replace h0:some false=some r:=h0;obtain rfl:=oI h0;exact bW aG 1 [(2,aL false)] (bK (aJ (bH (aR (aR (bH (aR (Q_r hO))))))))
   exact bG (cN [(0,eL aM l0),(5,eL (eL aI) eH),(6,eI i6)] (aJ (aX (aH (aS aG 3 (bC (aJ (aH (⟨rfl,_,(oI h1).symm,aV,hO⟩)))))))))
  obtain rfl:=oI h1;obtain rfl:_=b8:=b9;replace h0:NC  = some r:=h0;exact dV 2 (aJ (aT (aT (bN (aH (⟨rfl,aV,hO,h0⟩))))))
 refine aY aG 1 [] [(3,eI 0)] (bS 0 (eA [(0,eL aM l0),(3,eI 0)] (dJ (fun T H=>∃ i3:Int,Has T [(0,eL aM l0),(3,eI i3)]/\aN ⟨H0,[],[]⟩ H []/\OQ l0 i3=some r) ?_ ⟨(0:Int),aV,hO,h0⟩)));rintro T H ⟨i3,hT,hO,h0⟩;unfold OQ at h0;obtain⟨b8,c7,h0⟩:=aW h0;refine bB hT (eE (fun (s:Int) T H=>Has T [(0,eL aM l0),(3,eI s)]/\aN ⟨H0,[],[]⟩ H []) c7 ⟨aV,hO⟩ ?_);rintro k0 s c4 T H ⟨hT,hO⟩ h1 b9;obtain⟨i3,rfl⟩:∃ x,x=s:=⟨_,rfl⟩;replace h1:vG l0 i3=some c4:=h1;unfold vG at h1;refine bB hT (aO (aY aG 4 [] [(13,aL (decide (i3<(lN l0))))] (bI h1 (fun h1=>?_) (fun h1=>?_))))
 ·refine bG (bD [(0,eL aM l0),(3,eI i3)] (dH (fun T H=>Has T [(0,eL aM l0),(3,eI i3)]/\aN ⟨H0,[],[]⟩ H []/\AO l0 i3=some c4) ?_ ?_))
  ·rintro T H ⟨hT,hO,h1⟩;unfold AO at h1;exact bB hT (aS aG 3 (bC (aJ (aH (⟨rfl,_,(oI h1).symm,aV,hO⟩)))))
  obtain⟨e8,h1⟩:=aZ h1;obtain⟨c8,e3,h1⟩:=aW h1;obtain⟨e9,h1⟩:=aZ h1;obtain⟨g2,h1⟩:=aZ h1;obtain⟨c9,e4,h1⟩:=aW h1;refine bS 1 (aO (aO (fF (fC [20,28,33]) aG 23 (rI (K:=fun T H=>Has (lift T) [(0,eL aM l0),(3,eI i3),(38,aL ((!c8)||(!c9)))]/\aN ⟨H0,[],[]⟩ H []) ?_ ?_))))
  ·refine cS 5 [0<=i3/\i3<(lN l0)] ⟨e8,trivial⟩ (sW 19 [eL aI ((gD l0 i3).Row)] (aL c8) (by kernel_rfl) (by kernel_rfl) (JW ((gD l0 i3).Row) _ e3) hO (fun H hO=>jX 8 (pR (t:=23) (e := !c8) (by kernel_rfl) (fun b5=>?_) (fun b5=>?_))))
   ·refine gT ?_;exact⟨⟨[(0,eL aM l0),(3,eI i3),(38,aL true)],by kernel_rfl,rfl,⟨sR,sR,dF.eq (congrArg aL (wU b5 rfl).symm),trivial⟩⟩,hO⟩
   refine cS 19 [0<=i3/\i3<(lN l0),0<=i3/\i3<(lN l0)] ⟨e9 (zN b5),g2 (zN b5),trivial⟩ (aNP (xs:=[aE (aB.mk ((gD l0 i3).At) ((gD l0 i3).Net))]) (by kernel_rfl) (by kernel_rfl) (sW 56 [dB [aE (aB.mk ((gD l0 i3).At) ((gD l0 i3).Net))]] (aL c9) (by kernel_rfl) (by kernel_rfl) (cW.sub (zV ([aB.mk ((gD l0 i3).At) ((gD l0 i3).Net)]) _ (kW e4 (zN b5))) ⟨aAg (l:=[aB.mk ((gD l0 i3).At) ((gD l0 i3).Net)]),trivial⟩) hO (fun H hO=>gT ?_)));exact⟨⟨[(0,eL aM l0),(3,eI i3),(38,aL (!c9))],by kernel_rfl,rfl,⟨sR,sR,dF.eq (congrArg aL (wU b5 rfl).symm),trivial⟩⟩,hO⟩
  ·rintro T H ⟨hT,hO⟩;refine cV hT (aJ (aH (bI h1 (fun h1=>?_) (fun h1=>?_))))
   ·obtain rfl:=oI h1;obtain rfl:_=b8:=b9;replace h0:some false=some r:=h0;obtain rfl:=oI h0;exact bW aG 1 [(2,aL false)] (bK (aJ (aR (bH (aR (aR (bH (aR (Q_r hO)))))))))
   refine bG (bD [(0,eL aM l0),(3,eI i3)] (aO (aY aG 2 [] [(40,aL (decide (i3=0)))] (bI h1 (fun h1=>?_) (fun h1=>?_)))))
   ·exact dV 1 (aJ (aT (bN (aH (⟨rfl,aV,hO,h1⟩)))))
   obtain⟨g3,h1⟩:=aZ h1;obtain⟨g4,h1⟩:=aZ h1;obtain⟨c5,e5,h1⟩:=aW h1;obtain⟨g5,h1⟩:=aZ h1;obtain⟨g6,h1⟩:=aZ h1;refine bG (bD [(0,eL aM l0),(3,eI i3)] (aO (fF (fC [46,51,52]) aG 13 (cS 11 [0<=(wR (i3-1))/\(wR (i3-1))<(lN l0),0<=i3/\i3<(lN l0)] ⟨g3,g4,trivial⟩ (PZ (VR ((gD l0 (wR (i3-1))).Row) ((gD l0 i3).Row) _ e5) hO (fun H hO=>gT (bT [] [(4,eI c5)] (aO (fF (fC [64,69]) aG 20 (rI (K:=fun T H=>Has (lift T) [(0,eL aM l0),(3,eI i3),(72,aL ((decide (0<c5))||((decide (c5=0))&&(decide (((gD l0 i3).At)<=((gD l0 (wR (i3-1))).At))))))]/\aN ⟨H0,[],[]⟩ H []) ?_ ?_))))))))))
   ·refine jX 3 (pR (t:=55) (e:=decide (0<c5)) (by kernel_rfl) (fun b6=>?_) (fun b6=>?_))
    ·refine gT ?_;exact⟨⟨[(0,eL aM l0),(3,eI i3),(72,aL true)],by kernel_rfl,rfl,⟨sR,sR,dF.eq (congrArg aL (wU b6 rfl).symm),trivial⟩⟩,hO⟩
    refine jX 6 (pR (t:=58) (e:=decide (c5=0)) (by kernel_rfl) (fun b7=>?_) (fun b7=>?_))
    ·refine LL (Ds:=[0<=(wR (i3-1))/\(wR (i3-1))<(lN l0),0<=i3/\i3<(lN l0)]) (by kernel_rfl) ⟨g5 (pM b7 (zN b6)),g6 (pM b7 (zN b6)),trivial⟩ ?_;exact⟨⟨[(0,eL aM l0),(3,eI i3),(72,aL (decide (((gD l0 i3).At)<=((gD l0 (wR (i3-1))).At))))],by kernel_rfl,rfl,⟨sR,sR,dF.eq (congrArg aL (wU b6 (pM b7 rfl)).symm),trivial⟩⟩,hO⟩
    refine gT ?_;exact⟨⟨[(0,eL aM l0),(3,eI i3),(72,aL false)],by kernel_rfl,rfl,⟨sR,sR,dF.eq (congrArg aL (wU b6 (pM b7 rfl)).symm),trivial⟩⟩,hO⟩
   ·rintro T H ⟨hT,hO⟩;refine cV hT (aJ (aH (bI h1 (fun h1=>?_) (fun h1=>?_))))
    ·obtain rfl:=oI h1;obtain rfl:_=b8:=b9;replace h0:some false=some r:=h0;obtain rfl:=oI h0;exact bW aG 1 [(2,aL false)] (bK (aJ (bH (aR (aR (bH (aR (Q_r hO))))))))
    exact bG (aJ (aX (aH (⟨rfl,aV,hO,h1⟩))))
 obtain rfl:=oI h1;obtain rfl:_=b8:=b9;replace h0:FN l0=some r:=h0;exact dV 0 (aJ (aT (aT (bN (aH (⟨rfl,aV,hO,h0⟩))))))
theorem FV (l0:(List Int))(t1:Int)(r:(List Int))(h0:oH l0 t1=some r):cW Tryz.prog 88 [eL (eI) l0,eI t1] (eL (eI) r):=by
 intro H0;have hO:=aN.start H0;unfold oH at h0;refine cX Tryz.func88 (aY aG 1 [] [] (aO (aS aG 2 (mW [] 1 (bC (bT [] [(5,.sl true 0 (fun _=>.bad))] (aY aG 1 [] [(6,aL false)] (dH (fun T H=>∃ b5:List Int,∃ b6:Bool,∃ c7:Nat,Has T [(1,eI t1),(5,mL 1 c7 b5),(6,aL b6)]/\aN ⟨H0,[],[]⟩ H [(c7,1,List.map (eI) b5)]/\yH t1 b5 b6=some r) ?_ ?_))))))))
 ·rintro T H ⟨b5,b6,c7,hT,hO,h0⟩;unfold yH at h0;refine bB hT (dH (fun T H=>∃ b5:List Int,∃ b8:Nat,Has T [(5,mL 1 b8 b5)]/\aN ⟨H0,[],[]⟩ H [(b8,1,List.map (eI) b5)]/\yT b5=some r) ?_ ?_)
  ·rintro T H ⟨b5,b8,hT,hO,h0⟩;unfold yT at h0;obtain rfl:=oI h0;refine bB hT (bW aG 2 [(4,mL 1 b8 b5)] (bK (cN [(4,mL 1 b8 b5)] (nL (en:=(eI)) b5 0 0 4 1 b8 b5.length hO (by kernel_rfl) (by kernel_rfl) (by kernel_rfl) (L':=[]) (by kernel_rfl) ?_))));intro H3 hO;exact aJ (Q_r hO)
  refine aY aG 2 [6] [(44,aL (!b6))] (bI h0 (fun h0=>?_) (fun h0=>?_))
  ·obtain⟨c6,h0⟩:=aZ h0;exact aS aG 5 (bM 2 (mW [eI t1] 1 (wD (eI) b5 ([t1]) 0 c7 1 8 (dB [eI t1]) (fun c9=>[(c9,1,List.map (eI) (b5++([t1])))]) hO (by kernel_rfl) c6 (fun c9 H hO=>bC (aJ (aH (⟨rfl,_,_,aV,hO,h0⟩)))))))
  exact bG (aJ (aH (⟨rfl,_,_,aV,hO,h0⟩)))
 refine aY aG 1 [] [(7,eI 0)] (bS 0 (eA [(0,eL (eI) l0),(1,eI t1),(5,.sl true 0 (fun _=>.bad)),(6,aL false),(7,eI 0)] (vI (el:=(fun _=>.bad)) 2 5 1 hO (by kernel_rfl) ?_)));intro e5 g4 hO;refine dJ (fun T H=>∃ b5:List Int,∃ b6:Bool,∃ i7:Int,∃ b7:Nat,Has T [(0,eL (eI) l0),(1,eI t1),(5,mL 1 b7 b5),(6,aL b6),(7,eI i7)]/\aN ⟨H0,[],[]⟩ H [(b7,1,List.map (eI) b5)]/\LA l0 t1 b5 b6 i7=some r) ?_ ⟨([]:List Int),false,(0:Int),e5,aV,hO,h0⟩;rintro T H ⟨b5,b6,i7,b7,hT,hO,h0⟩;unfold LA at h0;obtain⟨e3,e6,h0⟩:=aW h0;refine bB hT (eE (fun (s:List Int×Bool×Int) T H=>∃ b7:Nat,Has T [(0,eL (eI) l0),(1,eI t1),(5,mL 1 b7 s.1),(6,aL s.2.1),(7,eI s.2.2)]/\aN ⟨H0,[],[]⟩ H [(b7,1,List.map (eI) s.1)]) e6 ⟨b7,aV,hO⟩ ?_);rintro k0 s c8 T H ⟨b7,hT,hO⟩ h1 e4;obtain⟨b5,b6,i7⟩:=s;replace h1:oG l0 t1 b5 b6 i7=some c8:=h1
 try dsimp only at hT
 unfold oG at h1;refine bB hT (aO (aY aG 4 [] [(12,aL (decide (i7<(lN l0))))] (bI h1 (fun h1=>?_) (fun h1=>?_))))
 ·obtain⟨e7,h1⟩:=aZ h1;refine bG (bD [(0,eL (eI) l0),(1,eI t1),(5,mL 1 b7 b5),(6,aL b6),(7,eI i7)] (aO (bS 1 (aO (aO (aS aG 6 (nI [0<=i7/\i7<(lN l0)] ⟨e7,trivial⟩ (bT [] [(20,aL (decide ((gD l0 i7)=t1)))] (bI h1 (fun h1=>?_) (fun h1=>?_))))))))))
  ·refine aO (aS aG 2 (bC (cN [(4,eL (eI) l0)] ?_)));replace hO:=hO.pick (L':=[]) [] (by decide) (by kernel_rfl);obtain rfl:=oI h1;obtain rfl:_=e3:=e4;replace h0:some l0=some r:=h0;obtain rfl:=oI h0;exact aJ (aH (bK (aJ (aR (bH (aR (aR (bH (aR (Q_r hO))))))))))
  refine bG (bD [(0,eL (eI) l0),(1,eI t1),(5,mL 1 b7 b5),(6,aL b6),(7,eI i7)] (dH (fun T H=>∃ b5:List Int,∃ b6:Bool,∃ b9:Nat,Has T [(0,eL (eI) l0),(1,eI t1),(5,mL 1 b9 b5),(6,aL b6),(7,eI i7)]/\aN ⟨H0,[],[]⟩ H [(b9,1,List.map (eI) b5)]/\DC l0 t1 b5 b6 i7=some c8) ?_ ?_))
  ·rintro T H ⟨b5,b6,b9,hT,hO,h1⟩;unfold DC at h1;obtain⟨e8,h1⟩:=aZ h1;obtain⟨e9,h1⟩:=aZ h1;exact bB hT (aS aG 8 (nM 5 [0<=i7/\i7<(lN l0)] ⟨e8,trivial⟩ (mW [eI (gD l0 i7)] 1 (wD (eI) b5 ([gD l0 i7]) 0 b9 1 8 (dB [eI (gD l0 i7)]) (fun c4=>[(c4,1,List.map (eI) (b5++([gD l0 i7])))]) hO (by kernel_rfl) e9 (fun c4 H hO=>bC (cN [(0,eL (eI) l0),(1,eI t1),(5,.msl 1 c4 0 (List.length (b5++([gD l0 i7])))),(6,aL b6),(7,eI i7)] (aJ (aX (aH (aS aG 3 (bC (aJ (aH (⟨rfl,_,(oI h1).symm,_,aV,hO⟩))))))))))))))
  obtain⟨g2,h1⟩:=aZ h1;refine aO (aS aG 10 (nI [0<=i7/\i7<(lN l0)] ⟨g2,trivial⟩ (bT [] [(31,aL ((decide (t1<(gD l0 i7)))&&(!b6)))] (bI h1 (fun h1=>?_) (fun h1=>?_)))))
  ·obtain⟨g3,h1⟩:=aZ h1;exact aO (aS aG 5 (bM 2 (mW [eI t1] 1 (wD (eI) b5 ([t1]) 0 b7 1 8 (dB [eI t1]) (fun c5=>[(c5,1,List.map (eI) (b5++([t1])))]) hO (by kernel_rfl) g3 (fun c5 H hO=>bC (bT [5,6,31] [(5,.msl 1 c5 0 (List.length (b5++([t1]))))] (aS aG 1 (bC (aJ (aH (⟨rfl,_,_,_,aV,hO,h1⟩)))))))))))
  exact bG (aJ (aH (⟨rfl,_,_,_,aV,hO,h1⟩)))
 obtain rfl:=oI h1;obtain rfl:_=e3:=e4;replace h0:yH t1 b5 b6=some r:=h0;exact dV 0 (aJ (aT (aT (bN (aH (⟨rfl,_,_,_,aV,hO,h0⟩))))))
theorem yI (f0:(List aB))(t1 r:Int)(h0:pK f0 t1=some r):cW Tryz.prog 86 [eL aE f0,eI t1] (eI r):=by
 intro H0;have hO:=aN.start H0;unfold pK at h0;refine cX Tryz.func86 (aY aG 1 [] [] (aY aG 1 [] [(5,eI 0)] (dH (fun T H=>∃ v5:Int,Has T [(5,eI v5)]/\aN ⟨H0,[],[]⟩ H []/\AV v5=some r) ?_ ?_)))
 ·rintro T H ⟨v5,hT,hO,h0⟩;unfold AV at h0;obtain rfl:=oI h0;exact bB hT (bW aG 2 [(4,eI v5)] (bK (aJ (Q_r hO))))
 refine aY aG 1 [] [(6,eI 0)] (bS 0 (eA [(0,eL aE f0),(1,eI t1),(5,eI 0),(6,eI 0)] (dJ (fun T H=>∃ v5 i6:Int,Has T [(0,eL aE f0),(1,eI t1),(5,eI v5),(6,eI i6)]/\aN ⟨H0,[],[]⟩ H []/\IJ f0 t1 v5 i6=some r) ?_ ⟨(0:Int),(0:Int),aV,hO,h0⟩)));rintro T H ⟨v5,i6,hT,hO,h0⟩;unfold IJ at h0;obtain⟨b6,b7,h0⟩:=aW h0;refine bB hT (eE (fun (s:Int×Int) T H=>Has T [(0,eL aE f0),(1,eI t1),(5,eI s.1),(6,eI s.2)]/\aN ⟨H0,[],[]⟩ H []) b7 ⟨aV,hO⟩ ?_);rintro k0 s b5 T H ⟨hT,hO⟩ h1 b8;obtain⟨v5,i6⟩:=s;replace h1:pP f0 t1 v5 i6=some b5:=h1
 try dsimp only at hT
 unfold pP at h1;refine bB hT (aO (aY aG 4 [] [(10,aL (decide (i6<(lN f0))))] (bI h1 (fun h1=>?_) (fun h1=>?_))))
 ·refine bG (bD [(0,eL aE f0),(1,eI t1),(5,eI v5),(6,eI i6)] (dH (fun T H=>∃ v5:Int,Has T [(0,eL aE f0),(1,eI t1),(5,eI v5),(6,eI i6)]/\aN ⟨H0,[],[]⟩ H []/\xE f0 t1 v5 i6=some b5) ?_ ?_))
  ·rintro T H ⟨v5,hT,hO,h1⟩;unfold xE at h1;exact bB hT (aS aG 3 (bC (aJ (aH (⟨rfl,_,(oI h1).symm,aV,hO⟩)))))
  obtain⟨c2,h1⟩:=aZ h1;refine bS 1 (aO (aS aG 7 (nI [0<=i6/\i6<(lN f0)] ⟨c2,trivial⟩ (bT [] [(19,aL (decide (((gD f0 i6).At)<=t1)))] (bI h1 (fun h1=>?_) (fun h1=>?_))))))
  ·obtain⟨c4,h1⟩:=aZ h1;exact aS aG 8 (nI [0<=i6/\i6<(lN f0)] ⟨c4,trivial⟩ (aJ (aX (aH (⟨rfl,_,aV,hO,h1⟩)))))
  exact bG (aJ (aX (aH (⟨rfl,_,aV,hO,h1⟩))))
 obtain rfl:=oI h1;obtain rfl:_=b6:=b8;replace h0:AV v5=some r:=h0;exact dV 0 (aJ (aT (aT (bN (aH (⟨rfl,_,aV,hO,h0⟩))))))
theorem UD (kD:(List Int))(gM:(List Int))(r:((List aB)×Int))(h0:xK kD gM=some r):cW Tryz.prog 89 [eL (eI) kD,eL (eI) gM] (.tup [eL aE r.1,eI r.2]):=by
 intro H0;have hO:=aN.start H0;unfold xK at h0;refine cX Tryz.func89 (aY aG 2 [] [] (aO (aS aG 2 (mW [] 2 (bC (bT [] [(6,.sl true 0 (fun _=>.bad))] (aY aG 1 [] [(7,eI 0)] (dH (fun T H=>∃ f6:List aB,∃ b7:Nat,Has T [(6,mL 2 b7 f6)]/\aN ⟨H0,[],[]⟩ H [(b7,2,f6.map aE)]/\DD f6=some r) ?_ ?_))))))))
 ·rintro T H ⟨f6,b7,hT,hO,h0⟩;unfold DD at h0;obtain⟨x2,c6,h0⟩:=aW h0;refine bB hT (aO (aO (aS aG 3 (BK (e:=aE) f6 0 6 2 b7 f6.length [] (by kernel_rfl) hO (by kernel_rfl) (by kernel_rfl) (by kernel_rfl) (by kernel_rfl) (fun H hO=>bM 1 (cU (zV f6 _ c6) hO (fun H hO=>bC (bD [(6,eL aE f6),(42,aL (!x2))] (bI h0 (fun h0=>?_) (fun h0=>?_))))))))))
  ·obtain rfl:=oI h0;exact bW aG 2 [(4,.sl true 0 (fun _=>.bad)),(5,eI 7)] (bK (cV (l:=[(4,eL aE ([])),(5,eI 7)]) ⟨[(4,.sl true 0 (fun _=>.bad)),(5,eI 7)],by kernel_rfl,rfl,⟨dN,sR,trivial⟩⟩ (aJ (aR (Q_r hO)))))
  obtain rfl:=oI h0;exact bG (bD [(6,eL aE f6)] (bW aG 3 [(4,eL aE f6),(5,eI 0)] (bK (aJ (Q_r hO)))))
 refine aY aG 1 [] [(8,eI 0)] (bS 0 (eA [(0,eL (eI) kD),(1,eL (eI) gM),(6,.sl true 0 (fun _=>.bad)),(7,eI 0),(8,eI 0)] (vI (el:=(fun _=>.bad)) 2 6 2 hO (by kernel_rfl) ?_)));intro c5 e8 hO;refine dJ (fun T H=>∃ f6:List aB,∃ b5 i8:Int,∃ b6:Nat,Has T [(0,eL (eI) kD),(1,eL (eI) gM),(6,mL 2 b6 f6),(7,eI b5),(8,eI i8)]/\aN ⟨H0,[],[]⟩ H [(b6,2,f6.map aE)]/\KW kD gM f6 b5 i8=some r) ?_ ⟨([]:List aB),(0:Int),(0:Int),c5,aV,hO,h0⟩;rintro T H ⟨f6,b5,i8,b6,hT,hO,h0⟩;unfold KW at h0;obtain⟨c7,c8,h0⟩:=aW h0;refine bB hT (eE (fun (s:List aB×Int×Int) T H=>∃ b6:Nat,Has T [(0,eL (eI) kD),(1,eL (eI) gM),(6,mL 2 b6 s.1),(7,eI s.2.1),(8,eI s.2.2)]/\aN ⟨H0,[],[]⟩ H [(b6,2,s.1.map aE)]) c8 ⟨b6,aV,hO⟩ ?_);rintro k0 s b9 T H ⟨b6,hT,hO⟩ h1 c9;obtain⟨f6,b5,i8⟩:=s;replace h1:tT kD gM f6 b5 i8=some b9:=h1
 try dsimp only at hT
 unfold tT at h1;refine bB hT (aO (aY aG 4 [] [(13,aL (decide (i8<(lN kD))))] (bI h1 (fun h1=>?_) (fun h1=>?_))))
 ·refine bG (bD [(0,eL (eI) kD),(1,eL (eI) gM),(6,mL 2 b6 f6),(7,eI b5),(8,eI i8)] (aO (bS 1 (dH (fun T H=>∃ f6:List aB,∃ b8:Nat,Has T [(0,eL (eI) kD),(1,eL (eI) gM),(6,mL 2 b8 f6),(8,eI i8)]/\aN ⟨H0,[],[]⟩ H [(b8,2,f6.map aE)]/\DI kD gM f6 i8=some b9) ?_ ?_))))
  ·rintro T H ⟨f6,b8,hT,hO,h1⟩;unfold DI at h1;obtain⟨e3,h1⟩:=aZ h1;exact bB hT (aS aG 5 (nI [0<=i8/\i8<(lN gM)] ⟨e3,trivial⟩ (cN [(0,eL (eI) kD),(1,eL (eI) gM),(6,mL 2 b8 f6),(7,eI (gD gM i8)),(8,eI i8)] (aJ (aX (aH (aS aG 3 (bC (aJ (aH (⟨rfl,_,(oI h1).symm,_,aV,hO⟩)))))))))))
  obtain⟨e4,h1⟩:=aZ h1;refine aO (aS aG 6 (nI [0<=i8/\i8<(lN gM)] ⟨e4,trivial⟩ (bT [] [(21,aL (!decide ((gD gM i8)=b5)))] (bI h1 (fun h1=>?_) (fun h1=>?_)))))
  ·obtain⟨e5,h1⟩:=aZ h1;obtain⟨e6,h1⟩:=aZ h1;obtain⟨e7,h1⟩:=aZ h1;exact fF (fC [26,30,34]) aG 15 (cS 12 [0<=i8/\i8<(lN kD),0<=i8/\i8<(lN gM)] ⟨e5,e6,trivial⟩ (OF (xs:=[aE (aB.mk (gD kD i8) (wR ((gD gM i8)-b5)))]) (k:=2) (by kernel_rfl) (by kernel_rfl) (MW (e:=aE) f6 ([aB.mk (gD kD i8) (wR ((gD gM i8)-b5))]) 0 b6 2 16 (dB [aE (aB.mk (gD kD i8) (wR ((gD gM i8)-b5)))]) (fun c4=>[(c4,2,List.map aE (f6++([aB.mk (gD kD i8) (wR ((gD gM i8)-b5))])))]) (by kernel_rfl) (by kernel_rfl) hO (by kernel_rfl) (by kernel_rfl) e7 (fun _=>by kernel_rfl) (fun c4 H hO=>gT (aJ (aH (⟨rfl,_,_,aV,hO,h1⟩)))))))
  exact bG (aJ (aH (⟨rfl,_,_,aV,hO,h1⟩)))
 obtain rfl:=oI h1;obtain rfl:_=c7:=c9;replace h0:DD f6=some r:=h0;exact dV 0 (aJ (aT (aT (bN (aH (⟨rfl,_,_,aV,hO,h0⟩))))))
theorem aFF (l0:(List aB))(r:((List aB)×Int))(h0:FU l0=some r):cW Tryz.prog 85 [eL aE l0] (.tup [eL aE r.1,eI r.2]):=by
 intro H0;have hO:=aN.start H0;unfold FU at h0;refine cX Tryz.func85 (aY aG 2 [] [] (dH (fun T H=>Has T [(0,eL aE l0)]/\aN ⟨H0,[],[]⟩ H []/\DA l0=some r) ?_ ?_))
 ·rintro T H ⟨hT,hO,h0⟩;unfold DA at h0;refine bB hT (aO (aS aG 2 (mW [] 1 (bC (bT [] [(5,.sl true 0 (fun _=>.bad))] (dH (fun T H=>∃ eB:(List Int),Has T [(0,eL aE l0),(5,eL (eI) eB)]/\aN ⟨H0,[],[]⟩ H []/\CY l0 eB=some r) ?_ ?_))))))
  ·rintro T H ⟨eB,hT,hO,h0⟩;unfold CY at h0;refine bB hT (aO (aS aG 2 (mW [] 1 (bC (bT [] [(7,.sl true 0 (fun _=>.bad))] (dH (fun T H=>∃ bZ:List Int,∃ c5:Nat,Has T [(5,eL (eI) eB),(7,mL 1 c5 bZ)]/\aN ⟨H0,[],[]⟩ H [(c5,1,List.map (eI) bZ)]/\CX eB bZ=some r) ?_ ?_))))))
   ·rintro T H ⟨bZ,c5,hT,hO,h0⟩;unfold CX at h0;obtain⟨x2,e3,h0⟩:=aW h0;obtain rfl:=oI h0;exact bB hT (aO (aS aG 7 (BK (e:=(eI)) bZ 0 7 1 c5 bZ.length [] (by kernel_rfl) hO (by kernel_rfl) (by kernel_rfl) (by kernel_rfl) (by kernel_rfl) (fun H hO=>bM 2 (cU (UD eB bZ _ e3) hO (fun H hO=>bC (bD [(2,eL aE x2.1),(3,eI x2.2)] (bK (aJ (Q_r hO))))))))))
   refine aY aG 1 [] [(8,eI 0)] (bS 4 (eA [(0,eL aE l0),(5,eL (eI) eB),(7,.sl true 0 (fun _=>.bad)),(8,eI 0)] (vI (el:=(fun _=>.bad)) 2 7 1 hO (by kernel_rfl) ?_)));intro c6 g3 hO;refine dJ (fun T H=>∃ bZ:List Int,∃ i8:Int,∃ b5:Nat,Has T [(0,eL aE l0),(5,eL (eI) eB),(7,mL 1 b5 bZ),(8,eI i8)]/\aN ⟨H0,[],[]⟩ H [(b5,1,List.map (eI) bZ)]/\KR l0 eB bZ i8=some r) ?_ ⟨([]:List Int),(0:Int),c6,aV,hO,h0⟩;rintro T H ⟨bZ,i8,b5,hT,hO,h0⟩;unfold KR at h0;obtain⟨b7,b9,h0⟩:=aW h0;refine bB hT (eE (fun (s:List Int×Int) T H=>∃ b5:Nat,Has T [(0,eL aE l0),(5,eL (eI) eB),(7,mL 1 b5 s.1),(8,eI s.2)]/\aN ⟨H0,[],[]⟩ H [(b5,1,List.map (eI) s.1)]) b9 ⟨b5,aV,hO⟩ ?_);rintro k0 s b6 T H ⟨b5,hT,hO⟩ h1 b8;obtain⟨bZ,i8⟩:=s;replace h1:tV l0 eB bZ i8=some b6:=h1
   try dsimp only at hT
   unfold tV at h1;refine bB hT (aO (aY aG 4 [] [(67,aL (decide (i8<(lN eB))))] (bI h1 (fun h1=>?_) (fun h1=>?_))))
   ·obtain⟨c8,h1⟩:=aZ h1;obtain⟨x9,c7,h1⟩:=aW h1;obtain⟨e4,h1⟩:=aZ h1;exact bG (bD [(0,eL aE l0),(5,eL (eI) eB),(7,mL 1 b5 bZ),(8,eI i8)] (aO (bS 5 (aS aG 10 (nM 6 [0<=i8/\i8<(lN eB)] ⟨c8,trivial⟩ (cU (yI l0 (gD eB i8) _ c7) hO (fun H hO=>mW [eI x9] 1 (wD (eI) bZ ([x9]) 0 b5 1 8 (dB [eI x9]) (fun c4=>[(c4,1,List.map (eI) (bZ++([x9])))]) hO (by kernel_rfl) e4 (fun c4 H hO=>bC (cN [(0,eL aE l0),(5,eL (eI) eB),(7,.msl 1 c4 0 (List.length (bZ++([x9])))),(8,eI i8)] (aJ (aX (aH (aS aG 3 (bC (aJ (aH (⟨rfl,_,(oI h1).symm,_,aV,hO⟩))))))))))))))))))
   obtain rfl:=oI h1;obtain rfl:_=b7:=b8;replace h0:CX eB bZ=some r:=h0;exact dV 4 (aJ (aT (aT (bN (aH (⟨rfl,_,_,aV,hO,h0⟩))))))
  refine aY aG 1 [] [(6,eI 0)] (bS 2 (bB (l:=[(0,eL aE l0),(5,eL (eI) ([])),(6,eI 0)]) ⟨[(0,eL aE l0),(5,.sl true 0 (fun _=>.bad)),(6,eI 0)],by kernel_rfl,rfl,⟨sR,dN,sR,trivial⟩⟩ (dJ (fun T H=>∃ eB:(List Int),∃ i6:Int,Has T [(0,eL aE l0),(5,eL (eI) eB),(6,eI i6)]/\aN ⟨H0,[],[]⟩ H []/\LK l0 eB i6=some r) ?_ ⟨[],(0:Int),aV,hO,h0⟩)));rintro T H ⟨eB,i6,hT,hO,h0⟩;unfold LK at h0;obtain⟨b7,b9,h0⟩:=aW h0;refine bB hT (eE (fun (s:(List Int)×Int) T H=>Has T [(0,eL aE l0),(5,eL (eI) s.1),(6,eI s.2)]/\aN ⟨H0,[],[]⟩ H []) b9 ⟨aV,hO⟩ ?_);rintro k0 s b6 T H ⟨hT,hO⟩ h1 b8;obtain⟨eB,i6⟩:=s;replace h1:pF l0 eB i6=some b6:=h1
  try dsimp only at hT
  unfold pF at h1;refine bB hT (aO (aY aG 4 [] [(33,aL (decide (i6<(lN l0))))] (bI h1 (fun h1=>?_) (fun h1=>?_))))
  ·refine bG (bD [(0,eL aE l0),(5,eL (eI) eB),(6,eI i6)] (dH (fun T H=>∃ eB:(List Int),Has T [(0,eL aE l0),(5,eL (eI) eB),(6,eI i6)]/\aN ⟨H0,[],[]⟩ H []/\CU l0 eB i6=some b6) ?_ ?_))
   ·rintro T H ⟨eB,hT,hO,h1⟩;unfold CU at h1;exact bB hT (aS aG 3 (bC (aJ (aH (⟨rfl,_,(oI h1).symm,aV,hO⟩)))))
   obtain⟨e5,h1⟩:=aZ h1;obtain⟨e6,h1⟩:=aZ h1;refine bS 3 (aO (aO (aS aG 14 (nI [0<=i6/\i6<(lN l0),(!(decide (((gD l0 i6).At)<(-1:Int))))=true->0<=i6/\i6<(lN l0)] ⟨e5,e6,trivial⟩ (bT [] [(49,aL ((decide (((gD l0 i6).At)<(-1:Int)))||(decide (1125899906842624<((gD l0 i6).At)))))] (bI h1 (fun h1=>?_) (fun h1=>?_)))))))
   ·obtain rfl:=oI h1;obtain rfl:_=b7:=b8;replace h0:some ([],(13:Int))=some r:=h0;obtain rfl:=oI h0;exact bW aG 2 [(2,.sl true 0 (fun _=>.bad)),(3,eI 13)] (bK (cV (l:=[(2,eL aE ([])),(3,eI 13)]) ⟨[(2,.sl true 0 (fun _=>.bad)),(3,eI 13)],by kernel_rfl,rfl,⟨dN,sR,trivial⟩⟩ (aJ (aR (bH (aR (aR (bH (aR (Q_r hO))))))))))
   obtain⟨e7,h1⟩:=aZ h1;refine bG (bD [(0,eL aE l0),(5,eL (eI) eB),(6,eI i6)] (aO (aS aG 6 (nI [0<=i6/\i6<(lN l0)] ⟨e7,trivial⟩ (bT [] [(55,aL (decide (((gD l0 i6).At)<1125899906842624)))] (bI h1 (fun h1=>?_) (fun h1=>?_)))))))
   ·obtain⟨e8,h1⟩:=aZ h1;obtain⟨g4,c9,h1⟩:=aW h1;exact aS aG 8 (nM 6 [0<=i6/\i6<(lN l0)] ⟨e8,trivial⟩ (cU (FV eB ((gD l0 i6).At) _ c9) hO (fun H hO=>bC (aJ (aX (aH (⟨rfl,_,aV,hO,h1⟩)))))))
   exact bG (aJ (aX (aH (⟨rfl,_,aV,hO,h1⟩))))
  obtain rfl:=oI h1;obtain rfl:_=b7:=b8;replace h0:CY l0 eB=some r:=h0;exact dV 2 (aJ (aT (aT (bN (aH (⟨rfl,_,aV,hO,h0⟩))))))
 refine aY aG 1 [] [(4,eI 0)] (bS 0 (eA [(0,eL aE l0),(4,eI 0)] (dJ (fun T H=>∃ i4:Int,Has T [(0,eL aE l0),(4,eI i4)]/\aN ⟨H0,[],[]⟩ H []/\LB l0 i4=some r) ?_ ⟨(0:Int),aV,hO,h0⟩)));rintro T H ⟨i4,hT,hO,h0⟩;unfold LB at h0;obtain⟨b7,b9,h0⟩:=aW h0;refine bB hT (eE (fun (s:Int) T H=>Has T [(0,eL aE l0),(4,eI s)]/\aN ⟨H0,[],[]⟩ H []) b9 ⟨aV,hO⟩ ?_);rintro k0 s b6 T H ⟨hT,hO⟩ h1 b8;obtain⟨i4,rfl⟩:∃ x,x=s:=⟨_,rfl⟩;replace h1:wC l0 i4=some b6:=h1;unfold wC at h1;refine bB hT (aO (aY aG 4 [] [(12,aL (decide (i4<(lN l0))))] (bI h1 (fun h1=>?_) (fun h1=>?_))))
 ·obtain⟨e9,h1⟩:=aZ h1;obtain⟨g2,h1⟩:=aZ h1;refine bG (bD [(0,eL aE l0),(4,eI i4)] (aO (bS 1 (aO (aS aG 14 (nI [0<=i4/\i4<(lN l0),(!(decide (1048576<((gD l0 i4).Net))))=true->0<=i4/\i4<(lN l0)] ⟨e9,g2,trivial⟩ (bT [] [(28,aL ((decide (1048576<((gD l0 i4).Net)))||(decide (((gD l0 i4).Net)<(-1048576:Int)))))] (bI h1 (fun h1=>?_) (fun h1=>?_)))))))))
  ·obtain rfl:=oI h1;obtain rfl:_=b7:=b8;replace h0:some ([],(2:Int))=some r:=h0;obtain rfl:=oI h0;exact bW aG 2 [(2,.sl true 0 (fun _=>.bad)),(3,eI 2)] (bK (cV (l:=[(2,eL aE ([])),(3,eI 2)]) ⟨[(2,.sl true 0 (fun _=>.bad)),(3,eI 2)],by kernel_rfl,rfl,⟨dN,sR,trivial⟩⟩ (aJ (bH (aR (aR (bH (aR (Q_r hO)))))))))
  exact bG (cN [(0,eL aE l0),(4,eI i4)] (aJ (aX (aH (aS aG 3 (bC (aJ (aH (⟨rfl,_,(oI h1).symm,aV,hO⟩)))))))))
 obtain rfl:=oI h1;obtain rfl:_=b7:=b8;replace h0:DA l0=some r:=h0;exact dV 0 (aJ (aT (aT (bN (aH (⟨rfl,aV,hO,h0⟩))))))
theorem aBC (b6:Nat)(l0:(List aK))(r1:(List aF))(f2:(List aB))(r:(List aK))(h0:DS l0 r1 f2=some r):aBn Tryz.prog 64 b6 3 (l0.map aM) [mL 3 b6 l0,eL aI r1,eL aE f2] (fun lo=>.msl 3 lo 0 r.length) (r.map aM):=by
 intro H0 b9;refine cX Tryz.func64 ?_;have hO:=aN.yZ b9;clear b9;unfold DS at h0;refine aY aG 1 [] [] (dH (fun T H=>∃ l0:List aK,∃ b7:Nat,Has T [(0,mL 3 b7 l0)]/\aN ⟨H0,[b6],[]⟩ H [(b7,3,l0.map aM)]/\OJ l0=some r) ?_ ?_)
 ·rintro T H ⟨l0,b7,hT,hO,h0⟩;unfold OJ at h0;obtain rfl:=oI h0;exact bB hT (bW aG 2 [(6,mL 3 b7 l0)] (bK (aJ (oO (x:=(mL 3 b7 l0)) (by kernel_rfl) (sR) ⟨b7,rfl,hO⟩))))
 refine aY aG 1 [] [(7,eI 0)] (bS 0 (eA [(0,mL 3 b6 l0),(1,eL aI r1),(2,eL aE f2),(7,eI 0)] (dJ (fun T H=>∃ l0:List aK,∃ i7:Int,∃ b5:Nat,Has T [(0,mL 3 b5 l0),(1,eL aI r1),(2,eL aE f2),(7,eI i7)]/\aN ⟨H0,[b6],[]⟩ H [(b5,3,l0.map aM)]/\NH l0 r1 f2 i7=some r) ?_ ⟨l0,(0:Int),b6,aV,hO,h0⟩)));rintro T H ⟨l0,i7,b5,hT,hO,h0⟩;unfold NH at h0;obtain⟨c5,b9,h0⟩:=aW h0;refine bB hT (eE (fun (s:List aK×Int) T H=>∃ b5:Nat,Has T [(0,mL 3 b5 s.1),(1,eL aI r1),(2,eL aE f2),(7,eI s.2)]/\aN ⟨H0,[b6],[]⟩ H [(b5,3,s.1.map aM)]) b9 ⟨b5,aV,hO⟩ ?_);rintro k0 s c4 T H ⟨b5,hT,hO⟩ h1 c6;obtain⟨l0,i7⟩:=s;replace h1:vM r1 f2 l0 i7=some c4:=h1
 try dsimp only at hT
 unfold vM at h1;refine bB hT (aO (aY aG 4 [] [(11,aL (decide (i7<(lN f2))))] (bI h1 (fun h1=>?_) (fun h1=>?_))))
 ·obtain⟨c7,h1⟩:=aZ h1;obtain⟨c8,h1⟩:=aZ h1;obtain⟨c9,h1⟩:=aZ h1;obtain⟨e3,h1⟩:=aZ h1;exact bG (bD [(0,mL 3 b5 l0),(1,eL aI r1),(2,eL aE f2),(7,eI i7)] (aO (bS 1 (fF (fC [22,27,29]) aG 18 (jX 1 (OF (xs:=[]) (k:=3) (by kernel_rfl) (by kernel_rfl) (jX 3 (aH6 (e:=aI) r1 (fun _=>.bad) 3 32 (eL aI r1) (by kernel_rfl) (by kernel_rfl) hO (AP (fun _=>by kernel_rfl)) c7 (fun H hO=>cS 15 [0<=i7/\i7<(lN f2),0<=i7/\i7<(lN f2)] ⟨c8,c9,trivial⟩ (OF (xs:=[aM (aK.mk r1 ((gD f2 i7).At) ((gD f2 i7).Net))]) (k:=3) (by kernel_rfl) (by kernel_rfl) (MW (e:=aM) l0 ([aK.mk r1 ((gD f2 i7).At) ((gD f2 i7).Net)]) 0 b5 3 40 (dB [aM (aK.mk r1 ((gD f2 i7).At) ((gD f2 i7).Net))]) (fun b8=>[(b8,3,List.map aM (l0++([aK.mk r1 ((gD f2 i7).At) ((gD f2 i7).Net)])))]) (by kernel_rfl) (by kernel_rfl) hO (by kernel_rfl) (by kernel_rfl) e3 (fun _=>by kernel_rfl) (fun b8 H hO=>gT (cN [(0,.msl 3 b8 0 (List.length (l0++([aK.mk r1 ((gD f2 i7).At) ((gD f2 i7).Net)])))),(1,eL aI r1),(2,eL aE f2),(7,eI i7)] (aJ (aX (aH (aS aG 3 (bC (aJ (aH (⟨rfl,_,(oI h1).symm,_,aV,hO⟩)))))))))))))))))))))
 obtain rfl:=oI h1;obtain rfl:_=c5:=c6;replace h0:OJ l0=some r:=h0;exact dV 0 (aJ (aT (aT (bN (aH (⟨rfl,_,_,aV,hO,h0⟩))))))
theorem aFz (l0:(List aK))(r:((List aK)×Int))(h0:GR l0=some r):cW Tryz.prog 58 [eL aM l0] (.tup [eL aM r.1,eI r.2]):=by
 intro H0;have hO:=aN.start H0;unfold GR at h0;refine cX Tryz.func58 (aY aG 2 [] [] (dH (fun T H=>Has T [(0,eL aM l0)]/\aN ⟨H0,[],[]⟩ H []/\CZ l0=some r) ?_ ?_))
 ·rintro T H ⟨hT,hO,h0⟩;unfold CZ at h0;refine bB hT (dH (fun T H=>Has T [(0,eL aM l0)]/\aN ⟨H0,[],[]⟩ H []/\CV l0=some r) ?_ ?_)
  ·rintro T H ⟨hT,hO,h0⟩;unfold CV at h0;obtain⟨x1,e8,h0⟩:=aW h0;refine bB hT (aO (aS aG 2 (mW [] 3 (bC (bT [] [(6,.sl true 0 (fun _=>.bad))] (aO (aS aG 3 (bM 1 (cU (FX l0 _ e8) hO (fun H hO=>bC (bT [] [(7,eL (eL aI) x1)] (dH (fun T H=>∃ b5:List aK,∃ c4:Nat,Has T [(6,mL 3 c4 b5)]/\aN ⟨H0,[],[]⟩ H [(c4,3,b5.map aM)]/\yJ b5=some r) ?_ ?_))))))))))))
   ·rintro T H ⟨b5,c4,hT,hO,h0⟩;unfold yJ at h0;refine bB hT (aO (aY aG 3 [] [(91,aL (decide (4096<(lN b5))))] (bI h0 (fun h0=>?_) (fun h0=>?_))))
    ·refine aO (aS aG 2 (bC (cN [(2,.sl true 0 (fun _=>.bad)),(3,eI 7)] ?_)));replace hO:=hO.pick (L':=[]) [] (by decide) (by kernel_rfl);obtain rfl:=oI h0;exact aJ (aH (bK (cV (l:=[(2,eL aM ([])),(3,eI 7)]) ⟨[(2,.sl true 0 (fun _=>.bad)),(3,eI 7)],by kernel_rfl,rfl,⟨dN,sR,trivial⟩⟩ (aJ (aR (Q_r hO))))))
    obtain rfl:=oI h0;refine bG (bD [(6,mL 3 c4 b5)] (bW aG 3 [(2,mL 3 c4 b5),(3,eI 0)] (bK (cN [(2,mL 3 c4 b5),(3,eI 0)] (nL (en:=aM) b5 0 0 2 3 c4 b5.length hO (by kernel_rfl) (by kernel_rfl) (by kernel_rfl) (L':=[]) (by kernel_rfl) ?_)))));intro H6 hO;exact aJ (Q_r hO)
   refine aY aG 1 [] [(8,eI 0)] (bS 4 (eA [(0,eL aM l0),(6,.sl true 0 (fun _=>.bad)),(7,eL (eL aI) x1),(8,eI 0)] (vI (el:=(fun _=>.bad)) 1 6 3 hO (by kernel_rfl) ?_)));intro e3 g9 hO;refine dJ (fun T H=>∃ b5:List aK,∃ uD:(List (List aF)),∃ i8:Int,∃ b6:Nat,Has T [(0,eL aM l0),(6,mL 3 b6 b5),(7,eL (eL aI) uD),(8,eI i8)]/\aN ⟨H0,[],[]⟩ H [(b6,3,b5.map aM)]/\KZ l0 b5 uD i8=some r) ?_ ⟨([]:List aK),x1,(0:Int),e3,aV,hO,h0⟩;rintro T H ⟨b5,uD,i8,b6,hT,hO,h0⟩;unfold KZ at h0;obtain⟨b8,c7,h0⟩:=aW h0;refine bB hT (eE (fun (s:List aK×Int) T H=>∃ b6:Nat,Has T [(0,eL aM l0),(6,mL 3 b6 s.1),(7,eL (eL aI) uD),(8,eI s.2)]/\aN ⟨H0,[],[]⟩ H [(b6,3,s.1.map aM)]) c7 ⟨b6,aV,hO⟩ ?_);rintro k0 s c5 T H ⟨b6,hT,hO⟩ h1 b9;obtain⟨b5,i8⟩:=s;replace h1:uA l0 uD b5 i8=some c5:=h1
   try dsimp only at hT
   unfold uA at h1;refine bB hT (aO (aY aG 4 [] [(66,aL (decide (i8<(lN uD))))] (bI h1 (fun h1=>?_) (fun h1=>?_))))
   ·obtain⟨e9,h1⟩:=aZ h1;obtain⟨g2,e4,h1⟩:=aW h1;obtain⟨b7,e5,h1⟩:=aW h1;refine bG (bD [(0,eL aM l0),(6,mL 3 b6 b5),(7,eL (eL aI) uD),(8,eI i8)] (aO (bS 5 (aO (aS aG 12 (nM 5 [0<=i8/\i8<(lN uD)] ⟨e9,trivial⟩ (cU (yG l0 (gD uD i8) _ e4) hO (fun H hO=>cU (aFF g2 _ e5) hO (fun H hO=>bC (bT [] [(9,eL aE b7.1),(10,eI b7.2)] (aO (aY aG 2 [] [(80,aL (!decide (b7.2=0)))] (bI h1 (fun h1=>?_) (fun h1=>?_))))))))))))))
    ·refine aO (aS aG 3 (bC (cN [(2,.sl true 0 (fun _=>.bad)),(3,eI b7.2)] ?_)));replace hO:=hO.pick (L':=[]) [] (by decide) (by kernel_rfl);obtain rfl:=oI h1;obtain rfl:_=b8:=b9;replace h0:some ([],b7.2)=some r:=h0;obtain rfl:=oI h0;exact aJ (aH (bK (cV (l:=[(2,eL aM ([])),(3,eI b7.2)]) ⟨[(2,.sl true 0 (fun _=>.bad)),(3,eI b7.2)],by kernel_rfl,rfl,⟨dN,sR,trivial⟩⟩ (aJ (aR (bH (aR (aR (bH (aR (Q_r hO)))))))))))
    obtain⟨g3,h1⟩:=aZ h1;obtain⟨c8,e6,h1⟩:=aW h1;exact bG (bD [(0,eL aM l0),(6,mL 3 b6 b5),(7,eL (eL aI) uD),(8,eI i8),(9,eL aE b7.1)] (aS aG 8 (nM 6 [0<=i8/\i8<(lN uD)] ⟨g3,trivial⟩ (aIj (L':=fun c6=>[(c6,3,c8.map aM)]) 0 b6 3 (b5.map aM) (c8.map aM) 64 [mL 3 b6 b5,eL aI (gD uD i8),eL aE b7.1] (fun c6=>(mL 3 c6 c8)) (by kernel_rfl) (by kernel_rfl) (aBC b6 b5 (gD uD i8) b7.1 _ e6) hO (by kernel_rfl) (fun _=>by kernel_rfl) (fun c6 H hO=>bC (cN [(0,eL aM l0),(6,mL 3 c6 c8),(7,eL (eL aI) uD),(8,eI i8)] (aJ (aX (aH (aS aG 3 (bC (aJ (aH (⟨rfl,_,(oI h1).symm,_,aV,hO⟩))))))))))))))
   obtain rfl:=oI h1;obtain rfl:_=b8:=b9;replace h0:yJ b5=some r:=h0;exact dV 4 (aJ (aT (aT (bN (aH (⟨rfl,_,_,aV,hO,h0⟩))))))
  refine aY aG 1 [] [(5,eI 0)] (bS 2 (eA [(0,eL aM l0),(5,eI 0)] (dJ (fun T H=>∃ i5:Int,Has T [(0,eL aM l0),(5,eI i5)]/\aN ⟨H0,[],[]⟩ H []/\KO l0 i5=some r) ?_ ⟨(0:Int),aV,hO,h0⟩)));rintro T H ⟨i5,hT,hO,h0⟩;unfold KO at h0;obtain⟨b8,c7,h0⟩:=aW h0;refine bB hT (eE (fun (s:Int) T H=>Has T [(0,eL aM l0),(5,eI s)]/\aN ⟨H0,[],[]⟩ H []) c7 ⟨aV,hO⟩ ?_);rintro k0 s c5 T H ⟨hT,hO⟩ h1 b9;obtain⟨i5,rfl⟩:∃ x,x=s:=⟨_,rfl⟩;replace h1:vZ l0 i5=some c5:=h1;unfold vZ at h1;refine bB hT (aO (aY aG 4 [] [(43,aL (decide (i5<(lN l0))))] (bI h1 (fun h1=>?_) (fun h1=>?_))))
  ·obtain⟨g4,h1⟩:=aZ h1;obtain⟨g5,h1⟩:=aZ h1;refine bG (bD [(0,eL aM l0),(5,eI i5)] (aO (bS 3 (aO (aS aG 14 (nI [0<=i5/\i5<(lN l0),(!(decide (((gD l0 i5).At)<(-1:Int))))=true->0<=i5/\i5<(lN l0)] ⟨g4,g5,trivial⟩ (bT [] [(59,aL ((decide (((gD l0 i5).At)<(-1:Int)))||(decide (1125899906842624<((gD l0 i5).At)))))] (bI h1 (fun h1=>?_) (fun h1=>?_)))))))))
   ·obtain rfl:=oI h1;obtain rfl:_=b8:=b9;replace h0:some ([],(13:Int))=some r:=h0;obtain rfl:=oI h0;exact bW aG 2 [(2,.sl true 0 (fun _=>.bad)),(3,eI 13)] (bK (cV (l:=[(2,eL aM ([])),(3,eI 13)]) ⟨[(2,.sl true 0 (fun _=>.bad)),(3,eI 13)],by kernel_rfl,rfl,⟨dN,sR,trivial⟩⟩ (aJ (bH (aR (aR (bH (aR (Q_r hO)))))))))
   exact bG (cN [(0,eL aM l0),(5,eI i5)] (aJ (aX (aH (aS aG 3 (bC (aJ (aH (⟨rfl,_,(oI h1).symm,aV,hO⟩)))))))))
  obtain rfl:=oI h1;obtain rfl:_=b8:=b9;replace h0:CV l0=some r:=h0;exact dV 2 (aJ (aT (aT (bN (aH (⟨rfl,aV,hO,h0⟩))))))
 refine aY aG 1 [] [(4,eI 0)] (bS 0 (eA [(0,eL aM l0),(4,eI 0)] (dJ (fun T H=>∃ i4:Int,Has T [(0,eL aM l0),(4,eI i4)]/\aN ⟨H0,[],[]⟩ H []/\LD l0 i4=some r) ?_ ⟨(0:Int),aV,hO,h0⟩)));rintro T H ⟨i4,hT,hO,h0⟩;unfold LD at h0;obtain⟨b8,c7,h0⟩:=aW h0;refine bB hT (eE (fun (s:Int) T H=>Has T [(0,eL aM l0),(4,eI s)]/\aN ⟨H0,[],[]⟩ H []) c7 ⟨aV,hO⟩ ?_);rintro k0 s c5 T H ⟨hT,hO⟩ h1 b9;obtain⟨i4,rfl⟩:∃ x,x=s:=⟨_,rfl⟩;replace h1:wA l0 i4=some c5:=h1;unfold wA at h1;refine bB hT (aO (aY aG 4 [] [(14,aL (decide (i4<(lN l0))))] (bI h1 (fun h1=>?_) (fun h1=>?_))))
 ·obtain⟨g6,h1⟩:=aZ h1;obtain⟨c9,e7,h1⟩:=aW h1;obtain⟨g7,h1⟩:=aZ h1;obtain⟨g8,h1⟩:=aZ h1;refine bG (bD [(0,eL aM l0),(4,eI i4)] (aO (bS 1 (aO (aS aG 23 (nM 5 [0<=i4/\i4<(lN l0)] ⟨g6,trivial⟩ (cU (JW ((gD l0 i4).Row) _ e7) hO (fun H hO=>nI [(!(!c9))=true->0<=i4/\i4<(lN l0),(!((!c9)||(decide (1048576<((gD l0 i4).Net)))))=true->0<=i4/\i4<(lN l0)] ⟨g7,g8,trivial⟩ (bT [] [(39,aL (((!c9)||(decide (1048576<((gD l0 i4).Net))))||(decide (((gD l0 i4).Net)<(-1048576:Int)))))] (bI h1 (fun h1=>?_) (fun h1=>?_)))))))))))
  ·obtain rfl:=oI h1;obtain rfl:_=b8:=b9;replace h0:some ([],(2:Int))=some r:=h0;obtain rfl:=oI h0;exact bW aG 2 [(2,.sl true 0 (fun _=>.bad)),(3,eI 2)] (bK (cV (l:=[(2,eL aM ([])),(3,eI 2)]) ⟨[(2,.sl true 0 (fun _=>.bad)),(3,eI 2)],by kernel_rfl,rfl,⟨dN,sR,trivial⟩⟩ (aJ (bH (aR (aR (bH (aR (Q_r hO)))))))))
  exact bG (cN [(0,eL aM l0),(4,eI i4)] (aJ (aX (aH (aS aG 3 (bC (aJ (aH (⟨rfl,_,(oI h1).symm,aV,hO⟩)))))))))
 obtain rfl:=oI h1;obtain rfl:_=b8:=b9;replace h0:CZ l0=some r:=h0;exact dV 0 (aJ (aT (aT (bN (aH (⟨rfl,aV,hO,h0⟩))))))
theorem aHT (a0:(List aK))(b1:(List aK))(r:((List aK)×Int))(h0:JP a0 b1=some r):cW Tryz.prog 33 [eL aM a0,eL aM b1] (.tup [eL aM r.1,eI r.2]):=by
 intro H0;have hO:=aN.start H0;unfold JP at h0;obtain⟨x1,b9,h0⟩:=aW h0;obtain⟨x4,c4,h0⟩:=aW h0;refine cX Tryz.func33 (aY aG 2 [] [] (aO (aO (aS aG 8 (bM 1 (cU (DW a0 _ b9) hO (fun H hO=>bM 5 (rY [(9,false)] 32 [eL aM b1] (aL x4) (!(!x1)) (by kernel_rfl) (by kernel_rfl) (by kernel_rfl) (fun c5=>(DW b1 _ (kW c4 c5))) hO (fun H hO=>bC (bT [] [(13,aL ((!x1)||(!x4)))] (bI h0 (fun h0=>?_) (fun h0=>?_))))))))))))
 ·obtain rfl:=oI h0;exact bW aG 2 [(4,.sl true 0 (fun _=>.bad)),(5,eI 2)] (bK (cV (l:=[(4,eL aM ([])),(5,eI 2)]) ⟨[(4,.sl true 0 (fun _=>.bad)),(5,eI 2)],by kernel_rfl,rfl,⟨dN,sR,trivial⟩⟩ (aJ (aR (Q_r hO)))))
 obtain⟨c6,h0⟩:=aZ h0;obtain⟨c7,h0⟩:=aZ h0;obtain⟨b7,b8,h0⟩:=aW h0;obtain rfl:=oI h0;exact bG (bD [(0,eL aM a0),(1,eL aM b1)] (aO (aS aG 10 (mW [] 3 (bM 2 (aBq (e:=aM) a0 (fun _=>.bad) 3 40 (eL aM a0) (fun b5=>[(b5,3,a0.map aM)]) (by kernel_rfl) (by kernel_rfl) hO (AP (fun _=>by kernel_rfl)) c6 (fun _=>by kernel_rfl) (fun b5 H hO=>bM 4 (wD aM a0 b1 0 b5 3 40 (eL aM b1) (fun b6=>[(b6,3,List.map aM (a0++b1))]) hO (AP (fun _=>by kernel_rfl)) c7 (fun b6 H hO=>BK (e:=aM) (a0++b1) 0 18 3 b6 (List.length (a0++b1)) [] (by kernel_rfl) hO (by kernel_rfl) (by kernel_rfl) (by kernel_rfl) (by kernel_rfl) (fun H hO=>cU (aFz (a0++b1) _ b8) hO (fun H hO=>bC (bD [(4,eL aM b7.1),(5,eI b7.2)] (bK (aJ (Q_r hO)))))))))))))))
theorem ZW (f0:(List aB))(r:Int)(h0:yF f0=some r):cW Tryz.prog 59 [eL aE f0] (eI r):=by
 intro H0;have hO:=aN.start H0;unfold yF at h0;obtain⟨x1,b8,h0⟩:=aW h0;refine cX Tryz.func59 (aY aG 1 [] [] (aO (aO (aS aG 3 (bM 1 (cU (zV f0 _ b8) hO (fun H hO=>bC (bT [] [(7,aL (!x1))] (bI h0 (fun h0=>?_) (fun h0=>?_))))))))))
 ·obtain rfl:=oI h0;exact bW aG 1 [(2,eI 0)] (bK (aJ (aR (Q_r hO))))
 obtain⟨x5,b9,h0⟩:=aW h0;refine bG (bD [(0,eL aE f0)] (aO (aS aG 3 (bM 1 (cU (yI f0 (-1:Int) _ b9) hO (fun H hO=>bC (bT [] [(3,eI x5)] (dH (fun T H=>∃ m3:Int,Has T [(3,eI m3)]/\aN ⟨H0,[],[]⟩ H []/\AI m3=some r) ?_ ?_))))))))
 ·rintro T H ⟨m3,hT,hO,h0⟩;unfold AI at h0;obtain rfl:=oI h0;exact bB hT (bW aG 2 [(2,eI m3)] (bK (aJ (Q_r hO))))
 refine aY aG 1 [] [(4,eI 0)] (bS 0 (eA [(0,eL aE f0),(3,eI x5),(4,eI 0)] (dJ (fun T H=>∃ m3 i4:Int,Has T [(0,eL aE f0),(3,eI m3),(4,eI i4)]/\aN ⟨H0,[],[]⟩ H []/\HM f0 m3 i4=some r) ?_ ⟨x5,(0:Int),aV,hO,h0⟩)));rintro T H ⟨m3,i4,hT,hO,h0⟩;unfold HM at h0;obtain⟨c4,c5,h0⟩:=aW h0;refine bB hT (eE (fun (s:Int×Int) T H=>Has T [(0,eL aE f0),(3,eI s.1),(4,eI s.2)]/\aN ⟨H0,[],[]⟩ H []) c5 ⟨aV,hO⟩ ?_);rintro k0 s b5 T H ⟨hT,hO⟩ h1 c6;obtain⟨m3,i4⟩:=s;replace h1:tB f0 m3 i4=some b5:=h1
 try dsimp only at hT
 unfold tB at h1;refine bB hT (aO (aY aG 4 [] [(13,aL (decide (i4<(lN f0))))] (bI h1 (fun h1=>?_) (fun h1=>?_))))
 ·refine bG (bD [(0,eL aE f0),(3,eI m3),(4,eI i4)] (dH (fun T H=>∃ m3:Int,Has T [(0,eL aE f0),(3,eI m3),(4,eI i4)]/\aN ⟨H0,[],[]⟩ H []/\BC f0 m3 i4=some b5) ?_ ?_))
  ·rintro T H ⟨m3,hT,hO,h1⟩;unfold BC at h1;exact bB hT (aS aG 3 (bC (aJ (aH (⟨rfl,_,(oI h1).symm,aV,hO⟩)))))
  obtain⟨c9,h1⟩:=aZ h1;obtain⟨c7,b6,h1⟩:=aW h1;refine bS 1 (aO (aS aG 9 (nM 6 [0<=i4/\i4<(lN f0)] ⟨c9,trivial⟩ (cU (yI f0 ((gD f0 i4).At) _ b6) hO (fun H hO=>bC (bT [] [(24,aL (decide (c7<m3)))] (bI h1 (fun h1=>?_) (fun h1=>?_))))))))
  ·obtain⟨c8,h1⟩:=aZ h1;obtain⟨e3,b7,h1⟩:=aW h1;exact aS aG 8 (nM 6 [0<=i4/\i4<(lN f0)] ⟨c8,trivial⟩ (cU (yI f0 ((gD f0 i4).At) _ b7) hO (fun H hO=>bC (aJ (aX (aH (⟨rfl,_,aV,hO,h1⟩)))))))
  exact bG (aJ (aX (aH (⟨rfl,_,aV,hO,h1⟩))))
 obtain rfl:=oI h1;obtain rfl:_=c4:=c6;replace h0:AI m3=some r:=h0;exact dV 0 (aJ (aT (aT (bN (aH (⟨rfl,_,aV,hO,h0⟩))))))
theorem ZZ (l0:(List aK))(r:Bool)(h0:yK l0=some r):cW Tryz.prog 34 [eL aM l0] (aL r):=by
 intro H0;have hO:=aN.start H0;unfold yK at h0;obtain⟨x1,c4,h0⟩:=aW h0;refine cX Tryz.func34 (aY aG 1 [] [] (aO (aO (aS aG 3 (bM 1 (cU (DW l0 _ c4) hO (fun H hO=>bC (bT [] [(7,aL (!x1))] (bI h0 (fun h0=>?_) (fun h0=>?_))))))))))
 ·obtain rfl:=oI h0;exact bW aG 1 [(2,aL false)] (bK (aJ (aR (Q_r hO))))
 obtain⟨x5,c5,h0⟩:=aW h0;refine bG (bD [(0,eL aM l0)] (aO (aS aG 3 (bM 1 (cU (FX l0 _ c5) hO (fun H hO=>bC (bT [] [(3,eL (eL aI) x5)] (dH (fun T H=>Has T []/\aN ⟨H0,[],[]⟩ H []/\HX  = some r) ?_ ?_))))))))
 ·rintro T H ⟨hT,hO,h0⟩;unfold HX at h0;obtain rfl:=oI h0;exact bB hT (bW aG 1 [(2,aL true)] (bK (aJ (Q_r hO))))
 refine aY aG 1 [] [(4,eI 0)] (bS 0 (eA [(0,eL aM l0),(3,eL (eL aI) x5),(4,eI 0)] (dJ (fun T H=>∃ cC:(List (List aF)),∃ i4:Int,Has T [(0,eL aM l0),(3,eL (eL aI) cC),(4,eI i4)]/\aN ⟨H0,[],[]⟩ H []/\HS l0 cC i4=some r) ?_ ⟨x5,(0:Int),aV,hO,h0⟩)));rintro T H ⟨cC,i4,hT,hO,h0⟩;unfold HS at h0;obtain⟨b5,c6,h0⟩:=aW h0;refine bB hT (eE (fun (s:Int) T H=>Has T [(0,eL aM l0),(3,eL (eL aI) cC),(4,eI s)]/\aN ⟨H0,[],[]⟩ H []) c6 ⟨aV,hO⟩ ?_);rintro k0 s b7 T H ⟨hT,hO⟩ h1 b6;obtain⟨i4,rfl⟩:∃ x,x=s:=⟨_,rfl⟩;replace h1:uP l0 cC i4=some b7:=h1;unfold uP at h1;refine bB hT (aO (aY aG 4 [] [(13,aL (decide (i4<(lN cC))))] (bI h1 (fun h1=>?_) (fun h1=>?_))))
 ·obtain⟨c9,h1⟩:=aZ h1;obtain⟨c7,b8,h1⟩:=aW h1;obtain⟨c8,b9,h1⟩:=aW h1;refine bG (bD [(0,eL aM l0),(3,eL (eL aI) cC),(4,eI i4)] (aO (bS 1 (aO (aS aG 8 (nM 5 [0<=i4/\i4<(lN cC)] ⟨c9,trivial⟩ (cU (yG l0 (gD cC i4) _ b8) hO (fun H hO=>cU (ZW c7 _ b9) hO (fun H hO=>bC (bT [] [(23,aL (decide (c8<0)))] (bI h1 (fun h1=>?_) (fun h1=>?_))))))))))))
  ·obtain rfl:=oI h1;obtain rfl:_=b5:=b6;replace h0:some false=some r:=h0;obtain rfl:=oI h0;exact bW aG 1 [(2,aL false)] (bK (aJ (bH (aR (aR (bH (aR (Q_r hO))))))))
  exact bG (cN [(0,eL aM l0),(3,eL (eL aI) cC),(4,eI i4)] (aJ (aX (aH (aS aG 3 (bC (aJ (aH (⟨rfl,_,(oI h1).symm,aV,hO⟩)))))))))
 obtain rfl:=oI h1;obtain rfl:_=b5:=b6;replace h0:HX  = some r:=h0;exact dV 0 (aJ (aT (aT (bN (aH (⟨rfl,aV,hO,h0⟩))))))
theorem aCC (b5:Nat)(b0:cJ)(l1:(List aK))(r:(Int×cJ))(h0:vS b0 l1=some r):BX Tryz.prog 9 [.lp b5 0 0,eL aM l1] [(b5,2,[bV b0])] (fun x L=>x=(eI r.1)/\L=[(b5,2,[bV r.2])]):=by
 intro F H0 hO;obtain⟨Fh,Fe,Fg⟩:=F;unfold vS at h0;obtain⟨x1,c4,h0⟩:=aW h0;refine cX Tryz.func9 (aY aG 1 [] [] (aO (aO (aS aG 3 (bM 1 (cU (DW l1 _ c4) hO (fun H hO=>bC (bT [] [(10,aL (!x1))] (bI h0 (fun h0=>?_) (fun h0=>?_))))))))))
 ·obtain rfl:=oI h0;exact bW aG 1 [(0,.lp b5 0 0),(4,eI 2)] (bK (aJ (aR (EE hO ⟨rfl,rfl⟩))))
 refine bG (bD [(0,.lp b5 0 0),(1,eL aM l1)] (dH (fun T H=>∃ b0:cJ,Has T [(0,.lp b5 0 0),(1,eL aM l1)]/\aN ⟨Fh,Fe,Fg⟩ H [(b5,2,[bV b0])]/\xS b0 l1=some r) ?_ ?_))
 ·rintro T H ⟨b0,hT,hO,h0⟩;unfold xS at h0;obtain⟨x5,c5,h0⟩:=aW h0;refine bB hT (aO (aS aG 11 (bM 3 (gW 0 b5 2 0 (bV b0) (eL aM b0.Table) [bV b0] hO rfl (bM 5 (cU (aHT b0.Table l1 _ c5) hO (fun H hO=>bC (bT [1] [(6,eL aM x5.1),(7,eI x5.2)] (aO (aY aG 2 [] [(37,aL (!decide (x5.2=0)))] (bI h0 (fun h0=>?_) (fun h0=>?_))))))))))))
  ·obtain rfl:=oI h0;exact bW aG 2 [(0,.lp b5 0 0),(4,eI x5.2)] (bK (aJ (aR (EE hO ⟨rfl,rfl⟩))))
  obtain⟨x9,b8,h0⟩:=aW h0;refine bG (bD [(0,.lp b5 0 0),(6,eL aM x5.1)] (aO (aO (aS aG 3 (bM 1 (cU (ZZ x5.1 _ b8) hO (fun H hO=>bC (bT [] [(41,aL (!x9))] (bI h0 (fun h0=>?_) (fun h0=>?_))))))))))
  ·obtain rfl:=oI h0;exact bW aG 1 [(0,.lp b5 0 0),(4,eI 20)] (bK (aJ (aR (EE hO ⟨rfl,rfl⟩))))
  obtain rfl:=oI h0;exact bG (bD [(0,.lp b5 0 0),(6,eL aM x5.1)] (aO (aS aG 5 (bM 4 (mK 0 b5 2 0 (bV b0) (bV (cJ.mk x5.1 b0.Mark)) [bV b0] [(b5,2,[bV (cJ.mk x5.1 b0.Mark)])] hO rfl (by kernel_rfl) (fun H hO=>eC (bD [(0,.lp b5 0 0)] (aY aG 1 [] [(4,eI 0)] (bK (aJ (EE hO ⟨rfl,rfl⟩)))))))))))
 refine aY aG 1 [] [(5,eI 0)] (bS 0 (eA [(0,.lp b5 0 0),(1,eL aM l1),(5,eI 0)] (dJ (fun T H=>∃ b0:cJ,∃ i5:Int,Has T [(0,.lp b5 0 0),(1,eL aM l1),(5,eI i5)]/\aN ⟨Fh,Fe,Fg⟩ H [(b5,2,[bV b0])]/\CB b0 l1 i5=some r) ?_ ⟨b0,(0:Int),aV,hO,h0⟩)));rintro T H ⟨b0,i5,hT,hO,h0⟩;unfold CB at h0;obtain⟨b6,c6,h0⟩:=aW h0;refine bB hT (eE (fun (s:cJ×Int) T H=>Has T [(0,.lp b5 0 0),(1,eL aM l1),(5,eI s.2)]/\aN ⟨Fh,Fe,Fg⟩ H [(b5,2,[bV s.1])]) c6 ⟨aV,hO⟩ ?_);rintro k0 s b9 T H ⟨hT,hO⟩ h1 b7;obtain⟨b0,i5⟩:=s;replace h1:uO l1 b0 i5=some b9:=h1
 try dsimp only at hT
 unfold uO at h1;refine bB hT (aO (aY aG 4 [] [(14,aL (decide (i5<(lN l1))))] (bI h1 (fun h1=>?_) (fun h1=>?_))))
 ·obtain⟨c7,h1⟩:=aZ h1;refine bG (bD [(0,.lp b5 0 0),(1,eL aM l1),(5,eI i5)] (aO (bS 1 (aO (fF (fC [21]) aG 10 (cS 8 [0<=i5/\i5<(lN l1)] ⟨c7,trivial⟩ (jU 0 b5 2 0 (bV b0) (eI b0.Mark) [bV b0] hO rfl (gT (bT [] [(26,aL (decide (((gD l1 i5).At)<b0.Mark)))] (bI h1 (fun h1=>?_) (fun h1=>?_)))))))))))
  ·obtain rfl:=oI h1;obtain rfl:_=b6:=b7;replace h0:some ((16:Int),b0)=some r:=h0;obtain rfl:=oI h0;exact bW aG 1 [(0,.lp b5 0 0),(4,eI 16)] (bK (aJ (bH (aR (aR (bH (aR (EE hO ⟨rfl,rfl⟩))))))))
  exact bG (cN [(0,.lp b5 0 0),(1,eL aM l1),(5,eI i5)] (aJ (aX (aH (aS aG 3 (bC (aJ (aH (⟨rfl,_,(oI h1).symm,aV,hO⟩)))))))))
 obtain rfl:=oI h1;obtain rfl:_=b6:=b7;replace h0:xS b0 l1=some r:=h0;exact dV 0 (aJ (aT (aT (bN (aH (⟨rfl,_,aV,hO,h0⟩))))))
theorem aHI (f0:(List aB))(r:((List aB)×Int))(h0:KA f0=some r):cW Tryz.prog 61 [eL aE f0] (.tup [eL aE r.1,eI r.2]):=by
 intro H0;have hO:=aN.start H0;unfold KA at h0;obtain⟨x1,c4,h0⟩:=aW h0;refine cX Tryz.func61 (aY aG 2 [] [] (aO (aO (aS aG 3 (bM 1 (cU (zV f0 _ c4) hO (fun H hO=>bC (bT [] [(8,aL (!x1))] (bI h0 (fun h0=>?_) (fun h0=>?_))))))))))
 ·obtain rfl:=oI h0;exact bW aG 2 [(2,.sl true 0 (fun _=>.bad)),(3,eI 2)] (bK (cV (l:=[(2,eL aE ([])),(3,eI 2)]) ⟨[(2,.sl true 0 (fun _=>.bad)),(3,eI 2)],by kernel_rfl,rfl,⟨dN,sR,trivial⟩⟩ (aJ (aR (Q_r hO)))))
 refine bG (bD [(0,eL aE f0)] (aO (aS aG 2 (mW [] 2 (bC (bT [] [(4,.sl true 0 (fun _=>.bad))] (dH (fun T H=>∃ g4:List aB,∃ b6:Nat,Has T [(4,mL 2 b6 g4)]/\aN ⟨H0,[],[]⟩ H [(b6,2,g4.map aE)]/\FZ g4=some r) ?_ ?_)))))))
 ·rintro T H ⟨g4,b6,hT,hO,h0⟩;unfold FZ at h0;obtain rfl:=oI h0;refine bB hT (bW aG 3 [(2,mL 2 b6 g4),(3,eI 0)] (bK (cN [(2,mL 2 b6 g4),(3,eI 0)] (nL (en:=aE) g4 0 0 2 2 b6 g4.length hO (by kernel_rfl) (by kernel_rfl) (by kernel_rfl) (L':=[]) (by kernel_rfl) ?_))));intro H6 hO;exact aJ (Q_r hO)
 refine aY aG 1 [] [(5,eI 0)] (bS 0 (eA [(0,eL aE f0),(4,.sl true 0 (fun _=>.bad)),(5,eI 0)] (vI (el:=(fun _=>.bad)) 1 4 2 hO (by kernel_rfl) ?_)));intro b8 e4 hO;refine dJ (fun T H=>∃ g4:List aB,∃ i5:Int,∃ b5:Nat,Has T [(0,eL aE f0),(4,mL 2 b5 g4),(5,eI i5)]/\aN ⟨H0,[],[]⟩ H [(b5,2,g4.map aE)]/\OE f0 g4 i5=some r) ?_ ⟨([]:List aB),(0:Int),b8,aV,hO,h0⟩;rintro T H ⟨g4,i5,b5,hT,hO,h0⟩;unfold OE at h0;obtain⟨c5,c6,h0⟩:=aW h0;refine bB hT (eE (fun (s:List aB×Int) T H=>∃ b5:Nat,Has T [(0,eL aE f0),(4,mL 2 b5 s.1),(5,eI s.2)]/\aN ⟨H0,[],[]⟩ H [(b5,2,s.1.map aE)]) c6 ⟨b5,aV,hO⟩ ?_);rintro k0 s b9 T H ⟨b5,hT,hO⟩ h1 c7;obtain⟨g4,i5⟩:=s;replace h1:vJ f0 g4 i5=some b9:=h1
 try dsimp only at hT
 unfold vJ at h1;refine bB hT (aO (aY aG 4 [] [(13,aL (decide (i5<(lN f0))))] (bI h1 (fun h1=>?_) (fun h1=>?_))))
 ·obtain⟨c8,h1⟩:=aZ h1;obtain⟨c9,h1⟩:=aZ h1;obtain⟨e3,h1⟩:=aZ h1;exact bG (bD [(0,eL aE f0),(4,mL 2 b5 g4),(5,eI i5)] (aO (bS 1 (fF (fC [21,26,29]) aG 16 (cS 13 [0<=i5/\i5<(lN f0),0<=i5/\i5<(lN f0)] ⟨c8,c9,trivial⟩ (OF (xs:=[aE (aB.mk ((gD f0 i5).At) (wR (0-((gD f0 i5).Net))))]) (k:=2) (by kernel_rfl) (by kernel_rfl) (MW (e:=aE) g4 ([aB.mk ((gD f0 i5).At) (wR (0-((gD f0 i5).Net)))]) 0 b5 2 16 (dB [aE (aB.mk ((gD f0 i5).At) (wR (0-((gD f0 i5).Net))))]) (fun b7=>[(b7,2,List.map aE (g4++([aB.mk ((gD f0 i5).At) (wR (0-((gD f0 i5).Net)))])))]) (by kernel_rfl) (by kernel_rfl) hO (by kernel_rfl) (by kernel_rfl) e3 (fun _=>by kernel_rfl) (fun b7 H hO=>gT (cN [(0,eL aE f0),(4,.msl 2 b7 0 (List.length (g4++([aB.mk ((gD f0 i5).At) (wR (0-((gD f0 i5).Net)))])))),(5,eI i5)] (aJ (aX (aH (aS aG 3 (bC (aJ (aH (⟨rfl,_,(oI h1).symm,_,aV,hO⟩)))))))))))))))))
 obtain rfl:=oI h1;obtain rfl:_=c5:=c7;replace h0:FZ g4=some r:=h0;exact dV 0 (aJ (aT (aT (bN (aH (⟨rfl,_,_,aV,hO,h0⟩))))))
theorem XX (f0:(List aB))(g1:(List aB))(r:(List Int))(h0:xG f0 g1=some r):cW Tryz.prog 87 [eL aE f0,eL aE g1] (eL (eI) r):=by
 intro H0;have hO:=aN.start H0;unfold xG at h0;refine cX Tryz.func87 (aY aG 1 [] [] (aO (aS aG 2 (mW [] 1 (bC (bT [] [(5,.sl true 0 (fun _=>.bad))] (dH (fun T H=>∃ l5:(List Int),Has T [(1,eL aE g1),(5,eL (eI) l5)]/\aN ⟨H0,[],[]⟩ H []/\zF g1 l5=some r) ?_ ?_)))))))
 ·rintro T H ⟨l5,hT,hO,h0⟩;unfold zF at h0;refine bB hT (dH (fun T H=>∃ l5:(List Int),Has T [(5,eL (eI) l5)]/\aN ⟨H0,[],[]⟩ H []/\EK l5=some r) ?_ ?_)
  ·rintro T H ⟨l5,hT,hO,h0⟩;unfold EK at h0;obtain rfl:=oI h0;exact bB hT (bW aG 2 [(4,eL (eI) l5)] (bK (aJ (Q_r hO))))
  refine aY aG 1 [] [(7,eI 0)] (bS 2 (eA [(1,eL aE g1),(5,eL (eI) l5),(7,eI 0)] (dJ (fun T H=>∃ l5:(List Int),∃ i7:Int,Has T [(1,eL aE g1),(5,eL (eI) l5),(7,eI i7)]/\aN ⟨H0,[],[]⟩ H []/\EV g1 l5 i7=some r) ?_ ⟨l5,(0:Int),aV,hO,h0⟩)));rintro T H ⟨l5,i7,hT,hO,h0⟩;unfold EV at h0;obtain⟨b6,b7,h0⟩:=aW h0;refine bB hT (eE (fun (s:(List Int)×Int) T H=>Has T [(1,eL aE g1),(5,eL (eI) s.1),(7,eI s.2)]/\aN ⟨H0,[],[]⟩ H []) b7 ⟨aV,hO⟩ ?_);rintro k0 s b5 T H ⟨hT,hO⟩ h1 b8;obtain⟨l5,i7⟩:=s;replace h1:rU g1 l5 i7=some b5:=h1
  try dsimp only at hT
  unfold rU at h1;refine bB hT (aO (aY aG 4 [] [(25,aL (decide (i7<(lN g1))))] (bI h1 (fun h1=>?_) (fun h1=>?_))))
  ·obtain⟨c2,h1⟩:=aZ h1;obtain⟨x3,c4,h1⟩:=aW h1;exact bG (bD [(1,eL aE g1),(5,eL (eI) l5),(7,eI i7)] (aO (bS 3 (aS aG 8 (nM 6 [0<=i7/\i7<(lN g1)] ⟨c2,trivial⟩ (cU (FV l5 ((gD g1 i7).At) _ c4) hO (fun H hO=>bC (cN [(1,eL aE g1),(5,eL (eI) x3),(7,eI i7)] (aJ (aX (aH (aS aG 3 (bC (aJ (aH (⟨rfl,_,(oI h1).symm,aV,hO⟩))))))))))))))))
  obtain rfl:=oI h1;obtain rfl:_=b6:=b8;replace h0:EK l5=some r:=h0;exact dV 2 (aJ (aT (aT (bN (aH (⟨rfl,_,aV,hO,h0⟩))))))
 refine aY aG 1 [] [(6,eI 0)] (bS 0 (bB (l:=[(0,eL aE f0),(1,eL aE g1),(5,eL (eI) ([])),(6,eI 0)]) ⟨[(0,eL aE f0),(1,eL aE g1),(5,.sl true 0 (fun _=>.bad)),(6,eI 0)],by kernel_rfl,rfl,⟨sR,sR,dN,sR,trivial⟩⟩ (dJ (fun T H=>∃ l5:(List Int),∃ i6:Int,Has T [(0,eL aE f0),(1,eL aE g1),(5,eL (eI) l5),(6,eI i6)]/\aN ⟨H0,[],[]⟩ H []/\EJ f0 g1 l5 i6=some r) ?_ ⟨[],(0:Int),aV,hO,h0⟩)));rintro T H ⟨l5,i6,hT,hO,h0⟩;unfold EJ at h0;obtain⟨b6,b7,h0⟩:=aW h0;refine bB hT (eE (fun (s:(List Int)×Int) T H=>Has T [(0,eL aE f0),(1,eL aE g1),(5,eL (eI) s.1),(6,eI s.2)]/\aN ⟨H0,[],[]⟩ H []) b7 ⟨aV,hO⟩ ?_);rintro k0 s b5 T H ⟨hT,hO⟩ h1 b8;obtain⟨l5,i6⟩:=s;replace h1:rX f0 g1 l5 i6=some b5:=h1
 try dsimp only at hT
 unfold rX at h1;refine bB hT (aO (aY aG 4 [] [(12,aL (decide (i6<(lN f0))))] (bI h1 (fun h1=>?_) (fun h1=>?_))))
 ·obtain⟨c8,h1⟩:=aZ h1;obtain⟨x9,b9,h1⟩:=aW h1;exact bG (bD [(0,eL aE f0),(1,eL aE g1),(5,eL (eI) l5),(6,eI i6)] (aO (bS 1 (aS aG 8 (nM 6 [0<=i6/\i6<(lN f0)] ⟨c8,trivial⟩ (cU (FV l5 ((gD f0 i6).At) _ b9) hO (fun H hO=>bC (cN [(0,eL aE f0),(1,eL aE g1),(5,eL (eI) x9),(6,eI i6)] (aJ (aX (aH (aS aG 3 (bC (aJ (aH (⟨rfl,_,(oI h1).symm,aV,hO⟩))))))))))))))))
 obtain rfl:=oI h1;obtain rfl:_=b6:=b8;replace h0:zF g1 l5=some r:=h0;exact dV 0 (aJ (aT (aT (bN (aH (⟨rfl,_,aV,hO,h0⟩))))))
theorem aEU (f0:(List aB))(t1:Int)(r:((List aB)×Int))(h0:CP f0 t1=some r):cW Tryz.prog 62 [eL aE f0,eI t1] (.tup [eL aE r.1,eI r.2]):=by
 intro H0;have hO:=aN.start H0;unfold CP at h0;obtain⟨x1,c8,h0⟩:=aW h0;refine cX Tryz.func62 (aY aG 2 [] [] (aO (aO (aS aG 3 (bM 1 (cU (zV f0 _ c8) hO (fun H hO=>bC (bT [] [(12,aL (!x1))] (bI h0 (fun h0=>?_) (fun h0=>?_))))))))))
 ·obtain rfl:=oI h0;exact bW aG 2 [(4,.sl true 0 (fun _=>.bad)),(5,eI 2)] (bK (cV (l:=[(4,eL aE ([])),(5,eI 2)]) ⟨[(4,.sl true 0 (fun _=>.bad)),(5,eI 2)],by kernel_rfl,rfl,⟨dN,sR,trivial⟩⟩ (aJ (aR (Q_r hO)))))
 obtain⟨x5,c9,h0⟩:=aW h0;refine bG (bD [(0,eL aE f0),(1,eI t1)] (aO (aS aG 3 (bM 1 (aNZ 87 [eL aE f0,.sl true 0 (fun _=>.bad)] (eL (eI) x5) (cW.sub (XX f0 ([]) _ c9) ⟨sR,dN,trivial⟩) hO (fun H hO=>bC (bT [] [(6,eL (eI) x5)] (dH (fun T H=>∃ cO:(List Int),Has T [(0,eL aE f0),(1,eI t1),(6,eL (eI) cO)]/\aN ⟨H0,[],[]⟩ H []/\xI f0 t1 cO=some r) ?_ ?_))))))))
 ·rintro T H ⟨cO,hT,hO,h0⟩;unfold xI at h0;refine bB hT (aO (aS aG 2 (mW [] 1 (bC (bT [] [(7,.sl true 0 (fun _=>.bad))] (dH (fun T H=>∃ bZ:List Int,∃ b8:Nat,Has T [(6,eL (eI) cO),(7,mL 1 b8 bZ)]/\aN ⟨H0,[],[]⟩ H [(b8,1,List.map (eI) bZ)]/\AE cO bZ=some r) ?_ ?_))))))
  ·rintro T H ⟨bZ,b8,hT,hO,h0⟩;unfold AE at h0;obtain⟨x9,c4,h0⟩:=aW h0;obtain rfl:=oI h0;exact bB hT (aO (aS aG 7 (BK (e:=(eI)) bZ 0 7 1 b8 bZ.length [] (by kernel_rfl) hO (by kernel_rfl) (by kernel_rfl) (by kernel_rfl) (by kernel_rfl) (fun H hO=>bM 2 (cU (UD cO bZ _ c4) hO (fun H hO=>bC (bD [(4,eL aE x9.1),(5,eI x9.2)] (bK (aJ (Q_r hO))))))))))
  refine aY aG 1 [] [(8,eI 0)] (bS 0 (eA [(0,eL aE f0),(1,eI t1),(6,eL (eI) cO),(7,.sl true 0 (fun _=>.bad)),(8,eI 0)] (vI (el:=(fun _=>.bad)) 3 7 1 hO (by kernel_rfl) ?_)));intro c5 e9 hO;refine dJ (fun T H=>∃ bZ:List Int,∃ i8:Int,∃ b5:Nat,Has T [(0,eL aE f0),(1,eI t1),(6,eL (eI) cO),(7,mL 1 b5 bZ),(8,eI i8)]/\aN ⟨H0,[],[]⟩ H [(b5,1,List.map (eI) bZ)]/\IK f0 t1 cO bZ i8=some r) ?_ ⟨([]:List Int),(0:Int),c5,aV,hO,h0⟩;rintro T H ⟨bZ,i8,b5,hT,hO,h0⟩;unfold IK at h0;obtain⟨e3,e4,h0⟩:=aW h0;refine bB hT (eE (fun (s:List Int×Int) T H=>∃ b5:Nat,Has T [(0,eL aE f0),(1,eI t1),(6,eL (eI) cO),(7,mL 1 b5 s.1),(8,eI s.2)]/\aN ⟨H0,[],[]⟩ H [(b5,1,List.map (eI) s.1)]) e4 ⟨b5,aV,hO⟩ ?_);rintro k0 s b9 T H ⟨b5,hT,hO⟩ h1 e5;obtain⟨bZ,i8⟩:=s;replace h1:tA f0 t1 cO bZ i8=some b9:=h1
  try dsimp only at hT
  unfold tA at h1;refine bB hT (aO (aY aG 4 [] [(28,aL (decide (i8<(lN cO))))] (bI h1 (fun h1=>?_) (fun h1=>?_))))
  ·refine bG (bD [(0,eL aE f0),(1,eI t1),(6,eL (eI) cO),(7,mL 1 b5 bZ),(8,eI i8)] (aO (bS 1 (aY aG 1 [] [(9,eI 0)] (dH (fun T H=>∃ bZ:List Int,∃ v9:Int,∃ b6:Nat,Has T [(0,eL aE f0),(1,eI t1),(6,eL (eI) cO),(7,mL 1 b6 bZ),(8,eI i8),(9,eI v9)]/\aN ⟨H0,[],[]⟩ H [(b6,1,List.map (eI) bZ)]/\AQ f0 t1 cO bZ i8 v9=some b9) ?_ ?_)))))
   ·rintro T H ⟨bZ,v9,b6,hT,hO,h1⟩;unfold AQ at h1;obtain⟨e6,h1⟩:=aZ h1;exact bB hT (aS aG 5 (bM 2 (mW [eI v9] 1 (wD (eI) bZ ([v9]) 0 b6 1 8 (dB [eI v9]) (fun b7=>[(b7,1,List.map (eI) (bZ++([v9])))]) hO (by kernel_rfl) e6 (fun b7 H hO=>bC (cN [(0,eL aE f0),(1,eI t1),(6,eL (eI) cO),(7,.msl 1 b7 0 (List.length (bZ++([v9])))),(8,eI i8)] (aJ (aX (aH (aS aG 3 (bC (aJ (aH (⟨rfl,_,(oI h1).symm,_,aV,hO⟩))))))))))))))
   obtain⟨e7,h1⟩:=aZ h1;refine aO (aS aG 6 (nI [0<=i8/\i8<(lN cO)] ⟨e7,trivial⟩ (bT [] [(36,aL (decide ((gD cO i8)<t1)))] (bI h1 (fun h1=>?_) (fun h1=>?_)))))
   ·obtain⟨e8,h1⟩:=aZ h1;obtain⟨g2,c6,h1⟩:=aW h1;exact aS aG 7 (nM 5 [0<=i8/\i8<(lN cO)] ⟨e8,trivial⟩ (cU (yI f0 (gD cO i8) _ c6) hO (fun H hO=>bC (aJ (aH (⟨rfl,_,_,_,aV,hO,h1⟩))))))
   exact bG (aJ (aH (⟨rfl,_,_,_,aV,hO,h1⟩)))
  obtain rfl:=oI h1;obtain rfl:_=e3:=e5;replace h0:AE cO bZ=some r:=h0;exact dV 0 (aJ (aT (aT (bN (aH (⟨rfl,_,_,aV,hO,h0⟩))))))
 refine aY aG 6 [] [(20,aL ((decide ((-1:Int)<=t1))&&(decide (t1<1125899906842624))))] (bI h0 (fun h0=>?_) (fun h0=>?_))
 ·obtain⟨g3,c7,h0⟩:=aW h0;exact aS aG 4 (bM 2 (cU (FV x5 t1 _ c7) hO (fun H hO=>bC (aJ (aH (⟨rfl,_,aV,hO,h0⟩))))))
 exact bG (aJ (aH (⟨rfl,_,aV,hO,h0⟩)))
theorem aF7 (f0:(List aB))(t1:Int)(r:((List aB)×Int))(h0:FG f0 t1=some r):cW Tryz.prog 63 [eL aE f0,eI t1] (.tup [eL aE r.1,eI r.2]):=by
 intro H0;have hO:=aN.start H0;unfold FG at h0;obtain⟨x1,e3,h0⟩:=aW h0;refine cX Tryz.func63 (aY aG 2 [] [] (aO (aO (aS aG 3 (bM 1 (cU (zV f0 _ e3) hO (fun H hO=>bC (bT [] [(12,aL (!x1))] (bI h0 (fun h0=>?_) (fun h0=>?_))))))))))
 ·obtain rfl:=oI h0;exact bW aG 2 [(4,.sl true 0 (fun _=>.bad)),(5,eI 2)] (bK (cV (l:=[(4,eL aE ([])),(5,eI 2)]) ⟨[(4,.sl true 0 (fun _=>.bad)),(5,eI 2)],by kernel_rfl,rfl,⟨dN,sR,trivial⟩⟩ (aJ (aR (Q_r hO)))))
 refine bG (bD [(0,eL aE f0),(1,eI t1)] (aO (aY aG 2 [] [(14,aL (decide (1125899906842624<=t1)))] (bI h0 (fun h0=>?_) (fun h0=>?_)))))
 ·obtain rfl:=oI h0;exact bW aG 2 [(4,.sl true 0 (fun _=>.bad)),(5,eI 0)] (bK (cV (l:=[(4,eL aE ([])),(5,eI 0)]) ⟨[(4,.sl true 0 (fun _=>.bad)),(5,eI 0)],by kernel_rfl,rfl,⟨dN,sR,trivial⟩⟩ (aJ (aR (Q_r hO)))))
 obtain⟨x6,e4,h0⟩:=aW h0;obtain⟨x9,c6,h0⟩:=aW h0;refine bG (bD [(0,eL aE f0),(1,eI t1)] (aO (aS aG 4 (bM 1 (aNZ 87 [eL aE f0,.sl true 0 (fun _=>.bad)] (eL (eI) x6) (cW.sub (XX f0 ([]) _ e4) ⟨sR,dN,trivial⟩) hO (fun H hO=>cU (FV x6 (-1:Int) _ c6) hO (fun H hO=>bC (bT [] [(6,eL (eI) x9)] (aO (aS aG 2 (mW [] 1 (bC (bT [] [(7,.sl true 0 (fun _=>.bad))] (dH (fun T H=>∃ cO:(List Int),∃ bZ:List Int,∃ b6:Nat,Has T [(6,eL (eI) cO),(7,mL 1 b6 bZ)]/\aN ⟨H0,[],[]⟩ H [(b6,1,List.map (eI) bZ)]/\CW cO bZ=some r) ?_ ?_))))))))))))))
 ·rintro T H ⟨cO,bZ,b6,hT,hO,h0⟩;unfold CW at h0;obtain⟨c5,c7,h0⟩:=aW h0;obtain rfl:=oI h0;exact bB hT (aO (aS aG 7 (BK (e:=(eI)) bZ 0 7 1 b6 bZ.length [] (by kernel_rfl) hO (by kernel_rfl) (by kernel_rfl) (by kernel_rfl) (by kernel_rfl) (fun H hO=>bM 2 (cU (UD cO bZ _ c7) hO (fun H hO=>bC (bD [(4,eL aE c5.1),(5,eI c5.2)] (bK (aJ (Q_r hO))))))))))
 refine aY aG 1 [] [(8,eI 0)] (bS 0 (eA [(0,eL aE f0),(1,eI t1),(6,eL (eI) x9),(7,.sl true 0 (fun _=>.bad)),(8,eI 0)] (vI (el:=(fun _=>.bad)) 3 7 1 hO (by kernel_rfl) ?_)));intro c8 g2 hO;refine dJ (fun T H=>∃ cO:(List Int),∃ bZ:List Int,∃ i8:Int,∃ b5:Nat,Has T [(0,eL aE f0),(1,eI t1),(6,eL (eI) cO),(7,mL 1 b5 bZ),(8,eI i8)]/\aN ⟨H0,[],[]⟩ H [(b5,1,List.map (eI) bZ)]/\KS f0 t1 cO bZ i8=some r) ?_ ⟨x9,([]:List Int),(0:Int),c8,aV,hO,h0⟩;rintro T H ⟨cO,bZ,i8,b5,hT,hO,h0⟩;unfold KS at h0;obtain⟨e5,e6,h0⟩:=aW h0;refine bB hT (eE (fun (s:List Int×Int) T H=>∃ b5:Nat,Has T [(0,eL aE f0),(1,eI t1),(6,eL (eI) cO),(7,mL 1 b5 s.1),(8,eI s.2)]/\aN ⟨H0,[],[]⟩ H [(b5,1,List.map (eI) s.1)]) e6 ⟨b5,aV,hO⟩ ?_);rintro k0 s c4 T H ⟨b5,hT,hO⟩ h1 e7;obtain⟨bZ,i8⟩:=s;replace h1:tZ f0 t1 cO bZ i8=some c4:=h1
 try dsimp only at hT
 unfold tZ at h1;refine bB hT (aO (aY aG 4 [] [(22,aL (decide (i8<(lN cO))))] (bI h1 (fun h1=>?_) (fun h1=>?_))))
 ·obtain⟨e8,h1⟩:=aZ h1;refine bG (bD [(0,eL aE f0),(1,eI t1),(6,eL (eI) cO),(7,mL 1 b5 bZ),(8,eI i8)] (aO (bS 1 (aO (aS aG 5 (nI [0<=i8/\i8<(lN cO)] ⟨e8,trivial⟩ (bT [] [(9,eI (gD cO i8))] (dH (fun T H=>∃ bZ:List Int,∃ p9:Int,∃ b7:Nat,Has T [(0,eL aE f0),(1,eI t1),(6,eL (eI) cO),(7,mL 1 b7 bZ),(8,eI i8),(9,eI p9)]/\aN ⟨H0,[],[]⟩ H [(b7,1,List.map (eI) bZ)]/\DL f0 t1 cO bZ i8 p9=some c4) ?_ ?_))))))))
  ·rintro T H ⟨bZ,p9,b7,hT,hO,h1⟩;unfold DL at h1;obtain⟨b8,c9,h1⟩:=aW h1;obtain⟨e9,h1⟩:=aZ h1;exact bB hT (aS aG 7 (bM 3 (cU (yI f0 p9 _ c9) hO (fun H hO=>mW [eI b8] 1 (wD (eI) bZ ([b8]) 0 b7 1 8 (dB [eI b8]) (fun b9=>[(b9,1,List.map (eI) (bZ++([b8])))]) hO (by kernel_rfl) e9 (fun b9 H hO=>bC (cN [(0,eL aE f0),(1,eI t1),(6,eL (eI) cO),(7,.msl 1 b9 0 (List.length (bZ++([b8])))),(8,eI i8)] (aJ (aX (aH (aS aG 3 (bC (aJ (aH (⟨rfl,_,(oI h1).symm,_,aV,hO⟩)))))))))))))))
  refine aY aG 7 [] [(35,aL ((decide ((-1:Int)<t1))&&(decide ((gD cO i8)<t1))))] (bI h1 (fun h1=>?_) (fun h1=>?_))
  ·exact aS aG 3 (bC (aJ (aH (⟨rfl,_,_,_,aV,hO,h1⟩))))
  exact bG (aJ (aH (⟨rfl,_,_,_,aV,hO,h1⟩)))
 obtain rfl:=oI h1;obtain rfl:_=e5:=e7;replace h0:CW cO bZ=some r:=h0;exact dV 0 (aJ (aT (aT (bN (aH (⟨rfl,_,_,_,aV,hO,h0⟩))))))
theorem aHX (l0:(List aK))(pN t2:Int)(r:((List aK)×Int))(h0:KJ l0 pN t2=some r):cW Tryz.prog 36 [eL aM l0,eI pN,eI t2] (.tup [eL aM r.1,eI r.2]):=by
 intro H0;have hO:=aN.start H0;unfold KJ at h0;obtain⟨x1,g4,h0⟩:=aW h0;refine cX Tryz.func36 (aY aG 2 [] [] (aO (aO (aS aG 3 (bM 1 (cU (DW l0 _ g4) hO (fun H hO=>bC (bT [] [(16,aL (!x1))] (bI h0 (fun h0=>?_) (fun h0=>?_))))))))))
 ·obtain rfl:=oI h0;exact bW aG 2 [(6,.sl true 0 (fun _=>.bad)),(7,eI 2)] (bK (cV (l:=[(6,eL aM ([])),(7,eI 2)]) ⟨[(6,.sl true 0 (fun _=>.bad)),(7,eI 2)],by kernel_rfl,rfl,⟨dN,sR,trivial⟩⟩ (aJ (aR (Q_r hO)))))
 obtain⟨x5,g5,h0⟩:=aW h0;refine bG (bD [(0,eL aM l0),(1,eI pN),(2,eI t2)] (aO (aS aG 2 (mW [] 3 (bC (bT [] [(8,.sl true 0 (fun _=>.bad))] (aO (aS aG 3 (bM 1 (cU (FX l0 _ g5) hO (fun H hO=>bC (bT [] [(9,eL (eL aI) x5)] (dH (fun T H=>∃ b5:List aK,∃ c4:Nat,Has T [(8,mL 3 c4 b5)]/\aN ⟨H0,[],[]⟩ H [(c4,3,b5.map aM)]/\BE b5=some r) ?_ ?_)))))))))))))
 ·rintro T H ⟨b5,c4,hT,hO,h0⟩;unfold BE at h0;refine bB hT (aO (aY aG 3 [] [(65,aL (decide (4096<(lN b5))))] (bI h0 (fun h0=>?_) (fun h0=>?_))))
  ·refine aO (aS aG 2 (bC (cN [(6,.sl true 0 (fun _=>.bad)),(7,eI 7)] ?_)));replace hO:=hO.pick (L':=[]) [] (by decide) (by kernel_rfl);obtain rfl:=oI h0;exact aJ (aH (bK (cV (l:=[(6,eL aM ([])),(7,eI 7)]) ⟨[(6,.sl true 0 (fun _=>.bad)),(7,eI 7)],by kernel_rfl,rfl,⟨dN,sR,trivial⟩⟩ (aJ (aR (Q_r hO))))))
  obtain rfl:=oI h0;refine bG (bD [(8,mL 3 c4 b5)] (bW aG 3 [(6,mL 3 c4 b5),(7,eI 0)] (bK (cN [(6,mL 3 c4 b5),(7,eI 0)] (nL (en:=aM) b5 0 0 6 3 c4 b5.length hO (by kernel_rfl) (by kernel_rfl) (by kernel_rfl) (L':=[]) (by kernel_rfl) ?_)))));intro g9 hO;exact aJ (Q_r hO)
 refine aY aG 1 [] [(10,eI 0)] (bS 0 (eA [(0,eL aM l0),(1,eI pN),(2,eI t2),(8,.sl true 0 (fun _=>.bad)),(9,eL (eL aI) x5),(10,eI 0)] (vI (el:=(fun _=>.bad)) 3 8 3 hO (by kernel_rfl) ?_)));intro e6 h8 hO;refine dJ (fun T H=>∃ b5:List aK,∃ oS:(List (List aF)),∃ i10:Int,∃ b6:Nat,Has T [(0,eL aM l0),(1,eI pN),(2,eI t2),(8,mL 3 b6 b5),(9,eL (eL aI) oS),(10,eI i10)]/\aN ⟨H0,[],[]⟩ H [(b6,3,b5.map aM)]/\NG l0 pN t2 b5 oS i10=some r) ?_ ⟨([]:List aK),x5,(0:Int),e6,aV,hO,h0⟩;rintro T H ⟨b5,oS,i10,b6,hT,hO,h0⟩;unfold NG at h0;obtain⟨e3,g6,h0⟩:=aW h0;refine bB hT (eE (fun (s:List aK×Int) T H=>∃ b6:Nat,Has T [(0,eL aM l0),(1,eI pN),(2,eI t2),(8,mL 3 b6 s.1),(9,eL (eL aI) oS),(10,eI s.2)]/\aN ⟨H0,[],[]⟩ H [(b6,3,s.1.map aM)]) g6 ⟨b6,aV,hO⟩ ?_);rintro k0 s c6 T H ⟨b6,hT,hO⟩ h1 e4;obtain⟨b5,i10⟩:=s;replace h1:vB l0 pN t2 oS b5 i10=some c6:=h1
 try dsimp only at hT
 unfold vB at h1;refine bB hT (aO (aY aG 4 [] [(23,aL (decide (i10<(lN oS))))] (bI h1 (fun h1=>?_) (fun h1=>?_))))
 ·obtain⟨g7,h1⟩:=aZ h1;obtain⟨c9,e7,h1⟩:=aW h1;obtain⟨e5,e8,h1⟩:=aW h1;refine bG (bD [(0,eL aM l0),(1,eI pN),(2,eI t2),(8,mL 3 b6 b5),(9,eL (eL aI) oS),(10,eI i10)] (aO (bS 1 (aO (aS aG 7 (nM 5 [0<=i10/\i10<(lN oS)] ⟨g7,trivial⟩ (cU (yG l0 (gD oS i10) _ e7) hO (fun H hO=>bC (bT [] [(11,eL aE c9)] (aO (aS aG 7 (bM 1 (cU (aHI c9 _ e8) hO (fun H hO=>bC (bT [] [(12,eL aE e5.1),(13,eI e5.2)] (dH (fun T H=>∃ b5:List aK,∃ f11:(List aB),∃ b8:(List aB),∃ b7:Int,∃ c7:Nat,Has T [(0,eL aM l0),(1,eI pN),(2,eI t2),(8,mL 3 c7 b5),(9,eL (eL aI) oS),(10,eI i10),(11,eL aE f11),(12,eL aE b8),(13,eI b7)]/\aN ⟨H0,[],[]⟩ H [(c7,3,b5.map aM)]/\FD l0 pN t2 b5 oS i10 f11 b8 b7=some c6) ?_ ?_))))))))))))))))
  ·rintro T H ⟨b5,f11,b8,b7,c7,hT,hO,h1⟩;unfold FD at h1;refine bB hT (dH (fun T H=>∃ b5:List aK,∃ b8:(List aB),∃ b7:Int,∃ b9:Nat,Has T [(0,eL aM l0),(1,eI pN),(2,eI t2),(8,mL 3 b9 b5),(9,eL (eL aI) oS),(10,eI i10),(12,eL aE b8),(13,eI b7)]/\aN ⟨H0,[],[]⟩ H [(b9,3,b5.map aM)]/\AW l0 pN t2 b5 oS i10 b8 b7=some c6) ?_ ?_)
   ·rintro T H ⟨b5,b8,b7,b9,hT,hO,h1⟩;unfold AW at h1;refine bB hT (aO (aY aG 2 [] [(54,aL (!decide (b7=0)))] (bI h1 (fun h1=>?_) (fun h1=>?_))))
    ·refine aO (aS aG 3 (bC (cN [(6,.sl true 0 (fun _=>.bad)),(7,eI b7)] ?_)));replace hO:=hO.pick (L':=[]) [] (by decide) (by kernel_rfl);obtain rfl:=oI h1;obtain rfl:_=e3:=e4;replace h0:some ([],b7)=some r:=h0;obtain rfl:=oI h0;exact aJ (aH (bK (cV (l:=[(6,eL aM ([])),(7,eI b7)]) ⟨[(6,.sl true 0 (fun _=>.bad)),(7,eI b7)],by kernel_rfl,rfl,⟨dN,sR,trivial⟩⟩ (aJ (aR (bH (aR (aR (bH (aR (Q_r hO)))))))))))
    obtain⟨g8,h1⟩:=aZ h1;obtain⟨c8,e9,h1⟩:=aW h1;exact bG (bD [(0,eL aM l0),(1,eI pN),(2,eI t2),(8,mL 3 b9 b5),(9,eL (eL aI) oS),(10,eI i10),(12,eL aE b8)] (aS aG 8 (nM 6 [0<=i10/\i10<(lN oS)] ⟨g8,trivial⟩ (aIj (L':=fun c5=>[(c5,3,c8.map aM)]) 0 b9 3 (b5.map aM) (c8.map aM) 64 [mL 3 b9 b5,eL aI (gD oS i10),eL aE b8] (fun c5=>(mL 3 c5 c8)) (by kernel_rfl) (by kernel_rfl) (aBC b9 b5 (gD oS i10) b8 _ e9) hO (by kernel_rfl) (fun _=>by kernel_rfl) (fun c5 H hO=>bC (cN [(0,eL aM l0),(1,eI pN),(2,eI t2),(8,mL 3 c5 c8),(9,eL (eL aI) oS),(10,eI i10)] (aJ (aX (aH (aS aG 3 (bC (aJ (aH (⟨rfl,_,(oI h1).symm,_,aV,hO⟩))))))))))))))
   refine aY aG 2 [] [(46,aL (decide (pN=2)))] (bI h1 (fun h1=>?_) (fun h1=>?_))
   ·obtain⟨h9,g2,h1⟩:=aW h1;exact aS aG 8 (bM 2 (cU (aF7 f11 t2 _ g2) hO (fun H hO=>bC (aJ (aH (⟨rfl,_,_,_,_,aV,hO,h1⟩))))))
   exact bG (aJ (aH (⟨rfl,_,_,_,_,aV,hO,h1⟩)))
  refine aY aG 2 [] [(38,aL (decide (pN=1)))] (bI h1 (fun h1=>?_) (fun h1=>?_))
  ·obtain⟨j0,g3,h1⟩:=aW h1;exact aS aG 8 (bM 2 (cU (aEU c9 t2 _ g3) hO (fun H hO=>bC (aJ (aH (⟨rfl,_,_,_,_,_,aV,hO,h1⟩))))))
  exact bG (aJ (aH (⟨rfl,_,_,_,_,_,aV,hO,h1⟩)))
 obtain rfl:=oI h1;obtain rfl:_=e3:=e4;replace h0:BE b5=some r:=h0;exact dV 0 (aJ (aT (aT (bN (aH (⟨rfl,_,_,aV,hO,h0⟩))))))
theorem aAc (b5:Nat)(b0:cJ)(t1:Int)(r:(Int×cJ))(h0:sZ b0 t1=some r):BX Tryz.prog 11 [.lp b5 0 0,eI t1] [(b5,2,[bV b0])] (fun x L=>x=(eI r.1)/\L=[(b5,2,[bV r.2])]):=by
 intro F H0 hO;obtain⟨Fh,Fe,Fg⟩:=F;unfold sZ at h0;refine cX Tryz.func11 (aY aG 1 [] [] (aO (aO (aS aG 6 (bM 4 (gW 0 b5 2 0 (bV b0) (eI b0.Mark) [bV b0] hO rfl (bC (bT [] [(12,aL (decide (t1<=b0.Mark)))] (bI h0 (fun h0=>?_) (fun h0=>?_))))))))))
 ·obtain rfl:=oI h0;exact bW aG 1 [(0,.lp b5 0 0),(4,eI 0)] (bK (aJ (aR (EE hO ⟨rfl,rfl⟩))))
 obtain⟨x2,b6,h0⟩:=aW h0;refine bG (bD [(0,.lp b5 0 0),(1,eI t1)] (aO (aS aG 11 (bM 3 (gW 0 b5 2 0 (bV b0) (eL aM b0.Table) [bV b0] hO rfl (bM 5 (cU (aHX b0.Table (2:Int) t1 _ b6) hO (fun H hO=>bC (bT [] [(5,eL aM x2.1),(6,eI x2.2)] (aO (aY aG 2 [] [(23,aL (!decide (x2.2=0)))] (bI h0 (fun h0=>?_) (fun h0=>?_)))))))))))))
 ·obtain rfl:=oI h0;exact bW aG 2 [(0,.lp b5 0 0),(4,eI x2.2)] (bK (aJ (aR (EE hO ⟨rfl,rfl⟩))))
 obtain rfl:=oI h0;exact bG (bD [(0,.lp b5 0 0),(1,eI t1),(5,eL aM x2.1)] (aO (aS aG 5 (bM 4 (mK 0 b5 2 0 (bV b0) (bV (cJ.mk x2.1 b0.Mark)) [bV b0] [(b5,2,[bV (cJ.mk x2.1 b0.Mark)])] hO rfl (by kernel_rfl) (fun H hO=>eC (bT [5] [] (aO (aS aG 5 (bM 4 (mK 0 b5 2 0 (bV (cJ.mk x2.1 b0.Mark)) (bV (cJ.mk (cJ.mk x2.1 b0.Mark).Table t1)) [bV (cJ.mk x2.1 b0.Mark)] [(b5,2,[bV (cJ.mk (cJ.mk x2.1 b0.Mark).Table t1)])] hO rfl (by kernel_rfl) (fun H hO=>eC (bD [(0,.lp b5 0 0)] (aY aG 1 [] [(4,eI 0)] (bK (aJ (EE hO ⟨rfl,rfl⟩)))))))))))))))))
theorem aBv (b5:Nat)(b0:cJ)(r:Int)(h0:wL b0=some r):BX Tryz.prog 14 [.lp b5 0 0] [(b5,2,[bV b0])] (fun x L=>x=(eI r)/\L=[(b5,2,[bV b0])]):=by
 intro F H0 hO;obtain⟨Fh,Fe,Fg⟩:=F;unfold wL at h0;refine cX Tryz.func14 (aY aG 1 [] [] (aY aG 1 [] [(3,eI 0)] (dH (fun T H=>∃ n3:Int,Has T [(0,.lp b5 0 0),(3,eI n3)]/\aN ⟨Fh,Fe,Fg⟩ H [(b5,2,[bV b0])]/\vD b0 n3=some r) ?_ ?_)))
 ·rintro T H ⟨n3,hT,hO,h0⟩;unfold vD at h0;obtain rfl:=oI h0;exact bB hT (aY aG 2 [3] [(2,eI n3)] (bK (aJ (EE hO ⟨rfl,rfl⟩))))
 refine aY aG 1 [] [(4,eI 0)] (bS 0 (eA [(0,.lp b5 0 0),(3,eI 0),(4,eI 0)] (dJ (fun T H=>∃ n3 i4:Int,Has T [(0,.lp b5 0 0),(3,eI n3),(4,eI i4)]/\aN ⟨Fh,Fe,Fg⟩ H [(b5,2,[bV b0])]/\zB b0 n3 i4=some r) ?_ ⟨(0:Int),(0:Int),aV,hO,h0⟩)));rintro T H ⟨n3,i4,hT,hO,h0⟩;unfold zB at h0;obtain⟨b7,b8,h0⟩:=aW h0;refine bB hT (eE (fun (s:Int×Int) T H=>Has T [(0,.lp b5 0 0),(3,eI s.1),(4,eI s.2)]/\aN ⟨Fh,Fe,Fg⟩ H [(b5,2,[bV b0])]) b8 ⟨aV,hO⟩ ?_);rintro k0 s b6 T H ⟨hT,hO⟩ h1 b9;obtain⟨n3,i4⟩:=s;replace h1:vC b0 n3 i4=some b6:=h1
 try dsimp only at hT
 unfold vC at h1;refine bB hT (aO (aO (aS aG 7 (bM 4 (gW 0 b5 2 0 (bV b0) (eL aM b0.Table) [bV b0] hO rfl (bC (bT [] [(11,aL (decide (i4<(lN b0.Table))))] (bI h1 (fun h1=>?_) (fun h1=>?_)))))))))
 ·refine bG (bD [(0,.lp b5 0 0),(3,eI n3),(4,eI i4)] (dH (fun T H=>∃ n3:Int,Has T [(0,.lp b5 0 0),(3,eI n3),(4,eI i4)]/\aN ⟨Fh,Fe,Fg⟩ H [(b5,2,[bV b0])]/\vF b0 n3 i4=some b6) ?_ ?_))
  ·rintro T H ⟨n3,hT,hO,h1⟩;unfold vF at h1;exact bB hT (aS aG 3 (bC (aJ (aH (⟨rfl,_,(oI h1).symm,aV,hO⟩)))))
  obtain⟨c2,h1⟩:=aZ h1;refine bS 1 (aO (aS aG 9 (bM 3 (gW 0 b5 2 0 (bV b0) (eL aM b0.Table) [bV b0] hO rfl (nI [0<=i4/\i4<(lN b0.Table)] ⟨c2,trivial⟩ (bT [] [(22,aL (decide (0<((gD b0.Table i4).Net))))] (bI h1 (fun h1=>?_) (fun h1=>?_))))))))
  ·obtain⟨c4,h1⟩:=aZ h1;exact aS aG 11 (bM 4 (gW 0 b5 2 0 (bV b0) (eL aM b0.Table) [bV b0] hO rfl (nI [0<=i4/\i4<(lN b0.Table)] ⟨c4,trivial⟩ (aJ (aX (aH (⟨rfl,_,aV,hO,h1⟩)))))))
  exact bG (aJ (aX (aH (⟨rfl,_,aV,hO,h1⟩))))
 obtain rfl:=oI h1;obtain rfl:_=b7:=b9;replace h0:vD b0 n3=some r:=h0;exact dV 0 (aJ (aT (aT (bN (aH (⟨rfl,_,aV,hO,h0⟩))))))
theorem aDM (f0:(List aB))(r:Bool)(h0:AH f0=some r):cW Tryz.prog 104 [eL aE f0] (aL r):=by
 intro H0;have hO:=aN.start H0;unfold AH at h0;obtain⟨x1,b5,h0⟩:=aW h0;obtain⟨x4,b6,h0⟩:=aW h0;obtain rfl:=oI h0;exact cX Tryz.func104 (aY aG 1 [] [] (aO (aS aG 8 (bM 1 (cU (zC f0 _ b5) hO (fun H hO=>bM 4 (rY [(5,true)] 30 [eL aE f0] (eI x4) x1 (by kernel_rfl) (by kernel_rfl) (by kernel_rfl) (fun b7=>(aAs f0 _ (kW b6 b7))) hO (fun H hO=>bC (bD [(2,aL (x1&&(decide (0<=x4))))] (bK (aJ (Q_r hO))))))))))))
theorem aFH (l0:(List aK))(r:Bool)(h0:FO l0=some r):cW Tryz.prog 73 [eL aM l0] (aL r):=by
 intro H0;have hO:=aN.start H0;unfold FO at h0;obtain⟨x1,b5,h0⟩:=aW h0;refine cX Tryz.func73 (aY aG 1 [] [] (aO (aS aG 3 (bM 1 (cU (aBB l0 104 [] [] (fun y0=>AH y0) (fun y0 r h=>aDM y0 r h) _ b5) hO ?_)))));obtain rfl:=oI h0;intro H hO;exact bC (bD [(2,aL x1)] (bK (aJ (Q_r hO))))
theorem aBG (f0:(List aB))(r:Int)(h0:zS f0=some r):cW Tryz.prog 74 [eL aE f0] (eI r):=by
 intro H0;have hO:=aN.start H0;unfold zS at h0;refine cX Tryz.func74 (aY aG 1 [] [] (aY aG 1 [] [(3,eI 0)] (dH (fun T H=>∃ n3:Int,Has T [(3,eI n3)]/\aN ⟨H0,[],[]⟩ H []/\GG n3=some r) ?_ ?_)))
 ·rintro T H ⟨n3,hT,hO,h0⟩;unfold GG at h0;obtain rfl:=oI h0;exact bB hT (bW aG 2 [(2,eI n3)] (bK (aJ (Q_r hO))))
 refine aY aG 3 [0] [(6,eL aE f0),(7,eI (lN f0)),(8,eI 0)] (bS 0 (eA [(3,eI 0),(6,eL aE f0),(7,eI (lN f0)),(8,eI 0)] (dJ (fun T H=>∃ n3:Int,∃ t6:(List aB),∃ t7 t8:Int,Has T [(3,eI n3),(6,eL aE t6),(7,eI t7),(8,eI t8)]/\aN ⟨H0,[],[]⟩ H []/\OU n3 t6 t7 t8=some r) ?_ ⟨(0:Int),f0,lN f0,(0:Int),aV,hO,h0⟩)));rintro T H ⟨n3,t6,t7,t8,hT,hO,h0⟩;unfold OU at h0;obtain⟨b7,b8,h0⟩:=aW h0;refine bB hT (eE (fun (s:Int×Int) T H=>Has T [(3,eI s.1),(6,eL aE t6),(7,eI t7),(8,eI s.2)]/\aN ⟨H0,[],[]⟩ H []) b8 ⟨aV,hO⟩ ?_);rintro k0 s b6 T H ⟨hT,hO⟩ h1 b9;obtain⟨n3,t8⟩:=s;replace h1:uY t6 t7 n3 t8=some b6:=h1
 try dsimp only at hT
 unfold uY at h1;refine bB hT (aY aG 1 [] [(9,aL (decide (t8<t7)))] (aO (bI h1 (fun h1=>?_) (fun h1=>?_))))
 ·obtain⟨c2,h1⟩:=aZ h1;refine bG (bD [(3,eI n3),(6,eL aE t6),(7,eI t7),(8,eI t8)] (aO (bS 1 (aO (aS aG 4 (nM 2 [0<=t8/\t8<(lN t6)] ⟨c2,trivial⟩ (nF 2 (aE (aB.mk 0 0)) (by kernel_rfl) (by kernel_rfl) hO (fun b5 H hO=>mK 0 b5 2 0 (aE (aB.mk 0 0)) (aE (gD t6 t8)) [aE (aB.mk 0 0)] [(b5,2,[aE (gD t6 t8)])] hO rfl (by kernel_rfl) (fun H hO=>eC (bT [] [(5,.lp b5 0 0)] (aS aG 6 (bM 2 (gW 0 b5 2 0 (aE (gD t6 t8)) (eI ((gD t6 t8).Net)) [aE (gD t6 t8)] hO rfl (bC (cN [(3,eI (wR (n3+(if 0>((gD t6 t8).Net) then (0:Int) else ((gD t6 t8).Net))))),(6,eL aE t6),(7,eI t7),(8,eI t8)] ?_)))))))))))))));replace hO:=hO.pick (L':=[]) [] (by decide) (by kernel_rfl);exact aJ (aX (aH (aS aG 2 (bC (aJ (aH (⟨rfl,_,(oI h1).symm,aV,hO⟩)))))))
 obtain rfl:=oI h1;obtain rfl:_=b7:=b9;replace h0:GG n3=some r:=h0;exact dV 0 (aJ (aT (aT (bN (aH (⟨rfl,_,aV,hO,h0⟩))))))
theorem QZ (t0:Int)(b7 b5:Nat)(t1:(List bE))(b6:Nat)(t2:Int)(r:((List bE)×Int))(h0:sY t0 t1 t2=some r):BX Tryz.prog 105 [eI t0,.lp b7 0 0,.lp b6 0 0] [(b7,1,[mL 2 b5 t1]),(b5,2,t1.map bP),(b6,1,[eI t2])] (fun x L=>∃ b8:Nat,x=(.tup [])/\L=[(b7,1,[mL 2 b8 r.1]),(b8,2,r.1.map bP),(b6,1,[eI r.2])]):=by
 intro F H0 hO;obtain⟨Fh,Fe,Fg⟩:=F;unfold sY at h0;obtain⟨c1,h0⟩:=aZ h0;refine cX Tryz.func105 (aO (aS aG 6 (gW 0 b7 1 0 (mL 2 b5 t1) (mL 2 b5 t1) [mL 2 b5 t1] hO rfl (gW 2 b6 1 0 (eI t2) (eI t2) [eI t2] hO rfl (nM 5 [0<=t2/\t2<(lN t1)] ⟨c1,trivial⟩ (mK 1 b5 2 (0+t2.toNat) (bP (gD t1 t2)) (bP (bE.mk (gD t1 t2).From t0)) (t1.map bP) [(b7,1,[mL 2 b5 t1]),(b5,2,List.map bP (t1.set t2.toNat (bE.mk (gD t1 t2).From t0))),(b6,1,[eI t2])] hO (cM c1) (by simp only [List.set,mS]) (fun H hO=>eC ?_)))))));replace hO:aN ⟨Fh,Fe,Fg⟩ H [(b7,1,[.msl 2 b5 0 (List.length (t1.set t2.toNat (bE.mk (gD t1 t2).From t0)))]),(b5,2,List.map bP (t1.set t2.toNat (bE.mk (gD t1 t2).From t0))),(b6,1,[eI t2])]:=by simpa only [List.length_set] using hO
 obtain rfl:=oI h0;exact bT [0] [] (aS aG 3 (gW 2 b6 1 0 (eI t2) (eI t2) [eI t2] hO rfl (bM 2 (mK 2 b6 1 0 (eI t2) (eI (wR (t2+1))) [eI t2] [(b7,1,[.msl 2 b5 0 (List.length (t1.set t2.toNat (bE.mk (gD t1 t2).From t0)))]),(b5,2,List.map bP (t1.set t2.toNat (bE.mk (gD t1 t2).From t0))),(b6,1,[eI (wR (t2+1))])] hO rfl (by kernel_rfl) (fun H hO=>eC (aJ (aOE hO ⟨b5,rfl,rfl⟩)))))))
theorem aF3 (f0:(List aB))(r:(List bE))(h0:FI f0=some r):cW Tryz.prog 75 [eL aE f0] (eL bP r):=by
 intro H0;have hO:=aN.start H0;unfold FI at h0;obtain⟨x1,j5,h0⟩:=aW h0;obtain⟨c4,h0⟩:=aZ h0;refine cX Tryz.func75 (aY aG 1 [] [] (aO (aS aG 5 (bM 1 (cU (aBG f0 _ j5) hO (fun H hO=>aBe 2 16 x1 (by kernel_rfl) (by kernel_rfl) c4 hO (fun e3 H hO=>nF 1 (.sl true 0 (fun _=>.bad)) (by kernel_rfl) (by kernel_rfl) hO (fun b6 H hO=>mK 1 b6 1 0 (.sl true 0 (fun _=>.bad)) (.msl 2 e3 0 (List.length ([]:List bE))) [.sl true 0 (fun _=>.bad)] [(e3,2,List.map bP ([]:List bE)),(b6,1,[.msl 2 e3 0 (List.length ([]:List bE))])] hO rfl (by kernel_rfl) (fun H hO=>eC ?_)))))))));replace hO:=hO.pick (L':=[(b6,1,[.msl 2 e3 0 (List.length ([]:List bE))]),(e3,2,List.map bP ([]:List bE))]) [1,0] (by decide) (by kernel_rfl);refine bT [] [(3,.lp b6 0 0)] (aO (aS aG 2 (nF 1 (eI 0) (by kernel_rfl) (by kernel_rfl) hO (fun b7 H hO=>mK 2 b7 1 0 (eI 0) (eI 0) [eI 0] [(b6,1,[.msl 2 e3 0 (List.length ([]:List bE))]),(e3,2,List.map bP ([]:List bE)),(b7,1,[eI 0])] hO rfl (by kernel_rfl) (fun H hO=>eC (bT [] [(4,.lp b7 0 0)] (aY aG 2 [] [(5,.fn (.func 105) [] [.lp b6 0 0,.lp b7 0 0])] (dH (fun T H=>∃ b5:List bE,∃ dS:Int,∃ e8:Nat,Has T [(3,.lp b6 0 0),(4,.lp b7 0 0),(5,.fn (.func 105) [] [.lp b6 0 0,.lp b7 0 0])]/\aN ⟨H0,[],[]⟩ H [(b6,1,[mL 2 e8 b5]),(e8,2,b5.map bP),(b7,1,[eI dS])]/\DB b5 dS=some r) ?_ ?_))))))))
 ·rintro T H ⟨b5,dS,e8,hT,hO,h0⟩;unfold DB at h0;refine bB hT (dH (fun T H=>∃ b5:List bE,∃ c9:Nat,Has T [(3,.lp b6 0 0)]/\aN ⟨H0,[],[]⟩ H [(b6,1,[mL 2 c9 b5]),(c9,2,b5.map bP)]/\LM b5=some r) ?_ ?_)
  ·rintro T H ⟨b5,c9,hT,hO,h0⟩;unfold LM at h0;refine bB hT (aO (aS aG 2 (gW 0 b6 1 0 (mL 2 c9 b5) (mL 2 c9 b5) [mL 2 c9 b5] hO rfl (bC (cN [(2,mL 2 c9 b5)] ?_)))));replace hO:=hO.pick (L':=[(c9,2,b5.map bP)]) [1] (by decide) (by kernel_rfl);obtain rfl:=oI h0;refine aJ (aH (bK (cN [(2,mL 2 c9 b5)] (nL (en:=bP) b5 0 0 2 2 c9 b5.length hO (by kernel_rfl) (by kernel_rfl) (by kernel_rfl) (L':=[]) (by kernel_rfl) ?_))));intro j9 hO;exact aJ (Q_r hO)
  refine bS 6 (eA [(3,.lp b6 0 0),(4,.lp b7 0 0),(5,.fn (.func 105) [] [.lp b6 0 0,.lp b7 0 0])] (dJ (fun T H=>∃ b5:List bE,∃ dS:Int,∃ c5:Nat,Has T [(3,.lp b6 0 0),(4,.lp b7 0 0),(5,.fn (.func 105) [] [.lp b6 0 0,.lp b7 0 0])]/\aN ⟨H0,[],[]⟩ H [(b6,1,[mL 2 c5 b5]),(c5,2,b5.map bP),(b7,1,[eI dS])]/\LO b5 dS=some r) ?_ ⟨b5,dS,e8,aV,hO,h0⟩));rintro T H ⟨b5,dS,c5,hT,hO,h0⟩;unfold LO at h0;obtain⟨e9,g2,h0⟩:=aW h0;refine bB hT (eE (fun (s:List bE×Int) T H=>∃ c5:Nat,Has T [(3,.lp b6 0 0),(4,.lp b7 0 0),(5,.fn (.func 105) [] [.lp b6 0 0,.lp b7 0 0])]/\aN ⟨H0,[],[]⟩ H [(b6,1,[mL 2 c5 s.1]),(c5,2,s.1.map bP),(b7,1,[eI s.2])]) g2 ⟨c5,aV,hO⟩ ?_);rintro k0 s c8 T H ⟨c5,hT,hO⟩ h1 g3;obtain⟨b5,dS⟩:=s;replace h1:sJ b5 dS=some c8:=h1
  try dsimp only at hT
  unfold sJ at h1;refine bB hT (aO (aO (aS aG 4 (gW 2 b7 1 0 (eI dS) (eI dS) [eI dS] hO rfl (gW 0 b6 1 0 (mL 2 c5 b5) (mL 2 c5 b5) [mL 2 c5 b5] hO rfl (bC (bT [] [(43,aL (decide (dS<(lN b5))))] (bI h1 (fun h1=>?_) (fun h1=>?_)))))))))
  ·obtain⟨g4,h9,h1⟩:=aW h1;refine bG (bD [(3,.lp b6 0 0),(4,.lp b7 0 0),(5,.fn (.func 105) [] [.lp b6 0 0,.lp b7 0 0])] (bS 7 (aS aG 2 (bM 1 (PL [] [0,1,2] (QZ (1125899906842624:Int) b6 c5 b5 b7 dS _ h9) hO ?_)))));intro k3 k4 H j0 hO;obtain⟨g5,rfl,rfl⟩:=j0;replace hO:aN ⟨H0,[],[]⟩ H [(b6,1,[mL 2 g5 g4.1]),(g5,2,g4.1.map bP),(b7,1,[eI g4.2])]:=hO;exact eC (aJ (aX (aH (⟨rfl,_,(oI h1).symm,_,aV,hO⟩))))
  refine dV 6 ?_;replace hO:=hO.pick (L':=[(b6,1,[mL 2 c5 b5]),(c5,2,b5.map bP)]) [0,1] (by decide) (by kernel_rfl);obtain rfl:=oI h1;obtain rfl:_=e9:=g3;replace h0:LM b5=some r:=h0;exact aJ (aT (aT (bN (aH (⟨rfl,_,_,aV,hO,h0⟩)))))
 refine bW aG 3 [(3,.lp b6 0 0),(4,.lp b7 0 0),(5,.fn (.func 105) [] [.lp b6 0 0,.lp b7 0 0]),(12,eL aE f0),(13,eI (lN f0)),(14,eI 0)] (bS 0 (eA [(3,.lp b6 0 0),(4,.lp b7 0 0),(5,.fn (.func 105) [] [.lp b6 0 0,.lp b7 0 0]),(12,eL aE f0),(13,eI (lN f0)),(14,eI 0)] (dJ (fun T H=>∃ b5:List bE,∃ dS:Int,∃ t12:(List aB),∃ t13 t14:Int,∃ c6:Nat,Has T [(3,.lp b6 0 0),(4,.lp b7 0 0),(5,.fn (.func 105) [] [.lp b6 0 0,.lp b7 0 0]),(12,eL aE t12),(13,eI t13),(14,eI t14)]/\aN ⟨H0,[],[]⟩ H [(b6,1,[mL 2 c6 b5]),(c6,2,b5.map bP),(b7,1,[eI dS])]/\KY b5 dS t12 t13 t14=some r) ?_ ⟨([]:List bE),(0:Int),f0,lN f0,(0:Int),e3,aV,hO,h0⟩)));rintro T H ⟨b5,dS,t12,t13,t14,c6,hT,hO,h0⟩;unfold KY at h0;obtain⟨e9,g2,h0⟩:=aW h0;refine bB hT (eE (fun (s:List bE×Int×Int) T H=>∃ c6:Nat,Has T [(3,.lp b6 0 0),(4,.lp b7 0 0),(5,.fn (.func 105) [] [.lp b6 0 0,.lp b7 0 0]),(12,eL aE t12),(13,eI t13),(14,eI s.2.2)]/\aN ⟨H0,[],[]⟩ H [(b6,1,[mL 2 c6 s.1]),(c6,2,s.1.map bP),(b7,1,[eI s.2.1])]) g2 ⟨c6,aV,hO⟩ ?_);rintro k0 s c8 T H ⟨c6,hT,hO⟩ h1 g3;obtain⟨b5,dS,t14⟩:=s;replace h1:uB t12 t13 b5 dS t14=some c8:=h1
 try dsimp only at hT
 unfold uB at h1;refine bB hT (aY aG 1 [] [(15,aL (decide (t14<t13)))] (aO (bI h1 (fun h1=>?_) (fun h1=>?_))))
 ·refine bG (bD [(3,.lp b6 0 0),(4,.lp b7 0 0),(5,.fn (.func 105) [] [.lp b6 0 0,.lp b7 0 0]),(12,eL aE t12),(13,eI t13),(14,eI t14)] (dH (fun T H=>∃ b5:List bE,∃ dS:Int,∃ e6:Nat,Has T [(3,.lp b6 0 0),(4,.lp b7 0 0),(5,.fn (.func 105) [] [.lp b6 0 0,.lp b7 0 0]),(12,eL aE t12),(13,eI t13),(14,eI t14)]/\aN ⟨H0,[],[]⟩ H [(b6,1,[mL 2 e6 b5]),(e6,2,b5.map bP),(b7,1,[eI dS])]/\DE b5 dS t12 t13 t14=some c8) ?_ ?_))
  ·rintro T H ⟨b5,dS,e6,hT,hO,h1⟩;unfold DE at h1;exact bB hT (aS aG 2 (bC (aJ (aH (⟨rfl,_,(oI h1).symm,_,aV,hO⟩)))))
  obtain⟨j6,h1⟩:=aZ h1;refine bS 1 (aO (aS aG 4 (nM 2 [0<=t14/\t14<(lN t12)] ⟨j6,trivial⟩ (nF 2 (aE (aB.mk 0 0)) (by kernel_rfl) (by kernel_rfl) hO (fun b8 H hO=>mK 3 b8 2 0 (aE (aB.mk 0 0)) (aE (gD t12 t14)) [aE (aB.mk 0 0)] [(b6,1,[mL 2 c6 b5]),(c6,2,b5.map bP),(b7,1,[eI dS]),(b8,2,[aE (gD t12 t14)])] hO rfl (by kernel_rfl) (fun H hO=>eC (bT [] [(7,.lp b8 0 0)] (dH (fun T H=>∃ b5:List bE,∃ dS:Int,∃ j7:aB,∃ e5:Nat,Has T [(3,.lp b6 0 0),(4,.lp b7 0 0),(5,.fn (.func 105) [] [.lp b6 0 0,.lp b7 0 0]),(7,.lp b8 0 0),(12,eL aE t12),(13,eI t13),(14,eI t14)]/\aN ⟨H0,[],[]⟩ H [(b6,1,[mL 2 e5 b5]),(e5,2,b5.map bP),(b7,1,[eI dS]),(b8,2,[aE j7])]/\DK b5 dS j7 t12 t13 t14=some c8) ?_ ?_))))))))
  ·rintro T H ⟨b5,dS,j7,e5,hT,hO,h1⟩;unfold DK at h1;refine bB hT (aO (aS aG 4 (bM 1 (gW 3 b8 2 0 (aE j7) (eI j7.Net) [aE j7] hO rfl (bC (bT [] [(31,eI (wR (0-j7.Net))),(32,eI 0)] (bS 4 (eA [(3,.lp b6 0 0),(4,.lp b7 0 0),(5,.fn (.func 105) [] [.lp b6 0 0,.lp b7 0 0]),(7,.lp b8 0 0),(12,eL aE t12),(13,eI t13),(14,eI t14),(31,eI (wR (0-j7.Net))),(32,eI 0)] (dJ (fun T H=>∃ b5:List bE,∃ dS:Int,∃ j7:aB,∃ t31 t32:Int,∃ c7:Nat,Has T [(3,.lp b6 0 0),(4,.lp b7 0 0),(5,.fn (.func 105) [] [.lp b6 0 0,.lp b7 0 0]),(7,.lp b8 0 0),(12,eL aE t12),(13,eI t13),(14,eI t14),(31,eI t31),(32,eI t32)]/\aN ⟨H0,[],[]⟩ H [(b6,1,[mL 2 c7 b5]),(c7,2,b5.map bP),(b7,1,[eI dS]),(b8,2,[aE j7])]/\LJ b5 dS j7 t12 t13 t14 t31 t32=some c8) ?_ ⟨b5,dS,j7,wR (0-j7.Net),(0:Int),e5,aV,hO,h1⟩)))))))));rintro T H ⟨b5,dS,j7,t31,t32,c7,hT,hO,h1⟩;unfold LJ at h1;obtain⟨g6,g7,h1⟩:=aW h1;refine bB hT (eE (fun (s:List bE×Int×aB×Int) T H=>∃ c7:Nat,Has T [(3,.lp b6 0 0),(4,.lp b7 0 0),(5,.fn (.func 105) [] [.lp b6 0 0,.lp b7 0 0]),(7,.lp b8 0 0),(12,eL aE t12),(13,eI t13),(14,eI t14),(31,eI t31),(32,eI s.2.2.2)]/\aN ⟨H0,[],[]⟩ H [(b6,1,[mL 2 c7 s.1]),(c7,2,s.1.map bP),(b7,1,[eI s.2.1]),(b8,2,[aE s.2.2.1])]) g7 ⟨c7,aV,hO⟩ ?_);rintro k1 s e7 T H ⟨c7,hT,hO⟩ h2 g8;obtain⟨b5,dS,j7,t32⟩:=s;replace h2:sG t12 t13 t14 t31 b5 dS j7 t32=some e7:=h2
   try dsimp only at hT
   unfold sG at h2;refine bB hT (aY aG 1 [] [(33,aL (decide (t32<t31)))] (aO (bI h2 (fun h2=>?_) (fun h2=>?_))))
   ·obtain⟨g9,j3,h2⟩:=aW h2;refine bG (bD [(3,.lp b6 0 0),(4,.lp b7 0 0),(5,.fn (.func 105) [] [.lp b6 0 0,.lp b7 0 0]),(7,.lp b8 0 0),(12,eL aE t12),(13,eI t13),(14,eI t14),(31,eI t31),(32,eI t32)] (aO (bS 5 (aS aG 4 (bM 2 (gW 3 b8 2 0 (aE j7) (eI j7.At) [aE j7] hO rfl (PL [(b8,2,[aE j7])] [0,1,2,3] (QZ j7.At b6 c7 b5 b7 dS _ j3) hO ?_)))))));intro k5 k6 H j4 hO;obtain⟨h8,rfl,rfl⟩:=j4;replace hO:aN ⟨H0,[],[]⟩ H [(b6,1,[mL 2 h8 g9.1]),(h8,2,g9.1.map bP),(b7,1,[eI g9.2]),(b8,2,[aE j7])]:=hO;exact eC (cN [(3,.lp b6 0 0),(4,.lp b7 0 0),(5,.fn (.func 105) [] [.lp b6 0 0,.lp b7 0 0]),(7,.lp b8 0 0),(12,eL aE t12),(13,eI t13),(14,eI t14),(31,eI t31),(32,eI t32)] (aJ (aX (aH (aS aG 2 (bC (aJ (aH (⟨rfl,_,(oI h2).symm,_,aV,hO⟩)))))))))
   refine dV 4 ?_;replace hO:=hO.pick (L':=[(b6,1,[mL 2 c7 b5]),(c7,2,b5.map bP),(b7,1,[eI dS])]) [0,1,2] (by decide) (by kernel_rfl);obtain rfl:=oI h2;obtain rfl:_=g6:=g8;replace h1:DE b5 dS t12 t13 t14=some c8:=h1;exact aJ (aT (aT (bN (aX (aH (⟨rfl,_,_,_,aV,hO,h1⟩))))))
  refine aO (aS aG 3 (bM 1 (gW 3 b8 2 0 (aE (gD t12 t14)) (eI ((gD t12 t14).Net)) [aE (gD t12 t14)] hO rfl (bC (bT [] [(19,eI ((gD t12 t14).Net)),(20,eI 0)] (bS 2 (eA [(3,.lp b6 0 0),(4,.lp b7 0 0),(5,.fn (.func 105) [] [.lp b6 0 0,.lp b7 0 0]),(7,.lp b8 0 0),(12,eL aE t12),(13,eI t13),(14,eI t14),(19,eI ((gD t12 t14).Net)),(20,eI 0)] (dJ (fun T H=>∃ b5:List bE,∃ dS:Int,∃ j7:aB,∃ t19 t20:Int,∃ b9:Nat,Has T [(3,.lp b6 0 0),(4,.lp b7 0 0),(5,.fn (.func 105) [] [.lp b6 0 0,.lp b7 0 0]),(7,.lp b8 0 0),(12,eL aE t12),(13,eI t13),(14,eI t14),(19,eI t19),(20,eI t20)]/\aN ⟨H0,[],[]⟩ H [(b6,1,[mL 2 b9 b5]),(b9,2,b5.map bP),(b7,1,[eI dS]),(b8,2,[aE j7])]/\LN b5 dS j7 t12 t13 t14 t19 t20=some c8) ?_ ⟨b5,dS,gD t12 t14,(gD t12 t14).Net,(0:Int),c6,aV,hO,h1⟩))))))));rintro T H ⟨b5,dS,j7,t19,t20,b9,hT,hO,h1⟩;unfold LN at h1;obtain⟨g6,g7,h1⟩:=aW h1;refine bB hT (eE (fun (s:List bE×Int×aB×Int) T H=>∃ b9:Nat,Has T [(3,.lp b6 0 0),(4,.lp b7 0 0),(5,.fn (.func 105) [] [.lp b6 0 0,.lp b7 0 0]),(7,.lp b8 0 0),(12,eL aE t12),(13,eI t13),(14,eI t14),(19,eI t19),(20,eI s.2.2.2)]/\aN ⟨H0,[],[]⟩ H [(b6,1,[mL 2 b9 s.1]),(b9,2,s.1.map bP),(b7,1,[eI s.2.1]),(b8,2,[aE s.2.2.1])]) g7 ⟨b9,aV,hO⟩ ?_);rintro k1 s e7 T H ⟨b9,hT,hO⟩ h2 g8;obtain⟨b5,dS,j7,t20⟩:=s;replace h2:sI t12 t13 t14 t19 b5 dS j7 t20=some e7:=h2
  try dsimp only at hT
  unfold sI at h2;refine bB hT (aY aG 1 [] [(21,aL (decide (t20<t19)))] (aO (bI h2 (fun h2=>?_) (fun h2=>?_))))
  ·obtain⟨j8,h2⟩:=aZ h2;exact bG (bD [(3,.lp b6 0 0),(4,.lp b7 0 0),(5,.fn (.func 105) [] [.lp b6 0 0,.lp b7 0 0]),(7,.lp b8 0 0),(12,eL aE t12),(13,eI t13),(14,eI t14),(19,eI t19),(20,eI t20)] (aO (bS 3 (aS aG 7 (gW 0 b6 1 0 (mL 2 b9 b5) (mL 2 b9 b5) [mL 2 b9 b5] hO rfl (bM 2 (gW 3 b8 2 0 (aE j7) (eI j7.At) [aE j7] hO rfl (bM 4 (mW [bP (bE.mk j7.At 0)] 2 (wD bP b5 ([bE.mk j7.At 0]) 1 b9 2 16 (dB [bP (bE.mk j7.At 0)]) (fun e4=>[(b6,1,[mL 2 b9 b5]),(e4,2,List.map bP (b5++([bE.mk j7.At 0]))),(b7,1,[eI dS]),(b8,2,[aE j7])]) hO (by kernel_rfl) j8 (fun e4 H hO=>mK 0 b6 1 0 (mL 2 b9 b5) (.msl 2 e4 0 (List.length (b5++([bE.mk j7.At 0])))) [mL 2 b9 b5] [(b6,1,[.msl 2 e4 0 (List.length (b5++([bE.mk j7.At 0])))]),(e4,2,List.map bP (b5++([bE.mk j7.At 0]))),(b7,1,[eI dS]),(b8,2,[aE j7])] hO rfl (by kernel_rfl) (fun H hO=>eC (cN [(3,.lp b6 0 0),(4,.lp b7 0 0),(5,.fn (.func 105) [] [.lp b6 0 0,.lp b7 0 0]),(7,.lp b8 0 0),(12,eL aE t12),(13,eI t13),(14,eI t14),(19,eI t19),(20,eI t20)] (aJ (aX (aH (aS aG 2 (bC (aJ (aH (⟨rfl,_,(oI h2).symm,_,aV,hO⟩)))))))))))))))))))))
  obtain rfl:=oI h2;obtain rfl:_=g6:=g8;replace h1:DK b5 dS j7 t12 t13 t14=some c8:=h1;exact dV 2 (aJ (aT (aT (bN (aH (⟨rfl,_,_,_,_,aV,hO,h1⟩))))))
 obtain rfl:=oI h1;obtain rfl:_=e9:=g3;replace h0:DB b5 dS=some r:=h0;exact dV 0 (aJ (aT (aT (bN (aH (⟨rfl,_,_,_,aV,hO,h0⟩))))))
theorem aEQ (l0:(List aK))(r:((List bF)×Int))(h0:CT l0=some r):cW Tryz.prog 42 [eL aM l0] (.tup [eL bO r.1,eI r.2]):=by
 intro H0;have hO:=aN.start H0;unfold CT at h0;obtain⟨x1,g7,h0⟩:=aW h0;refine aBk aG Tryz.func42 (by kernel_rfl) (by kernel_rfl) (by kernel_rfl) (aY aG 2 [] [] (aO (bS 0 (aO (aS aG 4 (bM 1 (cU (YX l0 _ g7) hO (fun H hO=>bC (bT [] [(12,aL (!x1))] (bI h0 (fun h0=>?_) (fun h0=>?_)))))))))))
 ·obtain rfl:=oI h0;exact bW aG 2 [(2,.sl true 0 (fun _=>.bad)),(3,eI 2)] (bK (cV (l:=[(2,eL bO ([])),(3,eI 2)]) ⟨[(2,.sl true 0 (fun _=>.bad)),(3,eI 2)],by kernel_rfl,rfl,⟨dN,sR,trivial⟩⟩ (aJ (bH (aR (QM0 (.inr rfl) (rs:=[.tmp 2,.tmp 3]) (xs:=[eL bO ([]),eI 2]) (x:=(.tup [eL bO ([]),eI 2])) (by kernel_rfl) (RM (x:=(eL bO ([]))) (by kernel_rfl) (RM (x:=(eI 2)) (by kernel_rfl) wE)) (by kernel_rfl) ⟨rfl,hO.out⟩))))))
 obtain⟨x5,g8,h0⟩:=aW h0;refine aO (aS aG 4 (bM 1 (cU (aFH l0 _ g8) hO (fun H hO=>bC (bT [12] [(16,aL (!x5))] (bI h0 (fun h0=>?_) (fun h0=>?_)))))))
 ·obtain rfl:=oI h0;exact bW aG 2 [(2,.sl true 0 (fun _=>.bad)),(3,eI 20)] (bK (cV (l:=[(2,eL bO ([])),(3,eI 20)]) ⟨[(2,.sl true 0 (fun _=>.bad)),(3,eI 20)],by kernel_rfl,rfl,⟨dN,sR,trivial⟩⟩ (aJ (bH (aR (QM0 (.inr rfl) (rs:=[.tmp 2,.tmp 3]) (xs:=[eL bO ([]),eI 20]) (x:=(.tup [eL bO ([]),eI 20])) (by kernel_rfl) (RM (x:=(eL bO ([]))) (by kernel_rfl) (RM (x:=(eI 20)) (by kernel_rfl) wE)) (by kernel_rfl) ⟨rfl,hO.out⟩))))))
 obtain⟨e6,e9,h0⟩:=aW h0;refine bG (cN [(0,eL aM l0)] (aJ (aX (aH (aO (aS aG 2 (nF 1 (eI 0) (by kernel_rfl) (by kernel_rfl) hO (fun b9 H hO=>mK 0 b9 1 0 (eI 0) (eI 0) [eI 0] [(b9,1,[eI 0])] hO rfl (by kernel_rfl) (fun H hO=>eC (bT [] [(4,.lp b9 0 0)] (aO (aO (aS aG 2 (bM 1 (cU (SI l0 _ e9) hO (fun H hO=>eC (bT [] [(21,.fn (.func 51) [] [.rp (eL aM e6)])] (bS 1 (eA [(0,eL aM l0),(4,.lp b9 0 0),(21,.fn (.func 51) [] [.rp (eL aM e6)])] (dJ (fun T H=>∃ n4:Int,∃ GX:(List aK),Has T [(0,eL aM l0),(4,.lp b9 0 0),(21,.fn (.func 51) [] [.rp (eL aM GX)])]/\aN ⟨H0,[],[]⟩ H [(b9,1,[eI n4])]/\HE l0 n4 GX=some r) ?_ ⟨(0:Int),e6,aV,hO,h0⟩))))))))))))))))))));rintro T H ⟨n4,GX,hT,hO,h0⟩;unfold HE at h0;obtain⟨o0,e7,h0⟩:=aW h0;refine bB (l:=[(0,eL aM l0),(4,.lp b9 0 0),(21,.fn (.func 51) [] [.rp (eL aM GX)])]) hT (TX (fid:=51) (ys:=[]) (cs:=[.rp (eL aM GX)]) #[22,23] (fun (A:QM) (b lL:Nat) (st:(Int)⊕(Int)) (G':Gs)=>Sum.elim (fun (s:Int)=>G'=(lL,.raw (qZ b A .ready none))::(up [(b9,1,[eI s])]++[])) (fun (s:Int)=>False) st) (.inl n4) o0 (.tup []) (by kernel_rfl) (by kernel_rfl) (by kernel_rfl) hO (fun _ _=>rfl) ?_ ?_)
 ·intro b lL;refine IW _ b (fun st t22 t23=>rnd (fun (s:Int)=>uL l0 GX s t22 t23) st) ?_ GX _ _ e7;intro st t22 t23 c5 rr hr;obtain⟨s,rfl,h1,rfl⟩:=aGQ hr;clear hr;intro Hr Gr hi hg;obtain⟨n4,rfl⟩:∃ x,x=s:=⟨_,rfl⟩;dsimp only [Sum.elim_inl] at hi;obtain rfl:=hi;replace h1:uL l0 GX n4 t22 t23=some c5:=h1;unfold uL at h1;obtain⟨E1,hE,hO⟩:=KK hg;refine KH (TV (hO.gm 0 _ rfl).2 (by kernel_rfl) (by kernel_rfl) (eA [(0,eL aM l0),(4,.lp b9 0 0),(21,.fn (.func 51) [] [.rp (eL aM GX)]),(22,eL aI t22),(23,eL aE t23)] (aS aG 1 (bC (cN [(4,.lp b9 0 0),(6,eL aE t23)] (aJ (⟨rfl,rfl,(hO.gm 0 _ rfl).2,?_⟩)))))));intro o1 c6;replace hO:=hO.wV o1;obtain⟨e8,g2,h1⟩:=aW h1;obtain rfl:=oI h1;exact bS 2 (fF (fC [26]) aG 5 (jU 0 b9 1 0 (eI n4) (eI n4) [eI n4] hO rfl (jX 2 (PZ (aBG t23 _ g2) hO (fun H hO=>jX 4 (oW 0 b9 1 0 (eI n4) (eI (wR (n4+e8))) [eI n4] [(b9,1,[eI (wR (n4+e8))])] hO rfl (by kernel_rfl) (fun H hO=>qC (by kernel_rfl) (cN [(4,.lp b9 0 0)] (aJ (aX (⟨(pV hO hE c6 .dead).1,rfl,_,rfl,(pV hO hE c6 _).2⟩)))))))))))
 ·intro b e4 lL H' G' hi hO;rcases o0 with s | s
  ·dsimp only [Sum.elim_inl] at hi;obtain rfl:=hi;replace h0:(cond (decide (4096<s)) (some ([],(7:Int))) (aU (0<=s/\40*s<=281474976710656/\s<=9223372036854775807) <| (tU l0).bind fun e5=>AJ ([]:List bF) e5))=some r:=h0;obtain⟨hlL,hO⟩:=zG hO;refine⟨_,_,hlL,(by intro e; cases e),?_⟩;refine cN [(0,eL aM l0),(4,.lp b9 0 0)] (aJ (aX (aH (aO (aO (aS aG 2 (gW 0 b9 1 0 (eI s) (eI s) [eI s] hO rfl (bC (bT [] [(29,aL (decide (4096<s)))] (bI h0 (fun h0=>?_) (fun h0=>?_)))))))))))
   ·refine aO (aS aG 2 (bC (cN [(2,.sl true 0 (fun _=>.bad)),(3,eI 7)] ?_)));replace hO:=hO.pick (L':=[]) [] (by decide) (by kernel_rfl);obtain rfl:=oI h0;refine aJ (aH (bK (cV (l:=[(2,eL bO ([])),(3,eI 7)]) ⟨[(2,.sl true 0 (fun _=>.bad)),(3,eI 7)],by kernel_rfl,rfl,⟨dN,sR,trivial⟩⟩ ?_)));have hD:=(hO.gm 0 _ rfl).2;replace hO:=(hO.wV .dead).tC;exact aJ (aR (QM1 (.inr rfl) hD (rs:=[.tmp 2,.tmp 3]) (xs:=[eL bO ([]),eI 7]) (x:=(.tup [eL bO ([]),eI 7])) (by kernel_rfl) (RM (x:=(eL bO ([]))) (by kernel_rfl) (RM (x:=(eI 7)) (by kernel_rfl) wE)) (by kernel_rfl) ⟨rfl,hO.out⟩))
   obtain⟨g9,h0⟩:=aZ h0;refine bG (bD [(0,eL aM l0),(4,.lp b9 0 0)] (aO (aS aG 4 (gW 0 b9 1 0 (eI s) (eI s) [eI s] hO rfl (aBe 3 40 s (by kernel_rfl) (by kernel_rfl) g9 hO (fun c4 H hO=>nF 1 (.sl true 0 (fun _=>.bad)) (by kernel_rfl) (by kernel_rfl) hO (fun b6 H hO=>mK 2 b6 1 0 (.sl true 0 (fun _=>.bad)) (.msl 3 c4 0 (List.length ([]:List bF))) [.sl true 0 (fun _=>.bad)] [(b9,1,[eI s]),(c4,3,List.map bO ([]:List bF)),(b6,1,[.msl 3 c4 0 (List.length ([]:List bF))])] hO rfl (by kernel_rfl) (fun H hO=>eC ?_))))))));replace hO:=hO.pick (L':=[(b6,1,[.msl 3 c4 0 (List.length ([]:List bF))]),(c4,3,List.map bO ([]:List bF))]) [2,1] (by decide) (by kernel_rfl);obtain⟨e5,g3,h0⟩:=aW h0;refine bT [4] [(7,.lp b6 0 0)] (aO (aO (aS aG 2 (bM 1 (cU (SI l0 _ g3) hO (fun H hO=>eC (bT [0] [(33,.fn (.func 51) [] [.rp (eL aM e5)])] (bS 3 (eA [(7,.lp b6 0 0),(33,.fn (.func 51) [] [.rp (eL aM e5)])] (dJ (fun T H=>∃ b5:List bF,∃ HZ:(List aK),∃ b8:Nat,Has T [(7,.lp b6 0 0),(33,.fn (.func 51) [] [.rp (eL aM HZ)])]/\aN ⟨H0,[],(e4,.raw EA)::[]⟩ H [(b6,1,[mL 3 b8 b5]),(b8,3,b5.map bO)]/\AJ b5 HZ=some r) ?_ ⟨([]:List bF),e5,c4,aV,hO,h0⟩))))))))));rintro T H ⟨b5,HZ,b8,hT,hO,h0⟩;unfold AJ at h0;obtain⟨o0,e7,h0⟩:=aW h0;refine bB (l:=[(7,.lp b6 0 0),(33,.fn (.func 51) [] [.rp (eL aM HZ)])]) hT (TX (fid:=51) (ys:=[]) (cs:=[.rp (eL aM HZ)]) #[34,35] (fun (A:QM) (b lL:Nat) (st:(List bF)⊕(List bF)) (G':Gs)=>Sum.elim (fun (s:List bF)=>∃ b8:Nat,G'=(lL,.raw (qZ b A .ready none))::(up [(b6,1,[mL 3 b8 s]),(b8,3,s.map bO)]++(e4,.raw EA)::[])) (fun (s:List bF)=>False) st) (.inl b5) o0 (.tup []) (by kernel_rfl) (by kernel_rfl) (by kernel_rfl) hO (fun _ _=>⟨b8,rfl⟩) ?_ ?_)
   ·intro b lL;refine IW _ b (fun st t34 t35=>rnd (fun (s:List bF)=>uQ HZ s t34 t35) st) ?_ HZ _ _ e7;intro st t34 t35 c5 rr hr;obtain⟨s,rfl,h1,rfl⟩:=aGQ hr;clear hr;intro Hr Gr hi hg;obtain⟨b5,rfl⟩:∃ x,x=s:=⟨_,rfl⟩;dsimp only [Sum.elim_inl] at hi;obtain⟨b8,rfl⟩:=hi;replace h1:uQ HZ b5 t34 t35=some c5:=h1;unfold uQ at h1;obtain⟨E1,hE,hO⟩:=KK hg;refine KH (TV (hO.gm 0 _ rfl).2 (by kernel_rfl) (by kernel_rfl) (eA [(7,.lp b6 0 0),(33,.fn (.func 51) [] [.rp (eL aM HZ)]),(34,eL aI t34),(35,eL aE t35)] (aY aG 1 [33,34] [(8,eL aI t34)] (aS aG 1 (bC (cN [(7,.lp b6 0 0),(8,eL aI t34),(9,eL aE t35)] (aJ (⟨rfl,rfl,(hO.gm 0 _ rfl).2,?_⟩))))))));intro o1 c6;replace hO:=hO.wV o1;obtain⟨e3,g4,h1⟩:=aW h1;refine bS 4 (aO (aS aG 4 (bM 1 (cU (aF3 t35 _ g4) hO (fun H hO=>bC (bT [9] [(37,eL bP e3),(38,eI (lN e3)),(39,eI 0)] (bS 5 (eA [(7,.lp b6 0 0),(8,eL aI t34),(37,eL bP e3),(38,eI (lN e3)),(39,eI 0)] (dJ (fun T H=>∃ b5:List bF,∃ r8:(List aF),∃ t37:(List bE),∃ t38 t39:Int,∃ b7:Nat,Has T [(7,.lp b6 0 0),(8,eL aI r8),(37,eL bP t37),(38,eI t38),(39,eI t39)]/\aN ⟨Hr,E1,(lL,o1)::(e4,.raw EA)::[]⟩ H [(b6,1,[mL 3 b7 b5]),(b7,3,b5.map bO)]/\AG b5 r8 t37 t38 t39=some c5) ?_ ⟨b5,t34,e3,lN e3,(0:Int),b8,aV,hO,h1⟩)))))))));rintro T H ⟨b5,r8,t37,t38,t39,b7,hT,hO,h1⟩;unfold AG at h1;obtain⟨h8,h9,h1⟩:=aW h1;refine bB hT (eE (fun (s:List bF×Int) T H=>∃ b7:Nat,Has T [(7,.lp b6 0 0),(8,eL aI r8),(37,eL bP t37),(38,eI t38),(39,eI s.2)]/\aN ⟨Hr,E1,(lL,o1)::(e4,.raw EA)::[]⟩ H [(b6,1,[mL 3 b7 s.1]),(b7,3,s.1.map bO)]) h9 ⟨b7,aV,hO⟩ ?_);rintro k1 s g5 T H ⟨b7,hT,hO⟩ h2 c6;obtain⟨b5,t39⟩:=s;replace h2:sX r8 t37 t38 b5 t39=some g5:=h2
    try dsimp only at hT
    unfold sX at h2;refine bB hT (aY aG 1 [] [(40,aL (decide (t39<t38)))] (aO (bI h2 (fun h2=>?_) (fun h2=>?_))))
    ·obtain⟨j0,h2⟩:=aZ h2;obtain⟨c7,g6,h2⟩:=aW h2;obtain⟨j3,h2⟩:=aZ h2;exact bG (bD [(7,.lp b6 0 0),(8,eL aI r8),(37,eL bP t37),(38,eI t38),(39,eI t39)] (aO (bS 6 (aO (aS aG 4 (nM 2 [0<=t39/\t39<(lN t37)] ⟨j0,trivial⟩ (nF 2 (bP (bE.mk 0 0)) (by kernel_rfl) (by kernel_rfl) hO (fun c8 H hO=>mK 2 c8 2 0 (bP (bE.mk 0 0)) (bP (gD t37 t39)) [bP (bE.mk 0 0)] [(b6,1,[mL 3 b7 b5]),(b7,3,b5.map bO),(c8,2,[bP (gD t37 t39)])] hO rfl (by kernel_rfl) (fun H hO=>eC (bT [] [(11,.lp c8 0 0)] (eA [(7,.lp b6 0 0),(8,eL aI r8),(11,.lp c8 0 0),(37,eL bP t37),(38,eI t38),(39,eI t39)] (aEG 2 2 11 2 c8 (bP (gD t37 t39)) [(b6,1,[mL 3 b7 b5]),(b7,3,b5.map bO)] hO (by kernel_rfl) (by kernel_rfl) (by kernel_rfl) (fun H hO=>fF (fC [45,46,48]) aG 8 (jU 0 b6 1 0 (mL 3 b7 b5) (mL 3 b7 b5) [mL 3 b7 b5] hO rfl (jX 2 (PZ (ZS r8 _ g6) hO (fun H hO=>jX 5 (OF (xs:=[bO (bF.mk c7 (gD t37 t39))]) (k:=3) (by kernel_rfl) (by kernel_rfl) (MW (e:=bO) b5 ([bF.mk c7 (gD t37 t39)]) 1 b7 3 40 (dB [bO (bF.mk c7 (gD t37 t39))]) (fun c9=>[(b6,1,[mL 3 b7 b5]),(c9,3,List.map bO (b5++([bF.mk c7 (gD t37 t39)])))]) (by kernel_rfl) (by kernel_rfl) hO (by kernel_rfl) (by kernel_rfl) j3 (fun _=>by kernel_rfl) (fun c9 H hO=>oW 0 b6 1 0 (mL 3 b7 b5) (.msl 3 c9 0 (List.length (b5++([bF.mk c7 (gD t37 t39)])))) [mL 3 b7 b5] [(b6,1,[.msl 3 c9 0 (List.length (b5++([bF.mk c7 (gD t37 t39)])))]),(c9,3,List.map bO (b5++([bF.mk c7 (gD t37 t39)])))] hO rfl (by kernel_rfl) (fun H hO=>qC (by kernel_rfl) (cN [(7,.lp b6 0 0),(8,eL aI r8),(37,eL bP t37),(38,eI t38),(39,eI t39)] (aJ (aX (aH (aS aG 2 (bC (aJ (aH (⟨rfl,_,(oI h2).symm,_,aV,hO⟩))))))))))))))))))))))))))))))
    obtain rfl:=oI h2;obtain rfl:_=h8:=c6;replace h1:some (.inl b5)=some c5:=h1;obtain rfl:=oI h1;exact dV 5 (cN [(7,.lp b6 0 0)] (aJ (aT (aT (bN (aX (⟨(pV hO hE c6 .dead).1,rfl,_,⟨b7,rfl⟩,(pV hO hE c6 _).2⟩)))))))
   ·intro b j4 lL H' G' hi hO;rcases o0 with s | s
    ·dsimp only [Sum.elim_inl] at hi;obtain⟨b8,rfl⟩:=hi;replace h0:(some (s,(0:Int)))=some r:=h0;obtain⟨hlL,hO⟩:=zG hO;refine⟨_,_,hlL,(by intro e;cases e),?_⟩;refine cN [(7,.lp b6 0 0)] (aJ (aX (aH (aO (aS aG 3 (gW 0 b6 1 0 (mL 3 b8 s) (mL 3 b8 s) [mL 3 b8 s] hO rfl (bC (cN [(2,mL 3 b8 s),(3,eI 0)] ?_))))))));replace hO:=hO.pick (L':=[(b8,3,s.map bO)]) [1] (by decide) (by kernel_rfl);obtain rfl:=oI h0;refine aJ (aH (bK (cN [(2,mL 3 b8 s),(3,eI 0)] (nL (en:=bO) s 0 0 2 3 b8 s.length hO (by kernel_rfl) (by kernel_rfl) (by kernel_rfl) (L':=[]) (by kernel_rfl) ?_))));intro j5 hO;have hD:=(hO.gm 0 _ rfl).2;have hE:=(hO.gm 1 _ rfl).2;have hF:=hO.gn 0 1 _ _ rfl rfl (by decide);replace hO:=((hO.wV .dead).tC.wV .dead).tC;exact aJ (QM2 (.inr rfl) hD hE hF (rs:=[.tmp 2,.tmp 3]) (xs:=[eL bO s,eI 0]) (x:=(.tup [eL bO s,eI 0])) (by kernel_rfl) (RM (x:=(eL bO s)) (by kernel_rfl) (RM (x:=(eI 0)) (by kernel_rfl) wE)) (by kernel_rfl) ⟨rfl,hO.out⟩)
    ·exact hi.elim
  ·exact hi.elim
theorem aGV (lo lm:Nat)(b:cE)(r:List bF×Int)(h0:OA b=some r):vO Tryz.prog 17 [.lp lo 0 0] [eZ lm b] [mX lo lm b] (fun x M L=>x=(.tup [eL bO r.1,eI r.2])/\M=[eZ lm b]/\L=[mX lo lm b]):=by
 intro F H0 hO;obtain⟨Fh,Fe,Fg⟩:=F;refine cX Tryz.func17 ?_;replace hO:aN ⟨Fh,Fe,(lm,lO aC b.cells)::Fg⟩ _ [(lo,3,[.agg [.mp lm,eI b.edges,eI b.mark]])]:=hO;unfold OA at h0;obtain⟨x1,hx1,h0⟩:=aW h0;obtain⟨x2,b5,h0⟩:=aW h0;obtain rfl:=oI h0;refine aY aG 2 [] [] (aO (aO (aS aG 2 (bM 1 (LY false (eC (bD [(0,.lp lo 0 0),(5,aL false)] ?_)))))));refine pX (false) (fun hc=>by cases hc) (fun hc=>?_);refine bG (bD [(0,.lp lo 0 0)] (aO (aS aG 7 (bM 1 (aLY [eZ lm b] [] [0] (XT lo lm b _ hx1) hO ?_)))));intro r1 M1 L1 H hP hO;obtain⟨rfl,rfl,rfl⟩:=hP;replace hO:aN ⟨Fh,Fe,(lm,lO aC b.cells)::Fg⟩ H [(lo,3,[.agg [.mp lm,eI b.edges,eI b.mark]])]:=hO;exact cU (aEQ x1 _ b5) hO (fun H hO=>bC (bD [(2,eL bO x2.1),(3,eI x2.2)] (bK (aJ (UX (M:=[eZ lm b]) hO ⟨rfl,rfl,rfl⟩)))))
theorem aEW (f0:(List aB))(r:((List bE)×Int))(h0:CI f0=some r):cW Tryz.prog 44 [eL aE f0] (.tup [eL bP r.1,eI r.2]):=by
 intro H0;have hO:=aN.start H0;unfold CI at h0;obtain⟨x1,m4,h0⟩:=aW h0;refine cX Tryz.func44 (aY aG 2 [] [] (aO (aO (aS aG 3 (bM 1 (cU (zV f0 _ m4) hO (fun H hO=>bC (bT [] [(16,aL (!x1))] (bI h0 (fun h0=>?_) (fun h0=>?_))))))))))
 ·obtain rfl:=oI h0;exact bW aG 2 [(2,.sl true 0 (fun _=>.bad)),(3,eI 2)] (bK (cV (l:=[(2,eL bP ([])),(3,eI 2)]) ⟨[(2,.sl true 0 (fun _=>.bad)),(3,eI 2)],by kernel_rfl,rfl,⟨dN,sR,trivial⟩⟩ (aJ (aR (Q_r hO)))))
 obtain⟨x5,m5,h0⟩:=aW h0;refine bG (bD [(0,eL aE f0)] (aO (aO (aS aG 3 (bM 1 (cU (ZW f0 _ m5) hO (fun H hO=>bC (bT [] [(19,aL (decide (x5<0)))] (bI h0 (fun h0=>?_) (fun h0=>?_))))))))))
 ·obtain rfl:=oI h0;exact bW aG 2 [(2,.sl true 0 (fun _=>.bad)),(3,eI 20)] (bK (cV (l:=[(2,eL bP ([])),(3,eI 20)]) ⟨[(2,.sl true 0 (fun _=>.bad)),(3,eI 20)],by kernel_rfl,rfl,⟨dN,sR,trivial⟩⟩ (aJ (aR (Q_r hO)))))
 refine bG (bD [(0,eL aE f0)] (aO (aS aG 2 (mW [] 1 (bC (bT [] [(4,.sl true 0 (fun _=>.bad))] (aO (aS aG 2 (mW [] 1 (bC (bT [] [(5,.sl true 0 (fun _=>.bad))] (aY aG 1 [] [(6,eI 0)] (dH (fun T H=>∃ bJ:List Int,∃ cA:List Int,∃ n6:Int,∃ g7 e6:Nat,Has T [(0,eL aE f0),(4,mL 1 g7 bJ),(5,mL 1 e6 cA),(6,eI n6)]/\aN ⟨H0,[],[]⟩ H [(g7,1,List.map (eI) bJ),(e6,1,List.map (eI) cA)]/\xD f0 bJ cA n6=some r) ?_ ?_)))))))))))))
 ·rintro T H ⟨bJ,cA,n6,g7,e6,hT,hO,h0⟩;unfold xD at h0;refine bB hT (aO (aY aG 2 [6] [(42,aL (decide (4096<n6)))] (bI h0 (fun h0=>?_) (fun h0=>?_))))
  ·refine aO (aS aG 2 (bC (cN [(2,.sl true 0 (fun _=>.bad)),(3,eI 7)] ?_)));replace hO:=hO.pick (L':=[]) [] (by decide) (by kernel_rfl);obtain rfl:=oI h0;exact aJ (aH (bK (cV (l:=[(2,eL bP ([])),(3,eI 7)]) ⟨[(2,.sl true 0 (fun _=>.bad)),(3,eI 7)],by kernel_rfl,rfl,⟨dN,sR,trivial⟩⟩ (aJ (aR (Q_r hO))))))
  refine bG (bD [(0,eL aE f0),(4,mL 1 g7 bJ),(5,mL 1 e6 cA)] (dH (fun T H=>∃ bJ:List Int,∃ cA:List Int,∃ g3 g4:Nat,Has T [(4,mL 1 g3 bJ),(5,mL 1 g4 cA)]/\aN ⟨H0,[],[]⟩ H [(g3,1,List.map (eI) bJ),(g4,1,List.map (eI) cA)]/\AY bJ cA=some r) ?_ ?_))
  ·rintro T H ⟨bJ,cA,g3,g4,hT,hO,h0⟩;unfold AY at h0;refine bB hT (aO (aS aG 2 (mW [] 2 (bC (bT [] [(11,.sl true 0 (fun _=>.bad))] (dH (fun T H=>∃ kL:List bE,∃ e7:Nat,Has T [(11,mL 2 e7 kL)]/\aN ⟨H0,[],[]⟩ H [(e7,2,kL.map bP)]/\HJ kL=some r) ?_ ?_))))))
   ·rintro T H ⟨kL,e7,hT,hO,h0⟩;unfold HJ at h0;obtain rfl:=oI h0;refine bB hT (bW aG 3 [(2,mL 2 e7 kL),(3,eI 0)] (bK (cN [(2,mL 2 e7 kL),(3,eI 0)] (nL (en:=bP) kL 0 0 2 2 e7 kL.length hO (by kernel_rfl) (by kernel_rfl) (by kernel_rfl) (L':=[]) (by kernel_rfl) ?_))));intro n9 hO;exact aJ (Q_r hO)
   refine aY aG 1 [] [(12,eI 0)] (bS 8 (eA [(4,mL 1 g3 bJ),(5,mL 1 g4 cA),(11,.sl true 0 (fun _=>.bad)),(12,eI 0)] (vI (el:=(fun _=>.bad)) 2 11 2 hO (by kernel_rfl) ?_)));intro k8 p0 hO;refine dJ (fun T H=>∃ bJ:List Int,∃ cA:List Int,∃ kL:List bE,∃ i12:Int,∃ b6 b7 b8:Nat,Has T [(4,mL 1 b6 bJ),(5,mL 1 b7 cA),(11,mL 2 b8 kL),(12,eI i12)]/\aN ⟨H0,[],[]⟩ H [(b6,1,List.map (eI) bJ),(b7,1,List.map (eI) cA),(b8,2,kL.map bP)]/\BD bJ cA kL i12=some r) ?_ ⟨bJ,cA,([]:List bE),(0:Int),g3,g4,k8,aV,hO,h0⟩;rintro T H ⟨bJ,cA,kL,i12,b6,b7,b8,hT,hO,h0⟩;unfold BD at h0;obtain⟨h8,h9,h0⟩:=aW h0;refine bB hT (eE (fun (s:List Int×List Int×List bE×Int) T H=>∃ b6 b7 b8:Nat,Has T [(4,mL 1 b6 s.1),(5,mL 1 b7 s.2.1),(11,mL 2 b8 s.2.2.1),(12,eI s.2.2.2)]/\aN ⟨H0,[],[]⟩ H [(b6,1,List.map (eI) s.1),(b7,1,List.map (eI) s.2.1),(b8,2,s.2.2.1.map bP)]) h9 ⟨b6,b7,b8,aV,hO⟩ ?_);rintro k0 s b5 T H ⟨b6,b7,b8,hT,hO⟩ h1 j0;obtain⟨bJ,cA,kL,i12⟩:=s;replace h1:pQ bJ cA kL i12=some b5:=h1
   try dsimp only at hT
   unfold pQ at h1;refine bB hT (aO (aY aG 4 [] [(88,aL (decide (i12<(lN bJ))))] (bI h1 (fun h1=>?_) (fun h1=>?_))))
   ·obtain⟨k6,h1⟩:=aZ h1;refine bG (bD [(4,mL 1 b6 bJ),(5,mL 1 b7 cA),(11,mL 2 b8 kL),(12,eI i12)] (aO (bS 9 (aO (aS aG 7 (nM 3 [0<=i12/\i12<(lN bJ)] ⟨k6,trivial⟩ (gW 0 b6 1 (0+i12.toNat) (eI (gD bJ i12)) (eI (gD bJ i12)) (List.map (eI) bJ) hO (cM k6) (bM 5 (nF 2 (bP (bE.mk 0 0)) (by kernel_rfl) (by kernel_rfl) hO (fun e3 H hO=>mK 3 e3 2 0 (bP (bE.mk 0 0)) (bP (bE.mk (gD bJ i12) (1125899906842624:Int))) [bP (bE.mk 0 0)] [(b6,1,List.map (eI) bJ),(b7,1,List.map (eI) cA),(b8,2,kL.map bP),(e3,2,[bP (bE.mk (gD bJ i12) (1125899906842624:Int))])] hO rfl (by kernel_rfl) (fun H hO=>eC (bT [] [(13,.lp e3 0 0)] (dH (fun T H=>∃ bJ:List Int,∃ cA:List Int,∃ kL:List bE,∃ c9:bE,∃ e8 e9 g8:Nat,Has T [(4,mL 1 e8 bJ),(5,mL 1 e9 cA),(11,mL 2 g8 kL),(12,eI i12),(13,.lp e3 0 0)]/\aN ⟨H0,[],[]⟩ H [(e8,1,List.map (eI) bJ),(e9,1,List.map (eI) cA),(g8,2,kL.map bP),(e3,2,[bP c9])]/\xF bJ cA kL i12 c9=some b5) ?_ ?_)))))))))))))
    ·rintro T H ⟨bJ,cA,kL,c9,e8,e9,g8,hT,hO,h1⟩;unfold xF at h1;obtain⟨m6,h1⟩:=aZ h1;refine bB hT (aS aG 5 (bM 1 (gW 3 e3 2 0 (bP c9) (bP c9) [bP c9] hO rfl (mW [bP c9] 2 (wD bP kL ([c9]) 2 g8 2 16 (dB [bP c9]) (fun g9=>[(e8,1,List.map (eI) bJ),(e9,1,List.map (eI) cA),(g9,2,List.map bP (kL++([c9]))),(e3,2,[bP c9])]) hO (by kernel_rfl) m6 (fun g9 H hO=>bC (cN [(4,mL 1 e8 bJ),(5,mL 1 e9 cA),(11,.msl 2 g9 0 (List.length (kL++([c9])))),(12,eI i12)] ?_)))))));replace hO:=hO.pick (L':=[(e8,1,List.map (eI) bJ),(e9,1,List.map (eI) cA),(g9,2,List.map bP (kL++([c9])))]) [0,1,2] (by decide) (by kernel_rfl);exact aJ (aX (aH (aS aG 3 (bC (aJ (aH (⟨rfl,_,(oI h1).symm,_,_,_,aV,hO⟩)))))))
    refine aY aG 4 [] [(99,aL (decide (i12<(lN cA))))] (bI h1 (fun h1=>?_) (fun h1=>?_))
    ·obtain⟨k7,h1⟩:=aZ h1;exact aS aG 6 (nM 3 [0<=i12/\i12<(lN cA)] ⟨k7,trivial⟩ (gW 1 b7 1 (0+i12.toNat) (eI (gD cA i12)) (eI (gD cA i12)) (List.map (eI) cA) hO (cM k7) (bM 5 (mK 3 e3 2 0 (bP (bE.mk (gD bJ i12) (1125899906842624:Int))) (bP (bE.mk (bE.mk (gD bJ i12) (1125899906842624:Int)).From (gD cA i12))) [bP (bE.mk (gD bJ i12) (1125899906842624:Int))] [(b6,1,List.map (eI) bJ),(b7,1,List.map (eI) cA),(b8,2,kL.map bP),(e3,2,[bP (bE.mk (bE.mk (gD bJ i12) (1125899906842624:Int)).From (gD cA i12))])] hO rfl (by kernel_rfl) (fun H hO=>eC (aJ (aH (⟨rfl,_,_,_,_,_,_,_,aV,hO,h1⟩))))))))
    exact bG (aJ (aH (⟨rfl,_,_,_,_,_,_,_,aV,hO,h1⟩)))
   refine dV 8 ?_;replace hO:=hO.pick (L':=[(b8,2,kL.map bP)]) [2] (by decide) (by kernel_rfl);obtain rfl:=oI h1;obtain rfl:_=h8:=j0;replace h0:HJ kL=some r:=h0;exact aJ (aT (aT (bN (aH (⟨rfl,_,_,aV,hO,h0⟩)))))
  refine aY aG 1 [] [(8,eI 0)] (bS 2 (eA [(0,eL aE f0),(4,mL 1 g7 bJ),(5,mL 1 e6 cA),(8,eI 0)] (dJ (fun T H=>∃ bJ:List Int,∃ cA:List Int,∃ i8:Int,∃ b9 c4:Nat,Has T [(0,eL aE f0),(4,mL 1 b9 bJ),(5,mL 1 c4 cA),(8,eI i8)]/\aN ⟨H0,[],[]⟩ H [(b9,1,List.map (eI) bJ),(c4,1,List.map (eI) cA)]/\AZ f0 bJ cA i8=some r) ?_ ⟨bJ,cA,(0:Int),g7,e6,aV,hO,h0⟩)));rintro T H ⟨bJ,cA,i8,b9,c4,hT,hO,h0⟩;unfold AZ at h0;obtain⟨h8,h9,h0⟩:=aW h0;refine bB hT (eE (fun (s:List Int×List Int×Int) T H=>∃ b9 c4:Nat,Has T [(0,eL aE f0),(4,mL 1 b9 s.1),(5,mL 1 c4 s.2.1),(8,eI s.2.2)]/\aN ⟨H0,[],[]⟩ H [(b9,1,List.map (eI) s.1),(c4,1,List.map (eI) s.2.1)]) h9 ⟨b9,c4,aV,hO⟩ ?_);rintro k0 s b5 T H ⟨b9,c4,hT,hO⟩ h1 j0;obtain⟨bJ,cA,i8⟩:=s;replace h1:sP f0 bJ cA i8=some b5:=h1
  try dsimp only at hT
  unfold sP at h1;refine bB hT (aO (aY aG 4 [] [(46,aL (decide (i8<(lN f0))))] (bI h1 (fun h1=>?_) (fun h1=>?_))))
  ·refine bG (bD [(0,eL aE f0),(4,mL 1 b9 bJ),(5,mL 1 c4 cA),(8,eI i8)] (dH (fun T H=>∃ bJ:List Int,∃ cA:List Int,∃ j3 j4:Nat,Has T [(0,eL aE f0),(4,mL 1 j3 bJ),(5,mL 1 j4 cA),(8,eI i8)]/\aN ⟨H0,[],[]⟩ H [(j3,1,List.map (eI) bJ),(j4,1,List.map (eI) cA)]/\BB f0 bJ cA i8=some b5) ?_ ?_))
   ·rintro T H ⟨bJ,cA,j3,j4,hT,hO,h1⟩;unfold BB at h1;exact bB hT (aS aG 3 (bC (aJ (aH (⟨rfl,_,(oI h1).symm,_,_,aV,hO⟩)))))
   refine bS 3 (dH (fun T H=>∃ bJ:List Int,∃ cA:List Int,∃ g5 g6:Nat,Has T [(0,eL aE f0),(4,mL 1 g5 bJ),(5,mL 1 g6 cA),(8,eI i8)]/\aN ⟨H0,[],[]⟩ H [(g5,1,List.map (eI) bJ),(g6,1,List.map (eI) cA)]/\AN f0 bJ cA i8=some b5) ?_ ?_)
   ·rintro T H ⟨bJ,cA,g5,g6,hT,hO,h1⟩;unfold AN at h1;refine bB hT (aY aG 1 [] [(10,eI 0)] (bS 6 (eA [(0,eL aE f0),(4,mL 1 g5 bJ),(5,mL 1 g6 cA),(8,eI i8),(10,eI 0)] (dJ (fun T H=>∃ bJ:List Int,∃ cA:List Int,∃ g2:Int,∃ c5 c7:Nat,Has T [(0,eL aE f0),(4,mL 1 c5 bJ),(5,mL 1 c7 cA),(8,eI i8),(10,eI g2)]/\aN ⟨H0,[],[]⟩ H [(c5,1,List.map (eI) bJ),(c7,1,List.map (eI) cA)]/\GW f0 bJ cA i8 g2=some b5) ?_ ⟨bJ,cA,(0:Int),g5,g6,aV,hO,h1⟩))));rintro T H ⟨bJ,cA,g2,c5,c7,hT,hO,h1⟩;unfold GW at h1;obtain⟨k3,k4,h1⟩:=aW h1;refine bB hT (eE (fun (s:List Int×List Int×Int) T H=>∃ c5 c7:Nat,Has T [(0,eL aE f0),(4,mL 1 c5 s.1),(5,mL 1 c7 s.2.1),(8,eI i8),(10,eI s.2.2)]/\aN ⟨H0,[],[]⟩ H [(c5,1,List.map (eI) s.1),(c7,1,List.map (eI) s.2.1)]) k4 ⟨c5,c7,aV,hO⟩ ?_);rintro k1 s j5 T H ⟨c5,c7,hT,hO⟩ h2 k5;obtain⟨bJ,cA,g2⟩:=s;replace h2:sO f0 i8 bJ cA g2=some j5:=h2
    try dsimp only at hT
    unfold sO at h2;obtain⟨m7,h2⟩:=aZ h2;refine bB hT (aO (aO (aS aG 8 (nI [0<=i8/\i8<(lN f0)] ⟨m7,trivial⟩ (bT [] [(73,aL (decide (g2<(wR (0-((gD f0 i8).Net))))))] (bI h2 (fun h2=>?_) (fun h2=>?_)))))))
    ·obtain⟨m8,h2⟩:=aZ h2;obtain⟨m9,h2⟩:=aZ h2;exact bG (bD [(0,eL aE f0),(4,mL 1 c5 bJ),(5,mL 1 c7 cA),(8,eI i8),(10,eI g2)] (aO (bS 7 (aS aG 9 (nM 6 [0<=i8/\i8<(lN f0)] ⟨m8,trivial⟩ (mW [eI ((gD f0 i8).At)] 1 (wD (eI) cA ([(gD f0 i8).At]) 1 c7 1 8 (dB [eI ((gD f0 i8).At)]) (fun j6=>[(c5,1,List.map (eI) bJ),(j6,1,List.map (eI) (cA++([(gD f0 i8).At])))]) hO (by kernel_rfl) m9 (fun j6 H hO=>bC (cN [(0,eL aE f0),(4,mL 1 c5 bJ),(5,.msl 1 j6 0 (List.length (cA++([(gD f0 i8).At])))),(8,eI i8),(10,eI g2)] (aJ (aX (aH (aS aG 3 (bC (aJ (aH (⟨rfl,_,(oI h2).symm,_,_,aV,hO⟩)))))))))))))))))
    obtain rfl:=oI h2;obtain rfl:_=k3:=k5;replace h1:BB f0 bJ cA i8=some b5:=h1;exact dV 6 (aJ (aT (aT (bN (aX (aH (⟨rfl,_,_,_,_,aV,hO,h1⟩)))))))
   refine aY aG 1 [] [(9,eI 0)] (bS 4 (eA [(0,eL aE f0),(4,mL 1 b9 bJ),(5,mL 1 c4 cA),(8,eI i8),(9,eI 0)] (dJ (fun T H=>∃ bJ:List Int,∃ cA:List Int,∃ k9:Int,∃ c8 c6:Nat,Has T [(0,eL aE f0),(4,mL 1 c8 bJ),(5,mL 1 c6 cA),(8,eI i8),(9,eI k9)]/\aN ⟨H0,[],[]⟩ H [(c8,1,List.map (eI) bJ),(c6,1,List.map (eI) cA)]/\EO f0 bJ cA i8 k9=some b5) ?_ ⟨bJ,cA,(0:Int),b9,c4,aV,hO,h1⟩)));rintro T H ⟨bJ,cA,k9,c8,c6,hT,hO,h1⟩;unfold EO at h1;obtain⟨k3,k4,h1⟩:=aW h1;refine bB hT (eE (fun (s:List Int×List Int×Int) T H=>∃ c8 c6:Nat,Has T [(0,eL aE f0),(4,mL 1 c8 s.1),(5,mL 1 c6 s.2.1),(8,eI i8),(9,eI s.2.2)]/\aN ⟨H0,[],[]⟩ H [(c8,1,List.map (eI) s.1),(c6,1,List.map (eI) s.2.1)]) k4 ⟨c8,c6,aV,hO⟩ ?_);rintro k1 s j5 T H ⟨c8,c6,hT,hO⟩ h2 k5;obtain⟨bJ,cA,k9⟩:=s;replace h2:rV f0 i8 bJ cA k9=some j5:=h2
   try dsimp only at hT
   unfold rV at h2;obtain⟨n3,h2⟩:=aZ h2;refine bB hT (aO (aO (aS aG 7 (nI [0<=i8/\i8<(lN f0)] ⟨n3,trivial⟩ (bT [] [(55,aL (decide (k9<((gD f0 i8).Net))))] (bI h2 (fun h2=>?_) (fun h2=>?_)))))))
   ·obtain⟨n4,h2⟩:=aZ h2;obtain⟨n5,h2⟩:=aZ h2;exact bG (bD [(0,eL aE f0),(4,mL 1 c8 bJ),(5,mL 1 c6 cA),(8,eI i8),(9,eI k9)] (aO (bS 5 (aS aG 9 (nM 6 [0<=i8/\i8<(lN f0)] ⟨n4,trivial⟩ (mW [eI ((gD f0 i8).At)] 1 (wD (eI) bJ ([(gD f0 i8).At]) 0 c8 1 8 (dB [eI ((gD f0 i8).At)]) (fun j7=>[(j7,1,List.map (eI) (bJ++([(gD f0 i8).At]))),(c6,1,List.map (eI) cA)]) hO (by kernel_rfl) n5 (fun j7 H hO=>bC (cN [(0,eL aE f0),(4,.msl 1 j7 0 (List.length (bJ++([(gD f0 i8).At])))),(5,mL 1 c6 cA),(8,eI i8),(9,eI k9)] (aJ (aX (aH (aS aG 3 (bC (aJ (aH (⟨rfl,_,(oI h2).symm,_,_,aV,hO⟩)))))))))))))))))
   obtain rfl:=oI h2;obtain rfl:_=k3:=k5;replace h1:AN f0 bJ cA i8=some b5:=h1;exact dV 4 (aJ (aT (aT (bN (aH (⟨rfl,_,_,_,_,aV,hO,h1⟩))))))
  obtain rfl:=oI h1;obtain rfl:_=h8:=j0;replace h0:AY bJ cA=some r:=h0;exact dV 2 (aJ (aT (aT (bN (aH (⟨rfl,_,_,_,_,aV,hO,h0⟩))))))
 refine aY aG 1 [] [(7,eI 0)] (bS 0 (eA [(0,eL aE f0),(4,.sl true 0 (fun _=>.bad)),(5,.sl true 0 (fun _=>.bad)),(6,eI 0),(7,eI 0)] (vI (el:=(fun _=>.bad)) 1 4 1 hO (by kernel_rfl) (fun m0 p4 hO=>vI (el:=(fun _=>.bad)) 2 5 1 hO (by kernel_rfl) ?_))));intro m3 p5 hO;refine dJ (fun T H=>∃ bJ:List Int,∃ cA:List Int,∃ n6 i7:Int,∃ e4 e5:Nat,Has T [(0,eL aE f0),(4,mL 1 e4 bJ),(5,mL 1 e5 cA),(6,eI n6),(7,eI i7)]/\aN ⟨H0,[],[]⟩ H [(e4,1,List.map (eI) bJ),(e5,1,List.map (eI) cA)]/\zD f0 bJ cA n6 i7=some r) ?_ ⟨([]:List Int),([]:List Int),(0:Int),(0:Int),m0,m3,aV,hO,h0⟩;rintro T H ⟨bJ,cA,n6,i7,e4,e5,hT,hO,h0⟩;unfold zD at h0;obtain⟨h8,h9,h0⟩:=aW h0;refine bB hT (eE (fun (s:List Int×List Int×Int×Int) T H=>∃ e4 e5:Nat,Has T [(0,eL aE f0),(4,mL 1 e4 s.1),(5,mL 1 e5 s.2.1),(6,eI s.2.2.1),(7,eI s.2.2.2)]/\aN ⟨H0,[],[]⟩ H [(e4,1,List.map (eI) s.1),(e5,1,List.map (eI) s.2.1)]) h9 ⟨e4,e5,aV,hO⟩ ?_);rintro k0 s b5 T H ⟨e4,e5,hT,hO⟩ h1 j0;obtain⟨bJ,cA,n6,i7⟩:=s;replace h1:rT f0 bJ cA n6 i7=some b5:=h1
 try dsimp only at hT
 unfold rT at h1;refine bB hT (aO (aY aG 4 [] [(25,aL (decide (i7<(lN f0))))] (bI h1 (fun h1=>?_) (fun h1=>?_))))
 ·refine bG (bD [(0,eL aE f0),(4,mL 1 e4 bJ),(5,mL 1 e5 cA),(6,eI n6),(7,eI i7)] (dH (fun T H=>∃ bJ:List Int,∃ cA:List Int,∃ n6:Int,∃ j8 j9:Nat,Has T [(0,eL aE f0),(4,mL 1 j8 bJ),(5,mL 1 j9 cA),(6,eI n6),(7,eI i7)]/\aN ⟨H0,[],[]⟩ H [(j8,1,List.map (eI) bJ),(j9,1,List.map (eI) cA)]/\vW f0 bJ cA n6 i7=some b5) ?_ ?_))
  ·rintro T H ⟨bJ,cA,n6,j8,j9,hT,hO,h1⟩;unfold vW at h1;exact bB hT (aS aG 3 (bC (aJ (aH (⟨rfl,_,(oI h1).symm,_,_,aV,hO⟩)))))
  obtain⟨n7,h1⟩:=aZ h1;refine bS 1 (aO (aS aG 6 (nI [0<=i7/\i7<(lN f0)] ⟨n7,trivial⟩ (bT [] [(33,aL (decide (0<((gD f0 i7).Net))))] (bI h1 (fun h1=>?_) (fun h1=>?_))))))
  ·obtain⟨n8,h1⟩:=aZ h1;exact aS aG 8 (nI [0<=i7/\i7<(lN f0)] ⟨n8,trivial⟩ (aJ (aX (aH (⟨rfl,_,_,_,_,_,aV,hO,h1⟩)))))
  exact bG (aJ (aX (aH (⟨rfl,_,_,_,_,_,aV,hO,h1⟩))))
 obtain rfl:=oI h1;obtain rfl:_=h8:=j0;replace h0:xD f0 bJ cA n6=some r:=h0;exact dV 0 (aJ (aT (aT (bN (aH (⟨rfl,_,_,_,_,_,aV,hO,h0⟩))))))
theorem aDS (l0:(List aK))(r:((List bF)×Int))(h0:AF l0=some r):cW Tryz.prog 18 [eL aM l0] (.tup [eL bO r.1,eI r.2]):=by
 intro H0;have hO:=aN.start H0;unfold AF at h0;obtain⟨x1,e8,h0⟩:=aW h0;refine cX Tryz.func18 (aY aG 2 [] [] (aO (aO (aS aG 3 (bM 1 (cU (DW l0 _ e8) hO (fun H hO=>bC (bT [] [(12,aL (!x1))] (bI h0 (fun h0=>?_) (fun h0=>?_))))))))))
 ·obtain rfl:=oI h0;exact bW aG 2 [(2,.sl true 0 (fun _=>.bad)),(3,eI 2)] (bK (cV (l:=[(2,eL bO ([])),(3,eI 2)]) ⟨[(2,.sl true 0 (fun _=>.bad)),(3,eI 2)],by kernel_rfl,rfl,⟨dN,sR,trivial⟩⟩ (aJ (aR (Q_r hO)))))
 obtain⟨x5,e9,h0⟩:=aW h0;refine bG (bD [(0,eL aM l0)] (aO (aO (aS aG 3 (bM 1 (cU (ZZ l0 _ e9) hO (fun H hO=>bC (bT [] [(15,aL (!x5))] (bI h0 (fun h0=>?_) (fun h0=>?_))))))))))
 ·obtain rfl:=oI h0;exact bW aG 2 [(2,.sl true 0 (fun _=>.bad)),(3,eI 20)] (bK (cV (l:=[(2,eL bO ([])),(3,eI 20)]) ⟨[(2,.sl true 0 (fun _=>.bad)),(3,eI 20)],by kernel_rfl,rfl,⟨dN,sR,trivial⟩⟩ (aJ (aR (Q_r hO)))))
 obtain⟨x9,e3,h0⟩:=aW h0;refine bG (bD [(0,eL aM l0)] (aO (aS aG 2 (mW [] 3 (bC (bT [] [(4,.sl true 0 (fun _=>.bad))] (aO (aS aG 3 (bM 1 (cU (FX l0 _ e3) hO (fun H hO=>bC (bT [] [(5,eL (eL aI) x9)] (dH (fun T H=>∃ b5:List bF,∃ b9:Nat,Has T [(4,mL 3 b9 b5)]/\aN ⟨H0,[],[]⟩ H [(b9,3,b5.map bO)]/\yY b5=some r) ?_ ?_)))))))))))))
 ·rintro T H ⟨b5,b9,hT,hO,h0⟩;unfold yY at h0;obtain rfl:=oI h0;refine bB hT (bW aG 3 [(2,mL 3 b9 b5),(3,eI 0)] (bK (cN [(2,mL 3 b9 b5),(3,eI 0)] (nL (en:=bO) b5 0 0 2 3 b9 b5.length hO (by kernel_rfl) (by kernel_rfl) (by kernel_rfl) (L':=[]) (by kernel_rfl) ?_))));intro j0 hO;exact aJ (Q_r hO)
 refine aY aG 1 [] [(6,eI 0)] (bS 0 (eA [(0,eL aM l0),(4,.sl true 0 (fun _=>.bad)),(5,eL (eL aI) x9),(6,eI 0)] (vI (el:=(fun _=>.bad)) 1 4 3 hO (by kernel_rfl) ?_)));intro e4 j3 hO;refine dJ (fun T H=>∃ b5:List bF,∃ eH:(List (List aF)),∃ i6:Int,∃ b6:Nat,Has T [(0,eL aM l0),(4,mL 3 b6 b5),(5,eL (eL aI) eH),(6,eI i6)]/\aN ⟨H0,[],[]⟩ H [(b6,3,b5.map bO)]/\EN l0 b5 eH i6=some r) ?_ ⟨([]:List bF),x9,(0:Int),e4,aV,hO,h0⟩;rintro T H ⟨b5,eH,i6,b6,hT,hO,h0⟩;unfold EN at h0;obtain⟨c8,g2,h0⟩:=aW h0;refine bB hT (eE (fun (s:List bF×Int) T H=>∃ b6:Nat,Has T [(0,eL aM l0),(4,mL 3 b6 s.1),(5,eL (eL aI) eH),(6,eI s.2)]/\aN ⟨H0,[],[]⟩ H [(b6,3,s.1.map bO)]) g2 ⟨b6,aV,hO⟩ ?_);rintro k0 s c4 T H ⟨b6,hT,hO⟩ h1 c9;obtain⟨b5,i6⟩:=s;replace h1:qA l0 eH b5 i6=some c4:=h1
 try dsimp only at hT
 unfold qA at h1;refine bB hT (aO (aY aG 4 [] [(22,aL (decide (i6<(lN eH))))] (bI h1 (fun h1=>?_) (fun h1=>?_))))
 ·refine bG (bD [(0,eL aM l0),(4,mL 3 b6 b5),(5,eL (eL aI) eH),(6,eI i6)] (dH (fun T H=>∃ b5:List bF,∃ c5:Nat,Has T [(0,eL aM l0),(4,mL 3 c5 b5),(5,eL (eL aI) eH),(6,eI i6)]/\aN ⟨H0,[],[]⟩ H [(c5,3,b5.map bO)]/\ET l0 b5 eH i6=some c4) ?_ ?_))
  ·rintro T H ⟨b5,c5,hT,hO,h1⟩;unfold ET at h1;exact bB hT (aS aG 3 (bC (aJ (aH (⟨rfl,_,(oI h1).symm,_,aV,hO⟩)))))
  obtain⟨g3,h1⟩:=aZ h1;obtain⟨g4,e5,h1⟩:=aW h1;obtain⟨b8,e6,h1⟩:=aW h1;refine bS 1 (aO (aS aG 12 (nM 5 [0<=i6/\i6<(lN eH)] ⟨g3,trivial⟩ (cU (yG l0 (gD eH i6) _ e5) hO (fun H hO=>cU (aEW g4 _ e6) hO (fun H hO=>bC (bT [] [(7,eL bP b8.1),(8,eI b8.2)] (aO (aY aG 2 [] [(36,aL (!decide (b8.2=0)))] (bI h1 (fun h1=>?_) (fun h1=>?_)))))))))))
  ·refine aO (aS aG 3 (bC (cN [(2,.sl true 0 (fun _=>.bad)),(3,eI b8.2)] ?_)));replace hO:=hO.pick (L':=[]) [] (by decide) (by kernel_rfl);obtain rfl:=oI h1;obtain rfl:_=c8:=c9;replace h0:some ([],b8.2)=some r:=h0;obtain rfl:=oI h0;exact aJ (aH (bK (cV (l:=[(2,eL bO ([])),(3,eI b8.2)]) ⟨[(2,.sl true 0 (fun _=>.bad)),(3,eI b8.2)],by kernel_rfl,rfl,⟨dN,sR,trivial⟩⟩ (aJ (aR (bH (aR (aR (bH (aR (Q_r hO)))))))))))
  refine bG (bD [(0,eL aM l0),(4,mL 3 b6 b5),(5,eL (eL aI) eH),(6,eI i6),(7,eL bP b8.1)] (dH (fun T H=>∃ b5:List bF,∃ c6:Nat,Has T [(0,eL aM l0),(4,mL 3 c6 b5),(5,eL (eL aI) eH),(6,eI i6)]/\aN ⟨H0,[],[]⟩ H [(c6,3,b5.map bO)]/\vN l0 b5 eH i6=some c4) ?_ ?_))
  ·rintro T H ⟨b5,c6,hT,hO,h1⟩;unfold vN at h1;refine bB hT (aY aG 3 [] [(60,aL (decide (4096<(lN b5))))] (bI h1 (fun h1=>?_) (fun h1=>?_)))
   ·refine aO (aS aG 2 (bC (cN [(2,.sl true 0 (fun _=>.bad)),(3,eI 7)] ?_)));replace hO:=hO.pick (L':=[]) [] (by decide) (by kernel_rfl);obtain rfl:=oI h1;obtain rfl:_=c8:=c9;replace h0:some ([],(7:Int))=some r:=h0;obtain rfl:=oI h0;exact aJ (aH (bK (cV (l:=[(2,eL bO ([])),(3,eI 7)]) ⟨[(2,.sl true 0 (fun _=>.bad)),(3,eI 7)],by kernel_rfl,rfl,⟨dN,sR,trivial⟩⟩ (aJ (bH (aR (aR (bH (aR (Q_r hO))))))))))
   exact bG (aJ (aX (aH (⟨rfl,_,_,aV,hO,h1⟩))))
  refine aY aG 1 [] [(9,eI 0)] (bS 2 (eA [(0,eL aM l0),(4,mL 3 b6 b5),(5,eL (eL aI) eH),(6,eI i6),(7,eL bP b8.1),(9,eI 0)] (dJ (fun T H=>∃ b5:List bF,∃ s7:(List bE),∃ k9:Int,∃ b7:Nat,Has T [(0,eL aM l0),(4,mL 3 b7 b5),(5,eL (eL aI) eH),(6,eI i6),(7,eL bP s7),(9,eI k9)]/\aN ⟨H0,[],[]⟩ H [(b7,3,b5.map bO)]/\yW l0 b5 eH i6 s7 k9=some c4) ?_ ⟨b5,b8.1,(0:Int),b6,aV,hO,h1⟩)));rintro T H ⟨b5,s7,k9,b7,hT,hO,h1⟩;unfold yW at h1;obtain⟨g5,g6,h1⟩:=aW h1;refine bB hT (eE (fun (s:List bF×Int) T H=>∃ b7:Nat,Has T [(0,eL aM l0),(4,mL 3 b7 s.1),(5,eL (eL aI) eH),(6,eI i6),(7,eL bP s7),(9,eI s.2)]/\aN ⟨H0,[],[]⟩ H [(b7,3,s.1.map bO)]) g6 ⟨b7,aV,hO⟩ ?_);rintro k1 s e7 T H ⟨b7,hT,hO⟩ h2 g7;obtain⟨b5,k9⟩:=s;replace h2:rW l0 eH i6 s7 b5 k9=some e7:=h2
  try dsimp only at hT
  unfold rW at h2;refine bB hT (aO (aY aG 4 [] [(41,aL (decide (k9<(lN s7))))] (bI h2 (fun h2=>?_) (fun h2=>?_))))
  ·obtain⟨g8,h2⟩:=aZ h2;obtain⟨g9,h2⟩:=aZ h2;obtain⟨h8,h2⟩:=aZ h2;obtain⟨h9,h2⟩:=aZ h2;exact bG (bD [(0,eL aM l0),(4,mL 3 b7 b5),(5,eL (eL aI) eH),(6,eI i6),(7,eL bP s7),(9,eI k9)] (aO (bS 3 (fF (fC [49,54,56]) aG 15 (jX 1 (OF (xs:=[]) (k:=3) (by kernel_rfl) (by kernel_rfl) (cS 6 [0<=i6/\i6<(lN eH)] ⟨g8,trivial⟩ (aH6 (e:=aI) (gD eH i6) (fun _=>.bad) 3 32 (eL aI (gD eH i6)) (by kernel_rfl) (by kernel_rfl) hO (AP (fun _=>by kernel_rfl)) g9 (fun H hO=>cS 12 [0<=k9/\k9<(lN s7)] ⟨h8,trivial⟩ (OF (xs:=[bO (bF.mk (gD eH i6) (gD s7 k9))]) (k:=3) (by kernel_rfl) (by kernel_rfl) (MW (e:=bO) b5 ([bF.mk (gD eH i6) (gD s7 k9)]) 0 b7 3 40 (dB [bO (bF.mk (gD eH i6) (gD s7 k9))]) (fun c7=>[(c7,3,List.map bO (b5++([bF.mk (gD eH i6) (gD s7 k9)])))]) (by kernel_rfl) (by kernel_rfl) hO (by kernel_rfl) (by kernel_rfl) h9 (fun _=>by kernel_rfl) (fun c7 H hO=>gT (cN [(0,eL aM l0),(4,.msl 3 c7 0 (List.length (b5++([bF.mk (gD eH i6) (gD s7 k9)])))),(5,eL (eL aI) eH),(6,eI i6),(7,eL bP s7),(9,eI k9)] (aJ (aX (aH (aS aG 3 (bC (aJ (aH (⟨rfl,_,(oI h2).symm,_,aV,hO⟩)))))))))))))))))))))
  obtain rfl:=oI h2;obtain rfl:_=g5:=g7;replace h1:vN l0 b5 eH i6=some c4:=h1;exact dV 2 (aJ (aT (aT (bN (aH (⟨rfl,_,_,aV,hO,h1⟩))))))
 obtain rfl:=oI h1;obtain rfl:_=c8:=c9;replace h0:yY b5=some r:=h0;exact dV 0 (aJ (aT (aT (bN (aH (⟨rfl,_,_,aV,hO,h0⟩))))))
theorem aFr (a0:(List bF))(b1:(List bF))(r:Bool)(h0:GJ a0 b1=some r):cW Tryz.prog 21 [eL bO a0,eL bO b1] (aL r):=by
 intro H0;have hO:=aN.start H0;unfold GJ at h0;refine cX Tryz.func21 (aY aG 1 [] [] (aO (aY aG 5 [] [(10,aL (!decide ((lN a0)=(lN b1))))] (bI h0 (fun h0=>?_) (fun h0=>?_)))))
 ·obtain rfl:=oI h0;exact bW aG 1 [(4,aL false)] (bK (aJ (aR (Q_r hO))))
 refine bG (bD [(0,eL bO a0),(1,eL bO b1)] (dH (fun T H=>Has T []/\aN ⟨H0,[],[]⟩ H []/\CK  = some r) ?_ ?_))
 ·rintro T H ⟨hT,hO,h0⟩;unfold CK at h0;obtain rfl:=oI h0;exact bB hT (bW aG 1 [(4,aL true)] (bK (aJ (Q_r hO))))
 refine aY aG 1 [] [(5,eI 0)] (bS 0 (eA [(0,eL bO a0),(1,eL bO b1),(5,eI 0)] (dJ (fun T H=>∃ i5:Int,Has T [(0,eL bO a0),(1,eL bO b1),(5,eI i5)]/\aN ⟨H0,[],[]⟩ H []/\KU a0 b1 i5=some r) ?_ ⟨(0:Int),aV,hO,h0⟩)));rintro T H ⟨i5,hT,hO,h0⟩;unfold KU at h0;obtain⟨b6,b9,h0⟩:=aW h0;refine bB hT (eE (fun (s:Int) T H=>Has T [(0,eL bO a0),(1,eL bO b1),(5,eI s)]/\aN ⟨H0,[],[]⟩ H []) b9 ⟨aV,hO⟩ ?_);rintro k0 s b8 T H ⟨hT,hO⟩ h1 b7;obtain⟨i5,rfl⟩:∃ x,x=s:=⟨_,rfl⟩;replace h1:yP a0 b1 i5=some b8:=h1;unfold yP at h1;refine bB hT (aO (aY aG 4 [] [(14,aL (decide (i5<(lN a0))))] (bI h1 (fun h1=>?_) (fun h1=>?_))))
 ·obtain⟨c3,h1⟩:=aZ h1;obtain⟨c4,h1⟩:=aZ h1;obtain⟨c5,h1⟩:=aZ h1;obtain⟨c6,h1⟩:=aZ h1;obtain⟨x7,c7,h1⟩:=aW h1;refine bG (bD [(0,eL bO a0),(1,eL bO b1),(5,eI i5)] (aO (bS 1 (aO (fF (fC [21,26,33,38]) aG 25 (rI (K:=fun T H=>Has (lift T) [(0,eL bO a0),(1,eL bO b1),(5,eI i5),(41,aL ((!((decide ((((gD a0 i5).Span).From)=(((gD b1 i5).Span).From)))&&((decide ((((gD a0 i5).Span).To)=(((gD b1 i5).Span).To)))&&true)))||(!x7)))]/\aN ⟨H0,[],[]⟩ H []) ?_ ?_))))))
  ·refine cS 12 [0<=i5/\i5<(lN a0),0<=i5/\i5<(lN b1)] ⟨c3,c4,trivial⟩ (pR (t:=28) (e := !((decide ((((gD a0 i5).Span).From)=(((gD b1 i5).Span).From)))&&((decide ((((gD a0 i5).Span).To)=(((gD b1 i5).Span).To)))&&true))) (by kernel_rfl) (fun b5=>?_) (fun b5=>?_))
   ·refine gT ?_;exact⟨⟨[(0,eL bO a0),(1,eL bO b1),(5,eI i5),(41,aL true)],by kernel_rfl,rfl,⟨sR,sR,sR,dF.eq (congrArg aL (wU b5 rfl).symm),trivial⟩⟩,hO⟩
   refine cS 22 [0<=i5/\i5<(lN a0),0<=i5/\i5<(lN b1)] ⟨c5 (zN b5),c6 (zN b5),trivial⟩ (sW 37 [eL aI ((gD a0 i5).Row),eL aI ((gD b1 i5).Row)] (aL x7) (by kernel_rfl) (by kernel_rfl) (NA ((gD a0 i5).Row) ((gD b1 i5).Row) _ (kW c7 (zN b5))) hO (fun H hO=>gT ?_));exact⟨⟨[(0,eL bO a0),(1,eL bO b1),(5,eI i5),(41,aL (!x7))],by kernel_rfl,rfl,⟨sR,sR,sR,dF.eq (congrArg aL (wU b5 rfl).symm),trivial⟩⟩,hO⟩
  ·rintro T H ⟨hT,hO⟩;refine cV hT (aJ (aH (bI h1 (fun h1=>?_) (fun h1=>?_))))
   ·obtain rfl:=oI h1;obtain rfl:_=b6:=b7;replace h0:some false=some r:=h0;obtain rfl:=oI h0;exact bW aG 1 [(4,aL false)] (bK (aJ (bH (aR (aR (bH (aR (Q_r hO))))))))
   exact bG (cN [(0,eL bO a0),(1,eL bO b1),(5,eI i5)] (aJ (aX (aH (aS aG 3 (bC (aJ (aH (⟨rfl,_,(oI h1).symm,aV,hO⟩)))))))))
 obtain rfl:=oI h1;obtain rfl:_=b6:=b7;replace h0:CK  = some r:=h0;exact dV 0 (aJ (aT (aT (bN (aH (⟨rfl,aV,hO,h0⟩))))))
theorem aHE (lo lm:Nat)(b:cE)(q:List aF)(r:List aB)(h0:JQ b q=some r):vO Tryz.prog 23 [.lp lo 0 0,eL aI q] [eZ lm b] [mX lo lm b] (fun x M L=>x=(eL aE r)/\M=[eZ lm b]/\L=[mX lo lm b]):=by
 intro F H0 hO;obtain⟨Fh,Fe,Fg⟩:=F;refine cX Tryz.func23 ?_;replace hO:aN ⟨Fh,Fe,(lm,lO aC b.cells)::Fg⟩ _ [(lo,3,[.agg [.mp lm,eI b.edges,eI b.mark]])]:=hO;unfold JQ at h0;obtain⟨m,hm,h0⟩:=aW h0;refine aY aG 1 [] [] (aO (aO (aS aG 7 (bM 1 (LY false (bM 4 (rY [(7,false)] 46 [eL aI q] (aL m) true (by kernel_rfl) (by kernel_rfl) (by kernel_rfl) (fun _=>(MU q _ hm)) hO (fun H hO=>bC (bD [(0,.lp lo 0 0),(1,eL aI q),(11,aL (!m))] (bI h0 (fun h0=>?_) (fun h0=>?_)))))))))))
 ·obtain rfl:=oI h0;exact bW aG 1 [(4,.sl true 0 (fun _=>.bad))] (bK (aJ (aR (oO (x:=(.sl true 0 (fun _=>.bad))) (by kernel_rfl) dN ⟨[eZ lm b],[(lo,3,[.agg [.mp lm,eI b.edges,eI b.mark]])],⟨rfl,rfl,rfl⟩,hO⟩))))
 ·obtain⟨k,hk,h0⟩:=aW h0;refine bG (bD [(0,.lp lo 0 0),(1,eL aI q)] (aO (fF (fC [17,18]) aG 10 (rI (K:=fun T H=>Has (lift T) [(4,eL aE r)]/\aN ⟨Fh,Fe,(lm,lO aC b.cells)::Fg⟩ H [(lo,3,[.agg [.mp lm,eI b.edges,eI b.mark]])]) ?_ ?_))))
  ·refine jX 3 (jU 0 lo 3 0 (.agg [.mp lm,eI b.edges,eI b.mark]) (.mp lm) [.agg [.mp lm,eI b.edges,eI b.mark]] hO rfl (jX 5 (PZ (aAv q _ hk) hO ?_)));intro H hO;refine aAx (f:=aC) (mty:=58) aG k (.agg [.sl true 0 (fun _=>.bad),.sl true 0 (fun _=>.bad)]) hO (fun hg=>?_) (fun v hg=>?_)
   ·rw [show kC b.cells k=[] by unfold kC;rw [hg];rfl] at h0;refine jX 8 (aDH 47 [.sl true 0 (fun _=>.bad)] (eL aE r) (by kernel_rfl) (by kernel_rfl) (cW.sub (NP.frozen (sL [] _ h0)) ⟨dN,trivial⟩) hO (fun H hO=>gT ?_));exact⟨aV,hO⟩
   ·rw [show kC b.cells k=v.jumps by unfold kC;rw [hg];rfl] at h0;refine jX 8 (aDH 47 [eL aE v.jumps] (eL aE r) (by kernel_rfl) (by kernel_rfl) (NP.frozen (sL v.jumps _ h0)) hO (fun H hO=>gT ?_));exact⟨aV,hO⟩
  rintro T H ⟨hT,hO⟩;exact cV hT (aJ (aH (bK (aJ (UX (M:=[eZ lm b]) hO ⟨rfl,rfl,rfl⟩)))))
theorem aGp (f0:(List aB))(g1:(List aB))(r:Bool)(h0:FW f0 g1=some r):cW Tryz.prog 22 [eL aE f0,eL aE g1] (aL r):=by
 intro H0;have hO:=aN.start H0;unfold FW at h0;refine cX Tryz.func22 (aY aG 1 [] [] (aO (aY aG 5 [] [(10,aL (!decide ((lN f0)=(lN g1))))] (bI h0 (fun h0=>?_) (fun h0=>?_)))))
 ·obtain rfl:=oI h0;exact bW aG 1 [(4,aL false)] (bK (aJ (aR (Q_r hO))))
 refine bG (bD [(0,eL aE f0),(1,eL aE g1)] (dH (fun T H=>Has T []/\aN ⟨H0,[],[]⟩ H []/\CL  = some r) ?_ ?_))
 ·rintro T H ⟨hT,hO,h0⟩;unfold CL at h0;obtain rfl:=oI h0;exact bB hT (bW aG 1 [(4,aL true)] (bK (aJ (Q_r hO))))
 refine aY aG 1 [] [(5,eI 0)] (bS 0 (eA [(0,eL aE f0),(1,eL aE g1),(5,eI 0)] (dJ (fun T H=>∃ i5:Int,Has T [(0,eL aE f0),(1,eL aE g1),(5,eI i5)]/\aN ⟨H0,[],[]⟩ H []/\KP f0 g1 i5=some r) ?_ ⟨(0:Int),aV,hO,h0⟩)));rintro T H ⟨i5,hT,hO,h0⟩;unfold KP at h0;obtain⟨b5,b8,h0⟩:=aW h0;refine bB hT (eE (fun (s:Int) T H=>Has T [(0,eL aE f0),(1,eL aE g1),(5,eI s)]/\aN ⟨H0,[],[]⟩ H []) b8 ⟨aV,hO⟩ ?_);rintro k0 s b7 T H ⟨hT,hO⟩ h1 b6;obtain⟨i5,rfl⟩:∃ x,x=s:=⟨_,rfl⟩;replace h1:qW f0 g1 i5=some b7:=h1;unfold qW at h1;refine bB hT (aO (aY aG 4 [] [(14,aL (decide (i5<(lN f0))))] (bI h1 (fun h1=>?_) (fun h1=>?_))))
 ·obtain⟨c3,h1⟩:=aZ h1;obtain⟨c4,h1⟩:=aZ h1;refine bG (bD [(0,eL aE f0),(1,eL aE g1),(5,eI i5)] (aO (bS 1 (aO (fF (fC [20,24]) aG 9 (LL (Ds:=[0<=i5/\i5<(lN f0),0<=i5/\i5<(lN g1)]) (by kernel_rfl) ⟨c3,c4,trivial⟩ (bT [] [(25,aL (!((decide (((gD f0 i5).At)=((gD g1 i5).At)))&&((decide (((gD f0 i5).Net)=((gD g1 i5).Net)))&&true))))] (bI h1 (fun h1=>?_) (fun h1=>?_)))))))))
  ·obtain rfl:=oI h1;obtain rfl:_=b5:=b6;replace h0:some false=some r:=h0;obtain rfl:=oI h0;exact bW aG 1 [(4,aL false)] (bK (aJ (bH (aR (aR (bH (aR (Q_r hO))))))))
  exact bG (cN [(0,eL aE f0),(1,eL aE g1),(5,eI i5)] (aJ (aX (aH (aS aG 3 (bC (aJ (aH (⟨rfl,_,(oI h1).symm,aV,hO⟩)))))))))
 obtain rfl:=oI h1;obtain rfl:_=b5:=b6;replace h0:CL  = some r:=h0;exact dV 0 (aJ (aT (aT (bN (aH (⟨rfl,aV,hO,h0⟩))))))
theorem aC0 (l0:(List oM))(r1:(List aF))(r:Bool)(h0:EU l0 r1=some r):cW Tryz.prog 3 [eL kN l0,eL aI r1] (aL r):=by
 intro H0;have hO:=aN.start H0;unfold EU at h0;obtain⟨x1,n8,h0⟩:=aW h0;refine cX Tryz.func3 (aY aG 1 [] [] (aO (aO (aS aG 3 (bM 1 (cU (aEV l0 _ n8) hO (fun H hO=>bC (bT [] [(15,aL (!x1))] (bI h0 (fun h0=>?_) (fun h0=>?_))))))))))
 ·obtain⟨x5,n9,h0⟩:=aW h0;obtain rfl:=oI h0;exact aO (aS aG 2 (cU (aAz  _ n9) hO (fun H hO=>bC (bD [(4,aL x5)] (bK (aJ (aR (Q_r hO))))))))
 obtain⟨x8,p0,h0⟩:=aW h0;refine bG (bD [(0,eL kN l0),(1,eL aI r1)] (aO (aS aG 2 (QH [] true (.tup []) [] [] [] (List.Perm.refl _) (fun _=>aEz x8 p0) (fun hb=>by cases hb) hO ?_))));intro q4 q5 q6 H j3 hO;obtain⟨b7,b6,rfl,rfl,rfl⟩:=j3;replace hO:aN ⟨H0,[],eZ b6 x8::[]⟩ H [mX b7 b6 x8]:=hO;obtain⟨e8,j4,h0⟩:=aW h0;refine bC (bT [] [(5,.lp b7 0 0)] (aO (aS aG 2 (PL [mX b7 b6 x8] [0] (aHQ  _ j4) hO ?_))));intro q7 q8 H j5 hO;obtain⟨b8,rfl,rfl⟩:=j5;replace hO:aN ⟨H0,[],eZ b6 x8::[]⟩ H [(b8,2,[bV e8]),mX b7 b6 x8]:=hO;refine bC ?_;replace hO:=hO.pick (L':=[mX b7 b6 x8,(b8,2,[bV e8])]) [1,0] (by decide) (by kernel_rfl);refine bT [] [(6,.lp b8 0 0)] (dH (fun T H=>∃ b5:cE,∃ c6:cJ,Has T [(1,eL aI r1),(5,.lp b7 0 0),(6,.lp b8 0 0)]/\aN ⟨H0,[],eZ b6 b5::[]⟩ H [mX b7 b6 b5,(b8,2,[bV c6])]/\xR r1 b5 c6=some r) ?_ ?_)
 ·rintro T H ⟨b5,c6,hT,hO,h0⟩;unfold xR at h0;obtain⟨c8,j6,h0⟩:=aW h0;refine bB hT (aO (aS aG 7 (bM 1 (QH [] true (.tup [eL bO ([]:List bF),eI 0]) [eZ b6 b5] [(b8,2,[bV c6])] [0,1] (List.Perm.refl _) (fun hb=>(aGV b7 b6 b5 _ j6)) (fun hb=>by cases hb) hO ?_))));intro q9 r0 r3 H j7 hO;obtain⟨rfl,rfl,rfl⟩:=j7;replace hO:aN ⟨H0,[],eZ b6 b5::[]⟩ H [mX b7 b6 b5,(b8,2,[bV c6])]:=hO;obtain⟨c9,j8,h0⟩:=aW h0;refine bC (bT [] [(8,eL bO c8.1),(9,eI c8.2)] (aO (aS aG 10 (bM 3 (gW 1 b8 2 0 (bV c6) (eL aM c6.Table) [bV c6] hO rfl (cU (aDS c6.Table _ j8) hO (fun H hO=>bC (bT [] [(10,eL bO c9.1),(11,eI c9.2)] (aO (aS aG 2 (mW [] 2 (bC (bT [] [(12,.sl true 0 (fun _=>.bad))] (dH (fun T H=>∃ b5:cE,∃ p8:(List bF),∃ e9:Int,∃ e3:(List bF),∃ f11:Int,∃ UW:(List aB),Has T [(1,eL aI r1),(5,.lp b7 0 0),(8,eL bO p8),(9,eI e9),(10,eL bO e3),(11,eI f11),(12,eL aE UW)]/\aN ⟨H0,[],eZ b6 b5::[]⟩ H [mX b7 b6 b5]/\uK r1 b5 p8 e9 e3 f11 UW=some r) ?_ ?_))))))))))))))
  ·rintro T H ⟨b5,p8,e9,e3,f11,UW,hT,hO,h0⟩;unfold uK at h0;obtain⟨e4,j9,h0⟩:=aW h0;obtain⟨e5,k3,h0⟩:=aW h0;obtain⟨h9,g2,h0⟩:=aW h0;refine bB hT (aO (aS aG 19 (cU (aAz  _ j9) hO (fun H hO=>bM 9 (rY [(113,true)] 21 [eL bO p8,eL bO e3] (aL e5) (e4&&(decide (e9=f11))) (by kernel_rfl) (by kernel_rfl) (by kernel_rfl) (fun k4=>(aFr p8 e3 _ (kW k3 k4))) hO (fun H hO=>bM 14 (QH [(118,true)] ((e4&&(decide (e9=f11)))&&e5) (eL aE ([]:List aB)) [eZ b6 b5] [] [0] (List.Perm.refl _) (fun hb=>(aHE b7 b6 b5 r1 _ (aC4 hb g2))) (fun hb=>by have hz:=oI (aDh hb g2);subst hz;exact ⟨rfl,rfl,rfl⟩) hO ?_)))))));intro r4 r5 r6 H k5 hO;obtain⟨rfl,rfl,rfl⟩:=k5;replace hO:aN ⟨H0,[],eZ b6 b5::[]⟩ H [mX b7 b6 b5]:=hO;obtain⟨j0,k6,h0⟩:=aW h0;refine bM 16 (rY [(118,true)] 22 [eL aE h9,eL aE UW] (aL j0) ((e4&&(decide (e9=f11)))&&e5) (by kernel_rfl) (by kernel_rfl) (by kernel_rfl) (fun k7=>(aGp h9 UW _ (kW k6 k7))) hO (fun H hO=>bC (cN [(4,aL (((e4&&(decide (e9=f11)))&&e5)&&j0))] ?_)));replace hO:=hO.pick (L':=[]) [] (by decide) (by kernel_rfl);replace hO:=hO.tC;obtain rfl:=oI h0;exact aJ (aH (bK (aJ (Q_r hO))))
  obtain⟨p4,k8,h0⟩:=aW h0;refine aO (aS aG 2 (bM 1 (cU (JW r1 _ k8) hO (fun H hO=>eC (bT [] [(100,aL p4)] (bI h0 (fun h0=>?_) (fun h0=>?_)))))))
  ·obtain⟨r7,k9,h0⟩:=aW h0;refine aS aG 7 (bM 3 (gW 1 b8 2 0 (bV c6) (eL aM c6.Table) [bV c6] hO rfl (bM 5 (cU (yG c6.Table r1 _ k9) hO (fun H hO=>bC ?_)))));replace hO:=hO.pick (L':=[mX b7 b6 b5]) [0] (by decide) (by kernel_rfl);exact aJ (aH (⟨rfl,_,_,_,_,_,_,aV,hO,h0⟩))
  refine bG (cV (l:=[(1,eL aI r1),(5,.lp b7 0 0),(8,eL bO c8.1),(9,eI c8.2),(10,eL bO c9.1),(11,eI c9.2),(12,eL aE ([]))]) ⟨[(1,eL aI r1),(5,.lp b7 0 0),(8,eL bO c8.1),(9,eI c8.2),(10,eL bO c9.1),(11,eI c9.2),(12,.sl true 0 (fun _=>.bad))],by kernel_rfl,rfl,⟨sR,sR,sR,sR,sR,sR,dN,trivial⟩⟩ ?_);replace hO:=hO.pick (L':=[mX b7 b6 b5]) [0] (by decide) (by kernel_rfl);exact aJ (aH (⟨rfl,_,_,_,_,_,[],aV,hO,h0⟩))
 refine aY aG 1 [] [(7,eI 0)] (bS 0 (eA [(0,eL kN l0),(1,eL aI r1),(5,.lp b7 0 0),(6,.lp b8 0 0),(7,eI 0)] (dJ (fun T H=>∃ b5:cE,∃ c6:cJ,∃ i7:Int,Has T [(0,eL kN l0),(1,eL aI r1),(5,.lp b7 0 0),(6,.lp b8 0 0),(7,eI i7)]/\aN ⟨H0,[],eZ b6 b5::[]⟩ H [mX b7 b6 b5,(b8,2,[bV c6])]/\BV l0 r1 b5 c6 i7=some r) ?_ ⟨x8,e8,(0:Int),aV,hO,h0⟩)));rintro T H ⟨b5,c6,i7,hT,hO,h0⟩;unfold BV at h0;obtain⟨e6,p5,h0⟩:=aW h0;refine bB hT (eE (fun (s:cE×cJ×Int) T H=>Has T [(0,eL kN l0),(1,eL aI r1),(5,.lp b7 0 0),(6,.lp b8 0 0),(7,eI s.2.2)]/\aN ⟨H0,[],eZ b6 s.1::[]⟩ H [mX b7 b6 s.1,(b8,2,[bV s.2.1])]) p5 ⟨aV,hO⟩ ?_);rintro k0 s g3 T H ⟨hT,hO⟩ h1 e7;obtain⟨b5,c6,i7⟩:=s;replace h1:sM l0 r1 b5 c6 i7=some g3:=h1
 try dsimp only at hT
 unfold sM at h1;refine bB hT (aO (aY aG 4 [] [(22,aL (decide (i7<(lN l0))))] (bI h1 (fun h1=>?_) (fun h1=>?_))))
 ·refine bG (bD [(0,eL kN l0),(1,eL aI r1),(5,.lp b7 0 0),(6,.lp b8 0 0),(7,eI i7)] (aO (bS 1 (dH (fun T H=>∃ b5:cE,∃ c6:cJ,Has T [(0,eL kN l0),(1,eL aI r1),(5,.lp b7 0 0),(6,.lp b8 0 0),(7,eI i7)]/\aN ⟨H0,[],eZ b6 b5::[]⟩ H [mX b7 b6 b5,(b8,2,[bV c6])]/\uI l0 r1 b5 c6 i7=some g3) ?_ ?_))))
  ·rintro T H ⟨b5,c6,hT,hO,h1⟩;unfold uI at h1;obtain⟨g4,m0,h1⟩:=aW h1;obtain⟨g5,m3,h1⟩:=aW h1;obtain⟨g6,m4,h1⟩:=aW h1;obtain⟨g7,m5,h1⟩:=aW h1;obtain⟨g8,m6,h1⟩:=aW h1;refine bB hT (aO (fF (fC [62,70,77,61]) aG 24 (rI (K:=fun T H=>Has (lift T) [(0,eL kN l0),(1,eL aI r1),(5,.lp b7 0 0),(6,.lp b8 0 0),(7,eI i7),(84,aL (((!decide (g4=c6.Mark))||(!decide (g5=g6)))||(!g8)))]/\aN ⟨H0,[],eZ b6 b5::[]⟩ H [mX b7 b6 b5,(b8,2,[bV c6])]) ?_ ?_)))
   ·refine jX 1 (aJb (x:=(eI g4)) [eZ b6 b5] [(b8,2,[bV c6])] [0,1] (List.Perm.refl _) (aDz b7 b6 b5 _ m0) hO (fun H hO=>jX 5 (wT 1 b8 2 0 (bV c6) (eI c6.Mark) [bV c6] hO rfl (jX 8 (pR (t:=68) (e := !decide (g4=c6.Mark)) (by kernel_rfl) (fun b9=>?_) (fun b9=>?_))))))
    ·refine gT ?_;exact⟨⟨[(0,eL kN l0),(1,eL aI r1),(5,.lp b7 0 0),(6,.lp b8 0 0),(7,eI i7),(84,aL true)],by kernel_rfl,rfl,⟨sR,sR,sR,sR,sR,dF.eq (congrArg aL (wU (wU b9 rfl) rfl).symm),trivial⟩⟩,hO⟩
    refine jX 9 (aJb (x:=(eI g5)) [eZ b6 b5] [(b8,2,[bV c6])] [0,1] (List.Perm.refl _) (aBV b7 b6 b5 _ (kW m3 (zN b9))) hO (fun H hO=>jX 11 (aOH (x:=(eI g6)) [mX b7 b6 b5] [1,0] (aBv b8 c6 _ (kW m4 (zN b9))) hO (fun H hO=>jX 15 (pR (t:=75) (e := !decide (g5=g6)) (by kernel_rfl) (fun c4=>?_) (fun c4=>?_))))))
    ·refine gT ?_;exact⟨⟨[(0,eL kN l0),(1,eL aI r1),(5,.lp b7 0 0),(6,.lp b8 0 0),(7,eI i7),(84,aL true)],by kernel_rfl,rfl,⟨sR,sR,sR,sR,sR,dF.eq (congrArg aL (wU (wU b9 c4) rfl).symm),trivial⟩⟩,hO⟩
    refine jX 16 (aJb (x:=(eL aM g7)) [eZ b6 b5] [(b8,2,[bV c6])] [0,1] (List.Perm.refl _) (XT b7 b6 b5 _ (kW m5 (zN (wU b9 c4)))) hO (fun H hO=>jX 20 (wT 1 b8 2 0 (bV c6) (eL aM c6.Table) [bV c6] hO rfl (sW 15 [eL aM g7,eL aM c6.Table] (aL g8) (by kernel_rfl) (by kernel_rfl) (aAD g7 c6.Table _ (kW m6 (zN (wU b9 c4)))) hO (fun H hO=>gT ?_)))));exact⟨⟨[(0,eL kN l0),(1,eL aI r1),(5,.lp b7 0 0),(6,.lp b8 0 0),(7,eI i7),(84,aL (!g8))],by kernel_rfl,rfl,⟨sR,sR,sR,sR,sR,dF.eq (congrArg aL (wU (wU b9 c4) rfl).symm),trivial⟩⟩,hO⟩
   ·rintro T H ⟨hT,hO⟩;refine cV hT (aJ (aH (bI h1 (fun h1=>?_) (fun h1=>?_))))
    ·refine aO (aS aG 1 (bC (cN [(4,aL false)] ?_)));replace hO:=hO.pick (L':=[]) [] (by decide) (by kernel_rfl);replace hO:=hO.tC;obtain rfl:=oI h1;obtain rfl:_=e6:=e7;replace h0:some false=some r:=h0;obtain rfl:=oI h0;exact aJ (aH (bK (aJ (bH (aR (aR (bH (aR (Q_r hO)))))))))
    exact bG (cN [(0,eL kN l0),(1,eL aI r1),(5,.lp b7 0 0),(6,.lp b8 0 0),(7,eI i7)] (aJ (aX (aH (aS aG 3 (bC (aJ (aH (⟨rfl,_,(oI h1).symm,aV,hO⟩)))))))))
  obtain⟨p6,h1⟩:=aZ h1;refine aO (aS aG 6 (nI [0<=i7/\i7<(lN l0)] ⟨p6,trivial⟩ (bT [] [(30,aL (decide (((gD l0 i7).Kind)=0)))] (bI h1 (fun h1=>?_) (fun h1=>?_)))))
  ·obtain⟨p7,h1⟩:=aZ h1;obtain⟨c5,m7,h1⟩:=aW h1;refine aO (fF (fC [36,43]) aG 15 (cS 6 [0<=i7/\i7<(lN l0)] ⟨p7,trivial⟩ (aMq [eZ b6 b5] [(b8,2,[bV c6])] [0,1] (List.Perm.refl _) (aAl b7 b6 b5 ((gD l0 i7).Edges) _ m7) hO ?_)));intro r8 r9 s0 H m8 hO;obtain⟨rfl,rfl,rfl⟩:=m8;replace hO:aN ⟨H0,[],eZ b6 c5.2::[]⟩ H [mX b7 b6 c5.2,(b8,2,[bV c6])]:=hO;obtain⟨p9,h1⟩:=aZ h1;obtain⟨g9,m9,h1⟩:=aW h1;refine cS 13 [0<=i7/\i7<(lN l0)] ⟨p9,trivial⟩ (aN8 [mX b7 b6 c5.2] [1,0] (aCC b8 c6 ((gD l0 i7).Edges) _ m9) hO ?_);intro s3 s4 H n3 hO;obtain⟨rfl,rfl⟩:=n3;replace hO:aN ⟨H0,[],eZ b6 c5.2::[]⟩ H [(b8,2,[bV g9.2]),mX b7 b6 c5.2]:=hO;refine gT ?_;replace hO:=hO.pick (L':=[mX b7 b6 c5.2,(b8,2,[bV g9.2])]) [1,0] (by decide) (by kernel_rfl);refine bT [30] [(45,aL (!decide (c5.1=g9.1)))] (bI h1 (fun h1=>?_) (fun h1=>?_))
   ·refine aO (aS aG 1 (bC (cN [(4,aL false)] ?_)));replace hO:=hO.pick (L':=[]) [] (by decide) (by kernel_rfl);replace hO:=hO.tC;obtain rfl:=oI h1;obtain rfl:_=e6:=e7;replace h0:some false=some r:=h0;obtain rfl:=oI h0;exact aJ (aH (bK (aJ (aR (bH (aR (aR (bH (aR (Q_r hO))))))))))
   exact bG (aJ (aH (⟨rfl,_,_,aV,hO,h1⟩)))
  obtain⟨q2,h1⟩:=aZ h1;obtain⟨c7,n4,h1⟩:=aW h1;refine aO (fF (fC [51,58]) aG 15 (cS 6 [0<=i7/\i7<(lN l0)] ⟨q2,trivial⟩ (aMq [eZ b6 b5] [(b8,2,[bV c6])] [0,1] (List.Perm.refl _) (aAE b7 b6 b5 ((gD l0 i7).At) _ n4) hO ?_)));intro s5 s6 s7 H n5 hO;obtain⟨rfl,rfl,rfl⟩:=n5;replace hO:aN ⟨H0,[],eZ b6 c7.2::[]⟩ H [mX b7 b6 c7.2,(b8,2,[bV c6])]:=hO;obtain⟨q3,h1⟩:=aZ h1;obtain⟨h8,n6,h1⟩:=aW h1;refine cS 13 [0<=i7/\i7<(lN l0)] ⟨q3,trivial⟩ (aN8 [mX b7 b6 c7.2] [1,0] (aAc b8 c6 ((gD l0 i7).At) _ n6) hO ?_);intro s8 s9 H n7 hO;obtain⟨rfl,rfl⟩:=n7;replace hO:aN ⟨H0,[],eZ b6 c7.2::[]⟩ H [(b8,2,[bV h8.2]),mX b7 b6 c7.2]:=hO;refine gT ?_;replace hO:=hO.pick (L':=[mX b7 b6 c7.2,(b8,2,[bV h8.2])]) [1,0] (by decide) (by kernel_rfl);refine bT [30] [(60,aL (!decide (c7.1=h8.1)))] (bI h1 (fun h1=>?_) (fun h1=>?_))
  ·refine aO (aS aG 1 (bC (cN [(4,aL false)] ?_)));replace hO:=hO.pick (L':=[]) [] (by decide) (by kernel_rfl);replace hO:=hO.tC;obtain rfl:=oI h1;obtain rfl:_=e6:=e7;replace h0:some false=some r:=h0;obtain rfl:=oI h0;exact aJ (aH (bK (aJ (aR (bH (aR (aR (bH (aR (Q_r hO))))))))))
  exact bG (aJ (aH (⟨rfl,_,_,aV,hO,h1⟩)))
 obtain rfl:=oI h1;obtain rfl:_=e6:=e7;replace h0:xR r1 b5 c6=some r:=h0;exact dV 0 (aJ (aT (aT (bN (aH (⟨rfl,_,_,aV,hO,h0⟩))))))
theorem RS {H:Type}{enc:TypeId×Value->H}{w:World}:LF enc Tryz.prog w 55 aI GC :=
  UE Tryz.underlying55 (by kernel_rfl) (uW (c':=aBF) (ok':=GC) (fun (a:Int) (b:Int×ByteArray×Unit)=>(aF.mk a b.1 b.2.1:aF)) (by kernel_rfl) (MP Tryz.underlying53) (uW (c':=fun (b:Int×ByteArray×Unit)=>(V.cells (cD .i64 b.1)++(V.cells (tG b.2.1)++[]))) (ok':=fun b=>(sE b.1/\((fun s=>s.size<=maxLen) b.2.1/\True))) (fun a b=>(a,b)) (by kernel_rfl) (MP Tryz.underlying3) (uW (c':=fun (b:ByteArray×Unit)=>(V.cells (tG b.1)++[])) (ok':=fun b=>((fun s=>s.size<=maxLen) b.1/\True)) (fun a b=>(a,b)) (by kernel_rfl) (aGd Tryz.underlying9) (YV ()) (fun _ _=>rfl) (fun _ _ h1 h2=>⟨h1,h2⟩)) (fun _ _=>rfl) (fun _ _ h1 h2=>⟨h1,h2⟩)) (fun _ _=>rfl) (fun _ _ h1 h2=>⟨h1,h2⟩))
theorem aBy {H:Type}{enc:TypeId×Value->H}{w:World}:LF enc Tryz.prog w 57 aM DT :=
  UE Tryz.underlying57 (by kernel_rfl) (uW (c':=aCF) (ok':=DT) (fun (a:(List aF)) (b:Int×Int×Unit)=>(aK.mk a b.1 b.2.1:aK)) (by kernel_rfl) (aBJ Tryz.underlying24 (by decide +kernel) (fun _=>by kernel_rfl) (fun _=>rfl) RS (by kernel_rfl)) (uW (c':=fun (b:Int×Int×Unit)=>(V.cells (cD .i64 b.1)++(V.cells (cD .i64 b.2.1)++[]))) (ok':=fun b=>(sE b.1/\(sE b.2.1/\True))) (fun a b=>(a,b)) (by kernel_rfl) (MP Tryz.underlying3) (uW (c':=fun (b:Int×Unit)=>(V.cells (cD .i64 b.1)++[])) (ok':=fun b=>(sE b.1/\True)) (fun a b=>(a,b)) (by kernel_rfl) (MP Tryz.underlying3) (YV ()) (fun _ _=>rfl) (fun _ _ h1 h2=>⟨h1,h2⟩)) (fun _ _=>rfl) (fun _ _ h1 h2=>⟨h1,h2⟩)) (fun _ _=>rfl) (fun _ _ h1 h2=>⟨h1,h2⟩))
theorem aBt {H:Type}{enc:TypeId×Value->H}{w:World}:LF enc Tryz.prog w 33 kN QL :=
  UE Tryz.underlying33 (by kernel_rfl) (uW (c':=aDi) (ok':=QL) (fun (a:Int) (b:(List aK)×Int×Unit)=>(oM.mk a b.1 b.2.1:oM)) (by kernel_rfl) (MP Tryz.underlying3) (uW (c':=fun (b:(List aK)×Int×Unit)=>(V.cells (eL aM b.1)++(V.cells (cD .i64 b.2.1)++[]))) (ok':=fun b=>((fun l=>(∀ a∈l,DT a)/\l.length*40<=140737488351232) b.1/\(sE b.2.1/\True))) (fun a b=>(a,b)) (by kernel_rfl) (aBJ Tryz.underlying31 (by decide +kernel) (fun _=>by kernel_rfl) (fun _=>rfl) aBy (by kernel_rfl)) (uW (c':=fun (b:Int×Unit)=>(V.cells (cD .i64 b.1)++[])) (ok':=fun b=>(sE b.1/\True)) (fun a b=>(a,b)) (by kernel_rfl) (MP Tryz.underlying3) (YV ()) (fun _ _=>rfl) (fun _ _ h1 h2=>⟨h1,h2⟩)) (fun _ _=>rfl) (fun _ _ h1 h2=>⟨h1,h2⟩)) (fun _ _=>rfl) (fun _ _ h1 h2=>⟨h1,h2⟩))
theorem cZ {n:Int}(h1 : -9223372036854775808<=n)(h2:n<=9223372036854775807):i64.wrap n=n:=by
 simp only [IntKind.wrap,IntKind.bits,IntKind.signed];simp;split <;> omega
def xY {α st R:Type}(step:st->α->Option (st⊕R))(fin:st->R):st->List α->Option R
 | s,[]=>some (fin s)
 | s,a::r=>match step s a with
  | some (.inl s')=>xY step fin s' r
  | some (.inr x)=>some x
  | none=>none
theorem aCB {α st R:Type}{step:st->α->Option (st⊕R)}{fin:st->R}{s s':st}{a:α}{r:List α}(h:step s a=some (.inl s')):xY step fin s (a::r)=xY step fin s' r:=by
 simp only [xY,h]
theorem aCJ {α st R:Type}{step:st->α->Option (st⊕R)}{fin:st->R}{s:st}{x:R}{a:α}{r:List α}(h:step s a=some (.inr x)):xY step fin s (a::r)=some x:=by
 simp only [xY,h]
theorem aH7 {α S st R:Type} {body:S->Option (S⊕R)} {l:List α} (mk:st->Int->S) (step:st->α->Option (st⊕R)) (fin:st->R)
  (hn:∀ (i:Nat) a s,l[i]?=some a->(∀ s',step s a=some (.inl s')->body (mk s i)=some (.inl (mk s' ((i+1:Nat):Int))))/\(∀ x,step s a=some (.inr x)->body (mk s i)=some (.inr x)))
  (he:∀ s,body (mk s (l.length:Nat))=some (.inr (fin s))):∀ (m k:Nat) (s:st) (r:R),l.length-k=m->k<=l.length->xY step fin s (l.drop k)=some r->lp body (mk s k)=some r
 | 0,k,s,r,hm,hk,h=>by
  have : k=l.length:=by omega
  subst this;rw [List.drop_length] at h;simp only [xY,Option.some.injEq] at h;subst h;exact cY (he s)
 | m+1,k,s,r,hm,hk,h=>by
  have hlt:k<l.length:=by omega
  have hd:l.drop k=l[k]::l.drop (k+1):=List.drop_eq_getElem_cons hlt;rw [hd] at h;simp only [xY] at h;obtain⟨h1,h2⟩:=hn k l[k] s (List.getElem?_eq_getElem hlt);split at h
  ·rename_i s' hs
   rw [fA (h1 s' hs)];exact aH7 mk step fin hn he m (k+1) s' r (by omega) (by omega) h
  ·rename_i x hs
   simp at h;subst h;exact cY (h2 x hs)
  ·cases h
theorem aLH {α S st R:Type} {body:S->Option (S⊕R)} {l:List α} (mk:st->Int->S) (step:st->α->Option (st⊕R)) (fin:st->R)
  (hn:∀ (i:Nat) a s,l[i]?=some a->(∀ s',step s a=some (.inl s')->body (mk s i)=some (.inl (mk s' ((i+1:Nat):Int))))/\(∀ x,step s a=some (.inr x)->body (mk s i)=some (.inr x)))
  (he:∀ s,body (mk s (l.length:Nat))=some (.inr (fin s))) {s:st} {r:R} (h:xY step fin s l=some r):lp body (mk s 0)=some r :=
 aH7 mk step fin hn he _ 0 s r rfl (Nat.zero_le _) (by simpa using h)
theorem aGa {α S st R:Type} {body:S->Option (S⊕R)} {l:List α} (mk:st->Int->S) (step:st->α->Option (st⊕R)) (fin:st->R) (Inv:Nat->st->Prop)
  (hn:∀ (i:Nat) a s,Inv i s->l[i]?=some a->(∀ s',step s a=some (.inl s')->Inv (i+1) s'/\body (mk s i)=some (.inl (mk s' ((i+1:Nat):Int))))/\(∀ x,step s a=some (.inr x)->body (mk s i)=some (.inr x)))
  (he:∀ s,Inv l.length s->body (mk s (l.length:Nat))=some (.inr (fin s))):∀ (m k:Nat) (s:st) (r:R),l.length-k=m->k<=l.length->Inv k s->xY step fin s (l.drop k)=some r->lp body (mk s k)=some r
 | 0,k,s,r,hm,hk,hi,h=>by
  have : k=l.length:=by omega
  subst this;rw [List.drop_length] at h;simp only [xY,Option.some.injEq] at h;subst h;exact cY (he s hi)
 | m+1,k,s,r,hm,hk,hi,h=>by
  have hlt:k<l.length:=by omega
  have hd:l.drop k=l[k]::l.drop (k+1):=List.drop_eq_getElem_cons hlt;rw [hd] at h;simp only [xY] at h;obtain⟨h1,h2⟩:=hn k l[k] s hi (List.getElem?_eq_getElem hlt);split at h
  ·rename_i s' hs
   obtain⟨hi',hb⟩:=h1 s' hs;rw [fA hb];exact aGa mk step fin Inv hn he m (k+1) s' r (by omega) (by omega) hi' h
  ·rename_i x hs
   simp at h;subst h;exact cY (h2 x hs)
  ·cases h
theorem aKu {α S st R:Type} {body:S->Option (S⊕R)} {l:List α} (mk:st->Int->S) (step:st->α->Option (st⊕R)) (fin:st->R) (Inv:Nat->st->Prop)
  (hn:∀ (i:Nat) a s,Inv i s->l[i]?=some a->(∀ s',step s a=some (.inl s')->Inv (i+1) s'/\body (mk s i)=some (.inl (mk s' ((i+1:Nat):Int))))/\(∀ x,step s a=some (.inr x)->body (mk s i)=some (.inr x)))
  (he:∀ s,Inv l.length s->body (mk s (l.length:Nat))=some (.inr (fin s))) {s:st} {r:R} (hi:Inv 0 s) (h:xY step fin s l=some r):lp body (mk s 0)=some r :=
 aGa mk step fin Inv hn he _ 0 s r rfl (Nat.zero_le _) hi (by simpa using h)
theorem idx {α:Type}[Inhabited α]{l:List α}{i:Nat}{a:α}(h:l[i]?=some a)(hl:l.length<4611686018427387904) :
  decide ((i:Int)<((l.length:Nat):Int))=true/\(0<=(i:Int)/\(i:Int)<((l.length:Nat):Int))/\l.getD (Int.toNat (i:Int)) default=a/\i64.wrap ((i:Int)+1)=((i+1:Nat):Int):=by
 have hlt:i<l.length:=(List.getElem?_eq_some_iff.1 h).1;refine⟨by simpa using hlt,⟨by omega,by omega⟩,?_,?_⟩
 ·rw [Int.toNat_natCast,List.getD_eq_getElem?_getD,h];rfl
 ·rw [cZ (by omega) (by omega)];omega
theorem eP {n:Nat}:decide (((n:Nat):Int)<((n:Nat):Int))=false:=by simp
theorem QD {α:Type}{j:α}{r:List α}:decide (0<((List.length (j::r):Nat):Int))=true:=by simp
theorem len_nil {α:Type}:decide (0<((List.length ([]:List α):Nat):Int))=false:=rfl
theorem YY {α:Type}{j:α}{r:List α}:(0:Int)<=0/\0<((List.length (j::r):Nat):Int):=⟨by omega,by simp⟩
theorem aOl {α:Type}{j:α}{r:List α}:(0:Int)<=1/\1<=((List.length (j::r):Nat):Int):=⟨by omega,by simp;omega⟩
theorem UR {α:Type}[Inhabited α]{j:α}{r:List α}:List.getD (j::r) (Int.toNat (0:Int)) default=j:=rfl
theorem aKd {α:Type}{j:α}{r:List α}:List.drop (Int.toNat (1:Int)) (j::r)=r:=rfl
theorem drop_cons {α:Type}{l r:List α}{a:α}{k:Nat}(h:l.drop k=a::r):l[k]?=some a/\l.drop (k+1)=r:=by
 have hk:k<l.length:=by
  apply Classical.byContradiction;intro hn;rw [List.drop_eq_nil_of_le (by omega)] at h;cases h
 rw [List.drop_eq_getElem_cons hk] at h;obtain⟨h1,h2⟩:=List.cons.inj h;exact⟨by rw [List.getElem?_eq_getElem hk,h1],h2⟩
theorem aKE {α S st R:Type} {body:S->Option (S⊕R)} {l:List α} (mk:st->Int->S) (G:st->List α->R) (Inv:st->List α->Prop)
  (hn:∀ (i:Nat) a r s,l[i]?=some a->Inv s (a::r)->(∃ s',body (mk s i)=some (.inl (mk s' ((i+1:Nat):Int)))/\Inv s' r/\G s' r=G s (a::r))∨body (mk s i)=some (.inr (G s (a::r))))
  (he:∀ s,Inv s []->body (mk s (l.length:Nat))=some (.inr (G s []))):∀ (r:List α) (k:Nat) (s:st),l.drop k=r->k<=l.length->Inv s r->lp body (mk s k)=some (G s r)
 | [],k,s,hd,hk,hi=>by
  have : k=l.length:=by
   have:=congrArg List.length hd;simp only [List.length_drop,List.length_nil] at this;omega
  subst this;exact cY (he s hi)
 | a::r,k,s,hd,hk,hi=>by
  obtain⟨h1,h2⟩:=drop_cons hd;have hlt:k<l.length:=(List.getElem?_eq_some_iff.1 h1).1;rcases hn k a r s h1 hi with ⟨s',hb,hi',hg⟩ | hb
  ·rw [fA hb,aKE mk G Inv hn he r (k+1) s' h2 (by omega) hi',hg]
  ·exact cY hb
theorem kP {α S st R:Type} {body:S->Option (S⊕R)} {l:List α} (mk:st->Int->S) (G:st->List α->R) (Inv:st->List α->Prop) (s:st)
  (hn:∀ (i:Nat) a r s,l[i]?=some a->Inv s (a::r)->(∃ s',body (mk s i)=some (.inl (mk s' ((i+1:Nat):Int)))/\Inv s' r/\G s' r=G s (a::r))∨body (mk s i)=some (.inr (G s (a::r))))
  (he:∀ s,Inv s []->body (mk s (l.length:Nat))=some (.inr (G s []))) (hi:Inv s l):lp body (mk s 0)=some (G s l) :=
 aKE mk G Inv hn he l 0 s rfl (Nat.zero_le _) hi
theorem TQ {α S R:Type} {body:S->Option (S⊕R)} {l:List α} (mk:Int->S) (bad:α->Bool) (x y:R)
  (hn:∀ (i:Nat) a,l[i]?=some a->body (mk i)=some (if bad a then .inr x else .inl (mk ((i+1:Nat):Int))))
  (he:body (mk (l.length:Nat))=some (.inr y)):lp body (mk 0)=some (if l.any bad then x else y):=by
 refine kP (st:=Unit) (fun _ i=>mk i) (fun _ r=>if r.any bad then x else y) (fun _ _=>True) () ?_ ?_ trivial
 ·intro i a r s ha _;have hb:=hn i a ha
  cases h:bad a
  ·left;refine ⟨(),?_,trivial,?_⟩
   ·simpa [h] using hb
   ·simp [List.any_cons,h]
  ·right;simpa [h,List.any_cons] using hb
 ·intro _ _;simpa using he
variable {α:Type} [Inhabited α]
abbrev Srt {β:Type}(le:β->β->Prop)(l:List β):Prop:=l.Pairwise le
section ins
variable {ok:α->Prop} {le:α->α->Prop} {cmp:α->α->Option Int}
end ins
end Go.Abs
namespace Go.Abs
open Go IntKind
def IB (b5:aB->aB->Option Int)(a1 b2 n3:Int)(aA:List aB)(i10:Int):Option ((List aB×Int)⊕(List aB)) :=
 cond (decide (i10<n3))
 (aU (0<=(i64.wrap (b2+i10))/\(i64.wrap (b2+i10))<(aA.length:Int)) <|
 aU (0<=(i64.wrap (a1+i10))/\(i64.wrap (a1+i10))<(aA.length:Int)) <|
 aU (0<=(i64.wrap (a1+i10))/\(i64.wrap (a1+i10))<(aA.length:Int)) <|
 aU (0<=(i64.wrap (b2+i10))/\(i64.wrap (b2+i10))<(aA.length:Int)) <|
 some (.inl (List.set (aA.set (Int.toNat (i64.wrap (a1+i10))) (aA.getD (Int.toNat (i64.wrap (b2+i10))) default)) (Int.toNat (i64.wrap (b2+i10))) (aA.getD (Int.toNat (i64.wrap (a1+i10))) default),i64.wrap (i10+1))))
 (some (.inr aA))
def HG (b5:aB->aB->Option Int)(aA:List aB)(a1 b2:Int)(n3 i10:Int):Option (List aB) :=
 (lp (fun s=>IB b5 a1 b2 n3 s.1 s.2) (aA,i10)).bind (fun rr=>some rr)
def rN (aA:(List aB))(a1 b2 n3:Int)(b5:aB->aB->Option Int):Option (List aB) :=
 HG b5 aA a1 b2 n3 (0:Int)
def LZ (b5:aB->aB->Option Int)(aA:List aB)(m2 i10:Int):Option (List aB) :=
 (rN aA (i64.wrap (m2-i10)) m2 i10 b5).bind fun x1 =>
 some x1
def MC (b6:aB->aB->Option Int)(m2:Int)(aA:List aB)(i10 b5:Int):Option ((List aB×Int×Int)⊕(List aB×Int)) :=
 cond (!decide (i10=b5))
 (cond (decide (b5<i10))
 ((rN aA (i64.wrap (m2-i10)) m2 b5 b6).bind fun x4 =>
 some (.inl (x4,i64.wrap (i10-b5),b5)))
 ((rN aA (i64.wrap (m2-i10)) (i64.wrap ((i64.wrap (m2+b5))-i10)) i10 b6).bind fun x7 =>
 some (.inl (x7,i10,i64.wrap (b5-i10)))))
 (some (.inr (aA,i10)))
def LP (b5:aB->aB->Option Int)(aA:List aB)(m2 i10 b6:Int):Option (List aB) :=
 (lp (fun s=>MC b5 m2 s.1 s.2.1 s.2.2) (aA,i10,b6)).bind (fun rr=>LZ b5 rr.1 m2 rr.2)
def MX (aA:(List aB))(a1 m2 b3:Int)(b5:aB->aB->Option Int):Option (List aB) :=
 LP b5 aA m2 (i64.wrap (m2-a1)) (i64.wrap (b3-m2))
def wF (b5:aB->aB->Option Int)(rec:(List aB)->Int->Int->Int->Option (List aB))(aA:List aB)(b3 AD aBm:Int):Option (List aB) :=
 cond ((decide (AD<aBm))&&(decide (aBm<b3)))
 ((rec aA AD aBm b3).bind fun x2 =>
 some x2)
 (some aA)
def wJ (b5:aB->aB->Option Int)(rec:(List aB)->Int->Int->Int->Option (List aB))(aA:List aB)(a1 b3:Int)(AD lX aBm:Int):Option (List aB) :=
 cond ((decide (a1<lX))&&(decide (lX<AD)))
 ((rec aA a1 lX AD).bind fun x6 =>
 wF b5 rec x6 b3 AD aBm)
 (wF b5 rec aA b3 AD aBm)
def JM (b5:aB->aB->Option Int)(rec:(List aB)->Int->Int->Int->Option (List aB))(aA:List aB)(a1 m2:Int)(b3 AD:Int)(b6 lX:Int):Option (List aB) :=
 cond ((decide (lX<m2))&&(decide (m2<(i64.wrap (b6-lX)))))
 ((MX aA lX m2 (i64.wrap (b6-lX)) b5).bind fun b7 =>
 wJ b5 rec b7 a1 b3 AD lX (i64.wrap (b6-lX)))
 (wJ b5 rec aA a1 b3 AD lX (i64.wrap (b6-lX)))
def IS (b7:aB->aB->Option Int)(rec:(List aB)->Int->Int->Int->Option (List aB))(a1 m2:Int)(b3 AD:Int)(b9 b6:Int)(aA:List aB)(lX b5:Int):Option ((List aB×Int×Int)⊕(List aB×Int)) :=
 cond (decide (lX<b5))
 (aU (0<=(1:Int)) <|
 aU (0<=(i64.wrap (b6-(i64.wrap (Int.fdiv (u64.wrap (i64.wrap (lX+b5))) (2 ^ (min (Int.toNat (1:Int)) 64))))))/\(i64.wrap (b6-(i64.wrap (Int.fdiv (u64.wrap (i64.wrap (lX+b5))) (2 ^ (min (Int.toNat (1:Int)) 64))))))<(aA.length:Int)) <|
 aU (0<=(i64.wrap (Int.fdiv (u64.wrap (i64.wrap (lX+b5))) (2 ^ (min (Int.toNat (1:Int)) 64))))/\(i64.wrap (Int.fdiv (u64.wrap (i64.wrap (lX+b5))) (2 ^ (min (Int.toNat (1:Int)) 64))))<(aA.length:Int)) <|
 (b7 (aA.getD (Int.toNat (i64.wrap (b6-(i64.wrap (Int.fdiv (u64.wrap (i64.wrap (lX+b5))) (2 ^ (min (Int.toNat (1:Int)) 64))))))) default) (aA.getD (Int.toNat (i64.wrap (Int.fdiv (u64.wrap (i64.wrap (lX+b5))) (2 ^ (min (Int.toNat (1:Int)) 64))))) default)).bind fun b8 =>
 cond (!(decide (b8<0)))
 (some (.inl (aA,i64.wrap ((i64.wrap (Int.fdiv (u64.wrap (i64.wrap (lX+b5))) (2 ^ (min (Int.toNat (1:Int)) 64))))+1),b5)))
 (some (.inl (aA,lX,i64.wrap (Int.fdiv (u64.wrap (i64.wrap (lX+b5))) (2 ^ (min (Int.toNat (1:Int)) 64)))))))
 (some (.inr (aA,lX)))
def IL (b5:aB->aB->Option Int)(rec:(List aB)->Int->Int->Int->Option (List aB))(aA:List aB)(a1 m2:Int)(b3 AD:Int)(b6 lX:Int)(b7 b8:Int):Option (List aB) :=
 (lp (fun s=>IS b5 rec a1 m2 b3 AD b6 b8 s.1 s.2.1 s.2.2) (aA,lX,b7)).bind (fun rr=>JM b5 rec rr.1 a1 m2 b3 AD b6 rr.2)
def wM (b6:aB->aB->Option Int)(rec:(List aB)->Int->Int->Int->Option (List aB))(aA:List aB)(a1 m2:Int)(b3 AD:Int)(b5 lX b7:Int):Option (List aB) :=
 IL b6 rec aA a1 m2 b3 AD b5 lX b7 (i64.wrap (b5-1))
def JD (b5:aB->aB->Option Int)(rec:(List aB)->Int->Int->Int->Option (List aB))(aA:List aB)(a1 m2 b3:Int):Option (List aB) :=
 aU (0<=(1:Int)) <|
 cond (decide ((i64.wrap (Int.fdiv (u64.wrap (i64.wrap (a1+b3))) (2 ^ (min (Int.toNat (1:Int)) 64))))<m2))
 (wM b5 rec aA a1 m2 b3 (i64.wrap (Int.fdiv (u64.wrap (i64.wrap (a1+b3))) (2 ^ (min (Int.toNat (1:Int)) 64)))) (i64.wrap ((i64.wrap (Int.fdiv (u64.wrap (i64.wrap (a1+b3))) (2 ^ (min (Int.toNat (1:Int)) 64))))+m2)) (i64.wrap ((i64.wrap ((i64.wrap (Int.fdiv (u64.wrap (i64.wrap (a1+b3))) (2 ^ (min (Int.toNat (1:Int)) 64))))+m2))-b3)) (i64.wrap (Int.fdiv (u64.wrap (i64.wrap (a1+b3))) (2 ^ (min (Int.toNat (1:Int)) 64)))))
 (wM b5 rec aA a1 m2 b3 (i64.wrap (Int.fdiv (u64.wrap (i64.wrap (a1+b3))) (2 ^ (min (Int.toNat (1:Int)) 64)))) (i64.wrap ((i64.wrap (Int.fdiv (u64.wrap (i64.wrap (a1+b3))) (2 ^ (min (Int.toNat (1:Int)) 64))))+m2)) a1 m2)
def JB (b5:aB->aB->Option Int)(rec:(List aB)->Int->Int->Int->Option (List aB))(aA:List aB):Option (List aB) :=
 some aA
def HP (b6:aB->aB->Option Int)(rec:(List aB)->Int->Int->Int->Option (List aB))(i14:Int)(aA:List aB)(b5:Int):Option ((List aB×Int)⊕(List aB)) :=
 cond (decide (i14<b5))
 (aU (0<=(i64.wrap (b5-1))/\(i64.wrap (b5-1))<(aA.length:Int)) <|
 aU (0<=b5/\b5<(aA.length:Int)) <|
 aU (0<=b5/\b5<(aA.length:Int)) <|
 aU (0<=(i64.wrap (b5-1))/\(i64.wrap (b5-1))<(aA.length:Int)) <|
 some (.inl (List.set (aA.set b5.toNat (aA.getD (Int.toNat (i64.wrap (b5-1))) default)) (Int.toNat (i64.wrap (b5-1))) (aA.getD b5.toNat default),i64.wrap (b5-1))))
 (some (.inr aA))
def IC (b5:aB->aB->Option Int)(rec:(List aB)->Int->Int->Int->Option (List aB))(aA:List aB)(i14 b6:Int):Option (List aB) :=
 (lp (fun s=>HP b5 rec i14 s.1 s.2) (aA,b6)).bind (fun rr=>JB b5 rec rr)
def IU (b5:aB->aB->Option Int)(rec:(List aB)->Int->Int->Int->Option (List aB))(aA:List aB)(m2 i14:Int):Option (List aB) :=
 IC b5 rec aA i14 m2
def HC (b6:aB->aB->Option Int)(rec:(List aB)->Int->Int->Int->Option (List aB))(m2:Int)(aA:List aB)(i14 b5:Int):Option ((List aB×Int×Int)⊕(List aB×Int)) :=
 cond (decide (i14<b5))
 (aU (0<=(1:Int)) <|
 aU (0<=m2/\m2<(aA.length:Int)) <|
 aU (0<=(i64.wrap (Int.fdiv (u64.wrap (i64.wrap (i14+b5))) (2 ^ (min (Int.toNat (1:Int)) 64))))/\(i64.wrap (Int.fdiv (u64.wrap (i64.wrap (i14+b5))) (2 ^ (min (Int.toNat (1:Int)) 64))))<(aA.length:Int)) <|
 (b6 (aA.getD m2.toNat default) (aA.getD (Int.toNat (i64.wrap (Int.fdiv (u64.wrap (i64.wrap (i14+b5))) (2 ^ (min (Int.toNat (1:Int)) 64))))) default)).bind fun b7 =>
 cond (!(decide (b7<0)))
 (some (.inl (aA,i64.wrap ((i64.wrap (Int.fdiv (u64.wrap (i64.wrap (i14+b5))) (2 ^ (min (Int.toNat (1:Int)) 64))))+1),b5)))
 (some (.inl (aA,i14,i64.wrap (Int.fdiv (u64.wrap (i64.wrap (i14+b5))) (2 ^ (min (Int.toNat (1:Int)) 64)))))))
 (some (.inr (aA,i14)))
def HY (b5:aB->aB->Option Int)(rec:(List aB)->Int->Int->Int->Option (List aB))(aA:List aB)(m2 i14 b6:Int):Option (List aB) :=
 (lp (fun s=>HC b5 rec m2 s.1 s.2.1 s.2.2) (aA,i14,b6)).bind (fun rr=>IU b5 rec rr.1 m2 rr.2)
def IX (b5:aB->aB->Option Int)(rec:(List aB)->Int->Int->Int->Option (List aB))(aA:List aB)(a1 m2 b3:Int):Option (List aB) :=
 cond (decide ((i64.wrap (b3-m2))=1))
 (HY b5 rec aA m2 a1 m2)
 (JD b5 rec aA a1 m2 b3)
def HI (b5:aB->aB->Option Int)(rec:(List aB)->Int->Int->Int->Option (List aB))(aA:List aB):Option (List aB) :=
 some aA
def HW (b6:aB->aB->Option Int)(rec:(List aB)->Int->Int->Int->Option (List aB))(i10:Int)(aA:List aB)(b5:Int):Option ((List aB×Int)⊕(List aB)) :=
 cond (decide (b5<(i64.wrap (i10-1))))
 (aU (0<=(i64.wrap (b5+1))/\(i64.wrap (b5+1))<(aA.length:Int)) <|
 aU (0<=b5/\b5<(aA.length:Int)) <|
 aU (0<=b5/\b5<(aA.length:Int)) <|
 aU (0<=(i64.wrap (b5+1))/\(i64.wrap (b5+1))<(aA.length:Int)) <|
 some (.inl (List.set (aA.set b5.toNat (aA.getD (Int.toNat (i64.wrap (b5+1))) default)) (Int.toNat (i64.wrap (b5+1))) (aA.getD b5.toNat default),i64.wrap (b5+1))))
 (some (.inr aA))
def IG (b5:aB->aB->Option Int)(rec:(List aB)->Int->Int->Int->Option (List aB))(aA:List aB)(i10 b6:Int):Option (List aB) :=
 (lp (fun s=>HW b5 rec i10 s.1 s.2) (aA,b6)).bind (fun rr=>HI b5 rec rr)
def IE (b5:aB->aB->Option Int)(rec:(List aB)->Int->Int->Int->Option (List aB))(aA:List aB)(a1 i10:Int):Option (List aB) :=
 IG b5 rec aA i10 a1
def HU (b6:aB->aB->Option Int)(rec:(List aB)->Int->Int->Int->Option (List aB))(a1:Int)(aA:List aB)(i10 b5:Int):Option ((List aB×Int×Int)⊕(List aB×Int)) :=
 cond (decide (i10<b5))
 (aU (0<=(1:Int)) <|
 aU (0<=(i64.wrap (Int.fdiv (u64.wrap (i64.wrap (i10+b5))) (2 ^ (min (Int.toNat (1:Int)) 64))))/\(i64.wrap (Int.fdiv (u64.wrap (i64.wrap (i10+b5))) (2 ^ (min (Int.toNat (1:Int)) 64))))<(aA.length:Int)) <|
 aU (0<=a1/\a1<(aA.length:Int)) <|
 (b6 (aA.getD (Int.toNat (i64.wrap (Int.fdiv (u64.wrap (i64.wrap (i10+b5))) (2 ^ (min (Int.toNat (1:Int)) 64))))) default) (aA.getD a1.toNat default)).bind fun b7 =>
 cond (decide (b7<0))
 (some (.inl (aA,i64.wrap ((i64.wrap (Int.fdiv (u64.wrap (i64.wrap (i10+b5))) (2 ^ (min (Int.toNat (1:Int)) 64))))+1),b5)))
 (some (.inl (aA,i10,i64.wrap (Int.fdiv (u64.wrap (i64.wrap (i10+b5))) (2 ^ (min (Int.toNat (1:Int)) 64)))))))
 (some (.inr (aA,i10)))
def HL (b5:aB->aB->Option Int)(rec:(List aB)->Int->Int->Int->Option (List aB))(aA:List aB)(a1 i10 b6:Int):Option (List aB) :=
 (lp (fun s=>HU b5 rec a1 s.1 s.2.1 s.2.2) (aA,i10,b6)).bind (fun rr=>IE b5 rec rr.1 a1 rr.2)
def FJ (b5:aB->aB->Option Int)(rec:(List aB)->Int->Int->Int->Option (List aB))(aA:(List aB))(a1 m2 b3:Int):Option (List aB) :=
 cond (decide ((i64.wrap (m2-a1))=1))
 (HL b5 rec aA a1 m2 b3)
 (IX b5 rec aA a1 m2 b3)
def JH (b5:aB->aB->Option Int):Nat->(List aB)->Int->Int->Int->Option (List aB)
 | 0=>fun _ _ _ _=>none
 | k+1=>FJ b5 (JH b5 k)
def fG (x0 y1:Int):Option Bool :=
 (rR x0).bind fun x1 =>
 (cR x1 (rR y1)).bind fun x4 =>
 some ((x1&&(!x4))||(decide (x0<y1)))
def oD (aA:List Int)(a1 b2 i6:Int):Option ((List Int×Int)⊕(List Int)) :=
 some (.inl (aA,i64.wrap (i6+1)))
def iT (a1 b2 i6:Int)(aA:List Int)(j7:Int):Option ((List Int×Int)⊕(List Int)) :=
 aU ((decide (a1<j7))=true->0<=j7/\j7<(aA.length:Int)) <|
 aU ((decide (a1<j7))=true->0<=(i64.wrap (j7-1))/\(i64.wrap (j7-1))<(aA.length:Int)) <|
 (cR (decide (a1<j7)) (fG (aA.getD j7.toNat default) (aA.getD (Int.toNat (i64.wrap (j7-1))) default))).bind fun x4 =>
 cond ((decide (a1<j7))&&x4)
 (aU (0<=(i64.wrap (j7-1))/\(i64.wrap (j7-1))<(aA.length:Int)) <|
 aU (0<=j7/\j7<(aA.length:Int)) <|
 aU (0<=j7/\j7<(aA.length:Int)) <|
 aU (0<=(i64.wrap (j7-1))/\(i64.wrap (j7-1))<(aA.length:Int)) <|
 some (.inl (List.set (aA.set j7.toNat (aA.getD (Int.toNat (i64.wrap (j7-1))) default)) (Int.toNat (i64.wrap (j7-1))) (aA.getD j7.toNat default),i64.wrap (j7-1))))
 (some (.inr aA))
def oB (aA:List Int)(a1 b2:Int)(i6 j7:Int):Option ((List Int×Int)⊕(List Int)) :=
 (lp (fun s=>iT a1 b2 i6 s.1 s.2) (aA,j7)).bind (fun rr=>oD rr a1 b2 i6)
def eY (a1 b2:Int)(aA:List Int)(i6:Int):Option ((List Int×Int)⊕(List Int)) :=
 cond (decide (i6<b2))
 (oB aA a1 b2 i6 i6)
 (some (.inr aA))
def oE (aA:List Int)(a1 b2 i6:Int):Option (List Int) :=
 (lp (fun s=>eY a1 b2 s.1 s.2) (aA,i6)).bind (fun rr=>some rr)
def mE (aA:(List Int))(a1 b2:Int):Option (List Int) :=
 oE aA a1 b2 (i64.wrap (a1+1))
def lY (aA:List Int)(hi2 bL:Int)(rD JT:Int):Option ((List Int×Int)⊕((List Int)⊕(List Int))) :=
 aU (0<=(i64.wrap (bL+rD))/\(i64.wrap (bL+rD))<(aA.length:Int)) <|
 aU (0<=(i64.wrap (bL+JT))/\(i64.wrap (bL+JT))<(aA.length:Int)) <|
 (fG (aA.getD (Int.toNat (i64.wrap (bL+rD))) default) (aA.getD (Int.toNat (i64.wrap (bL+JT))) default)).bind fun x4 =>
 cond (!x4)
 (some (.inr (.inr aA)))
 (aU (0<=(i64.wrap (bL+JT))/\(i64.wrap (bL+JT))<(aA.length:Int)) <|
 aU (0<=(i64.wrap (bL+rD))/\(i64.wrap (bL+rD))<(aA.length:Int)) <|
 aU (0<=(i64.wrap (bL+rD))/\(i64.wrap (bL+rD))<(aA.length:Int)) <|
 aU (0<=(i64.wrap (bL+JT))/\(i64.wrap (bL+JT))<(aA.length:Int)) <|
 some (.inl (List.set (aA.set (Int.toNat (i64.wrap (bL+rD))) (aA.getD (Int.toNat (i64.wrap (bL+JT))) default)) (Int.toNat (i64.wrap (bL+JT))) (aA.getD (Int.toNat (i64.wrap (bL+rD))) default),JT)))
def eT (hi2 bL:Int)(aA:List Int)(rD:Int):Option ((List Int×Int)⊕((List Int)⊕(List Int))) :=
 cond (decide (hi2<=(i64.wrap ((i64.wrap (2*rD))+1))))
 (some (.inr (.inl aA)))
 (aU ((decide ((i64.wrap ((i64.wrap ((i64.wrap (2*rD))+1))+1))<hi2))=true->0<=(i64.wrap (bL+(i64.wrap ((i64.wrap (2*rD))+1))))/\(i64.wrap (bL+(i64.wrap ((i64.wrap (2*rD))+1))))<(aA.length:Int)) <|
 aU ((decide ((i64.wrap ((i64.wrap ((i64.wrap (2*rD))+1))+1))<hi2))=true->0<=(i64.wrap ((i64.wrap (bL+(i64.wrap ((i64.wrap (2*rD))+1))))+1))/\(i64.wrap ((i64.wrap (bL+(i64.wrap ((i64.wrap (2*rD))+1))))+1))<(aA.length:Int)) <|
 (cR (decide ((i64.wrap ((i64.wrap ((i64.wrap (2*rD))+1))+1))<hi2)) (fG (aA.getD (Int.toNat (i64.wrap (bL+(i64.wrap ((i64.wrap (2*rD))+1))))) default) (aA.getD (Int.toNat (i64.wrap ((i64.wrap (bL+(i64.wrap ((i64.wrap (2*rD))+1))))+1))) default))).bind fun b5 =>
 cond ((decide ((i64.wrap ((i64.wrap ((i64.wrap (2*rD))+1))+1))<hi2))&&b5)
 (lY aA hi2 bL rD (i64.wrap ((i64.wrap ((i64.wrap (2*rD))+1))+1)))
 (lY aA hi2 bL rD (i64.wrap ((i64.wrap (2*rD))+1))))
def qM (aA:List Int)(hi2 bL rD:Int):Option (List Int) :=
 (lp (fun s=>eT hi2 bL s.1 s.2) (aA,rD)).bind (Sum.elim (fun rr=>some rr) (fun rr=>some rr))
def jV (aA:(List Int))(b5 hi2 bL:Int):Option (List Int) :=
 qM aA hi2 bL b5
def gG (rK b5:Int)(aA:List Int)(i10:Int):Option ((List Int×Int)⊕(List Int)) :=
 cond (decide (0<=i10))
 (aU (0<=(i64.wrap (rK+i10))/\(i64.wrap (rK+i10))<(aA.length:Int)) <|
 aU (0<=rK/\rK<(aA.length:Int)) <|
 aU (0<=rK/\rK<(aA.length:Int)) <|
 aU (0<=(i64.wrap (rK+i10))/\(i64.wrap (rK+i10))<(aA.length:Int)) <|
 (jV (List.set (aA.set rK.toNat (aA.getD (Int.toNat (i64.wrap (rK+i10))) default)) (Int.toNat (i64.wrap (rK+i10))) (aA.getD rK.toNat default)) b5 i10 rK).bind fun x6 =>
 some (.inl (x6,i64.wrap (i10-1))))
 (some (.inr aA))
def qO (aA:List Int)(rK b5 i10:Int):Option (List Int) :=
 (lp (fun s=>gG rK b5 s.1 s.2) (aA,i10)).bind (fun rr=>some rr)
def qP (aA:List Int)(rK b5 b6:Int):Option (List Int) :=
 qO aA rK b5 (i64.wrap (b6-1))
def gH (rK b7 b5:Int)(aA:List Int)(i9:Int):Option ((List Int×Int)⊕(List Int)) :=
 cond (decide (0<=i9))
 ((jV aA i9 b5 rK).bind fun b6 =>
 some (.inl (b6,i64.wrap (i9-1))))
 (some (.inr aA))
def qN (aA:List Int)(rK b5:Int)(b6 i9:Int):Option (List Int) :=
 (lp (fun s=>gH rK b5 b6 s.1 s.2) (aA,i9)).bind (fun rr=>qP rr rK b5 b6)
def oN (aA:(List Int))(a1 b2:Int):Option (List Int) :=
 aU ((2:Int)≠0) <|
 qN aA a1 (0:Int) (i64.wrap (b2-a1)) (i64.wrap (Int.tdiv (i64.wrap ((i64.wrap (b2-a1))-1)) (2:Int)))
def iQ (aA:List Int)(a1 MF:Int)(YG FQ:Int)(b5 TC:Int):Option ((List Int×Int×Int)⊕(List Int)) :=
 aU (0<=(i64.wrap (a1+TC))/\(i64.wrap (a1+TC))<(aA.length:Int)) <|
 aU (0<=b5/\b5<(aA.length:Int)) <|
 aU (0<=b5/\b5<(aA.length:Int)) <|
 aU (0<=(i64.wrap (a1+TC))/\(i64.wrap (a1+TC))<(aA.length:Int)) <|
 some (.inl (List.set (aA.set b5.toNat (aA.getD (Int.toNat (i64.wrap (a1+TC))) default)) (Int.toNat (i64.wrap (a1+TC))) (aA.getD b5.toNat default),YG,i64.wrap (b5+1)))
def eG (a1 MF FQ:Int)(aA:List Int)(YG b5:Int):Option ((List Int×Int×Int)⊕(List Int)) :=
 aU ((4:Int)≠0) <|
 cond (decide (b5<=(i64.wrap ((i64.wrap (a1+(i64.wrap ((i64.wrap (Int.tdiv MF (4:Int)))*2))))+1))))
 ((pT YG).bind fun x9 =>
 cond (decide (MF<=(i64.wrap (cI .and .u64 x9.1 (u64.wrap (FQ-1))))))
 (iQ aA a1 MF x9.2 FQ b5 (i64.wrap ((i64.wrap (cI .and .u64 x9.1 (u64.wrap (FQ-1))))-MF)))
 (iQ aA a1 MF x9.2 FQ b5 (i64.wrap (cI .and .u64 x9.1 (u64.wrap (FQ-1))))))
 (some (.inr aA))
def oC (aA:List Int)(a1 MF:Int)(YG FQ b5:Int):Option (List Int) :=
 (lp (fun s=>eG a1 MF FQ s.1 s.2.1 s.2.2) (aA,YG,b5)).bind (fun rr=>some rr)
def mG (aA:(List Int))(a1 b2:Int):Option (List Int) :=
 cond (decide (8<=(i64.wrap (b2-a1))))
 ((oV (i64.wrap (b2-a1))).bind fun x3 =>
 aU ((4:Int)≠0) <|
 oC aA a1 (i64.wrap (b2-a1)) (u64.wrap (i64.wrap (b2-a1))) x3 (i64.wrap ((i64.wrap (a1+(i64.wrap ((i64.wrap (Int.tdiv (i64.wrap (b2-a1)) (4:Int)))*2))))-1)))
 (some aA)
def lE (aA:(List Int))(a1 b2 uE:Int):Option ((Int×Int)×Int) :=
 aU (0<=b2/\b2<(aA.length:Int)) <|
 aU (0<=a1/\a1<(aA.length:Int)) <|
 (fG (aA.getD b2.toNat default) (aA.getD a1.toNat default)).bind fun x3 =>
 cond x3
 (some ((b2,a1),i64.wrap (uE+1)))
 (some ((a1,b2),uE))
def nG (aA:(List Int))(a1 b2:Int)(c3 JS:Int):Option (Int×Int) :=
 (lE aA a1 b2 JS).bind fun x1 =>
 (lE aA x1.1.2 c3 x1.2).bind fun x6 =>
 (lE aA x1.1.1 x6.1.1 x6.2).bind fun b5 =>
 some (b5.1.2,b5.2)
def gE (aA:(List Int))(a1 JU:Int):Option (Int×Int) :=
 (nG aA (i64.wrap (a1-1)) a1 (i64.wrap (a1+1)) JU).bind fun x1 =>
 some (x1.1,x1.2)
def jY (aA:List Int)(aDq b5:Int):Option (Int×Int) :=
 cond (decide (aDq=0))
 (some (b5,(1:Int)))
 (cond (decide (aDq=12))
 (some (b5,(2:Int)))
 (some (b5,(0:Int))))
def jZ (aA:List Int)(aDq i10:Int)(b5 b6:Int):Option (Int×Int) :=
 (nG aA i10 b5 b6 aDq).bind fun x8 =>
 jY aA x8.2 x8.1
def nC (aA:(List Int))(a1 b2:Int):Option (Int×Int) :=
 aU ((4:Int)≠0) <|
 aU ((4:Int)≠0) <|
 aU ((4:Int)≠0) <|
 cond (decide (8<=(i64.wrap (b2-a1))))
 (cond (decide (50<=(i64.wrap (b2-a1))))
 ((gE aA (i64.wrap (a1+(i64.wrap ((i64.wrap (Int.tdiv (i64.wrap (b2-a1)) (4:Int)))*1)))) 0).bind fun b5 =>
 (gE aA (i64.wrap (a1+(i64.wrap ((i64.wrap (Int.tdiv (i64.wrap (b2-a1)) (4:Int)))*2)))) b5.2).bind fun b6 =>
 (gE aA (i64.wrap (a1+(i64.wrap ((i64.wrap (Int.tdiv (i64.wrap (b2-a1)) (4:Int)))*3)))) b6.2).bind fun b7 =>
 jZ aA b7.2 b5.1 b6.1 b7.1)
 (jZ aA 0 (i64.wrap (a1+(i64.wrap ((i64.wrap (Int.tdiv (i64.wrap (b2-a1)) (4:Int)))*1)))) (i64.wrap (a1+(i64.wrap ((i64.wrap (Int.tdiv (i64.wrap (b2-a1)) (4:Int)))*2)))) (i64.wrap (a1+(i64.wrap ((i64.wrap (Int.tdiv (i64.wrap (b2-a1)) (4:Int)))*3))))))
 (jY aA 0 (i64.wrap (a1+(i64.wrap ((i64.wrap (Int.tdiv (i64.wrap (b2-a1)) (4:Int)))*2)))))
def fE  (aA:List Int)(i6 j7:Int):Option ((List Int×Int×Int)⊕(List Int)) :=
 cond (decide (i6<j7))
 (aU (0<=j7/\j7<(aA.length:Int)) <|
 aU (0<=i6/\i6<(aA.length:Int)) <|
 aU (0<=i6/\i6<(aA.length:Int)) <|
 aU (0<=j7/\j7<(aA.length:Int)) <|
 some (.inl (List.set (aA.set i6.toNat (aA.getD j7.toNat default)) j7.toNat (aA.getD i6.toNat default),i64.wrap (i6+1),i64.wrap (j7-1))))
 (some (.inr aA))
def oR (aA:List Int)(i6 j7:Int):Option (List Int) :=
 (lp (fun s=>fE s.1 s.2.1 s.2.2) (aA,i6,j7)).bind (fun rr=>some rr)
def mV (aA:(List Int))(a1 b2:Int):Option (List Int) :=
 oR aA a1 (i64.wrap (b2-1))
def lJ (aA:List Int):Option (Bool×List Int) :=
 some (false,aA)
def lM (aA:List Int)(a1 b2:Int)(i7 j8:Int):Option ((List Int×Int×Int)⊕((List Int)⊕(Bool×(List Int)))) :=
 some (.inl (aA,i7,i64.wrap (j8+1)))
def dY (a1 b2:Int)(i7 j8:Int)(aA:List Int)(b5:Int):Option ((List Int×Int)⊕(List Int)) :=
 cond (decide (b5<b2))
 (aU (0<=b5/\b5<(aA.length:Int)) <|
 aU (0<=(i64.wrap (b5-1))/\(i64.wrap (b5-1))<(aA.length:Int)) <|
 (fG (aA.getD b5.toNat default) (aA.getD (Int.toNat (i64.wrap (b5-1))) default)).bind fun b6 =>
 cond (!b6)
 (some (.inr aA))
 (aU (0<=(i64.wrap (b5-1))/\(i64.wrap (b5-1))<(aA.length:Int)) <|
 aU (0<=b5/\b5<(aA.length:Int)) <|
 aU (0<=b5/\b5<(aA.length:Int)) <|
 aU (0<=(i64.wrap (b5-1))/\(i64.wrap (b5-1))<(aA.length:Int)) <|
 some (.inl (List.set (aA.set b5.toNat (aA.getD (Int.toNat (i64.wrap (b5-1))) default)) (Int.toNat (i64.wrap (b5-1))) (aA.getD b5.toNat default),i64.wrap (b5+1)))))
 (some (.inr aA))
def lI (aA:List Int)(a1 b2:Int)(i7 j8 b5:Int):Option ((List Int×Int×Int)⊕((List Int)⊕(Bool×(List Int)))) :=
 (lp (fun s=>dY a1 b2 i7 j8 s.1 s.2) (aA,b5)).bind (fun rr=>lM rr a1 b2 i7 j8)
def eM (aA:List Int)(a1 b2:Int)(i7 j8:Int):Option ((List Int×Int×Int)⊕((List Int)⊕(Bool×(List Int)))) :=
 cond (decide (2<=(i64.wrap (b2-i7))))
 (lI aA a1 b2 i7 j8 (i64.wrap (i7+1)))
 (lM aA a1 b2 i7 j8)
end Go.Abs
end
