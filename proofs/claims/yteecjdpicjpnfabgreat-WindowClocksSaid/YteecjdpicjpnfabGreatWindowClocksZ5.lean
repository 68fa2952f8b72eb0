/- What the law WindowClocks stands on: the framework, the given functions as plain functions, their walks, and the plain laws; part 5. -/
import Derived.Test.YteecjdpicjpnfabGreatWindowClocksZ4
set_option linter.unusedSimpArgs false
set_option linter.unusedVariables false
namespace Go.Abs
open Go Go.RowKit Go.Proofs
theorem QC (l0:(List aK))(run1:(List Int))(r:aP)(h0:sM l0 run1=some r):cU Tryz.prog 55 [(eL aH l0),(eL (eI) run1)] (aT r):=by
 intro H0;refine CG aB Tryz.func55 (by kernel_rfl) (by kernel_rfl) (by kernel_rfl) ?_;have hO:=aJ.start H0;unfold sM at h0;refine aM ?_;refine aS aB 1 ?_;refine rK 3 (.agg [(eI 0),(eI 0),(.sl true 0 (fun _=>.bad))]) (aT (aP.mk (bL.mk 0 0) ([]))) (by kernel_rfl) (by kernel_rfl) (by kernel_rfl) (zQ (xs:=[(eI 0),(eI 0),(.sl true 0 (fun _=>.bad))]) (ys:=[(eI 0),(eI 0),(eL bZ ([]))]) ⟨aR.refl _,aR.refl _,gQ,trivial⟩) (by kernel_rfl) (by kernel_rfl) hO ?_;intro lo1 H hO;refine dU ?_;refine bN [] [(4,(.lp lo1 0 0))] ?_;refine aM ?_;refine eV (eT [10,16,5]) aB 14 ?_;obtain⟨c2,h0⟩:=bA h0;obtain⟨c3,h0⟩:=bA h0;refine cJ 12 [0<=(0:Int)/\(0:Int)<(lN run1),0<=(wR ((lN run1)-(1:Int)))/\(wR ((lN run1)-(1:Int)))<(lN run1)] ⟨c2,c3,trivial⟩ ?_;refine aEJ 3 (.agg [(eI 0),(eI 0),(.sl true 0 (fun _=>.bad))]) (aT (aP.mk (bL.mk 0 0) ([]))) (zQ (xs:=[(eI 0),(eI 0),(.sl true 0 (fun _=>.bad))]) (ys:=[(eI 0),(eI 0),(eL bZ ([]))]) ⟨aR.refl _,aR.refl _,gQ,trivial⟩) hO ?_;intro lo4 H hO;refine lB 1 lo4 3 0 (aT (aP.mk (bL.mk 0 0) ([]))) (.agg [(eI ((bL.mk (gD run1 (0:Int)) (wR ((gD run1 (wR ((lN run1)-(1:Int))))+(1:Int)))).From)),(eI ((bL.mk (gD run1 (0:Int)) (wR ((gD run1 (wR ((lN run1)-(1:Int))))+(1:Int)))).To)),(.sl true 0 (fun _=>.bad))]) [(aT (aP.mk (bL.mk 0 0) ([])))] [(lo1,3,[(aT (aP.mk (bL.mk 0 0) ([])))]),(lo4,3,[(.agg [(eI ((bL.mk (gD run1 (0:Int)) (wR ((gD run1 (wR ((lN run1)-(1:Int))))+(1:Int)))).From)),(eI ((bL.mk (gD run1 (0:Int)) (wR ((gD run1 (wR ((lN run1)-(1:Int))))+(1:Int)))).To)),(.sl true 0 (fun _=>.bad))])])] hO rfl (by kernel_rfl) ?_;intro H hO;refine nV (by kernel_rfl) ?_;refine aC2 1 3 lo4 2 2 [(eI ((bL.mk (gD run1 (0:Int)) (wR ((gD run1 (wR ((lN run1)-(1:Int))))+(1:Int)))).From)),(eI ((bL.mk (gD run1 (0:Int)) (wR ((gD run1 (wR ((lN run1)-(1:Int))))+(1:Int)))).To)),(.sl true 0 (fun _=>.bad))] (fun _=>.bad) (fun lo5=>[(lo1,3,[(aT (aP.mk (bL.mk 0 0) ([])))]),(lo4,3,[(.agg [(eI ((bL.mk (gD run1 (0:Int)) (wR ((gD run1 (wR ((lN run1)-(1:Int))))+(1:Int)))).From)),(eI ((bL.mk (gD run1 (0:Int)) (wR ((gD run1 (wR ((lN run1)-(1:Int))))+(1:Int)))).To)),(.msl 2 lo5 0 0)])]),(lo5,2,List.map bZ ([]:List bK))]) hO (by kernel_rfl) (by kernel_rfl) (fun _=>by kernel_rfl) ?_;intro lo5 H hO;replace hO:aJ ⟨H0,[],[]⟩ H [(lo1,3,[(aT (aP.mk (bL.mk 0 0) ([])))]),(lo4,3,[(.agg [(eI ((aP.mk (bL.mk (gD run1 (0:Int)) (wR ((gD run1 (wR ((lN run1)-(1:Int))))+(1:Int)))) ([])).Span.From)),(eI ((aP.mk (bL.mk (gD run1 (0:Int)) (wR ((gD run1 (wR ((lN run1)-(1:Int))))+(1:Int)))) ([])).Span.To)),(.msl 2 lo5 0 (List.length ([]:List bK)))])]),(lo5,2,List.map bZ ([]:List bK))]:=hO;refine bD [(0,(eL aH l0)),(4,(.lp lo1 0 0)),(5,(.lp lo4 0 0))] ?_;refine aM ?_;refine aM ?_;refine aS aB 2 ?_;refine bJ 1 ?_;obtain⟨x6,hx7,h0⟩:=aW h0;refine cN (IB l0 _ hx7) hO ?_;intro H hO;refine dU ?_;refine bN [0] [(21,(.fn (.func 99) [] [(.rp (eL aH x6))]))] ?_;refine bT 0 ?_;refine dZ [(4,(.lp lo1 0 0)),(5,(.lp lo4 0 0)),(21,(.fn (.func 99) [] [(.rp (eL aH x6))]))] ?_;refine dR (fun T H=>∃ t4:aP,∃ p5:aP,∃ yO:(List aK),∃ lo8:Nat,Has T [(4,(.lp lo1 0 0)),(5,(.lp lo4 0 0)),(21,(.fn (.func 99) [] [(.rp (eL aH yO))]))]/\aJ ⟨H0,[],[]⟩ H [(lo1,3,[(aT t4)]),(lo4,3,[(.agg [(eI p5.Span.From),(eI p5.Span.To),(.msl 2 lo8 0 (List.length p5.Rows))])]),(lo8,2,List.map bZ p5.Rows)]/\uY t4 p5 yO=some r) ?_ ⟨(aP.mk (bL.mk 0 0) ([])),aP.mk (bL.mk (gD run1 (0:Int)) (wR ((gD run1 (wR ((lN run1)-(1:Int))))+(1:Int)))) ([]),x6,lo5,aZ,hO,h0⟩;clear hO h0;rintro T H ⟨t4,p5,yO,lo8,hT,hO,h0⟩;refine bC (l:=[(4,(.lp lo1 0 0)),(5,(.lp lo4 0 0)),(21,(.fn (.func 99) [] [(.rp (eL aH yO))]))]) hT ?_;clear hT;unfold uY at h0;obtain⟨o0,hl0,h0⟩:=aW h0;refine AQ (fid:=99) (ys:=[]) (cs:=[(.rp (eL aH yO))]) #[22] (fun (A:tD) (b lL:Nat) (st:(aP×aP)⊕(aP×aP)) (G':Gs)=>Sum.elim (fun (s:aP×aP)=>∃ lo8:Nat,G'=(lL,.raw (iB b A .ready none))::(up [(lo1,3,[(aT s.1)]),(lo4,3,[(.agg [(eI s.2.Span.From),(eI s.2.Span.To),(.msl 2 lo8 0 (List.length s.2.Rows))])]),(lo8,2,List.map bZ s.2.Rows)]++[])) (fun (s:aP×aP)=>False) st) (.inl (t4,p5)) o0 (.tup []) (by kernel_rfl) (by kernel_rfl) (by kernel_rfl) hO (fun _ _=>⟨lo8,rfl⟩) ?_ ?_
 ·intro b lL;clear hO h0;refine DI _ b (fun st t22=>rnd (fun (s:aP×aP)=>oT yO s.1 s.2 t22) st) ?_ yO _ _ hl0;intro st t22 out1 rr hr;obtain⟨s,rfl,h1,rfl⟩:=LU hr;clear hr;intro Hr Gr hi hg;obtain⟨t4,p5⟩:=s;dsimp only [Sum.elim_inl] at hi;obtain⟨lo8,rfl⟩:=hi;replace h1:oT yO t4 p5 t22=some out1:=h1;unfold oT at h1;obtain⟨E1,hE,hO⟩:=qP hg;refine qQ (yE (hO.gm 0 _ rfl).2 (by kernel_rfl) (by kernel_rfl) ?_);refine dZ [(4,(.lp lo1 0 0)),(5,(.lp lo4 0 0)),(21,(.fn (.func 99) [] [(.rp (eL aH yO))])),(22,(aH t22))] ?_;refine aS aB 2 ?_;refine rK 3 (.agg [(.sl true 0 (fun _=>.bad)),(eI 0),(eI 0)]) (aH (aK.mk ([]) 0 0)) (by kernel_rfl) (by kernel_rfl) (by kernel_rfl) (zQ (xs:=[(.sl true 0 (fun _=>.bad)),(eI 0),(eI 0)]) (ys:=[(eL aD ([])),(eI 0),(eI 0)]) ⟨gQ,aR.refl _,aR.refl _,trivial⟩) (by kernel_rfl) (by kernel_rfl) hO ?_;intro lo9 H hO;refine jX 3 lo9 3 0 (aH (aK.mk ([]) 0 0)) (aH t22) [(aH (aK.mk ([]) 0 0))] [(lo1,3,[(aT t4)]),(lo4,3,[(.agg [(eI p5.Span.From),(eI p5.Span.To),(.msl 2 lo8 0 (List.length p5.Rows))])]),(lo8,2,List.map bZ p5.Rows),(lo9,3,[(aH t22)])] hO rfl (by kernel_rfl) ?_;intro H hO;refine dU ?_;refine dO [(4,(.lp lo1 0 0)),(5,(.lp lo4 0 0)),(6,(.lp lo9 0 0))] ?_;refine aF (⟨rfl,rfl,(hO.gm 0 _ rfl).2,?_⟩);intro o1 ho1;replace hO:=hO.oX o1;refine bT 1 ?_;refine aM ?_;refine aM ?_;refine aS aB 14 ?_;refine bJ 1 ?_;refine jY 3 lo9 3 0 (aH t22) (eI t22.At) [(aH t22)] hO rfl ?_;refine bJ 4 ?_;refine jY 1 lo4 3 0 (.agg [(eI p5.Span.From),(eI p5.Span.To),(.msl 2 lo8 0 (List.length p5.Rows))]) (eI p5.Span.From) [(.agg [(eI p5.Span.From),(eI p5.Span.To),(.msl 2 lo8 0 (List.length p5.Rows))])] hO rfl ?_;refine bJ 8 ?_;refine sA [(29,false)] 3 lo9 3 0 (aH t22) (eI t22.At) [(aH t22)] (by kernel_rfl) (by kernel_rfl) hO (by kernel_rfl) (!(decide (t22.At<p5.Span.From))) (by kernel_rfl) (fun hb10=>rfl) ?_;refine bJ 11 ?_;refine sA [(29,false)] 1 lo4 3 0 (.agg [(eI p5.Span.From),(eI p5.Span.To),(.msl 2 lo8 0 (List.length p5.Rows))]) (eI p5.Span.To) [(.agg [(eI p5.Span.From),(eI p5.Span.To),(.msl 2 lo8 0 (List.length p5.Rows))])] (by kernel_rfl) (by kernel_rfl) hO (by kernel_rfl) (!(decide (t22.At<p5.Span.From))) (by kernel_rfl) (fun _=>rfl) ?_;refine bB ?_;refine bN [] [(36,(aC ((decide (t22.At<p5.Span.From))||(decide (p5.Span.To<=t22.At)))))] ?_;refine bH h1 (fun h1=>?_) (fun h1=>?_)
  ·refine eH 1 ?_;refine dO [(4,(.lp lo1 0 0)),(5,(.lp lo4 0 0))] ?_;replace hO:=hO.pick (L':=[(lo1,3,[(aT t4)]),(lo4,3,[(.agg [(eI p5.Span.From),(eI p5.Span.To),(.msl 2 lo8 0 (List.length p5.Rows))])]),(lo8,2,List.map bZ p5.Rows)]) [0,1,2] (by decide) (by kernel_rfl);obtain rfl:=oI h1;exact aF (aX (bP (⟨(eB hO hE ho1 .dead).1,rfl,_,⟨lo8,rfl⟩,(eB hO hE ho1 _).2⟩)))
  refine bI ?_;refine bD [(4,(.lp lo1 0 0)),(5,(.lp lo4 0 0)),(6,(.lp lo9 0 0))] ?_;refine aM ?_;refine aS aB 5 ?_;refine bJ 1 ?_;refine jY 1 lo4 3 0 (.agg [(eI p5.Span.From),(eI p5.Span.To),(.msl 2 lo8 0 (List.length p5.Rows))]) (.msl 2 lo8 0 (List.length p5.Rows)) [(.agg [(eI p5.Span.From),(eI p5.Span.To),(.msl 2 lo8 0 (List.length p5.Rows))])] hO rfl ?_;refine bB ?_;refine bN [] [(7,(eI (wR ((lN p5.Rows)-(1:Int)))))] ?_;refine aM ?_;refine aM ?_;obtain⟨c12,h1⟩:=bA h1;obtain⟨x13,hx14,h1⟩:=aW h1;refine eV (eT []) aB 13 ?_;refine nN (K:=fun T H=>Has (lift T) [(4,(.lp lo1 0 0)),(5,(.lp lo4 0 0)),(6,(.lp lo9 0 0)),(7,(eI (wR ((lN p5.Rows)-(1:Int))))),(53,(aC ((decide ((0:Int)<=(wR ((lN p5.Rows)-(1:Int)))))&&x13)))]/\aJ ⟨Hr,E1,(lL,o1)::[]⟩ H [(lo1,3,[(aT t4)]),(lo4,3,[(.agg [(eI p5.Span.From),(eI p5.Span.To),(.msl 2 lo8 0 (List.length p5.Rows))])]),(lo8,2,List.map bZ p5.Rows),(lo9,3,[(aH t22)])]) ?_ ?_
  ·refine hU 3 ?_;refine kG (t:=43) (e:=decide ((0:Int)<=(wR ((lN p5.Rows)-(1:Int))))) (by kernel_rfl) (fun hg15=>?_) (fun hg15=>?_)
   ·refine hU 4 ?_;refine oR 1 lo4 3 0 (.agg [(eI p5.Span.From),(eI p5.Span.To),(.msl 2 lo8 0 (List.length p5.Rows))]) (.msl 2 lo8 0 (List.length p5.Rows)) [(.agg [(eI p5.Span.From),(eI p5.Span.To),(.msl 2 lo8 0 (List.length p5.Rows))])] hO rfl ?_;refine cJ 8 [0<=(wR ((lN p5.Rows)-(1:Int)))/\(wR ((lN p5.Rows)-(1:Int)))<(lN p5.Rows)] ⟨(c12 hg15),trivial⟩ ?_;refine oR 2 lo8 2 (0+Int.toNat (wR ((lN p5.Rows)-(1:Int)))) (bZ (gD p5.Rows (wR ((lN p5.Rows)-(1:Int))))) (eL aD ((gD p5.Rows (wR ((lN p5.Rows)-(1:Int)))).Row)) (List.map bZ p5.Rows) hO (cB (c12 hg15)) ?_;refine hU 10 ?_;refine oR 3 lo9 3 0 (aH t22) (eL aD t22.Row) [(aH t22)] hO rfl ?_;refine mF 93 [(eL aD ((gD p5.Rows (wR ((lN p5.Rows)-(1:Int)))).Row)),(eL aD t22.Row)] (aC x13) (by kernel_rfl) (by kernel_rfl) (rJ ((gD p5.Rows (wR ((lN p5.Rows)-(1:Int)))).Row) t22.Row _ (gV hx14 hg15)) hO ?_;intro H hO;refine gP ?_;exact⟨⟨[(4,(.lp lo1 0 0)),(5,(.lp lo4 0 0)),(6,(.lp lo9 0 0)),(7,(eI (wR ((lN p5.Rows)-(1:Int))))),(53,(aC x13))],by kernel_rfl,rfl,⟨aR.refl _,aR.refl _,aR.refl _,aR.refl _,aR.eq (congrArg aC (dY hg15 rfl).symm),trivial⟩⟩,hO⟩
   refine gP ?_;exact⟨⟨[(4,(.lp lo1 0 0)),(5,(.lp lo4 0 0)),(6,(.lp lo9 0 0)),(7,(eI (wR ((lN p5.Rows)-(1:Int))))),(53,(aC false))],by kernel_rfl,rfl,⟨aR.refl _,aR.refl _,aR.refl _,aR.refl _,aR.eq (congrArg aC (dY hg15 rfl).symm),trivial⟩⟩,hO⟩
  ·rintro T H ⟨hT,hO⟩;refine dL hT ?_;clear hT;refine aF (aE ?_);refine bH h1 (fun h1=>?_) (fun h1=>?_)
   ·refine aM ?_;refine eV (eT []) aB 12 ?_;refine hU 1 ?_;refine fW 1 lo4 3 0 (.agg [(eI p5.Span.From),(eI p5.Span.To),(.msl 2 lo8 0 (List.length p5.Rows))]) (.msl 2 lo8 0 (List.length p5.Rows)) [(.agg [(eI p5.Span.From),(eI p5.Span.To),(.msl 2 lo8 0 (List.length p5.Rows))])] hO rfl ?_;obtain⟨c17,h1⟩:=bA h1;refine cJ 5 [0<=(wR ((lN p5.Rows)-(1:Int)))/\(wR ((lN p5.Rows)-(1:Int)))<(lN p5.Rows)] ⟨c17,trivial⟩ ?_;refine fW 2 lo8 2 (0+Int.toNat (wR ((lN p5.Rows)-(1:Int)))) (bZ (gD p5.Rows (wR ((lN p5.Rows)-(1:Int))))) (eI ((gD p5.Rows (wR ((lN p5.Rows)-(1:Int)))).N)) (List.map bZ p5.Rows) hO (cB c17) ?_;refine hU 7 ?_;refine fW 3 lo9 3 0 (aH t22) (eI t22.Net) [(aH t22)] hO rfl ?_;obtain⟨c18,h1⟩:=bA h1;refine cJ 11 [0<=(wR ((lN p5.Rows)-(1:Int)))/\(wR ((lN p5.Rows)-(1:Int)))<(lN p5.Rows)] ⟨c18,trivial⟩ ?_;refine lB 2 lo8 2 (0+Int.toNat (wR ((lN p5.Rows)-(1:Int)))) (bZ (gD p5.Rows (wR ((lN p5.Rows)-(1:Int))))) (bZ (bK.mk (gD p5.Rows (wR ((lN p5.Rows)-(1:Int)))).Row (wR (((gD p5.Rows (wR ((lN p5.Rows)-(1:Int)))).N)+t22.Net)))) (List.map bZ p5.Rows) [(lo1,3,[(aT t4)]),(lo4,3,[(.agg [(eI p5.Span.From),(eI p5.Span.To),(.msl 2 lo8 0 (List.length p5.Rows))])]),(lo8,2,List.map bZ (List.set p5.Rows (Int.toNat (wR ((lN p5.Rows)-(1:Int)))) (bK.mk (gD p5.Rows (wR ((lN p5.Rows)-(1:Int)))).Row (wR (((gD p5.Rows (wR ((lN p5.Rows)-(1:Int)))).N)+t22.Net))))),(lo9,3,[(aH t22)])] hO (cB c18) (by simp only [List.set,iN]) ?_;intro H hO;refine nV (by kernel_rfl) ?_;replace hO:aJ ⟨Hr,E1,(lL,o1)::[]⟩ H [(lo1,3,[(aT t4)]),(lo4,3,[(.agg [(eI ((aP.mk p5.Span (List.set p5.Rows (Int.toNat (wR ((lN p5.Rows)-(1:Int)))) (bK.mk (gD p5.Rows (wR ((lN p5.Rows)-(1:Int)))).Row (wR (((gD p5.Rows (wR ((lN p5.Rows)-(1:Int)))).N)+t22.Net))))).Span.From)),(eI ((aP.mk p5.Span (List.set p5.Rows (Int.toNat (wR ((lN p5.Rows)-(1:Int)))) (bK.mk (gD p5.Rows (wR ((lN p5.Rows)-(1:Int)))).Row (wR (((gD p5.Rows (wR ((lN p5.Rows)-(1:Int)))).N)+t22.Net))))).Span.To)),(.msl 2 lo8 0 (List.length (List.set p5.Rows (Int.toNat (wR ((lN p5.Rows)-(1:Int)))) (bK.mk (gD p5.Rows (wR ((lN p5.Rows)-(1:Int)))).Row (wR (((gD p5.Rows (wR ((lN p5.Rows)-(1:Int)))).N)+t22.Net))))))])]),(lo8,2,List.map bZ (List.set p5.Rows (Int.toNat (wR ((lN p5.Rows)-(1:Int)))) (bK.mk (gD p5.Rows (wR ((lN p5.Rows)-(1:Int)))).Row (wR (((gD p5.Rows (wR ((lN p5.Rows)-(1:Int)))).N)+t22.Net))))),(lo9,3,[(aH t22)])]:=by simpa only [List.length_set] using hO
    replace hO:=hO.pick (L':=[(lo1,3,[(aT t4)]),(lo4,3,[(.agg [(eI ((aP.mk p5.Span (List.set p5.Rows (Int.toNat (wR ((lN p5.Rows)-(1:Int)))) (bK.mk (gD p5.Rows (wR ((lN p5.Rows)-(1:Int)))).Row (wR (((gD p5.Rows (wR ((lN p5.Rows)-(1:Int)))).N)+t22.Net))))).Span.From)),(eI ((aP.mk p5.Span (List.set p5.Rows (Int.toNat (wR ((lN p5.Rows)-(1:Int)))) (bK.mk (gD p5.Rows (wR ((lN p5.Rows)-(1:Int)))).Row (wR (((gD p5.Rows (wR ((lN p5.Rows)-(1:Int)))).N)+t22.Net))))).Span.To)),(.msl 2 lo8 0 (List.length (List.set p5.Rows (Int.toNat (wR ((lN p5.Rows)-(1:Int)))) (bK.mk (gD p5.Rows (wR ((lN p5.Rows)-(1:Int)))).Row (wR (((gD p5.Rows (wR ((lN p5.Rows)-(1:Int)))).N)+t22.Net))))))])]),(lo8,2,List.map bZ (List.set p5.Rows (Int.toNat (wR ((lN p5.Rows)-(1:Int)))) (bK.mk (gD p5.Rows (wR ((lN p5.Rows)-(1:Int)))).Row (wR (((gD p5.Rows (wR ((lN p5.Rows)-(1:Int)))).N)+t22.Net)))))]) [0,1,2] (by decide) (by kernel_rfl);refine bN [6,7,53] [] ?_;refine eH 1 ?_;refine dO [(4,(.lp lo1 0 0)),(5,(.lp lo4 0 0))] ?_;obtain rfl:=oI h1;exact aF (aX (bP (⟨(eB hO hE ho1 .dead).1,rfl,_,⟨lo8,rfl⟩,(eB hO hE ho1 _).2⟩)))
   refine bI ?_;refine bD [(4,(.lp lo1 0 0)),(5,(.lp lo4 0 0)),(6,(.lp lo9 0 0))] ?_;refine UW 2 3 6 3 lo9 (aH t22) [(lo1,3,[(aT t4)]),(lo4,3,[(.agg [(eI p5.Span.From),(eI p5.Span.To),(.msl 2 lo8 0 (List.length p5.Rows))])]),(lo8,2,List.map bZ p5.Rows)] hO (by kernel_rfl) (by kernel_rfl) (by kernel_rfl) ?_;intro H hO;refine eV (eT [68,69,71,73]) aB 12 ?_;refine hU 1 ?_;refine fW 1 lo4 3 0 (.agg [(eI p5.Span.From),(eI p5.Span.To),(.msl 2 lo8 0 (List.length p5.Rows))]) (.msl 2 lo8 0 (List.length p5.Rows)) [(.agg [(eI p5.Span.From),(eI p5.Span.To),(.msl 2 lo8 0 (List.length p5.Rows))])] hO rfl ?_;refine hU 4 ?_;obtain⟨x19,hx20,h1⟩:=aW h1;refine aBo 59 [(eL aD t22.Row)] (eL aD x19) (by kernel_rfl) (by kernel_rfl) (IV.frozen (rE t22.Row _ hx20)) hO ?_;intro H hO;refine hU 8 ?_;refine WY (xs:=[(bZ (bK.mk x19 t22.Net))]) (k:=2) (by kernel_rfl) (by kernel_rfl) ?_;obtain⟨c23,h1⟩:=bA h1;refine MU (e:=bZ) p5.Rows ([bK.mk x19 t22.Net]) 2 lo8 2 32 (eD [(bZ (bK.mk x19 t22.Net))]) (fun lo22=>[(lo1,3,[(aT t4)]),(lo4,3,[(.agg [(eI p5.Span.From),(eI p5.Span.To),(.msl 2 lo8 0 (List.length p5.Rows))])]),(lo22,2,List.map bZ (p5.Rows++([bK.mk x19 t22.Net])))]) (by kernel_rfl) (by kernel_rfl) hO (by kernel_rfl) (by kernel_rfl) c23 (fun _=>by kernel_rfl) ?_;intro lo22 H hO;refine hU 11 ?_;refine lB 1 lo4 3 0 (.agg [(eI p5.Span.From),(eI p5.Span.To),(.msl 2 lo8 0 (List.length p5.Rows))]) (.agg [(eI ((aP.mk p5.Span (p5.Rows++([bK.mk x19 t22.Net]))).Span.From)),(eI ((aP.mk p5.Span (p5.Rows++([bK.mk x19 t22.Net]))).Span.To)),(.msl 2 lo22 0 (List.length (p5.Rows++([bK.mk x19 t22.Net]))))]) [(.agg [(eI p5.Span.From),(eI p5.Span.To),(.msl 2 lo8 0 (List.length p5.Rows))])] [(lo1,3,[(aT t4)]),(lo4,3,[(.agg [(eI ((aP.mk p5.Span (p5.Rows++([bK.mk x19 t22.Net]))).Span.From)),(eI ((aP.mk p5.Span (p5.Rows++([bK.mk x19 t22.Net]))).Span.To)),(.msl 2 lo22 0 (List.length (p5.Rows++([bK.mk x19 t22.Net]))))])]),(lo22,2,List.map bZ (p5.Rows++([bK.mk x19 t22.Net])))] hO rfl (by kernel_rfl) ?_;intro H hO;refine nV (by kernel_rfl) ?_;refine dO [(4,(.lp lo1 0 0)),(5,(.lp lo4 0 0))] ?_;obtain rfl:=oI h1;exact aF (aU (⟨(eB hO hE ho1 .dead).1,rfl,_,⟨lo22,rfl⟩,(eB hO hE ho1 _).2⟩))
 ·intro b lD24 lL H' G' hi hO;rcases o0 with s | s
  ·dsimp only [Sum.elim_inl] at hi;obtain⟨lo8,rfl⟩:=hi;replace h0:(some s.2)=some r:=h0;obtain⟨hlL,hO⟩:=nR hO;refine⟨_,_,hlL,(by intro e; cases e),?_⟩;refine dO [(4,(.lp lo1 0 0)),(5,(.lp lo4 0 0))] ?_;refine aF (aU (aE (?_)));refine aM ?_;refine NV (e:=bZ) s.2.Rows 1 2 3 2 lo4 lo8 (List.length s.2.Rows) 2 [(eI s.2.Span.From),(eI s.2.Span.To),(.msl 2 lo8 0 (List.length s.2.Rows))] [(lo1,3,[(aT s.1)]),(lo4,3,[(aT s.2)])] hO (by kernel_rfl) (by kernel_rfl) (by kernel_rfl) (by kernel_rfl) (by kernel_rfl) (by kernel_rfl) ?_;intro H hO;refine aS aB 2 ?_;refine jY 1 lo4 3 0 (aT s.2) (aT s.2) [(aT s.2)] hO rfl ?_;refine jX 0 lo1 3 0 (aT s.1) (aT s.2) [(aT s.1)] [(lo1,3,[(aT s.2)]),(lo4,3,[(aT s.2)])] hO rfl (by kernel_rfl) ?_;intro H hO;refine dU ?_;refine dO [(4,(.lp lo1 0 0))] ?_;replace hO:=hO.pick (L':=[(lo1,3,[(aT s.2)])]) [0] (by decide) (by kernel_rfl);refine aF (aE (?_));refine bG ?_;obtain rfl:=oI h0;have hD:=(hO.gm 0 _ rfl).2;replace hO:=(hO.oX .dead).pF;exact aF (QM1 (.inr rfl) hD (rs:=[.cell 4 55]) (xs:=[(aT s.2)]) (x:=(aT s.2)) (by kernel_rfl) (nZ (lo:=lo1) (k:=3) (y:=(aT s.2)) (x:=(aT s.2)) 0 hO (by kernel_rfl) (by kernel_rfl) (by kernel_rfl) (by kernel_rfl) oP) (by kernel_rfl) ⟨rfl,hO.out⟩)
  ·exact hi.elim

theorem TZ (l0:(List aK))(n1:Int)(nP:Int)(r:((List aP)×Int))(h0:tV l0 n1 nP=some r):cU Tryz.prog 28 [(eL aH l0),(eI n1),(eI nP)] (.tup [(eL aT r.1),(eI r.2)]):=by
 intro H0;refine cQ Tryz.func28 ?_;have hO:=aJ.start H0;unfold tV at h0;refine aV aB 2 [] [] ?_;refine aM ?_;refine aM ?_;refine aS aB 4 ?_;refine bJ 2 ?_;obtain⟨x1,hx2,h0⟩:=aW h0;refine cN (ME l0 n1 _ hx2) hO ?_;intro H hO;refine bB ?_;refine bN [] [(8,(eI x1))] ?_;refine aV aB 2 [] [(18,(aC (!decide (x1=(0:Int)))))] ?_;refine bH h0 (fun h0=>?_) (fun h0=>?_)
 ·refine bM aB 3 [(6,(.sl true 0 (fun _=>.bad))),(7,(eI x1))] ?_;refine bG ?_;refine dL (l:=[(6,(eL aT ([]))),(7,(eI x1))]) ⟨[(6,(.sl true 0 (fun _=>.bad))),(7,(eI x1))],by kernel_rfl,rfl,⟨gQ,aR.refl _,trivial⟩⟩ ?_;obtain rfl:=oI h0;exact aF (aQ (Q_r hO))
 refine bI ?_;refine bD [(0,(eL aH l0)),(1,(eI n1)),(2,(eI nP))] ?_;refine aM ?_;refine aV aB 6 [] [(25,(aC ((decide (nP<(0:Int)))||(decide ((1125899906842624:Int)<nP)))))] ?_;refine bH h0 (fun h0=>?_) (fun h0=>?_)
 ·refine bM aB 2 [(6,(.sl true 0 (fun _=>.bad))),(7,(eI 13))] ?_;refine bG ?_;refine dL (l:=[(6,(eL aT ([]))),(7,(eI 13))]) ⟨[(6,(.sl true 0 (fun _=>.bad))),(7,(eI 13))],by kernel_rfl,rfl,⟨gQ,aR.refl _,trivial⟩⟩ ?_;obtain rfl:=oI h0;exact aF (aQ (Q_r hO))
 refine bI ?_;refine bD [(0,(eL aH l0)),(1,(eI n1)),(2,(eI nP))] ?_;refine aM ?_;refine aS aB 3 ?_;refine bJ 1 ?_;obtain⟨x6,hx7,h0⟩:=aW h0;refine cN (GX l0 _ hx7) hO ?_;intro H hO;refine bB ?_;refine bN [] [(9,(eL (eI) x6))] ?_;refine aM ?_;refine aS aB 8 ?_;refine bJ 2 ?_;obtain⟨x9,hx10,h0⟩:=aW h0;refine cN (tB x6 nP _ hx10) hO ?_;intro H hO;refine bB ?_;refine bN [2] [(10,(eI x9.1))] ?_;refine aM ?_;refine aS aB 8 ?_;obtain⟨c12,h0⟩:=bA h0;refine mU [0<=x9.1/\x9.1<=(lN x6)/\(lN x6)<=(lN x6)/\(lN x6)<=(lN x6)] ⟨c12,trivial⟩ ?_;refine dL (l:=[(0,(eL aH l0)),(1,(eI n1)),(12,(eL (eI) (List.drop (Int.toNat x9.1) (List.take (Int.toNat (lN x6)) x6))))]) ⟨[(0,(eL aH l0)),(1,(eI n1)),(12,(.sl false (Int.toNat (lN x6)-Int.toNat x9.1) (fun i=>(eI) (List.getD x6 (Int.toNat x9.1+i) default))))],by kernel_rfl,rfl,⟨aR.refl _,aR.refl _,aGA (Int.toNat_le.2 (Int.le_trans (And.left (And.right (And.right c12))) (And.right (And.right (And.right c12))))),trivial⟩⟩ ?_;refine aF (aE (?_));refine aM ?_;refine aV aB 6 [] [(46,(aC (decide ((1024:Int)<(wR ((wR ((lN (List.drop (Int.toNat x9.1) (List.take (Int.toNat (lN x6)) x6)))-n1))+(1:Int)))))))] ?_;refine bH h0 (fun h0=>?_) (fun h0=>?_)
 ·refine bM aB 2 [(6,(.sl true 0 (fun _=>.bad))),(7,(eI 7))] ?_;refine bG ?_;refine dL (l:=[(6,(eL aT ([]))),(7,(eI 7))]) ⟨[(6,(.sl true 0 (fun _=>.bad))),(7,(eI 7))],by kernel_rfl,rfl,⟨gQ,aR.refl _,trivial⟩⟩ ?_;obtain rfl:=oI h0;exact aF (aQ (Q_r hO))
 refine bI ?_;refine bD [(0,(eL aH l0)),(1,(eI n1)),(12,(eL (eI) (List.drop (Int.toNat x9.1) (List.take (Int.toNat (lN x6)) x6))))] ?_;refine aM ?_;refine aS aB 2 ?_;refine nU [] 3 ?_;refine bB ?_;refine bN [] [(13,(.sl true 0 (fun _=>.bad)))] ?_;refine dN (fun T H=>∃ kP:List aP,∃ lo14:Nat,Has T [(13,(.msl 3 lo14 0 (List.length kP)))]/\aJ ⟨H0,[],[]⟩ H [(lo14,3,List.map aT kP)]/\xC kP=some r) ?_ ?_
 ·clear hO h0;rintro T H ⟨kP,lo14,hT,hO,h0⟩;refine bC hT ?_;clear hT;unfold xC at h0;refine bM aB 3 [(6,(.msl 3 lo14 0 (List.length kP))),(7,(eI 0))] ?_;refine bG ?_;refine dO [(6,(.msl 3 lo14 0 (List.length kP))),(7,(eI 0))] ?_;refine qR (en:=aT) kP 0 0 6 3 lo14 (List.length kP) hO (by kernel_rfl) (by kernel_rfl) (by kernel_rfl) (L':=[]) (by kernel_rfl) ?_;intro H15 hO;obtain rfl:=oI h0;exact aF (Q_r hO)
 refine bT 0 ?_;refine dZ [(0,(eL aH l0)),(1,(eI n1)),(12,(eL (eI) (List.drop (Int.toNat x9.1) (List.take (Int.toNat (lN x6)) x6)))),(13,(.sl true 0 (fun _=>.bad)))] ?_;refine DM (el:=(fun _=>.bad)) 3 13 3 hO (by kernel_rfl) ?_;intro lo26 H27 hO;refine dR (fun T H=>∃ lX:(List Int),∃ kP:List aP,∃ lo17:Nat,Has T [(0,(eL aH l0)),(1,(eI n1)),(12,(eL (eI) lX)),(13,(.msl 3 lo17 0 (List.length kP)))]/\aJ ⟨H0,[],[]⟩ H [(lo17,3,List.map aT kP)]/\xK l0 n1 lX kP=some r) ?_ ⟨List.drop (Int.toNat x9.1) (List.take (Int.toNat (lN x6)) x6),([]:List aP),lo26,aZ,hO,h0⟩;clear hO h0;rintro T H ⟨lX,kP,lo17,hT,hO,h0⟩;refine bC hT ?_;clear hT;unfold xK at h0;obtain⟨rr0,hl0,h0⟩:=aW h0;refine fD (fun (s:(List Int)×List aP) T H=>∃ lo17:Nat,Has T [(0,(eL aH l0)),(1,(eI n1)),(12,(eL (eI) s.1)),(13,(.msl 3 lo17 0 (List.length s.2)))]/\aJ ⟨H0,[],[]⟩ H [(lo17,3,List.map aT s.2)]) hl0 ⟨lo17,aZ,hO⟩ ?_;clear hO;rintro k0 s out1 T H ⟨lo17,hT,hO⟩ h1 ho0;obtain⟨lX,kP⟩:=s;replace h1:mQ l0 n1 lX kP=some out1:=h1
 try dsimp only at hT
 refine bC hT ?_;clear hT;unfold mQ at h1;refine aM ?_;refine aV aB 4 [] [(51,(aC (decide (n1<=(lN lX)))))] ?_;refine bH h1 (fun h1=>?_) (fun h1=>?_)
 ·refine bI ?_;refine bD [(0,(eL aH l0)),(1,(eI n1)),(12,(eL (eI) lX)),(13,(.msl 3 lo17 0 (List.length kP)))] ?_;refine bT 1 ?_;refine aM ?_;refine aS aB 10 ?_;refine bJ 5 ?_;obtain⟨c19,h1⟩:=bA h1;refine aEE (n':=List.length lX) (el:=fun i=>(eI) (List.getD lX i default)) c19 ?_;obtain⟨x20,hx21,h1⟩:=aW h1;refine aG5 55 [(eL aH l0),(.sl false (Int.toNat n1) (fun i=>(eI) (List.getD lX i default)))] (aT x20) (cU.sub (QC l0 (List.take (Int.toNat n1) lX) _ hx21) ⟨aR.refl _,aBB (Int.toNat_le.2 (Int.le_trans (And.left (And.right c19)) (And.right (And.right c19)))),trivial⟩) hO ?_;intro H hO;refine nU [(aT x20)] 3 ?_;obtain⟨c24,h1⟩:=bA h1;refine AO aT kP ([x20]) 0 lo17 3 40 (eD [(aT x20)]) (fun lo23=>[(lo23,3,List.map aT (kP++([x20])))]) hO (by kernel_rfl) c24 ?_;intro lo23 H hO;refine bB ?_;refine bN [13] [(13,(.msl 3 lo23 0 (List.length (kP++([x20])))))] ?_;refine aS aB 3 ?_;obtain⟨c25,h1⟩:=bA h1;refine mU [0<=(1:Int)/\(1:Int)<=(lN lX)] ⟨c25,trivial⟩ ?_;refine dL (l:=[(0,(eL aH l0)),(1,(eI n1)),(12,(eL (eI) (List.drop (Int.toNat (1:Int)) lX))),(13,(.msl 3 lo23 0 (List.length (kP++([x20])))))]) ⟨[(0,(eL aH l0)),(1,(eI n1)),(12,(.sl false (List.length lX-Int.toNat (1:Int)) (fun i=>(eI) (List.getD lX (Int.toNat (1:Int)+i) default)))),(13,(.msl 3 lo23 0 (List.length (kP++([x20])))))],by kernel_rfl,rfl,⟨aR.refl _,aR.refl _,aF1,aR.refl _,trivial⟩⟩ ?_;exact aF (aU (aE (⟨rfl,_,(oI h1).symm,_,aZ,hO⟩)))
 refine eH 0 ?_;obtain rfl:=oI h1;obtain rfl:_=rr0:=ho0;replace h0:xC kP=some r:=h0;exact aF (aX (aX (bP (aE (⟨rfl,_,_,aZ,hO,h0⟩)))))

theorem aA4 (l0:(List aK))(iY:Int)(r:((List Int)×Int))(h0:zM l0 iY=some r):cU Tryz.prog 56 [(eL aH l0),(eI iY)] (.tup [(eL (eI) r.1),(eI r.2)]):=by
 intro H0;refine cQ Tryz.func56 ?_;have hO:=aJ.start H0;unfold zM at h0;refine aV aB 2 [] [] ?_;refine aM ?_;refine bT 0 ?_;refine aM ?_;refine aS aB 4 ?_;refine bJ 1 ?_;obtain⟨x1,hx2,h0⟩:=aW h0;refine cN (BL l0 _ hx2) hO ?_;intro H hO;refine bB ?_;refine bN [] [(11,(aC (!x1)))] ?_;refine bH h0 (fun h0=>?_) (fun h0=>?_)
 ·refine bM aB 2 [(4,(.sl true 0 (fun _=>.bad))),(5,(eI 2))] ?_;refine bG ?_;refine dL (l:=[(4,(eL (eI) ([]))),(5,(eI 2))]) ⟨[(4,(.sl true 0 (fun _=>.bad))),(5,(eI 2))],by kernel_rfl,rfl,⟨gQ,aR.refl _,trivial⟩⟩ ?_;obtain rfl:=oI h0;exact aF (bF (aQ (Q_r hO)))
 refine aM ?_;refine aS aB 4 ?_;refine bJ 1 ?_;obtain⟨x5,hx6,h0⟩:=aW h0;refine cN (CA l0 _ hx6) hO ?_;intro H hO;refine bB ?_;refine bN [11] [(15,(aC (!x5)))] ?_;refine bH h0 (fun h0=>?_) (fun h0=>?_)
 ·refine bM aB 2 [(4,(.sl true 0 (fun _=>.bad))),(5,(eI 20))] ?_;refine bG ?_;refine dL (l:=[(4,(eL (eI) ([]))),(5,(eI 20))]) ⟨[(4,(.sl true 0 (fun _=>.bad))),(5,(eI 20))],by kernel_rfl,rfl,⟨gQ,aR.refl _,trivial⟩⟩ ?_;obtain rfl:=oI h0;exact aF (bF (aQ (Q_r hO)))
 refine aV aB 7 [15] [(19,(aC ((decide (iY<(0:Int)))||(decide ((1125899906842624:Int)<iY)))))] ?_;refine bH h0 (fun h0=>?_) (fun h0=>?_)
 ·refine bM aB 2 [(4,(.sl true 0 (fun _=>.bad))),(5,(eI 13))] ?_;refine bG ?_;refine dL (l:=[(4,(eL (eI) ([]))),(5,(eI 13))]) ⟨[(4,(.sl true 0 (fun _=>.bad))),(5,(eI 13))],by kernel_rfl,rfl,⟨gQ,aR.refl _,trivial⟩⟩ ?_;obtain rfl:=oI h0;exact aF (bF (aQ (Q_r hO)))
 refine bM aB 3 [(0,(eL aH l0)),(1,(eI iY)),(26,(aC (decide (iY=(1125899906842624:Int)))))] ?_;refine bH h0 (fun h0=>?_) (fun h0=>?_)
 ·refine bM aB 2 [(4,(.sl true 0 (fun _=>.bad))),(5,(eI 0))] ?_;refine bG ?_;refine dL (l:=[(4,(eL (eI) ([]))),(5,(eI 0))]) ⟨[(4,(.sl true 0 (fun _=>.bad))),(5,(eI 0))],by kernel_rfl,rfl,⟨gQ,aR.refl _,trivial⟩⟩ ?_;obtain rfl:=oI h0;exact aF (bF (aQ (Q_r hO)))
 refine bI ?_;refine dO [(0,(eL aH l0)),(1,(eI iY))] ?_;refine aF (aU (aE (?_)));refine aM ?_;refine aS aB 5 ?_;refine UK (β:=Int) (eI) (t:=130) hO ?_;intro lm11 H hO;refine bJ 2 ?_;refine PA (f:=(eI)) (mty:=130) iY (1:Int) hO ?_;intro H hO;refine bB ?_;refine bN [] [(6,(.mp lm11))] ?_;refine dN (fun T H=>∃ lE:(List (Int×Int)),Has T [(6,(.mp lm11))]/\aJ ⟨H0,[],(lm11,qD (eI) lE)::[]⟩ H []/\xT lE=some r) ?_ ?_
 ·clear hO h0;rintro T H ⟨lE,hT,hO,h0⟩;refine bC hT ?_;clear hT;unfold xT at h0;refine aM ?_;refine aS aB 4 ?_;refine bJ 1 ?_;refine PD (mty:=130) hO ?_;obtain⟨c13,h0⟩:=bA h0;refine MR 1 8 (lN lE) (by kernel_rfl) (by kernel_rfl) c13 hO ?_;intro lo14 H hO;refine bB ?_;refine bD [(6,(.mp lm11)),(9,(.msl 1 lo14 0 (List.length ([]:List Int))))] ?_;refine dN (fun T H=>∃ out9:List Int,∃ lo15:Nat,Has T [(9,(.msl 1 lo15 0 (List.length out9)))]/\aJ ⟨H0,[],[]⟩ H [(lo15,1,List.map (eI) out9)]/\BU out9=some r) ?_ ?_
  ·clear hO h0;rintro T H ⟨out9,lo15,hT,hO,h0⟩;refine bC hT ?_;clear hT;unfold BU at h0;refine aM ?_;refine aS aB 2 ?_;refine bJ 1 ?_;obtain⟨x16,hx17,h0⟩:=aW h0;refine AL [(lo15,1,List.map (eI) x16)] 0 (tQ lo15 out9 _ hx17) hO ?_;intro H hO hl18;simp only [List.length_map] at hl18;refine dU ?_;refine dL (l:=[(9,(.msl 1 lo15 0 (List.length x16)))]) ⟨[(9,(.msl 1 lo15 0 (List.length out9)))],by kernel_rfl,rfl,⟨aR.eq (by simp [hl18]),trivial⟩⟩ ?_;refine aF (aE (?_));refine bM aB 3 [(4,(.msl 1 lo15 0 (List.length x16))),(5,(eI 0))] ?_;refine bG ?_;refine dO [(4,(.msl 1 lo15 0 (List.length x16))),(5,(eI 0))] ?_;refine qR (en:=(eI)) x16 0 0 4 1 lo15 (List.length x16) hO (by kernel_rfl) (by kernel_rfl) (by kernel_rfl) (L':=[]) (by kernel_rfl) ?_;intro H19 hO;obtain rfl:=oI h0;exact aF (Q_r hO)
  refine aM ?_;refine aS aB 2 ?_;refine bJ 1 ?_;refine QZ (mty:=130) hO ?_;intro li20 bs21 ck22 H hmb aFN hO;refine dU ?_;refine bN [6] [(50,(.lp li20 0 0))] ?_;refine bT 3 ?_;refine dZ [(9,(.msl 1 lo14 0 (List.length ([]:List Int)))),(50,(.lp li20 0 0))] ?_;refine dR (fun T H=>∃ out9:List Int,∃ t50:(List (Int×Int)),∃ lo24:Nat,Has T [(9,(.msl 1 lo24 0 (List.length out9))),(50,(.lp li20 0 0))]/\aJ ⟨H0,[],(li20,KV li20 lm11 ck22 [])::(lm11,HK (eI) t50 bs21 ck22)::[]⟩ H [(lo24,1,List.map (eI) out9)]/\List.length bs21=List.length t50/\BT out9 t50=some r) ?_ ⟨([]:List Int),lE,lo14,aZ,hO,hmb,h0⟩;clear hO hmb h0;rintro T H ⟨out9,t50,lo24,hT,hO,hmb,h0⟩;refine bC hT ?_;clear hT;unfold BT at h0;refine VH (by kernel_rfl) (fun (s:List Int) (seen:List Nat) T H=>∃ lo24:Nat,Has T [(9,(.msl 1 lo24 0 (List.length s))),(50,(.lp li20 0 0))]/\aJ ⟨H0,[],(li20,KV li20 lm11 ck22 seen)::(lm11,HK (eI) t50 bs21 ck22)::[]⟩ H [(lo24,1,List.map (eI) s)]) hmb h0 ⟨lo24,aZ,hO⟩ ?_;clear hO h0;rintro seen rem s T H ⟨lo24,hT,hO⟩ hleft hall;obtain⟨out9,rfl⟩:∃ x,x=s:=⟨_,rfl⟩;refine bC (l:=[(9,(.msl 1 lo24 0 (List.length out9))),(50,(.lp li20 0 0))]) hT ?_;clear hT;refine aM ?_;refine aS aB 2 ?_;refine VT hmb aFN hleft hall hO (fun h0=>?_) (fun mk mv bq rest out1 H h1 hlt hleft hall hat hO=>?_)
  ·clear hall hleft;replace h0:BV t50 out9=some r:=h0;unfold BV at h0;refine bB ?_;refine bN [] [(52,(aC false))] ?_;refine aM ?_;refine nB (false) (fun hc25=>?_) (fun hc25=>?_)
   ·cases hc25
   ·refine eH 3 ?_;replace hO:=hO.pF.pF;exact aF (aX (aX (bP (aE (⟨rfl,_,_,aZ,hO,h0⟩)))))
  replace h1:uG t50 out9 mk mv=some out1:=h1;unfold uG at h1;refine bB ?_;refine bN [] [(52,(aC true))] ?_;refine aM ?_;refine nB (true) (fun hc26=>?_) (fun hc26=>?_)
  ·refine bI ?_;refine bD [(9,(.msl 1 lo24 0 (List.length out9))),(50,(.lp li20 0 0))] ?_;refine bT 4 ?_;refine aM ?_;refine aS aB 3 ?_;refine RG hat hO ?_;refine bB ?_;refine bN [] [(10,(eI mk))] ?_;refine aS aB 5 ?_;refine bJ 2 ?_;refine nU [(eI mk)] 1 ?_;obtain⟨c28,h1⟩:=bA h1;refine AO (eI) out9 ([mk]) 0 lo24 1 8 (eD [(eI mk)]) (fun lo27=>[(lo27,1,List.map (eI) (out9++([mk])))]) hO (by kernel_rfl) c28 ?_;intro lo27 H hO;refine bB ?_;obtain rfl:=oI h1;exact aF (aU (aE (⟨rfl,_,_,_,hlt,hleft,hall,lo27,aZ,hO⟩)))
  ·cases hc26
 refine aV aB 3 [0] [(32,(eL aH l0)),(33,(eI (lN l0))),(34,(eI 0))] ?_;refine bT 1 ?_;refine dZ [(1,(eI iY)),(6,(.mp lm11)),(32,(eL aH l0)),(33,(eI (lN l0))),(34,(eI 0))] ?_;refine dR (fun T H=>∃ lE:(List (Int×Int)),∃ t32:(List aK),∃ t33:Int,∃ t34:Int,Has T [(1,(eI iY)),(6,(.mp lm11)),(32,(eL aH t32)),(33,(eI t33)),(34,(eI t34))]/\aJ ⟨H0,[],(lm11,qD (eI) lE)::[]⟩ H []/\BK iY lE t32 t33 t34=some r) ?_ ⟨fJ ([]:(List (Int×Int))) iY (1:Int),l0,(lN l0),(0:Int),aZ,hO,h0⟩;clear hO h0;rintro T H ⟨lE,t32,t33,t34,hT,hO,h0⟩;refine bC hT ?_;clear hT;unfold BK at h0;obtain⟨rr0,hl0,h0⟩:=aW h0;refine fD (fun (s:(List (Int×Int))×Int) T H=>Has T [(1,(eI iY)),(6,(.mp lm11)),(32,(eL aH t32)),(33,(eI t33)),(34,(eI s.2))]/\aJ ⟨H0,[],(lm11,qD (eI) s.1)::[]⟩ H []) hl0 ⟨aZ,hO⟩ ?_;clear hO;rintro k0 s out1 T H ⟨hT,hO⟩ h1 ho0;obtain⟨lE,t34⟩:=s;replace h1:pJ iY t32 t33 lE t34=some out1:=h1
 try dsimp only at hT
 refine bC hT ?_;clear hT;unfold pJ at h1;refine aV aB 1 [] [(35,(aC (decide (t34<t33))))] ?_;refine aM ?_;refine bH h1 (fun h1=>?_) (fun h1=>?_)
 ·refine bI ?_;refine bD [(1,(eI iY)),(6,(.mp lm11)),(32,(eL aH t32)),(33,(eI t33)),(34,(eI t34))] ?_;refine dN (fun T H=>∃ lE:(List (Int×Int)),Has T [(1,(eI iY)),(6,(.mp lm11)),(32,(eL aH t32)),(33,(eI t33)),(34,(eI t34))]/\aJ ⟨H0,[],(lm11,qD (eI) lE)::[]⟩ H []/\uL iY lE t32 t33 t34=some out1) ?_ ?_
  ·clear hO h1;rintro T H ⟨lE,hT,hO,h1⟩;refine bC hT ?_;clear hT;unfold uL at h1;refine aS aB 2 ?_;refine bB ?_;exact aF (aE (⟨rfl,_,(oI h1).symm,aZ,hO⟩))
  refine bT 2 ?_;refine aM ?_;refine aS aB 4 ?_;obtain⟨c30,h1⟩:=bA h1;refine mM 2 [0<=t34/\t34<(lN t32)] ⟨c30,trivial⟩ ?_;refine rK 3 (.agg [(.sl true 0 (fun _=>.bad)),(eI 0),(eI 0)]) (aH (aK.mk ([]) 0 0)) (by kernel_rfl) (by kernel_rfl) (by kernel_rfl) (zQ (xs:=[(.sl true 0 (fun _=>.bad)),(eI 0),(eI 0)]) (ys:=[(eL aD ([])),(eI 0),(eI 0)]) ⟨gQ,aR.refl _,aR.refl _,trivial⟩) (by kernel_rfl) (by kernel_rfl) hO ?_;intro lo31 H hO;refine jX 0 lo31 3 0 (aH (aK.mk ([]) 0 0)) (aH (gD t32 t34)) [(aH (aK.mk ([]) 0 0))] [(lo31,3,[(aH (gD t32 t34))])] hO rfl (by kernel_rfl) ?_;intro H hO;refine dU ?_;refine bN [] [(8,(.lp lo31 0 0))] ?_;refine aM ?_;refine aS aB 4 ?_;refine bJ 1 ?_;refine jY 0 lo31 3 0 (aH (gD t32 t34)) (eI ((gD t32 t34).At)) [(aH (gD t32 t34))] hO rfl ?_;refine bB ?_;refine bN [] [(41,(aC (decide (iY<((gD t32 t34).At)))))] ?_;refine bH h1 (fun h1=>?_) (fun h1=>?_)
  ·refine aS aB 4 ?_;refine bJ 2 ?_;refine jY 0 lo31 3 0 (aH (gD t32 t34)) (eI ((gD t32 t34).At)) [(aH (gD t32 t34))] hO rfl ?_;refine PA (f:=(eI)) (mty:=130) ((gD t32 t34).At) (1:Int) hO ?_;intro H hO;refine dU ?_;replace hO:=hO.pick (L':=[]) [] (by decide) (by kernel_rfl);exact aF (aU (aE (⟨rfl,_,aZ,hO,h1⟩)))
  refine bI ?_;replace hO:=hO.pick (L':=[]) [] (by decide) (by kernel_rfl);exact aF (aU (aE (⟨rfl,_,aZ,hO,h1⟩)))
 refine eH 1 ?_;obtain rfl:=oI h1;obtain rfl:_=rr0:=ho0;replace h0:xT lE=some r:=h0;exact aF (aX (aX (bP (aE (⟨rfl,_,aZ,hO,h0⟩)))))

theorem TU (t0:Int)(t1:(List cE))(r:(List bK))(h0:tI t0 t1=some r):cU Tryz.prog 57 [(eI t0),(.rp (eL cF t1))] (eL bZ r):=by
 intro H0;refine cQ Tryz.func57 ?_;have hO:=aJ.start H0;unfold tI at h0;refine aV aB 1 [] [] ?_;refine aM ?_;refine aS aB 2 ?_;refine nU [] 2 ?_;refine bB ?_;refine bN [] [(4,(.sl true 0 (fun _=>.bad)))] ?_;refine dN (fun T H=>∃ out4:List bK,∃ lo1:Nat,Has T [(4,(.msl 2 lo1 0 (List.length out4)))]/\aJ ⟨H0,[],[]⟩ H [(lo1,2,List.map bZ out4)]/\wW out4=some r) ?_ ?_
 ·clear hO h0;rintro T H ⟨out4,lo1,hT,hO,h0⟩;refine bC hT ?_;clear hT;unfold wW at h0;refine bM aB 2 [(3,(.msl 2 lo1 0 (List.length out4)))] ?_;refine bG ?_;refine dO [(3,(.msl 2 lo1 0 (List.length out4)))] ?_;refine qR (en:=bZ) out4 0 0 3 2 lo1 (List.length out4) hO (by kernel_rfl) (by kernel_rfl) (by kernel_rfl) (L':=[]) (by kernel_rfl) ?_;intro H2 hO;obtain rfl:=oI h0;exact aF (Q_r hO)
 refine aV aB 3 [1] [(9,(eL cF t1)),(10,(eI (lN t1))),(11,(eI 0))] ?_;refine bT 0 ?_;refine dZ [(0,(eI t0)),(4,(.sl true 0 (fun _=>.bad))),(9,(eL cF t1)),(10,(eI (lN t1))),(11,(eI 0))] ?_;refine DM (el:=(fun _=>.bad)) 1 4 2 hO (by kernel_rfl) ?_;intro lo21 H22 hO;refine dR (fun T H=>∃ out4:List bK,∃ t9:(List cE),∃ t10:Int,∃ t11:Int,∃ lo4:Nat,Has T [(0,(eI t0)),(4,(.msl 2 lo4 0 (List.length out4))),(9,(eL cF t9)),(10,(eI t10)),(11,(eI t11))]/\aJ ⟨H0,[],[]⟩ H [(lo4,2,List.map bZ out4)]/\xA t0 out4 t9 t10 t11=some r) ?_ ⟨([]:List bK),t1,(lN t1),(0:Int),lo21,aZ,hO,h0⟩;clear hO h0;rintro T H ⟨out4,t9,t10,t11,lo4,hT,hO,h0⟩;refine bC hT ?_;clear hT;unfold xA at h0;obtain⟨rr0,hl0,h0⟩:=aW h0;refine fD (fun (s:List bK×Int) T H=>∃ lo4:Nat,Has T [(0,(eI t0)),(4,(.msl 2 lo4 0 (List.length s.1))),(9,(eL cF t9)),(10,(eI t10)),(11,(eI s.2))]/\aJ ⟨H0,[],[]⟩ H [(lo4,2,List.map bZ s.1)]) hl0 ⟨lo4,aZ,hO⟩ ?_;clear hO;rintro k0 s out1 T H ⟨lo4,hT,hO⟩ h1 ho0;obtain⟨out4,t11⟩:=s;replace h1:nQ t0 t9 t10 out4 t11=some out1:=h1
 try dsimp only at hT
 refine bC hT ?_;clear hT;unfold nQ at h1;refine aV aB 1 [] [(12,(aC (decide (t11<t10))))] ?_;refine aM ?_;refine bH h1 (fun h1=>?_) (fun h1=>?_)
 ·refine bI ?_;refine bD [(0,(eI t0)),(4,(.msl 2 lo4 0 (List.length out4))),(9,(eL cF t9)),(10,(eI t10)),(11,(eI t11))] ?_;refine dN (fun T H=>∃ out4:List bK,∃ lo6:Nat,Has T [(0,(eI t0)),(4,(.msl 2 lo6 0 (List.length out4))),(9,(eL cF t9)),(10,(eI t10)),(11,(eI t11))]/\aJ ⟨H0,[],[]⟩ H [(lo6,2,List.map bZ out4)]/\pT t0 out4 t9 t10 t11=some out1) ?_ ?_
  ·clear hO h1;rintro T H ⟨out4,lo6,hT,hO,h1⟩;refine bC hT ?_;clear hT;unfold pT at h1;refine aS aB 2 ?_;refine bB ?_;exact aF (aE (⟨rfl,_,(oI h1).symm,_,aZ,hO⟩))
  refine bT 1 ?_;refine aM ?_;refine aS aB 4 ?_;obtain⟨c7,h1⟩:=bA h1;refine mM 2 [0<=t11/\t11<(lN t9)] ⟨c7,trivial⟩ ?_;refine rK 2 (.agg [(.sl true 0 (fun _=>.bad)),(.sl true 0 (fun _=>.bad))]) (cF (cE.mk ([]) ([]))) (by kernel_rfl) (by kernel_rfl) (by kernel_rfl) (zQ (xs:=[(.sl true 0 (fun _=>.bad)),(.sl true 0 (fun _=>.bad))]) (ys:=[(eL aD ([])),(eL aO ([]))]) ⟨gQ,gQ,trivial⟩) (by kernel_rfl) (by kernel_rfl) hO ?_;intro lo8 H hO;refine jX 1 lo8 2 0 (cF (cE.mk ([]) ([]))) (cF (gD t9 t11)) [(cF (cE.mk ([]) ([])))] [(lo4,2,List.map bZ out4),(lo8,2,[(cF (gD t9 t11))])] hO rfl (by kernel_rfl) ?_;intro H hO;refine dU ?_;refine bN [] [(6,(.lp lo8 0 0))] ?_;refine aM ?_;refine aS aB 5 ?_;refine bJ 1 ?_;refine jY 1 lo8 2 0 (cF (gD t9 t11)) (eL aO ((gD t9 t11).jumps)) [(cF (gD t9 t11))] hO rfl ?_;refine bJ 3 ?_;obtain⟨x9,hx10,h1⟩:=aW h1;refine cN (UL ((gD t9 t11).jumps) t0 _ hx10) hO ?_;intro H hO;refine bB ?_;refine bN [] [(7,(eI x9))] ?_;refine aV aB 2 [] [(20,(aC (decide ((0:Int)<x9))))] ?_;refine bH h1 (fun h1=>?_) (fun h1=>?_)
  ·refine aS aB 9 ?_;refine bJ 2 ?_;refine jY 1 lo8 2 0 (cF (gD t9 t11)) (eL aD ((gD t9 t11).row)) [(cF (gD t9 t11))] hO rfl ?_;obtain⟨x16,hx17,h1⟩:=aW h1;refine aF3 (L':=fun lo18=>[(lo4,2,List.map bZ out4),(lo8,2,[(cF (gD t9 t11))]),(lo18,3,List.map aD x16)]) 3 (List.map aD x16) 59 [(eL aD ((gD t9 t11).row))] (fun lo18=>(.msl 3 lo18 0 (List.length x16))) (by kernel_rfl) (by kernel_rfl) (rE ((gD t9 t11).row) _ hx17) hO (fun _=>by kernel_rfl) ?_;intro lo18 H hO;refine bJ 5 ?_;refine UX (e:=aD) x16 2 24 3 lo18 (List.length x16) [(lo4,2,List.map bZ out4),(lo8,2,[(cF (gD t9 t11))])] (by kernel_rfl) hO (by kernel_rfl) (by kernel_rfl) (by kernel_rfl) (by kernel_rfl) ?_;intro H hO;refine bJ 6 ?_;refine nU [(bZ (bK.mk x16 x9))] 2 ?_;obtain⟨c20,h1⟩:=bA h1;refine AO bZ out4 ([bK.mk x16 x9]) 0 lo4 2 32 (eD [(bZ (bK.mk x16 x9))]) (fun lo19=>[(lo19,2,List.map bZ (out4++([bK.mk x16 x9]))),(lo8,2,[(cF (gD t9 t11))])]) hO (by kernel_rfl) c20 ?_;intro lo19 H hO;refine bB ?_;replace hO:=hO.pick (L':=[(lo19,2,List.map bZ (out4++([bK.mk x16 x9])))]) [0] (by decide) (by kernel_rfl);exact aF (aU (aE (⟨rfl,_,_,aZ,hO,h1⟩)))
  refine bI ?_;replace hO:=hO.pick (L':=[(lo4,2,List.map bZ out4)]) [0] (by decide) (by kernel_rfl);exact aF (aU (aE (⟨rfl,_,_,aZ,hO,h1⟩)))
 refine eH 0 ?_;obtain rfl:=oI h1;obtain rfl:_=rr0:=ho0;replace h0:wW out4=some r:=h0;exact aF (aX (aX (bP (aE (⟨rfl,_,_,aZ,hO,h0⟩)))))

theorem YL (l0:(List aK))(iY:Int)(r:((List aP)×Int))(h0:yH l0 iY=some r):cU Tryz.prog 29 [(eL aH l0),(eI iY)] (.tup [(eL aT r.1),(eI r.2)]):=by
 intro H0;refine CG aB Tryz.func29 (by kernel_rfl) (by kernel_rfl) (by kernel_rfl) ?_;have hO:=aJ.start H0;unfold yH at h0;refine aV aB 2 [] [] ?_;refine aM ?_;refine aS aB 8 ?_;refine bJ 2 ?_;obtain⟨x1,hx2,h0⟩:=aW h0;refine cN (aA4 l0 iY _ hx2) hO ?_;intro H hO;refine bB ?_;refine bN [1] [(6,(eL (eI) x1.1)),(7,(eI x1.2))] ?_;refine aM ?_;refine aV aB 2 [] [(24,(aC (!decide (x1.2=(0:Int)))))] ?_;refine bH h0 (fun h0=>?_) (fun h0=>?_)
 ·refine bM aB 3 [(4,(.sl true 0 (fun _=>.bad))),(5,(eI x1.2))] ?_;refine bG ?_;refine dL (l:=[(4,(eL aT ([]))),(5,(eI x1.2))]) ⟨[(4,(.sl true 0 (fun _=>.bad))),(5,(eI x1.2))],by kernel_rfl,rfl,⟨gQ,aR.refl _,trivial⟩⟩ ?_;obtain rfl:=oI h0;exact aF (aQ (QM0 (.inr rfl) (rs:=[.tmp 4,.tmp 5]) (xs:=[(eL aT ([])),(eI x1.2)]) (x:=(.tup [(eL aT ([])),(eI x1.2)])) (by kernel_rfl) (ET (x:=(eL aT ([]))) (by kernel_rfl) (ET (x:=(eI x1.2)) (by kernel_rfl) oP)) (by kernel_rfl) ⟨rfl,hO.out⟩))
 refine bI ?_;refine bD [(0,(eL aH l0)),(6,(eL (eI) x1.1))] ?_;refine aM ?_;refine aS aB 3 ?_;refine nU [] 2 ?_;refine rK 1 (.sl true 0 (fun _=>.bad)) (eL cF ([])) (by kernel_rfl) (by kernel_rfl) (by kernel_rfl) (gQ) (by kernel_rfl) (by kernel_rfl) hO ?_;intro lo5 H hO;refine aDE 26 2 (fun _=>.bad) (by kernel_rfl) hO (by kernel_rfl) ?_;intro lo6 H hO;refine jX 0 lo5 1 0 (eL cF ([])) (.msl 2 lo6 0 (List.length ([]:List cE))) [(eL cF ([]))] [(lo5,1,[(.msl 2 lo6 0 (List.length ([]:List cE)))]),(lo6,2,List.map cF ([]:List cE))] hO rfl (by kernel_rfl) ?_;intro H hO;refine dU ?_;refine bN [] [(8,(.lp lo5 0 0))] ?_;refine aM ?_;refine aM ?_;refine aS aB 2 ?_;refine bJ 1 ?_;obtain⟨x7,hx8,h0⟩:=aW h0;refine cN (KG l0 _ hx8) hO ?_;intro H hO;refine dU ?_;refine bN [0] [(28,(.fn (.func 84) [] [(.rp (eL aH x7))]))] ?_;refine bT 0 ?_;refine dZ [(6,(eL (eI) x1.1)),(8,(.lp lo5 0 0)),(28,(.fn (.func 84) [] [(.rp (eL aH x7))]))] ?_;refine dR (fun T H=>∃ eX:(List Int),∃ all8:List cE,∃ yZ:(List aK),∃ lo9:Nat,Has T [(6,(eL (eI) eX)),(8,(.lp lo5 0 0)),(28,(.fn (.func 84) [] [(.rp (eL aH yZ))]))]/\aJ ⟨H0,[],[]⟩ H [(lo5,1,[(.msl 2 lo9 0 (List.length all8))]),(lo9,2,List.map cF all8)]/\zW eX all8 yZ=some r) ?_ ⟨x1.1,([]:List cE),x7,lo6,aZ,hO,h0⟩;clear hO h0;rintro T H ⟨eX,all8,yZ,lo9,hT,hO,h0⟩;refine bC (l:=[(6,(eL (eI) eX)),(8,(.lp lo5 0 0)),(28,(.fn (.func 84) [] [(.rp (eL aH yZ))]))]) hT ?_;clear hT;unfold zW at h0;obtain⟨o0,hl0,h0⟩:=aW h0;refine AQ (fid:=84) (ys:=[]) (cs:=[(.rp (eL aH yZ))]) #[29,30] (fun (A:tD) (b lL:Nat) (st:(List cE)⊕(List cE)) (G':Gs)=>Sum.elim (fun (s:List cE)=>∃ lo9:Nat,G'=(lL,.raw (iB b A .ready none))::(up [(lo5,1,[(.msl 2 lo9 0 (List.length s))]),(lo9,2,List.map cF s)]++[])) (fun (s:List cE)=>False) st) (.inl all8) o0 (.tup []) (by kernel_rfl) (by kernel_rfl) (by kernel_rfl) hO (fun _ _=>⟨lo9,rfl⟩) ?_ ?_
 ·intro b lL;clear hO h0;refine DW _ b (fun st t29 t30=>rnd (fun (s:List cE)=>oK eX yZ s t29 t30) st) ?_ yZ _ _ hl0;intro st t29 t30 out1 rr hr;obtain⟨s,rfl,h1,rfl⟩:=LU hr;clear hr;intro Hr Gr hi hg;obtain⟨all8,rfl⟩:∃ x,x=s:=⟨_,rfl⟩;dsimp only [Sum.elim_inl] at hi;obtain⟨lo9,rfl⟩:=hi;replace h1:oK eX yZ all8 t29 t30=some out1:=h1;unfold oK at h1;obtain⟨E1,hE,hO⟩:=qP hg;refine qQ (yE (hO.gm 0 _ rfl).2 (by kernel_rfl) (by kernel_rfl) ?_);refine dZ [(6,(eL (eI) eX)),(8,(.lp lo5 0 0)),(28,(.fn (.func 84) [] [(.rp (eL aH yZ))])),(29,(eL aD t29)),(30,(eL aO t30))] ?_;refine aV aB 1 [6,28,29] [(9,(eL aD t29))] ?_;refine aS aB 1 ?_;refine bB ?_;refine dO [(8,(.lp lo5 0 0)),(9,(eL aD t29)),(10,(eL aO t30))] ?_;refine aF (⟨rfl,rfl,(hO.gm 0 _ rfl).2,?_⟩);intro o1 ho1;replace hO:=hO.oX o1;refine bT 1 ?_;refine aS aB 7 ?_;refine jY 0 lo5 1 0 (.msl 2 lo9 0 (List.length all8)) (.msl 2 lo9 0 (List.length all8)) [(.msl 2 lo9 0 (List.length all8))] hO rfl ?_;refine bJ 4 ?_;refine nU [(cF (cE.mk t29 t30))] 2 ?_;obtain⟨c11,h1⟩:=bA h1;refine AO cF all8 ([cE.mk t29 t30]) 1 lo9 2 48 (eD [(cF (cE.mk t29 t30))]) (fun lo10=>[(lo5,1,[(.msl 2 lo9 0 (List.length all8))]),(lo10,2,List.map cF (all8++([cE.mk t29 t30])))]) hO (by kernel_rfl) c11 ?_;intro lo10 H hO;refine jX 0 lo5 1 0 (.msl 2 lo9 0 (List.length all8)) (.msl 2 lo10 0 (List.length (all8++([cE.mk t29 t30])))) [(.msl 2 lo9 0 (List.length all8))] [(lo5,1,[(.msl 2 lo10 0 (List.length (all8++([cE.mk t29 t30]))))]),(lo10,2,List.map cF (all8++([cE.mk t29 t30])))] hO rfl (by kernel_rfl) ?_;intro H hO;refine dU ?_;refine dO [(8,(.lp lo5 0 0))] ?_;obtain rfl:=oI h1;exact aF (aU (⟨(eB hO hE ho1 .dead).1,rfl,_,⟨lo10,rfl⟩,(eB hO hE ho1 _).2⟩))
 ·intro b lD12 lL H' G' hi hO;rcases o0 with s | s
  ·dsimp only [Sum.elim_inl] at hi;obtain⟨lo9,rfl⟩:=hi;replace h0:(wD eX s ([]:List aP) eX (lN eX) (0:Int))=some r:=h0;obtain⟨hlL,hO⟩:=nR hO;refine⟨_,_,hlL,(by intro e; cases e),?_⟩;refine dO [(6,(eL (eI) eX)),(8,(.lp lo5 0 0))] ?_;refine aF (aU (aE (?_)));refine aM ?_;refine aBY (e:=cF) s 0 1 1 2 lo5 lo9 (List.length s) [(lo5,1,[(eL cF s)])] hO (by kernel_rfl) (by kernel_rfl) (by kernel_rfl) (.inr (by decide)) (by kernel_rfl) ?_;intro H hO;refine dZ [(6,(eL (eI) eX)),(8,(.lp lo5 0 0))] ?_;refine UW 1 0 8 1 lo5 (eL cF s) [] hO (by kernel_rfl) (by kernel_rfl) (by kernel_rfl) ?_;intro H hO;refine aS aB 2 ?_;refine bB ?_;refine bN [8] [(11,(.fn (.func 57) [] [(.rp (eL cF s))]))] ?_;refine aM ?_;refine aS aB 2 ?_;refine nU [] 3 ?_;refine bB ?_;refine bN [] [(12,(.sl true 0 (fun _=>.bad)))] ?_;refine dN (fun T H=>∃ eU:List aP,∃ lo13:Nat,Has T [(12,(.msl 3 lo13 0 (List.length eU)))]/\aJ ⟨H0,[],(lD12,.raw pN)::[]⟩ H [(lo13,3,List.map aT eU)]/\AG eU=some r) ?_ ?_
   ·clear hO h0;rintro T H ⟨eU,lo13,hT,hO,h0⟩;refine bC hT ?_;clear hT;unfold AG at h0;refine bM aB 3 [(4,(.msl 3 lo13 0 (List.length eU))),(5,(eI 0))] ?_;refine bG ?_;refine dO [(4,(.msl 3 lo13 0 (List.length eU))),(5,(eI 0))] ?_;refine qR (en:=aT) eU 0 0 4 3 lo13 (List.length eU) hO (by kernel_rfl) (by kernel_rfl) (by kernel_rfl) (L':=[]) (by kernel_rfl) ?_;intro H14 hO;obtain rfl:=oI h0;have hD:=(hO.gm 0 _ rfl).2;replace hO:=(hO.oX .dead).pF;exact aF (QM1 (.inr rfl) hD (rs:=[.tmp 4,.tmp 5]) (xs:=[(eL aT eU),(eI 0)]) (x:=(.tup [(eL aT eU),(eI 0)])) (by kernel_rfl) (ET (x:=(eL aT eU)) (by kernel_rfl) (ET (x:=(eI 0)) (by kernel_rfl) oP)) (by kernel_rfl) ⟨rfl,hO.out⟩)
   refine aV aB 3 [] [(39,(eL (eI) eX)),(40,(eI (lN eX))),(41,(eI 0))] ?_;refine bT 2 ?_;refine dZ [(6,(eL (eI) eX)),(11,(.fn (.func 57) [] [(.rp (eL cF s))])),(12,(.sl true 0 (fun _=>.bad))),(39,(eL (eI) eX)),(40,(eI (lN eX))),(41,(eI 0))] ?_;refine DM (el:=(fun _=>.bad)) 2 12 3 hO (by kernel_rfl) ?_;intro lo30 H31 hO;refine dR (fun T H=>∃ gO:(List cE),∃ eU:List aP,∃ t39:(List Int),∃ t40:Int,∃ t41:Int,∃ lo16:Nat,Has T [(6,(eL (eI) eX)),(11,(.fn (.func 57) [] [(.rp (eL cF gO))])),(12,(.msl 3 lo16 0 (List.length eU))),(39,(eL (eI) t39)),(40,(eI t40)),(41,(eI t41))]/\aJ ⟨H0,[],(lD12,.raw pN)::[]⟩ H [(lo16,3,List.map aT eU)]/\wD eX gO eU t39 t40 t41=some r) ?_ ⟨s,([]:List aP),eX,(lN eX),(0:Int),lo30,aZ,hO,h0⟩;clear hO h0;rintro T H ⟨gO,eU,t39,t40,t41,lo16,hT,hO,h0⟩;refine bC hT ?_;clear hT;unfold wD at h0;obtain⟨rr0,hl0,h0⟩:=aW h0;refine fD (fun (s:List aP×Int) T H=>∃ lo16:Nat,Has T [(6,(eL (eI) eX)),(11,(.fn (.func 57) [] [(.rp (eL cF gO))])),(12,(.msl 3 lo16 0 (List.length s.1))),(39,(eL (eI) t39)),(40,(eI t40)),(41,(eI s.2))]/\aJ ⟨H0,[],(lD12,.raw pN)::[]⟩ H [(lo16,3,List.map aT s.1)]) hl0 ⟨lo16,aZ,hO⟩ ?_;clear hO;rintro k0 s out1 T H ⟨lo16,hT,hO⟩ h1 ho0;obtain⟨eU,t41⟩:=s;replace h1:oF eX gO t39 t40 eU t41=some out1:=h1
   try dsimp only at hT
   refine bC hT ?_;clear hT;unfold oF at h1;refine aV aB 1 [] [(42,(aC (decide (t41<t40))))] ?_;refine aM ?_;refine bH h1 (fun h1=>?_) (fun h1=>?_)
   ·refine bI ?_;refine bD [(6,(eL (eI) eX)),(11,(.fn (.func 57) [] [(.rp (eL cF gO))])),(12,(.msl 3 lo16 0 (List.length eU))),(39,(eL (eI) t39)),(40,(eI t40)),(41,(eI t41))] ?_;refine dN (fun T H=>∃ eU:List aP,∃ lo18:Nat,Has T [(6,(eL (eI) eX)),(11,(.fn (.func 57) [] [(.rp (eL cF gO))])),(12,(.msl 3 lo18 0 (List.length eU))),(39,(eL (eI) t39)),(40,(eI t40)),(41,(eI t41))]/\aJ ⟨H0,[],(lD12,.raw pN)::[]⟩ H [(lo18,3,List.map aT eU)]/\vY eX gO eU t39 t40 t41=some out1) ?_ ?_
    ·clear hO h1;rintro T H ⟨eU,lo18,hT,hO,h1⟩;refine bC hT ?_;clear hT;unfold vY at h1;refine aS aB 2 ?_;refine bB ?_;exact aF (aE (⟨rfl,_,(oI h1).symm,_,aZ,hO⟩))
    refine bT 3 ?_;refine aM ?_;refine aS aB 5 ?_;obtain⟨c19,h1⟩:=bA h1;refine mU [0<=t41/\t41<(lN t39)] ⟨c19,trivial⟩ ?_;refine bN [] [(13,(eI t41)),(14,(eI (gD t39 t41)))] ?_;refine aM ?_;refine aS aB 4 ?_;refine bJ 2 ?_;obtain⟨x20,hx21,h1⟩:=aW h1;refine cN (TU (gD t39 t41) gO _ hx21) hO ?_;intro H hO;refine bB ?_;refine bN [] [(15,(eL bZ x20))] ?_;refine aM ?_;refine aV aB 3 [] [(51,(aC (decide ((lN x20)=(0:Int)))))] ?_;refine bH h1 (fun h1=>?_) (fun h1=>?_)
    ·refine eH 3 ?_;exact aF (aX (bP (aE (⟨rfl,_,_,aZ,hO,h1⟩))))
    refine bI ?_;refine bD [(6,(eL (eI) eX)),(11,(.fn (.func 57) [] [(.rp (eL cF gO))])),(12,(.msl 3 lo16 0 (List.length eU))),(13,(eI t41)),(14,(eI (gD t39 t41))),(15,(eL bZ x20)),(39,(eL (eI) t39)),(40,(eI t40)),(41,(eI t41))] ?_;refine aM ?_;refine aV aB 3 [] [(54,(aC (decide ((lN eU)=(1024:Int)))))] ?_;refine bH h1 (fun h1=>?_) (fun h1=>?_)
    ·refine aM ?_;refine aS aB 2 ?_;refine bB ?_;refine dO [(4,(.sl true 0 (fun _=>.bad))),(5,(eI 7))] ?_;replace hO:=hO.pick (L':=[]) [] (by decide) (by kernel_rfl);refine aF (aE (?_));refine bG ?_;refine dL (l:=[(4,(eL aT ([]))),(5,(eI 7))]) ⟨[(4,(.sl true 0 (fun _=>.bad))),(5,(eI 7))],by kernel_rfl,rfl,⟨gQ,aR.refl _,trivial⟩⟩ ?_;obtain rfl:=oI h1;obtain rfl:_=rr0:=ho0;replace h0:some ([],(7:Int))=some r:=h0;obtain rfl:=oI h0;have hD:=(hO.gm 0 _ rfl).2;replace hO:=(hO.oX .dead).pF;exact aF (aQ (bF (aQ (aQ (bF (aQ (QM1 (.inr rfl) hD (rs:=[.tmp 4,.tmp 5]) (xs:=[(eL aT ([])),(eI 7)]) (x:=(.tup [(eL aT ([])),(eI 7)])) (by kernel_rfl) (ET (x:=(eL aT ([]))) (by kernel_rfl) (ET (x:=(eI 7)) (by kernel_rfl) oP)) (by kernel_rfl) ⟨rfl,hO.out⟩)))))))
    refine bI ?_;refine bD [(6,(eL (eI) eX)),(11,(.fn (.func 57) [] [(.rp (eL cF gO))])),(12,(.msl 3 lo16 0 (List.length eU))),(13,(eI t41)),(14,(eI (gD t39 t41))),(15,(eL bZ x20)),(39,(eL (eI) t39)),(40,(eI t40)),(41,(eI t41))] ?_;refine aV aB 1 [] [(16,(eI 1125899906842624))] ?_;refine dN (fun T H=>∃ eU:List aP,∃ t14:Int,∃ uF:(List bK),∃ BB:Int,∃ lo25:Nat,Has T [(6,(eL (eI) eX)),(11,(.fn (.func 57) [] [(.rp (eL cF gO))])),(12,(.msl 3 lo25 0 (List.length eU))),(14,(eI t14)),(15,(eL bZ uF)),(16,(eI BB)),(39,(eL (eI) t39)),(40,(eI t40)),(41,(eI t41))]/\aJ ⟨H0,[],(lD12,.raw pN)::[]⟩ H [(lo25,3,List.map aT eU)]/\vM eX gO eU t14 uF BB t39 t40 t41=some out1) ?_ ?_
    ·clear hO h1;rintro T H ⟨eU,t14,uF,BB,lo25,hT,hO,h1⟩;refine bC hT ?_;clear hT;unfold vM at h1;refine aS aB 9 ?_;refine bJ 6 ?_;refine nU [(aT (aP.mk (bL.mk t14 BB) uF))] 3 ?_;obtain⟨c27,h1⟩:=bA h1;refine AO aT eU ([aP.mk (bL.mk t14 BB) uF]) 0 lo25 3 40 (eD [(aT (aP.mk (bL.mk t14 BB) uF))]) (fun lo26=>[(lo26,3,List.map aT (eU++([aP.mk (bL.mk t14 BB) uF])))]) hO (by kernel_rfl) c27 ?_;intro lo26 H hO;refine bB ?_;exact aF (aU (aE (⟨rfl,_,_,aZ,hO,h1⟩)))
    refine aV aB 5 [] [(59,(aC (decide ((wR (t41+(1:Int)))<(lN eX)))))] ?_;refine bH h1 (fun h1=>?_) (fun h1=>?_)
    ·refine aS aB 6 ?_;obtain⟨c29,h1⟩:=bA h1;refine mU [0<=(wR (t41+(1:Int)))/\(wR (t41+(1:Int)))<(lN eX)] ⟨c29,trivial⟩ ?_;exact aF (aE (⟨rfl,_,_,_,_,_,aZ,hO,h1⟩))
    refine bI ?_;exact aF (aE (⟨rfl,_,_,_,_,_,aZ,hO,h1⟩))
   refine eH 2 ?_;obtain rfl:=oI h1;obtain rfl:_=rr0:=ho0;replace h0:AG eU=some r:=h0;exact aF (aX (aX (bP (aE (⟨rfl,_,_,aZ,hO,h0⟩)))))
  ·exact hi.elim

end Go.Abs
namespace Go.Abs
open Go Go.RowKit Go.Proofs
theorem SZ (w0:bW)(l1:(List aK))(nP:Int)(t3:Int)(r:((List aP)×Int))(h0:uH w0 l1 nP t3=some r):cU Tryz.prog 12 [(cA w0),(eL aH l1),(eI nP),(eI t3)] (.tup [(eL aT r.1),(eI r.2)]):=by
 intro H0;refine cQ Tryz.func12 ?_;have hO:=aJ.start H0;unfold uH at h0;refine aM ?_;refine aS aB 3 ?_;refine kJ 3 (cA w0) ?_;refine bB ?_;refine bN [0] [(4,(.rp (cA w0)))] ?_;refine aM ?_;refine aM ?_;refine aS aB 5 ?_;refine bJ 3 ?_;obtain⟨x1,hx2,h0⟩:=aW h0;refine cN (IF w0 l1 t3 _ hx2) hO ?_;intro H hO;refine bB ?_;refine bN [] [(10,(eI x1))] ?_;refine aV aB 2 [] [(16,(aC (!decide (x1=(0:Int)))))] ?_;refine bH h0 (fun h0=>?_) (fun h0=>?_)
 ·refine bM aB 3 [(8,(.sl true 0 (fun _=>.bad))),(9,(eI x1))] ?_;refine bG ?_;refine dL (l:=[(8,(eL aT ([]))),(9,(eI x1))]) ⟨[(8,(.sl true 0 (fun _=>.bad))),(9,(eI x1))],by kernel_rfl,rfl,⟨gQ,aR.refl _,trivial⟩⟩ ?_;obtain rfl:=oI h0;exact aF (aQ (Q_r hO))
 refine bI ?_;refine bD [(1,(eL aH l1)),(2,(eI nP)),(3,(eI t3)),(4,(.rp (cA w0)))] ?_;refine aM ?_;refine aV aB 2 [] [(19,(eI w0.Kind))] ?_;refine bT 0 ?_;refine aV aB 2 [] [(20,(aC (decide (w0.Kind=(2:Int)))))] ?_;refine bH h0 (fun h0=>?_) (fun h0=>?_)
 ·refine aM ?_;refine eV (eT [24,26,30,31]) aB 14 ?_;refine hU 8 ?_;obtain⟨x6,hx7,h0⟩:=aW h0;refine BF (TL l1 t3 _ hx7) hO ?_;intro H hO;obtain⟨x9,hx10,h0⟩:=aW h0;refine BF (aAN l1 w0.Size w0.Hop nP x6 _ hx10) hO ?_;intro H hO;refine gP ?_;refine bD [(8,(eL aT x9.1)),(9,(eI x9.2))] ?_;refine bG ?_;obtain rfl:=oI h0;exact aF (bF (aQ (Q_r hO)))
 refine aV aB 2 [3,19,20] [(34,(aC (decide (w0.Kind=(3:Int)))))] ?_;refine bH h0 (fun h0=>?_) (fun h0=>?_)
 ·refine aM ?_;refine aS aB 9 ?_;refine bJ 4 ?_;obtain⟨x13,hx14,h0⟩:=aW h0;refine cN (TZ l1 w0.Size nP _ hx14) hO ?_;intro H hO;refine bB ?_;refine bD [(8,(eL aT x13.1)),(9,(eI x13.2))] ?_;refine bG ?_;obtain rfl:=oI h0;exact aF (bF (aQ (Q_r hO)))
 refine bI ?_;refine dO [(1,(eL aH l1)),(2,(eI nP))] ?_;refine aF (aU (aE (?_)));refine aM ?_;refine aS aB 7 ?_;refine bJ 2 ?_;obtain⟨x16,hx17,h0⟩:=aW h0;refine cN (YL l1 nP _ hx17) hO ?_;intro H hO;refine bB ?_;refine bD [(8,(eL aT x16.1)),(9,(eI x16.2))] ?_;refine bG ?_;obtain rfl:=oI h0;exact aF (Q_r hO)

theorem LA  (r:Bool)(h0:tP  = some r):cU Tryz.prog 7 [] (aC r):=by
 intro H0;refine cQ Tryz.func7 ?_;have hO:=aJ.start H0;unfold tP at h0;refine bM aB 1 [] ?_;refine aM ?_;refine aS aB 3 ?_;refine bJ 1 ?_;refine mN 3 (cA (bW.mk 0 0 0)) (by kernel_rfl) (by kernel_rfl) hO ?_;intro lo1 H hO;refine jX 0 lo1 3 0 (cA (bW.mk 0 0 0)) (cA (bW.mk (2:Int) (10:Int) (5:Int))) [(cA (bW.mk 0 0 0))] [(lo1,3,[(cA (bW.mk (2:Int) (10:Int) (5:Int)))])] hO rfl (by kernel_rfl) ?_;intro H hO;refine dU ?_;refine bD [(1,(.lp lo1 0 0))] ?_;refine aM ?_;refine aS aB 8 ?_;refine bJ 1 ?_;refine nU [(aD (aG.mk (1:Int) (1:Int) ByteArray.empty))] 3 ?_;refine bJ 4 ?_;refine nU [(aD (aG.mk (1:Int) (1:Int) ByteArray.empty))] 3 ?_;refine bJ 6 ?_;refine nU [(.agg [(eD [(aD (aG.mk (1:Int) (1:Int) ByteArray.empty))]),(eI 3),(eI 1)]),(.agg [(eD [(aD (aG.mk (1:Int) (1:Int) ByteArray.empty))]),(eI 7),(eI (-1:Int))])] 3 ?_;refine bB ?_;refine dL (l:=[(1,(.lp lo1 0 0)),(2,(eL aH ([aK.mk ([aG.mk (1:Int) (1:Int) ByteArray.empty]) (3:Int) (1:Int),aK.mk ([aG.mk (1:Int) (1:Int) ByteArray.empty]) (7:Int) (-1:Int)])))]) ⟨[(1,(.lp lo1 0 0)),(2,(eD [(.agg [(eD [(aD (aG.mk (1:Int) (1:Int) ByteArray.empty))]),(eI 3),(eI 1)]),(.agg [(eD [(aD (aG.mk (1:Int) (1:Int) ByteArray.empty))]),(eI 7),(eI (-1:Int))])]))],by kernel_rfl,rfl,⟨aR.refl _,(aFO (e:=aH) (xs:=[(.agg [(eD [(aD (aG.mk (1:Int) (1:Int) ByteArray.empty))]),(eI 3),(eI 1)]),(.agg [(eD [(aD (aG.mk (1:Int) (1:Int) ByteArray.empty))]),(eI 7),(eI (-1:Int))])]) (l:=[aK.mk ([aG.mk (1:Int) (1:Int) ByteArray.empty]) (3:Int) (1:Int),aK.mk ([aG.mk (1:Int) (1:Int) ByteArray.empty]) (7:Int) (-1:Int)]) ⟨(zQ (xs:=[(eD [(aD (aG.mk (1:Int) (1:Int) ByteArray.empty))]),(eI 3),(eI 1)]) (ys:=[(eL aD ([aG.mk (1:Int) (1:Int) ByteArray.empty])),(eI 3),(eI 1)]) ⟨RH (l:=[aG.mk (1:Int) (1:Int) ByteArray.empty]),aR.refl _,aR.refl _,trivial⟩),(zQ (xs:=[(eD [(aD (aG.mk (1:Int) (1:Int) ByteArray.empty))]),(eI 7),(eI (-1:Int))]) (ys:=[(eL aD ([aG.mk (1:Int) (1:Int) ByteArray.empty])),(eI 7),(eI (-1:Int))]) ⟨RH (l:=[aG.mk (1:Int) (1:Int) ByteArray.empty]),aR.refl _,aR.refl _,trivial⟩),trivial⟩ rfl),trivial⟩⟩ ?_;refine aF (aE (?_));refine aM ?_;refine aS aB 8 ?_;refine jY 0 lo1 3 0 (cA (bW.mk (2:Int) (10:Int) (5:Int))) (cA (bW.mk (2:Int) (10:Int) (5:Int))) [(cA (bW.mk (2:Int) (10:Int) (5:Int)))] hO rfl ?_;refine bJ 2 ?_;obtain⟨x2,hx3,h0⟩:=aW h0;refine cN (HX (bW.mk (2:Int) (10:Int) (5:Int)) ([aK.mk ([aG.mk (1:Int) (1:Int) ByteArray.empty]) (3:Int) (1:Int),aK.mk ([aG.mk (1:Int) (1:Int) ByteArray.empty]) (7:Int) (-1:Int)]) (12:Int) _ hx3) hO ?_;intro H hO;refine bB ?_;refine bN [] [(3,(eI x2.1)),(4,(eI x2.2))] ?_;refine aM ?_;refine aS aB 8 ?_;refine jY 0 lo1 3 0 (cA (bW.mk (2:Int) (10:Int) (5:Int))) (cA (bW.mk (2:Int) (10:Int) (5:Int))) [(cA (bW.mk (2:Int) (10:Int) (5:Int)))] hO rfl ?_;refine bJ 2 ?_;obtain⟨x5,hx6,h0⟩:=aW h0;refine cN (SZ (bW.mk (2:Int) (10:Int) (5:Int)) ([aK.mk ([aG.mk (1:Int) (1:Int) ByteArray.empty]) (3:Int) (1:Int),aK.mk ([aG.mk (1:Int) (1:Int) ByteArray.empty]) (7:Int) (-1:Int)]) (0:Int) (2:Int) _ hx6) hO ?_;intro H hO;refine bB ?_;replace hO:=hO.pick (L':=[]) [] (by decide) (by kernel_rfl);refine bN [1,2] [(5,(eL aT x5.1)),(6,(eI x5.2))] ?_;refine aM ?_;refine aS aB 29 ?_;obtain⟨c8,h0⟩:=bA h0;refine mM 25 [((((((decide (x2.1=(5:Int)))&&(decide (x2.2=(0:Int))))&&(decide (x5.2=(0:Int))))&&(decide ((lN x5.1)=(1:Int)))))=true->0<=(0:Int)/\(0:Int)<(lN x5.1))] ⟨c8,trivial⟩ ?_;obtain⟨x9,hx10,h0⟩:=aW h0;refine mG [(50,true)] 10 [(cA (bW.mk 0 0 0))] (eI x9) (((((decide (x2.1=(5:Int)))&&(decide (x2.2=(0:Int))))&&(decide (x5.2=(0:Int))))&&(decide ((lN x5.1)=(1:Int))))&&((decide ((((gD x5.1 (0:Int)).Span).From)=((bL.mk 0 (10:Int)).From)))&&((decide ((((gD x5.1 (0:Int)).Span).To)=((bL.mk 0 (10:Int)).To)))&&true))) (by kernel_rfl) (by kernel_rfl) (by kernel_rfl) (fun hb11=>(CR (bW.mk 0 0 0) _ (gV hx10 hb11))) hO ?_;intro H hO;refine bB ?_;refine bD [(0,(aC ((((((decide (x2.1=(5:Int)))&&(decide (x2.2=(0:Int))))&&(decide (x5.2=(0:Int))))&&(decide ((lN x5.1)=(1:Int))))&&((decide ((((gD x5.1 (0:Int)).Span).From)=((bL.mk 0 (10:Int)).From)))&&((decide ((((gD x5.1 (0:Int)).Span).To)=((bL.mk 0 (10:Int)).To)))&&true)))&&(decide (x9=(2:Int))))))] ?_;refine bG ?_;obtain rfl:=oI h0;exact aF (Q_r hO)

theorem OH (dF:Int)(hop1:Int)(r:Bool)(h0:qO dF hop1=some r):cU Tryz.prog 25 [(eI dF),(eI hop1)] (aC r):=by
 intro H0;refine cQ Tryz.func25 ?_;have hO:=aJ.start H0;unfold qO at h0;refine aV aB 1 [] [] ?_;refine bM aB 15 [(4,(aC ((((decide ((0:Int)<dF))&&(decide (dF<=(1099511627776:Int))))&&(decide ((0:Int)<hop1)))&&(decide (hop1<=(1099511627776:Int))))))] ?_;refine bG ?_;obtain rfl:=oI h0;exact aF (Q_r hO)

theorem NR (w0:bW)(r:Bool)(h0:wL w0=some r):cU Tryz.prog 11 [(cA w0)] (aC r):=by
 intro H0;refine cQ Tryz.func11 ?_;have hO:=aJ.start H0;unfold wL at h0;refine aM ?_;refine aS aB 2 ?_;refine kJ 3 (cA w0) ?_;refine bB ?_;refine bD [(1,(.rp (cA w0)))] ?_;refine aM ?_;refine aV aB 3 [] [(5,(aC (decide (w0.Kind=(2:Int)))))] ?_;refine bH h0 (fun h0=>?_) (fun h0=>?_)
 ·refine aM ?_;refine aS aB 6 ?_;refine bJ 4 ?_;obtain⟨x2,hx3,h0⟩:=aW h0;refine cN (OH w0.Size w0.Hop _ hx3) hO ?_;intro H hO;refine bB ?_;refine bD [(2,(aC x2))] ?_;refine bG ?_;obtain rfl:=oI h0;exact aF (aQ (Q_r hO))
 refine bI ?_;refine bD [(1,(.rp (cA w0)))] ?_;refine aM ?_;refine aV aB 3 [] [(13,(aC (!decide (w0.Hop=(0:Int)))))] ?_;refine bH h0 (fun h0=>?_) (fun h0=>?_)
 ·refine bM aB 1 [(2,(aC false))] ?_;refine bG ?_;obtain rfl:=oI h0;exact aF (aQ (Q_r hO))
 refine bI ?_;refine bD [(1,(.rp (cA w0)))] ?_;refine bM aB 24 [(2,(aC (((decide (w0.Kind=(1:Int)))&&(decide (w0.Size=(0:Int))))||(((decide (w0.Kind=(3:Int)))&&(decide ((0:Int)<w0.Size)))&&(decide (w0.Size<=(64:Int)))))))] ?_;refine bG ?_;obtain rfl:=oI h0;exact aF (Q_r hO)

theorem HO (v0:aG)(r:Bool)(h0:sU v0=some r):cU Tryz.prog 101 [(aD v0)] (aC r):=by
 intro H0;refine cQ Tryz.func101 ?_;have hO:=aJ.start H0;unfold sU at h0;refine aM ?_;refine aS aB 2 ?_;refine kJ 3 (aD v0) ?_;refine bB ?_;refine bD [(1,(.rp (aD v0)))] ?_;refine aM ?_;refine aV aB 3 [] [(5,(aC (decide (v0.Kind=(1:Int)))))] ?_;refine bH h0 (fun h0=>?_) (fun h0=>?_)
 ·refine bM aB 4 [(2,(aC (pE v0.Text (⟨#[]⟩:ByteArray))))] ?_;refine bG ?_;obtain rfl:=oI h0;exact aF (aQ (Q_r hO))
 refine bI ?_;refine bD [(1,(.rp (aD v0)))] ?_;refine bM aB 15 [(2,(aC (((decide (v0.Kind=(2:Int)))&&(decide (v0.Num=(0:Int))))&&(decide (((ByteArray.size v0.Text:Nat):Int)<=(64:Int))))))] ?_;refine bG ?_;obtain rfl:=oI h0;exact aF (Q_r hO)

theorem HN (r0:(List aG))(r:Bool)(h0:sW r0=some r):cU Tryz.prog 80 [(eL aD r0)] (aC r):=by
 intro H0;refine cQ Tryz.func80 ?_;have hO:=aJ.start H0;unfold sW at h0;refine aV aB 1 [] [] ?_;refine dN (fun T H=>Has T [(0,(eL aD r0))]/\aJ ⟨H0,[],[]⟩ H []/\uA r0=some r) ?_ ?_
 ·clear hO h0;rintro T H ⟨hT,hO,h0⟩;refine bC hT ?_;clear hT;unfold uA at h0;refine bM aB 4 [(2,(aC (decide ((lN r0)<=(8:Int)))))] ?_;refine bG ?_;obtain rfl:=oI h0;exact aF (Q_r hO)
 refine aV aB 1 [] [(3,(eI 0))] ?_;refine bT 0 ?_;refine dZ [(0,(eL aD r0)),(3,(eI 0))] ?_;refine dR (fun T H=>∃ i3:Int,Has T [(0,(eL aD r0)),(3,(eI i3))]/\aJ ⟨H0,[],[]⟩ H []/\BS r0 i3=some r) ?_ ⟨(0:Int),aZ,hO,h0⟩;clear hO h0;rintro T H ⟨i3,hT,hO,h0⟩;refine bC hT ?_;clear hT;unfold BS at h0;obtain⟨rr0,hl0,h0⟩:=aW h0;refine fD (fun (s:Int) T H=>Has T [(0,(eL aD r0)),(3,(eI s))]/\aJ ⟨H0,[],[]⟩ H []) hl0 ⟨aZ,hO⟩ ?_;clear hO;rintro k0 s out1 T H ⟨hT,hO⟩ h1 ho0;obtain⟨i3,rfl⟩:∃ x,x=s:=⟨_,rfl⟩;replace h1:rO r0 i3=some out1:=h1;refine bC hT ?_;clear hT;unfold rO at h1;refine aM ?_;refine aV aB 8 [] [(11,(aC ((decide (i3<(lN r0)))&&(decide (i3<(9:Int))))))] ?_;refine bH h1 (fun h1=>?_) (fun h1=>?_)
 ·refine bI ?_;refine bD [(0,(eL aD r0)),(3,(eI i3))] ?_;refine aM ?_;refine bT 1 ?_;refine aM ?_;refine aS aB 6 ?_;obtain⟨c2,h1⟩:=bA h1;refine mM 4 [0<=i3/\i3<(lN r0)] ⟨c2,trivial⟩ ?_;obtain⟨x3,hx4,h1⟩:=aW h1;refine cN (HO (gD r0 i3) _ hx4) hO ?_;intro H hO;refine bB ?_;refine bN [] [(19,(aC (!x3)))] ?_;refine bH h1 (fun h1=>?_) (fun h1=>?_)
  ·refine bM aB 1 [(2,(aC false))] ?_;refine bG ?_;obtain rfl:=oI h1;obtain rfl:_=rr0:=ho0;replace h0:some false=some r:=h0;obtain rfl:=oI h0;exact aF (bF (aQ (aQ (bF (aQ (Q_r hO))))))
  refine bI ?_;refine dO [(0,(eL aD r0)),(3,(eI i3))] ?_;refine aF (aU (aE (?_)));refine aS aB 3 ?_;refine bB ?_;exact aF (aE (⟨rfl,_,(oI h1).symm,aZ,hO⟩))
 refine eH 0 ?_;obtain rfl:=oI h1;obtain rfl:_=rr0:=ho0;replace h0:uA r0=some r:=h0;exact aF (aX (aX (bP (aE (⟨rfl,aZ,hO,h0⟩)))))

theorem NQ (f0:(List aI))(r:Bool)(h0:tA f0=some r):cU Tryz.prog 81 [(eL aO f0)] (aC r):=by
 intro H0;refine cQ Tryz.func81 ?_;have hO:=aJ.start H0;unfold tA at h0;refine aV aB 1 [] [] ?_;refine aM ?_;refine aV aB 3 [] [(6,(aC (decide ((1024:Int)<(lN f0)))))] ?_;refine bH h0 (fun h0=>?_) (fun h0=>?_)
 ·refine bM aB 1 [(2,(aC false))] ?_;refine bG ?_;obtain rfl:=oI h0;exact aF (aQ (Q_r hO))
 refine bI ?_;refine bD [(0,(eL aO f0))] ?_;refine dN (fun T H=>Has T []/\aJ ⟨H0,[],[]⟩ H []/\xV  = some r) ?_ ?_
 ·clear hO h0;rintro T H ⟨hT,hO,h0⟩;refine bC hT ?_;clear hT;unfold xV at h0;refine bM aB 1 [(2,(aC true))] ?_;refine bG ?_;obtain rfl:=oI h0;exact aF (Q_r hO)
 refine aV aB 1 [] [(3,(eI 0))] ?_;refine bT 0 ?_;refine dZ [(0,(eL aO f0)),(3,(eI 0))] ?_;refine dR (fun T H=>∃ i3:Int,Has T [(0,(eL aO f0)),(3,(eI i3))]/\aJ ⟨H0,[],[]⟩ H []/\BH f0 i3=some r) ?_ ⟨(0:Int),aZ,hO,h0⟩;clear hO h0;rintro T H ⟨i3,hT,hO,h0⟩;refine bC hT ?_;clear hT;unfold BH at h0;obtain⟨rr0,hl0,h0⟩:=aW h0;refine fD (fun (s:Int) T H=>Has T [(0,(eL aO f0)),(3,(eI s))]/\aJ ⟨H0,[],[]⟩ H []) hl0 ⟨aZ,hO⟩ ?_;clear hO;rintro k0 s out1 T H ⟨hT,hO⟩ h1 ho0;obtain⟨i3,rfl⟩:∃ x,x=s:=⟨_,rfl⟩;replace h1:mT f0 i3=some out1:=h1;refine bC hT ?_;clear hT;unfold mT at h1;refine aM ?_;refine aV aB 4 [] [(10,(aC (decide (i3<(lN f0)))))] ?_;refine bH h1 (fun h1=>?_) (fun h1=>?_)
 ·refine bI ?_;refine bD [(0,(eL aO f0)),(3,(eI i3))] ?_;refine aM ?_;refine bT 1 ?_;refine aM ?_;refine aM ?_;refine aS aB 38 ?_;obtain⟨c3,h1⟩:=bA h1;obtain⟨c4,h1⟩:=bA h1;obtain⟨c5,h1⟩:=bA h1;obtain⟨c6,h1⟩:=bA h1;obtain⟨c7,h1⟩:=bA h1;refine mU [0<=i3/\i3<(lN f0),(((!(decide (((gD f0 i3).At)<(-1:Int)))))=true->0<=i3/\i3<(lN f0)),(((!((decide (((gD f0 i3).At)<(-1:Int)))||(decide ((1125899906842624:Int)<=((gD f0 i3).At))))))=true->0<=i3/\i3<(lN f0)),(((!(((decide (((gD f0 i3).At)<(-1:Int)))||(decide ((1125899906842624:Int)<=((gD f0 i3).At))))||(decide (((gD f0 i3).Net)=(0:Int))))))=true->0<=i3/\i3<(lN f0)),(((!((((decide (((gD f0 i3).At)<(-1:Int)))||(decide ((1125899906842624:Int)<=((gD f0 i3).At))))||(decide (((gD f0 i3).Net)=(0:Int))))||(decide ((1048576:Int)<((gD f0 i3).Net))))))=true->0<=i3/\i3<(lN f0))] ⟨c3,c4,c5,c6,c7,trivial⟩ ?_;refine bN [] [(50,(aC (((((decide (((gD f0 i3).At)<(-1:Int)))||(decide ((1125899906842624:Int)<=((gD f0 i3).At))))||(decide (((gD f0 i3).Net)=(0:Int))))||(decide ((1048576:Int)<((gD f0 i3).Net))))||(decide (((gD f0 i3).Net)<(-1048576:Int))))))] ?_;refine bH h1 (fun h1=>?_) (fun h1=>?_)
  ·refine bM aB 1 [(2,(aC false))] ?_;refine bG ?_;obtain rfl:=oI h1;obtain rfl:_=rr0:=ho0;replace h0:some false=some r:=h0;obtain rfl:=oI h0;exact aF (aQ (bF (aQ (aQ (bF (aQ (Q_r hO)))))))
  refine bI ?_;refine bD [(0,(eL aO f0)),(3,(eI i3))] ?_;refine aM ?_;obtain⟨c9,h1⟩:=bA h1;obtain⟨c10,h1⟩:=bA h1;refine eV (eT [58,64]) aB 16 ?_;refine nN (K:=fun T H=>Has (lift T) [(0,(eL aO f0)),(3,(eI i3)),(66,(aC ((decide ((0:Int)<i3))&&(decide (((gD f0 i3).At)<=((gD f0 (wR (i3-(1:Int)))).At))))))]/\aJ ⟨H0,[],[]⟩ H []) ?_ ?_
  ·refine hU 3 ?_;refine kG (t:=53) (e:=decide ((0:Int)<i3)) (by kernel_rfl) (fun hg11=>?_) (fun hg11=>?_)
   ·refine EH (Ds:=[0<=i3/\i3<(lN f0),0<=(wR (i3-(1:Int)))/\(wR (i3-(1:Int)))<(lN f0)]) (by kernel_rfl) ⟨(c9 hg11),(c10 hg11),trivial⟩ ?_;exact⟨⟨[(0,(eL aO f0)),(3,(eI i3)),(66,(aC (decide (((gD f0 i3).At)<=((gD f0 (wR (i3-(1:Int)))).At)))))],by kernel_rfl,rfl,⟨aR.refl _,aR.refl _,aR.eq (congrArg aC (dY hg11 rfl).symm),trivial⟩⟩,hO⟩
   refine gP ?_;exact⟨⟨[(0,(eL aO f0)),(3,(eI i3)),(66,(aC false))],by kernel_rfl,rfl,⟨aR.refl _,aR.refl _,aR.eq (congrArg aC (dY hg11 rfl).symm),trivial⟩⟩,hO⟩
  ·rintro T H ⟨hT,hO⟩;refine dL hT ?_;clear hT;refine aF (aE ?_);refine bH h1 (fun h1=>?_) (fun h1=>?_)
   ·refine bM aB 1 [(2,(aC false))] ?_;refine bG ?_;obtain rfl:=oI h1;obtain rfl:_=rr0:=ho0;replace h0:some false=some r:=h0;obtain rfl:=oI h0;exact aF (bF (aQ (aQ (bF (aQ (Q_r hO))))))
   refine bI ?_;refine dO [(0,(eL aO f0)),(3,(eI i3))] ?_;refine aF (aU (aE (?_)));refine aS aB 3 ?_;refine bB ?_;exact aF (aE (⟨rfl,_,(oI h1).symm,aZ,hO⟩))
 refine eH 0 ?_;obtain rfl:=oI h1;obtain rfl:_=rr0:=ho0;replace h0:xV  = some r:=h0;exact aF (aX (aX (bP (aE (⟨rfl,aZ,hO,h0⟩)))))

theorem SM (a0:aG)(b1:aG)(r:Int)(h0:sQ a0 b1=some r):cU Tryz.prog 102 [(aD a0),(aD b1)] (eI r):=by
 intro H0;refine cQ Tryz.func102 ?_;have hO:=aJ.start H0;unfold sQ at h0;refine aM ?_;refine aS aB 3 ?_;refine kJ 3 (aD a0) ?_;refine kJ 3 (aD b1) ?_;refine bB ?_;refine bD [(2,(.rp (aD a0))),(3,(.rp (aD b1)))] ?_;refine aM ?_;refine aM ?_;refine aS aB 8 ?_;refine bJ 1 ?_;obtain⟨x1,hx2,h0⟩:=aW h0;refine cN (HO a0 _ hx2) hO ?_;intro H hO;refine bJ 5 ?_;obtain⟨x4,hx5,h0⟩:=aW h0;refine mG [(9,false)] 101 [(aD b1)] (aC x4) (!(!x1)) (by kernel_rfl) (by kernel_rfl) (by kernel_rfl) (fun hb6=>(HO b1 _ (gV hx5 hb6))) hO ?_;intro H hO;refine bB ?_;refine bN [] [(13,(aC ((!x1)||(!x4))))] ?_;refine bH h0 (fun h0=>?_) (fun h0=>?_)
 ·refine bM aB 1 [(4,(eI 0))] ?_;refine bG ?_;obtain rfl:=oI h0;exact aF (aQ (Q_r hO))
 refine bI ?_;refine bD [(2,(.rp (aD a0))),(3,(.rp (aD b1)))] ?_;refine aM ?_;refine aV aB 5 [] [(18,(aC (!decide (a0.Kind=b1.Kind))))] ?_;refine bH h0 (fun h0=>?_) (fun h0=>?_)
 ·refine aM ?_;refine bM aB 3 [(21,(aC (decide (a0.Kind=(1:Int)))))] ?_;refine bH h0 (fun h0=>?_) (fun h0=>?_)
  ·refine bM aB 1 [(4,(eI (-1:Int)))] ?_;refine bG ?_;obtain rfl:=oI h0;exact aF (aQ (aQ (Q_r hO)))
  refine bI ?_;refine bD [] ?_;refine bM aB 1 [(4,(eI 1))] ?_;refine bG ?_;obtain rfl:=oI h0;exact aF (aQ (Q_r hO))
 refine bI ?_;refine bD [(2,(.rp (aD a0))),(3,(.rp (aD b1)))] ?_;refine aM ?_;refine aV aB 5 [] [(26,(aC (!decide (a0.Num=b1.Num))))] ?_;refine bH h0 (fun h0=>?_) (fun h0=>?_)
 ·refine aM ?_;refine bM aB 5 [(31,(aC (decide (a0.Num<b1.Num))))] ?_;refine bH h0 (fun h0=>?_) (fun h0=>?_)
  ·refine bM aB 1 [(4,(eI (-1:Int)))] ?_;refine bG ?_;obtain rfl:=oI h0;exact aF (aQ (aQ (Q_r hO)))
  refine bI ?_;refine bD [] ?_;refine bM aB 1 [(4,(eI 1))] ?_;refine bG ?_;obtain rfl:=oI h0;exact aF (aQ (Q_r hO))
 refine bI ?_;refine bD [(2,(.rp (aD a0))),(3,(.rp (aD b1)))] ?_;refine dN (fun T H=>∃ a2:aG,∃ b3:aG,Has T [(2,(.rp (aD a2))),(3,(.rp (aD b3)))]/\aJ ⟨H0,[],[]⟩ H []/\rI a2 b3=some r) ?_ ?_
 ·clear hO h0;rintro T H ⟨a2,b3,hT,hO,h0⟩;refine bC hT ?_;clear hT;unfold rI at h0;refine aM ?_;refine aV aB 7 [] [(70,(aC (!decide (((ByteArray.size a2.Text:Nat):Int)=((ByteArray.size b3.Text:Nat):Int)))))] ?_;refine bH h0 (fun h0=>?_) (fun h0=>?_)
  ·refine aM ?_;refine bM aB 7 [(77,(aC (decide (((ByteArray.size a2.Text:Nat):Int)<((ByteArray.size b3.Text:Nat):Int)))))] ?_;refine bH h0 (fun h0=>?_) (fun h0=>?_)
   ·refine bM aB 1 [(4,(eI (-1:Int)))] ?_;refine bG ?_;obtain rfl:=oI h0;exact aF (aQ (aQ (Q_r hO)))
   refine bI ?_;refine bD [] ?_;refine bM aB 1 [(4,(eI 1))] ?_;refine bG ?_;obtain rfl:=oI h0;exact aF (aQ (Q_r hO))
  refine bI ?_;refine bD [] ?_;refine bM aB 1 [(4,(eI 0))] ?_;refine bG ?_;obtain rfl:=oI h0;exact aF (Q_r hO)
 refine aV aB 1 [] [(5,(eI 0))] ?_;refine bT 0 ?_;refine dZ [(2,(.rp (aD a0))),(3,(.rp (aD b1))),(5,(eI 0))] ?_;refine dR (fun T H=>∃ a2:aG,∃ b3:aG,∃ i5:Int,Has T [(2,(.rp (aD a2))),(3,(.rp (aD b3))),(5,(eI i5))]/\aJ ⟨H0,[],[]⟩ H []/\uV a2 b3 i5=some r) ?_ ⟨a0,b1,(0:Int),aZ,hO,h0⟩;clear hO h0;rintro T H ⟨a2,b3,i5,hT,hO,h0⟩;refine bC hT ?_;clear hT;unfold uV at h0;obtain⟨rr0,hl0,h0⟩:=aW h0;refine fD (fun (s:Int) T H=>Has T [(2,(.rp (aD a2))),(3,(.rp (aD b3))),(5,(eI s))]/\aJ ⟨H0,[],[]⟩ H []) hl0 ⟨aZ,hO⟩ ?_;clear hO;rintro k0 s out1 T H ⟨hT,hO⟩ h1 ho0;obtain⟨i5,rfl⟩:∃ x,x=s:=⟨_,rfl⟩;replace h1:jM a2 b3 i5=some out1:=h1;refine bC hT ?_;clear hT;unfold jM at h1;refine aM ?_;refine aV aB 12 [] [(43,(aC ((decide (i5<((ByteArray.size a2.Text:Nat):Int)))&&(decide (i5<((ByteArray.size b3.Text:Nat):Int))))))] ?_;refine bH h1 (fun h1=>?_) (fun h1=>?_)
 ·refine bI ?_;refine bD [(2,(.rp (aD a2))),(3,(.rp (aD b3))),(5,(eI i5))] ?_;refine aM ?_;refine bT 1 ?_;refine aM ?_;refine eV (eT [47,51]) aB 9 ?_;obtain⟨c15,h1⟩:=bA h1;obtain⟨c16,h1⟩:=bA h1;refine EH (Ds:=[0<=i5/\i5<((ByteArray.size a2.Text:Nat):Int),0<=i5/\i5<((ByteArray.size b3.Text:Nat):Int)]) (by kernel_rfl) ⟨c15,c16,trivial⟩ ?_;refine bN [] [(54,(aC (!decide ((bt a2.Text i5)=(bt b3.Text i5)))))] ?_;refine bH h1 (fun h1=>?_) (fun h1=>?_)
  ·refine aM ?_;refine aM ?_;refine eV (eT [56,60]) aB 9 ?_;obtain⟨c18,h1⟩:=bA h1;obtain⟨c19,h1⟩:=bA h1;refine EH (Ds:=[0<=i5/\i5<((ByteArray.size a2.Text:Nat):Int),0<=i5/\i5<((ByteArray.size b3.Text:Nat):Int)]) (by kernel_rfl) ⟨c18,c19,trivial⟩ ?_;refine bD [(63,(aC (decide ((bt a2.Text i5)<(bt b3.Text i5)))))] ?_;refine bH h1 (fun h1=>?_) (fun h1=>?_)
   ·refine bM aB 1 [(4,(eI (-1:Int)))] ?_;refine bG ?_;obtain rfl:=oI h1;obtain rfl:_=rr0:=ho0;replace h0:some (-1:Int)=some r:=h0;obtain rfl:=oI h0;exact aF (aQ (bF (aQ (aQ (bF (aQ (Q_r hO)))))))
   refine bI ?_;refine bD [] ?_;refine bM aB 1 [(4,(eI 1))] ?_;refine bG ?_;obtain rfl:=oI h1;obtain rfl:_=rr0:=ho0;replace h0:some (1:Int)=some r:=h0;obtain rfl:=oI h0;exact aF (bF (aQ (aQ (bF (aQ (Q_r hO))))))
  refine bI ?_;refine dO [(2,(.rp (aD a2))),(3,(.rp (aD b3))),(5,(eI i5))] ?_;refine aF (aU (aE (?_)));refine aS aB 3 ?_;refine bB ?_;exact aF (aE (⟨rfl,_,(oI h1).symm,aZ,hO⟩))
 refine eH 0 ?_;obtain rfl:=oI h1;obtain rfl:_=rr0:=ho0;replace h0:rI a2 b3=some r:=h0;exact aF (aX (aX (bP (aE (⟨rfl,_,_,aZ,hO,h0⟩)))))

theorem GN (a0:(List aG))(b1:(List aG))(r:Int)(h0:pW a0 b1=some r):cU Tryz.prog 82 [(eL aD a0),(eL aD b1)] (eI r):=by
 intro H0;refine cQ Tryz.func82 ?_;have hO:=aJ.start H0;unfold pW at h0;refine aV aB 1 [] [] ?_;refine aM ?_;refine aM ?_;refine aS aB 8 ?_;refine bJ 1 ?_;obtain⟨x1,hx2,h0⟩:=aW h0;refine cN (HN a0 _ hx2) hO ?_;intro H hO;refine bJ 5 ?_;obtain⟨x4,hx5,h0⟩:=aW h0;refine mG [(10,false)] 80 [(eL aD b1)] (aC x4) (!(!x1)) (by kernel_rfl) (by kernel_rfl) (by kernel_rfl) (fun hb6=>(HN b1 _ (gV hx5 hb6))) hO ?_;intro H hO;refine bB ?_;refine bN [] [(14,(aC ((!x1)||(!x4))))] ?_;refine bH h0 (fun h0=>?_) (fun h0=>?_)
 ·refine bM aB 1 [(4,(eI 0))] ?_;refine bG ?_;obtain rfl:=oI h0;exact aF (aQ (Q_r hO))
 refine bI ?_;refine bD [(0,(eL aD a0)),(1,(eL aD b1))] ?_;refine dN (fun T H=>Has T [(0,(eL aD a0)),(1,(eL aD b1))]/\aJ ⟨H0,[],[]⟩ H []/\rA a0 b1=some r) ?_ ?_
 ·clear hO h0;rintro T H ⟨hT,hO,h0⟩;refine bC hT ?_;clear hT;unfold rA at h0;refine aM ?_;refine aV aB 5 [] [(43,(aC (decide ((lN a0)<(lN b1)))))] ?_;refine bH h0 (fun h0=>?_) (fun h0=>?_)
  ·refine bM aB 1 [(4,(eI (-1:Int)))] ?_;refine bG ?_;obtain rfl:=oI h0;exact aF (aQ (Q_r hO))
  refine bI ?_;refine bD [(0,(eL aD a0)),(1,(eL aD b1))] ?_;refine aM ?_;refine bM aB 5 [(48,(aC (decide ((lN b1)<(lN a0)))))] ?_;refine bH h0 (fun h0=>?_) (fun h0=>?_)
  ·refine bM aB 1 [(4,(eI 1))] ?_;refine bG ?_;obtain rfl:=oI h0;exact aF (aQ (Q_r hO))
  refine bI ?_;refine bD [] ?_;refine bM aB 1 [(4,(eI 0))] ?_;refine bG ?_;obtain rfl:=oI h0;exact aF (Q_r hO)
 refine aV aB 1 [] [(5,(eI 0))] ?_;refine bT 0 ?_;refine dZ [(0,(eL aD a0)),(1,(eL aD b1)),(5,(eI 0))] ?_;refine dR (fun T H=>∃ i5:Int,Has T [(0,(eL aD a0)),(1,(eL aD b1)),(5,(eI i5))]/\aJ ⟨H0,[],[]⟩ H []/\vG a0 b1 i5=some r) ?_ ⟨(0:Int),aZ,hO,h0⟩;clear hO h0;rintro T H ⟨i5,hT,hO,h0⟩;refine bC hT ?_;clear hT;unfold vG at h0;obtain⟨rr0,hl0,h0⟩:=aW h0;refine fD (fun (s:Int) T H=>Has T [(0,(eL aD a0)),(1,(eL aD b1)),(5,(eI s))]/\aJ ⟨H0,[],[]⟩ H []) hl0 ⟨aZ,hO⟩ ?_;clear hO;rintro k0 s out1 T H ⟨hT,hO⟩ h1 ho0;obtain⟨i5,rfl⟩:∃ x,x=s:=⟨_,rfl⟩;replace h1:jP a0 b1 i5=some out1:=h1;refine bC hT ?_;clear hT;unfold jP at h1;refine aM ?_;refine aV aB 10 [] [(24,(aC ((decide (i5<(lN a0)))&&(decide (i5<(lN b1))))))] ?_;refine bH h1 (fun h1=>?_) (fun h1=>?_)
 ·refine bI ?_;refine bD [(0,(eL aD a0)),(1,(eL aD b1)),(5,(eI i5))] ?_;refine aM ?_;refine bT 1 ?_;refine aM ?_;refine eV (eT [30,34,35]) aB 10 ?_;obtain⟨c11,h1⟩:=bA h1;obtain⟨c12,h1⟩:=bA h1;refine cJ 8 [0<=i5/\i5<(lN a0),0<=i5/\i5<(lN b1)] ⟨c11,c12,trivial⟩ ?_;obtain⟨x13,hx14,h1⟩:=aW h1;refine BF (SM (gD a0 i5) (gD b1 i5) _ hx14) hO ?_;intro H hO;refine gP ?_;refine bN [] [(6,(eI x13))] ?_;refine aV aB 2 [] [(37,(aC (!decide (x13=(0:Int)))))] ?_;refine bH h1 (fun h1=>?_) (fun h1=>?_)
  ·refine bM aB 2 [(4,(eI x13))] ?_;refine bG ?_;obtain rfl:=oI h1;obtain rfl:_=rr0:=ho0;replace h0:some x13=some r:=h0;obtain rfl:=oI h0;exact aF (bF (aQ (aQ (bF (aQ (Q_r hO))))))
  refine bI ?_;refine dO [(0,(eL aD a0)),(1,(eL aD b1)),(5,(eI i5))] ?_;refine aF (aU (aE (?_)));refine aS aB 3 ?_;refine bB ?_;exact aF (aE (⟨rfl,_,(oI h1).symm,aZ,hO⟩))
 refine eH 0 ?_;obtain rfl:=oI h1;obtain rfl:_=rr0:=ho0;replace h0:rA a0 b1=some r:=h0;exact aF (aX (aX (bP (aE (⟨rfl,aZ,hO,h0⟩)))))

theorem LJ (a0:(List aG))(b1:(List aG))(r:Bool)(h0:tK a0 b1=some r):cU Tryz.prog 37 [(eL aD a0),(eL aD b1)] (aC r):=by
 intro H0;refine cQ Tryz.func37 ?_;have hO:=aJ.start H0;unfold tK at h0;refine aV aB 1 [] [] ?_;refine aM ?_;refine aV aB 5 [] [(10,(aC (!decide ((lN a0)=(lN b1)))))] ?_;refine bH h0 (fun h0=>?_) (fun h0=>?_)
 ·refine bM aB 1 [(4,(aC false))] ?_;refine bG ?_;obtain rfl:=oI h0;exact aF (aQ (Q_r hO))
 refine bI ?_;refine bD [(0,(eL aD a0)),(1,(eL aD b1))] ?_;refine dN (fun T H=>Has T []/\aJ ⟨H0,[],[]⟩ H []/\vZ  = some r) ?_ ?_
 ·clear hO h0;rintro T H ⟨hT,hO,h0⟩;refine bC hT ?_;clear hT;unfold vZ at h0;refine bM aB 1 [(4,(aC true))] ?_;refine bG ?_;obtain rfl:=oI h0;exact aF (Q_r hO)
 refine aV aB 1 [] [(5,(eI 0))] ?_;refine bT 0 ?_;refine dZ [(0,(eL aD a0)),(1,(eL aD b1)),(5,(eI 0))] ?_;refine dR (fun T H=>∃ i5:Int,Has T [(0,(eL aD a0)),(1,(eL aD b1)),(5,(eI i5))]/\aJ ⟨H0,[],[]⟩ H []/\AA a0 b1 i5=some r) ?_ ⟨(0:Int),aZ,hO,h0⟩;clear hO h0;rintro T H ⟨i5,hT,hO,h0⟩;refine bC hT ?_;clear hT;unfold AA at h0;obtain⟨rr0,hl0,h0⟩:=aW h0;refine fD (fun (s:Int) T H=>Has T [(0,(eL aD a0)),(1,(eL aD b1)),(5,(eI s))]/\aJ ⟨H0,[],[]⟩ H []) hl0 ⟨aZ,hO⟩ ?_;clear hO;rintro k0 s out1 T H ⟨hT,hO⟩ h1 ho0;obtain⟨i5,rfl⟩:∃ x,x=s:=⟨_,rfl⟩;replace h1:rW a0 b1 i5=some out1:=h1;refine bC hT ?_;clear hT;unfold rW at h1;refine aM ?_;refine aV aB 4 [] [(14,(aC (decide (i5<(lN a0)))))] ?_;refine bH h1 (fun h1=>?_) (fun h1=>?_)
 ·refine bI ?_;refine bD [(0,(eL aD a0)),(1,(eL aD b1)),(5,(eI i5))] ?_;refine aM ?_;refine bT 1 ?_;refine aM ?_;refine eV (eT [20,24]) aB 9 ?_;obtain⟨c3,h1⟩:=bA h1;obtain⟨c4,h1⟩:=bA h1;refine EH (Ds:=[0<=i5/\i5<(lN a0),0<=i5/\i5<(lN b1)]) (by kernel_rfl) ⟨c3,c4,trivial⟩ ?_;refine bN [] [(25,(aC (!((decide (((gD a0 i5).Kind)=((gD b1 i5).Kind)))&&((decide (((gD a0 i5).Num)=((gD b1 i5).Num)))&&((pE ((gD a0 i5).Text) ((gD b1 i5).Text))&&true))))))] ?_;refine bH h1 (fun h1=>?_) (fun h1=>?_)
  ·refine bM aB 1 [(4,(aC false))] ?_;refine bG ?_;obtain rfl:=oI h1;obtain rfl:_=rr0:=ho0;replace h0:some false=some r:=h0;obtain rfl:=oI h0;exact aF (bF (aQ (aQ (bF (aQ (Q_r hO))))))
  refine bI ?_;refine dO [(0,(eL aD a0)),(1,(eL aD b1)),(5,(eI i5))] ?_;refine aF (aU (aE (?_)));refine aS aB 3 ?_;refine bB ?_;exact aF (aE (⟨rfl,_,(oI h1).symm,aZ,hO⟩))
 refine eH 0 ?_;obtain rfl:=oI h1;obtain rfl:_=rr0:=ho0;replace h0:vZ  = some r:=h0;exact aF (aX (aX (bP (aE (⟨rfl,aZ,hO,h0⟩)))))

theorem LN (l0:(List aK))(r:(List (List aG)))(h0:uB l0=some r):cU Tryz.prog 62 [(eL aH l0)] (eL (eL aD) r):=by
 intro H0;refine cQ Tryz.func62 ?_;have hO:=aJ.start H0;unfold uB at h0;refine aV aB 1 [] [] ?_;refine aM ?_;refine aS aB 2 ?_;refine nU [] 1 ?_;refine bB ?_;refine bN [] [(3,(.sl true 0 (fun _=>.bad)))] ?_;refine dN (fun T H=>∃ bQ:List (List aG),∃ lo1:Nat,Has T [(3,(.msl 1 lo1 0 (List.length bQ)))]/\aJ ⟨H0,[],[]⟩ H [(lo1,1,List.map (eL aD) bQ)]/\AF bQ=some r) ?_ ?_
 ·clear hO h0;rintro T H ⟨bQ,lo1,hT,hO,h0⟩;refine bC hT ?_;clear hT;unfold AF at h0;refine bM aB 2 [(2,(.msl 1 lo1 0 (List.length bQ)))] ?_;refine bG ?_;refine dO [(2,(.msl 1 lo1 0 (List.length bQ)))] ?_;refine qR (en:=(eL aD)) bQ 0 0 2 1 lo1 (List.length bQ) hO (by kernel_rfl) (by kernel_rfl) (by kernel_rfl) (L':=[]) (by kernel_rfl) ?_;intro H2 hO;obtain rfl:=oI h0;exact aF (Q_r hO)
 refine aV aB 1 [] [(4,(eI 0))] ?_;refine bT 0 ?_;refine dZ [(0,(eL aH l0)),(3,(.sl true 0 (fun _=>.bad))),(4,(eI 0))] ?_;refine DM (el:=(fun _=>.bad)) 1 3 1 hO (by kernel_rfl) ?_;intro lo31 H32 hO;refine dR (fun T H=>∃ bQ:List (List aG),∃ i4:Int,∃ lo4:Nat,Has T [(0,(eL aH l0)),(3,(.msl 1 lo4 0 (List.length bQ))),(4,(eI i4))]/\aJ ⟨H0,[],[]⟩ H [(lo4,1,List.map (eL aD) bQ)]/\AE l0 bQ i4=some r) ?_ ⟨([]:List (List aG)),(0:Int),lo31,aZ,hO,h0⟩;clear hO h0;rintro T H ⟨bQ,i4,lo4,hT,hO,h0⟩;refine bC hT ?_;clear hT;unfold AE at h0;obtain⟨rr0,hl0,h0⟩:=aW h0;refine fD (fun (s:List (List aG)×Int) T H=>∃ lo4:Nat,Has T [(0,(eL aH l0)),(3,(.msl 1 lo4 0 (List.length s.1))),(4,(eI s.2))]/\aJ ⟨H0,[],[]⟩ H [(lo4,1,List.map (eL aD) s.1)]) hl0 ⟨lo4,aZ,hO⟩ ?_;clear hO;rintro k0 s out1 T H ⟨lo4,hT,hO⟩ h1 ho0;obtain⟨bQ,i4⟩:=s;replace h1:oM l0 bQ i4=some out1:=h1
 try dsimp only at hT
 refine bC hT ?_;clear hT;unfold oM at h1;refine aM ?_;refine aV aB 4 [] [(11,(aC (decide (i4<(lN l0)))))] ?_;refine bH h1 (fun h1=>?_) (fun h1=>?_)
 ·refine bI ?_;refine bD [(0,(eL aH l0)),(3,(.msl 1 lo4 0 (List.length bQ))),(4,(eI i4))] ?_;refine dN (fun T H=>∃ bQ:List (List aG),∃ lo6:Nat,Has T [(0,(eL aH l0)),(3,(.msl 1 lo6 0 (List.length bQ))),(4,(eI i4))]/\aJ ⟨H0,[],[]⟩ H [(lo6,1,List.map (eL aD) bQ)]/\wB l0 bQ i4=some out1) ?_ ?_
  ·clear hO h1;rintro T H ⟨bQ,lo6,hT,hO,h1⟩;refine bC hT ?_;clear hT;unfold wB at h1;refine aS aB 3 ?_;refine bB ?_;exact aF (aE (⟨rfl,_,(oI h1).symm,_,aZ,hO⟩))
  refine bT 1 ?_;refine aV aB 1 [] [(5,(eI 0))] ?_;refine dN (fun T H=>∃ bQ:List (List aG),∃ at5:Int,∃ lo7:Nat,Has T [(0,(eL aH l0)),(3,(.msl 1 lo7 0 (List.length bQ))),(4,(eI i4)),(5,(eI at5))]/\aJ ⟨H0,[],[]⟩ H [(lo7,1,List.map (eL aD) bQ)]/\vQ l0 bQ i4 at5=some out1) ?_ ?_
  ·clear hO h1;rintro T H ⟨bQ,at5,lo7,hT,hO,h1⟩;refine bC hT ?_;clear hT;unfold vQ at h1;refine aM ?_;refine aM ?_;obtain⟨c8,h1⟩:=bA h1;obtain⟨c9,h1⟩:=bA h1;obtain⟨x10,hx11,h1⟩:=aW h1;refine eV (eT [46]) aB 16 ?_;refine nN (K:=fun T H=>Has (lift T) [(0,(eL aH l0)),(3,(.msl 1 lo7 0 (List.length bQ))),(4,(eI i4)),(5,(eI at5)),(48,(aC ((decide (at5<(lN bQ)))&&x10)))]/\aJ ⟨H0,[],[]⟩ H [(lo7,1,List.map (eL aD) bQ)]) ?_ ?_
   ·refine hU 5 ?_;refine kG (t:=37) (e:=decide (at5<(lN bQ))) (by kernel_rfl) (fun hg12=>?_) (fun hg12=>?_)
    ·refine cJ 8 [0<=at5/\at5<(lN bQ)] ⟨(c8 hg12),trivial⟩ ?_;refine oR 0 lo7 1 (0+Int.toNat at5) (eL aD (gD bQ at5)) (eL aD (gD bQ at5)) (List.map (eL aD) bQ) hO (cB (c8 hg12)) ?_;refine cJ 14 [0<=i4/\i4<(lN l0)] ⟨(c9 hg12),trivial⟩ ?_;refine mF 37 [(eL aD (gD bQ at5)),(eL aD ((gD l0 i4).Row))] (aC x10) (by kernel_rfl) (by kernel_rfl) (LJ (gD bQ at5) ((gD l0 i4).Row) _ (gV hx11 hg12)) hO ?_;intro H hO;refine gP ?_;exact⟨⟨[(0,(eL aH l0)),(3,(.msl 1 lo7 0 (List.length bQ))),(4,(eI i4)),(5,(eI at5)),(48,(aC x10))],by kernel_rfl,rfl,⟨aR.refl _,aR.refl _,aR.refl _,aR.refl _,aR.eq (congrArg aC (dY hg12 rfl).symm),trivial⟩⟩,hO⟩
    refine gP ?_;exact⟨⟨[(0,(eL aH l0)),(3,(.msl 1 lo7 0 (List.length bQ))),(4,(eI i4)),(5,(eI at5)),(48,(aC false))],by kernel_rfl,rfl,⟨aR.refl _,aR.refl _,aR.refl _,aR.refl _,aR.eq (congrArg aC (dY hg12 rfl).symm),trivial⟩⟩,hO⟩
   ·rintro T H ⟨hT,hO⟩;refine dL hT ?_;clear hT;refine aF (aE ?_);refine bH h1 (fun h1=>?_) (fun h1=>?_)
    ·refine eH 1 ?_;exact aF (aX (bP (aE (⟨rfl,_,_,aZ,hO,h1⟩))))
    refine bI ?_;refine bD [(0,(eL aH l0)),(3,(.msl 1 lo7 0 (List.length bQ))),(4,(eI i4)),(5,(eI at5))] ?_;refine aM ?_;refine aS aB 6 ?_;refine nU [] 1 ?_;obtain⟨c14,h1⟩:=bA h1;refine mM 4 [0<=at5/\at5<=(lN bQ)] ⟨c14,trivial⟩ ?_;obtain⟨c16,h1⟩:=bA h1;refine aBu (e:=(eL aD)) (List.take (Int.toNat at5) bQ) (fun _=>.bad) 1 24 (.msl 1 lo7 0 (Int.toNat at5)) (fun lo15=>[(lo7,1,List.map (eL aD) bQ),(lo15,1,List.map (eL aD) (List.take (Int.toNat at5) bQ))]) (by kernel_rfl) (by kernel_rfl) hO (ZE hO 0 (by kernel_rfl) (Int.toNat_le.2 (And.right c14))) c16 (fun _=>by kernel_rfl) ?_;intro lo15 H hO;refine bB ?_;refine bN [] [(6,(.msl 1 lo15 0 (List.length (List.take (Int.toNat at5) bQ))))] ?_;refine aM ?_;refine aS aB 9 ?_;obtain⟨c17,h1⟩:=bA h1;refine mM 6 [0<=i4/\i4<(lN l0)] ⟨c17,trivial⟩ ?_;refine nU [(eL aD ((gD l0 i4).Row))] 1 ?_;obtain⟨c19,h1⟩:=bA h1;refine AO (eL aD) (List.take (Int.toNat at5) bQ) ([(gD l0 i4).Row]) 1 lo15 1 24 (eD [(eL aD ((gD l0 i4).Row))]) (fun lo18=>[(lo7,1,List.map (eL aD) bQ),(lo18,1,List.map (eL aD) ((List.take (Int.toNat at5) bQ)++([(gD l0 i4).Row])))]) hO (by kernel_rfl) c19 ?_;intro lo18 H hO;refine bB ?_;refine bN [6] [(6,(.msl 1 lo18 0 (List.length ((List.take (Int.toNat at5) bQ)++([(gD l0 i4).Row])))))] ?_;refine aS aB 6 ?_;obtain⟨c20,h1⟩:=bA h1;refine mM 4 [0<=at5/\at5<=(lN bQ)] ⟨c20,trivial⟩ ?_;obtain⟨c22,h1⟩:=bA h1;refine AO (eL aD) ((List.take (Int.toNat at5) bQ)++([(gD l0 i4).Row])) (List.drop (Int.toNat at5) bQ) 1 lo18 1 24 (.msl 1 lo7 (0+Int.toNat at5) (List.length bQ-Int.toNat at5)) (fun lo21=>[(lo7,1,List.map (eL aD) bQ),(lo21,1,List.map (eL aD) (((List.take (Int.toNat at5) bQ)++([(gD l0 i4).Row]))++(List.drop (Int.toNat at5) bQ)))]) hO (YM hO 0 (by kernel_rfl) rfl (Int.toNat_le.2 (And.right c20))) c22 ?_;intro lo21 H hO;refine bB ?_;replace hO:=hO.pick (L':=[(lo21,1,List.map (eL aD) (((List.take (Int.toNat at5) bQ)++([(gD l0 i4).Row]))++(List.drop (Int.toNat at5) bQ)))]) [1] (by decide) (by kernel_rfl);exact aF (aU (aE (⟨rfl,_,_,aZ,hO,h1⟩)))
  refine bT 2 ?_;refine dZ [(0,(eL aH l0)),(3,(.msl 1 lo4 0 (List.length bQ))),(4,(eI i4)),(5,(eI 0))] ?_;refine dR (fun T H=>∃ bQ:List (List aG),∃ at5:Int,∃ lo24:Nat,Has T [(0,(eL aH l0)),(3,(.msl 1 lo24 0 (List.length bQ))),(4,(eI i4)),(5,(eI at5))]/\aJ ⟨H0,[],[]⟩ H [(lo24,1,List.map (eL aD) bQ)]/\zY l0 bQ i4 at5=some out1) ?_ ⟨bQ,(0:Int),lo4,aZ,hO,h1⟩;clear hO h1;rintro T H ⟨bQ,at5,lo24,hT,hO,h1⟩;refine bC hT ?_;clear hT;unfold zY at h1;obtain⟨rr1,hl1,h1⟩:=aW h1;refine fD (fun (s:List (List aG)×Int) T H=>∃ lo24:Nat,Has T [(0,(eL aH l0)),(3,(.msl 1 lo24 0 (List.length s.1))),(4,(eI i4)),(5,(eI s.2))]/\aJ ⟨H0,[],[]⟩ H [(lo24,1,List.map (eL aD) s.1)]) hl1 ⟨lo24,aZ,hO⟩ ?_;clear hO;rintro k1 s out2 T H ⟨lo24,hT,hO⟩ h2 ho1;obtain⟨bQ,at5⟩:=s;replace h2:mX l0 i4 bQ at5=some out2:=h2
  try dsimp only at hT
  refine bC hT ?_;clear hT;unfold mX at h2;refine aM ?_;refine aM ?_;obtain⟨c25,h2⟩:=bA h2;obtain⟨c26,h2⟩:=bA h2;obtain⟨x27,hx28,h2⟩:=aW h2;refine eV (eT [27]) aB 17 ?_;refine nN (K:=fun T H=>Has (lift T) [(0,(eL aH l0)),(3,(.msl 1 lo24 0 (List.length bQ))),(4,(eI i4)),(5,(eI at5)),(30,(aC ((decide (at5<(lN bQ)))&&(decide (x27<(0:Int))))))]/\aJ ⟨H0,[],[]⟩ H [(lo24,1,List.map (eL aD) bQ)]) ?_ ?_
  ·refine hU 5 ?_;refine kG (t:=18) (e:=decide (at5<(lN bQ))) (by kernel_rfl) (fun hg29=>?_) (fun hg29=>?_)
   ·refine cJ 8 [0<=at5/\at5<(lN bQ)] ⟨(c25 hg29),trivial⟩ ?_;refine oR 0 lo24 1 (0+Int.toNat at5) (eL aD (gD bQ at5)) (eL aD (gD bQ at5)) (List.map (eL aD) bQ) hO (cB (c25 hg29)) ?_;refine cJ 14 [0<=i4/\i4<(lN l0)] ⟨(c26 hg29),trivial⟩ ?_;refine mF 82 [(eL aD (gD bQ at5)),(eL aD ((gD l0 i4).Row))] (eI x27) (by kernel_rfl) (by kernel_rfl) (GN (gD bQ at5) ((gD l0 i4).Row) _ (gV hx28 hg29)) hO ?_;intro H hO;refine gP ?_;exact⟨⟨[(0,(eL aH l0)),(3,(.msl 1 lo24 0 (List.length bQ))),(4,(eI i4)),(5,(eI at5)),(30,(aC (decide (x27<(0:Int)))))],by kernel_rfl,rfl,⟨aR.refl _,aR.refl _,aR.refl _,aR.refl _,aR.eq (congrArg aC (dY hg29 rfl).symm),trivial⟩⟩,hO⟩
   refine gP ?_;exact⟨⟨[(0,(eL aH l0)),(3,(.msl 1 lo24 0 (List.length bQ))),(4,(eI i4)),(5,(eI at5)),(30,(aC false))],by kernel_rfl,rfl,⟨aR.refl _,aR.refl _,aR.refl _,aR.refl _,aR.eq (congrArg aC (dY hg29 rfl).symm),trivial⟩⟩,hO⟩
  ·rintro T H ⟨hT,hO⟩;refine dL hT ?_;clear hT;refine aF (aE ?_);refine bH h2 (fun h2=>?_) (fun h2=>?_)
   ·refine bI ?_;refine bD [(0,(eL aH l0)),(3,(.msl 1 lo24 0 (List.length bQ))),(4,(eI i4)),(5,(eI at5))] ?_;refine bT 3 ?_;refine aS aB 3 ?_;refine bB ?_;exact aF (aU (aE (⟨rfl,_,(oI h2).symm,_,aZ,hO⟩)))
   refine eH 2 ?_;obtain rfl:=oI h2;obtain rfl:_=rr1:=ho1;replace h1:vQ l0 bQ i4 at5=some out1:=h1;exact aF (aX (aX (bP (aE (⟨rfl,_,_,_,aZ,hO,h1⟩)))))
 refine eH 0 ?_;obtain rfl:=oI h1;obtain rfl:_=rr0:=ho0;replace h0:AF bQ=some r:=h0;exact aF (aX (aX (bP (aE (⟨rfl,_,_,aZ,hO,h0⟩)))))

theorem JZ (l0:(List aK))(r1:(List aG))(r:(List aI))(h0:sE l0 r1=some r):cU Tryz.prog 63 [(eL aH l0),(eL aD r1)] (eL aO r):=by
 intro H0;refine cQ Tryz.func63 ?_;have hO:=aJ.start H0;unfold sE at h0;refine aV aB 1 [] [] ?_;refine aM ?_;refine aS aB 2 ?_;refine nU [] 2 ?_;refine bB ?_;refine bN [] [(5,(.sl true 0 (fun _=>.bad)))] ?_;refine dN (fun T H=>∃ f5:List aI,∃ lo1:Nat,Has T [(5,(.msl 2 lo1 0 (List.length f5)))]/\aJ ⟨H0,[],[]⟩ H [(lo1,2,List.map aO f5)]/\yW f5=some r) ?_ ?_
 ·clear hO h0;rintro T H ⟨f5,lo1,hT,hO,h0⟩;refine bC hT ?_;clear hT;unfold yW at h0;refine bM aB 2 [(4,(.msl 2 lo1 0 (List.length f5)))] ?_;refine bG ?_;refine dO [(4,(.msl 2 lo1 0 (List.length f5)))] ?_;refine qR (en:=aO) f5 0 0 4 2 lo1 (List.length f5) hO (by kernel_rfl) (by kernel_rfl) (by kernel_rfl) (L':=[]) (by kernel_rfl) ?_;intro H2 hO;obtain rfl:=oI h0;exact aF (Q_r hO)
 refine aV aB 1 [] [(6,(eI 0))] ?_;refine bT 0 ?_;refine dZ [(0,(eL aH l0)),(1,(eL aD r1)),(5,(.sl true 0 (fun _=>.bad))),(6,(eI 0))] ?_;refine DM (el:=(fun _=>.bad)) 2 5 2 hO (by kernel_rfl) ?_;intro lo16 H17 hO;refine dR (fun T H=>∃ f5:List aI,∃ i6:Int,∃ lo4:Nat,Has T [(0,(eL aH l0)),(1,(eL aD r1)),(5,(.msl 2 lo4 0 (List.length f5))),(6,(eI i6))]/\aJ ⟨H0,[],[]⟩ H [(lo4,2,List.map aO f5)]/\yK l0 r1 f5 i6=some r) ?_ ⟨([]:List aI),(0:Int),lo16,aZ,hO,h0⟩;clear hO h0;rintro T H ⟨f5,i6,lo4,hT,hO,h0⟩;refine bC hT ?_;clear hT;unfold yK at h0;obtain⟨rr0,hl0,h0⟩:=aW h0;refine fD (fun (s:List aI×Int) T H=>∃ lo4:Nat,Has T [(0,(eL aH l0)),(1,(eL aD r1)),(5,(.msl 2 lo4 0 (List.length s.1))),(6,(eI s.2))]/\aJ ⟨H0,[],[]⟩ H [(lo4,2,List.map aO s.1)]) hl0 ⟨lo4,aZ,hO⟩ ?_;clear hO;rintro k0 s out1 T H ⟨lo4,hT,hO⟩ h1 ho0;obtain⟨f5,i6⟩:=s;replace h1:nG l0 r1 f5 i6=some out1:=h1
 try dsimp only at hT
 refine bC hT ?_;clear hT;unfold nG at h1;refine aM ?_;refine aV aB 4 [] [(11,(aC (decide (i6<(lN l0)))))] ?_;refine bH h1 (fun h1=>?_) (fun h1=>?_)
 ·refine bI ?_;refine bD [(0,(eL aH l0)),(1,(eL aD r1)),(5,(.msl 2 lo4 0 (List.length f5))),(6,(eI i6))] ?_;refine dN (fun T H=>∃ f5:List aI,∃ lo6:Nat,Has T [(0,(eL aH l0)),(1,(eL aD r1)),(5,(.msl 2 lo6 0 (List.length f5))),(6,(eI i6))]/\aJ ⟨H0,[],[]⟩ H [(lo6,2,List.map aO f5)]/\uJ l0 r1 f5 i6=some out1) ?_ ?_
  ·clear hO h1;rintro T H ⟨f5,lo6,hT,hO,h1⟩;refine bC hT ?_;clear hT;unfold uJ at h1;refine aS aB 3 ?_;refine bB ?_;exact aF (aE (⟨rfl,_,(oI h1).symm,_,aZ,hO⟩))
  refine bT 1 ?_;refine aM ?_;refine aS aB 7 ?_;obtain⟨c7,h1⟩:=bA h1;refine mM 6 [0<=i6/\i6<(lN l0)] ⟨c7,trivial⟩ ?_;obtain⟨x8,hx9,h1⟩:=aW h1;refine cN (LJ ((gD l0 i6).Row) r1 _ hx9) hO ?_;intro H hO;refine dU ?_;refine bN [] [(20,(aC x8))] ?_;refine bH h1 (fun h1=>?_) (fun h1=>?_)
  ·refine eV (eT [26,31,33]) aB 15 ?_;obtain⟨c12,h1⟩:=bA h1;obtain⟨c13,h1⟩:=bA h1;refine cJ 12 [0<=i6/\i6<(lN l0),0<=i6/\i6<(lN l0)] ⟨c12,c13,trivial⟩ ?_;refine WY (xs:=[(aO (aI.mk ((gD l0 i6).At) ((gD l0 i6).Net)))]) (k:=2) (by kernel_rfl) (by kernel_rfl) ?_;obtain⟨c15,h1⟩:=bA h1;refine MU (e:=aO) f5 ([aI.mk ((gD l0 i6).At) ((gD l0 i6).Net)]) 0 lo4 2 16 (eD [(aO (aI.mk ((gD l0 i6).At) ((gD l0 i6).Net)))]) (fun lo14=>[(lo14,2,List.map aO (f5++([aI.mk ((gD l0 i6).At) ((gD l0 i6).Net)])))]) (by kernel_rfl) (by kernel_rfl) hO (by kernel_rfl) (by kernel_rfl) c15 (fun _=>by kernel_rfl) ?_;intro lo14 H hO;refine gP ?_;exact aF (aU (aE (⟨rfl,_,_,aZ,hO,h1⟩)))
  refine bI ?_;exact aF (aU (aE (⟨rfl,_,_,aZ,hO,h1⟩)))
 refine eH 0 ?_;obtain rfl:=oI h1;obtain rfl:_=rr0:=ho0;replace h0:yW f5=some r:=h0;exact aF (aX (aX (bP (aE (⟨rfl,_,_,aZ,hO,h0⟩)))))

theorem HT (l0:(List aK))(r:Bool)(h0:sX l0=some r):cU Tryz.prog 46 [(eL aH l0)] (aC r):=by
 intro H0;refine cQ Tryz.func46 ?_;have hO:=aJ.start H0;unfold sX at h0;refine aV aB 1 [] [] ?_;refine aM ?_;refine aV aB 3 [] [(9,(aC (decide ((4096:Int)<(lN l0)))))] ?_;refine bH h0 (fun h0=>?_) (fun h0=>?_)
 ·refine bM aB 1 [(2,(aC false))] ?_;refine bG ?_;obtain rfl:=oI h0;exact aF (aQ (Q_r hO))
 refine bI ?_;refine bD [(0,(eL aH l0))] ?_;refine dN (fun T H=>Has T [(0,(eL aH l0))]/\aJ ⟨H0,[],[]⟩ H []/\yI l0=some r) ?_ ?_
 ·clear hO h0;rintro T H ⟨hT,hO,h0⟩;refine bC hT ?_;clear hT;unfold yI at h0;refine aM ?_;refine aS aB 3 ?_;refine bJ 1 ?_;obtain⟨x2,hx3,h0⟩:=aW h0;refine cN (LN l0 _ hx3) hO ?_;intro H hO;refine bB ?_;refine bN [] [(5,(eL (eL aD) x2))] ?_;refine dN (fun T H=>Has T []/\aJ ⟨H0,[],[]⟩ H []/\BI  = some r) ?_ ?_
  ·clear hO h0;rintro T H ⟨hT,hO,h0⟩;refine bC hT ?_;clear hT;unfold BI at h0;refine bM aB 1 [(2,(aC true))] ?_;refine bG ?_;obtain rfl:=oI h0;exact aF (Q_r hO)
  refine aV aB 1 [] [(6,(eI 0))] ?_;refine bT 2 ?_;refine dZ [(0,(eL aH l0)),(5,(eL (eL aD) x2)),(6,(eI 0))] ?_;refine dR (fun T H=>∃ tG:(List (List aG)),∃ i6:Int,Has T [(0,(eL aH l0)),(5,(eL (eL aD) tG)),(6,(eI i6))]/\aJ ⟨H0,[],[]⟩ H []/\BD l0 tG i6=some r) ?_ ⟨x2,(0:Int),aZ,hO,h0⟩;clear hO h0;rintro T H ⟨tG,i6,hT,hO,h0⟩;refine bC hT ?_;clear hT;unfold BD at h0;obtain⟨rr0,hl0,h0⟩:=aW h0;refine fD (fun (s:Int) T H=>Has T [(0,(eL aH l0)),(5,(eL (eL aD) tG)),(6,(eI s))]/\aJ ⟨H0,[],[]⟩ H []) hl0 ⟨aZ,hO⟩ ?_;clear hO;rintro k0 s out1 T H ⟨hT,hO⟩ h1 ho0;obtain⟨i6,rfl⟩:∃ x,x=s:=⟨_,rfl⟩;replace h1:rL l0 tG i6=some out1:=h1;refine bC hT ?_;clear hT;unfold rL at h1;refine aM ?_;refine aV aB 4 [] [(78,(aC (decide (i6<(lN tG)))))] ?_;refine bH h1 (fun h1=>?_) (fun h1=>?_)
  ·refine bI ?_;refine bD [(0,(eL aH l0)),(5,(eL (eL aD) tG)),(6,(eI i6))] ?_;refine aM ?_;refine bT 3 ?_;refine aM ?_;refine aS aB 8 ?_;obtain⟨c6,h1⟩:=bA h1;refine mM 5 [0<=i6/\i6<(lN tG)] ⟨c6,trivial⟩ ?_;obtain⟨x7,hx8,h1⟩:=aW h1;refine cN (JZ l0 (gD tG i6) _ hx8) hO ?_;intro H hO;refine bB ?_;refine bN [] [(88,(aC (decide ((1024:Int)<(lN x7)))))] ?_;refine bH h1 (fun h1=>?_) (fun h1=>?_)
   ·refine bM aB 1 [(2,(aC false))] ?_;refine bG ?_;obtain rfl:=oI h1;obtain rfl:_=rr0:=ho0;replace h0:some false=some r:=h0;obtain rfl:=oI h0;exact aF (bF (aQ (aQ (bF (aQ (Q_r hO))))))
   refine bI ?_;refine dO [(0,(eL aH l0)),(5,(eL (eL aD) tG)),(6,(eI i6))] ?_;refine aF (aU (aE (?_)));refine aS aB 3 ?_;refine bB ?_;exact aF (aE (⟨rfl,_,(oI h1).symm,aZ,hO⟩))
  refine eH 2 ?_;obtain rfl:=oI h1;obtain rfl:_=rr0:=ho0;replace h0:BI  = some r:=h0;exact aF (aX (aX (bP (aE (⟨rfl,aZ,hO,h0⟩)))))
 refine aV aB 1 [] [(3,(eI 0))] ?_;refine bT 0 ?_;refine dZ [(0,(eL aH l0)),(3,(eI 0))] ?_;refine dR (fun T H=>∃ i3:Int,Has T [(0,(eL aH l0)),(3,(eI i3))]/\aJ ⟨H0,[],[]⟩ H []/\CB l0 i3=some r) ?_ ⟨(0:Int),aZ,hO,h0⟩;clear hO h0;rintro T H ⟨i3,hT,hO,h0⟩;refine bC hT ?_;clear hT;unfold CB at h0;obtain⟨rr0,hl0,h0⟩:=aW h0;refine fD (fun (s:Int) T H=>Has T [(0,(eL aH l0)),(3,(eI s))]/\aJ ⟨H0,[],[]⟩ H []) hl0 ⟨aZ,hO⟩ ?_;clear hO;rintro k0 s out1 T H ⟨hT,hO⟩ h1 ho0;obtain⟨i3,rfl⟩:∃ x,x=s:=⟨_,rfl⟩;replace h1:pM l0 i3=some out1:=h1;refine bC hT ?_;clear hT;unfold pM at h1;refine aM ?_;refine aV aB 4 [] [(13,(aC (decide (i3<(lN l0)))))] ?_;refine bH h1 (fun h1=>?_) (fun h1=>?_)
 ·refine bI ?_;refine bD [(0,(eL aH l0)),(3,(eI i3))] ?_;refine dN (fun T H=>Has T [(0,(eL aH l0)),(3,(eI i3))]/\aJ ⟨H0,[],[]⟩ H []/\tO l0 i3=some out1) ?_ ?_
  ·clear hO h1;rintro T H ⟨hT,hO,h1⟩;refine bC hT ?_;clear hT;unfold tO at h1;refine aS aB 3 ?_;refine bB ?_;exact aF (aE (⟨rfl,_,(oI h1).symm,aZ,hO⟩))
  refine bT 1 ?_;refine aM ?_;refine aM ?_;obtain⟨c12,h1⟩:=bA h1;obtain⟨x13,hx14,h1⟩:=aW h1;obtain⟨c15,h1⟩:=bA h1;obtain⟨c16,h1⟩:=bA h1;obtain⟨x17,hx18,h1⟩:=aW h1;refine eV (eT [20,28,33]) aB 23 ?_;refine nN (K:=fun T H=>Has (lift T) [(0,(eL aH l0)),(3,(eI i3)),(38,(aC ((!x13)||(!x17))))]/\aJ ⟨H0,[],[]⟩ H []) ?_ ?_
  ·refine cJ 5 [0<=i3/\i3<(lN l0)] ⟨c12,trivial⟩ ?_;refine mF 80 [(eL aD ((gD l0 i3).Row))] (aC x13) (by kernel_rfl) (by kernel_rfl) (HN ((gD l0 i3).Row) _ hx14) hO ?_;intro H hO;refine hU 8 ?_;refine kG (t:=23) (e := !x13) (by kernel_rfl) (fun hg19=>?_) (fun hg19=>?_)
   ·refine gP ?_;exact⟨⟨[(0,(eL aH l0)),(3,(eI i3)),(38,(aC true))],by kernel_rfl,rfl,⟨aR.refl _,aR.refl _,aR.eq (congrArg aC (OU hg19 rfl).symm),trivial⟩⟩,hO⟩
   refine cJ 19 [0<=i3/\i3<(lN l0),0<=i3/\i3<(lN l0)] ⟨(c15 (QL hg19)),(c16 (QL hg19)),trivial⟩ ?_;refine aGD (xs:=[(aO (aI.mk ((gD l0 i3).At) ((gD l0 i3).Net)))]) (by kernel_rfl) (by kernel_rfl) ?_;refine mF 81 [(eD [(aO (aI.mk ((gD l0 i3).At) ((gD l0 i3).Net)))])] (aC x17) (by kernel_rfl) (by kernel_rfl) (cU.sub (NQ ([aI.mk ((gD l0 i3).At) ((gD l0 i3).Net)]) _ (gV hx18 (QL hg19))) ⟨RH (l:=[aI.mk ((gD l0 i3).At) ((gD l0 i3).Net)]),trivial⟩) hO ?_;intro H hO;refine gP ?_;exact⟨⟨[(0,(eL aH l0)),(3,(eI i3)),(38,(aC (!x17)))],by kernel_rfl,rfl,⟨aR.refl _,aR.refl _,aR.eq (congrArg aC (OU hg19 rfl).symm),trivial⟩⟩,hO⟩
  ·rintro T H ⟨hT,hO⟩;refine dL hT ?_;clear hT;refine aF (aE ?_);refine bH h1 (fun h1=>?_) (fun h1=>?_)
   ·refine bM aB 1 [(2,(aC false))] ?_;refine bG ?_;obtain rfl:=oI h1;obtain rfl:_=rr0:=ho0;replace h0:some false=some r:=h0;obtain rfl:=oI h0;exact aF (aQ (bF (aQ (aQ (bF (aQ (Q_r hO)))))))
   refine bI ?_;refine bD [(0,(eL aH l0)),(3,(eI i3))] ?_;refine aM ?_;refine aV aB 2 [] [(40,(aC (decide (i3=(0:Int)))))] ?_;refine bH h1 (fun h1=>?_) (fun h1=>?_)
   ·refine eH 1 ?_;exact aF (aX (bP (aE (⟨rfl,aZ,hO,h1⟩))))
   refine bI ?_;refine bD [(0,(eL aH l0)),(3,(eI i3))] ?_;refine aM ?_;refine eV (eT [46,51,52]) aB 13 ?_;obtain⟨c22,h1⟩:=bA h1;obtain⟨c23,h1⟩:=bA h1;refine cJ 11 [0<=(wR (i3-(1:Int)))/\(wR (i3-(1:Int)))<(lN l0),0<=i3/\i3<(lN l0)] ⟨c22,c23,trivial⟩ ?_;obtain⟨x24,hx25,h1⟩:=aW h1;refine BF (GN ((gD l0 (wR (i3-(1:Int)))).Row) ((gD l0 i3).Row) _ hx25) hO ?_;intro H hO;refine gP ?_;refine bN [] [(4,(eI x24))] ?_;refine aM ?_;obtain⟨c27,h1⟩:=bA h1;obtain⟨c28,h1⟩:=bA h1;refine eV (eT [64,69]) aB 20 ?_;refine nN (K:=fun T H=>Has (lift T) [(0,(eL aH l0)),(3,(eI i3)),(72,(aC ((decide ((0:Int)<x24))||((decide (x24=(0:Int)))&&(decide (((gD l0 i3).At)<=((gD l0 (wR (i3-(1:Int)))).At)))))))]/\aJ ⟨H0,[],[]⟩ H []) ?_ ?_
   ·refine hU 3 ?_;refine kG (t:=55) (e:=decide ((0:Int)<x24)) (by kernel_rfl) (fun hg29=>?_) (fun hg29=>?_)
    ·refine gP ?_;exact⟨⟨[(0,(eL aH l0)),(3,(eI i3)),(72,(aC true))],by kernel_rfl,rfl,⟨aR.refl _,aR.refl _,aR.eq (congrArg aC (OU hg29 rfl).symm),trivial⟩⟩,hO⟩
    refine hU 6 ?_;refine kG (t:=58) (e:=decide (x24=(0:Int))) (by kernel_rfl) (fun hg30=>?_) (fun hg30=>?_)
    ·refine EH (Ds:=[0<=(wR (i3-(1:Int)))/\(wR (i3-(1:Int)))<(lN l0),0<=i3/\i3<(lN l0)]) (by kernel_rfl) ⟨(c27 (dY hg30 (QL hg29))),(c28 (dY hg30 (QL hg29))),trivial⟩ ?_;exact⟨⟨[(0,(eL aH l0)),(3,(eI i3)),(72,(aC (decide (((gD l0 i3).At)<=((gD l0 (wR (i3-(1:Int)))).At)))))],by kernel_rfl,rfl,⟨aR.refl _,aR.refl _,aR.eq (congrArg aC (OU hg29 (dY hg30 rfl)).symm),trivial⟩⟩,hO⟩
    refine gP ?_;exact⟨⟨[(0,(eL aH l0)),(3,(eI i3)),(72,(aC false))],by kernel_rfl,rfl,⟨aR.refl _,aR.refl _,aR.eq (congrArg aC (OU hg29 (dY hg30 rfl)).symm),trivial⟩⟩,hO⟩
   ·rintro T H ⟨hT,hO⟩;refine dL hT ?_;clear hT;refine aF (aE ?_);refine bH h1 (fun h1=>?_) (fun h1=>?_)
    ·refine bM aB 1 [(2,(aC false))] ?_;refine bG ?_;obtain rfl:=oI h1;obtain rfl:_=rr0:=ho0;replace h0:some false=some r:=h0;obtain rfl:=oI h0;exact aF (bF (aQ (aQ (bF (aQ (Q_r hO))))))
    refine bI ?_;exact aF (aU (aE (⟨rfl,aZ,hO,h1⟩)))
 refine eH 0 ?_;obtain rfl:=oI h1;obtain rfl:_=rr0:=ho0;replace h0:yI l0=some r:=h0;exact aF (aX (aX (bP (aE (⟨rfl,aZ,hO,h0⟩)))))

theorem DU (f0:(List aI))(t1:Int)(r:Int)(h0:oL f0 t1=some r):cU Tryz.prog 94 [(eL aO f0),(eI t1)] (eI r):=by
 intro H0;refine cQ Tryz.func94 ?_;have hO:=aJ.start H0;unfold oL at h0;refine aV aB 1 [] [] ?_;refine aV aB 1 [] [(5,(eI 0))] ?_;refine dN (fun T H=>∃ v5:Int,Has T [(5,(eI v5))]/\aJ ⟨H0,[],[]⟩ H []/\tR v5=some r) ?_ ?_
 ·clear hO h0;rintro T H ⟨v5,hT,hO,h0⟩;refine bC hT ?_;clear hT;unfold tR at h0;refine bM aB 2 [(4,(eI v5))] ?_;refine bG ?_;obtain rfl:=oI h0;exact aF (Q_r hO)
 refine aV aB 1 [] [(6,(eI 0))] ?_;refine bT 0 ?_;refine dZ [(0,(eL aO f0)),(1,(eI t1)),(5,(eI 0)),(6,(eI 0))] ?_;refine dR (fun T H=>∃ v5:Int,∃ i6:Int,Has T [(0,(eL aO f0)),(1,(eI t1)),(5,(eI v5)),(6,(eI i6))]/\aJ ⟨H0,[],[]⟩ H []/\yQ f0 t1 v5 i6=some r) ?_ ⟨(0:Int),(0:Int),aZ,hO,h0⟩;clear hO h0;rintro T H ⟨v5,i6,hT,hO,h0⟩;refine bC hT ?_;clear hT;unfold yQ at h0;obtain⟨rr0,hl0,h0⟩:=aW h0;refine fD (fun (s:Int×Int) T H=>Has T [(0,(eL aO f0)),(1,(eI t1)),(5,(eI s.1)),(6,(eI s.2))]/\aJ ⟨H0,[],[]⟩ H []) hl0 ⟨aZ,hO⟩ ?_;clear hO;rintro k0 s out1 T H ⟨hT,hO⟩ h1 ho0;obtain⟨v5,i6⟩:=s;replace h1:kX f0 t1 v5 i6=some out1:=h1
 try dsimp only at hT
 refine bC hT ?_;clear hT;unfold kX at h1;refine aM ?_;refine aV aB 4 [] [(10,(aC (decide (i6<(lN f0)))))] ?_;refine bH h1 (fun h1=>?_) (fun h1=>?_)
 ·refine bI ?_;refine bD [(0,(eL aO f0)),(1,(eI t1)),(5,(eI v5)),(6,(eI i6))] ?_;refine dN (fun T H=>∃ v5:Int,Has T [(0,(eL aO f0)),(1,(eI t1)),(5,(eI v5)),(6,(eI i6))]/\aJ ⟨H0,[],[]⟩ H []/\qS f0 t1 v5 i6=some out1) ?_ ?_
  ·clear hO h1;rintro T H ⟨v5,hT,hO,h1⟩;refine bC hT ?_;clear hT;unfold qS at h1;refine aS aB 3 ?_;refine bB ?_;exact aF (aE (⟨rfl,_,(oI h1).symm,aZ,hO⟩))
  refine bT 1 ?_;refine aM ?_;refine aS aB 7 ?_;obtain⟨c2,h1⟩:=bA h1;refine mU [0<=i6/\i6<(lN f0)] ⟨c2,trivial⟩ ?_;refine bN [] [(19,(aC (decide (((gD f0 i6).At)<=t1))))] ?_;refine bH h1 (fun h1=>?_) (fun h1=>?_)
  ·refine aS aB 8 ?_;obtain⟨c4,h1⟩:=bA h1;refine mU [0<=i6/\i6<(lN f0)] ⟨c4,trivial⟩ ?_;exact aF (aU (aE (⟨rfl,_,aZ,hO,h1⟩)))
  refine bI ?_;exact aF (aU (aE (⟨rfl,_,aZ,hO,h1⟩)))
 refine eH 0 ?_;obtain rfl:=oI h1;obtain rfl:_=rr0:=ho0;replace h0:tR v5=some r:=h0;exact aF (aX (aX (bP (aE (⟨rfl,_,aZ,hO,h0⟩)))))

theorem WQ (f0:(List aI))(r:Int)(h0:vS f0=some r):cU Tryz.prog 83 [(eL aO f0)] (eI r):=by
 intro H0;refine cQ Tryz.func83 ?_;have hO:=aJ.start H0;unfold vS at h0;refine aV aB 1 [] [] ?_;refine aM ?_;refine aM ?_;refine aS aB 3 ?_;refine bJ 1 ?_;obtain⟨x1,hx2,h0⟩:=aW h0;refine cN (NQ f0 _ hx2) hO ?_;intro H hO;refine bB ?_;refine bN [] [(7,(aC (!x1)))] ?_;refine bH h0 (fun h0=>?_) (fun h0=>?_)
 ·refine bM aB 1 [(2,(eI 0))] ?_;refine bG ?_;obtain rfl:=oI h0;exact aF (aQ (Q_r hO))
 refine bI ?_;refine bD [(0,(eL aO f0))] ?_;refine aM ?_;refine aS aB 3 ?_;refine bJ 1 ?_;obtain⟨x5,hx6,h0⟩:=aW h0;refine cN (DU f0 (-1:Int) _ hx6) hO ?_;intro H hO;refine bB ?_;refine bN [] [(3,(eI x5))] ?_;refine dN (fun T H=>∃ m3:Int,Has T [(3,(eI m3))]/\aJ ⟨H0,[],[]⟩ H []/\tY m3=some r) ?_ ?_
 ·clear hO h0;rintro T H ⟨m3,hT,hO,h0⟩;refine bC hT ?_;clear hT;unfold tY at h0;refine bM aB 2 [(2,(eI m3))] ?_;refine bG ?_;obtain rfl:=oI h0;exact aF (Q_r hO)
 refine aV aB 1 [] [(4,(eI 0))] ?_;refine bT 0 ?_;refine dZ [(0,(eL aO f0)),(3,(eI x5)),(4,(eI 0))] ?_;refine dR (fun T H=>∃ m3:Int,∃ i4:Int,Has T [(0,(eL aO f0)),(3,(eI m3)),(4,(eI i4))]/\aJ ⟨H0,[],[]⟩ H []/\yS f0 m3 i4=some r) ?_ ⟨x5,(0:Int),aZ,hO,h0⟩;clear hO h0;rintro T H ⟨m3,i4,hT,hO,h0⟩;refine bC hT ?_;clear hT;unfold yS at h0;obtain⟨rr0,hl0,h0⟩:=aW h0;refine fD (fun (s:Int×Int) T H=>Has T [(0,(eL aO f0)),(3,(eI s.1)),(4,(eI s.2))]/\aJ ⟨H0,[],[]⟩ H []) hl0 ⟨aZ,hO⟩ ?_;clear hO;rintro k0 s out1 T H ⟨hT,hO⟩ h1 ho0;obtain⟨m3,i4⟩:=s;replace h1:nF f0 m3 i4=some out1:=h1
 try dsimp only at hT
 refine bC hT ?_;clear hT;unfold nF at h1;refine aM ?_;refine aV aB 4 [] [(13,(aC (decide (i4<(lN f0)))))] ?_;refine bH h1 (fun h1=>?_) (fun h1=>?_)
 ·refine bI ?_;refine bD [(0,(eL aO f0)),(3,(eI m3)),(4,(eI i4))] ?_;refine dN (fun T H=>∃ m3:Int,Has T [(0,(eL aO f0)),(3,(eI m3)),(4,(eI i4))]/\aJ ⟨H0,[],[]⟩ H []/\tT f0 m3 i4=some out1) ?_ ?_
  ·clear hO h1;rintro T H ⟨m3,hT,hO,h1⟩;refine bC hT ?_;clear hT;unfold tT at h1;refine aS aB 3 ?_;refine bB ?_;exact aF (aE (⟨rfl,_,(oI h1).symm,aZ,hO⟩))
  refine bT 1 ?_;refine aM ?_;refine aS aB 9 ?_;obtain⟨c9,h1⟩:=bA h1;refine mM 6 [0<=i4/\i4<(lN f0)] ⟨c9,trivial⟩ ?_;obtain⟨x10,hx11,h1⟩:=aW h1;refine cN (DU f0 ((gD f0 i4).At) _ hx11) hO ?_;intro H hO;refine bB ?_;refine bN [] [(24,(aC (decide (x10<m3))))] ?_;refine bH h1 (fun h1=>?_) (fun h1=>?_)
  ·refine aS aB 8 ?_;obtain⟨c14,h1⟩:=bA h1;refine mM 6 [0<=i4/\i4<(lN f0)] ⟨c14,trivial⟩ ?_;obtain⟨x15,hx16,h1⟩:=aW h1;refine cN (DU f0 ((gD f0 i4).At) _ hx16) hO ?_;intro H hO;refine bB ?_;exact aF (aU (aE (⟨rfl,_,aZ,hO,h1⟩)))
  refine bI ?_;exact aF (aU (aE (⟨rfl,_,aZ,hO,h1⟩)))
 refine eH 0 ?_;obtain rfl:=oI h1;obtain rfl:_=rr0:=ho0;replace h0:tY m3=some r:=h0;exact aF (aX (aX (bP (aE (⟨rfl,_,aZ,hO,h0⟩)))))

theorem KH (l0:(List aK))(r:Bool)(h0:rX l0=some r):cU Tryz.prog 47 [(eL aH l0)] (aC r):=by
 intro H0;refine cQ Tryz.func47 ?_;have hO:=aJ.start H0;unfold rX at h0;refine aV aB 1 [] [] ?_;refine aM ?_;refine aM ?_;refine aS aB 3 ?_;refine bJ 1 ?_;obtain⟨x1,hx2,h0⟩:=aW h0;refine cN (HT l0 _ hx2) hO ?_;intro H hO;refine bB ?_;refine bN [] [(7,(aC (!x1)))] ?_;refine bH h0 (fun h0=>?_) (fun h0=>?_)
 ·refine bM aB 1 [(2,(aC false))] ?_;refine bG ?_;obtain rfl:=oI h0;exact aF (aQ (Q_r hO))
 refine bI ?_;refine bD [(0,(eL aH l0))] ?_;refine aM ?_;refine aS aB 3 ?_;refine bJ 1 ?_;obtain⟨x5,hx6,h0⟩:=aW h0;refine cN (LN l0 _ hx6) hO ?_;intro H hO;refine bB ?_;refine bN [] [(3,(eL (eL aD) x5))] ?_;refine dN (fun T H=>Has T []/\aJ ⟨H0,[],[]⟩ H []/\yY  = some r) ?_ ?_
 ·clear hO h0;rintro T H ⟨hT,hO,h0⟩;refine bC hT ?_;clear hT;unfold yY at h0;refine bM aB 1 [(2,(aC true))] ?_;refine bG ?_;obtain rfl:=oI h0;exact aF (Q_r hO)
 refine aV aB 1 [] [(4,(eI 0))] ?_;refine bT 0 ?_;refine dZ [(0,(eL aH l0)),(3,(eL (eL aD) x5)),(4,(eI 0))] ?_;refine dR (fun T H=>∃ bQ:(List (List aG)),∃ i4:Int,Has T [(0,(eL aH l0)),(3,(eL (eL aD) bQ)),(4,(eI i4))]/\aJ ⟨H0,[],[]⟩ H []/\yN l0 bQ i4=some r) ?_ ⟨x5,(0:Int),aZ,hO,h0⟩;clear hO h0;rintro T H ⟨bQ,i4,hT,hO,h0⟩;refine bC hT ?_;clear hT;unfold yN at h0;obtain⟨rr0,hl0,h0⟩:=aW h0;refine fD (fun (s:Int) T H=>Has T [(0,(eL aH l0)),(3,(eL (eL aD) bQ)),(4,(eI s))]/\aJ ⟨H0,[],[]⟩ H []) hl0 ⟨aZ,hO⟩ ?_;clear hO;rintro k0 s out1 T H ⟨hT,hO⟩ h1 ho0;obtain⟨i4,rfl⟩:∃ x,x=s:=⟨_,rfl⟩;replace h1:oW l0 bQ i4=some out1:=h1;refine bC hT ?_;clear hT;unfold oW at h1;refine aM ?_;refine aV aB 4 [] [(13,(aC (decide (i4<(lN bQ)))))] ?_;refine bH h1 (fun h1=>?_) (fun h1=>?_)
 ·refine bI ?_;refine bD [(0,(eL aH l0)),(3,(eL (eL aD) bQ)),(4,(eI i4))] ?_;refine aM ?_;refine bT 1 ?_;refine aM ?_;refine aS aB 8 ?_;obtain⟨c9,h1⟩:=bA h1;refine mM 5 [0<=i4/\i4<(lN bQ)] ⟨c9,trivial⟩ ?_;obtain⟨x10,hx11,h1⟩:=aW h1;refine cN (JZ l0 (gD bQ i4) _ hx11) hO ?_;intro H hO;obtain⟨x13,hx14,h1⟩:=aW h1;refine cN (WQ x10 _ hx14) hO ?_;intro H hO;refine bB ?_;refine bN [] [(23,(aC (decide (x13<(0:Int)))))] ?_;refine bH h1 (fun h1=>?_) (fun h1=>?_)
  ·refine bM aB 1 [(2,(aC false))] ?_;refine bG ?_;obtain rfl:=oI h1;obtain rfl:_=rr0:=ho0;replace h0:some false=some r:=h0;obtain rfl:=oI h0;exact aF (bF (aQ (aQ (bF (aQ (Q_r hO))))))
  refine bI ?_;refine dO [(0,(eL aH l0)),(3,(eL (eL aD) bQ)),(4,(eI i4))] ?_;refine aF (aU (aE (?_)));refine aS aB 3 ?_;refine bB ?_;exact aF (aE (⟨rfl,_,(oI h1).symm,aZ,hO⟩))
 refine eH 0 ?_;obtain rfl:=oI h1;obtain rfl:_=rr0:=ho0;replace h0:yY  = some r:=h0;exact aF (aX (aX (bP (aE (⟨rfl,aZ,hO,h0⟩)))))

theorem EZ (t0:Int)(r:Bool)(h0:pK t0=some r):cU Tryz.prog 48 [(eI t0)] (aC r):=by
 intro H0;refine cQ Tryz.func48 ?_;have hO:=aJ.start H0;unfold pK at h0;refine aV aB 1 [] [] ?_;refine bM aB 7 [(2,(aC ((decide ((0:Int)<=t0))&&(decide (t0<=(1125899906842624:Int))))))] ?_;refine bG ?_;obtain rfl:=oI h0;exact aF (Q_r hO)

theorem WL (w0:bW)(l1:(List aK))(t2:Int)(r:Int)(h0:wA w0 l1 t2=some r):cU Tryz.prog 21 [(cA w0),(eL aH l1),(eI t2)] (eI r):=by
 intro H0;refine cQ Tryz.func21 ?_;have hO:=aJ.start H0;unfold wA at h0;refine aM ?_;refine aS aB 2 ?_;refine kJ 3 (cA w0) ?_;refine bB ?_;refine bN [0] [(3,(.rp (cA w0)))] ?_;refine aM ?_;refine aM ?_;refine aS aB 8 ?_;refine bJ 1 ?_;obtain⟨x1,hx2,h0⟩:=aW h0;refine cN (NR w0 _ hx2) hO ?_;intro H hO;refine bJ 5 ?_;obtain⟨x4,hx5,h0⟩:=aW h0;refine mG [(10,false)] 46 [(eL aH l1)] (aC x4) (!(!x1)) (by kernel_rfl) (by kernel_rfl) (by kernel_rfl) (fun hb6=>(HT l1 _ (gV hx5 hb6))) hO ?_;intro H hO;refine bB ?_;refine bN [3] [(14,(aC ((!x1)||(!x4))))] ?_;refine bH h0 (fun h0=>?_) (fun h0=>?_)
 ·refine bM aB 1 [(6,(eI 2))] ?_;refine bG ?_;obtain rfl:=oI h0;exact aF (aQ (Q_r hO))
 refine bI ?_;refine bD [(1,(eL aH l1)),(2,(eI t2))] ?_;refine aM ?_;refine aM ?_;refine aS aB 3 ?_;refine bJ 1 ?_;obtain⟨x8,hx9,h0⟩:=aW h0;refine cN (KH l1 _ hx9) hO ?_;intro H hO;refine bB ?_;refine bN [1] [(17,(aC (!x8)))] ?_;refine bH h0 (fun h0=>?_) (fun h0=>?_)
 ·refine bM aB 1 [(6,(eI 20))] ?_;refine bG ?_;obtain rfl:=oI h0;exact aF (aQ (Q_r hO))
 refine bI ?_;refine bD [(2,(eI t2))] ?_;refine aM ?_;refine aM ?_;refine aS aB 3 ?_;refine bJ 1 ?_;obtain⟨x12,hx13,h0⟩:=aW h0;refine cN (EZ t2 _ hx13) hO ?_;intro H hO;refine bB ?_;refine bD [(20,(aC (!x12)))] ?_;refine bH h0 (fun h0=>?_) (fun h0=>?_)
 ·refine bM aB 1 [(6,(eI 13))] ?_;refine bG ?_;obtain rfl:=oI h0;exact aF (aQ (Q_r hO))
 refine bI ?_;refine bD [] ?_;refine bM aB 1 [(6,(eI 0))] ?_;refine bG ?_;obtain rfl:=oI h0;exact aF (Q_r hO)

theorem JX (l0:(List aK))(n1:Int)(r:Int)(h0:sH l0 n1=some r):cU Tryz.prog 49 [(eL aH l0),(eI n1)] (eI r):=by
 intro H0;refine cQ Tryz.func49 ?_;have hO:=aJ.start H0;unfold sH at h0;refine aV aB 1 [] [] ?_;refine aM ?_;refine aM ?_;refine aS aB 11 ?_;refine bJ 1 ?_;obtain⟨x1,hx2,h0⟩:=aW h0;refine cN (HT l0 _ hx2) hO ?_;intro H hO;refine bB ?_;refine bN [1] [(15,(aC (((!x1)||(decide (n1<(1:Int))))||(decide ((64:Int)<n1)))))] ?_;refine bH h0 (fun h0=>?_) (fun h0=>?_)
 ·refine bM aB 1 [(4,(eI 2))] ?_;refine bG ?_;obtain rfl:=oI h0;exact aF (aQ (Q_r hO))
 refine bI ?_;refine bD [(0,(eL aH l0))] ?_;refine aM ?_;refine aM ?_;refine aS aB 3 ?_;refine bJ 1 ?_;obtain⟨x5,hx6,h0⟩:=aW h0;refine cN (KH l0 _ hx6) hO ?_;intro H hO;refine bB ?_;refine bD [(18,(aC (!x5)))] ?_;refine bH h0 (fun h0=>?_) (fun h0=>?_)
 ·refine bM aB 1 [(4,(eI 20))] ?_;refine bG ?_;obtain rfl:=oI h0;exact aF (aQ (Q_r hO))
 refine bI ?_;refine bD [] ?_;refine bM aB 1 [(4,(eI 0))] ?_;refine bG ?_;obtain rfl:=oI h0;exact aF (Q_r hO)

theorem XW (l0:(List Int))(t1:Int)(r:(List Int))(h0:xL l0 t1=some r):cU Tryz.prog 66 [(eL (eI) l0),(eI t1)] (eL (eI) r):=by
 intro H0;refine cQ Tryz.func66 ?_;have hO:=aJ.start H0;unfold xL at h0;refine aV aB 1 [] [] ?_;refine aM ?_;refine aS aB 2 ?_;refine nU [] 1 ?_;refine bB ?_;refine bN [] [(5,(.sl true 0 (fun _=>.bad)))] ?_;refine aV aB 1 [] [(6,(aC false))] ?_;refine dN (fun T H=>∃ out5:List Int,∃ put6:Bool,∃ lo1:Nat,Has T [(1,(eI t1)),(5,(.msl 1 lo1 0 (List.length out5))),(6,(aC put6))]/\aJ ⟨H0,[],[]⟩ H [(lo1,1,List.map (eI) out5)]/\sC t1 out5 put6=some r) ?_ ?_
 ·clear hO h0;rintro T H ⟨out5,put6,lo1,hT,hO,h0⟩;refine bC hT ?_;clear hT;unfold sC at h0;refine dN (fun T H=>∃ out5:List Int,∃ lo2:Nat,Has T [(5,(.msl 1 lo2 0 (List.length out5)))]/\aJ ⟨H0,[],[]⟩ H [(lo2,1,List.map (eI) out5)]/\sG out5=some r) ?_ ?_
  ·clear hO h0;rintro T H ⟨out5,lo2,hT,hO,h0⟩;refine bC hT ?_;clear hT;unfold sG at h0;refine bM aB 2 [(4,(.msl 1 lo2 0 (List.length out5)))] ?_;refine bG ?_;refine dO [(4,(.msl 1 lo2 0 (List.length out5)))] ?_;refine qR (en:=(eI)) out5 0 0 4 1 lo2 (List.length out5) hO (by kernel_rfl) (by kernel_rfl) (by kernel_rfl) (L':=[]) (by kernel_rfl) ?_;intro H3 hO;obtain rfl:=oI h0;exact aF (Q_r hO)
  refine aV aB 2 [6] [(44,(aC (!put6)))] ?_;refine bH h0 (fun h0=>?_) (fun h0=>?_)
  ·refine aS aB 5 ?_;refine bJ 2 ?_;refine nU [(eI t1)] 1 ?_;obtain⟨c6,h0⟩:=bA h0;refine AO (eI) out5 ([t1]) 0 lo1 1 8 (eD [(eI t1)]) (fun lo5=>[(lo5,1,List.map (eI) (out5++([t1])))]) hO (by kernel_rfl) c6 ?_;intro lo5 H hO;refine bB ?_;exact aF (aE (⟨rfl,_,_,aZ,hO,h0⟩))
  refine bI ?_;exact aF (aE (⟨rfl,_,_,aZ,hO,h0⟩))
 refine aV aB 1 [] [(7,(eI 0))] ?_;refine bT 0 ?_;refine dZ [(0,(eL (eI) l0)),(1,(eI t1)),(5,(.sl true 0 (fun _=>.bad))),(6,(aC false)),(7,(eI 0))] ?_;refine DM (el:=(fun _=>.bad)) 2 5 1 hO (by kernel_rfl) ?_;intro lo20 H21 hO;refine dR (fun T H=>∃ out5:List Int,∃ put6:Bool,∃ i7:Int,∃ lo8:Nat,Has T [(0,(eL (eI) l0)),(1,(eI t1)),(5,(.msl 1 lo8 0 (List.length out5))),(6,(aC put6)),(7,(eI i7))]/\aJ ⟨H0,[],[]⟩ H [(lo8,1,List.map (eI) out5)]/\AI l0 t1 out5 put6 i7=some r) ?_ ⟨([]:List Int),false,(0:Int),lo20,aZ,hO,h0⟩;clear hO h0;rintro T H ⟨out5,put6,i7,lo8,hT,hO,h0⟩;refine bC hT ?_;clear hT;unfold AI at h0;obtain⟨rr0,hl0,h0⟩:=aW h0;refine fD (fun (s:List Int×Bool×Int) T H=>∃ lo8:Nat,Has T [(0,(eL (eI) l0)),(1,(eI t1)),(5,(.msl 1 lo8 0 (List.length s.1))),(6,(aC s.2.1)),(7,(eI s.2.2))]/\aJ ⟨H0,[],[]⟩ H [(lo8,1,List.map (eI) s.1)]) hl0 ⟨lo8,aZ,hO⟩ ?_;clear hO;rintro k0 s out1 T H ⟨lo8,hT,hO⟩ h1 ho0;obtain⟨out5,put6,i7⟩:=s;replace h1:kF l0 t1 out5 put6 i7=some out1:=h1
 try dsimp only at hT
 refine bC hT ?_;clear hT;unfold kF at h1;refine aM ?_;refine aV aB 4 [] [(12,(aC (decide (i7<(lN l0)))))] ?_;refine bH h1 (fun h1=>?_) (fun h1=>?_)
 ·refine bI ?_;refine bD [(0,(eL (eI) l0)),(1,(eI t1)),(5,(.msl 1 lo8 0 (List.length out5))),(6,(aC put6)),(7,(eI i7))] ?_;refine aM ?_;refine bT 1 ?_;refine aM ?_;refine aM ?_;refine aS aB 6 ?_;obtain⟨c10,h1⟩:=bA h1;refine mU [0<=i7/\i7<(lN l0)] ⟨c10,trivial⟩ ?_;refine bN [] [(20,(aC (decide ((gD l0 i7)=t1))))] ?_;refine bH h1 (fun h1=>?_) (fun h1=>?_)
  ·refine aM ?_;refine aS aB 2 ?_;refine bB ?_;refine dO [(4,(eL (eI) l0))] ?_;replace hO:=hO.pick (L':=[]) [] (by decide) (by kernel_rfl);refine aF (aE (?_));refine bG ?_;obtain rfl:=oI h1;obtain rfl:_=rr0:=ho0;replace h0:some l0=some r:=h0;obtain rfl:=oI h0;exact aF (aQ (bF (aQ (aQ (bF (aQ (Q_r hO)))))))
  refine bI ?_;refine bD [(0,(eL (eI) l0)),(1,(eI t1)),(5,(.msl 1 lo8 0 (List.length out5))),(6,(aC put6)),(7,(eI i7))] ?_;refine dN (fun T H=>∃ out5:List Int,∃ put6:Bool,∃ lo12:Nat,Has T [(0,(eL (eI) l0)),(1,(eI t1)),(5,(.msl 1 lo12 0 (List.length out5))),(6,(aC put6)),(7,(eI i7))]/\aJ ⟨H0,[],[]⟩ H [(lo12,1,List.map (eI) out5)]/\vX l0 t1 out5 put6 i7=some out1) ?_ ?_
  ·clear hO h1;rintro T H ⟨out5,put6,lo12,hT,hO,h1⟩;refine bC hT ?_;clear hT;unfold vX at h1;refine aS aB 8 ?_;obtain⟨c13,h1⟩:=bA h1;refine mM 5 [0<=i7/\i7<(lN l0)] ⟨c13,trivial⟩ ?_;refine nU [(eI (gD l0 i7))] 1 ?_;obtain⟨c15,h1⟩:=bA h1;refine AO (eI) out5 ([gD l0 i7]) 0 lo12 1 8 (eD [(eI (gD l0 i7))]) (fun lo14=>[(lo14,1,List.map (eI) (out5++([gD l0 i7])))]) hO (by kernel_rfl) c15 ?_;intro lo14 H hO;refine bB ?_;refine dO [(0,(eL (eI) l0)),(1,(eI t1)),(5,(.msl 1 lo14 0 (List.length (out5++([gD l0 i7]))))),(6,(aC put6)),(7,(eI i7))] ?_;refine aF (aU (aE (?_)));refine aS aB 3 ?_;refine bB ?_;exact aF (aE (⟨rfl,_,(oI h1).symm,_,aZ,hO⟩))
  refine aM ?_;refine aS aB 10 ?_;obtain⟨c16,h1⟩:=bA h1;refine mU [0<=i7/\i7<(lN l0)] ⟨c16,trivial⟩ ?_;refine bN [] [(31,(aC ((decide (t1<(gD l0 i7)))&&(!put6))))] ?_;refine bH h1 (fun h1=>?_) (fun h1=>?_)
  ·refine aM ?_;refine aS aB 5 ?_;refine bJ 2 ?_;refine nU [(eI t1)] 1 ?_;obtain⟨c19,h1⟩:=bA h1;refine AO (eI) out5 ([t1]) 0 lo8 1 8 (eD [(eI t1)]) (fun lo18=>[(lo18,1,List.map (eI) (out5++([t1])))]) hO (by kernel_rfl) c19 ?_;intro lo18 H hO;refine bB ?_;refine bN [5,6,31] [(5,(.msl 1 lo18 0 (List.length (out5++([t1])))))] ?_;refine aS aB 1 ?_;refine bB ?_;exact aF (aE (⟨rfl,_,_,_,aZ,hO,h1⟩))
  refine bI ?_;exact aF (aE (⟨rfl,_,_,_,aZ,hO,h1⟩))
 refine eH 0 ?_;obtain rfl:=oI h1;obtain rfl:_=rr0:=ho0;replace h0:sC t1 out5 put6=some r:=h0;exact aF (aX (aX (bP (aE (⟨rfl,_,_,_,aZ,hO,h0⟩)))))

theorem TM (l0:(List aK))(r:((List Int)×Int))(h0:uC l0=some r):cU Tryz.prog 50 [(eL aH l0)] (.tup [(eL (eI) r.1),(eI r.2)]):=by
 intro H0;refine cQ Tryz.func50 ?_;have hO:=aJ.start H0;unfold uC at h0;refine aV aB 2 [] [] ?_;refine aM ?_;refine aM ?_;refine aS aB 3 ?_;refine bJ 1 ?_;obtain⟨x1,hx2,h0⟩:=aW h0;refine cN (JX l0 (1:Int) _ hx2) hO ?_;intro H hO;refine bB ?_;refine bN [] [(4,(eI x1))] ?_;refine aV aB 2 [] [(10,(aC (!decide (x1=(0:Int)))))] ?_;refine bH h0 (fun h0=>?_) (fun h0=>?_)
 ·refine bM aB 3 [(2,(.sl true 0 (fun _=>.bad))),(3,(eI x1))] ?_;refine bG ?_;refine dL (l:=[(2,(eL (eI) ([]))),(3,(eI x1))]) ⟨[(2,(.sl true 0 (fun _=>.bad))),(3,(eI x1))],by kernel_rfl,rfl,⟨gQ,aR.refl _,trivial⟩⟩ ?_;obtain rfl:=oI h0;exact aF (aQ (Q_r hO))
 refine bI ?_;refine bD [(0,(eL aH l0))] ?_;refine aM ?_;refine aS aB 2 ?_;refine nU [] 1 ?_;refine bB ?_;refine bN [] [(5,(.sl true 0 (fun _=>.bad)))] ?_;refine dN (fun T H=>∃ out5:(List Int),Has T [(5,(eL (eI) out5))]/\aJ ⟨H0,[],[]⟩ H []/\xI out5=some r) ?_ ?_
 ·clear hO h0;rintro T H ⟨out5,hT,hO,h0⟩;refine bC hT ?_;clear hT;unfold xI at h0;refine bM aB 3 [(2,(eL (eI) out5)),(3,(eI 0))] ?_;refine bG ?_;obtain rfl:=oI h0;exact aF (Q_r hO)
 refine aV aB 1 [] [(6,(eI 0))] ?_;refine bT 0 ?_;refine bC (l:=[(0,(eL aH l0)),(5,(eL (eI) ([]))),(6,(eI 0))]) ⟨[(0,(eL aH l0)),(5,(.sl true 0 (fun _=>.bad))),(6,(eI 0))],by kernel_rfl,rfl,⟨aR.refl _,gQ,aR.refl _,trivial⟩⟩ ?_;refine dR (fun T H=>∃ out5:(List Int),∃ i6:Int,Has T [(0,(eL aH l0)),(5,(eL (eI) out5)),(6,(eI i6))]/\aJ ⟨H0,[],[]⟩ H []/\wZ l0 out5 i6=some r) ?_ ⟨[],(0:Int),aZ,hO,h0⟩;clear hO h0;rintro T H ⟨out5,i6,hT,hO,h0⟩;refine bC hT ?_;clear hT;unfold wZ at h0;obtain⟨rr0,hl0,h0⟩:=aW h0;refine fD (fun (s:(List Int)×Int) T H=>Has T [(0,(eL aH l0)),(5,(eL (eI) s.1)),(6,(eI s.2))]/\aJ ⟨H0,[],[]⟩ H []) hl0 ⟨aZ,hO⟩ ?_;clear hO;rintro k0 s out1 T H ⟨hT,hO⟩ h1 ho0;obtain⟨out5,i6⟩:=s;replace h1:mO l0 out5 i6=some out1:=h1
 try dsimp only at hT
 refine bC hT ?_;clear hT;unfold mO at h1;refine aM ?_;refine aV aB 4 [] [(16,(aC (decide (i6<(lN l0)))))] ?_;refine bH h1 (fun h1=>?_) (fun h1=>?_)
 ·refine bI ?_;refine bD [(0,(eL aH l0)),(5,(eL (eI) out5)),(6,(eI i6))] ?_;refine dN (fun T H=>∃ out5:(List Int),Has T [(0,(eL aH l0)),(5,(eL (eI) out5)),(6,(eI i6))]/\aJ ⟨H0,[],[]⟩ H []/\pX l0 out5 i6=some out1) ?_ ?_
  ·clear hO h1;rintro T H ⟨out5,hT,hO,h1⟩;refine bC hT ?_;clear hT;unfold pX at h1;refine aS aB 3 ?_;refine bB ?_;exact aF (aE (⟨rfl,_,(oI h1).symm,aZ,hO⟩))
  refine bT 1 ?_;refine aM ?_;refine aS aB 14 ?_;obtain⟨c7,h1⟩:=bA h1;obtain⟨c8,h1⟩:=bA h1;refine mU [0<=i6/\i6<(lN l0),(((decide ((0:Int)<((gD l0 i6).Net))))=true->0<=i6/\i6<(lN l0))] ⟨c7,c8,trivial⟩ ?_;refine bN [] [(32,(aC ((decide ((0:Int)<((gD l0 i6).Net)))&&(decide ((0:Int)<=((gD l0 i6).At))))))] ?_;refine bH h1 (fun h1=>?_) (fun h1=>?_)
  ·refine aS aB 8 ?_;obtain⟨c10,h1⟩:=bA h1;refine mM 6 [0<=i6/\i6<(lN l0)] ⟨c10,trivial⟩ ?_;obtain⟨x11,hx12,h1⟩:=aW h1;refine cN (XW out5 ((gD l0 i6).At) _ hx12) hO ?_;intro H hO;refine bB ?_;exact aF (aU (aE (⟨rfl,_,aZ,hO,h1⟩)))
  refine bI ?_;exact aF (aU (aE (⟨rfl,_,aZ,hO,h1⟩)))
 refine eH 0 ?_;obtain rfl:=oI h1;obtain rfl:_=rr0:=ho0;replace h0:xI out5=some r:=h0;exact aF (aX (aX (bP (aE (⟨rfl,_,aZ,hO,h0⟩)))))

theorem aAb (l0:(List aK))(n1:Int)(t2:Int)(r:(Int×Int))(h0:xQ l0 n1 t2=some r):cU Tryz.prog 22 [(eL aH l0),(eI n1),(eI t2)] (.tup [(eI r.1),(eI r.2)]):=by
 intro H0;refine cQ Tryz.func22 ?_;have hO:=aJ.start H0;unfold xQ at h0;refine aV aB 2 [] [] ?_;refine aM ?_;refine aM ?_;refine aS aB 4 ?_;refine bJ 2 ?_;obtain⟨x1,hx2,h0⟩:=aW h0;refine cN (JX l0 n1 _ hx2) hO ?_;intro H hO;refine bB ?_;refine bN [] [(8,(eI x1))] ?_;refine aV aB 2 [] [(17,(aC (!decide (x1=(0:Int)))))] ?_;refine bH h0 (fun h0=>?_) (fun h0=>?_)
 ·refine bM aB 3 [(6,(eI 0)),(7,(eI x1))] ?_;refine bG ?_;obtain rfl:=oI h0;exact aF (aQ (Q_r hO))
 refine bI ?_;refine bD [(0,(eL aH l0)),(1,(eI n1)),(2,(eI t2))] ?_;refine aM ?_;refine aM ?_;refine aS aB 3 ?_;refine bJ 1 ?_;obtain⟨x5,hx6,h0⟩:=aW h0;refine cN (EZ t2 _ hx6) hO ?_;intro H hO;refine bB ?_;refine bN [] [(21,(aC (!x5)))] ?_;refine bH h0 (fun h0=>?_) (fun h0=>?_)
 ·refine bM aB 2 [(6,(eI 0)),(7,(eI 13))] ?_;refine bG ?_;obtain rfl:=oI h0;exact aF (aQ (Q_r hO))
 refine bI ?_;refine bD [(0,(eL aH l0)),(1,(eI n1)),(2,(eI t2))] ?_;refine aM ?_;refine aS aB 7 ?_;refine bJ 1 ?_;obtain⟨x9,hx10,h0⟩:=aW h0;refine cN (TM l0 _ hx10) hO ?_;intro H hO;refine bB ?_;refine bN [0] [(9,(eL (eI) x9.1))] ?_;refine aM ?_;refine aS aB 2 ?_;refine nU [] 1 ?_;refine bB ?_;refine bN [] [(11,(.sl true 0 (fun _=>.bad)))] ?_;refine dN (fun T H=>∃ dD:List Int,∃ lo12:Nat,Has T [(1,(eI n1)),(2,(eI t2)),(11,(.msl 1 lo12 0 (List.length dD)))]/\aJ ⟨H0,[],[]⟩ H [(lo12,1,List.map (eI) dD)]/\wC n1 t2 dD=some r) ?_ ?_
 ·clear hO h0;rintro T H ⟨dD,lo12,hT,hO,h0⟩;refine bC hT ?_;clear hT;unfold wC at h0;refine aM ?_;refine aV aB 11 [] [(57,(aC (((decide (t2=(1125899906842624:Int)))||(decide ((lN dD)=(0:Int))))||(decide (n1=(1:Int))))))] ?_;refine bH h0 (fun h0=>?_) (fun h0=>?_)
  ·refine aM ?_;refine aS aB 3 ?_;refine bB ?_;refine dO [(6,(eI t2)),(7,(eI 0))] ?_;replace hO:=hO.pick (L':=[]) [] (by decide) (by kernel_rfl);refine aF (aE (?_));refine bG ?_;obtain rfl:=oI h0;exact aF (aQ (Q_r hO))
  refine bI ?_;refine bD [(1,(eI n1)),(11,(.msl 1 lo12 0 (List.length dD)))] ?_;refine aM ?_;refine aV aB 5 [] [(63,(aC (decide ((wR (n1-(1:Int)))<=(lN dD)))))] ?_;refine bH h0 (fun h0=>?_) (fun h0=>?_)
  ·refine aM ?_;refine aS aB 10 ?_;obtain⟨c15,h0⟩:=bA h0;refine mM 7 [0<=(wR ((lN dD)-(wR (n1-(1:Int)))))/\(wR ((lN dD)-(wR (n1-(1:Int)))))<(lN dD)] ⟨c15,trivial⟩ ?_;refine jY 0 lo12 1 (0+Int.toNat (wR ((lN dD)-(wR (n1-(1:Int)))))) (eI (gD dD (wR ((lN dD)-(wR (n1-(1:Int))))))) (eI (gD dD (wR ((lN dD)-(wR (n1-(1:Int))))))) (List.map (eI) dD) hO (cB c15) ?_;refine bB ?_;refine dO [(6,(eI (gD dD (wR ((lN dD)-(wR (n1-(1:Int)))))))),(7,(eI 0))] ?_;replace hO:=hO.pick (L':=[]) [] (by decide) (by kernel_rfl);refine aF (aE (?_));refine bG ?_;obtain rfl:=oI h0;exact aF (aQ (Q_r hO))
  refine bI ?_;refine bD [(11,(.msl 1 lo12 0 (List.length dD)))] ?_;refine aM ?_;refine aS aB 5 ?_;obtain⟨c16,h0⟩:=bA h0;refine mM 2 [0<=(0:Int)/\(0:Int)<(lN dD)] ⟨c16,trivial⟩ ?_;refine jY 0 lo12 1 (0+Int.toNat (0:Int)) (eI (gD dD (0:Int))) (eI (gD dD (0:Int))) (List.map (eI) dD) hO (cB c16) ?_;refine bB ?_;refine dO [(6,(eI (gD dD (0:Int)))),(7,(eI 0))] ?_;replace hO:=hO.pick (L':=[]) [] (by decide) (by kernel_rfl);refine aF (aE (?_));refine bG ?_;obtain rfl:=oI h0;exact aF (Q_r hO)
 refine aV aB 1 [] [(12,(eI 0))] ?_;refine bT 0 ?_;refine dZ [(1,(eI n1)),(2,(eI t2)),(9,(eL (eI) x9.1)),(11,(.sl true 0 (fun _=>.bad))),(12,(eI 0))] ?_;refine DM (el:=(fun _=>.bad)) 3 11 1 hO (by kernel_rfl) ?_;intro lo26 H27 hO;refine dR (fun T H=>∃ all9:(List Int),∃ dD:List Int,∃ i12:Int,∃ lo18:Nat,Has T [(1,(eI n1)),(2,(eI t2)),(9,(eL (eI) all9)),(11,(.msl 1 lo18 0 (List.length dD))),(12,(eI i12))]/\aJ ⟨H0,[],[]⟩ H [(lo18,1,List.map (eI) dD)]/\AJ n1 t2 all9 dD i12=some r) ?_ ⟨x9.1,([]:List Int),(0:Int),lo26,aZ,hO,h0⟩;clear hO h0;rintro T H ⟨all9,dD,i12,lo18,hT,hO,h0⟩;refine bC hT ?_;clear hT;unfold AJ at h0;obtain⟨rr0,hl0,h0⟩:=aW h0;refine fD (fun (s:List Int×Int) T H=>∃ lo18:Nat,Has T [(1,(eI n1)),(2,(eI t2)),(9,(eL (eI) all9)),(11,(.msl 1 lo18 0 (List.length s.1))),(12,(eI s.2))]/\aJ ⟨H0,[],[]⟩ H [(lo18,1,List.map (eI) s.1)]) hl0 ⟨lo18,aZ,hO⟩ ?_;clear hO;rintro k0 s out1 T H ⟨lo18,hT,hO⟩ h1 ho0;obtain⟨dD,i12⟩:=s;replace h1:oH n1 t2 all9 dD i12=some out1:=h1
 try dsimp only at hT
 refine bC hT ?_;clear hT;unfold oH at h1;refine aM ?_;refine aV aB 4 [] [(31,(aC (decide (i12<(lN all9)))))] ?_;refine bH h1 (fun h1=>?_) (fun h1=>?_)
 ·refine bI ?_;refine bD [(1,(eI n1)),(2,(eI t2)),(9,(eL (eI) all9)),(11,(.msl 1 lo18 0 (List.length dD))),(12,(eI i12))] ?_;refine dN (fun T H=>∃ dD:List Int,∃ lo20:Nat,Has T [(1,(eI n1)),(2,(eI t2)),(9,(eL (eI) all9)),(11,(.msl 1 lo20 0 (List.length dD))),(12,(eI i12))]/\aJ ⟨H0,[],[]⟩ H [(lo20,1,List.map (eI) dD)]/\rY n1 t2 all9 dD i12=some out1) ?_ ?_
  ·clear hO h1;rintro T H ⟨dD,lo20,hT,hO,h1⟩;refine bC hT ?_;clear hT;unfold rY at h1;refine aS aB 3 ?_;refine bB ?_;exact aF (aE (⟨rfl,_,(oI h1).symm,_,aZ,hO⟩))
  refine bT 1 ?_;refine aM ?_;refine aS aB 6 ?_;obtain⟨c21,h1⟩:=bA h1;refine mU [0<=i12/\i12<(lN all9)] ⟨c21,trivial⟩ ?_;refine bN [] [(39,(aC (decide ((gD all9 i12)<t2))))] ?_;refine bH h1 (fun h1=>?_) (fun h1=>?_)
  ·refine aS aB 8 ?_;obtain⟨c23,h1⟩:=bA h1;refine mM 5 [0<=i12/\i12<(lN all9)] ⟨c23,trivial⟩ ?_;refine nU [(eI (gD all9 i12))] 1 ?_;obtain⟨c25,h1⟩:=bA h1;refine AO (eI) dD ([gD all9 i12]) 0 lo18 1 8 (eD [(eI (gD all9 i12))]) (fun lo24=>[(lo24,1,List.map (eI) (dD++([gD all9 i12])))]) hO (by kernel_rfl) c25 ?_;intro lo24 H hO;refine bB ?_;exact aF (aU (aE (⟨rfl,_,_,aZ,hO,h1⟩)))
  refine bI ?_;exact aF (aU (aE (⟨rfl,_,_,aZ,hO,h1⟩)))
 refine eH 0 ?_;obtain rfl:=oI h1;obtain rfl:_=rr0:=ho0;replace h0:wC n1 t2 dD=some r:=h0;exact aF (aX (aX (bP (aE (⟨rfl,_,_,aZ,hO,h0⟩)))))

theorem aAW (dF:Int)(t1:Int)(r:Int)(h0:wQ dF t1=some r):cU Tryz.prog 51 [(eI dF),(eI t1)] (eI r):=by
 intro H0;refine cQ Tryz.func51 ?_;have hO:=aJ.start H0;unfold wQ at h0;refine aV aB 1 [] [] ?_;refine aM ?_;refine aV aB 4 [] [(8,(aC (decide ((1125899906842624:Int)<(wR (t1+dF))))))] ?_;refine bH h0 (fun h0=>?_) (fun h0=>?_)
 ·refine bM aB 1 [(4,(eI 1125899906842624))] ?_;refine bG ?_;obtain rfl:=oI h0;exact aF (aQ (Q_r hO))
 refine bI ?_;refine bD [(0,(eI dF)),(1,(eI t1))] ?_;refine bM aB 4 [(4,(eI (wR (t1+dF))))] ?_;refine bG ?_;obtain rfl:=oI h0;exact aF (Q_r hO)

theorem YS (dF:Int)(hop1:Int)(t2:Int)(r:(Int×Int))(h0:xS dF hop1 t2=some r):cU Tryz.prog 23 [(eI dF),(eI hop1),(eI t2)] (.tup [(eI r.1),(eI r.2)]):=by
 intro H0;refine cQ Tryz.func23 ?_;have hO:=aJ.start H0;unfold xS at h0;refine aV aB 2 [] [] ?_;refine aM ?_;refine aM ?_;refine aS aB 4 ?_;refine bJ 2 ?_;obtain⟨x1,hx2,h0⟩:=aW h0;refine cN (OH dF hop1 _ hx2) hO ?_;intro H hO;refine bB ?_;refine bN [] [(12,(aC (!x1)))] ?_;refine bH h0 (fun h0=>?_) (fun h0=>?_)
 ·refine bM aB 2 [(6,(eI 0)),(7,(eI 2))] ?_;refine bG ?_;obtain rfl:=oI h0;exact aF (aQ (Q_r hO))
 refine bI ?_;refine bD [(0,(eI dF)),(1,(eI hop1)),(2,(eI t2))] ?_;refine aM ?_;refine aM ?_;refine aS aB 3 ?_;refine bJ 1 ?_;obtain⟨x5,hx6,h0⟩:=aW h0;refine cN (EZ t2 _ hx6) hO ?_;intro H hO;refine bB ?_;refine bN [] [(15,(aC (!x5)))] ?_;refine bH h0 (fun h0=>?_) (fun h0=>?_)
 ·refine bM aB 2 [(6,(eI 0)),(7,(eI 13))] ?_;refine bG ?_;obtain rfl:=oI h0;exact aF (aQ (Q_r hO))
 refine bI ?_;refine bD [(0,(eI dF)),(1,(eI hop1)),(2,(eI t2))] ?_;refine aM ?_;refine aV aB 2 [] [(17,(aC (decide (t2=(1125899906842624:Int)))))] ?_;refine bH h0 (fun h0=>?_) (fun h0=>?_)
 ·refine bM aB 2 [(6,(eI 1125899906842624)),(7,(eI 0))] ?_;refine bG ?_;obtain rfl:=oI h0;exact aF (aQ (Q_r hO))
 refine bI ?_;refine bD [(0,(eI dF)),(1,(eI hop1)),(2,(eI t2))] ?_;refine aM ?_;refine aS aB 6 ?_;obtain⟨c10,h0⟩:=bA h0;refine mU [hop1≠0] ⟨c10,trivial⟩ ?_;refine bN [] [(8,(eI (wR (Int.tdiv (wR (t2-dF)) hop1))))] ?_;refine dN (fun T H=>∃ k8:Int,Has T [(0,(eI dF)),(1,(eI hop1)),(2,(eI t2)),(8,(eI k8))]/\aJ ⟨H0,[],[]⟩ H []/\zZ dF hop1 t2 k8=some r) ?_ ?_
 ·clear hO h0;rintro T H ⟨k8,hT,hO,h0⟩;refine bC hT ?_;clear hT;unfold zZ at h0;refine dN (fun T H=>∃ k8:Int,Has T [(1,(eI hop1)),(8,(eI k8))]/\aJ ⟨H0,[],[]⟩ H []/\sD hop1 k8=some r) ?_ ?_
  ·clear hO h0;rintro T H ⟨k8,hT,hO,h0⟩;refine bC hT ?_;clear hT;unfold sD at h0;refine aM ?_;refine aV aB 4 [] [(43,(aC (decide ((1125899906842624:Int)<=(wR (k8*hop1))))))] ?_;refine bH h0 (fun h0=>?_) (fun h0=>?_)
   ·refine bM aB 2 [(6,(eI 1125899906842624)),(7,(eI 0))] ?_;refine bG ?_;obtain rfl:=oI h0;exact aF (aQ (Q_r hO))
   refine bI ?_;refine bD [(1,(eI hop1)),(8,(eI k8))] ?_;refine bM aB 5 [(6,(eI (wR (k8*hop1)))),(7,(eI 0))] ?_;refine bG ?_;obtain rfl:=oI h0;exact aF (Q_r hO)
  refine bT 0 ?_;refine dZ [(0,(eI dF)),(1,(eI hop1)),(2,(eI t2)),(8,(eI k8))] ?_;refine dR (fun T H=>∃ k8:Int,Has T [(0,(eI dF)),(1,(eI hop1)),(2,(eI t2)),(8,(eI k8))]/\aJ ⟨H0,[],[]⟩ H []/\DT dF hop1 t2 k8=some r) ?_ ⟨k8,aZ,hO,h0⟩;clear hO h0;rintro T H ⟨k8,hT,hO,h0⟩;refine bC hT ?_;clear hT;unfold DT at h0;obtain⟨rr0,hl0,h0⟩:=aW h0;refine fD (fun (s:Int) T H=>Has T [(0,(eI dF)),(1,(eI hop1)),(2,(eI t2)),(8,(eI s))]/\aJ ⟨H0,[],[]⟩ H []) hl0 ⟨aZ,hO⟩ ?_;clear hO;rintro k0 s out1 T H ⟨hT,hO⟩ h1 ho0;obtain⟨k8,rfl⟩:∃ x,x=s:=⟨_,rfl⟩;replace h1:mC dF hop1 t2 k8=some out1:=h1;refine bC hT ?_;clear hT;unfold mC at h1;refine aM ?_;refine aM ?_;refine aS aB 13 ?_;refine bJ 4 ?_;obtain⟨x12,hx13,h1⟩:=aW h1;refine cN (aAW dF (wR (k8*hop1)) _ hx13) hO ?_;intro H hO;refine bB ?_;refine bN [] [(37,(aC ((decide (x12<=t2))&&(decide ((wR (k8*hop1))<(1125899906842624:Int))))))] ?_;refine bH h1 (fun h1=>?_) (fun h1=>?_)
  ·refine bI ?_;refine bD [(0,(eI dF)),(1,(eI hop1)),(2,(eI t2)),(8,(eI k8))] ?_;refine bT 1 ?_;refine aS aB 3 ?_;refine bB ?_;exact aF (aU (aE (⟨rfl,_,(oI h1).symm,aZ,hO⟩)))
  refine eH 0 ?_;obtain rfl:=oI h1;obtain rfl:_=rr0:=ho0;replace h0:sD hop1 k8=some r:=h0;exact aF (aX (aX (bP (aE (⟨rfl,_,aZ,hO,h0⟩)))))
 refine aV aB 2 [] [(24,(aC (decide ((wR (Int.tdiv (wR (t2-dF)) hop1))<(0:Int)))))] ?_;refine bH h0 (fun h0=>?_) (fun h0=>?_)
 ·refine aS aB 1 ?_;refine bB ?_;exact aF (aE (⟨rfl,_,aZ,hO,h0⟩))
 refine bI ?_;exact aF (aE (⟨rfl,_,aZ,hO,h0⟩))

theorem WV (w0:bW)(l1:(List aK))(t2:Int)(r:(Int×Int))(h0:vV w0 l1 t2=some r):cU Tryz.prog 9 [(cA w0),(eL aH l1),(eI t2)] (.tup [(eI r.1),(eI r.2)]):=by
 intro H0;refine cQ Tryz.func9 ?_;have hO:=aJ.start H0;unfold vV at h0;refine aM ?_;refine aS aB 3 ?_;refine kJ 3 (cA w0) ?_;refine bB ?_;refine bN [0] [(3,(.rp (cA w0)))] ?_;refine aM ?_;refine aS aB 5 ?_;refine bJ 3 ?_;obtain⟨x1,hx2,h0⟩:=aW h0;refine cN (WL w0 l1 t2 _ hx2) hO ?_;intro H hO;refine bB ?_;refine bN [] [(8,(eI x1))] ?_;refine aM ?_;refine aV aB 2 [] [(16,(aC (!decide (x1=(0:Int)))))] ?_;refine bH h0 (fun h0=>?_) (fun h0=>?_)
 ·refine bM aB 3 [(6,(eI 0)),(7,(eI x1))] ?_;refine bG ?_;obtain rfl:=oI h0;exact aF (aQ (Q_r hO))
 refine bI ?_;refine bD [(1,(eL aH l1)),(2,(eI t2)),(3,(.rp (cA w0)))] ?_;refine aM ?_;refine aV aB 3 [] [(20,(aC (decide (w0.Kind=(3:Int)))))] ?_;refine bH h0 (fun h0=>?_) (fun h0=>?_)
 ·refine aM ?_;refine aS aB 9 ?_;refine bJ 4 ?_;obtain⟨x6,hx7,h0⟩:=aW h0;refine cN (aAb l1 w0.Size t2 _ hx7) hO ?_;intro H hO;refine bB ?_;refine bD [(6,(eI x6.1)),(7,(eI x6.2))] ?_;refine bG ?_;obtain rfl:=oI h0;exact aF (aQ (Q_r hO))
 refine bI ?_;refine bD [(2,(eI t2)),(3,(.rp (cA w0)))] ?_;refine dN (fun T H=>Has T [(2,(eI t2))]/\aJ ⟨H0,[],[]⟩ H []/\tU t2=some r) ?_ ?_
 ·clear hO h0;rintro T H ⟨hT,hO,h0⟩;refine bC hT ?_;clear hT;unfold tU at h0;refine bM aB 3 [(6,(eI t2)),(7,(eI 0))] ?_;refine bG ?_;obtain rfl:=oI h0;exact aF (Q_r hO)
 refine aV aB 3 [] [(30,(aC (decide (w0.Kind=(2:Int)))))] ?_;refine bH h0 (fun h0=>?_) (fun h0=>?_)
 ·refine aM ?_;refine aS aB 11 ?_;refine bJ 5 ?_;obtain⟨x10,hx11,h0⟩:=aW h0;refine cN (YS w0.Size w0.Hop t2 _ hx11) hO ?_;intro H hO;refine bB ?_;refine bD [(2,(eI t2)),(9,(eI x10.1))] ?_;refine aV aB 3 [] [(42,(aC (decide (x10.1<t2))))] ?_;refine bH h0 (fun h0=>?_) (fun h0=>?_)
  ·refine bM aB 3 [(6,(eI x10.1)),(7,(eI 0))] ?_;refine bG ?_;obtain rfl:=oI h0;exact aF (aQ (Q_r hO))
  refine bI ?_;exact aF (aE (⟨rfl,aZ,hO,h0⟩))
 refine bI ?_;exact aF (aE (⟨rfl,aZ,hO,h0⟩))

theorem JS (w0:bW)(l1:(List aK))(t2:Int)(r:Bool)(h0:qJ w0 l1 t2=some r):cU Tryz.prog 3 [(cA w0),(eL aH l1),(eI t2)] (aC r):=by
 intro H0;refine cQ Tryz.func3 ?_;have hO:=aJ.start H0;unfold qJ at h0;refine aM ?_;refine aS aB 2 ?_;refine kJ 3 (cA w0) ?_;refine bB ?_;refine bN [0] [(3,(.rp (cA w0)))] ?_;refine aM ?_;refine aM ?_;refine aS aB 3 ?_;refine bJ 1 ?_;obtain⟨x1,hx2,h0⟩:=aW h0;refine cN (aAF l1 _ hx2) hO ?_;intro H hO;refine bB ?_;refine bN [] [(13,(aC (!x1)))] ?_;refine bH h0 (fun h0=>?_) (fun h0=>?_)
 ·refine aM ?_;refine aS aB 2 ?_;obtain⟨x5,hx6,h0⟩:=aW h0;refine cN (LA  _ hx6) hO ?_;intro H hO;refine bB ?_;refine bD [(6,(aC x5))] ?_;refine bG ?_;obtain rfl:=oI h0;exact aF (aQ (Q_r hO))
 refine bI ?_;refine bD [(1,(eL aH l1)),(2,(eI t2)),(3,(.rp (cA w0)))] ?_;refine aM ?_;refine aS aB 9 ?_;refine bJ 3 ?_;obtain⟨x8,hx9,h0⟩:=aW h0;refine cN (HX w0 l1 t2 _ hx9) hO ?_;intro H hO;refine bB ?_;refine bN [] [(7,(eI x8.1)),(8,(eI x8.2))] ?_;refine aM ?_;refine aS aB 9 ?_;refine bJ 3 ?_;obtain⟨x11,hx12,h0⟩:=aW h0;refine cN (WV w0 l1 t2 _ hx12) hO ?_;intro H hO;refine bB ?_;refine bN [1] [(9,(eI x11.1)),(10,(eI x11.2))] ?_;refine aM ?_;obtain⟨x14,hx15,h0⟩:=aW h0;obtain⟨x16,hx17,h0⟩:=aW h0;obtain⟨x18,hx19,h0⟩:=aW h0;refine eV (eT [41,44]) aB 29 ?_;refine nN (K:=fun T H=>Has (lift T) [(6,(aC ((((x14&&(decide (x8.1=x11.1)))&&(decide (x8.2=x11.2)))&&((decide (x16=(0:Int)))==x18))&&((!decide (x8.2=(0:Int)))||(decide (x8.1<=t2))))))]/\aJ ⟨H0,[],[]⟩ H []) ?_ ?_
 ·refine mF 7 [] (aC x14) (by kernel_rfl) (by kernel_rfl) (LA  _ hx15) hO ?_;intro H hO;refine hU 2 ?_;refine kG (t:=30) (e:=x14) (by kernel_rfl) (fun hg20=>?_) (fun hg20=>?_)
  ·refine hU 7 ?_;refine kG (t:=35) (e:=decide (x8.1=x11.1)) (by kernel_rfl) (fun hg21=>?_) (fun hg21=>?_)
   ·refine hU 12 ?_;refine kG (t:=40) (e:=decide (x8.2=x11.2)) (by kernel_rfl) (fun hg22=>?_) (fun hg22=>?_)
    ·refine hU 13 ?_;refine mF 10 [(cA w0)] (eI x16) (by kernel_rfl) (by kernel_rfl) (CR w0 _ (gV hx17 (dY (dY hg20 hg21) hg22))) hO ?_;intro H hO;refine hU 16 ?_;refine mF 11 [(cA w0)] (aC x18) (by kernel_rfl) (by kernel_rfl) (NR w0 _ (gV hx19 (dY (dY hg20 hg21) hg22))) hO ?_;intro H hO;refine hU 20 ?_;refine kG (t:=48) (e:=(decide (x16=(0:Int)))==x18) (by kernel_rfl) (fun hg23=>?_) (fun hg23=>?_)
     ·refine hU 23 ?_;refine kG (t:=51) (e := !decide (x8.2=(0:Int))) (by kernel_rfl) (fun hg24=>?_) (fun hg24=>?_)
      ·refine gP ?_;exact⟨⟨[(6,(aC true))],by kernel_rfl,rfl,⟨aR.eq (congrArg aC (dY (dY (dY (dY hg20 hg21) hg22) hg23) (OU hg24 rfl)).symm),trivial⟩⟩,hO⟩
      refine gP ?_;exact⟨⟨[(6,(aC (decide (x8.1<=t2))))],by kernel_rfl,rfl,⟨aR.eq (congrArg aC (dY (dY (dY (dY hg20 hg21) hg22) hg23) (OU hg24 rfl)).symm),trivial⟩⟩,hO⟩
     refine gP ?_;exact⟨⟨[(6,(aC false))],by kernel_rfl,rfl,⟨aR.eq (congrArg aC (dY (dY (dY (dY hg20 hg21) hg22) hg23) rfl).symm),trivial⟩⟩,hO⟩
    refine gP ?_;exact⟨⟨[(6,(aC false))],by kernel_rfl,rfl,⟨aR.eq (congrArg aC (dY (dY (dY (dY hg20 hg21) hg22) rfl) rfl).symm),trivial⟩⟩,hO⟩
   refine gP ?_;exact⟨⟨[(6,(aC false))],by kernel_rfl,rfl,⟨aR.eq (congrArg aC (dY (dY (dY (dY hg20 hg21) rfl) rfl) rfl).symm),trivial⟩⟩,hO⟩
  refine gP ?_;exact⟨⟨[(6,(aC false))],by kernel_rfl,rfl,⟨aR.eq (congrArg aC (dY (dY (dY (dY hg20 rfl) rfl) rfl) rfl).symm),trivial⟩⟩,hO⟩
 ·rintro T H ⟨hT,hO⟩;refine dL hT ?_;clear hT;refine aF (aE ?_);refine bG ?_;obtain rfl:=oI h0;exact aF (Q_r hO)

end Go.Abs
namespace Go.Abs
open Go Go.RowKit Go.Proofs
theorem KI {H:Type}{enc:TypeId×Value->H}{w:World}:yR enc Tryz.prog w 24 cA zX :=
  FJ Tryz.underlying24 (by kernel_rfl) (oY (c':=FA) (ok':=zX) (fun (a:Int) (b:Int×Int×Unit)=>(bW.mk a b.1 b.2.1:bW)) (by kernel_rfl) (yF Tryz.underlying22) (oY (c':=fun (b:Int×Int×Unit)=>(V.cells (cZ .i64 b.1)++(V.cells (cZ .i64 b.2.1)++[]))) (ok':=fun b=>(wT b.1/\(wT b.2.1/\True))) (fun a b=>(a,b)) (by kernel_rfl) (yF Tryz.underlying3) (oY (c':=fun (b:Int×Unit)=>(V.cells (cZ .i64 b.1)++[])) (ok':=fun b=>(wT b.1/\True)) (fun a b=>(a,b)) (by kernel_rfl) (yF Tryz.underlying3) (JW ()) (fun _ _=>rfl) (fun _ _ h1 h2=>⟨h1,h2⟩)) (fun _ _=>rfl) (fun _ _ h1 h2=>⟨h1,h2⟩)) (fun _ _=>rfl) (fun _ _ h1 h2=>⟨h1,h2⟩))

theorem KP {H:Type}{enc:TypeId×Value->H}{w:World}:yR enc Tryz.prog w 50 aD FQ :=
  FJ Tryz.underlying50 (by kernel_rfl) (oY (c':=OA) (ok':=FQ) (fun (a:Int) (b:Int×ByteArray×Unit)=>(aG.mk a b.1 b.2.1:aG)) (by kernel_rfl) (yF Tryz.underlying48) (oY (c':=fun (b:Int×ByteArray×Unit)=>(V.cells (cZ .i64 b.1)++(V.cells (CH b.2.1)++[]))) (ok':=fun b=>(wT b.1/\((fun s=>s.size<=maxLen) b.2.1/\True))) (fun a b=>(a,b)) (by kernel_rfl) (yF Tryz.underlying3) (oY (c':=fun (b:ByteArray×Unit)=>(V.cells (CH b.1)++[])) (ok':=fun b=>((fun s=>s.size<=maxLen) b.1/\True)) (fun a b=>(a,b)) (by kernel_rfl) (XU Tryz.underlying9) (JW ()) (fun _ _=>rfl) (fun _ _ h1 h2=>⟨h1,h2⟩)) (fun _ _=>rfl) (fun _ _ h1 h2=>⟨h1,h2⟩)) (fun _ _=>rfl) (fun _ _ h1 h2=>⟨h1,h2⟩))

theorem NI {H:Type}{enc:TypeId×Value->H}{w:World}:yR enc Tryz.prog w 47 aH zU :=
  FJ Tryz.underlying47 (by kernel_rfl) (oY (c':=SL) (ok':=zU) (fun (a:(List aG)) (b:Int×Int×Unit)=>(aK.mk a b.1 b.2.1:aK)) (by kernel_rfl) (aAP Tryz.underlying45 (by decide +kernel) (fun _=>by kernel_rfl) (fun _=>rfl) KP (by kernel_rfl)) (oY (c':=fun (b:Int×Int×Unit)=>(V.cells (cZ .i64 b.1)++(V.cells (cZ .i64 b.2.1)++[]))) (ok':=fun b=>(wT b.1/\(wT b.2.1/\True))) (fun a b=>(a,b)) (by kernel_rfl) (yF Tryz.underlying3) (oY (c':=fun (b:Int×Unit)=>(V.cells (cZ .i64 b.1)++[])) (ok':=fun b=>(wT b.1/\True)) (fun a b=>(a,b)) (by kernel_rfl) (yF Tryz.underlying3) (JW ()) (fun _ _=>rfl) (fun _ _ h1 h2=>⟨h1,h2⟩)) (fun _ _=>rfl) (fun _ _ h1 h2=>⟨h1,h2⟩)) (fun _ _=>rfl) (fun _ _ h1 h2=>⟨h1,h2⟩))

end Go.Abs
namespace Go.Abs
open Go
theorem cI {n:Int}(h1 : -9223372036854775808<=n)(h2:n<=9223372036854775807):IntKind.i64.wrap n=n:=by
 simp only [IntKind.wrap,IntKind.bits,IntKind.signed];simp;split <;> omega

def xD {α st R:Type}(step:st->α->Option (st⊕R))(fin:st->R):st->List α->Option R
 | s,[]=>some (fin s)
 | s,a::r=>match step s a with
  | some (.inl s')=>xD step fin s' r
  | some (.inr x)=>some x
  | none=>none

theorem SG {α st R:Type}{step:st->α->Option (st⊕R)}{fin:st->R}{s s':st}{a:α}{r:List α}(h:step s a=some (.inl s')):xD step fin s (a::r)=xD step fin s' r:=by
 simp only [xD,h]

theorem SF {α st R:Type}{step:st->α->Option (st⊕R)}{fin:st->R}{s:st}{x:R}{a:α}{r:List α}(h:step s a=some (.inr x)):xD step fin s (a::r)=some x:=by
 simp only [xD,h]

theorem aBJ {α S st R:Type} {body:S->Option (S⊕R)} {l:List α} (mk:st->Int->S) (step:st->α->Option (st⊕R)) (fin:st->R)
  (hn:∀ (i:Nat) a s,l[i]?=some a->(∀ s',step s a=some (.inl s')->body (mk s i)=some (.inl (mk s' ((i+1:Nat):Int))))/\(∀ x,step s a=some (.inr x)->body (mk s i)=some (.inr x)))
  (he:∀ s,body (mk s (l.length:Nat))=some (.inr (fin s))):∀ (m k:Nat) (s:st) (r:R),l.length-k=m->k<=l.length->xD step fin s (l.drop k)=some r->lp body (mk s k)=some r
 | 0,k,s,r,hm,hk,h=>by
  have : k=l.length:=by omega
  subst this;rw [List.drop_length] at h;simp only [xD,Option.some.injEq] at h;subst h;exact cV (he s)
 | m+1,k,s,r,hm,hk,h=>by
  have hlt:k<l.length:=by omega
  have hd:l.drop k=l[k]::l.drop (k+1):=List.drop_eq_getElem_cons hlt;rw [hd] at h;simp only [xD] at h;obtain⟨h1,h2⟩:=hn k l[k] s (List.getElem?_eq_getElem hlt);split at h
  ·rename_i s' hs
   rw [eW (h1 s' hs)];exact aBJ mk step fin hn he m (k+1) s' r (by omega) (by omega) h
  ·rename_i x hs
   simp at h; subst h;exact cV (h2 x hs)
  ·cases h

theorem XL {α S st R:Type} {body:S->Option (S⊕R)} {l:List α} (mk:st->Int->S) (step:st->α->Option (st⊕R)) (fin:st->R)
  (hn:∀ (i:Nat) a s,l[i]?=some a->(∀ s',step s a=some (.inl s')->body (mk s i)=some (.inl (mk s' ((i+1:Nat):Int))))/\(∀ x,step s a=some (.inr x)->body (mk s i)=some (.inr x)))
  (he:∀ s,body (mk s (l.length:Nat))=some (.inr (fin s))) {s:st} {r:R} (h:xD step fin s l=some r):lp body (mk s 0)=some r :=
 aBJ mk step fin hn he _ 0 s r rfl (Nat.zero_le _) (by simpa using h)

theorem idx {α:Type}[Inhabited α]{l:List α}{i:Nat}{a:α}(h:l[i]?=some a)(hl:l.length<4611686018427387904) :
  decide ((i:Int)<((l.length:Nat):Int))=true/\(0<=(i:Int)/\(i:Int)<((l.length:Nat):Int))/\l.getD (Int.toNat (i:Int)) default=a/\IntKind.i64.wrap ((i:Int)+1)=((i+1:Nat):Int):=by
 have hlt:i<l.length:=(List.getElem?_eq_some_iff.1 h).1;refine⟨by simpa using hlt,⟨by omega,by omega⟩,?_,?_⟩
 ·rw [Int.toNat_natCast,List.getD_eq_getElem?_getD,h]; rfl
 ·rw [cI (by omega) (by omega)]; omega

theorem gK {n:Nat}:decide (((n:Nat):Int)<((n:Nat):Int))=false:=by simp

theorem aG6 {α:Type}{j:α}{r:List α}:(0:Int)<=0/\(0:Int)<((List.length (j::r):Nat):Int):=⟨by omega,by simp⟩

theorem aF9 {α:Type}[Inhabited α]{j:α}{r:List α}:List.getD (j::r) (Int.toNat (0:Int)) default=j:=rfl

end Go.Abs
namespace Go.Abs
open Go
theorem drop_cons {α:Type}{l r:List α}{a:α}{k:Nat}(h:l.drop k=a::r):l[k]?=some a/\l.drop (k+1)=r:=by
 have hk:k<l.length:=by
  apply Classical.byContradiction; intro hn;rw [List.drop_eq_nil_of_le (by omega)] at h; cases h
 rw [List.drop_eq_getElem_cons hk] at h;obtain⟨h1,h2⟩:=List.cons.inj h;exact⟨by rw [List.getElem?_eq_getElem hk,h1],h2⟩

theorem aDj {α S st R:Type} {body:S->Option (S⊕R)} {l:List α} (mk:st->Int->S) (G:st->List α->R) (Inv:st->List α->Prop)
  (hn:∀ (i:Nat) a r s,l[i]?=some a->Inv s (a::r)->(∃ s',body (mk s i)=some (.inl (mk s' ((i+1:Nat):Int)))/\Inv s' r/\G s' r=G s (a::r))∨body (mk s i)=some (.inr (G s (a::r))))
  (he:∀ s,Inv s []->body (mk s (l.length:Nat))=some (.inr (G s []))):∀ (r:List α) (k:Nat) (s:st),l.drop k=r->k<=l.length->Inv s r->lp body (mk s k)=some (G s r)
 | [],k,s,hd,hk,hi=>by
  have : k=l.length:=by
   have:=congrArg List.length hd;simp only [List.length_drop,List.length_nil] at this; omega
  subst this;exact cV (he s hi)
 | a::r,k,s,hd,hk,hi=>by
  obtain⟨h1,h2⟩:=drop_cons hd;have hlt:k<l.length:=(List.getElem?_eq_some_iff.1 h1).1;rcases hn k a r s h1 hi with ⟨s',hb,hi',hg⟩ | hb
  ·rw [eW hb,aDj mk G Inv hn he r (k+1) s' h2 (by omega) hi',hg]
  ·exact cV hb

theorem oU {α S st R:Type} {body:S->Option (S⊕R)} {l:List α} (mk:st->Int->S) (G:st->List α->R) (Inv:st->List α->Prop) (s:st)
  (hn:∀ (i:Nat) a r s,l[i]?=some a->Inv s (a::r)->(∃ s',body (mk s i)=some (.inl (mk s' ((i+1:Nat):Int)))/\Inv s' r/\G s' r=G s (a::r))∨body (mk s i)=some (.inr (G s (a::r))))
  (he:∀ s,Inv s []->body (mk s (l.length:Nat))=some (.inr (G s []))) (hi:Inv s l):lp body (mk s 0)=some (G s l) :=
 aDj mk G Inv hn he l 0 s rfl (Nat.zero_le _) hi

theorem KS {α S R:Type} {body:S->Option (S⊕R)} {l:List α} (mk:Int->S) (bad:α->Bool) (x y:R)
  (hn:∀ (i:Nat) a,l[i]?=some a->body (mk i)=some (if bad a then .inr x else .inl (mk ((i+1:Nat):Int))))
  (he:body (mk (l.length:Nat))=some (.inr y)):lp body (mk 0)=some (if l.any bad then x else y):=by
 refine oU (st:=Unit) (fun _ i=>mk i) (fun _ r=>if r.any bad then x else y) (fun _ _=>True) () ?_ ?_ trivial
 ·intro i a r s ha _;have hb:=hn i a ha
  cases h:bad a
  ·left; refine ⟨(),?_,trivial,?_⟩
   ·simpa [h] using hb
   ·simp [List.any_cons,h]
  ·right; simpa [h,List.any_cons] using hb
 ·intro _ _; simpa using he

end Go.Abs
namespace Go.Abs
open Go
variable {α:Type} [Inhabited α]
abbrev Srt {β:Type}(le:β->β->Prop)(l:List β):Prop:=l.Pairwise le

theorem wr {n:Int}(h1 : -1099511627776<=n)(h2:n<=8796093022208):IntKind.i64.wrap n=n:=cI (by omega) (by omega)

section ins
variable {ok:α->Prop} {le:α->α->Prop} {cmp:α->α->Option Int}
end ins
end Go.Abs
namespace Go.Abs
open Go
variable {α:Type} [Inhabited α]
theorem half {s:Nat}(h:s<=4398046511104):IntKind.i64.wrap (Int.fdiv (IntKind.u64.wrap (IntKind.i64.wrap (s:Int))) (2 ^ (min (Int.toNat (1:Int)) 64)))=((s / 2:Nat):Int):=by
 rw [wr (n:=(s:Int)) (by omega) (by omega)]
 have hu:IntKind.u64.wrap (s:Int)=(s:Int):=by
  simp only [IntKind.wrap,IntKind.bits,IntKind.signed];simp;omega
 have hp:(2:Int) ^ (min (Int.toNat (1:Int)) 64)=2:=by decide
 rw [hu,hp,Int.fdiv_eq_ediv_of_nonneg _ (by omega),wr (by omega) (by omega)];omega

section sym
variable {ok:α->Prop} {le:α->α->Prop} {cmp:α->α->Option Int}
end sym
end Go.Abs
namespace Go.Abs
open Go
def MV (n:Int):Bool:=decide (n<=1048576)&&decide (-1048576<=n)

theorem aFv (n:Int):DA n=some (MV n):=rfl

def rD (last:Int)(j:aI):Bool:=decide (j.At<=last)||decide (1125899906842624<=j.At)||decide (j.Net=0) || !MV j.Net

def chk (last:Int):List aI->Bool
 | []=>true
 | j::r => !rD last j&&chk j.At r

def iG (f:List aI):Bool:=decide (f.length<=1024)&&chk (-2) f

theorem aAl {f:List aI}{i:Nat}{a:aI}{last:Int}(ha:f[i]?=some a)(hl:f.length<4611686018427387904) :
  nM f (f.length:Nat) last i=some (if rD last a then .inr (.inr false) else .inl (a.At,((i+1:Nat):Int))):=by
 obtain⟨d1,d2,d3,d4⟩:=idx ha hl;simp only [nM,d1,cond_true,aN d2,d3,d4,aFv];unfold rD
 cases h:(decide (a.At<=last)||decide (1125899906842624<=a.At)||decide (a.Net=0)) <;> cases h2:MV a.Net <;> simp [cW]

theorem YK:∀ (f:List aI) (last:Int),xD (fun last (j:aI)=>some (if rD last j then .inr (.inr false) else .inl j.At)) (fun _=>(.inl ():Unit⊕Bool)) last f=some (if chk last f then .inl () else .inr false)
 | [],last=>by simp [xD,chk]
 | j::r,last=>by
  cases h:rD last j
  ·rw [SG (s':=j.At) (by simp [h])];rw [YK r j.At];simp [chk,h]
  ·rw [SF (x:=.inr false) (by simp [h])];simp [chk,h]

theorem QB (f:List aI):qI f=some (iG f):=by
 unfold qI iG;by_cases hl:f.length<=1024
 ·have h1:decide ((1024:Int)<((f.length:Nat):Int))=false:=by simp; omega
  rw [h1,cond_false];unfold CX
  have key:=XL (l:=f) (body:=fun s:Int×Int=>nM f (f.length:Nat) s.1 s.2) (fun last i=>(last,i)) _ _
   (fun i a s ha=>by
    constructor
    ·intro s' hs;show nM f (f.length:Nat) s i=_;rw [aAl ha (by omega)];split at hs <;> simp_all
    ·intro x hs;show nM f (f.length:Nat) s i=_;rw [aAl ha (by omega)];split at hs <;> simp_all)
   (fun s=>by show nM f (f.length:Nat) s (f.length:Nat)=_; simp only [nM,gK,cond_false]) (YK f (-2))
  rw [key]
  cases h:chk (-2) f <;> simp [zO,hl]
 ·have h1:decide ((1024:Int)<((f.length:Nat):Int))=true:=by simp; omega
  rw [h1,cond_true];simp [hl]

theorem mY {last:Int}{j:aI}:rD last j=false↔last<j.At/\j.At<1125899906842624/\j.Net≠0/\j.Net<=1048576 /\ -1048576<=j.Net:=by
 simp [rD,MV];omega

def tZ (last:Int):List aI->Prop
 | []=>True
 | j::r=>(last<j.At/\j.At<1125899906842624/\j.Net≠0/\j.Net<=1048576 /\ -1048576<=j.Net)/\tZ j.At r

theorem aBm:∀ {f:List aI} {last:Int},chk last f=true↔tZ last f
 | [],last=>by simp [chk,tZ]
 | j::r,last=>by simp [chk,tZ,mY,aBm]

theorem oE {f:List aI}:iG f=true↔f.length<=1024/\tZ (-2) f:=by simp [iG,aBm]

theorem tZ.above:∀ {f:List aI} {last:Int},tZ last f -> ∀ j∈f,last<j.At/\j.At<1125899906842624/\j.Net≠0/\j.Net<=1048576 /\ -1048576<=j.Net
 | [],_,_,j,hj=>by simp at hj
 | a::r,last,h,j,hj=>by
  rcases List.mem_cons.1 hj with rfl | hj
  ·exact h.1
  ·have:=h.2.above j hj;have h1:=h.1.1;exact⟨by omega,this.2⟩

def val (f:List aI)(t:Int):Int:=(f.map fun j=>if j.At<=t then j.Net else 0).sum

theorem aBx (t:Int):val [] t=0:=rfl

theorem lZ (j:aI)(r:List aI)(t:Int):val (j::r) t=(if j.At<=t then j.Net else 0)+val r t:=by simp [val]

theorem VF:∀ {f:List aI} {b:Int} (t:Int),0<=b->(∀ j∈f,j.Net<=b /\ -b<=j.Net)->val f t<=b*f.length /\ -(b*f.length)<=val f t
 | [],b,t,_,_=>by simp [val]
 | j::r,b,t,hb,h=>by
  obtain⟨h1,h2⟩:=VF t hb (fun k hk=>h k (List.mem_cons_of_mem _ hk));have h3:=h j (List.mem_cons_self ..);rw [lZ];simp only [List.length_cons,Int.natCast_add,Int.natCast_one,Int.mul_add,Int.mul_one];split <;> omega

theorem AZ {f:List aI}{t:Int}(h:∀ j∈f,t<j.At):val f t=0:=by
 induction f with
 | nil=>rfl
 | cons j r ih =>
  rw [lZ,ih (fun k hk=>h k (List.mem_cons_of_mem _ hk))];have:=h j (List.mem_cons_self ..);rw [if_neg (by omega)]; rfl

theorem aBt {f:List aI}{i:Nat}{a:aI}{t v:Int}(ha:f[i]?=some a)(hl:f.length<4611686018427387904) :
  pI t f (f.length:Nat) v i=some (if t<a.At then .inr v else .inl (IntKind.i64.wrap (v+a.Net),((i+1:Nat):Int))):=by
 obtain⟨d1,d2,d3,d4⟩:=idx ha hl;simp only [pI,d1,cond_true,aN d2,d3,d4];by_cases h:t<a.At <;> simp [h]

theorem aFs {t:Int}(f:List aI):∀ (last v:Int),tZ last f->v<=1048576*(2048-f.length) -> -(1048576*(2048-f.length))<=v->f.length<=1024 ->
  xD (fun v (j:aI)=>some (if t<j.At then .inr v else .inl (IntKind.i64.wrap (v+j.Net)))) (fun v=>(v:Int)) v f=some (v+val f t):=by
 induction f with
 | nil=>intro last v _ _ _ _; simp [xD,val]
 | cons j r ih =>
  intro last v h h1 h2 hl;simp only [List.length_cons] at h1 h2 hl;by_cases hj:t<j.At
  ·rw [SF (x:=v) (by simp [hj])]
   rw [AZ (fun k hk=>by
    rcases List.mem_cons.1 hk with rfl | hk
    ·exact hj
    ·have:=(h.2.above k hk).1; omega)]
   simp
  ·have hj1:=h.1;have hw:IntKind.i64.wrap (v+j.Net)=v+j.Net:=cI (by omega) (by omega);rw [SG (s':=v+j.Net) (by simp [hj,hw])];rw [ih j.At (v+j.Net) h.2 (by omega) (by omega) (by omega),lZ,if_pos (by omega)]
   congr 1
   omega

theorem aCv (f:List aI)(t:Int):AW f t=some (if iG f then val f t else 0):=by
 unfold AW;rw [QB];simp only [Option.bind_some]
 cases h:iG f
 ·simp
 ·obtain⟨hl,hr⟩:=oE.1 h;simp only [Bool.not_true,cond_false,if_true];unfold EB
  have key:=XL (l:=f) (body:=fun s:Int×Int=>pI t f (f.length:Nat) s.1 s.2) (fun v i=>(v,i)) _ _
   (fun i a s ha=>by
    constructor
    ·intro s' hs;show pI t f (f.length:Nat) s i=_;rw [aBt ha (by omega)];split at hs <;> simp_all
    ·intro x hs;show pI t f (f.length:Nat) s i=_;rw [aBt ha (by omega)];split at hs <;> simp_all)
   (fun s=>by show pI t f (f.length:Nat) s (f.length:Nat)=_; simp only [pI,gK,cond_false]) (aFs (t:=t) f (-2) 0 hr (by omega) (by omega) hl)
  rw [key];simp [yV]

end Go.Abs
namespace Go.Abs
open Go
section both
variable {op:Int->Int->Option Int} {f g r:List aI} {out:List aI} {a b was t:Int} {j:aI}
end both
def emit (p v was:Int):List aI:=if v=was then [] else [⟨p,v-was⟩]

def aFc (was:Int):List (Int×Int)->List aI
 | []=>[]
 | x::r=>emit x.1 x.2 was++aFc x.2 r

def merge (f g:List aI)(a b:Int):List (Int×Int×Int) :=
 match f,g with
 | [],[]=>[]
 | j::f,[]=>(j.At,a+j.Net,b)::merge f [] (a+j.Net) b
 | [],k::g=>(k.At,a,b+k.Net)::merge [] g a (b+k.Net)
 | j::f,k::g =>
  if j.At<k.At then (j.At,a+j.Net,b)::merge f (k::g) (a+j.Net) b
  else if k.At<j.At then (k.At,a,b+k.Net)::merge (j::f) g a (b+k.Net)
  else (j.At,a+j.Net,b+k.Net)::merge f g (a+j.Net) (b+k.Net)

termination_by f.length+g.length
end Go.Abs
namespace Go.Abs
open Go
def comb (OP:Int->Int->Int)(f g:List aI):List aI:=aFc 0 ((merge f g 0 0).map fun x=>(x.1,OP x.2.1 x.2.2))

def told (f:List aI):List aI×Int:=if iG f then (f,0) else ([],7)

def two (OP:Int->Int->Int)(f g:List aI):List aI×Int:=if iG f&&iG g then told (comb OP f g) else ([],2)

end Go.Abs
namespace Go.Abs
open Go
theorem tZ.aEA {l t:Int}{f:List aI}(h:tZ l f)(ht:t<=l):val f t=0:=AZ fun j hj=>by have:=(h.above j hj).1; omega

end Go.Abs
namespace Go.Abs
open Go
def zR (f:List aI):Nat->Int
 | 0 => -2
 | k+1=>(f.getD k default).At

theorem aA8 {f:List aI}{i:Nat}{a:aI}{last:Int}(ha:f[i]?=some a)(hl:f.length<=1024)(hlast:last=zR f i)(hp : -2<=last)(hp':0<i -> -1<=last) :
  mT f i=some (if rD last a then .inr (.inr false) else .inl ((i+1:Nat):Int)):=by
 obtain⟨d1,d2,d3,d4⟩:=idx ha (by omega);have hlt:i<f.length:=(List.getElem?_eq_some_iff.1 ha).1;simp only [mT,d1,cond_true,d3,d4];rw [aN d2,aN (fun _=>d2),aN (fun _=>d2),aN (fun _=>d2),aN (fun _=>d2),aN (fun _=>d2)]
 cases i with
 | zero =>
  rw [aN (fun h=>by simp at h)];have hm2:last = -2:=hlast;subst hm2;by_cases hb:rD (-2) a=true
  ·rw [if_pos hb]
   have hx:(((((decide (a.At < -1))||(decide (1125899906842624<=a.At)))||(decide (a.Net=0)))||(decide (1048576<a.Net)))||(decide (a.Net < -1048576)))=true:=by
    simp [rD,MV] at hb ⊢; omega
   rw [hx,cond_true]
  ·have hb':rD (-2) a=false:=by simpa using hb
   rw [if_neg hb];rw [mY] at hb'
   have hx:(((((decide (a.At < -1))||(decide (1125899906842624<=a.At)))||(decide (a.Net=0)))||(decide (1048576<a.Net)))||(decide (a.Net < -1048576)))=false:=by
    simp; omega
   rw [hx,cond_false];simp
 | succ k =>
  have hw:IntKind.i64.wrap (((k+1:Nat):Int)-1)=(k:Int):=by rw [cI (by omega) (by omega)]; omega
  have hg:List.getD f (Int.toNat (k:Int)) default=f.getD k default:=by rw [Int.toNat_natCast]
  rw [hw,hg,aN (fun _=>⟨by omega,by omega⟩)];have hpos:decide ((0:Int)<((k+1:Nat):Int))=true:=by simp
  have hp1:=hp' (by omega);have hl2:(f.getD k default).At=last:=hlast.symm;rw [hpos,Bool.true_and,hl2];by_cases hb:rD last a=true
  ·rw [if_pos hb];by_cases hx:(((((decide (a.At < -1))||(decide (1125899906842624<=a.At)))||(decide (a.Net=0)))||(decide (1048576<a.Net)))||(decide (a.Net < -1048576)))=true
   ·rw [hx,cond_true]
   ·have hx':(((((decide (a.At < -1))||(decide (1125899906842624<=a.At)))||(decide (a.Net=0)))||(decide (1048576<a.Net)))||(decide (a.Net < -1048576)))=false:=by simpa using hx
    have hy:decide (a.At<=last)=true:=by
     simp [rD,MV] at hb hx' ⊢; omega
    rw [hx',cond_false,hy,cond_true]
  ·have hb':rD last a=false:=by simpa using hb
   rw [if_neg hb];rw [mY] at hb'
   have hx:(((((decide (a.At < -1))||(decide (1125899906842624<=a.At)))||(decide (a.Net=0)))||(decide (1048576<a.Net)))||(decide (a.Net < -1048576)))=false:=by
    simp; omega
   have hy:decide (a.At<=last)=false:=by simp; omega
   rw [hx,cond_false,hy,cond_false]

theorem UN {f:List aI}(hl:f.length<=1024):∀ (m k:Nat),f.length-k=m->k<=f.length -> -2<=zR f k->(0<k -> -1<=zR f k)->lp (fun s=>mT f s) (k:Int)=some (if chk (zR f k) (f.drop k)=true then .inl () else .inr false)
 | 0,k,hm,hk,_,_=>by
  have : k=f.length:=by omega
  subst this;rw [List.drop_length];refine cV ?_;show mT f _=_;simp [mT,chk]
 | m+1,k,hm,hk,hp,hp'=>by
  have h1:k<f.length:=by omega
  have hb:=aA8 (List.getElem?_eq_getElem h1) hl rfl hp hp';have e1:f.drop k=f[k]::f.drop (k+1):=List.drop_eq_getElem_cons h1;have hpa:zR f (k+1)=f[k].At:=by simp [zR,List.getD_eq_getElem?_getD,h1]
  rw [e1];by_cases h:rD (zR f k) f[k]=true
  ·rw [if_pos h] at hb;rw [cV (show (fun s=>mT f s) (k:Int)=_ from hb)];simp [chk,h]
  ·rw [if_neg h] at hb;have h':rD (zR f k) f[k]=false:=by simpa using h
   have:=mY.1 h';rw [eW (show (fun s=>mT f s) (k:Int)=_ from hb),UN hl m (k+1) (by omega) (by omega) (by rw [hpa]; omega) (fun _=>by rw [hpa]; omega),hpa];simp [chk,h']

theorem UY (f:List aI):tA f=some (iG f):=by
 unfold tA iG;by_cases hl:f.length<=1024
 ·have h1:decide ((1024:Int)<((f.length:Nat):Int))=false:=by simp; omega
  rw [h1,cond_false];unfold BH;have:=UN hl f.length 0 rfl (Nat.zero_le _) (by simp [zR]) (by omega);simp only [Int.natCast_zero,List.drop_zero,zR] at this;rw [this]
  cases h:chk (-2) f <;> simp [xV,hl]
 ·have h1:decide ((1024:Int)<((f.length:Nat):Int))=true:=by simp; omega
  rw [h1,cond_true];simp [hl]

end Go.Abs
namespace Go.Abs
open Go
def aGu (f:List aI):Int:=(f.map aI.Net).sum

def aEm (t:Int):List aI->List aI
 | []=>[]
 | j::r=>if t<=j.At then [] else j::aEm t r

def aft (t:Int):List aI->List aI
 | []=>[]
 | j::r=>if t<=j.At then j::r else aft t r

end Go.Abs
namespace Go.Abs
open Go
def aGZ (t:Int)(f:List aI):List aI:=(if aGu (aEm t f)=0 then [] else [⟨-1,aGu (aEm t f)⟩])++aft t f

def rest (f:List aI)(t:Int):List aI×Int :=
 if iG f then (if 1125899906842624<=t then ([],0) else if t <= -1 then (f,0) else told (aGZ t f)) else ([],2)

end Go.Abs
namespace Go.Abs
open Go
def Inc (last:Int):List Int->Prop
 | []=>True
 | p::r=>(last<p/\p<1125899906842624)/\Inc p r

theorem Inc.above:∀ {ps:List Int} {last:Int},Inc last ps -> ∀ p∈ps,last<p/\p<1125899906842624
 | [],_,_,j,hj=>by simp at hj
 | a::r,last,h,j,hj=>by
  rcases List.mem_cons.1 hj with rfl | hj
  ·exact h.1
  ·have:=h.2.above j hj;have h1:=h.1.1;exact⟨by omega,this.2⟩

end Go.Abs
namespace Go.Abs
open Go
theorem aA3 {f:List aI}(t:Int)(hb:∀ j∈f,j.Net<=1048576 /\ -1048576<=j.Net)(hl:f.length<=1099511627776):oL f t=some (val f t):=by
 unfold oL yQ
 rw [oU (l:=f) (body:=fun s:Int×Int=>kX f t s.1 s.2) (fun v i=>(v,i)) (fun v r=>v+val r t)
  (fun v r=>(∀ j∈r,j.Net<=1048576 /\ -1048576<=j.Net)/\r.length<=1099511627776/\v<=1048576*(1099511627776-r.length) /\ -(1048576*(1099511627776-r.length))<=v) 0 ?_ ?_ ?_]
 ·simp [tR]
 ·intro i a r v ha ⟨h1,h2,h3,h4⟩;obtain⟨d1,d2,d3,d4⟩:=idx ha (by omega);have hj:=h1 a (List.mem_cons_self ..);simp only [List.length_cons] at h2 h3 h4;left;by_cases h:a.At<=t
  ·refine⟨v+a.Net,?_,⟨fun j hj=>h1 j (List.mem_cons_of_mem _ hj),by omega,by omega,by omega⟩,?_⟩
   ·show kX f t v i=_;have hw:IntKind.i64.wrap (v+a.Net)=v+a.Net:=cI (by omega) (by omega);simp only [kX,qS,d1,cond_true,aN d2,d3,d4,h,decide_true,hw]
   ·show v+a.Net+val r t=v+val (a::r) t;rw [lZ,if_pos h]; omega
  ·refine⟨v,?_,⟨fun j hj=>h1 j (List.mem_cons_of_mem _ hj),by omega,by omega,by omega⟩,?_⟩
   ·show kX f t v i=_;simp only [kX,qS,d1,cond_true,aN d2,d3,d4,h,decide_false,cond_false]
   ·show v+val r t=v+val (a::r) t;rw [lZ,if_neg h]; omega
 ·intro s _;show kX f t s (f.length:Nat)=_;simp only [kX,gK,cond_false];simp [val]
 ·exact⟨hb,hl,by omega,by omega⟩

theorem ZN {f:List aI}(h:iG f=true):∀ j∈f,j.Net<=1048576 /\ -1048576<=j.Net:=fun j hj=>by have:=(oE.1 h).2.above j hj; omega

theorem MG {f:List aI}(h:iG f=true)(t:Int):oL f t=some (val f t) :=
 aA3 t (ZN h) (by have:=(oE.1 h).1; omega)

def gU (t:Int):List Int->List Int
 | []=>[t]
 | p::r=>if p=t then p::r else if t<p then t::p::r else p::gU t r

theorem LS {t x:Int}:∀ {ps:List Int},x∈gU t ps↔x=t∨x∈ps
 | []=>by simp [gU]
 | p::r=>by
  unfold gU;split
  ·rename_i h; subst h; simp
  ·split
   ·simp
   ·simp only [List.mem_cons,LS (ps:=r)]; constructor <;> (intro h; rcases h with h | h | h <;> simp [h])

theorem AX {t:Int}:∀ {ps:List Int} {last:Int},Inc last ps->last<t->t<1125899906842624->Inc last (gU t ps)
 | [],last,_,h1,h2=>⟨⟨h1,h2⟩,trivial⟩
 | p::r,last,h,h1,h2=>by
  unfold gU;split
  ·exact h
  ·split
   ·rename_i h3 h4
    exact⟨⟨h1,h2⟩,⟨h4,h.1.2⟩,h.2⟩
   ·exact⟨h.1,AX h.2 (by omega) h2⟩

theorem HD {t:Int}:∀ {ps:List Int},(gU t ps).length<=ps.length+1
 | []=>by simp [gU]
 | p::r=>by
  unfold gU;split
  ·simp
  ·split
   ·simp
   ·simp only [List.length_cons]; have:=HD (t:=t) (ps:=r); omega

theorem LX {t:Int}:∀ {ps:List Int},(∀ x∈ps,x<t)->gU t ps=ps++[t]
 | [],_=>rfl
 | p::r,h=>by
  have:=h p (List.mem_cons_self ..);unfold gU;rw [if_neg (by omega),if_neg (by omega),LX (fun x hx=>h x (List.mem_cons_of_mem _ hx))]; rfl

theorem EF {t:Int}:∀ {ps:List Int} {last:Int},Inc last ps->t∈ps->gU t ps=ps
 | [],_,_,h=>by simp at h
 | p::r,last,hi,h=>by
  unfold gU;split
  ·rfl
  ·rename_i hp
   rcases List.mem_cons.1 h with h | h
   ·exact absurd h.symm hp
   ·have:=(hi.2.above t h).1;rw [if_neg (by omega),EF hi.2 h]

theorem aDA {l out:List Int}{t a:Int}{put:Bool}{i:Nat}(ha:l[i]?=some a)(hl:l.length<=1099511627776)(ho:out.length<=2199023255552) :
  kF l t out put i=some (if a=t then .inr (.inr l) else if t<a/\put=false then .inl (out++[t]++[a],true,((i+1:Nat):Int)) else .inl (out++[a],put,((i+1:Nat):Int))):=by
 obtain⟨d1,d2,d3,d4⟩:=idx ha (by omega);simp only [kF,vX,d1,cond_true,aN d2,d3,d4];by_cases h1:a=t
 ·simp [h1]
 ·rw [decide_eq_false h1,cond_false,if_neg h1];by_cases h2:t<a
  ·cases put
   ·simp only [h2,decide_true,Bool.not_false,Bool.and_self,cond_true,and_self,if_true];rw [aN (by simp only [List.length_cons,List.length_nil]; omega),aN (by simp only [List.length_append,List.length_cons,List.length_nil]; omega)]
   ·simp only [h2,decide_true,Bool.not_true,Bool.and_false,cond_false,and_false,if_false,reduceCtorEq];rw [aN (by simp only [List.length_cons,List.length_nil]; omega)]
  ·simp only [h2,decide_false,Bool.false_and,cond_false,false_and,if_false];rw [aN (by simp only [List.length_cons,List.length_nil]; omega)]

theorem aFo {l:List Int}{last t:Int}(hi:Inc last l)(hl:l.length<=1099511627776):xL l t=some (gU t l):=by
 unfold xL AI
 rw [oU (l:=l) (body:=fun s:List Int×Bool×Int=>kF l t s.1 s.2.1 s.2.2) (fun (s:List Int×Bool) i=>(s.1,s.2,i))
  (fun s r=>if s.2 then .inl (s.1++r,true) else if t∈r then .inr l else if (∃ x∈r,t<x) then .inl (s.1++gU t r,true) else .inl (s.1++r,false))
  (fun s r=>(∃ m,Inc m r)/\(s.2=true -> ∀ x∈r,t<x)/\r.length<=1099511627776/\s.1.length+r.length<=1099511627777+(if s.2 then 1 else 0)) ([],false) ?_ ?_ ?_]
 ·simp only [Bool.false_eq_true,if_false,List.nil_append,Option.bind_some];by_cases h1:t∈l
  ·simp [h1,EF hi h1]
  ·simp only [h1,if_false];by_cases h2:∃ x∈l,t<x
   ·simp only [h2,if_true];simp [sC,sG]
   ·simp only [h2,if_false]
    have : ∀ x∈l,x<t:=fun x hx=>by
     have h3:¬ t<x:=fun h=>h2 ⟨x,hx,h⟩;have h4:x≠t:=fun h=>h1 (h ▸ hx);omega
    rw [LX this];simp only [Sum.elim_inl,sC,sG,Bool.not_false,cond_true];rw [aN (by simp only [List.length_cons,List.length_nil]; omega)]
 ·rintro i a r ⟨out,put⟩ ha ⟨⟨m,hm⟩,h1,h2,h3⟩;simp only [List.length_cons] at h2 h3;have hb:=aDA (t:=t) (put:=put) (out:=out) ha hl (by split at h3 <;> omega);have hab:∀ x∈r,a<x:=fun x hx=>(hm.2.above x hx).1
  cases put
  ·by_cases e:a=t
   ·right;show kF l t out false i=_;rw [hb]; simp [e]
   ·left;by_cases e2:t<a
    ·have hnt:t ∉ a::r:=fun h=>by
      rcases List.mem_cons.1 h with h | h
      ·exact e h.symm
      ·have:=hab t h; omega
     refine⟨(out++[t]++[a],true),?_,⟨⟨a,hm.2⟩,fun _ x hx=>by have:=hab x hx; omega,by omega,by simp only [List.length_append,List.length_cons,List.length_nil,Bool.false_eq_true,if_false,if_true] at h3 ⊢; omega⟩,?_⟩
     ·show kF l t out false i=_;rw [hb]; simp [e,e2]
     ·have hex:∃ x∈a::r,t<x:=⟨a,List.mem_cons_self ..,e2⟩;simp only [if_true,Bool.false_eq_true,if_false,hnt,hex];simp [gU,e,e2]
    ·refine⟨(out++[a],false),?_,⟨⟨a,hm.2⟩,fun h=>absurd h (by simp),by omega,by simp only [List.length_append,List.length_cons,List.length_nil,Bool.false_eq_true,if_false] at h3 ⊢; omega⟩,?_⟩
     ·show kF l t out false i=_;rw [hb]; simp [e,e2]
     ·have i1:(t∈a::r)↔t∈r:=by simp only [List.mem_cons]; constructor; (intro h; rcases h with h | h; exact absurd h.symm e; exact h); exact Or.inr
      have i2:(∃ x∈a::r,t<x)↔(∃ x∈r,t<x):=by
       constructor
       ·rintro ⟨x,hx,hx'⟩;rcases List.mem_cons.1 hx with rfl | hx
        ·exact absurd hx' e2
        ·exact⟨x,hx,hx'⟩
       ·rintro ⟨x,hx,hx'⟩; exact ⟨x,List.mem_cons_of_mem _ hx,hx'⟩
      simp only [Bool.false_eq_true,if_false,i1,i2];simp [gU,e,e2]
  ·left;have ht:=h1 rfl a (List.mem_cons_self ..);refine⟨(out++[a],true),?_,⟨⟨a,hm.2⟩,fun _ x hx=>h1 rfl x (List.mem_cons_of_mem _ hx),by omega,by simp only [List.length_append,List.length_cons,List.length_nil,if_true] at h3 ⊢; omega⟩,?_⟩
   ·show kF l t out true i=_;have : a≠t:=by omega
    rw [hb]; simp [this]
   ·simp
 ·rintro ⟨out,put⟩ _;show kF l t out put (l.length:Nat)=_;simp only [kF,gK,cond_false]
  cases put <;> simp
 ·exact⟨⟨last,hi⟩,fun h=>absurd h (by simp),hl,by simp only [List.length_nil]; simp; omega⟩

end Go.Abs
namespace Go.Abs
open Go
def mn (a b:Int):Int:=if b<a then b else a

def parts (v:Int):List aI->List Int
 | []=>[]
 | j::r=>(v+j.Net)::parts (v+j.Net) r

def yC (f:List aI):Int:=(f.map fun j=>val f j.At).foldl mn (val f (-1))

theorem parts_eq:∀ {f:List aI} {l v:Int},tZ l f->parts v f=f.map fun j=>v+val f j.At
 | [],_,_,_=>rfl
 | j::r,l,v,h=>by
  simp only [parts,List.map_cons];rw [parts_eq h.2,lZ,if_pos (Int.le_refl _),h.2.aEA (Int.le_refl _),Int.add_zero]
  congr 1
  apply List.map_congr_left;intro k hk;have:=(h.2.above k hk).1;rw [lZ,if_pos (by omega)]; omega

theorem aCR {j:aI}{r:List aI}(h:tZ (-2) (j::r)):val (j::r) (-1)=if j.At = -1 then j.Net else 0:=by
 have:=h.1.1;by_cases e:j.At = -1
 ·rw [if_pos e,lZ,if_pos (by omega),h.2.aEA (by omega)]; omega
 ·rw [if_neg e,AZ];intro k hk;rcases List.mem_cons.1 hk with rfl | hk
  ·omega
  ·have:=(h.2.above k hk).1; omega

theorem SK {f:List aI}(hf:iG f=true)(m:Int)(hm : -1125899906842624<=m/\m<=1125899906842624):vH 0 m f (f.length:Nat) 0=some ((f.map fun j=>val f j.At).foldl mn m):=by
 obtain⟨hl,hr⟩:=oE.1 hf;unfold vH
 rw [oU (l:=f) (body:=fun s:Int×Int×Int=>oG f (f.length:Nat) s.1 s.2.1 s.2.2) (fun (s:Int×Int) i=>(s.1,s.2,i)) (fun s r=>(parts s.1 r).foldl mn s.2)
  (fun s r=>(∀ j∈r,j.Net<=1048576 /\ -1048576<=j.Net)/\r.length<=1024/\s.1<=1048576*(1024-r.length) /\ -(1048576*(1024-r.length))<=s.1) (0,m) ?_ ?_ ?_]
 ·simp only [Option.bind_some,vN,parts_eq hr,Int.zero_add]
 ·rintro i a r ⟨v,m⟩ ha ⟨h1,h2,h3,h4⟩;obtain⟨d1,d2,d3,d4⟩:=idx ha (by omega);have hj:=h1 a (List.mem_cons_self ..);simp only [List.length_cons] at h2 h3 h4;have hw:IntKind.i64.wrap (v+a.Net)=v+a.Net:=cI (by omega) (by omega);left;refine⟨(v+a.Net,mn m (v+a.Net)),?_,⟨fun j hj=>h1 j (List.mem_cons_of_mem _ hj),by omega,by simp only; omega,by simp only; omega⟩,rfl⟩;show oG f (f.length:Nat) v m i=_;simp only [oG,d1,cond_true,aN d2,d3,d4,hw,mn]
 ·rintro ⟨v,m⟩ _;show oG f (f.length:Nat) v m (f.length:Nat)=_;simp only [oG,gK,cond_false,parts,List.foldl_nil]
 ·exact⟨ZN hf,hl,by simp only; omega,by simp only; omega⟩

theorem aEy (f:List aI):xM f=some (if iG f then yC f else 0):=by
 unfold xM;rw [QB]
 cases h:iG f
 ·simp
 ·cases f with
  | nil=>simp [yC,val]
  | cons j r =>
   obtain⟨hl,hr⟩:=oE.1 h;have hne:decide (((List.length (j::r):Nat):Int)=0)=false:=by simp; omega
   simp only [Option.bind_some,Bool.not_true,Bool.false_or,hne,cond_false,aN aG6,aF9,if_true];have hj:=hr.1;unfold yC;rw [aCR hr];by_cases e:j.At = -1
   ·simp only [e,decide_true,cond_true,if_true,sF];exact SK h j.Net (by omega)
   ·simp only [e,decide_false,cond_false,if_false,sF];exact SK h 0 (by omega)

theorem aA0 (f:List aI):vS f=some (if iG f then yC f else 0):=by
 unfold vS;rw [UY]
 cases h:iG f
 ·simp
 ·obtain⟨hl,hr⟩:=oE.1 h;simp only [Option.bind_some,Bool.not_true,cond_false,MG h,if_true,yS];rw [oU (l:=f) (body:=fun s:Int×Int=>nF f s.1 s.2) (fun m i=>(m,i)) (fun m r=>(r.map fun j=>val f j.At).foldl mn m) (fun _ _=>True) (val f (-1)) ?_ ?_ trivial]
  ·simp [tY,yC]
  ·rintro i a r m ha _;obtain⟨d1,d2,d3,d4⟩:=idx ha (by omega);left;refine⟨mn m (val f a.At),?_,trivial,rfl⟩;show nF f m i=_;simp only [nF,tT,d1,cond_true,aN d2,d3,d4,MG h,Option.bind_some,mn];by_cases e:val f a.At<m <;> simp [e]
  ·intro m _;show nF f m (f.length:Nat)=_;simp only [nF,gK,cond_false,List.map_nil,List.foldl_nil]

theorem aFH:iG []=true:=by decide

end Go.Abs
namespace Go.Abs
open Go
theorem w1:IntKind.i64.wrap (0+1)=1:=by rw [cI] <;> omega

theorem w2:IntKind.i64.wrap (1+1)=2:=by rw [cI] <;> omega

theorem w3:IntKind.i64.wrap (1-1)=0:=by rw [cI] <;> omega

theorem v0:IntKind.i64.wrap 0=0:=by rw [cI] <;> omega

theorem v1:IntKind.i64.wrap 1=1:=by rw [cI] <;> omega

theorem v2:IntKind.i64.wrap 2=2:=by rw [cI] <;> omega

theorem v3:IntKind.i64.wrap (-1) = -1:=by rw [cI] <;> omega

end Go.Abs
namespace Go.Abs
open Go
variable {α:Type} [Inhabited α]
noncomputable def qT (f1:α->Option Bool)(s0:(List α))(t7:Int)(t8:Int):Option ((Int)⊕(Unit⊕Int)) :=
 cond (decide (t8<t7))
 (bE (0<=t8/\t8<((List.length s0:Nat):Int)) <|
 (f1 (List.getD s0 (Int.toNat t8) default)).bind fun x2 =>
 cond x2
 (some (.inr (.inr t8)))
 (some (.inl (IntKind.i64.wrap (t8+(1:Int))))))
 (some (.inr (.inl ())))

theorem YF {l:List α}{f:α->Option Bool}{g:α->Bool}(hl:l.length<=1099511627776)(hf:∀ x∈l,f x=some (g x)):∀ (r:List α) (k:Nat),l.drop k=r->k<=l.length ->
  ∃ x,lp (fun s=>qT f l (l.length:Nat) s) (k:Int)=some x/\((x=.inl ()/\r.any g=false)∨(∃ i:Nat,x=.inr (i:Int)/\k<=i/\i<l.length/\r.any g=true/\g (l.getD i default)=true /\ ∀ j,k<=j->j<i->g (l.getD j default)=false))
 | [],k,hd,hk=>by
  have : k=l.length:=by
   have:=congrArg List.length hd;simp only [List.length_drop,List.length_nil] at this; omega
  subst this;refine⟨.inl (),cV ?_,Or.inl ⟨rfl,rfl⟩⟩;show qT f l _ _=_;simp only [qT,gK,cond_false]
 | a::r,k,hd,hk=>by
  obtain⟨h1,h2⟩:=drop_cons hd;have hlt:k<l.length:=(List.getElem?_eq_some_iff.1 h1).1;obtain⟨d1,d2,d3,d4⟩:=idx h1 (by omega);have hga:l.getD k default=a:=by rw [Int.toNat_natCast] at d3; exact d3
  have hb:(fun s=>qT f l (l.length:Nat) s) (k:Int)=some (if g a then .inr (.inr (k:Int)) else .inl ((k+1:Nat):Int)):=by
   show qT f l _ _=_;simp only [qT,d1,cond_true,aN d2,d3,d4,hf a (List.mem_of_getElem? h1),Option.bind_some]
   cases g a <;> simp
  cases hg:g a
  ·rw [hg] at hb;obtain⟨x,e,hx⟩:=YF hl hf r (k+1) h2 (by omega);refine⟨x,by rw [eW hb]; exact e,?_⟩;rcases hx with ⟨rfl,h⟩ | ⟨i,rfl,h3,h4,h5,h6,h7⟩
   ·exact Or.inl ⟨rfl,by simp [hg,h]⟩
   ·refine Or.inr ⟨i,rfl,by omega,h4,by simp [h5],h6,fun j hj hj'=>?_⟩;by_cases e:j=k
    ·subst e; rw [hga,hg]
    ·exact h7 j (by omega) hj'
  ·rw [hg] at hb;exact⟨.inr (k:Int),cV hb,Or.inr ⟨k,rfl,Nat.le_refl _,hlt,by simp [hg],by rw [hga,hg],fun j h h'=>by omega⟩⟩

end Go.Abs
namespace Go.Abs
open Go
theorem UH (x y:ByteArray):pE x y=decide (x=y):=by
 unfold pE;rw [ByteArray.toList_eq,ByteArray.toList_eq];by_cases h:x=y
 ·simp [h]
 ·have : x.data.toList≠y.data.toList:=by
   intro he;apply h
   cases x; cases y
   congr 1
   exact Array.toList_inj.1 he
  have h2:(x.data.toList==y.data.toList)=false:=by simpa using this
  rw [h2]; simp [h]

theorem veq (a b:aG):((decide (a.Kind=b.Kind))&&((decide (a.Num=b.Num))&&((pE a.Text b.Text)&&true)))=decide (a=b):=by
 rw [UH];obtain⟨a1,a2,a3⟩:=a;obtain⟨b1,b2,b3⟩:=b;by_cases h1:a1=b1 <;> by_cases h2:a2=b2 <;> by_cases h3:a3=b3 <;> simp [h1,h2,h3]

def HQ (v:aG):Bool:=decide (v.Kind=1)&&pE v.Text (⟨#[]⟩:ByteArray)

def HE (v:aG):Bool:=((decide (v.Kind=2))&&(decide (v.Num=0)))&&(decide (((ByteArray.size v.Text:Nat):Int)<=64))

def uZ (v:aG):Bool:=HQ v||HE v

def lA (r:List aG):Bool:=decide (r.length<=8)&&r.all uZ

theorem of_eq (v:aG):mW v=some (if HQ v then (.k_number v.Num,true) else if HE v then (.k_words v.Text,true) else (.none_,false)):=by
 unfold mW HQ HE
 cases (decide (v.Kind=1)&&pE v.Text (⟨#[]⟩:ByteArray)) <;> cases (((decide (v.Kind=2))&&(decide (v.Num=0)))&&(decide (((ByteArray.size v.Text:Nat):Int)<=64))) <;> rfl

theorem aFB (v:aG):zG v=some (uZ v):=by
 unfold zG uZ;rw [of_eq]
 cases HQ v <;> cases HE v <;> rfl

theorem RI (v:aG):sU v=some (uZ v):=by
 unfold sU uZ HQ HE;by_cases h:v.Kind=1
 ·simp [h]
 ·simp [h]

theorem YA {l:List aG}{f:aG->Option Bool}{g:aG->Bool}(hl:l.length<=1099511627776)(hf:∀ x∈l,f x=some (g x)):fP l f=some (l.any g):=by
 unfold fP jL jC;obtain⟨x,e,hx⟩:=YF hl hf l 0 rfl (Nat.zero_le _);have e':lp (fun s=>jB f l (l.length:Nat) s) 0=some x:=e;rw [e'];rcases hx with ⟨rfl,h⟩ | ⟨i,rfl,_,_,h,_⟩
 ·simp [gH,h]
 ·simp [h]

theorem TP (r:List aG):xR r=some (lA r):=by
 unfold xR lA;by_cases h:r.length<=8
 ·have h1:decide ((8:Int)<((r.length:Nat):Int))=false:=by simp; omega
  rw [h1,cond_false,YA (g:=fun v => !uZ v) (by omega) (fun x _=>by simp [zK,aFB])];simp only [Option.bind_some,h,decide_true,Bool.true_and]
  congr 1
  rw [List.all_eq_not_any_not]
 ·have h1:decide ((8:Int)<((r.length:Nat):Int))=true:=by simp; omega
  rw [h1,cond_true];simp [h]

theorem JA (r:List aG)(hl:r.length<=1099511627776*16):sW r=some (lA r):=by
 unfold sW BS;have hl9:(r.take 9).length<=9:=by simp; omega
 rw [KS (l:=r.take 9) (fun i=>i) (fun v => !uZ v) (.inr false) (.inl ()) ?_ ?_]
 ·unfold lA;by_cases h:r.length<=8
  ·have ht:r.take 9=r:=List.take_of_length_le (by omega);rw [ht,List.all_eq_not_any_not]
   cases h1:(r.any fun v => !uZ v)
   ·have : ((r.length:Nat):Int)<=8:=by omega
    simp [uA,this,h]
   ·simp
  ·cases h1:((r.take 9).any fun v => !uZ v)
   ·have : ¬ ((r.length:Nat):Int)<=8:=by omega
    simp [uA,this,h]
   ·simp [h]
 ·intro i a ha;have hi:i<(r.take 9).length:=(List.getElem?_eq_some_iff.1 ha).1;have hi2:i<r.length:=by simp at hi; omega
  have ha2:r[i]?=some a:=by
   rw [List.getElem?_take] at ha;split at ha
   ·exact ha
   ·cases ha
  obtain⟨d1,d2,d3,d4⟩:=idx ha2 (by omega);have h9:decide ((i:Int)<9)=true:=by simp; omega
  show rO r i=_;simp only [rO,d1,h9,Bool.and_self,cond_true,aN d2,d3,d4,RI,Option.bind_some]
  cases uZ a <;> simp
 ·show rO r _=_
  have : ((decide ((((r.take 9).length:Nat):Int)<((r.length:Nat):Int)))&&(decide ((((r.take 9).length:Nat):Int)<9)))=false:=by
   rw [Bool.and_eq_false_iff];by_cases h:r.length<=8
   ·left; simp; omega
   ·right; simp; omega
  simp only [rO,this,cond_false]

theorem aB8 {α:Type} [DecidableEq α] {f g:List α} {body:Int->Option (Int⊕(Unit⊕Bool))} (he:f.length=g.length)
  (hb:∀ (i:Nat) a b,f[i]?=some a->g[i]?=some b->body i=some (if a=b then .inl ((i+1:Nat):Int) else .inr (.inr false)))
  (hend:body (f.length:Nat)=some (.inr (.inl ()))):∀ (m k:Nat),f.length-k=m->k<=f.length->lp body (k:Int)=some (if f.drop k=g.drop k then .inl () else .inr false)
 | 0,k,hm,hk=>by
  have : k=f.length:=by omega
  subst this;rw [List.drop_length,he,List.drop_length,if_pos rfl];rw [←he];exact cV hend
 | m+1,k,hm,hk=>by
  have h1:k<f.length:=by omega
  have h2:k<g.length:=by omega
  have hbk:=hb k _ _ (List.getElem?_eq_getElem h1) (List.getElem?_eq_getElem h2);have e1:f.drop k=f[k]::f.drop (k+1):=List.drop_eq_getElem_cons h1;have e2:g.drop k=g[k]::g.drop (k+1):=List.drop_eq_getElem_cons h2;have hiff:(f.drop k=g.drop k)↔(f[k]=g[k]/\f.drop (k+1)=g.drop (k+1)):=by rw [e1,e2,List.cons.injEq]
  by_cases h:f[k]=g[k]
  ·rw [if_pos h] at hbk;rw [eW hbk,aB8 he hb hend m (k+1) (by omega) (by omega)];simp only [hiff,h,true_and]
  ·rw [if_neg h] at hbk;rw [cV hbk];simp only [hiff,h,false_and,if_false]

theorem aDe {α:Type}{f g:List α}(h:f.length≠g.length):(!decide (((f.length:Nat):Int)=((g.length:Nat):Int)))=true:=by simp; omega

theorem aDs {α:Type}{f g:List α}(h:f.length=g.length):(!decide (((f.length:Nat):Int)=((g.length:Nat):Int)))=false:=by simp [h]

theorem JR (a b:List aG)(hl:a.length<=17592186044416):sR a b=some (decide (a=b)):=by
 unfold sR gC;by_cases he:a.length=b.length
 ·rw [aDs he,cond_false];unfold kM;have:=aB8 (f:=a) (g:=b) (body:=fun s=>fS a b (a.length:Nat) s) he ?_ ?_ a.length 0 rfl (Nat.zero_le _)
  ·simp only [Int.natCast_zero,List.drop_zero] at this;rw [this];by_cases h:a=b <;> simp [h,iM]
  ·intro i x y hx hy;obtain⟨d1,d2,d3,d4⟩:=idx hx (by omega);obtain⟨_,e2,e3,_⟩:=idx hy (by omega);simp only [fS,d1,cond_true,aN d2,aN e2,d3,e3,d4,veq];by_cases h:x=y <;> simp [h]
  ·simp only [fS,gK,cond_false]
 ·rw [aDe he,cond_true];have : a≠b:=fun h=>he (by rw [h]);simp [this]

theorem KC (a b:List aG)(hl:a.length<=17592186044416):tK a b=some (decide (a=b)):=by
 unfold tK;by_cases he:a.length=b.length
 ·rw [aDs he,cond_false];unfold AA;have:=aB8 (f:=a) (g:=b) (body:=fun s=>rW a b s) he ?_ ?_ a.length 0 rfl (Nat.zero_le _)
  ·simp only [Int.natCast_zero,List.drop_zero] at this;rw [this];by_cases h:a=b <;> simp [h,vZ]
  ·intro i x y hx hy;obtain⟨d1,d2,d3,d4⟩:=idx hx (by omega);obtain⟨_,e2,e3,_⟩:=idx hy (by omega);simp only [rW,d1,cond_true,aN d2,aN e2,d3,e3,d4,veq];by_cases h:x=y <;> simp [h]
  ·simp only [rW,gK,cond_false]
 ·rw [aDe he,cond_true];have : a≠b:=fun h=>he (by rw [h]);simp [this]

structure LQ {α:Type} (c:α->α->Int):Prop where
 eq:∀ a b,c a b=0↔a=b
 anti:∀ a b,c a b<0↔0<c b a
 trans:∀ a b d,c a b<0->c b d<0->c a d<0

def pL (x y:Int):Int:=if x<y then -1 else if y<x then 1 else 0

theorem GB:LQ pL where
 eq a b:=by unfold pL; (repeat' split) <;> omega
 anti a b:=by unfold pL; (repeat' split) <;> omega
 trans a b d:=by unfold pL; (repeat' split) <;> omega

def jF {α:Type}[DecidableEq α](c:α->α->Int):List α->List α->Int
 | [],[]=>0
 | [],_::_ => -1
 | _::_,[]=>1
 | a::r,b::s=>if a=b then jF c r s else c a b

theorem LQ.list {α:Type}[DecidableEq α]{c:α->α->Int}(h:LQ c):LQ (jF c) where
 eq:=by
  intro a
  induction a with
  | nil=>intro b; cases b <;> simp [jF]
  | cons x r ih =>
   intro b
   cases b with
   | nil=>simp [jF]
   | cons y s =>
    unfold jF;split
    ·rename_i e; subst e; rw [ih]; simp
    ·rename_i e
     have:=h.eq x y;constructor
     ·intro h0; exact absurd (this.1 h0) e
     ·intro h0; cases h0; exact absurd rfl e
 anti:=by
  intro a
  induction a with
  | nil=>intro b; cases b <;> simp [jF]
  | cons x r ih =>
   intro b
   cases b with
   | nil=>simp [jF]
   | cons y s =>
    unfold jF;by_cases e:x=y
    ·subst e; simp only [if_true]; exact ih s
    ·rw [if_neg e,if_neg (fun e'=>e e'.symm)]; exact h.anti x y
 trans:=by
  intro a
  induction a with
  | nil =>
   intro b d
   cases b <;> cases d <;> simp [jF]
  | cons x r ih =>
   intro b d
   cases b with
   | nil=>simp [jF]
   | cons y s =>
    cases d with
    | nil=>simp [jF]
    | cons z t =>
     unfold jF;by_cases e1:x=y
     ·subst e1;rw [if_pos rfl];by_cases e2:x=z
      ·subst e2; rw [if_pos rfl,if_pos rfl]; exact ih s t
      ·rw [if_neg e2,if_neg e2]; exact fun _ h=>h
     ·rw [if_neg e1];by_cases e2:y=z
      ·have hz:¬ x=z:=fun e=>e1 (e.trans e2.symm);intro h _;rw [if_neg hz,←e2]; exact h
      ·rw [if_neg e2];intro h1 h2;by_cases e3:x=z
       ·subst e3;have h3:=(h.anti x y).1 h1;omega
       ·rw [if_neg e3]; exact h.trans x y z h1 h2

def DQ (a b:UInt8):Int:=if a<b then -1 else if b<a then 1 else 0

theorem OV:LQ DQ where
 eq a b:=by
  unfold DQ;constructor
  ·intro h;split at h
   ·cases h
   ·split at h
    ·cases h
    ·rename_i h1 h2
     rw [UInt8.lt_iff_toNat_lt] at h1 h2;exact UInt8.toNat_inj.1 (by omega)
  ·rintro rfl;have : ¬ a<a:=by rw [UInt8.lt_iff_toNat_lt]; omega
   simp [this]
 anti a b:=by
  unfold DQ;simp only [UInt8.lt_iff_toNat_lt]
  (repeat' split) <;> omega
 trans a b d:=by
  unfold DQ;simp only [UInt8.lt_iff_toNat_lt]
  (repeat' split) <;> omega

theorem GW:∀ (a b:List UInt8),Go.Lib.compareBytes a b=jF DQ a b
 | [],[]=>rfl
 | [],_::_=>rfl
 | _::_,[]=>rfl
 | a::r,b::s=>by
  unfold Go.Lib.compareBytes jF;rw [GW r s];by_cases e:a=b
  ·subst e;have : ¬ a<a:=by rw [UInt8.lt_iff_toNat_lt]; omega
   simp [this]
  ·rw [if_neg e];unfold DQ
   have : ¬ (¬ a<b /\ ¬ b<a):=by
    rintro ⟨h1,h2⟩;rw [UInt8.lt_iff_toNat_lt] at h1 h2;exact e (UInt8.toNat_inj.1 (by omega))
   by_cases h1:a<b
   ·simp [h1]
   ·have h2:b<a:=Classical.byContradiction fun h2=>this ⟨h1,h2⟩;simp [h1,h2]

def SW (a b:ByteArray):Int:=jF DQ a.data.toList b.data.toList

theorem aF0 (a b:ByteArray):TN a b=SW a b:=GW _ _

theorem data_inj {x y:ByteArray}(h:x.data.toList=y.data.toList):x=y:=by
 cases x; cases y
 congr 1
 exact Array.toList_inj.1 h

theorem IT:LQ SW where
 eq a b:=by unfold SW; rw [(OV.list).eq]; exact ⟨data_inj,fun h=>by rw [h]⟩
 anti a b:=(OV.list).anti _ _
 trans a b d:=(OV.list).trans _ _ _

def AP (a b:aG):Int:=if a.Kind=b.Kind then (if a.Num=b.Num then SW a.Text b.Text else pL a.Num b.Num) else pL a.Kind b.Kind

theorem IQ:LQ AP where
 eq a b:=by
  obtain⟨a1,a2,a3⟩:=a;obtain⟨b1,b2,b3⟩:=b;unfold AP;simp only [aG.mk.injEq];by_cases h1:a1=b1
  ·by_cases h2:a2=b2
   ·simp [h1,h2,IT.eq]
   ·simp [h1,h2,GB.eq]
  ·simp [h1,GB.eq]
 anti a b:=by
  unfold AP;by_cases h1:a.Kind=b.Kind
  ·rw [if_pos h1,if_pos h1.symm];by_cases h2:a.Num=b.Num
   ·rw [if_pos h2,if_pos h2.symm]; exact IT.anti _ _
   ·rw [if_neg h2,if_neg (fun h=>h2 h.symm)]; exact GB.anti _ _
  ·rw [if_neg h1,if_neg (fun h=>h1 h.symm)]; exact GB.anti _ _
 trans a b d:=by
  unfold AP;intro h1 h2;have lt:∀ {x y:Int},pL x y<0->x<y:=fun {x y} h=>by unfold pL at h; split at h <;> (try split at h) <;> omega
  have mk:∀ {x y:Int},x<y->pL x y<0:=fun {x y} h=>by unfold pL; rw [if_pos h]; omega
  by_cases e1:a.Kind=b.Kind
  ·rw [if_pos e1] at h1;by_cases e2:b.Kind=d.Kind
   ·rw [if_pos e2] at h2;rw [if_pos (e1.trans e2)];by_cases f1:a.Num=b.Num
    ·rw [if_pos f1] at h1;by_cases f2:b.Num=d.Num
     ·rw [if_pos f2] at h2;rw [if_pos (f1.trans f2)];exact IT.trans _ _ _ h1 h2
     ·rw [if_neg f2] at h2;rw [f1,if_neg f2]; exact h2
    ·rw [if_neg f1] at h1;have g1:=lt h1;by_cases f2:b.Num=d.Num
     ·rw [←f2,if_neg f1]; exact h1
     ·rw [if_neg f2] at h2;have g2:=lt h2;rw [if_neg (by omega)];exact mk (by omega)
   ·rw [if_neg e2] at h2;rw [e1,if_neg e2]; exact h2
  ·rw [if_neg e1] at h1;have g1:=lt h1;by_cases e2:b.Kind=d.Kind
   ·rw [←e2,if_neg e1]; exact h1
   ·rw [if_neg e2] at h2;have g2:=lt h2;rw [if_neg (by omega)];exact mk (by omega)

def jD (a b:List aG):Int:=jF AP a b

theorem vF:LQ jD:=IQ.list

end Go.Abs
namespace Go.Abs
open Go
theorem aDG (x y:Int):qG x y=some (pL x y):=by
 unfold qG lK pL;by_cases h1:x<y
 ·simp [h1]
 ·by_cases h2:y<x <;> simp [h1,h2]

theorem aDD (x y:Int):gY x y=some (pL x y):=by
 unfold gY lY pL;by_cases h1:x<y
 ·simp [h1]
 ·by_cases h2:y<x <;> simp [h1,h2]

theorem ES {v:aG}(h:HQ v=true):v.Kind=1/\v.Text=(⟨#[]⟩:ByteArray):=by
 simp only [HQ,UH,Bool.and_eq_true,decide_eq_true_eq] at h; exact h

theorem CO {v:aG}(h:HE v=true):v.Kind=2/\v.Num=0/\v.Text.size<=64:=by
 simp only [HE,Bool.and_eq_true,decide_eq_true_eq] at h; exact ⟨h.1.1,h.1.2,by omega⟩

theorem MS {v:aG}(h:uZ v=true):HQ v=true∨(HQ v=false/\HE v=true):=by
 unfold uZ at h
 cases hn:HQ v
 ·rw [hn] at h; exact .inr ⟨rfl,by simpa using h⟩
 ·exact .inl rfl

theorem aDd (a:ByteArray):SW a a=0:=(IT.eq a a).2 rfl

theorem GQ (a:Int):pL a a=0:=(GB.eq a a).2 rfl

theorem aDx {a b:aG}(ha:uZ a=true)(hb:uZ b=true):sI a b=some (AP a b):=by
 unfold sI;simp only [of_eq,Option.bind_some];rcases MS ha with h1 | ⟨h1,h1'⟩ <;> rcases MS hb with h2 | ⟨h2,h2'⟩
 ·obtain⟨k1,t1⟩:=ES h1;obtain⟨k2,t2⟩:=ES h2;simp only [h1,h2,if_true,Bool.not_true,Bool.or_self,cond_false,aDD,Option.bind_some];unfold AP;rw [k1,k2,t1,t2,if_pos rfl,aDd];by_cases hn:a.Num=b.Num
  ·rw [if_pos hn,hn,GQ]
  ·rw [if_neg hn]
 ·obtain⟨k1,t1⟩:=ES h1;obtain⟨k2,n2,_⟩:=CO h2';simp only [h1,h2,h2',if_true,Bool.false_eq_true,if_false,Bool.not_true,Bool.or_self,cond_false];unfold AP;rw [k1,k2]; rfl
 ·obtain⟨k1,n1,_⟩:=CO h1';obtain⟨k2,t2⟩:=ES h2;simp only [h1,h1',h2,if_true,Bool.false_eq_true,if_false,Bool.not_true,Bool.or_self,cond_false];unfold AP;rw [k1,k2]; rfl
 ·obtain⟨k1,n1,_⟩:=CO h1';obtain⟨k2,n2,_⟩:=CO h2';simp only [h1,h1',h2,h2',if_true,Bool.false_eq_true,if_false,Bool.not_true,Bool.or_self,cond_false];unfold AP oB kO;rw [k1,k2,n1,n2,if_pos rfl,if_pos rfl];simp [aF0]

theorem CI {r:List aG}(h:lA r=true):r.length<=8 /\ ∀ v∈r,uZ v=true:=by
 simp only [lA,Bool.and_eq_true,decide_eq_true_eq,List.all_eq_true] at h; exact h

theorem aAc {a b:List aG}{k:Nat}(hk:k=a.length∨k=b.length)(h1:k<=a.length)(h2:k<=b.length):jD (a.drop k) (b.drop k)=pL a.length b.length:=by
 rcases hk with rfl | rfl
 ·rw [List.drop_length];by_cases h:a.length=b.length
  ·rw [h,List.drop_length,GQ]; rfl
  ·rw [List.drop_eq_getElem_cons (by omega)];show (-1:Int)=_;unfold pL; rw [if_pos (by omega)]
 ·rw [List.drop_length];by_cases h:a.length=b.length
  ·rw [←h,List.drop_length,GQ]; rfl
  ·rw [List.drop_eq_getElem_cons (by omega)];show (1:Int)=_;unfold pL; rw [if_neg (by omega),if_pos (by omega)]

theorem aBy {a b:List aG}(hl:a.length<=8)(hlb:b.length<=8)(n:Nat)(hn:n=min a.length b.length):∀ (m k:Nat),n-k=m->k<=n ->
  ∃ x,lp (fun s:Int×Int=>cP (fun st y0=>(kZ y0 st b).bind fun o=>some (o.2,o.1)) (a.take n) (n:Nat) s.1 s.2) ((k:Int)-1,(k:Int))=some x /\
   ((∃ sg,x=.inl sg/\jD (a.drop k) (b.drop k)=pL a.length b.length) ∨
    (∃ i:Nat,x=.inr ((i:Int),(i:Int))/\i<a.length/\i<b.length/\jD (a.drop k) (b.drop k)=AP (a.getD i default) (b.getD i default)))
 | 0,k,hm,hk=>by
  have : k=n:=by omega
  subst this;refine⟨.inl ((k:Int)-1),cV ?_,.inl ⟨_,rfl,aAc (by omega) (by omega) (by omega)⟩⟩;show cP _ _ _ _ _=_;simp only [cP,gK,cond_false]
 | m+1,k,hm,hk=>by
  have h1:k<a.length:=by omega
  have h2:k<b.length:=by omega
  have ht:(a.take n)[k]?=some a[k]:=by
   rw [List.getElem?_take_of_lt (by omega)]; exact List.getElem?_eq_getElem h1
  obtain⟨d1,d2,d3,d4⟩:=idx ht (by simp; omega);have hlt:(a.take n).length=n:=by simp; omega
  rw [hlt] at d1 d2;obtain⟨_,e2,e3,_⟩:=idx (List.getElem?_eq_getElem h2) (by omega);have hw:IntKind.i64.wrap ((k:Int)-1+1)=(k:Int):=by rw [cI (by omega) (by omega)]; omega
  have hb:(fun s:Int×Int=>cP (fun st y0=>(kZ y0 st b).bind fun o=>some (o.2,o.1)) (a.take n) (n:Nat) s.1 s.2) ((k:Int)-1,(k:Int)) =
    some (if a[k]=b[k] then .inl ((k:Int),((k+1:Nat):Int)) else .inr (.inr ((k:Int),(k:Int)))):=by
   show cP _ _ _ _ _=_;simp only [cP,d1,cond_true,hlt,aN d2,d3,d4,kZ,hw,aN e2,e3,veq,Option.bind_some];by_cases h:a[k]=b[k] <;> simp [h]
  have ea:a.drop k=a[k]::a.drop (k+1):=List.drop_eq_getElem_cons h1;have eb:b.drop k=b[k]::b.drop (k+1):=List.drop_eq_getElem_cons h2;by_cases h:a[k]=b[k]
  ·rw [if_pos h] at hb;obtain⟨x,e,hx⟩:=aBy hl hlb n hn m (k+1) (by omega) (by omega)
   have hc:jD (a.drop k) (b.drop k)=jD (a.drop (k+1)) (b.drop (k+1)):=by
    rw [ea,eb]; unfold jD; rw [jF,if_pos h]
   refine⟨x,?_,by rw [hc]; exact hx⟩;rw [eW hb];rw [show ((k+1:Nat):Int)-1=(k:Int) by omega] at e;exact e
  ·rw [if_neg h] at hb;refine⟨_,cV hb,.inr ⟨k,rfl,h1,h2,?_⟩⟩;rw [ea,eb]; unfold jD; rw [jF,if_neg h];simp [List.getD_eq_getElem?_getD,h1,h2]

theorem aCQ (a b:List aG):vU a b=some (if lA a&&lA b then jD a b else 0):=by
 unfold vU;rw [TP];simp only [Option.bind_some]
 cases ha:lA a
 ·simp [cW]
 ·simp only [Bool.not_true,Bool.not_false,cW,cond_true,TP,Option.bind_some,Bool.false_or]
  cases hb:lA b
  ·simp
  ·obtain⟨la,ma⟩:=CI ha;obtain⟨lb,mb⟩:=CI hb;have hif:(if ((List.length b:Nat):Int)<((List.length a:Nat):Int) then ((List.length b:Nat):Int) else ((List.length a:Nat):Int))=((min a.length b.length:Nat):Int):=by split <;> omega
   have hlt:(a.take (min a.length b.length)).length=min a.length b.length:=by rw [List.length_take]; omega
   simp only [Bool.not_true,cond_false,hif,Int.toNat_natCast,xF,Option.bind_some,iW,iU,hlt,Bool.and_self,if_true];rw [aN ⟨by omega,by omega⟩];obtain⟨x,e,hx⟩:=aBy (a:=a) (b:=b) la lb _ rfl _ 0 rfl (Nat.zero_le _);have e':lp (fun s:Int×Int=>cP (fun st y0=>(kZ y0 st b).bind fun o=>some (o.2,o.1)) (a.take (min a.length b.length)) (min a.length b.length:Nat) s.1 s.2) ((-1:Int),(0:Int))=some x:=e;rw [e'];simp only [List.drop_zero] at hx;rcases hx with ⟨sg,rfl,h⟩ | ⟨i,rfl,h1,h2,h⟩
   ·simp [fQ,aDG,h]
   ·have hi:decide ((i:Int)<0)=false:=by simp
    simp only [Option.bind_some,Sum.elim_inr,hi,cond_false,Int.toNat_natCast];rw [aN ⟨by omega,by omega⟩,aN ⟨by omega,by omega⟩];have g1:a.getD i default∈a:=by simp [List.getD_eq_getElem?_getD,h1]
    have g2:b.getD i default∈b:=by simp [List.getD_eq_getElem?_getD,h2]
    rw [aDx (ma _ g1) (mb _ g2),h];simp only [Option.bind_some]

theorem aE8 {s:ByteArray}{i:Nat}(h:i<s.data.toList.length):bt s (i:Int)=((s.data.toList[i]).toNat:Int):=by
 have h':i<s.data.size:=by simpa using h
 unfold bt;simp only [Int.toNat_natCast,Array.getElem_toList];rw [Array.getD_eq_getD_getElem?,Array.getElem?_eq_getElem h'];rfl

theorem ZH {a b:aG}(ha:a.Text.size<=64)(hb:b.Text.size<=64):∀ (m k:Nat),min a.Text.size b.Text.size-k=m->k<=min a.Text.size b.Text.size ->
  ∃ x,lp (fun s=>jM a b s) (k:Int)=some x /\
   ((x=.inl ()/\jF DQ (a.Text.data.toList.drop k) (b.Text.data.toList.drop k)=pL a.Text.size b.Text.size)∨(∃ v,x=.inr v/\jF DQ (a.Text.data.toList.drop k) (b.Text.data.toList.drop k)=v))
 | 0,k,hm,hk=>by
  have hsa:a.Text.data.toList.length=a.Text.size:=by rw [Array.length_toList]; rfl
  have hsb:b.Text.data.toList.length=b.Text.size:=by rw [Array.length_toList]; rfl
  refine⟨.inl (),cV ?_,.inl ⟨rfl,?_⟩⟩
  ·show jM a b _=_
   have : ((decide ((k:Int)<((ByteArray.size a.Text:Nat):Int)))&&(decide ((k:Int)<((ByteArray.size b.Text:Nat):Int))))=false:=by
    rw [Bool.and_eq_false_iff];simp only [decide_eq_false_iff_not];omega
   simp only [jM,this,cond_false]
  ·by_cases h1:a.Text.size<=k
   ·rw [List.drop_eq_nil_of_le (by omega)];by_cases h2:b.Text.size<=k
    ·rw [List.drop_eq_nil_of_le (by omega)];have : a.Text.size=b.Text.size:=by omega
     rw [this,GQ]; rfl
    ·rw [List.drop_eq_getElem_cons (by omega)];show (-1:Int)=_;unfold pL; rw [if_pos (by omega)]
   ·have h2:b.Text.size<=k:=by omega
    rw [@List.drop_eq_nil_of_le _ b.Text.data.toList k (by omega),List.drop_eq_getElem_cons (by omega)];show (1:Int)=_;unfold pL; rw [if_neg (by omega),if_pos (by omega)]
 | m+1,k,hm,hk=>by
  have hsa:a.Text.data.toList.length=a.Text.size:=by rw [Array.length_toList]; rfl
  have hsb:b.Text.data.toList.length=b.Text.size:=by rw [Array.length_toList]; rfl
  have h1:k<a.Text.data.toList.length:=by omega
  have h2:k<b.Text.data.toList.length:=by omega
  have c1:decide ((k:Int)<((ByteArray.size a.Text:Nat):Int))=true:=by simp; omega
  have c2:decide ((k:Int)<((ByteArray.size b.Text:Nat):Int))=true:=by simp; omega
  have p1:0<=(k:Int)/\(k:Int)<((ByteArray.size a.Text:Nat):Int):=⟨by omega,by omega⟩;have p2:0<=(k:Int)/\(k:Int)<((ByteArray.size b.Text:Nat):Int):=⟨by omega,by omega⟩;have hw:IntKind.i64.wrap ((k:Int)+1)=((k+1:Nat):Int):=by rw [cI (by omega) (by omega)]; omega
  have ea:=List.drop_eq_getElem_cons h1;have eb:=List.drop_eq_getElem_cons h2
  have hb':jM a b (k:Int)=some (if a.Text.data.toList[k]=b.Text.data.toList[k] then .inl ((k+1:Nat):Int) else .inr (.inr (DQ a.Text.data.toList[k] b.Text.data.toList[k]))):=by
   simp only [jM,c1,c2,Bool.and_self,cond_true,aN p1,aN p2,aE8 h1,aE8 h2,hw]
   generalize a.Text.data.toList[k]=x
   generalize b.Text.data.toList[k]=y
   by_cases e:x=y
   ·subst e; simp
   ·have e':¬ ((x.toNat:Int)=(y.toNat:Int)):=fun h=>e (UInt8.toNat_inj.1 (by omega));simp only [e',decide_false,Bool.not_false,cond_true,if_neg e];unfold DQ;simp only [UInt8.lt_iff_toNat_lt];by_cases l:x.toNat<y.toNat
    ·have : ((x.toNat:Int)<(y.toNat:Int)):=by omega
     simp [l]
    ·have l2:y.toNat<x.toNat:=by
      rcases Nat.lt_or_ge y.toNat x.toNat with h | h
      ·exact h
      ·exact absurd (UInt8.toNat_inj.1 (by omega)) e
     simp [l,l2]
  by_cases e:a.Text.data.toList[k]=b.Text.data.toList[k]
  ·rw [if_pos e] at hb';obtain⟨x,hx1,hx2⟩:=ZH ha hb m (k+1) (by omega) (by omega);refine⟨x,by rw [eW (show (fun s=>jM a b s) (k:Int)=_ from hb')]; exact hx1,?_⟩;rw [ea,eb,jF,if_pos e]; exact hx2
  ·rw [if_neg e] at hb';refine⟨_,cV (show (fun s=>jM a b s) (k:Int)=_ from hb'),.inr ⟨_,rfl,?_⟩⟩;rw [ea,eb,jF,if_neg e]

theorem UP {v:aG}(h:uZ v=true):v.Text.size<=64:=by
 rcases MS h with h | ⟨_,h⟩
 ·rw [(ES h).2]; decide
 ·exact (CO h).2.2

theorem VL {v:aG}(h:uZ v=true):v.Kind=1∨v.Kind=2:=by
 rcases MS h with h | ⟨_,h⟩
 ·exact .inl (ES h).1
 ·exact .inr (CO h).1

theorem YT {a b:aG}(ha:uZ a=true)(hb:uZ b=true):sQ a b=some (AP a b):=by
 unfold sQ;simp only [RI,ha,hb,Option.bind_some,Bool.not_true,Bool.not_false,cW,cond_true,Bool.or_self,cond_false];unfold AP;by_cases hk:a.Kind=b.Kind
 ·rw [if_pos hk];by_cases hn:a.Num=b.Num
  ·rw [if_pos hn];simp only [hk,hn,decide_true,Bool.not_true,cond_false,uV];obtain⟨x,e,hx⟩:=ZH (UP ha) (UP hb) _ 0 rfl (Nat.zero_le _);simp only [Int.natCast_zero,List.drop_zero] at e hx;rw [e];have ht:SW a.Text b.Text=jF DQ a.Text.data.toList b.Text.data.toList:=rfl;rcases hx with ⟨rfl,h⟩ | ⟨v,rfl,h⟩
   ·rw [ht,h];simp only [Option.bind_some,Sum.elim_inl,rI];unfold pL;by_cases h1:a.Text.size=b.Text.size
    ·have h1':((a.Text.size:Nat):Int)=((b.Text.size:Nat):Int):=by omega
     simp [h1']
    ·have h1':¬ ((a.Text.size:Nat):Int)=((b.Text.size:Nat):Int):=by omega
     by_cases h2:((a.Text.size:Nat):Int)<((b.Text.size:Nat):Int)
     ·simp only [h1',h2,decide_false,decide_true,Bool.not_false,cond_true,if_true]
     ·have h3:((b.Text.size:Nat):Int)<((a.Text.size:Nat):Int):=by omega
      simp only [h1',h2,h3,decide_false,Bool.not_false,cond_true,cond_false,if_true,if_false]
   ·rw [ht,h]; rfl
  ·rw [if_neg hn];simp only [hk,hn,decide_true,decide_false,Bool.not_true,Bool.not_false,cond_false,cond_true];unfold pL;by_cases h1:a.Num<b.Num
   ·simp [h1]
   ·have h2:b.Num<a.Num:=by omega
    simp [h1,h2]
 ·rw [if_neg hk];simp only [hk,decide_false,Bool.not_false,cond_true];rcases VL ha with h1 | h1 <;> rcases VL hb with h2 | h2
  ·exact absurd (h1.trans h2.symm) hk
  ·rw [h1,h2]; rfl
  ·rw [h1,h2]; rfl
  ·exact absurd (h1.trans h2.symm) hk

theorem VB {a b:List aG}(ha:lA a=true)(hb:lA b=true):∀ (m k:Nat),min a.length b.length-k=m->k<=min a.length b.length ->
  ∃ x,lp (fun s=>jP a b s) (k:Int)=some x/\((x=.inl ()/\jD (a.drop k) (b.drop k)=pL a.length b.length)∨(∃ v,x=.inr v/\jD (a.drop k) (b.drop k)=v))
 | 0,k,hm,hk=>by
  refine⟨.inl (),cV ?_,.inl ⟨rfl,aAc (by omega) (by omega) (by omega)⟩⟩;show jP a b _=_
  have : ((decide ((k:Int)<((a.length:Nat):Int)))&&(decide ((k:Int)<((b.length:Nat):Int))))=false:=by
   rw [Bool.and_eq_false_iff];simp only [decide_eq_false_iff_not];omega
  simp only [jP,this,cond_false]
 | m+1,k,hm,hk=>by
  obtain⟨la,ma⟩:=CI ha;obtain⟨lb,mb⟩:=CI hb;have h1:k<a.length:=by omega
  have h2:k<b.length:=by omega
  obtain⟨d1,d2,d3,d4⟩:=idx (List.getElem?_eq_getElem h1) (by omega);obtain⟨e1,e2,e3,_⟩:=idx (List.getElem?_eq_getElem h2) (by omega);have ea:=List.drop_eq_getElem_cons h1;have eb:=List.drop_eq_getElem_cons h2
  have hb':jP a b (k:Int)=some (if a[k]=b[k] then .inl ((k+1:Nat):Int) else .inr (.inr (AP a[k] b[k]))):=by
   simp only [jP,d1,e1,Bool.and_self,cond_true,aN d2,aN e2,d3,e3,d4,YT (ma _ (List.getElem_mem h1)) (mb _ (List.getElem_mem h2)),Option.bind_some];by_cases h:a[k]=b[k]
   ·have:=(IQ.eq a[k] b[k]).2 h;simp [h,(IQ.eq b[k] b[k]).2 rfl]
   ·have : ¬ AP a[k] b[k]=0:=fun h'=>h ((IQ.eq _ _).1 h');simp [h,this]
  by_cases h:a[k]=b[k]
  ·rw [if_pos h] at hb';obtain⟨x,hx1,hx2⟩:=VB ha hb m (k+1) (by omega) (by omega);refine⟨x,by rw [eW (show (fun s=>jP a b s) (k:Int)=_ from hb')]; exact hx1,?_⟩
   have hc:jD (a.drop k) (b.drop k)=jD (a.drop (k+1)) (b.drop (k+1)):=by
    rw [ea,eb]; unfold jD; rw [jF,if_pos h]
   rw [hc]; exact hx2
  ·rw [if_neg h] at hb';refine⟨_,cV (show (fun s=>jP a b s) (k:Int)=_ from hb'),.inr ⟨_,rfl,?_⟩⟩;rw [ea,eb]; unfold jD; rw [jF,if_neg h]

theorem LH (a b:List aG)(hla:a.length<=17592186044416)(hlb:b.length<=17592186044416):pW a b=some (if lA a&&lA b then jD a b else 0):=by
 unfold pW;rw [JA a (by omega)];simp only [Option.bind_some]
 cases ha:lA a
 ·simp [cW]
 ·simp only [Bool.not_true,Bool.not_false,cW,cond_true,JA b (by omega),Option.bind_some,Bool.false_or]
  cases hb:lA b
  ·simp
  ·simp only [Bool.not_true,cond_false,vG,Bool.and_self,if_true];obtain⟨x,e,hx⟩:=VB ha hb _ 0 rfl (Nat.zero_le _);simp only [Int.natCast_zero,List.drop_zero] at e hx;rw [e];rcases hx with ⟨rfl,h⟩ | ⟨v,rfl,h⟩
   ·rw [h];simp only [Option.bind_some,Sum.elim_inl,rA];unfold pL;by_cases h1:a.length<b.length
    ·simp [h1]
    ·by_cases h2:b.length<a.length <;> simp [h1,h2]
   ·rw [h]; rfl

end Go.Abs
namespace Go.Abs
open Go
def jE (e:aK):aI:=⟨e.At,e.Net⟩

def gA (r:List aG)(f:List aI):List aK->List (List aG×List aI)
 | []=>[(r,f)]
 | e::l=>if e.Row=r then gA r (f++[jE e]) l else (r,f)::gA e.Row [jE e] l

def groups:List aK->List (List aG×List aI)
 | []=>[]
 | e::l=>gA e.Row [jE e] l

def itG {σ:Type}(y:σ->List aG->List aI->Option (σ×Bool)):List (List aG×List aI)->σ->Option σ
 | [],s=>some s
 | g::gs,s=>(y s g.1 g.2).bind fun x=>if x.2 then itG y gs x.1 else some x.1

def okL (l:List aK):Prop:=l.length<=3518437208783 /\ ∀ e∈l,e.Row.length<=4398046510976

theorem JB {r:List aG}(h:r.length<=4398046510976):yJ r=some r:=by
 unfold yJ;rw [aN ⟨by omega,by omega,by omega⟩,aN (by simp only [List.length_nil,Nat.zero_add]; omega)];rfl

theorem QH {σ:Type}{y:σ->List aG->List aI->Option (σ×Bool)}{l:List aK}(hl:okL l)(row:List aG)(sg:σ):∀ (r:List aK) (k:Nat) (f:List aI),l.drop k=r->k<=l.length->f.length<=k ->
  ∃ k' f',k<=k'/\k'<=l.length/\f'.length<=k'/\lp (fun s:σ×Int×List aI=>kQ y l row s.1 s.2.1 s.2.2) (sg,(k:Int),f)=some (sg,((k':Nat):Int),f') /\
   gA row f r=(row,f')::groups (l.drop k')/\(∀ e r',r=e::r'->e.Row=row->k<k')
 | [],k,f,hd,hk,hf=>by
  have : k=l.length:=by
   have:=congrArg List.length hd;simp only [List.length_drop,List.length_nil] at this; omega
  subst this;refine⟨l.length,f,Nat.le_refl _,Nat.le_refl _,hf,cV ?_,by simp [gA,groups],fun e r' h=>by cases h⟩;show kQ _ _ _ _ _ _=_;simp only [kQ,gK,cW,cond_false,Option.bind_some,Bool.false_and];exact aN (fun h=>by cases h)
 | a::r,k,f,hd,hk,hf=>by
  obtain⟨h1,h2⟩:=drop_cons hd;have hlt:k<l.length:=(List.getElem?_eq_some_iff.1 h1).1;obtain⟨hll,hlr⟩:=hl;obtain⟨d1,d2,d3,d4⟩:=idx h1 (by omega);have har:=hlr a (List.mem_of_getElem? h1)
  have hb:(fun s:σ×Int×List aI=>kQ y l row s.1 s.2.1 s.2.2) (sg,(k:Int),f)=some (if a.Row=row then .inl (sg,((k+1:Nat):Int),f++[jE a]) else .inr (sg,(k:Int),f)):=by
   show kQ _ _ _ _ _ _=_;simp only [kQ,d1,d3,d4,cW,cond_true,JR a.Row row (by omega),Option.bind_some,Bool.true_and];rw [aN (fun _=>d2)];by_cases e:a.Row=row
   ·simp only [e,decide_true,cond_true,if_true];rw [aN d2,aN d2,aN (by simp only [List.length_cons,List.length_nil]; omega)];rfl
   ·simp [e]
  by_cases e:a.Row=row
  ·rw [if_pos e] at hb;obtain⟨k',f',g1,g2,g3,g4,g5,_⟩:=QH ⟨hll,hlr⟩ row sg r (k+1) (f++[jE a]) h2 (by omega) (by simp; omega) (y:=y);refine⟨k',f',by omega,g2,g3,by rw [eW hb]; exact g4,by simp [gA,e,g5],fun _ _ _ _=>by omega⟩
  ·rw [if_neg e] at hb;refine⟨k,f,Nat.le_refl _,hk,hf,cV hb,?_,fun b r' h hr=>by cases h; exact absurd hr e⟩;rw [hd]; simp [gA,e,groups]

theorem aBO {σ:Type}{y:σ->List aG->List aI->Option (σ×Bool)}{l:List aK}(hl:okL l):∀ (m k:Nat) (sg s':σ),l.length-k<=m->k<=l.length->itG y (groups (l.drop k)) sg=some s' ->
  ∃ x,lp (fun s:σ×Int=>jO y l s.1 s.2) (sg,(k:Int))=some x/\Sum.elim id id x=s':=by
 have stop:∀ (sg s':σ),itG y (groups (l.drop l.length)) sg=some s' -> ∃ x,lp (fun s:σ×Int=>jO y l s.1 s.2) (sg,((l.length:Nat):Int))=some x/\Sum.elim id id x=s':=by
  intro sg s' h;rw [List.drop_length] at h;simp only [groups,itG,Option.some.injEq] at h;refine⟨.inl sg,cV ?_,h⟩;show jO _ _ _ _=_;simp only [jO,gK,cond_false]
 intro m
 induction m with
 | zero =>
  intro k sg s' hm hk h;have : k=l.length:=by omega
  subst this; exact stop sg s' h
 | succ m ih =>
  intro k sg s' hm hk h;by_cases he:k=l.length
  ·subst he; exact stop sg s' h
  ·have hlt:k<l.length:=by omega
   have hd:l.drop k=l[k]::l.drop (k+1):=List.drop_eq_getElem_cons hlt;obtain⟨d1,d2,d3,d4⟩:=idx (List.getElem?_eq_getElem hlt) (by have:=hl.1; omega);obtain⟨k',f',g1,g2,g3,g4,g5,g6⟩:=QH hl l[k].Row sg (l.drop k) k [] rfl hk (by simp) (y:=y);have hk':=g6 _ _ hd rfl
   have hg:groups (l.drop k)=(l[k].Row,f')::groups (l.drop k'):=by
    rw [←g5,hd]; simp [groups,gA]
   rw [hg] at h;simp only [itG] at h;obtain⟨x,hx,h⟩:=aW h;have hrow:=hl.2 _ (List.getElem_mem hlt)
   have hb:(fun s:σ×Int=>jO y l s.1 s.2) (sg,(k:Int))=some (if x.2 then .inl (x.1,((k':Nat):Int)) else .inr (.inr x.1)):=by
    show jO _ _ _ _=_;simp only [jO,d1,cond_true,aN d2,d3,vB,g4,Option.bind_some,rM,JB hrow,hx]
    cases x.2 <;> simp
   cases hx2:x.2
   ·rw [hx2] at hb h;simp only [Bool.false_eq_true,if_false,Option.some.injEq] at hb h;exact⟨_,cV hb,h⟩
   ·rw [hx2] at hb h;simp only [if_true] at hb h;obtain⟨z,hz1,hz2⟩:=ih k' x.1 s' (by omega) g2 h;exact⟨z,by rw [eW hb]; exact hz1,hz2⟩

theorem aBE {σ:Type}{y:σ->List aG->List aI->Option (σ×Bool)}{l:List aK}(hl:okL l){s s':σ}(h:itG y (groups l) s=some s'):pV y l s=some s':=by
 unfold pV uR;obtain⟨x,h1,h2⟩:=aBO hl l.length 0 s s' (by omega) (Nat.zero_le _) (by simpa using h);simp only [Int.natCast_zero] at h1;rw [h1]
 cases x <;> simpa using h2

def ahd (last:Option (List aG))(r:List aG):Bool:=match last with
 | none=>true
 | some q=>decide (jD q r<0)

def AD (p:List aI->Bool):Option (List aG)->List (List aG×List aI)->Bool
 | _,[]=>true
 | last,g::gs=>(lA g.1&&ahd last g.1&&p g.2)&&AD p (some g.1) gs

theorem aBs {holds:List aI->Option Bool}{p:List aI->Bool}(hp:∀ f,holds f=some (p f))(c:List aK)(t:Bool):∀ (gs:List (List aG×List aI)) (last:List aG) (b:Bool),(b=true->lA last=true) ->
  ∃ x,itG (fun st r f=>rnd (fun (s:Bool×(List aG)×Bool)=>rN holds c s.1 s.2.1 s.2.2 r f) st) gs (.inl (t,last,b))=some x /\
   (if AD p (if b then some last else none) gs then ∃ u,x=.inl (t,u) else ∃ u,x=.inr (false,u))
 | [],last,b,_=>⟨_,rfl,by simp [AD]⟩
 | g::gs,last,b,hb=>by
  have hy:rN holds c t last b g.1 g.2=some (if lA g.1&&ahd (if b then some last else none) g.1&&p g.2 then .inl (t,g.1,true) else .inr (false,last,b)):=by
   unfold rN;simp only [TP,Option.bind_some,aCQ,hp]
   cases hm:lA g.1
   ·simp [cW]
   ·cases b
    ·cases h2:p g.2 <;> simp [cW,ahd,h2]
    ·have hl:=hb rfl;by_cases h1:jD last g.1<0
     ·have h1':¬ (0<=jD last g.1):=by omega
      cases h2:p g.2 <;> simp [cW,ahd,h2,hl,h1,h1']
     ·have h1':0<=jD last g.1:=by omega
      simp [cW,ahd,hl,h1,h1']
  cases hc:(lA g.1&&ahd (if b then some last else none) g.1&&p g.2)
  ·rw [hc] at hy;simp only [itG,rnd,hy,Option.bind_some,AD,hc];exact⟨.inr (false,last,b),by simp,by simp⟩
  ·rw [hc] at hy;simp only [itG,rnd,hy,Option.bind_some,AD,hc];have hm:lA g.1=true:=by simp only [Bool.and_eq_true] at hc; exact hc.1.1
   obtain⟨x,h1,h2⟩:=aBs hp c t gs g.1 true (fun _=>hm);refine⟨x,?_,?_⟩
   ·simpa [rnd] using h1
   ·simpa using h2

theorem aBH {l:List aK}(hl:okL l){holds:List aI->Option Bool}{p:List aI->Bool}(hp:∀ f,holds f=some (p f)):wO l holds=some (decide (l.length<=4096)&&AD p none (groups l)):=by
 unfold wO;by_cases h:l.length<=4096
 ·have h1:decide ((4096:Int)<((l.length:Nat):Int))=false:=by simp; omega
  rw [h1,cond_false];simp only [wS,Option.bind_some,BP];obtain⟨x,e1,e2⟩:=aBs hp l false (groups l) [] false (fun h=>by cases h);rw [aBE hl e1];simp only [Bool.false_eq_true,if_false] at e2;simp only [h,decide_true,Bool.true_and]
  cases hc:AD p none (groups l)
  ·rw [hc] at e2;simp only [Bool.false_eq_true,if_false] at e2;obtain⟨u,rfl⟩:=e2;rfl
  ·rw [hc] at e2;simp only [if_true] at e2;obtain⟨u,rfl⟩:=e2;rfl
 ·have h1:decide ((4096:Int)<((l.length:Nat):Int))=true:=by simp; omega
  rw [h1,cond_true];simp [h]

def jZ (l:List aK):Bool:=decide (l.length<=4096)&&AD iG none (groups l)

theorem IE {l:List aK}(hl:okL l):qK l=some (jZ l):=by
 unfold qK;rw [aBH hl (p:=iG) (fun f=>QB f)]; rfl

def TG (f:List aI):Bool:=iG f&&decide (0<=yC f)

def kS (l:List aK):Bool:=decide (l.length<=4096)&&AD TG none (groups l)

theorem HB {l:List aK}(hl:okL l):pO l=some (kS l):=by
 unfold pO
 rw [aBH hl (p:=TG) (fun f=>by
  unfold tL TG;rw [QB]
  cases h:iG f <;> simp [cW,aEy,h])]
 rfl

def qN (r:List aG)(f:List aI):List aK:=f.map fun j=>⟨r,j.At,j.Net⟩

def flat (gs:List (List aG×List aI)):List aK:=gs.flatMap fun g=>qN g.1 g.2

theorem SY:∀ (l:List aK) (r:List aG) (f:List aI),flat (gA r f l)=qN r f++l
 | [],r,f=>by simp [gA,flat]
 | e::l,r,f=>by
  unfold gA;split
  ·rename_i h
   rw [SY l r];simp [qN,jE,←h]
  ·have:=SY l e.Row [jE e];simp only [flat,List.flatMap_cons] at this ⊢;rw [this];simp [qN,jE]

theorem DB (l:List aK):flat (groups l)=l:=by
 cases l with
 | nil=>rfl
 | cons e l=>unfold groups; rw [SY]; simp [qN,jE]

theorem YX {r:List aG}:∀ {l:List aK} {f:List aI} {g:List aG×List aI},g∈gA r f l->f≠[]->g.2≠[]/\(g.1=r ∨ ∃ e∈l,g.1=e.Row)
 | [],f,g,h,hf=>by simp only [gA,List.mem_singleton] at h; subst h; exact ⟨hf,.inl rfl⟩
 | e::l,f,g,h,hf=>by
  unfold gA at h;split at h
  ·obtain⟨h1,h2⟩:=YX h (by simp);exact⟨h1,h2.imp id fun ⟨x,hx,hx'⟩=>⟨x,by simp [hx],hx'⟩⟩
  ·rcases List.mem_cons.1 h with rfl | h
   ·exact⟨hf,.inl rfl⟩
   ·obtain⟨h1,h2⟩:=YX (r:=e.Row) h (by simp);refine⟨h1,.inr ?_⟩;rcases h2 with h2 | ⟨x,hx,hx'⟩
    ·exact⟨e,by simp,h2⟩
    ·exact⟨x,by simp [hx],hx'⟩

theorem RW {l:List aK}{g:List aG×List aI}(h:g∈groups l):g.2≠[] /\ ∃ e∈l,g.1=e.Row:=by
 cases l with
 | nil=>simp [groups] at h
 | cons e l =>
  obtain⟨h1,h2⟩:=YX h (by simp);refine⟨h1,?_⟩;rcases h2 with h2 | ⟨x,hx,hx'⟩
  ·exact⟨e,by simp,h2⟩
  ·exact⟨x,by simp [hx],hx'⟩

end Go.Abs
namespace Go.Abs
open Go
def gJ (l:List aK)(r:List aG):List aI:=(l.filter fun e=>decide (e.Row=r)).map jE

theorem HV (a b:List aK)(r:List aG):gJ (a++b) r=gJ a r++gJ b r:=by simp [gJ]

theorem WH (q:List aG)(f:List aI)(r:List aG):gJ (qN q f) r=if q=r then f else []:=by
 induction f with
 | nil=>simp [gJ,qN]
 | cons j f ih =>
  have h1:qN q (j::f)=[⟨q,j.At,j.Net⟩]++qN q f:=rfl;rw [h1,HV,ih];by_cases h:q=r <;> simp [gJ,jE,h]

def look:List (List aG×List aI)->List aG->List aI
 | [],_=>[]
 | g::gs,r=>if g.1=r then g.2 else look gs r

theorem GY (g:List aG×List aI)(gs:List (List aG×List aI))(r:List aG):look (g::gs) r=if g.1=r then g.2 else look gs r:=rfl

abbrev ltG (a b:List aG×List aI):Prop:=jD a.1 b.1<0

abbrev EY (gs:List (List aG×List aI)):Prop:=gs.Pairwise ltG

theorem CM {a:List aG}:¬ jD a a<0:=by rw [(vF.eq a a).2 rfl]; omega

theorem VN:∀ {gs:List (List aG×List aI)} {r:List aG},(∀ g∈gs,g.1≠r)->look gs r=[]
 | [],_,_=>rfl
 | g::gs,r,h=>by
  rw [GY];rw [if_neg (h g (by simp))];exact VN fun q hq=>h q (by simp [hq])

theorem RB (gs:List (List aG×List aI))(r:List aG):(look gs r=[] /\ ∀ g∈gs,g.1≠r) ∨ ∃ g∈gs,g.1=r/\look gs r=g.2:=by
 induction gs with
 | nil=>exact .inl ⟨rfl,by simp⟩
 | cons g gs ih =>
  rw [GY];by_cases h:g.1=r
  ·rw [if_pos h]; exact .inr ⟨g,by simp,h,rfl⟩
  ·rw [if_neg h];rcases ih with ⟨h1,h2⟩ | ⟨q,hq,h1,h2⟩
   ·refine .inl ⟨h1,fun q hq=>?_⟩;rcases List.mem_cons.1 hq with rfl | hq
    ·exact h
    ·exact h2 q hq
   ·exact .inr ⟨q,by simp [hq],h1,h2⟩

theorem OI {gs:List (List aG×List aI)}(hs:EY gs){g:List aG×List aI}(hg:g∈gs):look gs g.1=g.2:=by
 induction gs with
 | nil=>simp at hg
 | cons q gs ih =>
  have hs':=List.pairwise_cons.1 hs;rw [GY];rcases List.mem_cons.1 hg with rfl | hg
  ·rw [if_pos rfl]
  ·rw [if_neg (fun e=>by have:=hs'.1 g hg; simp only [ltG,e] at this; exact CM this)];exact ih hs'.2 hg

theorem VA (g:List aG×List aI)(gs:List (List aG×List aI)):flat (g::gs)=qN g.1 g.2++flat gs:=rfl

theorem LW:∀ {gs:List (List aG×List aI)},EY gs -> ∀ r,gJ (flat gs) r=look gs r
 | [],_,r=>rfl
 | g::gs,hs,r=>by
  have hs':=List.pairwise_cons.1 hs;rw [VA,HV,WH,LW hs'.2,GY];by_cases h:g.1=r
  ·rw [if_pos h,if_pos h,VN,List.append_nil];intro q hq e;have:=hs'.1 q hq;simp only [ltG,h,e] at this; exact CM this
  ·rw [if_neg h,if_neg h]; rfl

theorem AU {p:List aI->Bool}:∀ {gs:List (List aG×List aI)} {last:Option (List aG)},AD p last gs=true↔(∀ g∈gs,lA g.1=true/\p g.2=true)/\EY gs/\(∀ q,last=some q -> ∀ g∈gs,jD q g.1<0)
 | [],last=>by simp [AD]
 | g::gs,last=>by
  unfold AD;simp only [Bool.and_eq_true,AU (gs:=gs),List.mem_cons,List.pairwise_cons];constructor
  ·rintro ⟨⟨⟨h1,h2⟩,h3⟩,h4,h5,h6⟩;refine⟨?_,⟨fun q hq=>h6 _ rfl q hq,h5⟩,?_⟩
   ·rintro q (rfl | hq)
    ·exact⟨h1,h3⟩
    ·exact h4 q hq
   ·rintro q rfl x (rfl | hx)
    ·simpa [ahd] using h2
    ·simp only [ahd,decide_eq_true_eq] at h2;exact vF.trans _ _ _ h2 (h6 _ rfl x hx)
  ·rintro ⟨h1,⟨h2,h3⟩,h4⟩;refine⟨⟨⟨(h1 g (.inl rfl)).1,?_⟩,(h1 g (.inl rfl)).2⟩,fun q hq=>h1 q (.inr hq),h3,?_⟩
   ·unfold ahd;split
    ·rfl
    ·exact decide_eq_true (h4 _ rfl g (.inl rfl))
   ·rintro q hq x hx
    cases hq
    exact h2 x hx

theorem oA {l:List aK}(h:jZ l=true):l.length<=4096/\(∀ g∈groups l,lA g.1=true/\iG g.2=true)/\EY (groups l):=by
 simp only [jZ,Bool.and_eq_true,decide_eq_true_eq] at h;obtain⟨h1,h2,_⟩:=AU.1 h.2;exact⟨h.1,h1,h2⟩

theorem aDQ {l:List aK}(h:jZ l=true)(r:List aG):iG (look (groups l) r)=true:=by
 rcases RB (groups l) r with ⟨h1,_⟩ | ⟨g,hg,_,h1⟩
 ·rw [h1]; exact aFH
 ·rw [h1]; exact ((oA h).2.1 g hg).2

theorem CC {l:List aK}(h:EY (groups l))(r:List aG):look (groups l) r=gJ l r:=by
 rw [←LW h,DB]

theorem aBC (r:List aG)(f:List aI)(e:aK)(l:List aK):gA r f (e::l)=if e.Row=r then gA r (f++[jE e]) l else (r,f)::gA e.Row [jE e] l:=rfl

theorem UF {l:List aK}(hl:okL l){g:List aG×List aI}(hg:g∈groups l):g.1.length<=4398046510976:=by
 obtain⟨_,e,he,h⟩:=RW hg;rw [h]; exact hl.2 e he

theorem DR:∀ (l:List aK) (r:List aG) (f:List aI),(gA r f l).length<=l.length+1
 | [],_,_=>by simp [gA]
 | e::l,r,f=>by
  rw [aBC];split
  ·have:=DR l r (f++[jE e]); simp only [List.length_cons]; omega
  ·have:=DR l e.Row [jE e]; simp only [List.length_cons]; omega

theorem RY (l:List aK):(groups l).length<=l.length:=by
 cases l with
 | nil=>simp [groups]
 | cons e l=>exact DR l e.Row [jE e]

end Go.Abs
namespace Go.Abs
open Go
abbrev leE (x y:aK):Prop:=jD x.Row y.Row<0∨(x.Row=y.Row/\x.At<=y.At)

theorem YJ:∀ {l:List aK} {r:List aG} {f:List aI},Srt leE l->(∀ e∈l,e.Row=r∨jD r e.Row<0)->EY (gA r f l) /\ ∀ g∈gA r f l,g.1=r∨jD r g.1<0
 | [],r,f,_,_=>by simp [gA]
 | e::l,r,f,hs,hr=>by
  have hs':=List.pairwise_cons.1 hs;rw [aBC];by_cases h:e.Row=r
  ·rw [if_pos h];exact YJ hs'.2 (fun x hx=>hr x (by simp [hx]))
  ·rw [if_neg h];have hlt:jD r e.Row<0:=(hr e (by simp)).resolve_left h
   obtain⟨h1,h2⟩:=YJ (r:=e.Row) (f:=[jE e]) hs'.2 (fun x hx=>by
    rcases hs'.1 x hx with h | ⟨h,_⟩
    ·exact .inr h
    ·exact .inl h.symm)
   have key:∀ g∈gA e.Row [jE e] l,jD r g.1<0:=fun g hg=>by
    rcases h2 g hg with h | h
    ·rw [h]; exact hlt
    ·exact vF.trans _ _ _ hlt h
   refine⟨List.pairwise_cons.2 ⟨key,h1⟩,?_⟩;intro g hg;rcases List.mem_cons.1 hg with rfl | hg
   ·exact .inl rfl
   ·exact .inr (key g hg)

theorem aCx {l:List aK}(hs:Srt leE l):EY (groups l):=by
 cases l with
 | nil=>exact List.Pairwise.nil
 | cons e l =>
  have hs':=List.pairwise_cons.1 hs
  exact (YJ hs'.2 (fun x hx=>by
   rcases hs'.1 x hx with h | ⟨h,_⟩
   ·exact .inr h
   ·exact .inl h.symm)).1

abbrev aBQ (rs:List (List aG)):Prop:=rs.Pairwise fun a b=>jD a b<0

def sV (r:List aG):List (List aG)->List (List aG)
 | []=>[r]
 | x::xs=>if jD x r<0 then x::sV r xs else if x=r then x::xs else r::x::xs

def rowsOf (l:List aK):List (List aG):=l.foldl (fun rs e=>sV e.Row rs) []

theorem JJ {r x:List aG}:∀ {rs:List (List aG)},x∈sV r rs↔x=r∨x∈rs
 | []=>by simp [sV]
 | y::ys=>by
  unfold sV;split
  ·simp only [List.mem_cons,JJ (rs:=ys)];constructor
   ·rintro (h | h | h)
    ·exact .inr (.inl h)
    ·exact .inl h
    ·exact .inr (.inr h)
   ·rintro (h | h | h)
    ·exact .inr (.inl h)
    ·exact .inl h
    ·exact .inr (.inr h)
  ·split
   ·rename_i h; subst h; simp
   ·simp

theorem aAk {r:List aG}:∀ {rs:List (List aG)},aBQ rs->aBQ (sV r rs)
 | [],_=>by simp [sV]
 | y::ys,hs=>by
  have hs':=List.pairwise_cons.1 hs;unfold sV;split
  ·rename_i h
   refine List.pairwise_cons.2 ⟨fun z hz=>?_,aAk hs'.2⟩;rcases JJ.1 hz with rfl | hz
   ·exact h
   ·exact hs'.1 z hz
  ·rename_i h
   split
   ·exact hs
   ·rename_i hne
    have hlt:jD r y<0:=by
     have h0:jD y r≠0:=fun e=>hne ((vF.eq _ _).1 e);exact (vF.anti _ _).2 (by omega)
    refine List.pairwise_cons.2 ⟨fun z hz=>?_,hs⟩;rcases List.mem_cons.1 hz with rfl | hz
    ·exact hlt
    ·exact vF.trans _ _ _ hlt (hs'.1 z hz)

theorem VR:∀ (l:List aK) (rs:List (List aG)),aBQ rs->aBQ (l.foldl (fun rs e=>sV e.Row rs) rs) /\ ∀ x,x∈l.foldl (fun rs e=>sV e.Row rs) rs↔x∈rs ∨ ∃ e∈l,e.Row=x
 | [],rs,hs=>⟨hs,by simp⟩
 | e::l,rs,hs=>by
  obtain⟨h1,h2⟩:=VR l (sV e.Row rs) (aAk hs);refine⟨h1,fun x=>?_⟩;simp only [List.foldl_cons];rw [h2 x,JJ];simp only [List.mem_cons,exists_eq_or_imp];constructor
  ·rintro ((h | h) | h)
   ·exact .inr (.inl h.symm)
   ·exact .inl h
   ·exact .inr (.inr h)
  ·rintro (h | h | h)
   ·exact .inl (.inr h)
   ·exact .inl (.inl h.symm)
   ·exact .inr h

theorem SE {l:List aK}{x:List aG}:x∈rowsOf l ↔ ∃ e∈l,e.Row=x:=by
 have:=(VR l [] List.Pairwise.nil).2 x
 simpa [rowsOf] using this

theorem aAC {l:List aK}{r:List aG}(h:∀ e∈l,e.Row≠r):gJ l r=[]:=by
 unfold gJ;rw [List.map_eq_nil_iff,List.filter_eq_nil_iff];intro e he
 simpa using h e he

end Go.Abs
namespace Go.Abs
open Go
def vL:aG:=⟨1,1,ByteArray.empty⟩

end Go.Abs
namespace Go.Abs
open Go
theorem NU {σ:Type}{y:σ->List aG->List aI->Option (σ×Bool)}(c:List aK):∀ (gs:List (List aG×List aI)) (s s':σ),itG y gs s=some s' ->
  ∃ x,itG (fun st t10 t11=>rnd (fun (s:σ)=>lV y c s t10 t11) st) gs (.inl s)=some x/\Sum.elim id id x=s'
 | [],s,s',h=>by simp only [itG,Option.some.injEq] at h; exact ⟨_,rfl,h⟩
 | g::gs,s,s',h=>by
  simp only [itG] at h;obtain⟨z,hz,h⟩:=aW h
  have hl:lV y c s g.1 g.2=some (if z.2 then .inl z.1 else .inr z.1):=by
   unfold lV;rw [hz];obtain⟨z1,z2⟩:=z
   cases z2 <;> rfl
  cases h2:z.2
  ·rw [h2] at h hl;simp only [Bool.false_eq_true,if_false,Option.some.injEq] at h hl;refine⟨.inr z.1,?_,h⟩;simp [itG,rnd,hl]
  ·rw [h2] at h hl;simp only [if_true] at h hl;obtain⟨x,h3,h4⟩:=NU c gs z.1 s' h;refine⟨x,?_,h4⟩;simp only [itG,rnd,hl,Option.bind_some,Sum.isLeft_inl,if_true];exact h3

theorem RS {σ:Type}{y:σ->List aG->List aI->Option (σ×Bool)}{l:List aK}(hl:okL l){s s':σ}(h:itG y (if jZ l then groups l else []) s=some s'):nX y l s=some s':=by
 unfold nX;rw [IE hl]
 cases hm:jZ l
 ·rw [hm] at h;simp only [Bool.false_eq_true,if_false,itG] at h
  simpa using h
 ·rw [hm] at h;simp only [if_true] at h;simp only [Option.bind_some,Bool.not_true,cond_false,wS,sJ];obtain⟨x,h1,h2⟩:=NU l (groups l) s s' h;rw [aBE hl h1]
  cases x <;> simpa using h2

theorem uP {l:List aK}(hm:jZ l=true){e:aK}(he:e∈l):lA e.Row=true /\ -2<e.At/\e.At<1125899906842624/\e.Net≠0/\e.Net<=1048576 /\ -1048576<=e.Net:=by
 obtain⟨_,h2,_⟩:=oA hm;have he':e∈flat (groups l):=by rw [DB]; exact he
 obtain⟨g,hg,h1⟩:=List.mem_flatMap.1 he';obtain⟨j,hj,rfl⟩:=List.mem_map.1 h1;obtain⟨a,b⟩:=h2 g hg;exact⟨a,(oE.1 b).2.above j hj⟩

theorem EC {l:List aK}(hm:jZ l=true)(r:List aG):iG (gJ l r)=true:=by
 rw [←CC (oA hm).2.2]; exact aDQ hm r

end Go.Abs
namespace Go.Abs
open Go
theorem NP {l:List aK}(hl:okL l)(hn:l.length<=1099511627776){r:List aG}:sE l r=some (gJ l r):=by
 unfold sE yK;rw [oU (l:=l) (body:=fun s:List aI×Int=>nG l r s.1 s.2) (fun o i=>(o,i)) (fun o t=>o++gJ t r) (fun o t=>o.length+t.length<=1099511627776) [] ?_ ?_ (by simpa using hn)]
 ·rfl
 ·intro i a t o ha hi;left;obtain⟨d1,d2,d3,d4⟩:=idx ha (by omega);simp only [List.length_cons] at hi;have hr:=hl.2 a (List.mem_of_getElem? ha)
  have hb:nG l r o (i:Int)=some (.inl (if a.Row=r then o++[jE a] else o,((i+1:Nat):Int))):=by
   simp only [nG,uJ,d1,cond_true,aN d2,d3,d4,KC a.Row r (by omega),Option.bind_some];by_cases e:a.Row=r
   ·simp only [e,decide_true,cond_true,if_true];rw [aN (by simp only [List.length_cons,List.length_nil]; omega)]; rfl
   ·simp [e]
  refine⟨_,hb,?_,?_⟩
  ·split
   ·simp; omega
   ·omega
  ·by_cases e:a.Row=r <;> simp [gJ,e]
 ·intro o _;show nG _ _ _ _=_;simp only [nG,gK,cond_false];simp [gJ]

theorem PO (r:List aG):∀ rs:List (List aG),(sV r rs).length<=rs.length+1
 | []=>by simp [sV]
 | x::xs=>by
  unfold sV;split
  ·simp only [List.length_cons]; have:=PO r xs; omega
  ·split <;> simp

def zC (r:List aG):List (List aG)->Nat
 | []=>0
 | x::xs=>if jD x r<0 then zC r xs+1 else 0

theorem aBI (r:List aG):∀ rs,zC r rs<=rs.length
 | []=>by simp [zC]
 | x::xs=>by unfold zC; split <;> simp [aBI r xs]

theorem aAp (r:List aG):∀ rs,sV r rs=if rs[zC r rs]?=some r then rs else rs.take (zC r rs)++[r]++rs.drop (zC r rs)
 | []=>by simp [sV]
 | x::xs=>by
  unfold sV zC;by_cases h:jD x r<0
  ·rw [if_pos h,if_pos h,aAp r xs];simp only [List.getElem?_cons_succ,List.take_succ_cons,List.drop_succ_cons];split <;> simp
  ·rw [if_neg h,if_neg h];by_cases e:x=r <;> simp [e]

theorem QO {l:List aK}{rs:List (List aG)}{e:aK}{i:Nat}(hi:l[i]?=some e)(hl:okL l)(he:lA e.Row=true)(hr:∀ x∈rs,lA x=true)(hn:rs.length<=1099511627776):∀ (t:List (List aG)) (k:Nat),rs.drop k=t->k<=rs.length ->
  lp (fun s:List (List aG)×Int=>mX l (i:Int) s.1 s.2) (rs,(k:Int))=some (rs,((k+zC e.Row t:Nat):Int))
 | [],k,hd,hk=>by
  have : k=rs.length:=by
   have:=congrArg List.length hd;simp only [List.length_drop,List.length_nil] at this; omega
  subst this;refine cV ?_;show mX _ _ _ _=_;simp only [mX,gK,cW,cond_false,Option.bind_some,Bool.false_and];rw [aN (fun h=>by cases h),aN (fun h=>by cases h)];simp [zC]
 | x::t,k,hd,hk=>by
  obtain⟨h1,h2⟩:=drop_cons hd;have hlt:=(List.getElem?_eq_some_iff.1 h1).1;obtain⟨d1,d2,d3,d4⟩:=idx h1 (by omega);obtain⟨_,c2,c3,_⟩:=idx hi (by have:=hl.1; omega);have hx:=hr x (List.mem_of_getElem? h1)
  have hb:(fun s:List (List aG)×Int=>mX l (i:Int) s.1 s.2) (rs,(k:Int))=some (if jD x e.Row<0 then .inl (rs,((k+1:Nat):Int)) else .inr (rs,(k:Int))):=by
   show mX _ _ _ _=_;simp only [mX,d1,cW,cond_true,d3,c3,d4,Bool.true_and];rw [aN (fun _=>d2),aN (fun _=>c2),LH x e.Row (by have:=(CI hx).1; omega) (by have:=(CI he).1; omega),hx,he];simp only [Bool.and_self,if_true,Option.bind_some];by_cases h:jD x e.Row<0 <;> simp [h]
  unfold zC;by_cases h:jD x e.Row<0
  ·rw [if_pos h] at hb;rw [eW hb,QO hi hl he hr hn t (k+1) h2 (by omega),if_pos h]
   congr 3; omega
  ·rw [if_neg h] at hb;rw [cV hb,if_neg h]; rfl

theorem SO {l:List aK}(hl:okL l)(hm:∀ e∈l,lA e.Row=true)(hn:l.length<=1099511627776):uB l=some (rowsOf l):=by
 unfold uB AE;rw [oU (l:=l) (body:=fun s:List (List aG)×Int=>oM l s.1 s.2) (fun o i=>(o,i)) (fun o t=>t.foldl (fun rs e=>sV e.Row rs) o) (fun o t=>o.length+t.length<=1099511627776 /\ ∀ x∈o,lA x=true) [] ?_ ?_ ⟨by simpa using hn,by simp⟩]
 ·rfl
 ·rintro i e t rs hi ⟨h1,h2⟩;left;obtain⟨d1,d2,d3,d4⟩:=idx hi (by omega);have he:=hm e (List.mem_of_getElem? hi);simp only [List.length_cons] at h1
  refine⟨sV e.Row rs,?_,⟨by have:=PO e.Row rs; omega,fun x hx=>by
   rcases JJ.1 hx with rfl | h
   ·exact he
   ·exact h2 x h⟩,rfl⟩
  show oM _ _ _=_;have hin:=QO hi hl he h2 (by omega) rs 0 rfl (Nat.zero_le _);simp only [Int.natCast_zero,Nat.zero_add] at hin;have hple:=aBI e.Row rs;simp only [oM,d1,cond_true,zY,hin,Option.bind_some,vQ,wB,d3,d4];rw [aAp];by_cases hp:zC e.Row rs<rs.length
  ·have hx:rs[zC e.Row rs]?=some rs[zC e.Row rs]:=List.getElem?_eq_getElem hp;obtain⟨f1,f2,f3,_⟩:=idx hx (by omega);have hrow:=h2 _ (List.mem_of_getElem? hx);simp only [f1,f3,cW,cond_true,Bool.true_and];rw [aN (fun _=>f2),aN (fun _=>d2),KC _ _ (by have:=(CI hrow).1; omega)];by_cases hq:rs[zC e.Row rs]=e.Row
   ·simp [hq,hx]
   ·simp only [hq,decide_false,cond_false,Option.bind_some,hx,Option.some.injEq,if_false,Int.toNat_natCast];rw [aN ⟨by omega,by omega⟩,aN ⟨by simp; omega,by simp; omega⟩,aN d2,aN ⟨by simp; omega,by simp; omega⟩,aN ⟨by omega,by omega⟩,aN ⟨by simp; omega,by simp; omega⟩]
  ·have hpe:zC e.Row rs=rs.length:=by omega
   rw [hpe];simp only [gK,cW,cond_false,Option.bind_some,Bool.false_and];rw [aN (fun h=>by cases h),aN (fun h=>by cases h)];have hnone:rs[rs.length]?=none:=by simp
   simp only [hnone,reduceCtorEq,if_false,Int.toNat_natCast];rw [aN ⟨by omega,by omega⟩,aN ⟨by simp; omega,by simp; omega⟩,aN d2,aN ⟨by simp; omega,by simp; omega⟩,aN ⟨by omega,by omega⟩,aN ⟨by simp; omega,by simp; omega⟩]
 ·rintro rs ⟨_,_⟩;show oM _ _ _=_;simp only [oM,gK,cond_false];rfl

theorem KA:∀ (l:List aK) (rs:List (List aG)),(l.foldl (fun rs e=>sV e.Row rs) rs).length<=rs.length+l.length
 | [],rs=>by simp
 | e::l,rs=>by
  have:=KA l (sV e.Row rs);have:=PO e.Row rs;simp only [List.foldl_cons,List.length_cons]; omega

theorem RC (l:List aK):(rowsOf l).length<=l.length:=by
 have:=KA l []
 simpa [rowsOf] using this

end Go.Abs
namespace Go.Abs
open Go
abbrev ltE (x y:aK):Prop:=jD x.Row y.Row<0∨(x.Row=y.Row/\x.At<y.At)

theorem aDS {x y z:aK}(h1:ltE x y)(h2:ltE y z):ltE x z:=by
 rcases h1 with h1 | ⟨h1,h1'⟩ <;> rcases h2 with h2 | ⟨h2,h2'⟩
 ·exact .inl (vF.trans _ _ _ h1 h2)
 ·exact .inl (h2 ▸ h1)
 ·exact .inl (h1 ▸ h2)
 ·exact .inr ⟨h1.trans h2,by omega⟩

theorem HG:∀ {f:List aI} {last:Int},tZ last f↔(∀ j∈f,rD last j=false)/\f.Pairwise fun a b=>a.At<b.At
 | [],last=>by simp [tZ]
 | j::f,last=>by
  rw [List.pairwise_cons];unfold tZ;rw [←mY];constructor
  ·rintro ⟨h1,h2⟩;have h3:=HG.1 h2;have h4:=mY.1 h1;refine⟨fun k hk=>?_,fun k hk=>(mY.1 (h3.1 k hk)).1,h3.2⟩;rcases List.mem_cons.1 hk with rfl | hk
   ·exact h1
   ·have:=mY.1 (h3.1 k hk);exact mY.2 (by omega)
  ·rintro ⟨h1,h2,h3⟩;refine⟨h1 j (by simp),HG.2 ⟨fun k hk=>?_,h3⟩⟩;have:=mY.1 (h1 k (by simp [hk]));have:=h2 k hk;exact mY.2 (by omega)

theorem JI {l:List aK}:jZ l=true↔l.length<=4096/\(∀ e∈l,lA e.Row=true/\rD (-2) (jE e)=false)/\l.Pairwise ltE /\ ∀ r∈rowsOf l,(gJ l r).length<=1024:=by
 constructor
 ·intro h;obtain⟨h1,h2,h3⟩:=oA h;refine⟨h1,fun e he=>?_,?_,fun r _=>(oE.1 (EC h r)).1⟩
  ·obtain⟨a,b,c,d,e1,e2⟩:=uP h he;exact⟨a,mY.2 ⟨b,c,d,e1,e2⟩⟩
  ·rw [←DB l];unfold flat;rw [List.flatMap,List.pairwise_flatten,List.pairwise_map];constructor
   ·intro x hx;obtain⟨g,hg,rfl⟩:=List.mem_map.1 hx;have:=(HG.1 (oE.1 (h2 g hg).2).2).2;rw [qN,List.pairwise_map];exact this.imp fun h=>.inr ⟨rfl,h⟩
   ·refine h3.imp fun {a b} h x hx y hy=>?_;obtain⟨j,_,rfl⟩:=List.mem_map.1 hx;obtain⟨k,_,rfl⟩:=List.mem_map.1 hy;exact .inl h
 ·rintro ⟨h1,h2,h3,h4⟩
  have hs:Srt leE l:=h3.imp fun h=>by
   rcases h with h | ⟨h,h'⟩
   ·exact .inl h
   ·exact .inr ⟨h,by omega⟩
  have hg:=aCx hs;unfold jZ;rw [Bool.and_eq_true];refine⟨by simpa using h1,AU.2 ⟨fun g hg'=>?_,hg,fun q hq=>by cases hq⟩⟩;obtain⟨_,e,he,h5⟩:=RW hg';have hj:g.2=gJ l g.1:=by rw [←CC hg,OI hg hg']
  refine⟨by rw [h5]; exact (h2 e he).1,?_⟩;rw [hj];refine oE.2 ⟨h4 _ (SE.2 ⟨e,he,h5.symm⟩),HG.2 ⟨fun j hj=>?_,?_⟩⟩
  ·obtain⟨e,he,rfl⟩:=List.mem_map.1 hj;exact (h2 e (List.mem_filter.1 he).1).2
  ·unfold gJ;rw [List.pairwise_map,List.pairwise_filter];refine h3.imp fun {a b} h ha hb=>?_;rcases h with h | ⟨_,h⟩
   ·simp only [decide_eq_true_eq] at ha hb;rw [ha,hb] at h;exact absurd h CM
   ·exact h

theorem aD8 {α:Type}{R:α->α->Prop}(ht:∀ {x y z},R x y->R y z->R x z){l:List α}:l.Pairwise R ↔ ∀ (i:Nat) (a b:α),l[i]?=some a->l[i+1]?=some b->R a b:=by
 constructor
 ·intro h i a b ha hb;obtain⟨h1,rfl⟩:=List.getElem?_eq_some_iff.1 ha;obtain⟨h2,rfl⟩:=List.getElem?_eq_some_iff.1 hb;exact List.pairwise_iff_getElem.1 h i (i+1) h1 h2 (by omega)
 ·intro h;refine List.pairwise_iff_getElem.2 fun i j hi hj hij=>?_;obtain⟨k,rfl⟩:∃ k,j=i+1+k:=⟨j-i-1,by omega⟩;clear hij
  induction k with
  | zero=>exact h i _ _ (List.getElem?_eq_getElem hi) (List.getElem?_eq_getElem hj)
  | succ k ih=>exact ht (ih (by omega)) (h (i+1+k) _ _ (List.getElem?_eq_getElem (by omega)) (List.getElem?_eq_getElem hj))

def TB (a b:List aG):Int:=if lA a&&lA b then jD a b else 0

def GR (l:List aK)(i:Nat):Bool := !(lA (l.getD i default).Row && !rD (-2) (jE (l.getD i default)))||(decide (i≠0)&&(decide (0<TB (l.getD (i-1) default).Row (l.getD i default).Row)||(decide (TB (l.getD (i-1) default).Row (l.getD i default).Row=0)&&decide ((l.getD i default).At<=(l.getD (i-1) default).At))))

end Go.Abs
