/- What the law WindowForgets stands on: the framework, the given functions as plain functions, their walks, and the plain laws; part 5. -/
import Derived.Test.YteecjdpicjpnfabWindowForgetsZ4
set_option linter.unusedSimpArgs false
set_option linter.unusedVariables false
namespace Go.Abs
open Go Go.RowKit Go.Proofs
theorem aAp (l0 : (List aE)) (sA : Int) (hop2 : Int) (mK : Int) (kD : Int) (r : ((List aN) × Int)) (h0 : yL l0 sA hop2 mK kD = some r) : cZ Try.prog 19 [(eL aH l0), (eI sA), (eI hop2), (eI mK), (eI kD)] (.tup [(eL aP r.1), (eI r.2)]) := by
 intro H0
 refine zN aC Try.func19 (by kernel_rfl) (by kernel_rfl) (by kernel_rfl) ?_
 have hO := aM.start H0
 unfold yL at h0
 refine aO ?_
 refine aS aC 6 ?_
 refine fT 1 (eI sA) (by kernel_rfl) (by kernel_rfl) ?_
 refine fT 1 (eI hop2) (by kernel_rfl) (by kernel_rfl) ?_
 refine fT 1 (eI mK) (by kernel_rfl) (by kernel_rfl) ?_
 refine fT 1 (eI kD) (by kernel_rfl) (by kernel_rfl) ?_
 refine oO 1 (.sl true 0 (fun _ => .bad)) (eL aP ([])) (by kernel_rfl) (by kernel_rfl) (by kernel_rfl) (eN) (by kernel_rfl) (by kernel_rfl) hO ?_
 intro lo1 H hO
 refine kY 1 (eI 0) (by kernel_rfl) (by kernel_rfl) hO ?_
 intro lo2 H hO
 refine dG ?_
 refine bD [(0, (eL aH l0)), (6, (.rp (eI sA))), (7, (.rp (eI hop2))), (8, (.rp (eI mK))), (9, (.rp (eI kD))), (10, (.lp lo1 0 0)), (11, (.lp lo2 0 0))] ?_
 refine aO ?_
 refine bX 0 ?_
 refine aO ?_
 refine aS aC 10 ?_
 refine bI 2 ?_
 obtain ⟨x3, hx4, h0⟩ := aW h0
 refine cX (TO sA hop2 _ hx4) hO ?_
 intro H hO
 refine bI 6 ?_
 obtain ⟨x6, hx7, h0⟩ := aW h0
 refine nB [(25, false)] 27 [(eL aH l0)] (aD x6) (!(!x3)) (by kernel_rfl) (by kernel_rfl) (by kernel_rfl) (fun hb8 => (xE l0 _ (jG hx7 hb8))) hO ?_
 intro H hO
 refine bA ?_
 refine bP [] [(20, (aD ((!x3) || (!x6))))] ?_
 refine bK h0 (fun h0 => ?_) (fun h0 => ?_)
 ·refine aO ?_
  refine aS aC 2 ?_
  refine gY 0 lo1 1 0 (eL aP ([])) (.sl true 0 (fun _ => .bad)) [(eL aP ([]))] [(lo1, 1, [(.sl true 0 (fun _ => .bad))]), (lo2, 1, [(eI 0)])] hO rfl (by kernel_rfl) ?_
  intro H hO
  refine gY 1 lo2 1 0 (eI 0) (eI (2 : Int)) [(eI 0)] [(lo1, 1, [(.sl true 0 (fun _ => .bad))]), (lo2, 1, [(eI (2 : Int))])] hO rfl (by kernel_rfl) ?_
  intro H hO
  refine dG ?_
  refine BD 0 lo1 1 (.sl true 0 (fun _ => .bad)) (eL aP ([])) [(lo1, 1, [(eL aP ([]))]), (lo2, 1, [(eI (2 : Int))])] hO (by kernel_rfl) (by kernel_rfl) eN (by kernel_rfl) ?_
  intro H hO
  refine bD [(10, (.lp lo1 0 0)), (11, (.lp lo2 0 0))] ?_
  refine bG ?_
  obtain rfl := oI h0
  exact aF (bC (aT (QM0 (.inr rfl) (rs := [.cell 10 32, .cell 11 26]) (xs := [(eL aP ([])), (eI (2 : Int))]) (x := (.tup [(eL aP ([])), (eI (2 : Int))])) (by kernel_rfl) (lR (lo := lo1) (k := 1) (y := (eL aP ([]))) (x := (eL aP ([]))) 0 hO (by kernel_rfl) (by kernel_rfl) (by kernel_rfl) (by kernel_rfl) (lR (lo := lo2) (k := 1) (y := (eI (2 : Int))) (x := (eI (2 : Int))) 1 hO (by kernel_rfl) (by kernel_rfl) (by kernel_rfl) (by kernel_rfl) mY)) (by kernel_rfl) ⟨rfl, hO.out⟩)))
 refine aO ?_
 refine aS aC 4 ?_
 refine bI 1 ?_
 obtain ⟨x10, hx11, h0⟩ := aW h0
 refine cX (zU l0 _ hx11) hO ?_
 intro H hO
 refine bA ?_
 refine bP [20] [(30, (aD (!x10)))] ?_
 refine bK h0 (fun h0 => ?_) (fun h0 => ?_)
 ·refine aO ?_
  refine aS aC 2 ?_
  refine gY 0 lo1 1 0 (eL aP ([])) (.sl true 0 (fun _ => .bad)) [(eL aP ([]))] [(lo1, 1, [(.sl true 0 (fun _ => .bad))]), (lo2, 1, [(eI 0)])] hO rfl (by kernel_rfl) ?_
  intro H hO
  refine gY 1 lo2 1 0 (eI 0) (eI (20 : Int)) [(eI 0)] [(lo1, 1, [(.sl true 0 (fun _ => .bad))]), (lo2, 1, [(eI (20 : Int))])] hO rfl (by kernel_rfl) ?_
  intro H hO
  refine dG ?_
  refine BD 0 lo1 1 (.sl true 0 (fun _ => .bad)) (eL aP ([])) [(lo1, 1, [(eL aP ([]))]), (lo2, 1, [(eI (20 : Int))])] hO (by kernel_rfl) (by kernel_rfl) eN (by kernel_rfl) ?_
  intro H hO
  refine bD [(10, (.lp lo1 0 0)), (11, (.lp lo2 0 0))] ?_
  refine bG ?_
  obtain rfl := oI h0
  exact aF (bC (aT (QM0 (.inr rfl) (rs := [.cell 10 32, .cell 11 26]) (xs := [(eL aP ([])), (eI (20 : Int))]) (x := (.tup [(eL aP ([])), (eI (20 : Int))])) (by kernel_rfl) (lR (lo := lo1) (k := 1) (y := (eL aP ([]))) (x := (eL aP ([]))) 0 hO (by kernel_rfl) (by kernel_rfl) (by kernel_rfl) (by kernel_rfl) (lR (lo := lo2) (k := 1) (y := (eI (20 : Int))) (x := (eI (20 : Int))) 1 hO (by kernel_rfl) (by kernel_rfl) (by kernel_rfl) (by kernel_rfl) mY)) (by kernel_rfl) ⟨rfl, hO.out⟩)))
 refine aO ?_
 refine aS aC 9 ?_
 refine bI 1 ?_
 obtain ⟨x14, hx15, h0⟩ := aW h0
 refine cX (HO mK _ hx15) hO ?_
 intro H hO
 refine bI 5 ?_
 obtain ⟨x17, hx18, h0⟩ := aW h0
 refine nB [(38, false)] 30 [(eI kD)] (aD x17) (!(!x14)) (by kernel_rfl) (by kernel_rfl) (by kernel_rfl) (fun hb19 => (HO kD _ (jG hx18 hb19))) hO ?_
 intro H hO
 refine bA ?_
 refine bP [30] [(34, (aD ((!x14) || (!x17))))] ?_
 refine bK h0 (fun h0 => ?_) (fun h0 => ?_)
 ·refine aO ?_
  refine aS aC 2 ?_
  refine gY 0 lo1 1 0 (eL aP ([])) (.sl true 0 (fun _ => .bad)) [(eL aP ([]))] [(lo1, 1, [(.sl true 0 (fun _ => .bad))]), (lo2, 1, [(eI 0)])] hO rfl (by kernel_rfl) ?_
  intro H hO
  refine gY 1 lo2 1 0 (eI 0) (eI (13 : Int)) [(eI 0)] [(lo1, 1, [(.sl true 0 (fun _ => .bad))]), (lo2, 1, [(eI (13 : Int))])] hO rfl (by kernel_rfl) ?_
  intro H hO
  refine dG ?_
  refine BD 0 lo1 1 (.sl true 0 (fun _ => .bad)) (eL aP ([])) [(lo1, 1, [(eL aP ([]))]), (lo2, 1, [(eI (13 : Int))])] hO (by kernel_rfl) (by kernel_rfl) eN (by kernel_rfl) ?_
  intro H hO
  refine bD [(10, (.lp lo1 0 0)), (11, (.lp lo2 0 0))] ?_
  refine bG ?_
  obtain rfl := oI h0
  exact aF (bC (aT (QM0 (.inr rfl) (rs := [.cell 10 32, .cell 11 26]) (xs := [(eL aP ([])), (eI (13 : Int))]) (x := (.tup [(eL aP ([])), (eI (13 : Int))])) (by kernel_rfl) (lR (lo := lo1) (k := 1) (y := (eL aP ([]))) (x := (eL aP ([]))) 0 hO (by kernel_rfl) (by kernel_rfl) (by kernel_rfl) (by kernel_rfl) (lR (lo := lo2) (k := 1) (y := (eI (13 : Int))) (x := (eI (13 : Int))) 1 hO (by kernel_rfl) (by kernel_rfl) (by kernel_rfl) (by kernel_rfl) mY)) (by kernel_rfl) ⟨rfl, hO.out⟩)))
 refine bN ?_
 refine dP [(0, (eL aH l0)), (6, (.rp (eI sA))), (7, (.rp (eI hop2))), (8, (.rp (eI mK))), (9, (.rp (eI kD))), (10, (.lp lo1 0 0)), (11, (.lp lo2 0 0))] ?_
 refine aF (aV (aG (?_)))
 unfold DT at h0
 refine aO ?_
 refine aS aC 3 ?_
 refine UD (β := Option Nat) sV (t := 79) hO ?_
 intro lm H hO
 refine kY 1 (.lit (.map none)) (by kernel_rfl) (by kernel_rfl) hO ?_
 intro lo12 H hO
 refine gY 2 lo12 1 0 (.lit (.map none)) (.mp lm) [(.lit (.map none))] [(lo1, 1, [(eL aP ([]))]), (lo2, 1, [(eI 0)]), (lo12, 1, [(.mp lm)])] hO rfl (by kernel_rfl) ?_
 intro H hO
 replace hO : aM ⟨H0, [], pmG shP lm [] [] ++ []⟩ H [(lo1, 1, [(eL aP ([]))]), (lo2, 1, [(eI 0)]), (lo12, 1, [(.mp lm)])] := hO
 refine dG ?_
 refine bD [(0, (eL aH l0)), (6, (.rp (eI sA))), (7, (.rp (eI hop2))), (8, (.rp (eI mK))), (9, (.rp (eI kD))), (10, (.lp lo1 0 0)), (11, (.lp lo2 0 0)), (12, (.lp lo12 0 0))] ?_
 refine aO ?_
 refine aO ?_
 refine aS aC 2 ?_
 refine bI 1 ?_
 obtain ⟨x1, hx1, h0⟩ := aW h0
 refine cX (IW l0 _ hx1) hO ?_
 intro H hO
 refine dG ?_
 refine bD [(6, (.rp (eI sA))), (7, (.rp (eI hop2))), (8, (.rp (eI mK))), (9, (.rp (eI kD))), (10, (.lp lo1 0 0)), (11, (.lp lo2 0 0)), (12, (.lp lo12 0 0)), (45, (.fn (.func 59) [] [(.rp (eL aH x1))]))] ?_
 refine bX 1 ?_
 obtain ⟨o0, hl0, h0⟩ := aW h0
 refine wO (fid := 59) (ys := []) (cs := [(.rp (eL aH x1))]) #[46, 47] (fun (A : rT) (b lL : Nat) (st : (List aN × Int × List (Int × aN)) ⊕ (List aN × Int × List (Int × aN))) (G' : Gs) => Sum.elim (fun (s : List aN × Int × List (Int × aN)) => ∃ los : List (Nat × Nat), los.length = s.2.2.length ∧ G' = (lL, .raw (gQ b A .ready none)) :: (up [(lo1, 1, [(eL aP (s.1))]), (lo2, 1, [(eI (s.2.1))]), (lo12, 1, [(.mp lm)])] ++ (pmG shP lm los s.2.2 ++ []))) (fun (s : List aN × Int × List (Int × aN)) => ∃ los : List (Nat × Nat), los.length = s.2.2.length ∧ G' = (lL, .raw (gQ b A .done (some .ret))) :: (up [(lo1, 1, [(eL aP (s.1))]), (lo2, 1, [(eI (s.2.1))]), (lo12, 1, [(.mp lm)])] ++ (pmG shP lm los s.2.2 ++ []))) st) (.inl ([], 0, [])) o0 (.tup []) (by kernel_rfl) (by kernel_rfl) (by kernel_rfl) hO (fun _ _ => ⟨[], rfl, rfl⟩) ?_ ?_
 ·intro b lL
  clear hO h0
  refine CP _ b (fun st t46 t47 => rnd (fun (q : List aN × Int × List (Int × aN)) => nL sA hop2 mK kD q.1 q.2.1 q.2.2 t46 t47) st) ?_ x1 _ _ hl0
  intro st t46 t47 out1 rr hr
  obtain ⟨s, rfl, h1, rfl⟩ := ID hr
  clear hr
  intro Hr Gr hi hg
  obtain ⟨t10, t11, m⟩ := s
  dsimp only [Sum.elim_inl] at hi
  obtain ⟨los, hl, rfl⟩ := hi
  replace h1 : nL sA hop2 mK kD t10 t11 m t46 t47 = some out1 := h1
  unfold nL at h1
  obtain ⟨E1, hE, hO⟩ := pE hg
  refine pF (uF (hO.gm 0 _ rfl).2 (by kernel_rfl) (by kernel_rfl) ?_)
  refine eD [(6, (.rp (eI sA))), (7, (.rp (eI hop2))), (8, (.rp (eI mK))), (9, (.rp (eI kD))), (10, (.lp lo1 0 0)), (11, (.lp lo2 0 0)), (12, (.lp lo12 0 0)), (46, (eL aJ t46)), (47, (eL aK t47))] ?_
  refine bW aC 1 [(6, (.rp (eI sA))), (7, (.rp (eI hop2))), (8, (.rp (eI mK))), (9, (.rp (eI kD))), (10, (.lp lo1 0 0)), (11, (.lp lo2 0 0)), (12, (.lp lo12 0 0)), (13, (eL aJ t46)), (47, (eL aK t47))] ?_
  refine aS aC 1 ?_
  refine bA ?_
  refine dP [(6, (.rp (eI sA))), (7, (.rp (eI hop2))), (8, (.rp (eI mK))), (9, (.rp (eI kD))), (10, (.lp lo1 0 0)), (11, (.lp lo2 0 0)), (12, (.lp lo12 0 0)), (13, (eL aJ t46)), (14, (eL aK t47))] ?_
  refine aF (⟨rfl, rfl, (hO.gm 0 _ rfl).2, ?_⟩)
  intro o1 ho1
  replace hO := hO.nI o1
  refine bX 2 ?_
  refine aO ?_
  refine aS aC 9 ?_
  refine jJ 2 lo12 1 0 (.mp lm) (.mp lm) [(.mp lm)] hO rfl ?_
  refine bI 7 ?_
  obtain ⟨x2, hx2, h1⟩ := aW h1
  replace hO : aM ⟨Hr, E1, pmG shP lm los m ++ ((lL, o1) :: [])⟩ _ [(lo1, 1, [(eL aP t10)]), (lo2, 1, [(eI t11)]), (lo12, 1, [(.mp lm)])] := hO.qH List.perm_middle.symm
  refine aGv (pmG shP lm los m) [(lo1, 1, [(eL aP t10)]), (lo2, 1, [(eI t11)]), (lo12, 1, [(.mp lm)])] [0, 1, 2] (ZB lm los m hl t46 t47 sA hop2 mK kD _ hx2) hO ?_
  intro r1 M1 L1 H hP hO
  obtain ⟨los', hl', rfl, rfl, rfl⟩ := hP
  replace hO : aM ⟨Hr, E1, (lL, o1) :: (pmG shP lm los' x2.2 ++ [])⟩ H [(lo1, 1, [(eL aP t10)]), (lo2, 1, [(eI t11)]), (lo12, 1, [(.mp lm)])] := hO.qH List.perm_middle
  refine bA ?_
  refine bD [(10, (.lp lo1 0 0)), (11, (.lp lo2 0 0)), (12, (.lp lo12 0 0)), (56, (aD (!x2.1)))] ?_
  refine bK h1 (fun h1 => ?_) (fun h1 => ?_)
  ·refine aO ?_
   refine aS aC 2 ?_
   refine gY 0 lo1 1 0 (eL aP t10) (.sl true 0 (fun _ => .bad)) [(eL aP t10)] [(lo1, 1, [(.sl true 0 (fun _ => .bad))]), (lo2, 1, [(eI t11)]), (lo12, 1, [(.mp lm)])] hO rfl (by kernel_rfl) ?_
   intro H hO
   refine gY 1 lo2 1 0 (eI t11) (eI (7 : Int)) [(eI t11)] [(lo1, 1, [(.sl true 0 (fun _ => .bad))]), (lo2, 1, [(eI (7 : Int))]), (lo12, 1, [(.mp lm)])] hO rfl (by kernel_rfl) ?_
   intro H hO
   refine dG ?_
   refine BD 0 lo1 1 (.sl true 0 (fun _ => .bad)) (eL aP []) [(lo1, 1, [(eL aP ([]))]), (lo2, 1, [(eI ((7 : Int)))]), (lo12, 1, [(.mp lm)])] hO (by kernel_rfl) (by kernel_rfl) eN (by kernel_rfl) ?_
   intro H hO
   refine bD [(10, (.lp lo1 0 0)), (11, (.lp lo2 0 0))] ?_
   refine bG ?_
   obtain rfl := oI h1
   exact aF (bC (⟨(dA hO hE ho1 .dead).1, rfl, _, ⟨los', hl', rfl⟩, (dA hO hE ho1 _).2⟩))
  ·refine bN ?_
   obtain rfl := oI h1
   refine dP [(10, (.lp lo1 0 0)), (11, (.lp lo2 0 0))] ?_
   exact aF (aV (⟨(dA hO hE ho1 .dead).1, rfl, _, ⟨los', hl', rfl⟩, (dA hO hE ho1 _).2⟩))
 ·intro b lD lL H' G' hi hO
  rcases o0 with s | s
  ·obtain ⟨t10, t11, m⟩ := s
   dsimp only [Sum.elim_inl] at hi
   obtain ⟨los, hl, rfl⟩ := hi
   replace h0 : wE m = some r := h0
   obtain ⟨hlL, hO⟩ := mB hO
   refine ⟨_, _, hlL, (by intro e; cases e), ?_⟩
   refine dP [(10, (.lp lo1 0 0)), (11, (.lp lo2 0 0)), (12, (.lp lo12 0 0))] ?_
   refine aF (aV (aG (?_)))
   unfold wE at h0
   replace hO : aM ⟨H0, [], up (pmL shP los m) ++ ((lm, pV sV (pmM los m)) :: [(lD, .raw pJ)])⟩ _ [(lo1, 1, [(eL aP t10)]), (lo2, 1, [(eI t11)]), (lo12, 1, [(.mp lm)])] := hO.qH (by
    show ((lD, dL.raw pJ) :: (((lm, pV sV (pmM los m)) :: up (pmL shP los m)) ++ [])).Perm _
    rw [List.append_nil]
    refine List.Perm.trans ?_ List.perm_middle.symm
    refine (List.Perm.swap _ _ _).trans (List.Perm.cons _ ?_)
    exact (List.perm_append_comm (l₁ := [(lD, dL.raw pJ)])))
   refine MD 3 2 2 (fun b p => [(eI p.Span.From), (eI p.Span.To), (.msl 2 b 0 (List.length p.Rows))]) aN.Rows bH aP (fun _ _ _ => rfl) (fun _ _ => rfl) (fun _ _ => rfl) m los hl hO fun H hO => ?_
   replace hO : aM ⟨H0, [], (lm, pV sV (pmM los m)) :: (up (pmL shF los m) ++ [(lD, .raw pJ)])⟩ H [(lo1, 1, [(eL aP t10)]), (lo2, 1, [(eI t11)]), (lo12, 1, [(.mp lm)])] := hO.qH List.perm_middle
   refine aO ?_
   refine aS aC 4 ?_
   refine jJ 2 lo12 1 0 (.mp lm) (.mp lm) [(.mp lm)] hO rfl ?_
   refine NN (mty := 79) hO ?_
   rw [RU hl]
   obtain ⟨c1, h0⟩ := aZ h0
   refine LM 1 8 (lN m) (by kernel_rfl) (by kernel_rfl) c1 hO ?_
   intro lo15 H hO
   refine bA ?_
   refine bD [(10, (.lp lo1 0 0)), (11, (.lp lo2 0 0)), (12, (.lp lo12 0 0)), (15, (.msl 1 lo15 0 (List.length ([] : List Int))))] ?_
   refine aO ?_
   refine aO ?_
   refine aS aC 2 ?_
   refine jJ 2 lo12 1 0 (.mp lm) (.mp lm) [(.mp lm)] hO rfl ?_
   refine PV (mty := 79) hO ?_
   intro li bs ck H hmb hmn hO
   refine dG ?_
   refine bD [(10, (.lp lo1 0 0)), (11, (.lp lo2 0 0)), (12, (.lp lo12 0 0)), (15, (.msl 1 lo15 0 (List.length ([] : List Int)))), (61, (.lp li 0 0))] ?_
   refine bX 3 ?_
   refine TB (by kernel_rfl) (fun (s : List Int) (seen : List Nat) T H => ∃ lo15 : Nat, Has T [(10, (.lp lo1 0 0)), (11, (.lp lo2 0 0)), (12, (.lp lo12 0 0)), (15, (.msl 1 lo15 0 (List.length s))), (61, (.lp li 0 0))] ∧ aM ⟨H0, [], (li, JE li lm ck seen) :: (lm, GJ sV (pmM los m) bs ck) :: (up (pmL shF los m) ++ [(lD, .raw pJ)])⟩ H [(lo1, 1, [(eL aP t10)]), (lo2, 1, [(eI t11)]), (lo12, 1, [(.mp lm)]), (lo15, 1, List.map (eI) s)]) hmb (aE0 hl h0) ⟨lo15, .eq (by kernel_rfl), hO⟩ ?_
   clear hO h0 c1
   rintro seen rem s T H ⟨lo15, hT, hO⟩ hleft hall
   refine bF (l := [(10, (.lp lo1 0 0)), (11, (.lp lo2 0 0)), (12, (.lp lo12 0 0)), (15, (.msl 1 lo15 0 (List.length s))), (61, (.lp li 0 0))]) hT ?_
   clear hT
   refine aO ?_
   refine aS aC 2 ?_
   refine SM hmb hmn hleft hall hO (fun h0 => ?_) (fun mk mv bq rest out1 H h1 hlt hleft hall hat hO => ?_)
   ·clear hall hleft
    unfold DR at h0
    refine bA ?_
    refine bD [(10, (.lp lo1 0 0)), (11, (.lp lo2 0 0)), (12, (.lp lo12 0 0)), (15, (.msl 1 lo15 0 (List.length s))), (63, (aD false))] ?_
    refine aO ?_
    refine mQ (false) (fun hc => by cases hc) (fun hc => ?_)
    refine gJ 3 ?_
    replace hO := hO.nM
    refine aCU hO fun H hO => ?_
    refine dP [(10, (.lp lo1 0 0)), (11, (.lp lo2 0 0)), (12, (.lp lo12 0 0)), (15, (.msl 1 lo15 0 (List.length s)))] ?_
    refine aF (aY (aY (bV (aG (?_)))))
    refine aO ?_
    refine aS aC 2 ?_
    refine bI 1 ?_
    obtain ⟨b1, hb1, h0⟩ := aW h0
    refine zF [(lo1, 1, [(eL aP t10)]), (lo2, 1, [(eI t11)]), (lo12, 1, [(.mp lm)]), (lo15, 1, List.map (eI) b1)] 3 (sU lo15 s _ hb1) hO ?_
    intro H hO hlen
    simp only [List.length_map] at hlen
    refine dG ?_
    rw [← hlen]
    refine bD [(10, (.lp lo1 0 0)), (11, (.lp lo2 0 0)), (12, (.lp lo12 0 0)), (15, (.msl 1 lo15 0 (List.length b1)))] ?_
    refine aO ?_
    refine aS aC 4 ?_
    refine bI 2 ?_
    obtain ⟨c2, h0⟩ := aZ h0
    refine LM 3 40 (lN b1) (by kernel_rfl) (by kernel_rfl) c2 hO ?_
    intro lo17 H hO
    refine bA ?_
    refine bD [(10, (.lp lo1 0 0)), (11, (.lp lo2 0 0)), (12, (.lp lo12 0 0)), (15, (.msl 1 lo15 0 (List.length b1))), (17, (.msl 3 lo17 0 (List.length ([] : List aN))))] ?_
    refine aO ?_
    refine bW aC 3 [(10, (.lp lo1 0 0)), (11, (.lp lo2 0 0)), (12, (.lp lo12 0 0)), (15, (.msl 1 lo15 0 (List.length b1))), (17, (.msl 3 lo17 0 (List.length ([] : List aN)))), (75, (.msl 1 lo15 0 (List.length b1))), (76, (eI (lN b1))), (77, (eI (0 : Int)))] ?_
    obtain ⟨out, hlo, h0⟩ := aW h0
    refine bX 5 ?_
    refine dK (by kernel_rfl) (fun (s : List aN × Int) T H => ∃ (lo17 : Nat) (los : List (Nat × Nat)), los.length = m.length ∧ Has T [(10, (.lp lo1 0 0)), (11, (.lp lo2 0 0)), (12, (.lp lo12 0 0)), (15, (.msl 1 lo15 0 (List.length b1))), (17, (.msl 3 lo17 0 (List.length s.1))), (75, (.msl 1 lo15 0 (List.length b1))), (76, (eI (lN b1))), (77, (eI s.2))] ∧ aM ⟨H0, [], (lm, pV sV (pmM los m)) :: (up (pmL shF los m) ++ [(lD, .raw pJ)])⟩ H [(lo1, 1, [(eL aP t10)]), (lo2, 1, [(eI t11)]), (lo12, 1, [(.mp lm)]), (lo15, 1, List.map (eI) b1), (lo17, 3, List.map aP s.1)]) hlo ⟨lo17, los, hl, .eq (by kernel_rfl), hO⟩ ?_
    clear hO c2
    rintro k s out1 T H ⟨lo17, los, hl, hT, hO⟩ h1 ho
    obtain ⟨o17, i77⟩ := s
    replace h1 : sP m b1 (lN b1) o17 i77 = some out1 := h1
    dsimp only at hT
    refine bF hT ?_
    clear hT
    unfold sP at h1
    refine bW aC 1 [(10, (.lp lo1 0 0)), (11, (.lp lo2 0 0)), (12, (.lp lo12 0 0)), (15, (.msl 1 lo15 0 (List.length b1))), (17, (.msl 3 lo17 0 (List.length o17))), (75, (.msl 1 lo15 0 (List.length b1))), (76, (eI (lN b1))), (77, (eI i77)), (78, (aD (decide (i77 < (lN b1)))))] ?_
    refine aO ?_
    refine bK h1 (fun h1 => ?_) (fun h1 => ?_)
    ·refine bN ?_
     refine bD [(10, (.lp lo1 0 0)), (11, (.lp lo2 0 0)), (12, (.lp lo12 0 0)), (15, (.msl 1 lo15 0 (List.length b1))), (17, (.msl 3 lo17 0 (List.length o17))), (75, (.msl 1 lo15 0 (List.length b1))), (76, (eI (lN b1))), (77, (eI i77))] ?_
     refine aO ?_
     refine bX 6 ?_
     refine aO ?_
     obtain ⟨c3, h1⟩ := aZ h1
     refine aS aC 3 ?_
     refine sG 1 [0 ≤ i77 ∧ i77 < (lN b1)] ⟨c3, trivial⟩ ?_
     refine jJ 3 lo15 1 (0 + Int.toNat i77) (eI (gD b1 i77)) (eI (gD b1 i77)) (List.map (eI) b1) hO (cA c3) ?_
     refine bA ?_
     refine bD [(10, (.lp lo1 0 0)), (11, (.lp lo2 0 0)), (12, (.lp lo12 0 0)), (15, (.msl 1 lo15 0 (List.length b1))), (17, (.msl 3 lo17 0 (List.length o17))), (75, (.msl 1 lo15 0 (List.length b1))), (76, (eI (lN b1))), (77, (eI i77)), (19, (eI (gD b1 i77)))] ?_
     cases hg : gK m (gD b1 i77) with
     | none => rw [hg] at h1; cases h1
     | some p =>
      rw [hg] at h1
      obtain ⟨c4, h1⟩ := aZ h1
      obtain ⟨a, bb, R, e1, hP, hO⟩ := aM.focus (sh := shF) (los := los) (m := m) (G := [(lD, .raw pJ)]) hO hl hg
      replace hO : aM ⟨H0, [], (lm, pV sV (pmM los m)) :: (up R ++ [(lD, .raw pJ)])⟩ _ [(a, 3, [(aP p)]), (lo1, 1, [(eL aP t10)]), (lo2, 1, [(eI t11)]), (lo12, 1, [(.mp lm)]), (lo15, 1, List.map (eI) b1), (lo17, 3, List.map aP o17)] := hO
      refine aS aC 9 ?_
      refine bI 1 ?_
      refine jJ 3 lo12 1 0 (.mp lm) (.mp lm) [(.mp lm)] hO rfl ?_
      refine bI 3 ?_
      refine WQ (f := sV) (mty := 79) (ok := false) aC (gD b1 i77) none hO ?_
      rw [e1]
      refine bI 5 ?_
      refine jJ 0 a 3 0 (aP p) (aP p) [(aP p)] hO rfl ?_
      refine oE (xs := [(aP p)]) (k := 3) (by kernel_rfl) (by kernel_rfl) ?_
      refine vF (e := aP) o17 ([p]) 5 lo17 3 40 (fM [(aP p)]) (fun lo18 => [(a, 3, [(aP p)]), (lo1, 1, [(eL aP t10)]), (lo2, 1, [(eI t11)]), (lo12, 1, [(.mp lm)]), (lo15, 1, List.map (eI) b1), (lo18, 3, List.map aP (o17 ++ ([p])))]) (by kernel_rfl) (by kernel_rfl) hO (by kernel_rfl) (by kernel_rfl) c4 (fun _ => by kernel_rfl) ?_
      intro lo18 H hO
      refine bA ?_
      refine dP [(10, (.lp lo1 0 0)), (11, (.lp lo2 0 0)), (12, (.lp lo12 0 0)), (15, (.msl 1 lo15 0 (List.length b1))), (17, (.msl 3 lo18 0 (List.length (o17 ++ [p])))), (75, (.msl 1 lo15 0 (List.length b1))), (76, (eI (lN b1))), (77, (eI i77))] ?_
      refine aF (aV (aG (?_)))
      refine aS aC 2 ?_
      refine bA ?_
      obtain rfl := oI h1
      obtain ⟨los', hl', hO⟩ := aM.aAM (sh := shF) (x := p) (b := bb) (G := [(lD, .raw pJ)]) hO hP
      rw [TH hg] at hl' hO
      exact aF (⟨rfl, _, rfl, lo18, los', hl', .eq (by kernel_rfl), hO⟩)
    ·refine gJ 5 ?_
     obtain rfl := oI h1
     obtain rfl : _ = out := ho
     obtain rfl := oI h0
     refine dP [(10, (.lp lo1 0 0)), (11, (.lp lo2 0 0)), (12, (.lp lo12 0 0)), (17, (.msl 3 lo17 0 (List.length o17)))] ?_
     refine tM (en := aP) o17 3 4 17 3 lo17 (List.length o17) hO (by kernel_rfl) (by kernel_rfl) (by kernel_rfl) (L' := [(lo1, 1, [(eL aP t10)]), (lo2, 1, [(eI t11)]), (lo12, 1, [(.mp lm)]), (lo15, 1, List.map (eI) b1)]) (by kernel_rfl) ?_
     intro H hO
     refine aF (aY (aY (bV (aG (?_)))))
     refine eD [(10, (.lp lo1 0 0)), (11, (.lp lo2 0 0)), (12, (.lp lo12 0 0)), (17, (eL aP o17))] ?_
     refine aO ?_
     refine aS aC 3 ?_
     refine bI 1 ?_
     refine gY 0 lo1 1 0 (eL aP t10) (eL aP o17) [(eL aP t10)] [(lo1, 1, [(eL aP o17)]), (lo2, 1, [(eI t11)]), (lo12, 1, [(.mp lm)]), (lo15, 1, List.map (eI) b1)] hO rfl (by kernel_rfl) ?_
     intro H hO
     refine gY 1 lo2 1 0 (eI t11) (eI (0 : Int)) [(eI t11)] [(lo1, 1, [(eL aP o17)]), (lo2, 1, [(eI ((0 : Int)))]), (lo12, 1, [(.mp lm)]), (lo15, 1, List.map (eI) b1)] hO rfl (by kernel_rfl) ?_
     intro H hO
     refine dG ?_
     refine bD [(10, (.lp lo1 0 0)), (11, (.lp lo2 0 0))] ?_
     refine bG ?_
     replace hO := hO.qH (G' := (lD, .raw pJ) :: ((lm, pV sV (pmM los m)) :: up (pmL shF los m))) (by
      refine (List.Perm.cons _ List.perm_append_comm).trans ?_
      exact List.Perm.swap _ _ _)
     have hD := (hO.gm 0 _ rfl).2
     replace hO := (hO.nI .dead).nM
     exact aF (QM1 (.inr rfl) hD (rs := [.cell 10 32, .cell 11 26]) (xs := [(eL aP o17), (eI (0 : Int))]) (x := (.tup [(eL aP o17), (eI (0 : Int))])) (by kernel_rfl) (lR (lo := lo1) (k := 1) (y := (eL aP o17)) (x := (eL aP o17)) 0 hO (by kernel_rfl) (by kernel_rfl) (by kernel_rfl) (by kernel_rfl) (lR (lo := lo2) (k := 1) (y := (eI (0 : Int))) (x := (eI (0 : Int))) 1 hO (by kernel_rfl) (by kernel_rfl) (by kernel_rfl) (by kernel_rfl) mY)) (by kernel_rfl) ⟨rfl, hO.aBl.out⟩)
   replace h1 : sY s mk = some out1 := h1
   unfold sY at h1
   refine bA ?_
   refine bD [(10, (.lp lo1 0 0)), (11, (.lp lo2 0 0)), (12, (.lp lo12 0 0)), (15, (.msl 1 lo15 0 (List.length s))), (61, (.lp li 0 0)), (63, (aD true))] ?_
   refine aO ?_
   refine mQ (true) (fun hc => ?_) (fun hc => by cases hc)
   refine bN ?_
   refine bD [(10, (.lp lo1 0 0)), (11, (.lp lo2 0 0)), (12, (.lp lo12 0 0)), (15, (.msl 1 lo15 0 (List.length s))), (61, (.lp li 0 0))] ?_
   refine bX 4 ?_
   refine aO ?_
   refine aS aC 3 ?_
   refine PO hat hO ?_
   refine bA ?_
   refine bD [(10, (.lp lo1 0 0)), (11, (.lp lo2 0 0)), (12, (.lp lo12 0 0)), (15, (.msl 1 lo15 0 (List.length s))), (61, (.lp li 0 0)), (16, (eI mk))] ?_
   refine aS aC 5 ?_
   refine bI 2 ?_
   refine oE (xs := [(eI mk)]) (k := 1) (by kernel_rfl) (by kernel_rfl) ?_
   obtain ⟨c5, h1⟩ := aZ h1
   refine vF (e := (eI)) s ([mk]) 3 lo15 1 8 (fM [(eI mk)]) (fun lo16 => [(lo1, 1, [(eL aP t10)]), (lo2, 1, [(eI t11)]), (lo12, 1, [(.mp lm)]), (lo16, 1, List.map (eI) (s ++ ([mk])))]) (by kernel_rfl) (by kernel_rfl) hO (by kernel_rfl) (by kernel_rfl) c5 (fun _ => by kernel_rfl) ?_
   intro lo16 H hO
   refine bA ?_
   obtain rfl := oI h1
   exact aF (aV (⟨rfl, _, _, _, hlt, hleft, hall, lo16, .eq (by kernel_rfl), hO⟩))
  ·obtain ⟨t10, t11, m⟩ := s
   dsimp only [Sum.elim_inr] at hi
   obtain ⟨los, hl, rfl⟩ := hi
   obtain rfl := oI h0
   obtain ⟨hlL, hO⟩ := mB hO
   refine ⟨_, _, hlL, (by intro e; cases e), ?_⟩
   refine bG ?_
   refine aF (bC (aT ?_))
   have hD := (hO.gm 0 _ rfl).2
   replace hO := (hO.nI .dead).nM
   exact QM1 (.inr rfl) hD (rs := [.cell 10 32, .cell 11 26]) (xs := [(eL aP t10), (eI t11)]) (x := (.tup [(eL aP t10), (eI t11)])) (by kernel_rfl) (lR (lo := lo1) (k := 1) (y := (eL aP t10)) (x := (eL aP t10)) 0 hO (by kernel_rfl) (by kernel_rfl) (by kernel_rfl) (by kernel_rfl) (lR (lo := lo2) (k := 1) (y := (eI t11)) (x := (eI t11)) 1 hO (by kernel_rfl) (by kernel_rfl) (by kernel_rfl) (by kernel_rfl) mY)) (by kernel_rfl) ⟨rfl, hO.aBl.out⟩

theorem qX (s0 : (List aI)) (r : (List aI)) (h0 : gG s0 = some r) : FK Try.prog 47 [(eL aJ s0)] (fun lo => (.msl 3 lo 0 (List.length r))) 3 (List.map aJ r) := by
 intro H0
 refine cY Try.func47 ?_
 have hO := aM.start H0
 unfold gG at h0
 refine aX aC 1 [] [] ?_
 refine aO ?_
 refine aO ?_
 refine aS aC 2 ?_
 refine bI 1 ?_
 refine aEP false (List.length s0) (fun i => aJ (List.getD s0 i default)) (by kernel_rfl) (by kernel_rfl) ?_
 intro b1 hn2
 refine dG ?_
 refine bP [] [(4, (aD b1))] ?_
 refine mQ (b1) (fun hc3 => ?_) (fun hc3 => ?_)
 ·replace h0 : some ([] : List aI) = some r := by
   have hl := List.eq_nil_of_length_eq_zero (hn2 hc3)
   rw [hl] at h0
   exact (aZ h0).2
  refine bW aC 1 [(2, (.sl true 0 (fun _ => .bad)))] ?_
  refine bG ?_
  refine dP [(2, (.sl true 0 (fun _ => .bad)))] ?_
  refine XJ (el := (fun _ => .bad)) 0 2 3 hO (by kernel_rfl) ?_
  intro lo4 H5 hO
  obtain rfl := oI h0
  exact aF (aT (kA (x := (.msl 3 lo4 0 (List.length ([] : List aI)))) (by kernel_rfl) (aR.refl _) ⟨lo4, rfl, hO⟩))
 ·refine bN ?_
  refine bD [(0, (eL aJ s0))] ?_
  refine aO ?_
  refine aS aC 4 ?_
  refine oE (xs := []) (k := 3) (by kernel_rfl) (by kernel_rfl) ?_
  refine bI 2 ?_
  obtain ⟨c7, h0⟩ := aZ h0
  refine RF (e := aJ) s0 (fun _ => .bad) 3 32 (eL aJ s0) (fun lo6 => [(lo6, 3, List.map aJ s0)]) (by kernel_rfl) (by kernel_rfl) hO (RT (fun _ => by kernel_rfl)) c7 (fun _ => by kernel_rfl) ?_
  intro lo6 H hO
  refine bA ?_
  refine bD [(2, (.msl 3 lo6 0 (List.length s0)))] ?_
  refine bG ?_
  obtain rfl := oI h0
  exact aF (kA (x := (.msl 3 lo6 0 (List.length s0))) (by kernel_rfl) (aR.refl _) ⟨lo6, rfl, hO⟩)

theorem OX (l0 : (List aE)) (run1 : (List Int)) (r : aN) (h0 : rV l0 run1 = some r) : cZ Try.prog 43 [(eL aH l0), (eL (eI) run1)] (aP r) := by
 intro H0
 refine zN aC Try.func43 (by kernel_rfl) (by kernel_rfl) (by kernel_rfl) ?_
 have hO := aM.start H0
 unfold rV at h0
 refine aO ?_
 refine aS aC 1 ?_
 refine oO 3 (.agg [(eI 0), (eI 0), (.sl true 0 (fun _ => .bad))]) (aP (aN.mk (bJ.mk 0 0) ([]))) (by kernel_rfl) (by kernel_rfl) (by kernel_rfl) (yF (xs := [(eI 0), (eI 0), (.sl true 0 (fun _ => .bad))]) (ys := [(eI 0), (eI 0), (eL bH ([]))]) ⟨aR.refl _, aR.refl _, eN, trivial⟩) (by kernel_rfl) (by kernel_rfl) hO ?_
 intro lo1 H hO
 refine dG ?_
 refine bP [] [(4, (.lp lo1 0 0))] ?_
 refine aO ?_
 refine fS (fR [10, 16, 5]) aC 14 ?_
 obtain ⟨c2, h0⟩ := aZ h0
 obtain ⟨c3, h0⟩ := aZ h0
 refine cJ 12 [0 ≤ (0 : Int) ∧ (0 : Int) < (lN run1), 0 ≤ (wR ((lN run1) - (1 : Int))) ∧ (wR ((lN run1) - (1 : Int))) < (lN run1)] ⟨c2, c3, trivial⟩ ?_
 refine aEh 3 (.agg [(eI 0), (eI 0), (.sl true 0 (fun _ => .bad))]) (aP (aN.mk (bJ.mk 0 0) ([]))) (yF (xs := [(eI 0), (eI 0), (.sl true 0 (fun _ => .bad))]) (ys := [(eI 0), (eI 0), (eL bH ([]))]) ⟨aR.refl _, aR.refl _, eN, trivial⟩) hO ?_
 intro lo4 H hO
 refine kZ 1 lo4 3 0 (aP (aN.mk (bJ.mk 0 0) ([]))) (.agg [(eI ((bJ.mk (gD run1 (0 : Int)) (wR ((gD run1 (wR ((lN run1) - (1 : Int)))) + (1 : Int)))).From)), (eI ((bJ.mk (gD run1 (0 : Int)) (wR ((gD run1 (wR ((lN run1) - (1 : Int)))) + (1 : Int)))).To)), (.sl true 0 (fun _ => .bad))]) [(aP (aN.mk (bJ.mk 0 0) ([])))] [(lo1, 3, [(aP (aN.mk (bJ.mk 0 0) ([])))]), (lo4, 3, [(.agg [(eI ((bJ.mk (gD run1 (0 : Int)) (wR ((gD run1 (wR ((lN run1) - (1 : Int)))) + (1 : Int)))).From)), (eI ((bJ.mk (gD run1 (0 : Int)) (wR ((gD run1 (wR ((lN run1) - (1 : Int)))) + (1 : Int)))).To)), (.sl true 0 (fun _ => .bad))])])] hO rfl (by kernel_rfl) ?_
 intro H hO
 refine nO (by kernel_rfl) ?_
 refine aCt 1 3 lo4 2 2 [(eI ((bJ.mk (gD run1 (0 : Int)) (wR ((gD run1 (wR ((lN run1) - (1 : Int)))) + (1 : Int)))).From)), (eI ((bJ.mk (gD run1 (0 : Int)) (wR ((gD run1 (wR ((lN run1) - (1 : Int)))) + (1 : Int)))).To)), (.sl true 0 (fun _ => .bad))] (fun _ => .bad) (fun lo5 => [(lo1, 3, [(aP (aN.mk (bJ.mk 0 0) ([])))]), (lo4, 3, [(.agg [(eI ((bJ.mk (gD run1 (0 : Int)) (wR ((gD run1 (wR ((lN run1) - (1 : Int)))) + (1 : Int)))).From)), (eI ((bJ.mk (gD run1 (0 : Int)) (wR ((gD run1 (wR ((lN run1) - (1 : Int)))) + (1 : Int)))).To)), (.msl 2 lo5 0 0)])]), (lo5, 2, List.map bH ([] : List bB))]) hO (by kernel_rfl) (by kernel_rfl) (fun _ => by kernel_rfl) ?_
 intro lo5 H hO
 replace hO : aM ⟨H0, [], []⟩ H [(lo1, 3, [(aP (aN.mk (bJ.mk 0 0) ([])))]), (lo4, 3, [(.agg [(eI ((aN.mk (bJ.mk (gD run1 (0 : Int)) (wR ((gD run1 (wR ((lN run1) - (1 : Int)))) + (1 : Int)))) ([])).Span.From)), (eI ((aN.mk (bJ.mk (gD run1 (0 : Int)) (wR ((gD run1 (wR ((lN run1) - (1 : Int)))) + (1 : Int)))) ([])).Span.To)), (.msl 2 lo5 0 (List.length ([] : List bB)))])]), (lo5, 2, List.map bH ([] : List bB))] := hO
 refine bD [(0, (eL aH l0)), (4, (.lp lo1 0 0)), (5, (.lp lo4 0 0))] ?_
 refine aO ?_
 refine aO ?_
 refine aS aC 2 ?_
 refine bI 1 ?_
 obtain ⟨x6, hx7, h0⟩ := aW h0
 refine cX (HF l0 _ hx7) hO ?_
 intro H hO
 refine dG ?_
 refine bP [0] [(21, (.fn (.func 70) [] [(.rp (eL aH x6))]))] ?_
 refine bX 0 ?_
 refine eD [(4, (.lp lo1 0 0)), (5, (.lp lo4 0 0)), (21, (.fn (.func 70) [] [(.rp (eL aH x6))]))] ?_
 refine eE (fun T H => ∃ t4 : aN, ∃ p5 : aN, ∃ xP : (List aE), ∃ lo8 : Nat, Has T [(4, (.lp lo1 0 0)), (5, (.lp lo4 0 0)), (21, (.fn (.func 70) [] [(.rp (eL aH xP))]))] ∧ aM ⟨H0, [], []⟩ H [(lo1, 3, [(aP t4)]), (lo4, 3, [(.agg [(eI p5.Span.From), (eI p5.Span.To), (.msl 2 lo8 0 (List.length p5.Rows))])]), (lo8, 2, List.map bH p5.Rows)] ∧ tU t4 p5 xP = some r) ?_ ⟨(aN.mk (bJ.mk 0 0) ([])), aN.mk (bJ.mk (gD run1 (0 : Int)) (wR ((gD run1 (wR ((lN run1) - (1 : Int)))) + (1 : Int)))) ([]), x6, lo5, .eq (by kernel_rfl), hO, h0⟩
 clear hO h0
 rintro T H ⟨t4, p5, xP, lo8, hT, hO, h0⟩
 refine bF (l := [(4, (.lp lo1 0 0)), (5, (.lp lo4 0 0)), (21, (.fn (.func 70) [] [(.rp (eL aH xP))]))]) hT ?_
 clear hT
 unfold tU at h0
 obtain ⟨o0, hl0, h0⟩ := aW h0
 refine wO (fid := 70) (ys := []) (cs := [(.rp (eL aH xP))]) #[22] (fun (A : rT) (b lL : Nat) (st : (aN × aN) ⊕ (aN × aN)) (G' : Gs) => Sum.elim (fun (s : aN × aN) => ∃ lo8 : Nat, G' = (lL, .raw (gQ b A .ready none)) :: (up [(lo1, 3, [(aP s.1)]), (lo4, 3, [(.agg [(eI s.2.Span.From), (eI s.2.Span.To), (.msl 2 lo8 0 (List.length s.2.Rows))])]), (lo8, 2, List.map bH s.2.Rows)] ++ [])) (fun (s : aN × aN) => False) st) (.inl (t4, p5)) o0 (.tup []) (by kernel_rfl) (by kernel_rfl) (by kernel_rfl) hO (fun _ _ => ⟨lo8, rfl⟩) ?_ ?_
 ·intro b lL
  clear hO h0
  refine CB _ b (fun st t22 => rnd (fun (s : aN × aN) => oN xP s.1 s.2 t22) st) ?_ xP _ _ hl0
  intro st t22 out1 rr hr
  obtain ⟨s, rfl, h1, rfl⟩ := ID hr
  clear hr
  intro Hr Gr hi hg
  obtain ⟨t4, p5⟩ := s
  dsimp only [Sum.elim_inl] at hi
  obtain ⟨lo8, rfl⟩ := hi
  replace h1 : oN xP t4 p5 t22 = some out1 := h1
  unfold oN at h1
  obtain ⟨E1, hE, hO⟩ := pE hg
  refine pF (uF (hO.gm 0 _ rfl).2 (by kernel_rfl) (by kernel_rfl) ?_)
  refine eD [(4, (.lp lo1 0 0)), (5, (.lp lo4 0 0)), (21, (.fn (.func 70) [] [(.rp (eL aH xP))])), (22, (aH t22))] ?_
  refine aS aC 2 ?_
  refine oO 3 (.agg [(.sl true 0 (fun _ => .bad)), (eI 0), (eI 0)]) (aH (aE.mk ([]) 0 0)) (by kernel_rfl) (by kernel_rfl) (by kernel_rfl) (yF (xs := [(.sl true 0 (fun _ => .bad)), (eI 0), (eI 0)]) (ys := [(eL aJ ([])), (eI 0), (eI 0)]) ⟨eN, aR.refl _, aR.refl _, trivial⟩) (by kernel_rfl) (by kernel_rfl) hO ?_
  intro lo9 H hO
  refine gY 3 lo9 3 0 (aH (aE.mk ([]) 0 0)) (aH t22) [(aH (aE.mk ([]) 0 0))] [(lo1, 3, [(aP t4)]), (lo4, 3, [(.agg [(eI p5.Span.From), (eI p5.Span.To), (.msl 2 lo8 0 (List.length p5.Rows))])]), (lo8, 2, List.map bH p5.Rows), (lo9, 3, [(aH t22)])] hO rfl (by kernel_rfl) ?_
  intro H hO
  refine dG ?_
  refine dP [(4, (.lp lo1 0 0)), (5, (.lp lo4 0 0)), (6, (.lp lo9 0 0))] ?_
  refine aF (⟨rfl, rfl, (hO.gm 0 _ rfl).2, ?_⟩)
  intro o1 ho1
  replace hO := hO.nI o1
  refine bX 1 ?_
  refine aO ?_
  refine aO ?_
  refine aS aC 14 ?_
  refine bI 1 ?_
  refine jJ 3 lo9 3 0 (aH t22) (eI t22.At) [(aH t22)] hO rfl ?_
  refine bI 4 ?_
  refine jJ 1 lo4 3 0 (.agg [(eI p5.Span.From), (eI p5.Span.To), (.msl 2 lo8 0 (List.length p5.Rows))]) (eI p5.Span.From) [(.agg [(eI p5.Span.From), (eI p5.Span.To), (.msl 2 lo8 0 (List.length p5.Rows))])] hO rfl ?_
  refine bI 8 ?_
  refine rR [(29, false)] 3 lo9 3 0 (aH t22) (eI t22.At) [(aH t22)] (by kernel_rfl) (by kernel_rfl) hO (by kernel_rfl) (!(decide (t22.At < p5.Span.From))) (by kernel_rfl) (fun hb10 => rfl) ?_
  refine bI 11 ?_
  refine rR [(29, false)] 1 lo4 3 0 (.agg [(eI p5.Span.From), (eI p5.Span.To), (.msl 2 lo8 0 (List.length p5.Rows))]) (eI p5.Span.To) [(.agg [(eI p5.Span.From), (eI p5.Span.To), (.msl 2 lo8 0 (List.length p5.Rows))])] (by kernel_rfl) (by kernel_rfl) hO (by kernel_rfl) (!(decide (t22.At < p5.Span.From))) (by kernel_rfl) (fun _ => rfl) ?_
  refine bA ?_
  refine bP [] [(36, (aD ((decide (t22.At < p5.Span.From)) || (decide (p5.Span.To ≤ t22.At)))))] ?_
  refine bK h1 (fun h1 => ?_) (fun h1 => ?_)
  ·refine gJ 1 ?_
   refine dP [(4, (.lp lo1 0 0)), (5, (.lp lo4 0 0))] ?_
   replace hO := hO.pick (L' := [(lo1, 3, [(aP t4)]), (lo4, 3, [(.agg [(eI p5.Span.From), (eI p5.Span.To), (.msl 2 lo8 0 (List.length p5.Rows))])]), (lo8, 2, List.map bH p5.Rows)]) [0, 1, 2] (by decide) (by kernel_rfl)
   obtain rfl := oI h1
   exact aF (aY (bV (⟨(dA hO hE ho1 .dead).1, rfl, _, ⟨lo8, rfl⟩, (dA hO hE ho1 _).2⟩)))
  refine bN ?_
  refine bD [(4, (.lp lo1 0 0)), (5, (.lp lo4 0 0)), (6, (.lp lo9 0 0))] ?_
  refine aO ?_
  refine aS aC 5 ?_
  refine bI 1 ?_
  refine jJ 1 lo4 3 0 (.agg [(eI p5.Span.From), (eI p5.Span.To), (.msl 2 lo8 0 (List.length p5.Rows))]) (.msl 2 lo8 0 (List.length p5.Rows)) [(.agg [(eI p5.Span.From), (eI p5.Span.To), (.msl 2 lo8 0 (List.length p5.Rows))])] hO rfl ?_
  refine bA ?_
  refine bP [] [(7, (eI (wR ((lN p5.Rows) - (1 : Int)))))] ?_
  refine aO ?_
  refine aO ?_
  obtain ⟨c12, h1⟩ := aZ h1
  obtain ⟨x13, hx14, h1⟩ := aW h1
  refine fS (fR []) aC 13 ?_
  refine qV (K := fun T H => Has (lift T) [(4, (.lp lo1 0 0)), (5, (.lp lo4 0 0)), (6, (.lp lo9 0 0)), (7, (eI (wR ((lN p5.Rows) - (1 : Int))))), (53, (aD ((decide ((0 : Int) ≤ (wR ((lN p5.Rows) - (1 : Int))))) && x13)))] ∧ aM ⟨Hr, E1, (lL, o1) :: []⟩ H [(lo1, 3, [(aP t4)]), (lo4, 3, [(.agg [(eI p5.Span.From), (eI p5.Span.To), (.msl 2 lo8 0 (List.length p5.Rows))])]), (lo8, 2, List.map bH p5.Rows), (lo9, 3, [(aH t22)])]) ?_ ?_
  ·refine kJ 3 ?_
   refine pN (t := 43) (e := decide ((0 : Int) ≤ (wR ((lN p5.Rows) - (1 : Int))))) (by kernel_rfl) (fun hg15 => ?_) (fun hg15 => ?_)
   ·refine kJ 4 ?_
    refine iZ 1 lo4 3 0 (.agg [(eI p5.Span.From), (eI p5.Span.To), (.msl 2 lo8 0 (List.length p5.Rows))]) (.msl 2 lo8 0 (List.length p5.Rows)) [(.agg [(eI p5.Span.From), (eI p5.Span.To), (.msl 2 lo8 0 (List.length p5.Rows))])] (by kernel_rfl) (by kernel_rfl) (by kernel_rfl) hO (by kernel_rfl) rfl ?_
    refine cJ 8 [0 ≤ (wR ((lN p5.Rows) - (1 : Int))) ∧ (wR ((lN p5.Rows) - (1 : Int))) < (lN p5.Rows)] ⟨(c12 hg15), trivial⟩ ?_
    refine iZ 2 lo8 2 (0 + Int.toNat (wR ((lN p5.Rows) - (1 : Int)))) (bH (gD p5.Rows (wR ((lN p5.Rows) - (1 : Int))))) (eL aJ ((gD p5.Rows (wR ((lN p5.Rows) - (1 : Int)))).Row)) (List.map bH p5.Rows) (by kernel_rfl) (by kernel_rfl) (by kernel_rfl) hO (by kernel_rfl) (cA (c12 hg15)) ?_
    refine kJ 10 ?_
    refine iZ 3 lo9 3 0 (aH t22) (eL aJ t22.Row) [(aH t22)] (by kernel_rfl) (by kernel_rfl) (by kernel_rfl) hO (by kernel_rfl) rfl ?_
    refine pO 67 [(eL aJ ((gD p5.Rows (wR ((lN p5.Rows) - (1 : Int)))).Row)), (eL aJ t22.Row)] (aD x13) (by kernel_rfl) (by kernel_rfl) (rC ((gD p5.Rows (wR ((lN p5.Rows) - (1 : Int)))).Row) t22.Row _ (jG hx14 hg15)) hO ?_
    intro H hO
    refine kI ?_
    exact ⟨⟨[(4, (.lp lo1 0 0)), (5, (.lp lo4 0 0)), (6, (.lp lo9 0 0)), (7, (eI (wR ((lN p5.Rows) - (1 : Int))))), (53, (aD x13))], by kernel_rfl, rfl, ⟨aR.refl _, aR.refl _, aR.refl _, aR.refl _, aR.eq (congrArg aD (oG hg15 rfl).symm), trivial⟩⟩, hO⟩
   refine kI ?_
   exact ⟨⟨[(4, (.lp lo1 0 0)), (5, (.lp lo4 0 0)), (6, (.lp lo9 0 0)), (7, (eI (wR ((lN p5.Rows) - (1 : Int))))), (53, (aD false))], by kernel_rfl, rfl, ⟨aR.refl _, aR.refl _, aR.refl _, aR.refl _, aR.eq (congrArg aD (oG hg15 rfl).symm), trivial⟩⟩, hO⟩
  ·rintro T H ⟨hT, hO⟩
   refine dJ hT ?_
   clear hT
   refine aF (aG ?_)
   refine bK h1 (fun h1 => ?_) (fun h1 => ?_)
   ·refine aO ?_
    refine fS (fR []) aC 12 ?_
    refine kJ 1 ?_
    refine fY 1 lo4 3 0 (.agg [(eI p5.Span.From), (eI p5.Span.To), (.msl 2 lo8 0 (List.length p5.Rows))]) (.msl 2 lo8 0 (List.length p5.Rows)) [(.agg [(eI p5.Span.From), (eI p5.Span.To), (.msl 2 lo8 0 (List.length p5.Rows))])] hO rfl ?_
    obtain ⟨c17, h1⟩ := aZ h1
    refine cJ 5 [0 ≤ (wR ((lN p5.Rows) - (1 : Int))) ∧ (wR ((lN p5.Rows) - (1 : Int))) < (lN p5.Rows)] ⟨c17, trivial⟩ ?_
    refine fY 2 lo8 2 (0 + Int.toNat (wR ((lN p5.Rows) - (1 : Int)))) (bH (gD p5.Rows (wR ((lN p5.Rows) - (1 : Int))))) (eI ((gD p5.Rows (wR ((lN p5.Rows) - (1 : Int)))).N)) (List.map bH p5.Rows) hO (cA c17) ?_
    refine kJ 7 ?_
    refine fY 3 lo9 3 0 (aH t22) (eI t22.Net) [(aH t22)] hO rfl ?_
    obtain ⟨c18, h1⟩ := aZ h1
    refine cJ 11 [0 ≤ (wR ((lN p5.Rows) - (1 : Int))) ∧ (wR ((lN p5.Rows) - (1 : Int))) < (lN p5.Rows)] ⟨c18, trivial⟩ ?_
    refine kZ 2 lo8 2 (0 + Int.toNat (wR ((lN p5.Rows) - (1 : Int)))) (bH (gD p5.Rows (wR ((lN p5.Rows) - (1 : Int))))) (bH (bB.mk (gD p5.Rows (wR ((lN p5.Rows) - (1 : Int)))).Row (wR (((gD p5.Rows (wR ((lN p5.Rows) - (1 : Int)))).N) + t22.Net)))) (List.map bH p5.Rows) [(lo1, 3, [(aP t4)]), (lo4, 3, [(.agg [(eI p5.Span.From), (eI p5.Span.To), (.msl 2 lo8 0 (List.length p5.Rows))])]), (lo8, 2, List.map bH (List.set p5.Rows (Int.toNat (wR ((lN p5.Rows) - (1 : Int)))) (bB.mk (gD p5.Rows (wR ((lN p5.Rows) - (1 : Int)))).Row (wR (((gD p5.Rows (wR ((lN p5.Rows) - (1 : Int)))).N) + t22.Net))))), (lo9, 3, [(aH t22)])] hO (cA c18) (by simp only [List.set, iI]) ?_
    intro H hO
    refine nO (by kernel_rfl) ?_
    replace hO : aM ⟨Hr, E1, (lL, o1) :: []⟩ H [(lo1, 3, [(aP t4)]), (lo4, 3, [(.agg [(eI ((aN.mk p5.Span (List.set p5.Rows (Int.toNat (wR ((lN p5.Rows) - (1 : Int)))) (bB.mk (gD p5.Rows (wR ((lN p5.Rows) - (1 : Int)))).Row (wR (((gD p5.Rows (wR ((lN p5.Rows) - (1 : Int)))).N) + t22.Net))))).Span.From)), (eI ((aN.mk p5.Span (List.set p5.Rows (Int.toNat (wR ((lN p5.Rows) - (1 : Int)))) (bB.mk (gD p5.Rows (wR ((lN p5.Rows) - (1 : Int)))).Row (wR (((gD p5.Rows (wR ((lN p5.Rows) - (1 : Int)))).N) + t22.Net))))).Span.To)), (.msl 2 lo8 0 (List.length (List.set p5.Rows (Int.toNat (wR ((lN p5.Rows) - (1 : Int)))) (bB.mk (gD p5.Rows (wR ((lN p5.Rows) - (1 : Int)))).Row (wR (((gD p5.Rows (wR ((lN p5.Rows) - (1 : Int)))).N) + t22.Net))))))])]), (lo8, 2, List.map bH (List.set p5.Rows (Int.toNat (wR ((lN p5.Rows) - (1 : Int)))) (bB.mk (gD p5.Rows (wR ((lN p5.Rows) - (1 : Int)))).Row (wR (((gD p5.Rows (wR ((lN p5.Rows) - (1 : Int)))).N) + t22.Net))))), (lo9, 3, [(aH t22)])] := by simpa only [List.length_set] using hO
    replace hO := hO.pick (L' := [(lo1, 3, [(aP t4)]), (lo4, 3, [(.agg [(eI ((aN.mk p5.Span (List.set p5.Rows (Int.toNat (wR ((lN p5.Rows) - (1 : Int)))) (bB.mk (gD p5.Rows (wR ((lN p5.Rows) - (1 : Int)))).Row (wR (((gD p5.Rows (wR ((lN p5.Rows) - (1 : Int)))).N) + t22.Net))))).Span.From)), (eI ((aN.mk p5.Span (List.set p5.Rows (Int.toNat (wR ((lN p5.Rows) - (1 : Int)))) (bB.mk (gD p5.Rows (wR ((lN p5.Rows) - (1 : Int)))).Row (wR (((gD p5.Rows (wR ((lN p5.Rows) - (1 : Int)))).N) + t22.Net))))).Span.To)), (.msl 2 lo8 0 (List.length (List.set p5.Rows (Int.toNat (wR ((lN p5.Rows) - (1 : Int)))) (bB.mk (gD p5.Rows (wR ((lN p5.Rows) - (1 : Int)))).Row (wR (((gD p5.Rows (wR ((lN p5.Rows) - (1 : Int)))).N) + t22.Net))))))])]), (lo8, 2, List.map bH (List.set p5.Rows (Int.toNat (wR ((lN p5.Rows) - (1 : Int)))) (bB.mk (gD p5.Rows (wR ((lN p5.Rows) - (1 : Int)))).Row (wR (((gD p5.Rows (wR ((lN p5.Rows) - (1 : Int)))).N) + t22.Net)))))]) [0, 1, 2] (by decide) (by kernel_rfl)
    refine bP [6, 7, 53] [] ?_
    refine gJ 1 ?_
    refine dP [(4, (.lp lo1 0 0)), (5, (.lp lo4 0 0))] ?_
    obtain rfl := oI h1
    exact aF (aY (bV (⟨(dA hO hE ho1 .dead).1, rfl, _, ⟨lo8, rfl⟩, (dA hO hE ho1 _).2⟩)))
   refine bN ?_
   refine bD [(4, (.lp lo1 0 0)), (5, (.lp lo4 0 0)), (6, (.lp lo9 0 0))] ?_
   refine KV 2 3 6 3 lo9 (aH t22) [(lo1, 3, [(aP t4)]), (lo4, 3, [(.agg [(eI p5.Span.From), (eI p5.Span.To), (.msl 2 lo8 0 (List.length p5.Rows))])]), (lo8, 2, List.map bH p5.Rows)] hO (by kernel_rfl) (by kernel_rfl) (by kernel_rfl) ?_
   intro H hO
   refine fS (fR [68, 69, 71, 73]) aC 12 ?_
   refine kJ 1 ?_
   refine fY 1 lo4 3 0 (.agg [(eI p5.Span.From), (eI p5.Span.To), (.msl 2 lo8 0 (List.length p5.Rows))]) (.msl 2 lo8 0 (List.length p5.Rows)) [(.agg [(eI p5.Span.From), (eI p5.Span.To), (.msl 2 lo8 0 (List.length p5.Rows))])] hO rfl ?_
   refine kJ 4 ?_
   obtain ⟨x19, hx20, h1⟩ := aW h1
   refine aAZ 47 [(eL aJ t22.Row)] (eL aJ x19) (by kernel_rfl) (by kernel_rfl) (FK.frozen (qX t22.Row _ hx20)) hO ?_
   intro H hO
   refine kJ 8 ?_
   refine VE (xs := [(bH (bB.mk x19 t22.Net))]) (k := 2) (by kernel_rfl) (by kernel_rfl) ?_
   obtain ⟨c23, h1⟩ := aZ h1
   refine LL (e := bH) p5.Rows ([bB.mk x19 t22.Net]) 2 lo8 2 32 (fM [(bH (bB.mk x19 t22.Net))]) (fun lo22 => [(lo1, 3, [(aP t4)]), (lo4, 3, [(.agg [(eI p5.Span.From), (eI p5.Span.To), (.msl 2 lo8 0 (List.length p5.Rows))])]), (lo22, 2, List.map bH (p5.Rows ++ ([bB.mk x19 t22.Net])))]) (by kernel_rfl) (by kernel_rfl) hO (by kernel_rfl) (by kernel_rfl) c23 (fun _ => by kernel_rfl) ?_
   intro lo22 H hO
   refine kJ 11 ?_
   refine kZ 1 lo4 3 0 (.agg [(eI p5.Span.From), (eI p5.Span.To), (.msl 2 lo8 0 (List.length p5.Rows))]) (.agg [(eI ((aN.mk p5.Span (p5.Rows ++ ([bB.mk x19 t22.Net]))).Span.From)), (eI ((aN.mk p5.Span (p5.Rows ++ ([bB.mk x19 t22.Net]))).Span.To)), (.msl 2 lo22 0 (List.length (p5.Rows ++ ([bB.mk x19 t22.Net]))))]) [(.agg [(eI p5.Span.From), (eI p5.Span.To), (.msl 2 lo8 0 (List.length p5.Rows))])] [(lo1, 3, [(aP t4)]), (lo4, 3, [(.agg [(eI ((aN.mk p5.Span (p5.Rows ++ ([bB.mk x19 t22.Net]))).Span.From)), (eI ((aN.mk p5.Span (p5.Rows ++ ([bB.mk x19 t22.Net]))).Span.To)), (.msl 2 lo22 0 (List.length (p5.Rows ++ ([bB.mk x19 t22.Net]))))])]), (lo22, 2, List.map bH (p5.Rows ++ ([bB.mk x19 t22.Net])))] hO rfl (by kernel_rfl) ?_
   intro H hO
   refine nO (by kernel_rfl) ?_
   refine dP [(4, (.lp lo1 0 0)), (5, (.lp lo4 0 0))] ?_
   obtain rfl := oI h1
   exact aF (aV (⟨(dA hO hE ho1 .dead).1, rfl, _, ⟨lo22, rfl⟩, (dA hO hE ho1 _).2⟩))
 ·intro b lD24 lL H' G' hi hO
  rcases o0 with s | s
  ·dsimp only [Sum.elim_inl] at hi
   obtain ⟨lo8, rfl⟩ := hi
   replace h0 : (some s.2) = some r := h0
   obtain ⟨hlL, hO⟩ := mB hO
   refine ⟨_, _, hlL, (by intro e; cases e), ?_⟩
   refine dP [(4, (.lp lo1 0 0)), (5, (.lp lo4 0 0))] ?_
   refine aF (aV (aG (?_)))
   refine aO ?_
   refine MH (e := bH) s.2.Rows 1 2 3 2 lo4 lo8 (List.length s.2.Rows) 2 [(eI s.2.Span.From), (eI s.2.Span.To), (.msl 2 lo8 0 (List.length s.2.Rows))] [(lo1, 3, [(aP s.1)]), (lo4, 3, [(aP s.2)])] hO (by kernel_rfl) (by kernel_rfl) (by kernel_rfl) (by kernel_rfl) (by kernel_rfl) (by kernel_rfl) ?_
   intro H hO
   refine aS aC 2 ?_
   refine jJ 1 lo4 3 0 (aP s.2) (aP s.2) [(aP s.2)] hO rfl ?_
   refine gY 0 lo1 3 0 (aP s.1) (aP s.2) [(aP s.1)] [(lo1, 3, [(aP s.2)]), (lo4, 3, [(aP s.2)])] hO rfl (by kernel_rfl) ?_
   intro H hO
   refine dG ?_
   refine dP [(4, (.lp lo1 0 0))] ?_
   replace hO := hO.pick (L' := [(lo1, 3, [(aP s.2)])]) [0] (by decide) (by kernel_rfl)
   refine aF (aG (?_))
   refine bG ?_
   obtain rfl := oI h0
   have hD := (hO.gm 0 _ rfl).2
   replace hO := (hO.nI .dead).nM
   exact aF (QM1 (.inr rfl) hD (rs := [.cell 4 58]) (xs := [(aP s.2)]) (x := (aP s.2)) (by kernel_rfl) (lR (lo := lo1) (k := 3) (y := (aP s.2)) (x := (aP s.2)) 0 hO (by kernel_rfl) (by kernel_rfl) (by kernel_rfl) (by kernel_rfl) mY) (by kernel_rfl) ⟨rfl, hO.out⟩)
  ·exact hi.elim

end Go.Abs
namespace Go.Abs
open Go Go.RowKit Go.Proofs
theorem RB (l0 : (List aE)) (n1 : Int) (nN : Int) (r : ((List aN) × Int)) (h0 : tA l0 n1 nN = some r) : cZ Try.prog 21 [(eL aH l0), (eI n1), (eI nN)] (.tup [(eL aP r.1), (eI r.2)]) := by
 intro H0
 refine cY Try.func21 ?_
 have hO := aM.start H0
 unfold tA at h0
 refine aX aC 2 [] [] ?_
 refine aO ?_
 refine aO ?_
 refine aS aC 4 ?_
 refine bI 2 ?_
 obtain ⟨x1, hx2, h0⟩ := aW h0
 refine cX (KG l0 n1 _ hx2) hO ?_
 intro H hO
 refine bA ?_
 refine bP [] [(8, (eI x1))] ?_
 refine aX aC 2 [] [(18, (aD (!decide (x1 = (0 : Int)))))] ?_
 refine bK h0 (fun h0 => ?_) (fun h0 => ?_)
 ·refine bW aC 3 [(6, (.sl true 0 (fun _ => .bad))), (7, (eI x1))] ?_
  refine bG ?_
  refine dJ (l := [(6, (eL aP ([]))), (7, (eI x1))]) ⟨[(6, (.sl true 0 (fun _ => .bad))), (7, (eI x1))], by kernel_rfl, rfl, ⟨eN, aR.refl _, trivial⟩⟩ ?_
  obtain rfl := oI h0
  exact aF (aT (Q_r hO))
 refine bN ?_
 refine bD [(0, (eL aH l0)), (1, (eI n1)), (2, (eI nN))] ?_
 refine aO ?_
 refine aX aC 6 [] [(25, (aD ((decide (nN < (0 : Int))) || (decide ((1125899906842624 : Int) < nN)))))] ?_
 refine bK h0 (fun h0 => ?_) (fun h0 => ?_)
 ·refine bW aC 2 [(6, (.sl true 0 (fun _ => .bad))), (7, (eI (13 : Int)))] ?_
  refine bG ?_
  refine dJ (l := [(6, (eL aP ([]))), (7, (eI (13 : Int)))]) ⟨[(6, (.sl true 0 (fun _ => .bad))), (7, (eI (13 : Int)))], by kernel_rfl, rfl, ⟨eN, aR.refl _, trivial⟩⟩ ?_
  obtain rfl := oI h0
  exact aF (aT (Q_r hO))
 refine bN ?_
 refine bD [(0, (eL aH l0)), (1, (eI n1)), (2, (eI nN))] ?_
 refine aO ?_
 refine aS aC 3 ?_
 refine bI 1 ?_
 obtain ⟨x6, hx7, h0⟩ := aW h0
 refine cX (EW l0 _ hx7) hO ?_
 intro H hO
 refine bA ?_
 refine bP [] [(9, (eL (eI) x6))] ?_
 refine aO ?_
 refine aS aC 8 ?_
 refine bI 2 ?_
 obtain ⟨x9, hx10, h0⟩ := aW h0
 refine cX (sL x6 nN _ hx10) hO ?_
 intro H hO
 refine bA ?_
 refine bP [2] [(10, (eI x9.1))] ?_
 refine aO ?_
 refine aS aC 8 ?_
 obtain ⟨c12, h0⟩ := aZ h0
 refine pZ [0 ≤ x9.1 ∧ x9.1 ≤ (lN x6) ∧ (lN x6) ≤ (lN x6) ∧ (lN x6) ≤ (lN x6)] ⟨c12, trivial⟩ ?_
 refine dJ (l := [(0, (eL aH l0)), (1, (eI n1)), (12, (eL (eI) (List.drop (Int.toNat x9.1) (List.take (Int.toNat (lN x6)) x6))))]) ⟨[(0, (eL aH l0)), (1, (eI n1)), (12, (.sl false (Int.toNat (lN x6) - Int.toNat x9.1) (fun i => (eI) (List.getD x6 (Int.toNat x9.1 + i) default))))], by kernel_rfl, rfl, ⟨aR.refl _, aR.refl _, aF0 (Int.toNat_le.2 (Int.le_trans (And.left (And.right (And.right c12))) (And.right (And.right (And.right c12))))), trivial⟩⟩ ?_
 refine aF (aG (?_))
 refine aO ?_
 refine aX aC 6 [] [(46, (aD (decide ((1024 : Int) < (wR ((wR ((lN (List.drop (Int.toNat x9.1) (List.take (Int.toNat (lN x6)) x6))) - n1)) + (1 : Int)))))))] ?_
 refine bK h0 (fun h0 => ?_) (fun h0 => ?_)
 ·refine bW aC 2 [(6, (.sl true 0 (fun _ => .bad))), (7, (eI (7 : Int)))] ?_
  refine bG ?_
  refine dJ (l := [(6, (eL aP ([]))), (7, (eI (7 : Int)))]) ⟨[(6, (.sl true 0 (fun _ => .bad))), (7, (eI (7 : Int)))], by kernel_rfl, rfl, ⟨eN, aR.refl _, trivial⟩⟩ ?_
  obtain rfl := oI h0
  exact aF (aT (Q_r hO))
 refine bN ?_
 refine bD [(0, (eL aH l0)), (1, (eI n1)), (12, (eL (eI) (List.drop (Int.toNat x9.1) (List.take (Int.toNat (lN x6)) x6))))] ?_
 refine aO ?_
 refine aS aC 2 ?_
 refine oE (xs := []) (k := 3) (by kernel_rfl) (by kernel_rfl) ?_
 refine bA ?_
 refine bP [] [(13, (.sl true 0 (fun _ => .bad)))] ?_
 refine eR (fun T H => ∃ kP : List aN, ∃ lo14 : Nat, Has T [(13, (.msl 3 lo14 0 (List.length kP)))] ∧ aM ⟨H0, [], []⟩ H [(lo14, 3, List.map aP kP)] ∧ vT kP = some r) ?_ ?_
 ·clear hO h0
  rintro T H ⟨kP, lo14, hT, hO, h0⟩
  refine bF hT ?_
  clear hT
  unfold vT at h0
  refine bW aC 3 [(6, (.msl 3 lo14 0 (List.length kP))), (7, (eI (0 : Int)))] ?_
  refine bG ?_
  refine dP [(6, (.msl 3 lo14 0 (List.length kP))), (7, (eI (0 : Int)))] ?_
  refine tM (en := aP) kP 0 0 6 3 lo14 (List.length kP) hO (by kernel_rfl) (by kernel_rfl) (by kernel_rfl) (L' := []) (by kernel_rfl) ?_
  intro H15 hO
  obtain rfl := oI h0
  exact aF (Q_r hO)
 refine bX 0 ?_
 refine eD [(0, (eL aH l0)), (1, (eI n1)), (12, (eL (eI) (List.drop (Int.toNat x9.1) (List.take (Int.toNat (lN x6)) x6)))), (13, (.sl true 0 (fun _ => .bad)))] ?_
 refine OC (el := (fun _ => .bad)) 3 13 3 hO (by kernel_rfl) ?_
 intro lo26 H27 hO
 refine eE (fun T H => ∃ lW : (List Int), ∃ kP : List aN, ∃ lo17 : Nat, Has T [(0, (eL aH l0)), (1, (eI n1)), (12, (eL (eI) lW)), (13, (.msl 3 lo17 0 (List.length kP)))] ∧ aM ⟨H0, [], []⟩ H [(lo17, 3, List.map aP kP)] ∧ vV l0 n1 lW kP = some r) ?_ ⟨List.drop (Int.toNat x9.1) (List.take (Int.toNat (lN x6)) x6), ([] : List aN), lo26, .eq (by kernel_rfl), hO, h0⟩
 clear hO h0
 rintro T H ⟨lW, kP, lo17, hT, hO, h0⟩
 refine bF hT ?_
 clear hT
 unfold vV at h0
 obtain ⟨rr0, hl0, h0⟩ := aW h0
 refine dK (by kernel_rfl) (fun (s : (List Int) × List aN) T H => ∃ lo17 : Nat, Has T [(0, (eL aH l0)), (1, (eI n1)), (12, (eL (eI) s.1)), (13, (.msl 3 lo17 0 (List.length s.2)))] ∧ aM ⟨H0, [], []⟩ H [(lo17, 3, List.map aP s.2)]) hl0 ⟨lo17, .eq (by kernel_rfl), hO⟩ ?_
 clear hO
 rintro k0 s out1 T H ⟨lo17, hT, hO⟩ h1 ho0
 obtain ⟨lW, kP⟩ := s
 replace h1 : mL l0 n1 lW kP = some out1 := h1
 try dsimp only at hT
 refine bF hT ?_
 clear hT
 unfold mL at h1
 refine aO ?_
 refine aX aC 4 [] [(51, (aD (decide (n1 ≤ (lN lW)))))] ?_
 refine bK h1 (fun h1 => ?_) (fun h1 => ?_)
 ·refine bN ?_
  refine bD [(0, (eL aH l0)), (1, (eI n1)), (12, (eL (eI) lW)), (13, (.msl 3 lo17 0 (List.length kP)))] ?_
  refine bX 1 ?_
  refine aO ?_
  refine aS aC 10 ?_
  refine bI 5 ?_
  obtain ⟨c19, h1⟩ := aZ h1
  refine aEw (n' := List.length lW) (el := fun i => (eI) (List.getD lW i default)) c19 ?_
  obtain ⟨x20, hx21, h1⟩ := aW h1
  refine aGt 43 [(eL aH l0), (.sl false (Int.toNat n1) (fun i => (eI) (List.getD lW i default)))] (aP x20) (cZ.sub (OX l0 (List.take (Int.toNat n1) lW) _ hx21) ⟨aR.refl _, aAW (Int.toNat_le.2 (Int.le_trans (And.left (And.right c19)) (And.right (And.right c19)))), trivial⟩) hO ?_
  intro H hO
  refine oE (xs := [(aP x20)]) (k := 3) (by kernel_rfl) (by kernel_rfl) ?_
  obtain ⟨c24, h1⟩ := aZ h1
  refine vF (e := aP) kP ([x20]) 0 lo17 3 40 (fM [(aP x20)]) (fun lo23 => [(lo23, 3, List.map aP (kP ++ ([x20])))]) (by kernel_rfl) (by kernel_rfl) hO (by kernel_rfl) (by kernel_rfl) c24 (fun _ => by kernel_rfl) ?_
  intro lo23 H hO
  refine bA ?_
  refine bP [13] [(13, (.msl 3 lo23 0 (List.length (kP ++ ([x20])))))] ?_
  refine aS aC 3 ?_
  obtain ⟨c25, h1⟩ := aZ h1
  refine pZ [0 ≤ (1 : Int) ∧ (1 : Int) ≤ (lN lW)] ⟨c25, trivial⟩ ?_
  refine dJ (l := [(0, (eL aH l0)), (1, (eI n1)), (12, (eL (eI) (List.drop (Int.toNat (1 : Int)) lW))), (13, (.msl 3 lo23 0 (List.length (kP ++ ([x20])))))]) ⟨[(0, (eL aH l0)), (1, (eI n1)), (12, (.sl false (List.length lW - Int.toNat (1 : Int)) (fun i => (eI) (List.getD lW (Int.toNat (1 : Int) + i) default)))), (13, (.msl 3 lo23 0 (List.length (kP ++ ([x20])))))], by kernel_rfl, rfl, ⟨aR.refl _, aR.refl _, aES, aR.refl _, trivial⟩⟩ ?_
  exact aF (aV (aG (⟨rfl, _, (oI h1).symm, _, .eq (by kernel_rfl), hO⟩)))
 refine gJ 0 ?_
 obtain rfl := oI h1
 obtain rfl : _ = rr0 := ho0
 replace h0 : vT kP = some r := h0
 exact aF (aY (aY (bV (aG (⟨rfl, _, _, .eq (by kernel_rfl), hO, h0⟩)))))

theorem aAo (l0 : (List aE)) (iT : Int) (r : ((List Int) × Int)) (h0 : yI l0 iT = some r) : cZ Try.prog 44 [(eL aH l0), (eI iT)] (.tup [(eL (eI) r.1), (eI r.2)]) := by
 intro H0
 refine cY Try.func44 ?_
 have hO := aM.start H0
 unfold yI at h0
 refine aX aC 2 [] [] ?_
 refine aO ?_
 refine bX 0 ?_
 refine aO ?_
 refine aS aC 4 ?_
 refine bI 1 ?_
 obtain ⟨x1, hx2, h0⟩ := aW h0
 refine cX (xE l0 _ hx2) hO ?_
 intro H hO
 refine bA ?_
 refine bP [] [(11, (aD (!x1)))] ?_
 refine bK h0 (fun h0 => ?_) (fun h0 => ?_)
 ·refine bW aC 2 [(4, (.sl true 0 (fun _ => .bad))), (5, (eI (2 : Int)))] ?_
  refine bG ?_
  refine dJ (l := [(4, (eL (eI) ([]))), (5, (eI (2 : Int)))]) ⟨[(4, (.sl true 0 (fun _ => .bad))), (5, (eI (2 : Int)))], by kernel_rfl, rfl, ⟨eN, aR.refl _, trivial⟩⟩ ?_
  obtain rfl := oI h0
  exact aF (bC (aT (Q_r hO)))
 refine aO ?_
 refine aS aC 4 ?_
 refine bI 1 ?_
 obtain ⟨x5, hx6, h0⟩ := aW h0
 refine cX (zU l0 _ hx6) hO ?_
 intro H hO
 refine bA ?_
 refine bP [11] [(15, (aD (!x5)))] ?_
 refine bK h0 (fun h0 => ?_) (fun h0 => ?_)
 ·refine bW aC 2 [(4, (.sl true 0 (fun _ => .bad))), (5, (eI (20 : Int)))] ?_
  refine bG ?_
  refine dJ (l := [(4, (eL (eI) ([]))), (5, (eI (20 : Int)))]) ⟨[(4, (.sl true 0 (fun _ => .bad))), (5, (eI (20 : Int)))], by kernel_rfl, rfl, ⟨eN, aR.refl _, trivial⟩⟩ ?_
  obtain rfl := oI h0
  exact aF (bC (aT (Q_r hO)))
 refine aX aC 7 [15] [(19, (aD ((decide (iT < (0 : Int))) || (decide ((1125899906842624 : Int) < iT)))))] ?_
 refine bK h0 (fun h0 => ?_) (fun h0 => ?_)
 ·refine bW aC 2 [(4, (.sl true 0 (fun _ => .bad))), (5, (eI (13 : Int)))] ?_
  refine bG ?_
  refine dJ (l := [(4, (eL (eI) ([]))), (5, (eI (13 : Int)))]) ⟨[(4, (.sl true 0 (fun _ => .bad))), (5, (eI (13 : Int)))], by kernel_rfl, rfl, ⟨eN, aR.refl _, trivial⟩⟩ ?_
  obtain rfl := oI h0
  exact aF (bC (aT (Q_r hO)))
 refine bW aC 3 [(0, (eL aH l0)), (1, (eI iT)), (26, (aD (decide (iT = (1125899906842624 : Int)))))] ?_
 refine bK h0 (fun h0 => ?_) (fun h0 => ?_)
 ·refine bW aC 2 [(4, (.sl true 0 (fun _ => .bad))), (5, (eI (0 : Int)))] ?_
  refine bG ?_
  refine dJ (l := [(4, (eL (eI) ([]))), (5, (eI (0 : Int)))]) ⟨[(4, (.sl true 0 (fun _ => .bad))), (5, (eI (0 : Int)))], by kernel_rfl, rfl, ⟨eN, aR.refl _, trivial⟩⟩ ?_
  obtain rfl := oI h0
  exact aF (bC (aT (Q_r hO)))
 refine bN ?_
 refine dP [(0, (eL aH l0)), (1, (eI iT))] ?_
 refine aF (aV (aG (?_)))
 refine aO ?_
 refine aS aC 5 ?_
 refine UD (β := Int) (eI) (t := 117) hO ?_
 intro lm11 H hO
 refine bI 2 ?_
 refine NV (f := (eI)) (mty := 117) iT (1 : Int) hO ?_
 intro H hO
 refine bA ?_
 refine bP [] [(6, (.mp lm11))] ?_
 refine eR (fun T H => ∃ lG : (List (Int × Int)), Has T [(6, (.mp lm11))] ∧ aM ⟨H0, [], (lm11, pV (eI) lG) :: []⟩ H [] ∧ wL lG = some r) ?_ ?_
 ·clear hO h0
  rintro T H ⟨lG, hT, hO, h0⟩
  refine bF hT ?_
  clear hT
  unfold wL at h0
  refine aO ?_
  refine aS aC 4 ?_
  refine bI 1 ?_
  refine NN (mty := 117) hO ?_
  obtain ⟨c13, h0⟩ := aZ h0
  refine LM 1 8 (lN lG) (by kernel_rfl) (by kernel_rfl) c13 hO ?_
  intro lo14 H hO
  refine bA ?_
  refine bD [(6, (.mp lm11)), (9, (.msl 1 lo14 0 (List.length ([] : List Int))))] ?_
  refine eR (fun T H => ∃ out9 : List Int, ∃ lo15 : Nat, Has T [(9, (.msl 1 lo15 0 (List.length out9)))] ∧ aM ⟨H0, [], []⟩ H [(lo15, 1, List.map (eI) out9)] ∧ zW out9 = some r) ?_ ?_
  ·clear hO h0
   rintro T H ⟨out9, lo15, hT, hO, h0⟩
   refine bF hT ?_
   clear hT
   unfold zW at h0
   refine aO ?_
   refine aS aC 2 ?_
   refine bI 1 ?_
   obtain ⟨x16, hx17, h0⟩ := aW h0
   refine zF [(lo15, 1, List.map (eI) x16)] 0 (sU lo15 out9 _ hx17) hO ?_
   intro H hO hl18
   simp only [List.length_map] at hl18
   refine dG ?_
   refine dJ (l := [(9, (.msl 1 lo15 0 (List.length x16)))]) ⟨[(9, (.msl 1 lo15 0 (List.length out9)))], by kernel_rfl, rfl, ⟨aR.eq (by simp [hl18]), trivial⟩⟩ ?_
   refine aF (aG (?_))
   refine bW aC 3 [(4, (.msl 1 lo15 0 (List.length x16))), (5, (eI (0 : Int)))] ?_
   refine bG ?_
   refine dP [(4, (.msl 1 lo15 0 (List.length x16))), (5, (eI (0 : Int)))] ?_
   refine tM (en := (eI)) x16 0 0 4 1 lo15 (List.length x16) hO (by kernel_rfl) (by kernel_rfl) (by kernel_rfl) (L' := []) (by kernel_rfl) ?_
   intro H19 hO
   obtain rfl := oI h0
   exact aF (Q_r hO)
  refine aO ?_
  refine aS aC 2 ?_
  refine bI 1 ?_
  refine PV (mty := 117) hO ?_
  intro li20 bs21 ck22 H hmb aFA hO
  refine dG ?_
  refine bP [6] [(50, (.lp li20 0 0))] ?_
  refine bX 3 ?_
  refine eD [(9, (.msl 1 lo14 0 (List.length ([] : List Int)))), (50, (.lp li20 0 0))] ?_
  refine eE (fun T H => ∃ out9 : List Int, ∃ t50 : (List (Int × Int)), ∃ lo24 : Nat, Has T [(9, (.msl 1 lo24 0 (List.length out9))), (50, (.lp li20 0 0))] ∧ aM ⟨H0, [], (li20, JE li20 lm11 ck22 []) :: (lm11, GJ (eI) t50 bs21 ck22) :: []⟩ H [(lo24, 1, List.map (eI) out9)] ∧ List.length bs21 = List.length t50 ∧ AF out9 t50 = some r) ?_ ⟨([] : List Int), lG, lo14, .eq (by kernel_rfl), hO, hmb, h0⟩
  clear hO hmb h0
  rintro T H ⟨out9, t50, lo24, hT, hO, hmb, h0⟩
  refine bF hT ?_
  clear hT
  unfold AF at h0
  refine TB (by kernel_rfl) (fun (s : List Int) (seen : List Nat) T H => ∃ lo24 : Nat, Has T [(9, (.msl 1 lo24 0 (List.length s))), (50, (.lp li20 0 0))] ∧ aM ⟨H0, [], (li20, JE li20 lm11 ck22 seen) :: (lm11, GJ (eI) t50 bs21 ck22) :: []⟩ H [(lo24, 1, List.map (eI) s)]) hmb h0 ⟨lo24, .eq (by kernel_rfl), hO⟩ ?_
  clear hO h0
  rintro seen rem s T H ⟨lo24, hT, hO⟩ hleft hall
  obtain ⟨out9, rfl⟩ : ∃ x, x = s := ⟨_, rfl⟩
  refine bF (l := [(9, (.msl 1 lo24 0 (List.length out9))), (50, (.lp li20 0 0))]) hT ?_
  clear hT
  refine aO ?_
  refine aS aC 2 ?_
  refine SM hmb aFA hleft hall hO (fun h0 => ?_) (fun mk mv bq rest out1 H h1 hlt hleft hall hat hO => ?_)
  ·clear hall hleft
   replace h0 : zX t50 out9 = some r := h0
   unfold zX at h0
   refine bA ?_
   refine bP [] [(52, (aD false))] ?_
   refine aO ?_
   refine mQ (false) (fun hc25 => ?_) (fun hc25 => ?_)
   ·cases hc25
   ·refine gJ 3 ?_
    replace hO := hO.nM.nM
    exact aF (aY (aY (bV (aG (⟨rfl, _, _, .eq (by kernel_rfl), hO, h0⟩)))))
  replace h1 : tE t50 out9 mk mv = some out1 := h1
  unfold tE at h1
  refine bA ?_
  refine bP [] [(52, (aD true))] ?_
  refine aO ?_
  refine mQ (true) (fun hc26 => ?_) (fun hc26 => ?_)
  ·refine bN ?_
   refine bD [(9, (.msl 1 lo24 0 (List.length out9))), (50, (.lp li20 0 0))] ?_
   refine bX 4 ?_
   refine aO ?_
   refine aS aC 3 ?_
   refine PO hat hO ?_
   refine bA ?_
   refine bP [] [(10, (eI mk))] ?_
   refine aS aC 5 ?_
   refine bI 2 ?_
   refine oE (xs := [(eI mk)]) (k := 1) (by kernel_rfl) (by kernel_rfl) ?_
   obtain ⟨c28, h1⟩ := aZ h1
   refine vF (e := (eI)) out9 ([mk]) 0 lo24 1 8 (fM [(eI mk)]) (fun lo27 => [(lo27, 1, List.map (eI) (out9 ++ ([mk])))]) (by kernel_rfl) (by kernel_rfl) hO (by kernel_rfl) (by kernel_rfl) c28 (fun _ => by kernel_rfl) ?_
   intro lo27 H hO
   refine bA ?_
   obtain rfl := oI h1
   exact aF (aV (aG (⟨rfl, _, _, _, hlt, hleft, hall, lo27, .eq (by kernel_rfl), hO⟩)))
  ·cases hc26
 refine aX aC 3 [0] [(32, (eL aH l0)), (33, (eI (lN l0))), (34, (eI (0 : Int)))] ?_
 refine bX 1 ?_
 refine eD [(1, (eI iT)), (6, (.mp lm11)), (32, (eL aH l0)), (33, (eI (lN l0))), (34, (eI (0 : Int)))] ?_
 refine eE (fun T H => ∃ lG : (List (Int × Int)), ∃ t32 : (List aE), ∃ t33 : Int, ∃ t34 : Int, Has T [(1, (eI iT)), (6, (.mp lm11)), (32, (eL aH t32)), (33, (eI t33)), (34, (eI t34))] ∧ aM ⟨H0, [], (lm11, pV (eI) lG) :: []⟩ H [] ∧ AQ iT lG t32 t33 t34 = some r) ?_ ⟨fE ([] : (List (Int × Int))) iT (1 : Int), l0, (lN l0), (0 : Int), .eq (by kernel_rfl), hO, h0⟩
 clear hO h0
 rintro T H ⟨lG, t32, t33, t34, hT, hO, h0⟩
 refine bF hT ?_
 clear hT
 unfold AQ at h0
 obtain ⟨rr0, hl0, h0⟩ := aW h0
 refine dK (by kernel_rfl) (fun (s : (List (Int × Int)) × Int) T H => Has T [(1, (eI iT)), (6, (.mp lm11)), (32, (eL aH t32)), (33, (eI t33)), (34, (eI s.2))] ∧ aM ⟨H0, [], (lm11, pV (eI) s.1) :: []⟩ H []) hl0 ⟨.eq (by kernel_rfl), hO⟩ ?_
 clear hO
 rintro k0 s out1 T H ⟨hT, hO⟩ h1 ho0
 obtain ⟨lG, t34⟩ := s
 replace h1 : pI iT t32 t33 lG t34 = some out1 := h1
 try dsimp only at hT
 refine bF hT ?_
 clear hT
 unfold pI at h1
 refine aX aC 1 [] [(35, (aD (decide (t34 < t33))))] ?_
 refine aO ?_
 refine bK h1 (fun h1 => ?_) (fun h1 => ?_)
 ·refine bN ?_
  refine bD [(1, (eI iT)), (6, (.mp lm11)), (32, (eL aH t32)), (33, (eI t33)), (34, (eI t34))] ?_
  refine eR (fun T H => ∃ lG : (List (Int × Int)), Has T [(1, (eI iT)), (6, (.mp lm11)), (32, (eL aH t32)), (33, (eI t33)), (34, (eI t34))] ∧ aM ⟨H0, [], (lm11, pV (eI) lG) :: []⟩ H [] ∧ sR iT lG t32 t33 t34 = some out1) ?_ ?_
  ·clear hO h1
   rintro T H ⟨lG, hT, hO, h1⟩
   refine bF hT ?_
   clear hT
   unfold sR at h1
   refine aS aC 2 ?_
   refine bA ?_
   exact aF (aG (⟨rfl, _, (oI h1).symm, .eq (by kernel_rfl), hO⟩))
  refine bX 2 ?_
  refine aO ?_
  refine aS aC 4 ?_
  obtain ⟨c30, h1⟩ := aZ h1
  refine sG 2 [0 ≤ t34 ∧ t34 < (lN t32)] ⟨c30, trivial⟩ ?_
  refine oO 3 (.agg [(.sl true 0 (fun _ => .bad)), (eI 0), (eI 0)]) (aH (aE.mk ([]) 0 0)) (by kernel_rfl) (by kernel_rfl) (by kernel_rfl) (yF (xs := [(.sl true 0 (fun _ => .bad)), (eI 0), (eI 0)]) (ys := [(eL aJ ([])), (eI 0), (eI 0)]) ⟨eN, aR.refl _, aR.refl _, trivial⟩) (by kernel_rfl) (by kernel_rfl) hO ?_
  intro lo31 H hO
  refine gY 0 lo31 3 0 (aH (aE.mk ([]) 0 0)) (aH (gD t32 t34)) [(aH (aE.mk ([]) 0 0))] [(lo31, 3, [(aH (gD t32 t34))])] hO rfl (by kernel_rfl) ?_
  intro H hO
  refine dG ?_
  refine bP [] [(8, (.lp lo31 0 0))] ?_
  refine aO ?_
  refine aS aC 4 ?_
  refine bI 1 ?_
  refine jJ 0 lo31 3 0 (aH (gD t32 t34)) (eI ((gD t32 t34).At)) [(aH (gD t32 t34))] hO rfl ?_
  refine bA ?_
  refine bP [] [(41, (aD (decide (iT < ((gD t32 t34).At)))))] ?_
  refine bK h1 (fun h1 => ?_) (fun h1 => ?_)
  ·refine aS aC 4 ?_
   refine bI 2 ?_
   refine jJ 0 lo31 3 0 (aH (gD t32 t34)) (eI ((gD t32 t34).At)) [(aH (gD t32 t34))] hO rfl ?_
   refine NV (f := (eI)) (mty := 117) ((gD t32 t34).At) (1 : Int) hO ?_
   intro H hO
   refine dG ?_
   replace hO := hO.pick (L' := []) [] (by decide) (by kernel_rfl)
   exact aF (aV (aG (⟨rfl, _, .eq (by kernel_rfl), hO, h1⟩)))
  refine bN ?_
  replace hO := hO.pick (L' := []) [] (by decide) (by kernel_rfl)
  exact aF (aV (aG (⟨rfl, _, .eq (by kernel_rfl), hO, h1⟩)))
 refine gJ 1 ?_
 obtain rfl := oI h1
 obtain rfl : _ = rr0 := ho0
 replace h0 : wL lG = some r := h0
 exact aF (aY (aY (bV (aG (⟨rfl, _, .eq (by kernel_rfl), hO, h0⟩)))))

theorem RV (t0 : Int) (t1 : (List cC)) (r : (List bB)) (h0 : sQ t0 t1 = some r) : cZ Try.prog 45 [(eI t0), (.rp (eL cD t1))] (eL bH r) := by
 intro H0
 refine cY Try.func45 ?_
 have hO := aM.start H0
 unfold sQ at h0
 refine aX aC 1 [] [] ?_
 refine aO ?_
 refine aS aC 2 ?_
 refine oE (xs := []) (k := 2) (by kernel_rfl) (by kernel_rfl) ?_
 refine bA ?_
 refine bP [] [(4, (.sl true 0 (fun _ => .bad)))] ?_
 refine eR (fun T H => ∃ out4 : List bB, ∃ lo1 : Nat, Has T [(4, (.msl 2 lo1 0 (List.length out4)))] ∧ aM ⟨H0, [], []⟩ H [(lo1, 2, List.map bH out4)] ∧ vU out4 = some r) ?_ ?_
 ·clear hO h0
  rintro T H ⟨out4, lo1, hT, hO, h0⟩
  refine bF hT ?_
  clear hT
  unfold vU at h0
  refine bW aC 2 [(3, (.msl 2 lo1 0 (List.length out4)))] ?_
  refine bG ?_
  refine dP [(3, (.msl 2 lo1 0 (List.length out4)))] ?_
  refine tM (en := bH) out4 0 0 3 2 lo1 (List.length out4) hO (by kernel_rfl) (by kernel_rfl) (by kernel_rfl) (L' := []) (by kernel_rfl) ?_
  intro H2 hO
  obtain rfl := oI h0
  exact aF (Q_r hO)
 refine aX aC 3 [1] [(9, (eL cD t1)), (10, (eI (lN t1))), (11, (eI (0 : Int)))] ?_
 refine bX 0 ?_
 refine eD [(0, (eI t0)), (4, (.sl true 0 (fun _ => .bad))), (9, (eL cD t1)), (10, (eI (lN t1))), (11, (eI (0 : Int)))] ?_
 refine OC (el := (fun _ => .bad)) 1 4 2 hO (by kernel_rfl) ?_
 intro lo21 H22 hO
 refine eE (fun T H => ∃ out4 : List bB, ∃ t9 : (List cC), ∃ t10 : Int, ∃ t11 : Int, ∃ lo4 : Nat, Has T [(0, (eI t0)), (4, (.msl 2 lo4 0 (List.length out4))), (9, (eL cD t9)), (10, (eI t10)), (11, (eI t11))] ∧ aM ⟨H0, [], []⟩ H [(lo4, 2, List.map bH out4)] ∧ vO t0 out4 t9 t10 t11 = some r) ?_ ⟨([] : List bB), t1, (lN t1), (0 : Int), lo21, .eq (by kernel_rfl), hO, h0⟩
 clear hO h0
 rintro T H ⟨out4, t9, t10, t11, lo4, hT, hO, h0⟩
 refine bF hT ?_
 clear hT
 unfold vO at h0
 obtain ⟨rr0, hl0, h0⟩ := aW h0
 refine dK (by kernel_rfl) (fun (s : List bB × Int) T H => ∃ lo4 : Nat, Has T [(0, (eI t0)), (4, (.msl 2 lo4 0 (List.length s.1))), (9, (eL cD t9)), (10, (eI t10)), (11, (eI s.2))] ∧ aM ⟨H0, [], []⟩ H [(lo4, 2, List.map bH s.1)]) hl0 ⟨lo4, .eq (by kernel_rfl), hO⟩ ?_
 clear hO
 rintro k0 s out1 T H ⟨lo4, hT, hO⟩ h1 ho0
 obtain ⟨out4, t11⟩ := s
 replace h1 : nP t0 t9 t10 out4 t11 = some out1 := h1
 try dsimp only at hT
 refine bF hT ?_
 clear hT
 unfold nP at h1
 refine aX aC 1 [] [(12, (aD (decide (t11 < t10))))] ?_
 refine aO ?_
 refine bK h1 (fun h1 => ?_) (fun h1 => ?_)
 ·refine bN ?_
  refine bD [(0, (eI t0)), (4, (.msl 2 lo4 0 (List.length out4))), (9, (eL cD t9)), (10, (eI t10)), (11, (eI t11))] ?_
  refine eR (fun T H => ∃ out4 : List bB, ∃ lo6 : Nat, Has T [(0, (eI t0)), (4, (.msl 2 lo6 0 (List.length out4))), (9, (eL cD t9)), (10, (eI t10)), (11, (eI t11))] ∧ aM ⟨H0, [], []⟩ H [(lo6, 2, List.map bH out4)] ∧ pP t0 out4 t9 t10 t11 = some out1) ?_ ?_
  ·clear hO h1
   rintro T H ⟨out4, lo6, hT, hO, h1⟩
   refine bF hT ?_
   clear hT
   unfold pP at h1
   refine aS aC 2 ?_
   refine bA ?_
   exact aF (aG (⟨rfl, _, (oI h1).symm, _, .eq (by kernel_rfl), hO⟩))
  refine bX 1 ?_
  refine aO ?_
  refine aS aC 4 ?_
  obtain ⟨c7, h1⟩ := aZ h1
  refine sG 2 [0 ≤ t11 ∧ t11 < (lN t9)] ⟨c7, trivial⟩ ?_
  refine oO 2 (.agg [(.sl true 0 (fun _ => .bad)), (.sl true 0 (fun _ => .bad))]) (cD (cC.mk ([]) ([]))) (by kernel_rfl) (by kernel_rfl) (by kernel_rfl) (yF (xs := [(.sl true 0 (fun _ => .bad)), (.sl true 0 (fun _ => .bad))]) (ys := [(eL aJ ([])), (eL aK ([]))]) ⟨eN, eN, trivial⟩) (by kernel_rfl) (by kernel_rfl) hO ?_
  intro lo8 H hO
  refine gY 1 lo8 2 0 (cD (cC.mk ([]) ([]))) (cD (gD t9 t11)) [(cD (cC.mk ([]) ([])))] [(lo4, 2, List.map bH out4), (lo8, 2, [(cD (gD t9 t11))])] hO rfl (by kernel_rfl) ?_
  intro H hO
  refine dG ?_
  refine bP [] [(6, (.lp lo8 0 0))] ?_
  refine aO ?_
  refine aS aC 5 ?_
  refine bI 1 ?_
  refine jJ 1 lo8 2 0 (cD (gD t9 t11)) (eL aK ((gD t9 t11).jumps)) [(cD (gD t9 t11))] hO rfl ?_
  refine bI 3 ?_
  obtain ⟨x9, hx10, h1⟩ := aW h1
  refine cX (TN ((gD t9 t11).jumps) t0 _ hx10) hO ?_
  intro H hO
  refine bA ?_
  refine bP [] [(7, (eI x9))] ?_
  refine aX aC 2 [] [(20, (aD (decide ((0 : Int) < x9))))] ?_
  refine bK h1 (fun h1 => ?_) (fun h1 => ?_)
  ·refine aS aC 9 ?_
   refine bI 2 ?_
   refine jJ 1 lo8 2 0 (cD (gD t9 t11)) (eL aJ ((gD t9 t11).row)) [(cD (gD t9 t11))] hO rfl ?_
   obtain ⟨x16, hx17, h1⟩ := aW h1
   refine aAB (L' := fun lo18 => [(lo4, 2, List.map bH out4), (lo8, 2, [(cD (gD t9 t11))]), (lo18, 3, List.map aJ x16)]) 3 (List.map aJ x16) 47 [(eL aJ ((gD t9 t11).row))] (fun lo18 => (.msl 3 lo18 0 (List.length x16))) (by kernel_rfl) (by kernel_rfl) (qX ((gD t9 t11).row) _ hx17) hO (fun _ => by kernel_rfl) ?_
   intro lo18 H hO
   refine bI 5 ?_
   refine KE (e := aJ) x16 2 24 3 lo18 (List.length x16) [(lo4, 2, List.map bH out4), (lo8, 2, [(cD (gD t9 t11))])] (by kernel_rfl) hO (by kernel_rfl) (by kernel_rfl) (by kernel_rfl) (by kernel_rfl) ?_
   intro H hO
   refine bI 6 ?_
   refine oE (xs := [(bH (bB.mk x16 x9))]) (k := 2) (by kernel_rfl) (by kernel_rfl) ?_
   obtain ⟨c20, h1⟩ := aZ h1
   refine vF (e := bH) out4 ([bB.mk x16 x9]) 0 lo4 2 32 (fM [(bH (bB.mk x16 x9))]) (fun lo19 => [(lo19, 2, List.map bH (out4 ++ ([bB.mk x16 x9]))), (lo8, 2, [(cD (gD t9 t11))])]) (by kernel_rfl) (by kernel_rfl) hO (by kernel_rfl) (by kernel_rfl) c20 (fun _ => by kernel_rfl) ?_
   intro lo19 H hO
   refine bA ?_
   replace hO := hO.pick (L' := [(lo19, 2, List.map bH (out4 ++ ([bB.mk x16 x9])))]) [0] (by decide) (by kernel_rfl)
   exact aF (aV (aG (⟨rfl, _, _, .eq (by kernel_rfl), hO, h1⟩)))
  refine bN ?_
  replace hO := hO.pick (L' := [(lo4, 2, List.map bH out4)]) [0] (by decide) (by kernel_rfl)
  exact aF (aV (aG (⟨rfl, _, _, .eq (by kernel_rfl), hO, h1⟩)))
 refine gJ 0 ?_
 obtain rfl := oI h1
 obtain rfl : _ = rr0 := ho0
 replace h0 : vU out4 = some r := h0
 exact aF (aY (aY (bV (aG (⟨rfl, _, _, .eq (by kernel_rfl), hO, h0⟩)))))

theorem WX (l0 : (List aE)) (iT : Int) (r : ((List aN) × Int)) (h0 : wI l0 iT = some r) : cZ Try.prog 22 [(eL aH l0), (eI iT)] (.tup [(eL aP r.1), (eI r.2)]) := by
 intro H0
 refine zN aC Try.func22 (by kernel_rfl) (by kernel_rfl) (by kernel_rfl) ?_
 have hO := aM.start H0
 unfold wI at h0
 refine aX aC 2 [] [] ?_
 refine aO ?_
 refine aS aC 8 ?_
 refine bI 2 ?_
 obtain ⟨x1, hx2, h0⟩ := aW h0
 refine cX (aAo l0 iT _ hx2) hO ?_
 intro H hO
 refine bA ?_
 refine bP [1] [(6, (eL (eI) x1.1)), (7, (eI x1.2))] ?_
 refine aO ?_
 refine aX aC 2 [] [(24, (aD (!decide (x1.2 = (0 : Int)))))] ?_
 refine bK h0 (fun h0 => ?_) (fun h0 => ?_)
 ·refine bW aC 3 [(4, (.sl true 0 (fun _ => .bad))), (5, (eI x1.2))] ?_
  refine bG ?_
  refine dJ (l := [(4, (eL aP ([]))), (5, (eI x1.2))]) ⟨[(4, (.sl true 0 (fun _ => .bad))), (5, (eI x1.2))], by kernel_rfl, rfl, ⟨eN, aR.refl _, trivial⟩⟩ ?_
  obtain rfl := oI h0
  exact aF (aT (QM0 (.inr rfl) (rs := [.tmp 4, .tmp 5]) (xs := [(eL aP ([])), (eI x1.2)]) (x := (.tup [(eL aP ([])), (eI x1.2)])) (by kernel_rfl) (EN (x := (eL aP ([]))) (by kernel_rfl) (EN (x := (eI x1.2)) (by kernel_rfl) mY)) (by kernel_rfl) ⟨rfl, hO.out⟩))
 refine bN ?_
 refine bD [(0, (eL aH l0)), (6, (eL (eI) x1.1))] ?_
 refine aO ?_
 refine aS aC 3 ?_
 refine oE (xs := []) (k := 2) (by kernel_rfl) (by kernel_rfl) ?_
 refine oO 1 (.sl true 0 (fun _ => .bad)) (eL cD ([])) (by kernel_rfl) (by kernel_rfl) (by kernel_rfl) (eN) (by kernel_rfl) (by kernel_rfl) hO ?_
 intro lo5 H hO
 refine ZA 26 2 (fun _ => .bad) (by kernel_rfl) hO (by kernel_rfl) ?_
 intro lo6 H hO
 refine gY 0 lo5 1 0 (eL cD ([])) (.msl 2 lo6 0 (List.length ([] : List cC))) [(eL cD ([]))] [(lo5, 1, [(.msl 2 lo6 0 (List.length ([] : List cC)))]), (lo6, 2, List.map cD ([] : List cC))] hO rfl (by kernel_rfl) ?_
 intro H hO
 refine dG ?_
 refine bP [] [(8, (.lp lo5 0 0))] ?_
 refine aO ?_
 refine aO ?_
 refine aS aC 2 ?_
 refine bI 1 ?_
 obtain ⟨x7, hx8, h0⟩ := aW h0
 refine cX (IW l0 _ hx8) hO ?_
 intro H hO
 refine dG ?_
 refine bP [0] [(28, (.fn (.func 59) [] [(.rp (eL aH x7))]))] ?_
 refine bX 0 ?_
 refine eD [(6, (eL (eI) x1.1)), (8, (.lp lo5 0 0)), (28, (.fn (.func 59) [] [(.rp (eL aH x7))]))] ?_
 refine eE (fun T H => ∃ eM : (List Int), ∃ all8 : List cC, ∃ xQ : (List aE), ∃ lo9 : Nat, Has T [(6, (eL (eI) eM)), (8, (.lp lo5 0 0)), (28, (.fn (.func 59) [] [(.rp (eL aH xQ))]))] ∧ aM ⟨H0, [], []⟩ H [(lo5, 1, [(.msl 2 lo9 0 (List.length all8))]), (lo9, 2, List.map cD all8)] ∧ yV eM all8 xQ = some r) ?_ ⟨x1.1, ([] : List cC), x7, lo6, .eq (by kernel_rfl), hO, h0⟩
 clear hO h0
 rintro T H ⟨eM, all8, xQ, lo9, hT, hO, h0⟩
 refine bF (l := [(6, (eL (eI) eM)), (8, (.lp lo5 0 0)), (28, (.fn (.func 59) [] [(.rp (eL aH xQ))]))]) hT ?_
 clear hT
 unfold yV at h0
 obtain ⟨o0, hl0, h0⟩ := aW h0
 refine wO (fid := 59) (ys := []) (cs := [(.rp (eL aH xQ))]) #[29, 30] (fun (A : rT) (b lL : Nat) (st : (List cC) ⊕ (List cC)) (G' : Gs) => Sum.elim (fun (s : List cC) => ∃ lo9 : Nat, G' = (lL, .raw (gQ b A .ready none)) :: (up [(lo5, 1, [(.msl 2 lo9 0 (List.length s))]), (lo9, 2, List.map cD s)] ++ [])) (fun (s : List cC) => False) st) (.inl all8) o0 (.tup []) (by kernel_rfl) (by kernel_rfl) (by kernel_rfl) hO (fun _ _ => ⟨lo9, rfl⟩) ?_ ?_
 ·intro b lL
  clear hO h0
  refine CP _ b (fun st t29 t30 => rnd (fun (s : List cC) => oA eM xQ s t29 t30) st) ?_ xQ _ _ hl0
  intro st t29 t30 out1 rr hr
  obtain ⟨s, rfl, h1, rfl⟩ := ID hr
  clear hr
  intro Hr Gr hi hg
  obtain ⟨all8, rfl⟩ : ∃ x, x = s := ⟨_, rfl⟩
  dsimp only [Sum.elim_inl] at hi
  obtain ⟨lo9, rfl⟩ := hi
  replace h1 : oA eM xQ all8 t29 t30 = some out1 := h1
  unfold oA at h1
  obtain ⟨E1, hE, hO⟩ := pE hg
  refine pF (uF (hO.gm 0 _ rfl).2 (by kernel_rfl) (by kernel_rfl) ?_)
  refine eD [(6, (eL (eI) eM)), (8, (.lp lo5 0 0)), (28, (.fn (.func 59) [] [(.rp (eL aH xQ))])), (29, (eL aJ t29)), (30, (eL aK t30))] ?_
  refine aX aC 1 [6, 28, 29] [(9, (eL aJ t29))] ?_
  refine aS aC 1 ?_
  refine bA ?_
  refine dP [(8, (.lp lo5 0 0)), (9, (eL aJ t29)), (10, (eL aK t30))] ?_
  refine aF (⟨rfl, rfl, (hO.gm 0 _ rfl).2, ?_⟩)
  intro o1 ho1
  replace hO := hO.nI o1
  refine bX 1 ?_
  refine aS aC 7 ?_
  refine jJ 0 lo5 1 0 (.msl 2 lo9 0 (List.length all8)) (.msl 2 lo9 0 (List.length all8)) [(.msl 2 lo9 0 (List.length all8))] hO rfl ?_
  refine bI 4 ?_
  refine oE (xs := [(cD (cC.mk t29 t30))]) (k := 2) (by kernel_rfl) (by kernel_rfl) ?_
  obtain ⟨c11, h1⟩ := aZ h1
  refine vF (e := cD) all8 ([cC.mk t29 t30]) 1 lo9 2 48 (fM [(cD (cC.mk t29 t30))]) (fun lo10 => [(lo5, 1, [(.msl 2 lo9 0 (List.length all8))]), (lo10, 2, List.map cD (all8 ++ ([cC.mk t29 t30])))]) (by kernel_rfl) (by kernel_rfl) hO (by kernel_rfl) (by kernel_rfl) c11 (fun _ => by kernel_rfl) ?_
  intro lo10 H hO
  refine gY 0 lo5 1 0 (.msl 2 lo9 0 (List.length all8)) (.msl 2 lo10 0 (List.length (all8 ++ ([cC.mk t29 t30])))) [(.msl 2 lo9 0 (List.length all8))] [(lo5, 1, [(.msl 2 lo10 0 (List.length (all8 ++ ([cC.mk t29 t30]))))]), (lo10, 2, List.map cD (all8 ++ ([cC.mk t29 t30])))] hO rfl (by kernel_rfl) ?_
  intro H hO
  refine dG ?_
  refine dP [(8, (.lp lo5 0 0))] ?_
  obtain rfl := oI h1
  exact aF (aV (⟨(dA hO hE ho1 .dead).1, rfl, _, ⟨lo10, rfl⟩, (dA hO hE ho1 _).2⟩))
 ·intro b lD12 lL H' G' hi hO
  rcases o0 with s | s
  ·dsimp only [Sum.elim_inl] at hi
   obtain ⟨lo9, rfl⟩ := hi
   replace h0 : (uK eM s ([] : List aN) eM (lN eM) (0 : Int)) = some r := h0
   obtain ⟨hlL, hO⟩ := mB hO
   refine ⟨_, _, hlL, (by intro e; cases e), ?_⟩
   refine dP [(6, (eL (eI) eM)), (8, (.lp lo5 0 0))] ?_
   refine aF (aV (aG (?_)))
   refine aO ?_
   refine OT (e := cD) s 0 1 1 2 lo5 lo9 (List.length s) [(lo5, 1, [(eL cD s)])] hO (by kernel_rfl) (by kernel_rfl) (by kernel_rfl) (.inr (by decide)) (by kernel_rfl) ?_
   intro H hO
   refine eD [(6, (eL (eI) eM)), (8, (.lp lo5 0 0))] ?_
   refine KV 1 0 8 1 lo5 (eL cD s) [] hO (by kernel_rfl) (by kernel_rfl) (by kernel_rfl) ?_
   intro H hO
   refine aS aC 2 ?_
   refine bA ?_
   refine bP [8] [(11, (.fn (.func 45) [] [(.rp (eL cD s))]))] ?_
   refine aO ?_
   refine aS aC 2 ?_
   refine oE (xs := []) (k := 3) (by kernel_rfl) (by kernel_rfl) ?_
   refine bA ?_
   refine bP [] [(12, (.sl true 0 (fun _ => .bad)))] ?_
   refine eR (fun T H => ∃ eJ : List aN, ∃ lo13 : Nat, Has T [(12, (.msl 3 lo13 0 (List.length eJ)))] ∧ aM ⟨H0, [], (lD12, .raw pJ) :: []⟩ H [(lo13, 3, List.map aP eJ)] ∧ yX eJ = some r) ?_ ?_
   ·clear hO h0
    rintro T H ⟨eJ, lo13, hT, hO, h0⟩
    refine bF hT ?_
    clear hT
    unfold yX at h0
    refine bW aC 3 [(4, (.msl 3 lo13 0 (List.length eJ))), (5, (eI (0 : Int)))] ?_
    refine bG ?_
    refine dP [(4, (.msl 3 lo13 0 (List.length eJ))), (5, (eI (0 : Int)))] ?_
    refine tM (en := aP) eJ 0 0 4 3 lo13 (List.length eJ) hO (by kernel_rfl) (by kernel_rfl) (by kernel_rfl) (L' := []) (by kernel_rfl) ?_
    intro H14 hO
    obtain rfl := oI h0
    have hD := (hO.gm 0 _ rfl).2
    replace hO := (hO.nI .dead).nM
    exact aF (QM1 (.inr rfl) hD (rs := [.tmp 4, .tmp 5]) (xs := [(eL aP eJ), (eI (0 : Int))]) (x := (.tup [(eL aP eJ), (eI (0 : Int))])) (by kernel_rfl) (EN (x := (eL aP eJ)) (by kernel_rfl) (EN (x := (eI (0 : Int))) (by kernel_rfl) mY)) (by kernel_rfl) ⟨rfl, hO.out⟩)
   refine aX aC 3 [] [(39, (eL (eI) eM)), (40, (eI (lN eM))), (41, (eI (0 : Int)))] ?_
   refine bX 2 ?_
   refine eD [(6, (eL (eI) eM)), (11, (.fn (.func 45) [] [(.rp (eL cD s))])), (12, (.sl true 0 (fun _ => .bad))), (39, (eL (eI) eM)), (40, (eI (lN eM))), (41, (eI (0 : Int)))] ?_
   refine OC (el := (fun _ => .bad)) 2 12 3 hO (by kernel_rfl) ?_
   intro lo30 H31 hO
   refine eE (fun T H => ∃ gP : (List cC), ∃ eJ : List aN, ∃ t39 : (List Int), ∃ t40 : Int, ∃ t41 : Int, ∃ lo16 : Nat, Has T [(6, (eL (eI) eM)), (11, (.fn (.func 45) [] [(.rp (eL cD gP))])), (12, (.msl 3 lo16 0 (List.length eJ))), (39, (eL (eI) t39)), (40, (eI t40)), (41, (eI t41))] ∧ aM ⟨H0, [], (lD12, .raw pJ) :: []⟩ H [(lo16, 3, List.map aP eJ)] ∧ uK eM gP eJ t39 t40 t41 = some r) ?_ ⟨s, ([] : List aN), eM, (lN eM), (0 : Int), lo30, .eq (by kernel_rfl), hO, h0⟩
   clear hO h0
   rintro T H ⟨gP, eJ, t39, t40, t41, lo16, hT, hO, h0⟩
   refine bF hT ?_
   clear hT
   unfold uK at h0
   obtain ⟨rr0, hl0, h0⟩ := aW h0
   refine dK (by kernel_rfl) (fun (s : List aN × Int) T H => ∃ lo16 : Nat, Has T [(6, (eL (eI) eM)), (11, (.fn (.func 45) [] [(.rp (eL cD gP))])), (12, (.msl 3 lo16 0 (List.length s.1))), (39, (eL (eI) t39)), (40, (eI t40)), (41, (eI s.2))] ∧ aM ⟨H0, [], (lD12, .raw pJ) :: []⟩ H [(lo16, 3, List.map aP s.1)]) hl0 ⟨lo16, .eq (by kernel_rfl), hO⟩ ?_
   clear hO
   rintro k0 s out1 T H ⟨lo16, hT, hO⟩ h1 ho0
   obtain ⟨eJ, t41⟩ := s
   replace h1 : nZ eM gP t39 t40 eJ t41 = some out1 := h1
   try dsimp only at hT
   refine bF hT ?_
   clear hT
   unfold nZ at h1
   refine aX aC 1 [] [(42, (aD (decide (t41 < t40))))] ?_
   refine aO ?_
   refine bK h1 (fun h1 => ?_) (fun h1 => ?_)
   ·refine bN ?_
    refine bD [(6, (eL (eI) eM)), (11, (.fn (.func 45) [] [(.rp (eL cD gP))])), (12, (.msl 3 lo16 0 (List.length eJ))), (39, (eL (eI) t39)), (40, (eI t40)), (41, (eI t41))] ?_
    refine eR (fun T H => ∃ eJ : List aN, ∃ lo18 : Nat, Has T [(6, (eL (eI) eM)), (11, (.fn (.func 45) [] [(.rp (eL cD gP))])), (12, (.msl 3 lo18 0 (List.length eJ))), (39, (eL (eI) t39)), (40, (eI t40)), (41, (eI t41))] ∧ aM ⟨H0, [], (lD12, .raw pJ) :: []⟩ H [(lo18, 3, List.map aP eJ)] ∧ uN eM gP eJ t39 t40 t41 = some out1) ?_ ?_
    ·clear hO h1
     rintro T H ⟨eJ, lo18, hT, hO, h1⟩
     refine bF hT ?_
     clear hT
     unfold uN at h1
     refine aS aC 2 ?_
     refine bA ?_
     exact aF (aG (⟨rfl, _, (oI h1).symm, _, .eq (by kernel_rfl), hO⟩))
    refine bX 3 ?_
    refine aO ?_
    refine aS aC 5 ?_
    obtain ⟨c19, h1⟩ := aZ h1
    refine pZ [0 ≤ t41 ∧ t41 < (lN t39)] ⟨c19, trivial⟩ ?_
    refine bP [] [(13, (eI t41)), (14, (eI (gD t39 t41)))] ?_
    refine aO ?_
    refine aS aC 4 ?_
    refine bI 2 ?_
    obtain ⟨x20, hx21, h1⟩ := aW h1
    refine cX (RV (gD t39 t41) gP _ hx21) hO ?_
    intro H hO
    refine bA ?_
    refine bP [] [(15, (eL bH x20))] ?_
    refine aO ?_
    refine aX aC 3 [] [(51, (aD (decide ((lN x20) = (0 : Int)))))] ?_
    refine bK h1 (fun h1 => ?_) (fun h1 => ?_)
    ·refine gJ 3 ?_
     exact aF (aY (bV (aG (⟨rfl, _, _, .eq (by kernel_rfl), hO, h1⟩))))
    refine bN ?_
    refine bD [(6, (eL (eI) eM)), (11, (.fn (.func 45) [] [(.rp (eL cD gP))])), (12, (.msl 3 lo16 0 (List.length eJ))), (13, (eI t41)), (14, (eI (gD t39 t41))), (15, (eL bH x20)), (39, (eL (eI) t39)), (40, (eI t40)), (41, (eI t41))] ?_
    refine aO ?_
    refine aX aC 3 [] [(54, (aD (decide ((lN eJ) = (1024 : Int)))))] ?_
    refine bK h1 (fun h1 => ?_) (fun h1 => ?_)
    ·refine aO ?_
     refine aS aC 2 ?_
     refine bA ?_
     refine dP [(4, (.sl true 0 (fun _ => .bad))), (5, (eI (7 : Int)))] ?_
     replace hO := hO.pick (L' := []) [] (by decide) (by kernel_rfl)
     refine aF (aG (?_))
     refine bG ?_
     refine dJ (l := [(4, (eL aP ([]))), (5, (eI (7 : Int)))]) ⟨[(4, (.sl true 0 (fun _ => .bad))), (5, (eI (7 : Int)))], by kernel_rfl, rfl, ⟨eN, aR.refl _, trivial⟩⟩ ?_
     obtain rfl := oI h1
     obtain rfl : _ = rr0 := ho0
     replace h0 : some ([], (7 : Int)) = some r := h0
     obtain rfl := oI h0
     have hD := (hO.gm 0 _ rfl).2
     replace hO := (hO.nI .dead).nM
     exact aF (aT (bC (aT (aT (bC (aT (QM1 (.inr rfl) hD (rs := [.tmp 4, .tmp 5]) (xs := [(eL aP ([])), (eI (7 : Int))]) (x := (.tup [(eL aP ([])), (eI (7 : Int))])) (by kernel_rfl) (EN (x := (eL aP ([]))) (by kernel_rfl) (EN (x := (eI (7 : Int))) (by kernel_rfl) mY)) (by kernel_rfl) ⟨rfl, hO.out⟩)))))))
    refine bN ?_
    refine bD [(6, (eL (eI) eM)), (11, (.fn (.func 45) [] [(.rp (eL cD gP))])), (12, (.msl 3 lo16 0 (List.length eJ))), (13, (eI t41)), (14, (eI (gD t39 t41))), (15, (eL bH x20)), (39, (eL (eI) t39)), (40, (eI t40)), (41, (eI t41))] ?_
    refine aX aC 1 [] [(16, (eI (1125899906842624 : Int)))] ?_
    refine eR (fun T H => ∃ eJ : List aN, ∃ t14 : Int, ∃ sS : (List bB), ∃ AG : Int, ∃ lo25 : Nat, Has T [(6, (eL (eI) eM)), (11, (.fn (.func 45) [] [(.rp (eL cD gP))])), (12, (.msl 3 lo25 0 (List.length eJ))), (14, (eI t14)), (15, (eL bH sS)), (16, (eI AG)), (39, (eL (eI) t39)), (40, (eI t40)), (41, (eI t41))] ∧ aM ⟨H0, [], (lD12, .raw pJ) :: []⟩ H [(lo25, 3, List.map aP eJ)] ∧ uU eM gP eJ t14 sS AG t39 t40 t41 = some out1) ?_ ?_
    ·clear hO h1
     rintro T H ⟨eJ, t14, sS, AG, lo25, hT, hO, h1⟩
     refine bF hT ?_
     clear hT
     unfold uU at h1
     refine aS aC 9 ?_
     refine bI 6 ?_
     refine oE (xs := [(aP (aN.mk (bJ.mk t14 AG) sS))]) (k := 3) (by kernel_rfl) (by kernel_rfl) ?_
     obtain ⟨c27, h1⟩ := aZ h1
     refine vF (e := aP) eJ ([aN.mk (bJ.mk t14 AG) sS]) 0 lo25 3 40 (fM [(aP (aN.mk (bJ.mk t14 AG) sS))]) (fun lo26 => [(lo26, 3, List.map aP (eJ ++ ([aN.mk (bJ.mk t14 AG) sS])))]) (by kernel_rfl) (by kernel_rfl) hO (by kernel_rfl) (by kernel_rfl) c27 (fun _ => by kernel_rfl) ?_
     intro lo26 H hO
     refine bA ?_
     exact aF (aV (aG (⟨rfl, _, _, .eq (by kernel_rfl), hO, h1⟩)))
    refine aX aC 5 [] [(59, (aD (decide ((wR (t41 + (1 : Int))) < (lN eM)))))] ?_
    refine bK h1 (fun h1 => ?_) (fun h1 => ?_)
    ·refine aS aC 6 ?_
     obtain ⟨c29, h1⟩ := aZ h1
     refine pZ [0 ≤ (wR (t41 + (1 : Int))) ∧ (wR (t41 + (1 : Int))) < (lN eM)] ⟨c29, trivial⟩ ?_
     exact aF (aG (⟨rfl, _, _, _, _, _, .eq (by kernel_rfl), hO, h1⟩))
    refine bN ?_
    exact aF (aG (⟨rfl, _, _, _, _, _, .eq (by kernel_rfl), hO, h1⟩))
   refine gJ 2 ?_
   obtain rfl := oI h1
   obtain rfl : _ = rr0 := ho0
   replace h0 : yX eJ = some r := h0
   exact aF (aY (aY (bV (aG (⟨rfl, _, _, .eq (by kernel_rfl), hO, h0⟩)))))
  ·exact hi.elim

theorem BB (w0 : bY) (l1 : (List aE)) (nN : Int) (t3 : Int) (r : ((List aN) × Int)) (h0 : oQ w0 l1 nN t3 = some r) : cZ Try.prog 8 [(cP w0), (eL aH l1), (eI nN), (eI t3)] (.tup [(eL aP r.1), (eI r.2)]) := by
 intro H0
 refine cY Try.func8 ?_
 have hO := aM.start H0
 unfold oQ at h0
 refine aO ?_
 refine aS aC 3 ?_
 refine fT 3 (cP w0) (by kernel_rfl) (by kernel_rfl) ?_
 refine bA ?_
 refine bP [0] [(4, (.rp (cP w0)))] ?_
 refine aO ?_
 refine aO ?_
 refine aS aC 5 ?_
 refine bI 3 ?_
 obtain ⟨x1, hx2, h0⟩ := aW h0
 refine cX (GV w0 l1 t3 _ hx2) hO ?_
 intro H hO
 refine bA ?_
 refine bP [] [(10, (eI x1))] ?_
 refine aX aC 2 [] [(16, (aD (!decide (x1 = (0 : Int)))))] ?_
 refine bK h0 (fun h0 => ?_) (fun h0 => ?_)
 ·refine bW aC 3 [(8, (.sl true 0 (fun _ => .bad))), (9, (eI x1))] ?_
  refine bG ?_
  refine dJ (l := [(8, (eL aP ([]))), (9, (eI x1))]) ⟨[(8, (.sl true 0 (fun _ => .bad))), (9, (eI x1))], by kernel_rfl, rfl, ⟨eN, aR.refl _, trivial⟩⟩ ?_
  obtain rfl := oI h0
  exact aF (aT (Q_r hO))
 refine bN ?_
 refine bD [(1, (eL aH l1)), (2, (eI nN)), (3, (eI t3)), (4, (.rp (cP w0)))] ?_
 refine aO ?_
 refine aX aC 2 [] [(19, (eI w0.Kind))] ?_
 refine bX 0 ?_
 refine aX aC 2 [] [(20, (aD (decide (w0.Kind = (2 : Int)))))] ?_
 refine bK h0 (fun h0 => ?_) (fun h0 => ?_)
 ·refine aO ?_
  refine fS (fR [24, 26, 30, 31]) aC 14 ?_
  refine kJ 8 ?_
  obtain ⟨x6, hx7, h0⟩ := aW h0
  refine AY (RH l1 t3 _ hx7) hO ?_
  intro H hO
  obtain ⟨x9, hx10, h0⟩ := aW h0
  refine AY (aAp l1 w0.Size w0.Hop nN x6 _ hx10) hO ?_
  intro H hO
  refine kI ?_
  refine bD [(8, (eL aP x9.1)), (9, (eI x9.2))] ?_
  refine bG ?_
  obtain rfl := oI h0
  exact aF (bC (aT (Q_r hO)))
 refine aX aC 2 [3, 19, 20] [(34, (aD (decide (w0.Kind = (3 : Int)))))] ?_
 refine bK h0 (fun h0 => ?_) (fun h0 => ?_)
 ·refine aO ?_
  refine aS aC 9 ?_
  refine bI 4 ?_
  obtain ⟨x13, hx14, h0⟩ := aW h0
  refine cX (RB l1 w0.Size nN _ hx14) hO ?_
  intro H hO
  refine bA ?_
  refine bD [(8, (eL aP x13.1)), (9, (eI x13.2))] ?_
  refine bG ?_
  obtain rfl := oI h0
  exact aF (bC (aT (Q_r hO)))
 refine bN ?_
 refine dP [(1, (eL aH l1)), (2, (eI nN))] ?_
 refine aF (aV (aG (?_)))
 refine aO ?_
 refine aS aC 7 ?_
 refine bI 2 ?_
 obtain ⟨x16, hx17, h0⟩ := aW h0
 refine cX (WX l1 nN _ hx17) hO ?_
 intro H hO
 refine bA ?_
 refine bD [(8, (eL aP x16.1)), (9, (eI x16.2))] ?_
 refine bG ?_
 obtain rfl := oI h0
 exact aF (Q_r hO)

theorem JI  (r : Bool) (h0 : sX  = some r) : cZ Try.prog 7 [] (aD r) := by
 intro H0
 refine cY Try.func7 ?_
 have hO := aM.start H0
 unfold sX at h0
 refine bW aC 1 [] ?_
 refine aO ?_
 refine aS aC 3 ?_
 refine bI 1 ?_
 refine kY 3 (cP (bY.mk 0 0 0)) (by kernel_rfl) (by kernel_rfl) hO ?_
 intro lo1 H hO
 refine gY 0 lo1 3 0 (cP (bY.mk 0 0 0)) (cP (bY.mk (2 : Int) (10 : Int) (5 : Int))) [(cP (bY.mk 0 0 0))] [(lo1, 3, [(cP (bY.mk (2 : Int) (10 : Int) (5 : Int)))])] hO rfl (by kernel_rfl) ?_
 intro H hO
 refine dG ?_
 refine bD [(1, (.lp lo1 0 0))] ?_
 refine aO ?_
 refine aS aC 8 ?_
 refine bI 1 ?_
 refine oE (xs := [(aJ (aI.mk (1 : Int) (1 : Int) ByteArray.empty))]) (k := 3) (by kernel_rfl) (by kernel_rfl) ?_
 refine bI 4 ?_
 refine oE (xs := [(aJ (aI.mk (1 : Int) (1 : Int) ByteArray.empty))]) (k := 3) (by kernel_rfl) (by kernel_rfl) ?_
 refine bI 6 ?_
 refine oE (xs := [(.agg [(fM [(aJ (aI.mk (1 : Int) (1 : Int) ByteArray.empty))]), (eI (3 : Int)), (eI (1 : Int))]), (.agg [(fM [(aJ (aI.mk (1 : Int) (1 : Int) ByteArray.empty))]), (eI (7 : Int)), (eI (-1 : Int))])]) (k := 3) (by kernel_rfl) (by kernel_rfl) ?_
 refine bA ?_
 refine dJ (l := [(1, (.lp lo1 0 0)), (2, (eL aH ([aE.mk ([aI.mk (1 : Int) (1 : Int) ByteArray.empty]) (3 : Int) (1 : Int), aE.mk ([aI.mk (1 : Int) (1 : Int) ByteArray.empty]) (7 : Int) (-1 : Int)])))]) ⟨[(1, (.lp lo1 0 0)), (2, (fM [(.agg [(fM [(aJ (aI.mk (1 : Int) (1 : Int) ByteArray.empty))]), (eI (3 : Int)), (eI (1 : Int))]), (.agg [(fM [(aJ (aI.mk (1 : Int) (1 : Int) ByteArray.empty))]), (eI (7 : Int)), (eI (-1 : Int))])]))], by kernel_rfl, rfl, ⟨aR.refl _, (aEX (e := aH) (xs := [(.agg [(fM [(aJ (aI.mk (1 : Int) (1 : Int) ByteArray.empty))]), (eI (3 : Int)), (eI (1 : Int))]), (.agg [(fM [(aJ (aI.mk (1 : Int) (1 : Int) ByteArray.empty))]), (eI (7 : Int)), (eI (-1 : Int))])]) (l := [aE.mk ([aI.mk (1 : Int) (1 : Int) ByteArray.empty]) (3 : Int) (1 : Int), aE.mk ([aI.mk (1 : Int) (1 : Int) ByteArray.empty]) (7 : Int) (-1 : Int)]) ⟨(yF (xs := [(fM [(aJ (aI.mk (1 : Int) (1 : Int) ByteArray.empty))]), (eI (3 : Int)), (eI (1 : Int))]) (ys := [(eL aJ ([aI.mk (1 : Int) (1 : Int) ByteArray.empty])), (eI (3 : Int)), (eI (1 : Int))]) ⟨YM (l := [aI.mk (1 : Int) (1 : Int) ByteArray.empty]), aR.refl _, aR.refl _, trivial⟩), (yF (xs := [(fM [(aJ (aI.mk (1 : Int) (1 : Int) ByteArray.empty))]), (eI (7 : Int)), (eI (-1 : Int))]) (ys := [(eL aJ ([aI.mk (1 : Int) (1 : Int) ByteArray.empty])), (eI (7 : Int)), (eI (-1 : Int))]) ⟨YM (l := [aI.mk (1 : Int) (1 : Int) ByteArray.empty]), aR.refl _, aR.refl _, trivial⟩), trivial⟩ rfl), trivial⟩⟩ ?_
 refine aF (aG (?_))
 refine aO ?_
 refine aS aC 8 ?_
 refine jJ 0 lo1 3 0 (cP (bY.mk (2 : Int) (10 : Int) (5 : Int))) (cP (bY.mk (2 : Int) (10 : Int) (5 : Int))) [(cP (bY.mk (2 : Int) (10 : Int) (5 : Int)))] hO rfl ?_
 refine bI 2 ?_
 obtain ⟨x2, hx3, h0⟩ := aW h0
 refine cX (BG (bY.mk (2 : Int) (10 : Int) (5 : Int)) ([aE.mk ([aI.mk (1 : Int) (1 : Int) ByteArray.empty]) (3 : Int) (1 : Int), aE.mk ([aI.mk (1 : Int) (1 : Int) ByteArray.empty]) (7 : Int) (-1 : Int)]) (12 : Int) _ hx3) hO ?_
 intro H hO
 refine bA ?_
 refine bP [] [(3, (eI x2.1)), (4, (eI x2.2))] ?_
 refine aO ?_
 refine aS aC 8 ?_
 refine jJ 0 lo1 3 0 (cP (bY.mk (2 : Int) (10 : Int) (5 : Int))) (cP (bY.mk (2 : Int) (10 : Int) (5 : Int))) [(cP (bY.mk (2 : Int) (10 : Int) (5 : Int)))] hO rfl ?_
 refine bI 2 ?_
 obtain ⟨x5, hx6, h0⟩ := aW h0
 refine cX (BB (bY.mk (2 : Int) (10 : Int) (5 : Int)) ([aE.mk ([aI.mk (1 : Int) (1 : Int) ByteArray.empty]) (3 : Int) (1 : Int), aE.mk ([aI.mk (1 : Int) (1 : Int) ByteArray.empty]) (7 : Int) (-1 : Int)]) (0 : Int) (2 : Int) _ hx6) hO ?_
 intro H hO
 refine bA ?_
 replace hO := hO.pick (L' := []) [] (by decide) (by kernel_rfl)
 refine bP [1, 2] [(5, (eL aP x5.1)), (6, (eI x5.2))] ?_
 refine aO ?_
 refine aS aC 29 ?_
 obtain ⟨c8, h0⟩ := aZ h0
 refine sG 25 [((((((decide (x2.1 = (5 : Int))) && (decide (x2.2 = (0 : Int)))) && (decide (x5.2 = (0 : Int)))) && (decide ((lN x5.1) = (1 : Int))))) = true → 0 ≤ (0 : Int) ∧ (0 : Int) < (lN x5.1))] ⟨c8, trivial⟩ ?_
 obtain ⟨x9, hx10, h0⟩ := aW h0
 refine nB [(50, true)] 18 [(cP (bY.mk 0 0 0))] (eI x9) (((((decide (x2.1 = (5 : Int))) && (decide (x2.2 = (0 : Int)))) && (decide (x5.2 = (0 : Int)))) && (decide ((lN x5.1) = (1 : Int)))) && ((decide ((((gD x5.1 (0 : Int)).Span).From) = ((bJ.mk 0 (10 : Int)).From))) && ((decide ((((gD x5.1 (0 : Int)).Span).To) = ((bJ.mk 0 (10 : Int)).To))) && true))) (by kernel_rfl) (by kernel_rfl) (by kernel_rfl) (fun hb11 => (GY (bY.mk 0 0 0) _ (jG hx10 hb11))) hO ?_
 intro H hO
 refine bA ?_
 refine bD [(0, (aD ((((((decide (x2.1 = (5 : Int))) && (decide (x2.2 = (0 : Int)))) && (decide (x5.2 = (0 : Int)))) && (decide ((lN x5.1) = (1 : Int)))) && ((decide ((((gD x5.1 (0 : Int)).Span).From) = ((bJ.mk 0 (10 : Int)).From))) && ((decide ((((gD x5.1 (0 : Int)).Span).To) = ((bJ.mk 0 (10 : Int)).To))) && true))) && (decide (x9 = (2 : Int))))))] ?_
 refine bG ?_
 obtain rfl := oI h0
 exact aF (Q_r hO)

theorem ZD (a0 : (List aI)) (b1 : (List aI)) (r : Bool) (h0 : wS a0 b1 = some r) : cZ Try.prog 26 [(eL aJ a0), (eL aJ b1)] (aD r) := by
 intro H0
 refine cY Try.func26 ?_
 have hO := aM.start H0
 unfold wS at h0
 refine aX aC 1 [] [] ?_
 refine aO ?_
 refine aX aC 5 [] [(10, (aD (!decide ((lN a0) = (lN b1)))))] ?_
 refine bK h0 (fun h0 => ?_) (fun h0 => ?_)
 ·refine bW aC 1 [(4, (aD false))] ?_
  refine bG ?_
  obtain rfl := oI h0
  exact aF (aT (Q_r hO))
 refine bN ?_
 refine bD [(0, (eL aJ a0)), (1, (eL aJ b1))] ?_
 refine eR (fun T H => Has T [] ∧ aM ⟨H0, [], []⟩ H [] ∧ uW  = some r) ?_ ?_
 ·clear hO h0
  rintro T H ⟨hT, hO, h0⟩
  refine bF hT ?_
  clear hT
  unfold uW at h0
  refine bW aC 1 [(4, (aD true))] ?_
  refine bG ?_
  obtain rfl := oI h0
  exact aF (Q_r hO)
 refine aX aC 1 [] [(5, (eI (0 : Int)))] ?_
 refine bX 0 ?_
 refine eD [(0, (eL aJ a0)), (1, (eL aJ b1)), (5, (eI (0 : Int)))] ?_
 refine eE (fun T H => ∃ i5 : Int, Has T [(0, (eL aJ a0)), (1, (eL aJ b1)), (5, (eI i5))] ∧ aM ⟨H0, [], []⟩ H [] ∧ yT a0 b1 i5 = some r) ?_ ⟨(0 : Int), .eq (by kernel_rfl), hO, h0⟩
 clear hO h0
 rintro T H ⟨i5, hT, hO, h0⟩
 refine bF hT ?_
 clear hT
 unfold yT at h0
 obtain ⟨rr0, hl0, h0⟩ := aW h0
 refine dK (by kernel_rfl) (fun (s : Int) T H => Has T [(0, (eL aJ a0)), (1, (eL aJ b1)), (5, (eI s))] ∧ aM ⟨H0, [], []⟩ H []) hl0 ⟨.eq (by kernel_rfl), hO⟩ ?_
 clear hO
 rintro k0 s out1 T H ⟨hT, hO⟩ h1 ho0
 obtain ⟨i5, rfl⟩ : ∃ x, x = s := ⟨_, rfl⟩
 replace h1 : rS a0 b1 i5 = some out1 := h1
 refine bF hT ?_
 clear hT
 unfold rS at h1
 refine aO ?_
 refine aX aC 4 [] [(14, (aD (decide (i5 < (lN a0)))))] ?_
 refine bK h1 (fun h1 => ?_) (fun h1 => ?_)
 ·refine bN ?_
  refine bD [(0, (eL aJ a0)), (1, (eL aJ b1)), (5, (eI i5))] ?_
  refine aO ?_
  refine bX 1 ?_
  refine aO ?_
  refine fS (fR [20, 24]) aC 9 ?_
  obtain ⟨c3, h1⟩ := aZ h1
  obtain ⟨c4, h1⟩ := aZ h1
  refine QJ (Ds := [0 ≤ i5 ∧ i5 < (lN a0), 0 ≤ i5 ∧ i5 < (lN b1)]) (by kernel_rfl) ⟨c3, c4, trivial⟩ ?_
  refine bP [] [(25, (aD (!((decide (((gD a0 i5).Kind) = ((gD b1 i5).Kind))) && ((decide (((gD a0 i5).Num) = ((gD b1 i5).Num))) && ((qF ((gD a0 i5).Text) ((gD b1 i5).Text)) && true))))))] ?_
  refine bK h1 (fun h1 => ?_) (fun h1 => ?_)
  ·refine bW aC 1 [(4, (aD false))] ?_
   refine bG ?_
   obtain rfl := oI h1
   obtain rfl : _ = rr0 := ho0
   replace h0 : some false = some r := h0
   obtain rfl := oI h0
   exact aF (bC (aT (aT (bC (aT (Q_r hO))))))
  refine bN ?_
  refine dP [(0, (eL aJ a0)), (1, (eL aJ b1)), (5, (eI i5))] ?_
  refine aF (aV (aG (?_)))
  refine aS aC 3 ?_
  refine bA ?_
  exact aF (aG (⟨rfl, _, (oI h1).symm, .eq (by kernel_rfl), hO⟩))
 refine gJ 0 ?_
 obtain rfl := oI h1
 obtain rfl : _ = rr0 := ho0
 replace h0 : uW  = some r := h0
 exact aF (aY (aY (bV (aG (⟨rfl, .eq (by kernel_rfl), hO, h0⟩)))))

theorem LG (a0 : (List bB)) (b1 : (List bB)) (r : Bool) (h0 : pL a0 b1 = some r) : cZ Try.prog 23 [(eL bH a0), (eL bH b1)] (aD r) := by
 intro H0
 refine cY Try.func23 ?_
 have hO := aM.start H0
 unfold pL at h0
 refine aX aC 1 [] [] ?_
 refine aO ?_
 refine aX aC 5 [] [(10, (aD (!decide ((lN a0) = (lN b1)))))] ?_
 refine bK h0 (fun h0 => ?_) (fun h0 => ?_)
 ·refine bW aC 1 [(4, (aD false))] ?_
  refine bG ?_
  obtain rfl := oI h0
  exact aF (aT (Q_r hO))
 refine bN ?_
 refine bD [(0, (eL bH a0)), (1, (eL bH b1))] ?_
 refine eR (fun T H => Has T [] ∧ aM ⟨H0, [], []⟩ H [] ∧ oL  = some r) ?_ ?_
 ·clear hO h0
  rintro T H ⟨hT, hO, h0⟩
  refine bF hT ?_
  clear hT
  unfold oL at h0
  refine bW aC 1 [(4, (aD true))] ?_
  refine bG ?_
  obtain rfl := oI h0
  exact aF (Q_r hO)
 refine aX aC 1 [] [(5, (eI (0 : Int)))] ?_
 refine bX 0 ?_
 refine eD [(0, (eL bH a0)), (1, (eL bH b1)), (5, (eI (0 : Int)))] ?_
 refine eE (fun T H => ∃ i5 : Int, Has T [(0, (eL bH a0)), (1, (eL bH b1)), (5, (eI i5))] ∧ aM ⟨H0, [], []⟩ H [] ∧ rJ a0 b1 i5 = some r) ?_ ⟨(0 : Int), .eq (by kernel_rfl), hO, h0⟩
 clear hO h0
 rintro T H ⟨i5, hT, hO, h0⟩
 refine bF hT ?_
 clear hT
 unfold rJ at h0
 obtain ⟨rr0, hl0, h0⟩ := aW h0
 refine dK (by kernel_rfl) (fun (s : Int) T H => Has T [(0, (eL bH a0)), (1, (eL bH b1)), (5, (eI s))] ∧ aM ⟨H0, [], []⟩ H []) hl0 ⟨.eq (by kernel_rfl), hO⟩ ?_
 clear hO
 rintro k0 s out1 T H ⟨hT, hO⟩ h1 ho0
 obtain ⟨i5, rfl⟩ : ∃ x, x = s := ⟨_, rfl⟩
 replace h1 : mN a0 b1 i5 = some out1 := h1
 refine bF hT ?_
 clear hT
 unfold mN at h1
 refine aO ?_
 refine aX aC 4 [] [(14, (aD (decide (i5 < (lN a0)))))] ?_
 refine bK h1 (fun h1 => ?_) (fun h1 => ?_)
 ·refine bN ?_
  refine bD [(0, (eL bH a0)), (1, (eL bH b1)), (5, (eI i5))] ?_
  refine aO ?_
  refine bX 1 ?_
  refine aO ?_
  obtain ⟨c3, h1⟩ := aZ h1
  obtain ⟨c4, h1⟩ := aZ h1
  obtain ⟨c5, h1⟩ := aZ h1
  obtain ⟨c6, h1⟩ := aZ h1
  obtain ⟨x7, hx8, h1⟩ := aW h1
  refine fS (fR [21, 26, 33, 38]) aC 25 ?_
  refine qV (K := fun T H => Has (lift T) [(0, (eL bH a0)), (1, (eL bH b1)), (5, (eI i5)), (41, (aD ((!decide (((gD a0 i5).N) = ((gD b1 i5).N))) || (!x7))))] ∧ aM ⟨H0, [], []⟩ H []) ?_ ?_
  ·refine cJ 12 [0 ≤ i5 ∧ i5 < (lN a0), 0 ≤ i5 ∧ i5 < (lN b1)] ⟨c3, c4, trivial⟩ ?_
   refine pN (t := 28) (e := !decide (((gD a0 i5).N) = ((gD b1 i5).N))) (by kernel_rfl) (fun hg9 => ?_) (fun hg9 => ?_)
   ·refine kI ?_
    exact ⟨⟨[(0, (eL bH a0)), (1, (eL bH b1)), (5, (eI i5)), (41, (aD true))], by kernel_rfl, rfl, ⟨aR.refl _, aR.refl _, aR.refl _, aR.eq (congrArg aD (aBU hg9 rfl).symm), trivial⟩⟩, hO⟩
   refine cJ 22 [0 ≤ i5 ∧ i5 < (lN a0), 0 ≤ i5 ∧ i5 < (lN b1)] ⟨(c5 (LN hg9)), (c6 (LN hg9)), trivial⟩ ?_
   refine pO 26 [(eL aJ ((gD a0 i5).Row)), (eL aJ ((gD b1 i5).Row))] (aD x7) (by kernel_rfl) (by kernel_rfl) (ZD ((gD a0 i5).Row) ((gD b1 i5).Row) _ (jG hx8 (LN hg9))) hO ?_
   intro H hO
   refine kI ?_
   exact ⟨⟨[(0, (eL bH a0)), (1, (eL bH b1)), (5, (eI i5)), (41, (aD (!x7)))], by kernel_rfl, rfl, ⟨aR.refl _, aR.refl _, aR.refl _, aR.eq (congrArg aD (aBU hg9 rfl).symm), trivial⟩⟩, hO⟩
  ·rintro T H ⟨hT, hO⟩
   refine dJ hT ?_
   clear hT
   refine aF (aG ?_)
   refine bK h1 (fun h1 => ?_) (fun h1 => ?_)
   ·refine bW aC 1 [(4, (aD false))] ?_
    refine bG ?_
    obtain rfl := oI h1
    obtain rfl : _ = rr0 := ho0
    replace h0 : some false = some r := h0
    obtain rfl := oI h0
    exact aF (bC (aT (aT (bC (aT (Q_r hO))))))
   refine bN ?_
   refine dP [(0, (eL bH a0)), (1, (eL bH b1)), (5, (eI i5))] ?_
   refine aF (aV (aG (?_)))
   refine aS aC 3 ?_
   refine bA ?_
   exact aF (aG (⟨rfl, _, (oI h1).symm, .eq (by kernel_rfl), hO⟩))
 refine gJ 0 ?_
 obtain rfl := oI h1
 obtain rfl : _ = rr0 := ho0
 replace h0 : oL  = some r := h0
 exact aF (aY (aY (bV (aG (⟨rfl, .eq (by kernel_rfl), hO, h0⟩)))))

theorem VT (a0 : (List aN)) (b1 : (List aN)) (r : Bool) (h0 : wU a0 b1 = some r) : cZ Try.prog 9 [(eL aP a0), (eL aP b1)] (aD r) := by
 intro H0
 refine cY Try.func9 ?_
 have hO := aM.start H0
 unfold wU at h0
 refine aX aC 1 [] [] ?_
 refine aO ?_
 refine aX aC 5 [] [(10, (aD (!decide ((lN a0) = (lN b1)))))] ?_
 refine bK h0 (fun h0 => ?_) (fun h0 => ?_)
 ·refine bW aC 1 [(4, (aD false))] ?_
  refine bG ?_
  obtain rfl := oI h0
  exact aF (aT (Q_r hO))
 refine bN ?_
 refine bD [(0, (eL aP a0)), (1, (eL aP b1))] ?_
 refine eR (fun T H => Has T [] ∧ aM ⟨H0, [], []⟩ H [] ∧ uQ  = some r) ?_ ?_
 ·clear hO h0
  rintro T H ⟨hT, hO, h0⟩
  refine bF hT ?_
  clear hT
  unfold uQ at h0
  refine bW aC 1 [(4, (aD true))] ?_
  refine bG ?_
  obtain rfl := oI h0
  exact aF (Q_r hO)
 refine aX aC 1 [] [(5, (eI (0 : Int)))] ?_
 refine bX 0 ?_
 refine eD [(0, (eL aP a0)), (1, (eL aP b1)), (5, (eI (0 : Int)))] ?_
 refine eE (fun T H => ∃ i5 : Int, Has T [(0, (eL aP a0)), (1, (eL aP b1)), (5, (eI i5))] ∧ aM ⟨H0, [], []⟩ H [] ∧ yS a0 b1 i5 = some r) ?_ ⟨(0 : Int), .eq (by kernel_rfl), hO, h0⟩
 clear hO h0
 rintro T H ⟨i5, hT, hO, h0⟩
 refine bF hT ?_
 clear hT
 unfold yS at h0
 obtain ⟨rr0, hl0, h0⟩ := aW h0
 refine dK (by kernel_rfl) (fun (s : Int) T H => Has T [(0, (eL aP a0)), (1, (eL aP b1)), (5, (eI s))] ∧ aM ⟨H0, [], []⟩ H []) hl0 ⟨.eq (by kernel_rfl), hO⟩ ?_
 clear hO
 rintro k0 s out1 T H ⟨hT, hO⟩ h1 ho0
 obtain ⟨i5, rfl⟩ : ∃ x, x = s := ⟨_, rfl⟩
 replace h1 : rM a0 b1 i5 = some out1 := h1
 refine bF hT ?_
 clear hT
 unfold rM at h1
 refine aO ?_
 refine aX aC 4 [] [(14, (aD (decide (i5 < (lN a0)))))] ?_
 refine bK h1 (fun h1 => ?_) (fun h1 => ?_)
 ·refine bN ?_
  refine bD [(0, (eL aP a0)), (1, (eL aP b1)), (5, (eI i5))] ?_
  refine aO ?_
  refine bX 1 ?_
  refine aO ?_
  obtain ⟨c3, h1⟩ := aZ h1
  obtain ⟨c4, h1⟩ := aZ h1
  obtain ⟨c5, h1⟩ := aZ h1
  obtain ⟨c6, h1⟩ := aZ h1
  obtain ⟨x7, hx8, h1⟩ := aW h1
  refine fS (fR [21, 26, 33, 38]) aC 25 ?_
  refine qV (K := fun T H => Has (lift T) [(0, (eL aP a0)), (1, (eL aP b1)), (5, (eI i5)), (41, (aD ((!((decide ((((gD a0 i5).Span).From) = (((gD b1 i5).Span).From))) && ((decide ((((gD a0 i5).Span).To) = (((gD b1 i5).Span).To))) && true))) || (!x7))))] ∧ aM ⟨H0, [], []⟩ H []) ?_ ?_
  ·refine cJ 12 [0 ≤ i5 ∧ i5 < (lN a0), 0 ≤ i5 ∧ i5 < (lN b1)] ⟨c3, c4, trivial⟩ ?_
   refine pN (t := 28) (e := !((decide ((((gD a0 i5).Span).From) = (((gD b1 i5).Span).From))) && ((decide ((((gD a0 i5).Span).To) = (((gD b1 i5).Span).To))) && true))) (by kernel_rfl) (fun hg9 => ?_) (fun hg9 => ?_)
   ·refine kI ?_
    exact ⟨⟨[(0, (eL aP a0)), (1, (eL aP b1)), (5, (eI i5)), (41, (aD true))], by kernel_rfl, rfl, ⟨aR.refl _, aR.refl _, aR.refl _, aR.eq (congrArg aD (aBU hg9 rfl).symm), trivial⟩⟩, hO⟩
   refine cJ 22 [0 ≤ i5 ∧ i5 < (lN a0), 0 ≤ i5 ∧ i5 < (lN b1)] ⟨(c5 (LN hg9)), (c6 (LN hg9)), trivial⟩ ?_
   refine pO 23 [(eL bH ((gD a0 i5).Rows)), (eL bH ((gD b1 i5).Rows))] (aD x7) (by kernel_rfl) (by kernel_rfl) (LG ((gD a0 i5).Rows) ((gD b1 i5).Rows) _ (jG hx8 (LN hg9))) hO ?_
   intro H hO
   refine kI ?_
   exact ⟨⟨[(0, (eL aP a0)), (1, (eL aP b1)), (5, (eI i5)), (41, (aD (!x7)))], by kernel_rfl, rfl, ⟨aR.refl _, aR.refl _, aR.refl _, aR.eq (congrArg aD (aBU hg9 rfl).symm), trivial⟩⟩, hO⟩
  ·rintro T H ⟨hT, hO⟩
   refine dJ hT ?_
   clear hT
   refine aF (aG ?_)
   refine bK h1 (fun h1 => ?_) (fun h1 => ?_)
   ·refine bW aC 1 [(4, (aD false))] ?_
    refine bG ?_
    obtain rfl := oI h1
    obtain rfl : _ = rr0 := ho0
    replace h0 : some false = some r := h0
    obtain rfl := oI h0
    exact aF (bC (aT (aT (bC (aT (Q_r hO))))))
   refine bN ?_
   refine dP [(0, (eL aP a0)), (1, (eL aP b1)), (5, (eI i5))] ?_
   refine aF (aV (aG (?_)))
   refine aS aC 3 ?_
   refine bA ?_
   exact aF (aG (⟨rfl, _, (oI h1).symm, .eq (by kernel_rfl), hO⟩))
 refine gJ 0 ?_
 obtain rfl := oI h1
 obtain rfl : _ = rr0 := ho0
 replace h0 : uQ  = some r := h0
 exact aF (aY (aY (bV (aG (⟨rfl, .eq (by kernel_rfl), hO, h0⟩)))))

theorem GR (w0 : bY) (l1 : (List aE)) (t2 : Int) (r : Bool) (h0 : pU w0 l1 t2 = some r) : cZ Try.prog 3 [(cP w0), (eL aH l1), (eI t2)] (aD r) := by
 intro H0
 refine cY Try.func3 ?_
 have hO := aM.start H0
 unfold pU at h0
 refine aO ?_
 refine aS aC 2 ?_
 refine fT 3 (cP w0) (by kernel_rfl) (by kernel_rfl) ?_
 refine bA ?_
 refine bP [0] [(3, (.rp (cP w0)))] ?_
 refine aO ?_
 refine aS aC 9 ?_
 refine bI 3 ?_
 obtain ⟨x1, hx2, h0⟩ := aW h0
 refine cX (BG w0 l1 t2 _ hx2) hO ?_
 intro H hO
 refine bA ?_
 refine bP [] [(7, (eI x1.1)), (8, (eI x1.2))] ?_
 refine aO ?_
 refine aS aC 8 ?_
 refine bI 2 ?_
 obtain ⟨x4, hx5, h0⟩ := aW h0
 refine cX (ZR l1 x1.1 _ hx5) hO ?_
 intro H hO
 refine bA ?_
 refine bP [] [(9, (eL aH x4.1)), (10, (eI x4.2))] ?_
 refine aO ?_
 refine aX aC 10 [8, 10] [(39, (aD (((!decide (x1.2 = (0 : Int))) || (!decide (x4.2 = (0 : Int)))) || (decide ((1125899906842624 : Int) ≤ t2)))))] ?_
 refine bK h0 (fun h0 => ?_) (fun h0 => ?_)
 ·refine aO ?_
  refine aS aC 2 ?_
  obtain ⟨x8, hx9, h0⟩ := aW h0
  refine cX (JI  _ hx9) hO ?_
  intro H hO
  refine bA ?_
  refine bD [(6, (aD x8))] ?_
  refine bG ?_
  obtain rfl := oI h0
  exact aF (aT (Q_r hO))
 refine bN ?_
 refine bD [(1, (eL aH l1)), (2, (eI t2)), (3, (.rp (cP w0))), (7, (eI x1.1)), (9, (eL aH x4.1))] ?_
 refine aO ?_
 refine aS aC 9 ?_
 refine bI 3 ?_
 obtain ⟨x11, hx12, h0⟩ := aW h0
 refine cX (BG w0 x4.1 t2 _ hx12) hO ?_
 intro H hO
 refine bA ?_
 refine bP [] [(11, (eI x11.1)), (12, (eI x11.2))] ?_
 refine aO ?_
 refine aS aC 10 ?_
 refine bI 4 ?_
 obtain ⟨x14, hx15, h0⟩ := aW h0
 refine cX (BB w0 l1 x1.1 t2 _ hx15) hO ?_
 intro H hO
 refine bA ?_
 refine bP [1] [(13, (eL aP x14.1)), (14, (eI x14.2))] ?_
 refine aO ?_
 refine aS aC 10 ?_
 refine bI 4 ?_
 obtain ⟨x17, hx18, h0⟩ := aW h0
 refine cX (BB w0 x4.1 x1.1 t2 _ hx18) hO ?_
 intro H hO
 refine bA ?_
 refine bP [2, 3, 9] [(15, (eL aP x17.1)), (16, (eI x17.2))] ?_
 refine aO ?_
 refine aS aC 21 ?_
 obtain ⟨x20, hx21, h0⟩ := aW h0
 refine cX (JI  _ hx21) hO ?_
 intro H hO
 refine bI 18 ?_
 obtain ⟨x23, hx24, h0⟩ := aW h0
 refine nB [(79, true)] 9 [(eL aP x14.1), (eL aP x17.1)] (aD x23) (((x20 && (decide (x11.2 = (0 : Int)))) && (decide (x1.1 = x11.1))) && (decide (x14.2 = x17.2))) (by kernel_rfl) (by kernel_rfl) (by kernel_rfl) (fun hb25 => (VT x14.1 x17.1 _ (jG hx24 hb25))) hO ?_
 intro H hO
 refine bA ?_
 refine bD [(6, (aD ((((x20 && (decide (x11.2 = (0 : Int)))) && (decide (x1.1 = x11.1))) && (decide (x14.2 = x17.2))) && x23)))] ?_
 refine bG ?_
 obtain rfl := oI h0
 exact aF (Q_r hO)

end Go.Abs
namespace Go.Abs
open Go Go.RowKit Go.Proofs
theorem IZ {H : Type} {enc : TypeId × Value → H} {w : World} : xF enc Try.prog w 24 cP yR :=
  EC Try.underlying24 (by kernel_rfl) (pG (c' := DM) (ok' := yR) (fun (a : Int) (b : Int × Int × Unit) => (bY.mk a b.1 b.2.1 : bY)) (by kernel_rfl) (wD Try.underlying22) (pG (c' := fun (b : Int × Int × Unit) => (V.cells (cR .i64 b.1) ++ (V.cells (cR .i64 b.2.1) ++ []))) (ok' := fun b => (vH b.1 ∧ (vH b.2.1 ∧ True))) (fun a b => (a, b)) (by kernel_rfl) (wD Try.underlying3) (pG (c' := fun (b : Int × Unit) => (V.cells (cR .i64 b.1) ++ [])) (ok' := fun b => (vH b.1 ∧ True)) (fun a b => (a, b)) (by kernel_rfl) (wD Try.underlying3) (HR ()) (fun _ _ => rfl) (fun _ _ h1 h2 => ⟨h1, h2⟩)) (fun _ _ => rfl) (fun _ _ h1 h2 => ⟨h1, h2⟩)) (fun _ _ => rfl) (fun _ _ h1 h2 => ⟨h1, h2⟩))

theorem KO {H : Type} {enc : TypeId × Value → H} {w : World} : xF enc Try.prog w 49 aJ EA :=
  EC Try.underlying49 (by kernel_rfl) (pG (c' := MA) (ok' := EA) (fun (a : Int) (b : Int × ByteArray × Unit) => (aI.mk a b.1 b.2.1 : aI)) (by kernel_rfl) (wD Try.underlying47) (pG (c' := fun (b : Int × ByteArray × Unit) => (V.cells (cR .i64 b.1) ++ (V.cells (BL b.2.1) ++ []))) (ok' := fun b => (vH b.1 ∧ ((fun s => s.size ≤ maxLen) b.2.1 ∧ True))) (fun a b => (a, b)) (by kernel_rfl) (wD Try.underlying3) (pG (c' := fun (b : ByteArray × Unit) => (V.cells (BL b.1) ++ [])) (ok' := fun b => ((fun s => s.size ≤ maxLen) b.1 ∧ True)) (fun a b => (a, b)) (by kernel_rfl) (YV Try.underlying9) (HR ()) (fun _ _ => rfl) (fun _ _ h1 h2 => ⟨h1, h2⟩)) (fun _ _ => rfl) (fun _ _ h1 h2 => ⟨h1, h2⟩)) (fun _ _ => rfl) (fun _ _ h1 h2 => ⟨h1, h2⟩))

theorem LW {H : Type} {enc : TypeId × Value → H} {w : World} : xF enc Try.prog w 53 aH yD :=
  EC Try.underlying53 (by kernel_rfl) (pG (c' := OA) (ok' := yD) (fun (a : (List aI)) (b : Int × Int × Unit) => (aE.mk a b.1 b.2.1 : aE)) (by kernel_rfl) (ZQ Try.underlying51 (by decide +kernel) (fun _ => by kernel_rfl) (fun _ => rfl) KO (by kernel_rfl)) (pG (c' := fun (b : Int × Int × Unit) => (V.cells (cR .i64 b.1) ++ (V.cells (cR .i64 b.2.1) ++ []))) (ok' := fun b => (vH b.1 ∧ (vH b.2.1 ∧ True))) (fun a b => (a, b)) (by kernel_rfl) (wD Try.underlying3) (pG (c' := fun (b : Int × Unit) => (V.cells (cR .i64 b.1) ++ [])) (ok' := fun b => (vH b.1 ∧ True)) (fun a b => (a, b)) (by kernel_rfl) (wD Try.underlying3) (HR ()) (fun _ _ => rfl) (fun _ _ h1 h2 => ⟨h1, h2⟩)) (fun _ _ => rfl) (fun _ _ h1 h2 => ⟨h1, h2⟩)) (fun _ _ => rfl) (fun _ _ h1 h2 => ⟨h1, h2⟩))

end Go.Abs
namespace Go.Abs
open Go
theorem cW {n : Int} (h1 : -9223372036854775808 ≤ n) (h2 : n ≤ 9223372036854775807) : IntKind.i64.wrap n = n := by
 simp only [IntKind.wrap, IntKind.bits, IntKind.signed]
 simp
 split <;> omega

def pS {α st R : Type} (step : st → α → Option (st ⊕ R)) (fin : st → R) : st → List α → Option R
 | s, [] => some (fin s)
 | s, a :: r => match step s a with
  | some (.inl s') => pS step fin s' r
  | some (.inr x) => some x
  | none => none

theorem IF {α st R : Type} {step : st → α → Option (st ⊕ R)} {fin : st → R} {s s' : st} {a : α} {r : List α} (h : step s a = some (.inl s')) : pS step fin s (a :: r) = pS step fin s' r := by
 simp only [pS, h]

theorem HV {α st R : Type} {step : st → α → Option (st ⊕ R)} {fin : st → R} {s : st} {x : R} {a : α} {r : List α} (h : step s a = some (.inr x)) : pS step fin s (a :: r) = some x := by
 simp only [pS, h]

theorem aAJ {α S st R : Type} {body : S → Option (S ⊕ R)} {l : List α} (mk : st → Int → S) (step : st → α → Option (st ⊕ R)) (fin : st → R)
  (hn : ∀ (i : Nat) a s, l[i]? = some a → (∀ s', step s a = some (.inl s') → body (mk s i) = some (.inl (mk s' ((i + 1 : Nat) : Int)))) ∧ (∀ x, step s a = some (.inr x) → body (mk s i) = some (.inr x)))
  (he : ∀ s, body (mk s (l.length : Nat)) = some (.inr (fin s))) : ∀ (m k : Nat) (s : st) (r : R), l.length - k = m → k ≤ l.length → pS step fin s (l.drop k) = some r → lp body (mk s k) = some r
 | 0, k, s, r, hm, hk, h => by
  have : k = l.length := by omega
  subst this
  rw [List.drop_length] at h
  simp only [pS, Option.some.injEq] at h
  subst h
  exact cV (he s)
 | m + 1, k, s, r, hm, hk, h => by
  have hlt : k < l.length := by omega
  have hd : l.drop k = l[k] :: l.drop (k + 1) := List.drop_eq_getElem_cons hlt
  rw [hd] at h
  simp only [pS] at h
  obtain ⟨h1, h2⟩ := hn k l[k] s (List.getElem?_eq_getElem hlt)
  split at h
  ·rename_i s' hs
   rw [fO (h1 s' hs)]
   exact aAJ mk step fin hn he m (k + 1) s' r (by omega) (by omega) h
  ·rename_i x hs
   simp at h; subst h
   exact cV (h2 x hs)
  ·cases h

theorem XA {α S st R : Type} {body : S → Option (S ⊕ R)} {l : List α} (mk : st → Int → S) (step : st → α → Option (st ⊕ R)) (fin : st → R)
  (hn : ∀ (i : Nat) a s, l[i]? = some a → (∀ s', step s a = some (.inl s') → body (mk s i) = some (.inl (mk s' ((i + 1 : Nat) : Int)))) ∧ (∀ x, step s a = some (.inr x) → body (mk s i) = some (.inr x)))
  (he : ∀ s, body (mk s (l.length : Nat)) = some (.inr (fin s))) {s : st} {r : R} (h : pS step fin s l = some r) : lp body (mk s 0) = some r :=
 aAJ mk step fin hn he _ 0 s r rfl (Nat.zero_le _) (by simpa using h)

theorem WV {α S st R : Type} {body : S → Option (S ⊕ R)} {l : List α} (mk : st → Int → S) (step : st → α → Option (st ⊕ R)) (fin : st → R) (Inv : Nat → st → Prop)
  (hn : ∀ (i : Nat) a s, Inv i s → l[i]? = some a → (∀ s', step s a = some (.inl s') → Inv (i + 1) s' ∧ body (mk s i) = some (.inl (mk s' ((i + 1 : Nat) : Int)))) ∧ (∀ x, step s a = some (.inr x) → body (mk s i) = some (.inr x)))
  (he : ∀ s, Inv l.length s → body (mk s (l.length : Nat)) = some (.inr (fin s))) : ∀ (m k : Nat) (s : st) (r : R), l.length - k = m → k ≤ l.length → Inv k s → pS step fin s (l.drop k) = some r → lp body (mk s k) = some r
 | 0, k, s, r, hm, hk, hi, h => by
  have : k = l.length := by omega
  subst this
  rw [List.drop_length] at h
  simp only [pS, Option.some.injEq] at h
  subst h
  exact cV (he s hi)
 | m + 1, k, s, r, hm, hk, hi, h => by
  have hlt : k < l.length := by omega
  have hd : l.drop k = l[k] :: l.drop (k + 1) := List.drop_eq_getElem_cons hlt
  rw [hd] at h
  simp only [pS] at h
  obtain ⟨h1, h2⟩ := hn k l[k] s hi (List.getElem?_eq_getElem hlt)
  split at h
  ·rename_i s' hs
   obtain ⟨hi', hb⟩ := h1 s' hs
   rw [fO hb]
   exact WV mk step fin Inv hn he m (k + 1) s' r (by omega) (by omega) hi' h
  ·rename_i x hs
   simp at h; subst h
   exact cV (h2 x hs)
  ·cases h

theorem aCO {α S st R : Type} {body : S → Option (S ⊕ R)} {l : List α} (mk : st → Int → S) (step : st → α → Option (st ⊕ R)) (fin : st → R) (Inv : Nat → st → Prop)
  (hn : ∀ (i : Nat) a s, Inv i s → l[i]? = some a → (∀ s', step s a = some (.inl s') → Inv (i + 1) s' ∧ body (mk s i) = some (.inl (mk s' ((i + 1 : Nat) : Int)))) ∧ (∀ x, step s a = some (.inr x) → body (mk s i) = some (.inr x)))
  (he : ∀ s, Inv l.length s → body (mk s (l.length : Nat)) = some (.inr (fin s))) {s : st} {r : R} (hi : Inv 0 s) (h : pS step fin s l = some r) : lp body (mk s 0) = some r :=
 WV mk step fin Inv hn he _ 0 s r rfl (Nat.zero_le _) hi (by simpa using h)

theorem idx {α : Type} [Inhabited α] {l : List α} {i : Nat} {a : α} (h : l[i]? = some a) (hl : l.length < 4611686018427387904) :
  decide ((i : Int) < ((l.length : Nat) : Int)) = true ∧ (0 ≤ (i : Int) ∧ (i : Int) < ((l.length : Nat) : Int)) ∧ l.getD (Int.toNat (i : Int)) default = a ∧ IntKind.i64.wrap ((i : Int) + 1) = ((i + 1 : Nat) : Int) := by
 have hlt : i < l.length := (List.getElem?_eq_some_iff.1 h).1
 refine ⟨by simpa using hlt, ⟨by omega, by omega⟩, ?_, ?_⟩
 ·rw [Int.toNat_natCast, List.getD_eq_getElem?_getD, h]; rfl
 ·rw [cW (by omega) (by omega)]; omega

theorem kL {n : Nat} : decide (((n : Nat) : Int) < ((n : Nat) : Int)) = false := by simp

theorem aGw {α : Type} {j : α} {r : List α} : (0 : Int) ≤ 0 ∧ (0 : Int) < ((List.length (j :: r) : Nat) : Int) := ⟨by omega, by simp⟩

theorem aFU {α : Type} [Inhabited α] {j : α} {r : List α} : List.getD (j :: r) (Int.toNat (0 : Int)) default = j := rfl

end Go.Abs
namespace Go.Abs
open Go
theorem drop_cons {α : Type} {l r : List α} {a : α} {k : Nat} (h : l.drop k = a :: r) : l[k]? = some a ∧ l.drop (k + 1) = r := by
 have hk : k < l.length := by
  apply Classical.byContradiction; intro hn
  rw [List.drop_eq_nil_of_le (by omega)] at h; cases h
 rw [List.drop_eq_getElem_cons hk] at h
 obtain ⟨h1, h2⟩ := List.cons.inj h
 exact ⟨by rw [List.getElem?_eq_getElem hk, h1], h2⟩

theorem aCG {α S st R : Type} {body : S → Option (S ⊕ R)} {l : List α} (mk : st → Int → S) (G : st → List α → R) (Inv : st → List α → Prop)
  (hn : ∀ (i : Nat) a r s, l[i]? = some a → Inv s (a :: r) → (∃ s', body (mk s i) = some (.inl (mk s' ((i + 1 : Nat) : Int))) ∧ Inv s' r ∧ G s' r = G s (a :: r)) ∨ body (mk s i) = some (.inr (G s (a :: r))))
  (he : ∀ s, Inv s [] → body (mk s (l.length : Nat)) = some (.inr (G s []))) : ∀ (r : List α) (k : Nat) (s : st), l.drop k = r → k ≤ l.length → Inv s r → lp body (mk s k) = some (G s r)
 | [], k, s, hd, hk, hi => by
  have : k = l.length := by
   have := congrArg List.length hd
   simp only [List.length_drop, List.length_nil] at this; omega
  subst this
  exact cV (he s hi)
 | a :: r, k, s, hd, hk, hi => by
  obtain ⟨h1, h2⟩ := drop_cons hd
  have hlt : k < l.length := (List.getElem?_eq_some_iff.1 h1).1
  rcases hn k a r s h1 hi with ⟨s', hb, hi', hg⟩ | hb
  ·rw [fO hb, aCG mk G Inv hn he r (k + 1) s' h2 (by omega) hi', hg]
  ·exact cV hb

theorem xD {α S st R : Type} {body : S → Option (S ⊕ R)} {l : List α} (mk : st → Int → S) (G : st → List α → R) (Inv : st → List α → Prop) (s : st)
  (hn : ∀ (i : Nat) a r s, l[i]? = some a → Inv s (a :: r) → (∃ s', body (mk s i) = some (.inl (mk s' ((i + 1 : Nat) : Int))) ∧ Inv s' r ∧ G s' r = G s (a :: r)) ∨ body (mk s i) = some (.inr (G s (a :: r))))
  (he : ∀ s, Inv s [] → body (mk s (l.length : Nat)) = some (.inr (G s []))) (hi : Inv s l) : lp body (mk s 0) = some (G s l) :=
 aCG mk G Inv hn he l 0 s rfl (Nat.zero_le _) hi

theorem aCw {α S R : Type} {body : S → Option (S ⊕ R)} {l : List α} (mk : Int → S) (bad : α → Bool) (x y : R)
  (hn : ∀ (i : Nat) a, l[i]? = some a → body (mk i) = some (if bad a then .inr x else .inl (mk ((i + 1 : Nat) : Int))))
  (he : body (mk (l.length : Nat)) = some (.inr y)) : lp body (mk 0) = some (if l.any bad then x else y) := by
 refine xD (st := Unit) (fun _ i => mk i) (fun _ r => if r.any bad then x else y) (fun _ _ => True) () ?_ ?_ trivial
 ·intro i a r s ha _
  have hb := hn i a ha
  cases h : bad a
  ·left; refine ⟨(), ?_, trivial, ?_⟩
   ·simpa [h] using hb
   ·simp [List.any_cons, h]
  ·right; simpa [h, List.any_cons] using hb
 ·intro _ _; simpa using he

end Go.Abs
namespace Go.Abs
open Go
variable {α : Type} [Inhabited α]
theorem wr {n : Int} (h1 : -1099511627776 ≤ n) (h2 : n ≤ 8796093022208) : IntKind.i64.wrap n = n := cW (by omega) (by omega)

section ins
variable {ok : α → Prop} {le : α → α → Prop} {cmp : α → α → Option Int}
end ins
end Go.Abs
namespace Go.Abs
open Go
variable {α : Type} [Inhabited α]
theorem half {s : Nat} (h : s ≤ 4398046511104) : IntKind.i64.wrap (Int.fdiv (IntKind.u64.wrap (IntKind.i64.wrap (s : Int))) (2 ^ (min (Int.toNat (1 : Int)) 64))) = ((s / 2 : Nat) : Int) := by
 rw [wr (n := (s : Int)) (by omega) (by omega)]
 have hu : IntKind.u64.wrap (s : Int) = (s : Int) := by
  simp only [IntKind.wrap, IntKind.bits, IntKind.signed]
  simp
  omega
 have hp : (2 : Int) ^ (min (Int.toNat (1 : Int)) 64) = 2 := by decide
 rw [hu, hp, Int.fdiv_eq_ediv_of_nonneg _ (by omega), wr (by omega) (by omega)]
 omega

section sym
variable {ok : α → Prop} {le : α → α → Prop} {cmp : α → α → Option Int}
end sym
end Go.Abs
namespace Go.Abs
open Go
def UZ (n : Int) : Bool := decide (n ≤ 1048576) && decide (-1048576 ≤ n)

theorem aE7 (n : Int) : BP n = some (UZ n) := rfl

def NA (last : Int) (j : aB) : Bool := decide (j.At ≤ last) || decide (1125899906842624 ≤ j.At) || decide (j.Net = 0) || !UZ j.Net

def chk (last : Int) : List aB → Bool
 | [] => true
 | j :: r => !NA last j && chk j.At r

def eO (f : List aB) : Bool := decide (f.length ≤ 1024) && chk (-2) f

theorem XQ {f : List aB} {i : Nat} {a : aB} {last : Int} (ha : f[i]? = some a) (hl : f.length < 4611686018427387904) :
  nJ f (f.length : Nat) last i = some (if NA last a then .inr (.inr false) else .inl (a.At, ((i + 1 : Nat) : Int))) := by
 obtain ⟨d1, d2, d3, d4⟩ := idx ha hl
 simp only [nJ, d1, cond_true, aQ d2, d3, d4, aE7]
 unfold NA
 cases h : (decide (a.At ≤ last) || decide (1125899906842624 ≤ a.At) || decide (a.Net = 0)) <;> cases h2 : UZ a.Net <;> simp [dN]

theorem VV : ∀ (f : List aB) (last : Int), pS (fun last (j : aB) => some (if NA last j then .inr (.inr false) else .inl j.At)) (fun _ => (.inl () : Unit ⊕ Bool)) last f = some (if chk last f then .inl () else .inr false)
 | [], last => by simp [pS, chk]
 | j :: r, last => by
  cases h : NA last j
  ·rw [IF (s' := j.At) (by simp [h])]
   rw [VV r j.At]
   simp [chk, h]
  ·rw [HV (x := .inr false) (by simp [h])]
   simp [chk, h]

theorem GK (f : List aB) : nQ f = some (eO f) := by
 unfold nQ eO
 by_cases hl : f.length ≤ 1024
 ·have h1 : decide ((1024 : Int) < ((f.length : Nat) : Int)) = false := by simp; omega
  rw [h1, cond_false]
  unfold BN
  have key := XA (l := f) (body := fun s : Int × Int => nJ f (f.length : Nat) s.1 s.2) (fun last i => (last, i)) _ _
   (fun i a s ha => by
    constructor
    ·intro s' hs
     show nJ f (f.length : Nat) s i = _
     rw [XQ ha (by omega)]
     split at hs <;> simp_all
    ·intro x hs
     show nJ f (f.length : Nat) s i = _
     rw [XQ ha (by omega)]
     split at hs <;> simp_all)
   (fun s => by show nJ f (f.length : Nat) s (f.length : Nat) = _; simp only [nJ, kL, cond_false]) (VV f (-2))
  rw [key]
  cases h : chk (-2) f <;> simp [yM, hl]
 ·have h1 : decide ((1024 : Int) < ((f.length : Nat) : Int)) = true := by simp; omega
  rw [h1, cond_true]
  simp [hl]

theorem aBE {last : Int} {j : aB} : NA last j = false ↔ last < j.At ∧ j.At < 1125899906842624 ∧ j.Net ≠ 0 ∧ j.Net ≤ 1048576 ∧ -1048576 ≤ j.Net := by
 simp [NA, UZ]
 omega

def oD (last : Int) : List aB → Prop
 | [] => True
 | j :: r => (last < j.At ∧ j.At < 1125899906842624 ∧ j.Net ≠ 0 ∧ j.Net ≤ 1048576 ∧ -1048576 ≤ j.Net) ∧ oD j.At r

theorem aAv : ∀ {f : List aB} {last : Int}, chk last f = true ↔ oD last f
 | [], last => by simp [chk, oD]
 | j :: r, last => by simp [chk, oD, aBE, aAv]

theorem mO {f : List aB} : eO f = true ↔ f.length ≤ 1024 ∧ oD (-2) f := by simp [eO, aAv]

theorem oD.above : ∀ {f : List aB} {last : Int}, oD last f → ∀ j ∈ f, last < j.At ∧ j.At < 1125899906842624 ∧ j.Net ≠ 0 ∧ j.Net ≤ 1048576 ∧ -1048576 ≤ j.Net
 | [], _, _, j, hj => by simp at hj
 | a :: r, last, h, j, hj => by
  rcases List.mem_cons.1 hj with rfl | hj
  ·exact h.1
  ·have := h.2.above j hj
   have h1 := h.1.1
   exact ⟨by omega, this.2⟩

def val (f : List aB) (t : Int) : Int := (f.map fun j => if j.At ≤ t then j.Net else 0).sum

theorem SA (t : Int) : val [] t = 0 := rfl

theorem kN (j : aB) (r : List aB) (t : Int) : val (j :: r) t = (if j.At ≤ t then j.Net else 0) + val r t := by simp [val]

theorem HH (f g : List aB) (t : Int) : val (f ++ g) t = val f t + val g t := by simp [val]

theorem SO : ∀ {f : List aB} {b : Int} (t : Int), 0 ≤ b → (∀ j ∈ f, j.Net ≤ b ∧ -b ≤ j.Net) → val f t ≤ b * f.length ∧ -(b * f.length) ≤ val f t
 | [], b, t, _, _ => by simp [val]
 | j :: r, b, t, hb, h => by
  obtain ⟨h1, h2⟩ := SO t hb (fun k hk => h k (List.mem_cons_of_mem _ hk))
  have h3 := h j (List.mem_cons_self ..)
  rw [kN]
  simp only [List.length_cons, Int.natCast_add, Int.natCast_one, Int.mul_add, Int.mul_one]
  split <;> omega

theorem sD {f : List aB} {t : Int} (h : ∀ j ∈ f, t < j.At) : val f t = 0 := by
 induction f with
 | nil => rfl
 | cons j r ih =>
  rw [kN, ih (fun k hk => h k (List.mem_cons_of_mem _ hk))]
  have := h j (List.mem_cons_self ..)
  rw [if_neg (by omega)]; rfl

theorem aA0 {f : List aB} {i : Nat} {a : aB} {t v : Int} (ha : f[i]? = some a) (hl : f.length < 4611686018427387904) :
  oW t f (f.length : Nat) v i = some (if t < a.At then .inr v else .inl (IntKind.i64.wrap (v + a.Net), ((i + 1 : Nat) : Int))) := by
 obtain ⟨d1, d2, d3, d4⟩ := idx ha hl
 simp only [oW, d1, cond_true, aQ d2, d3, d4]
 by_cases h : t < a.At <;> simp [h]

theorem aFg {t : Int} (f : List aB) : ∀ (last v : Int), oD last f → v ≤ 1048576 * (2048 - f.length) → -(1048576 * (2048 - f.length)) ≤ v → f.length ≤ 1024 →
  pS (fun v (j : aB) => some (if t < j.At then .inr v else .inl (IntKind.i64.wrap (v + j.Net)))) (fun v => (v : Int)) v f = some (v + val f t) := by
 induction f with
 | nil => intro last v _ _ _ _; simp [pS, val]
 | cons j r ih =>
  intro last v h h1 h2 hl
  simp only [List.length_cons] at h1 h2 hl
  by_cases hj : t < j.At
  ·rw [HV (x := v) (by simp [hj])]
   rw [sD (fun k hk => by
    rcases List.mem_cons.1 hk with rfl | hk
    ·exact hj
    ·have := (h.2.above k hk).1; omega)]
   simp
  ·have hj1 := h.1
   have hw : IntKind.i64.wrap (v + j.Net) = v + j.Net := cW (by omega) (by omega)
   rw [IF (s' := v + j.Net) (by simp [hj, hw])]
   rw [ih j.At (v + j.Net) h.2 (by omega) (by omega) (by omega), kN, if_pos (by omega)]
   congr 1
   omega

theorem aBn (f : List aB) (t : Int) : zM f t = some (if eO f then val f t else 0) := by
 unfold zM
 rw [GK]
 simp only [Option.bind_some]
 cases h : eO f
 ·simp
 ·obtain ⟨hl, hr⟩ := mO.1 h
  simp only [Bool.not_true, cond_false, if_true]
  unfold CQ
  have key := XA (l := f) (body := fun s : Int × Int => oW t f (f.length : Nat) s.1 s.2) (fun v i => (v, i)) _ _
   (fun i a s ha => by
    constructor
    ·intro s' hs
     show oW t f (f.length : Nat) s i = _
     rw [aA0 ha (by omega)]
     split at hs <;> simp_all
    ·intro x hs
     show oW t f (f.length : Nat) s i = _
     rw [aA0 ha (by omega)]
     split at hs <;> simp_all)
   (fun s => by show oW t f (f.length : Nat) s (f.length : Nat) = _; simp only [oW, kL, cond_false]) (aFg (t := t) f (-2) 0 hr (by omega) (by omega) hl)
  rw [key]
  simp [xM]

theorem aEY (f : List aB) : uZ f = some (if eO f then (f, 0) else ([], 7)) := by
 unfold uZ
 rw [GK]
 cases h : eO f <;> simp

end Go.Abs
namespace Go.Abs
open Go
section both
variable {op : Int → Int → Option Int} {f g r : List aB} {out : List aB} {a b was t : Int} {j : aB}
end both
def emit (p v was : Int) : List aB := if v = was then [] else [⟨p, v - was⟩]

def aEO (was : Int) : List (Int × Int) → List aB
 | [] => []
 | x :: r => emit x.1 x.2 was ++ aEO x.2 r

def merge (f g : List aB) (a b : Int) : List (Int × Int × Int) :=
 match f, g with
 | [], [] => []
 | j :: f, [] => (j.At, a + j.Net, b) :: merge f [] (a + j.Net) b
 | [], k :: g => (k.At, a, b + k.Net) :: merge [] g a (b + k.Net)
 | j :: f, k :: g =>
  if j.At < k.At then (j.At, a + j.Net, b) :: merge f (k :: g) (a + j.Net) b
  else if k.At < j.At then (k.At, a, b + k.Net) :: merge (j :: f) g a (b + k.Net)
  else (j.At, a + j.Net, b + k.Net) :: merge f g (a + j.Net) (b + k.Net)

termination_by f.length + g.length
end Go.Abs
namespace Go.Abs
open Go
def comb (OP : Int → Int → Int) (f g : List aB) : List aB := aEO 0 ((merge f g 0 0).map fun x => (x.1, OP x.2.1 x.2.2))

def told (f : List aB) : List aB × Int := if eO f then (f, 0) else ([], 7)

theorem aEs (f : List aB) : uZ f = some (told f) := aEY f

def two (OP : Int → Int → Int) (f g : List aB) : List aB × Int := if eO f && eO g then told (comb OP f g) else ([], 2)

end Go.Abs
namespace Go.Abs
open Go
theorem oD.VO {l t : Int} {f : List aB} (h : oD l f) (ht : t ≤ l) : val f t = 0 := sD fun j hj => by have := (h.above j hj).1; omega

end Go.Abs
namespace Go.Abs
open Go
def tB (f : List aB) : Int := (f.map aB.Net).sum

theorem UF (j : aB) (f : List aB) : tB (j :: f) = j.Net + tB f := by simp [tB]

def kQ (t : Int) : List aB → List aB
 | [] => []
 | j :: r => if t ≤ j.At then [] else j :: kQ t r

def aft (t : Int) : List aB → List aB
 | [] => []
 | j :: r => if t ≤ j.At then j :: r else aft t r

theorem xB (t : Int) : ∀ f : List aB, kQ t f ++ aft t f = f
 | [] => rfl
 | j :: r => by
  unfold kQ aft
  split
  ·rfl
  ·simp [xB t r]

theorem SC {t : Int} : ∀ {f : List aB}, ∀ j ∈ kQ t f, j.At < t
 | [], j, h => by simp [kQ] at h
 | k :: r, j, h => by
  unfold kQ at h
  split at h
  ·simp at h
  ·rcases List.mem_cons.1 h with rfl | h
   ·omega
   ·exact SC j h

theorem KF {t l : Int} : ∀ {f : List aB}, oD l f → ∀ j ∈ aft t f, t ≤ j.At
 | [], _, j, h => by simp [aft] at h
 | k :: r, hr, j, h => by
  unfold aft at h
  split at h
  ·rcases List.mem_cons.1 h with rfl | h
   ·assumption
   ·have := (hr.2.above j h).1; omega
  ·exact KF hr.2 j h

theorem aAT {f : List aB} {t : Int} (h : ∀ j ∈ f, j.At ≤ t) : val f t = tB f := by
 induction f with
 | nil => rfl
 | cons j r ih => rw [kN, UF, if_pos (h j (List.mem_cons_self ..)), ih fun k hk => h k (List.mem_cons_of_mem _ hk)]

theorem XD (t : Int) : ∀ f : List aB, (kQ t f).length ≤ f.length
 | [] => by simp [kQ]
 | j :: r => by
  unfold kQ
  split
  ·simp
  ·simpa using XD t r

theorem aDM {l t p : Int} {f : List aB} (hf : oD l f) (hp : p < t) : val f p = val (kQ t f) p := by
 conv => lhs; rw [← xB t f]
 rw [HH, sD (f := aft t f) (fun j hj => by have := KF hf j hj; omega)]
 omega

theorem aET {l t p : Int} {f : List aB} (hf : oD l f) (hp : t ≤ p) : val f p = tB (kQ t f) + val (aft t f) p := by
 conv => lhs; rw [← xB t f]
 rw [HH, aAT (fun j hj => by have := SC j hj; omega)]

theorem aCM {l t : Int} {f : List aB} (hf : oD l f) : tB (kQ t f) = val f (t - 1) := by
 rw [aDM hf (p := t - 1) (t := t) (by omega), aAT (fun j hj => by have := SC j hj; omega)]

theorem aDW {f : List aB} (hl : f.length ≤ 1024) : iR f = some f := by
 unfold iR
 exact aQ ⟨by omega, by omega⟩

end Go.Abs
namespace Go.Abs
open Go
theorem aCn {t : Int} (f : List aB) : ∀ (l v : Int) (k : Nat), oD l f → v ≤ 1048576 * (2048 - f.length) → -(1048576 * (2048 - f.length)) ≤ v → f.length ≤ 1024 →
  pS (fun (s : Int × Nat) (j : aB) => some (if t ≤ j.At then .inr (s.1, ((s.2 : Nat) : Int)) else .inl (IntKind.i64.wrap (s.1 + j.Net), s.2 + 1))) (fun s => (s.1, ((s.2 : Nat) : Int))) (v, k) f = some (v + tB (kQ t f), ((k + (kQ t f).length : Nat) : Int)) := by
 induction f with
 | nil => intro l v k _ _ _ _; simp [pS, kQ, tB]
 | cons j r ih =>
  intro l v k h h1 h2 hl
  simp only [List.length_cons] at h1 h2 hl
  have hj1 := h.1
  by_cases hj : t ≤ j.At
  ·rw [HV (x := (v, ((k : Nat) : Int))) (by simp [hj])]
   simp [kQ, hj, tB]
  ·have hw : IntKind.i64.wrap (v + j.Net) = v + j.Net := cW (by omega) (by omega)
   rw [IF (s' := (v + j.Net, k + 1)) (by simp [hj, hw])]
   rw [ih j.At (v + j.Net) (k + 1) h.2 (by omega) (by omega) (by omega)]
   have : kQ t (j :: r) = j :: kQ t r := by simp [kQ, hj]
   rw [this, UF, List.length_cons]
   congr 2
   ·omega
   ·congr 1; omega

def xL (t : Int) (f : List aB) : List aB := (if tB (kQ t f) = 0 then [] else [⟨-1, tB (kQ t f)⟩]) ++ aft t f

def rest (f : List aB) (t : Int) : List aB × Int :=
 if eO f then (if 1125899906842624 ≤ t then ([], 0) else if t ≤ -1 then (f, 0) else told (xL t f)) else ([], 2)

theorem aBV (t : Int) (f : List aB) : List.drop (kQ t f).length f = aft t f := by
 rw [show List.drop (kQ t f).length f = List.drop (kQ t f).length (kQ t f ++ aft t f) by rw [xB]]
 exact List.drop_left

theorem aFe (f : List aB) (t : Int) : yK f t = some (rest f t) := by
 unfold yK rest
 rw [GK]
 simp only [Option.bind_some]
 cases h : eO f
 ·simp
 ·obtain ⟨hl, hr⟩ := mO.1 h
  simp only [Bool.not_true, cond_false, if_true]
  by_cases ht : 1125899906842624 ≤ t
  ·simp [ht]
  ·rw [decide_eq_false ht, cond_false, if_neg ht]
   by_cases ht' : t ≤ -1
   ·simp [ht', aDW hl]
   ·rw [decide_eq_false ht', cond_false, if_neg ht']
    unfold AH
    have key := aCO (l := f) (body := fun s : Int × Int => mR f t s.1 s.2) (fun (s : Int × Nat) i => (s.1, i)) _ _ (fun i s => s.2 = i)
     (fun i a s hi ha => by
      obtain ⟨d1, d2, d3, d4⟩ := idx ha (by omega)
      have hb : mR f t s.1 i = some (if t ≤ a.At then .inr (s.1, ((s.2 : Nat) : Int)) else .inl (IntKind.i64.wrap (s.1 + a.Net), ((i + 1 : Nat) : Int))) := by
       simp only [mR, d1, Bool.true_and, d3, d4]
       rw [aQ (fun _ => d2), aQ d2, hi]
       by_cases h : t ≤ a.At
       ·have : decide (a.At < t) = false := by simp; omega
        simp [h, this]
       ·have : decide (a.At < t) = true := by simp; omega
        simp [h, this]
      by_cases hh : t ≤ a.At
      ·refine ⟨fun s' hs => by simp [hh] at hs, fun x hs => ?_⟩
       simp [hh] at hs; subst hs
       show mR f t s.1 i = _
       rw [hb, if_pos hh]
      ·refine ⟨fun s' hs => ?_, fun x hs => by simp [hh] at hs⟩
       simp [hh] at hs; subst hs
       refine ⟨by simp [hi], ?_⟩
       show mR f t s.1 i = _
       rw [hb, if_neg hh])
     (fun s hi => by
      show mR f t s.1 (f.length : Nat) = _
      simp only [mR, kL, Bool.false_and, cond_false]
      rw [aQ (fun h => by cases h), hi]) (s := (0, 0)) rfl (aCn (t := t) f (-2) 0 0 hr (by omega) (by omega) hl)
    rw [key]
    have hlen := XD t f
    have hal : (aft t f).length ≤ f.length := by
     have := congrArg List.length (xB t f)
     simp only [List.length_append] at this
     omega
    have hto : ∀ n : Nat, Int.toNat (n : Int) = n := fun n => Int.toNat_natCast n
    simp only [Option.bind_some, Nat.zero_add, Int.zero_add, wZ, xC, xL, hto, aBV, aEs]
    by_cases hv : tB (kQ t f) = 0
    ·simp only [hv, decide_true, Bool.not_true, cond_false, if_true, List.nil_append]
     rw [aQ ⟨by omega, by omega⟩, aQ (by simp only [List.length_nil]; omega)]
    ·simp only [hv, decide_false, Bool.not_false, cond_true, if_false]
     rw [aQ (by simp), aQ ⟨by omega, by omega⟩, aQ (by simp only [List.length_cons, List.length_nil]; omega)]

end Go.Abs
namespace Go.Abs
open Go
def Up (last : Int) : List aB → Prop
 | [] => True
 | j :: r => (last < j.At ∧ j.At < 1125899906842624 ∧ j.Net ≠ 0) ∧ Up j.At r

theorem Up.above : ∀ {f : List aB} {last : Int}, Up last f → ∀ j ∈ f, last < j.At ∧ j.At < 1125899906842624 ∧ j.Net ≠ 0
 | [], _, _, j, hj => by simp at hj
 | a :: r, last, h, j, hj => by
  rcases List.mem_cons.1 hj with rfl | hj
  ·exact h.1
  ·have := h.2.above j hj
   have h1 := h.1.1
   exact ⟨by omega, this.2⟩

theorem Up.VO {l t : Int} {f : List aB} (h : Up l f) (ht : t ≤ l) : val f t = 0 := sD fun j hj => by have := (h.above j hj).1; omega

theorem oD.up : ∀ {f : List aB} {last : Int}, oD last f → Up last f
 | [], _, _ => trivial
 | _ :: _, _, h => ⟨⟨h.1.1, h.1.2.1, h.1.2.2.1⟩, h.2.up⟩

def Inc (last : Int) : List Int → Prop
 | [] => True
 | p :: r => (last < p ∧ p < 1125899906842624) ∧ Inc p r

theorem Inc.above : ∀ {ps : List Int} {last : Int}, Inc last ps → ∀ p ∈ ps, last < p ∧ p < 1125899906842624
 | [], _, _, j, hj => by simp at hj
 | a :: r, last, h, j, hj => by
  rcases List.mem_cons.1 hj with rfl | hj
  ·exact h.1
  ·have := h.2.above j hj
   have h1 := h.1.1
   exact ⟨by omega, this.2⟩

theorem oD.restrict {l m : Int} {k : aB} {g : List aB} (h : oD l (k :: g)) (hm : m < k.At) : oD m (k :: g) := ⟨⟨hm, h.1.2⟩, h.2⟩

end Go.Abs
namespace Go.Abs
open Go
theorem aD5 {f : List aB} (h : eO f = true) : ∀ j ∈ f, j.Net ≤ 1048576 ∧ -1048576 ≤ j.Net := fun j hj => by have := (mO.1 h).2.above j hj; omega

def jS (t : Int) : List Int → List Int
 | [] => [t]
 | p :: r => if p = t then p :: r else if t < p then t :: p :: r else p :: jS t r

theorem FP {t x : Int} : ∀ {ps : List Int}, x ∈ jS t ps ↔ x = t ∨ x ∈ ps
 | [] => by simp [jS]
 | p :: r => by
  unfold jS
  split
  ·rename_i h; subst h; simp
  ·split
   ·simp
   ·simp only [List.mem_cons, FP (ps := r)]; constructor <;> (intro h; rcases h with h | h | h <;> simp [h])

theorem CC {t : Int} : ∀ {ps : List Int} {last : Int}, Inc last ps → last < t → t < 1125899906842624 → Inc last (jS t ps)
 | [], last, _, h1, h2 => ⟨⟨h1, h2⟩, trivial⟩
 | p :: r, last, h, h1, h2 => by
  unfold jS
  split
  ·exact h
  ·split
   ·rename_i h3 h4
    exact ⟨⟨h1, h2⟩, ⟨h4, h.1.2⟩, h.2⟩
   ·exact ⟨h.1, CC h.2 (by omega) h2⟩

theorem LA {t : Int} : ∀ {ps : List Int}, (jS t ps).length ≤ ps.length + 1
 | [] => by simp [jS]
 | p :: r => by
  unfold jS
  split
  ·simp
  ·split
   ·simp
   ·simp only [List.length_cons]; have := LA (t := t) (ps := r); omega

theorem HS {t : Int} : ∀ {ps : List Int} {last : Int}, Inc last ps → t ∈ ps → jS t ps = ps
 | [], _, _, h => by simp at h
 | p :: r, last, hi, h => by
  unfold jS
  split
  ·rfl
  ·rename_i hp
   rcases List.mem_cons.1 h with h | h
   ·exact absurd h.symm hp
   ·have := (hi.2.above t h).1
    rw [if_neg (by omega), HS hi.2 h]

end Go.Abs
namespace Go.Abs
open Go
def mn (a b : Int) : Int := if b < a then b else a

def parts (v : Int) : List aB → List Int
 | [] => []
 | j :: r => (v + j.Net) :: parts (v + j.Net) r

def HC (f : List aB) : Int := (f.map fun j => val f j.At).foldl mn (val f (-1))

theorem parts_eq : ∀ {f : List aB} {l v : Int}, oD l f → parts v f = f.map fun j => v + val f j.At
 | [], _, _, _ => rfl
 | j :: r, l, v, h => by
  simp only [parts, List.map_cons]
  rw [parts_eq h.2, kN, if_pos (Int.le_refl _), h.2.VO (Int.le_refl _), Int.add_zero]
  congr 1
  apply List.map_congr_left
  intro k hk
  have := (h.2.above k hk).1
  rw [kN, if_pos (by omega)]; omega

theorem aDi {j : aB} {r : List aB} (h : oD (-2) (j :: r)) : val (j :: r) (-1) = if j.At = -1 then j.Net else 0 := by
 have := h.1.1
 by_cases e : j.At = -1
 ·rw [if_pos e, kN, if_pos (by omega), h.2.VO (by omega)]; omega
 ·rw [if_neg e, sD]
  intro k hk
  rcases List.mem_cons.1 hk with rfl | hk
  ·omega
  ·have := (h.2.above k hk).1; omega

theorem QF {f : List aB} (hf : eO f = true) (m : Int) (hm : -1125899906842624 ≤ m ∧ m ≤ 1125899906842624) : uJ 0 m f (f.length : Nat) 0 = some ((f.map fun j => val f j.At).foldl mn m) := by
 obtain ⟨hl, hr⟩ := mO.1 hf
 unfold uJ
 rw [xD (l := f) (body := fun s : Int × Int × Int => oB f (f.length : Nat) s.1 s.2.1 s.2.2) (fun (s : Int × Int) i => (s.1, s.2, i)) (fun s r => (parts s.1 r).foldl mn s.2)
  (fun s r => (∀ j ∈ r, j.Net ≤ 1048576 ∧ -1048576 ≤ j.Net) ∧ r.length ≤ 1024 ∧ s.1 ≤ 1048576 * (1024 - r.length) ∧ -(1048576 * (1024 - r.length)) ≤ s.1) (0, m) ?_ ?_ ?_]
 ·simp only [Option.bind_some, uT, parts_eq hr, Int.zero_add]
 ·rintro i a r ⟨v, m⟩ ha ⟨h1, h2, h3, h4⟩
  obtain ⟨d1, d2, d3, d4⟩ := idx ha (by omega)
  have hj := h1 a (List.mem_cons_self ..)
  simp only [List.length_cons] at h2 h3 h4
  have hw : IntKind.i64.wrap (v + a.Net) = v + a.Net := cW (by omega) (by omega)
  left
  refine ⟨(v + a.Net, mn m (v + a.Net)), ?_, ⟨fun j hj => h1 j (List.mem_cons_of_mem _ hj), by omega, by simp only; omega, by simp only; omega⟩, rfl⟩
  show oB f (f.length : Nat) v m i = _
  simp only [oB, d1, cond_true, aQ d2, d3, d4, hw, mn]
 ·rintro ⟨v, m⟩ _
  show oB f (f.length : Nat) v m (f.length : Nat) = _
  simp only [oB, kL, cond_false, parts, List.foldl_nil]
 ·exact ⟨aD5 hf, hl, by simp only; omega, by simp only; omega⟩

theorem aD8 (f : List aB) : wH f = some (if eO f then HC f else 0) := by
 unfold wH
 rw [GK]
 cases h : eO f
 ·simp
 ·cases f with
  | nil => simp [HC, val]
  | cons j r =>
   obtain ⟨hl, hr⟩ := mO.1 h
   have hne : decide (((List.length (j :: r) : Nat) : Int) = 0) = false := by simp; omega
   simp only [Option.bind_some, Bool.not_true, Bool.false_or, hne, cond_false, aQ aGw, aFU, if_true]
   have hj := hr.1
   unfold HC
   rw [aDi hr]
   by_cases e : j.At = -1
   ·simp only [e, decide_true, cond_true, if_true, rQ]
    exact QF h j.Net (by omega)
   ·simp only [e, decide_false, cond_false, if_false, rQ]
    exact QF h 0 (by omega)

theorem TY {s t : Int} (hst : s ≤ t) : ∀ {f : List aB}, (∀ j ∈ f, ¬ (s < j.At ∧ j.At ≤ t)) → val f s = val f t
 | [], _ => rfl
 | j :: r, h => by
  have hj := h j (List.mem_cons_self ..)
  rw [kN, kN, TY hst (fun k hk => h k (List.mem_cons_of_mem _ hk))]
  by_cases e : j.At ≤ s
  ·rw [if_pos e, if_pos (by omega)]
  ·rw [if_neg e, if_neg (by omega)]

theorem SD : eO [] = true := by decide

theorem WK {t l' : Int} (hl : l' < t) : ∀ {f : List aB} {l : Int}, oD l f → Up l' (aft t f)
 | [], _, _ => trivial
 | j :: r, l, h => by
  unfold aft
  split
  ·exact (h.restrict (m := l') (by omega)).up
  ·exact WK hl h.2

theorem XN {f : List aB} {t : Int} (hf : eO f = true) (ht : -1 < t) : Up (-2) (xL t f) := by
 have hr := (mO.1 hf).2
 unfold xL
 split
 ·simpa using WK (l' := -2) (by omega) hr
 ·rename_i hn
  exact ⟨⟨by show (-2 : Int) < -1; omega, by show (-1 : Int) < _; omega, hn⟩, WK (l' := -1) ht hr⟩

theorem FE {f : List aB} {t : Int} (hf : eO f = true) (p : Int) (hp : -1 ≤ p) : val (xL t f) p = val f (if p < t then t - 1 else p) := by
 have hr := (mO.1 hf).2
 unfold xL
 rw [HH]
 have e1 : val (if tB (kQ t f) = 0 then [] else [⟨-1, tB (kQ t f)⟩]) p = tB (kQ t f) := by
  split
  ·rename_i h0; rw [h0]; rfl
  ·rw [kN, SA, if_pos (show (⟨-1, tB (kQ t f)⟩ : aB).At ≤ p from hp)]; simp
 rw [e1]
 by_cases h : p < t
 ·rw [if_pos h, sD (f := aft t f) (fun j hj => by have := KF hr j hj; omega), ← aCM hr]; omega
 ·rw [if_neg h, aET hr (t := t) (by omega)]

end Go.Abs
namespace Go.Abs
open Go
theorem w1 : IntKind.i64.wrap (0 + 1) = 1 := by rw [cW] <;> omega

theorem w2 : IntKind.i64.wrap (1 + 1) = 2 := by rw [cW] <;> omega

theorem w3 : IntKind.i64.wrap (1 - 1) = 0 := by rw [cW] <;> omega

theorem v0 : IntKind.i64.wrap 0 = 0 := by rw [cW] <;> omega

theorem v1 : IntKind.i64.wrap 1 = 1 := by rw [cW] <;> omega

theorem v2 : IntKind.i64.wrap 2 = 2 := by rw [cW] <;> omega

theorem v3 : IntKind.i64.wrap (-1) = -1 := by rw [cW] <;> omega

end Go.Abs
namespace Go.Abs
open Go
theorem aDR (f : List aB) : (told f).1.length ≤ 1024 := by
 unfold told
 cases h : eO f
 ·simp
 ·simpa using (mO.1 h).1

theorem aEb (f : List aB) (t : Int) : (rest f t).1.length ≤ 1024 := by
 unfold rest
 split
 ·split
  ·simp
  ·split
   ·exact (mO.1 (by assumption)).1
   ·exact aDR _
 ·simp

end Go.Abs
namespace Go.Abs
open Go
variable {α : Type} [Inhabited α]
noncomputable def qO (f1 : α → Option Bool) (s0 : (List α)) (t7 : Int) (t8 : Int) : Option ((Int) ⊕ (Unit ⊕ Int)) :=
 cond (decide (t8 < t7))
 (bE (0 ≤ t8 ∧ t8 < ((List.length s0 : Nat) : Int)) <|
 (f1 (List.getD s0 (Int.toNat t8) default)).bind fun x2 =>
 cond x2
 (some (.inr (.inr t8)))
 (some (.inl (IntKind.i64.wrap (t8 + (1 : Int))))))
 (some (.inr (.inl ())))

theorem WI {l : List α} {f : α → Option Bool} {g : α → Bool} (hl : l.length ≤ 1099511627776) (hf : ∀ x ∈ l, f x = some (g x)) : ∀ (r : List α) (k : Nat), l.drop k = r → k ≤ l.length →
  ∃ x, lp (fun s => qO f l (l.length : Nat) s) (k : Int) = some x ∧ ((x = .inl () ∧ r.any g = false) ∨ (∃ i : Nat, x = .inr (i : Int) ∧ k ≤ i ∧ i < l.length ∧ r.any g = true ∧ g (l.getD i default) = true ∧ ∀ j, k ≤ j → j < i → g (l.getD j default) = false))
 | [], k, hd, hk => by
  have : k = l.length := by
   have := congrArg List.length hd
   simp only [List.length_drop, List.length_nil] at this; omega
  subst this
  refine ⟨.inl (), cV ?_, Or.inl ⟨rfl, rfl⟩⟩
  show qO f l _ _ = _
  simp only [qO, kL, cond_false]
 | a :: r, k, hd, hk => by
  obtain ⟨h1, h2⟩ := drop_cons hd
  have hlt : k < l.length := (List.getElem?_eq_some_iff.1 h1).1
  obtain ⟨d1, d2, d3, d4⟩ := idx h1 (by omega)
  have hga : l.getD k default = a := by rw [Int.toNat_natCast] at d3; exact d3
  have hb : (fun s => qO f l (l.length : Nat) s) (k : Int) = some (if g a then .inr (.inr (k : Int)) else .inl ((k + 1 : Nat) : Int)) := by
   show qO f l _ _ = _
   simp only [qO, d1, cond_true, aQ d2, d3, d4, hf a (List.mem_of_getElem? h1), Option.bind_some]
   cases g a <;> simp
  cases hg : g a
  ·rw [hg] at hb
   obtain ⟨x, e, hx⟩ := WI hl hf r (k + 1) h2 (by omega)
   refine ⟨x, by rw [fO hb]; exact e, ?_⟩
   rcases hx with ⟨rfl, h⟩ | ⟨i, rfl, h3, h4, h5, h6, h7⟩
   ·exact Or.inl ⟨rfl, by simp [hg, h]⟩
   ·refine Or.inr ⟨i, rfl, by omega, h4, by simp [h5], h6, fun j hj hj' => ?_⟩
    by_cases e : j = k
    ·subst e; rw [hga, hg]
    ·exact h7 j (by omega) hj'
  ·rw [hg] at hb
   exact ⟨.inr (k : Int), cV hb, Or.inr ⟨k, rfl, Nat.le_refl _, hlt, by simp [hg], by rw [hga, hg], fun j h h' => by omega⟩⟩

end Go.Abs
namespace Go.Abs
open Go
theorem TM (x y : ByteArray) : qF x y = decide (x = y) := by
 unfold qF
 rw [ByteArray.toList_eq, ByteArray.toList_eq]
 by_cases h : x = y
 ·simp [h]
 ·have : x.data.toList ≠ y.data.toList := by
   intro he
   apply h
   cases x; cases y
   congr 1
   exact Array.toList_inj.1 he
  have h2 : (x.data.toList == y.data.toList) = false := by simpa using this
  rw [h2]; simp [h]

theorem veq (a b : aI) : ((decide (a.Kind = b.Kind)) && ((decide (a.Num = b.Num)) && ((qF a.Text b.Text) && true))) = decide (a = b) := by
 rw [TM]
 obtain ⟨a1, a2, a3⟩ := a
 obtain ⟨b1, b2, b3⟩ := b
 by_cases h1 : a1 = b1 <;> by_cases h2 : a2 = b2 <;> by_cases h3 : a3 = b3 <;> simp [h1, h2, h3]

def IC (v : aI) : Bool := decide (v.Kind = 1) && qF v.Text (⟨#[]⟩ : ByteArray)

def IN (v : aI) : Bool := ((decide (v.Kind = 2)) && (decide (v.Num = 0))) && (decide (((ByteArray.size v.Text : Nat) : Int) ≤ 64))

def HX (v : aI) : Bool := IC v || IN v

def vI (r : List aI) : Bool := decide (r.length ≤ 8) && r.all HX

theorem of_eq (v : aI) : mT v = some (if IC v then (.k_number v.Num, true) else if IN v then (.k_words v.Text, true) else (.none_, false)) := by
 unfold mT IC IN
 cases (decide (v.Kind = 1) && qF v.Text (⟨#[]⟩ : ByteArray)) <;> cases (((decide (v.Kind = 2)) && (decide (v.Num = 0))) && (decide (((ByteArray.size v.Text : Nat) : Int) ≤ 64))) <;> rfl

theorem aEV (v : aI) : xY v = some (HX v) := by
 unfold xY HX
 rw [of_eq]
 cases IC v <;> cases IN v <;> rfl

theorem VL {l : List aI} {f : aI → Option Bool} {g : aI → Bool} (hl : l.length ≤ 1099511627776) (hf : ∀ x ∈ l, f x = some (g x)) : fK l f = some (l.any g) := by
 unfold fK jD iY
 obtain ⟨x, e, hx⟩ := WI hl hf l 0 rfl (Nat.zero_le _)
 have e' : lp (fun s => iX f l (l.length : Nat) s) 0 = some x := e
 rw [e']
 rcases hx with ⟨rfl, h⟩ | ⟨i, rfl, _, _, h, _⟩
 ·simp [gH, h]
 ·simp [h]

theorem RR (r : List aI) : wT r = some (vI r) := by
 unfold wT vI
 by_cases h : r.length ≤ 8
 ·have h1 : decide ((8 : Int) < ((r.length : Nat) : Int)) = false := by simp; omega
  rw [h1, cond_false, VL (g := fun v => !HX v) (by omega) (fun x _ => by simp [yA, aEV])]
  simp only [Option.bind_some, h, decide_true, Bool.true_and]
  congr 1
  rw [List.all_eq_not_any_not]
 ·have h1 : decide ((8 : Int) < ((r.length : Nat) : Int)) = true := by simp; omega
  rw [h1, cond_true]
  simp [h]

theorem aBL {α : Type} [DecidableEq α] {f g : List α} {body : Int → Option (Int ⊕ (Unit ⊕ Bool))} (he : f.length = g.length)
  (hb : ∀ (i : Nat) a b, f[i]? = some a → g[i]? = some b → body i = some (if a = b then .inl ((i + 1 : Nat) : Int) else .inr (.inr false)))
  (hend : body (f.length : Nat) = some (.inr (.inl ()))) : ∀ (m k : Nat), f.length - k = m → k ≤ f.length → lp body (k : Int) = some (if f.drop k = g.drop k then .inl () else .inr false)
 | 0, k, hm, hk => by
  have : k = f.length := by omega
  subst this
  rw [List.drop_length, he, List.drop_length, if_pos rfl]
  rw [← he]
  exact cV hend
 | m + 1, k, hm, hk => by
  have h1 : k < f.length := by omega
  have h2 : k < g.length := by omega
  have hbk := hb k _ _ (List.getElem?_eq_getElem h1) (List.getElem?_eq_getElem h2)
  have e1 : f.drop k = f[k] :: f.drop (k + 1) := List.drop_eq_getElem_cons h1
  have e2 : g.drop k = g[k] :: g.drop (k + 1) := List.drop_eq_getElem_cons h2
  have hiff : (f.drop k = g.drop k) ↔ (f[k] = g[k] ∧ f.drop (k + 1) = g.drop (k + 1)) := by rw [e1, e2, List.cons.injEq]
  by_cases h : f[k] = g[k]
  ·rw [if_pos h] at hbk
   rw [fO hbk, aBL he hb hend m (k + 1) (by omega) (by omega)]
   simp only [hiff, h, true_and]
  ·rw [if_neg h] at hbk
   rw [cV hbk]
   simp only [hiff, h, false_and, if_false]

theorem aCL {α : Type} {f g : List α} (h : f.length ≠ g.length) : (!decide (((f.length : Nat) : Int) = ((g.length : Nat) : Int))) = true := by simp; omega

theorem QV {α : Type} {f g : List α} (h : f.length = g.length) : (!decide (((f.length : Nat) : Int) = ((g.length : Nat) : Int))) = false := by simp [h]

theorem IT (a b : List aI) (hl : a.length ≤ 17592186044416) : rY a b = some (decide (a = b)) := by
 unfold rY fZ
 by_cases he : a.length = b.length
 ·rw [QV he, cond_false]
  unfold kH
  have := aBL (f := a) (g := b) (body := fun s => fP a b (a.length : Nat) s) he ?_ ?_ a.length 0 rfl (Nat.zero_le _)
  ·simp only [Int.natCast_zero, List.drop_zero] at this
   rw [this]
   by_cases h : a = b <;> simp [h, iH]
  ·intro i x y hx hy
   obtain ⟨d1, d2, d3, d4⟩ := idx hx (by omega)
   obtain ⟨_, e2, e3, _⟩ := idx hy (by omega)
   simp only [fP, d1, cond_true, aQ d2, aQ e2, d3, e3, d4, veq]
   by_cases h : x = y <;> simp [h]
  ·simp only [fP, kL, cond_false]
 ·rw [aCL he, cond_true]
  have : a ≠ b := fun h => he (by rw [h])
  simp [this]

theorem UJ (a b : List aI) (hl : a.length ≤ 17592186044416) : wS a b = some (decide (a = b)) := by
 unfold wS
 by_cases he : a.length = b.length
 ·rw [QV he, cond_false]
  unfold yT
  have := aBL (f := a) (g := b) (body := fun s => rS a b s) he ?_ ?_ a.length 0 rfl (Nat.zero_le _)
  ·simp only [Int.natCast_zero, List.drop_zero] at this
   rw [this]
   by_cases h : a = b <;> simp [h, uW]
  ·intro i x y hx hy
   obtain ⟨d1, d2, d3, d4⟩ := idx hx (by omega)
   obtain ⟨_, e2, e3, _⟩ := idx hy (by omega)
   simp only [rS, d1, cond_true, aQ d2, aQ e2, d3, e3, d4, veq]
   by_cases h : x = y <;> simp [h]
  ·simp only [rS, kL, cond_false]
 ·rw [aCL he, cond_true]
  have : a ≠ b := fun h => he (by rw [h])
  simp [this]

structure LD {α : Type} (c : α → α → Int) : Prop where
 eq : ∀ a b, c a b = 0 ↔ a = b
 anti : ∀ a b, c a b < 0 ↔ 0 < c b a
 trans : ∀ a b d, c a b < 0 → c b d < 0 → c a d < 0

def uE (x y : Int) : Int := if x < y then -1 else if y < x then 1 else 0

theorem EB : LD uE where
 eq a b := by unfold uE; (repeat' split) <;> omega
 anti a b := by unfold uE; (repeat' split) <;> omega
 trans a b d := by unfold uE; (repeat' split) <;> omega

def mM {α : Type} [DecidableEq α] (c : α → α → Int) : List α → List α → Int
 | [], [] => 0
 | [], _ :: _ => -1
 | _ :: _, [] => 1
 | a :: r, b :: s => if a = b then mM c r s else c a b

theorem LD.list {α : Type} [DecidableEq α] {c : α → α → Int} (h : LD c) : LD (mM c) where
 eq := by
  intro a
  induction a with
  | nil => intro b; cases b <;> simp [mM]
  | cons x r ih =>
   intro b
   cases b with
   | nil => simp [mM]
   | cons y s =>
    unfold mM
    split
    ·rename_i e; subst e; rw [ih]; simp
    ·rename_i e
     have := h.eq x y
     constructor
     ·intro h0; exact absurd (this.1 h0) e
     ·intro h0; cases h0; exact absurd rfl e
 anti := by
  intro a
  induction a with
  | nil => intro b; cases b <;> simp [mM]
  | cons x r ih =>
   intro b
   cases b with
   | nil => simp [mM]
   | cons y s =>
    unfold mM
    by_cases e : x = y
    ·subst e; simp only [if_true]; exact ih s
    ·rw [if_neg e, if_neg (fun e' => e e'.symm)]; exact h.anti x y
 trans := by
  intro a
  induction a with
  | nil =>
   intro b d
   cases b <;> cases d <;> simp [mM]
  | cons x r ih =>
   intro b d
   cases b with
   | nil => simp [mM]
   | cons y s =>
    cases d with
    | nil => simp [mM]
    | cons z t =>
     unfold mM
     by_cases e1 : x = y
     ·subst e1
      rw [if_pos rfl]
      by_cases e2 : x = z
      ·subst e2; rw [if_pos rfl, if_pos rfl]; exact ih s t
      ·rw [if_neg e2, if_neg e2]; exact fun _ h => h
     ·rw [if_neg e1]
      by_cases e2 : y = z
      ·have hz : ¬ x = z := fun e => e1 (e.trans e2.symm)
       intro h _
       rw [if_neg hz, ← e2]; exact h
      ·rw [if_neg e2]
       intro h1 h2
       by_cases e3 : x = z
       ·subst e3
        have h3 := (h.anti x y).1 h1
        omega
       ·rw [if_neg e3]; exact h.trans x y z h1 h2

def NY (a b : UInt8) : Int := if a < b then -1 else if b < a then 1 else 0

theorem NB : LD NY where
 eq a b := by
  unfold NY
  constructor
  ·intro h
   split at h
   ·cases h
   ·split at h
    ·cases h
    ·rename_i h1 h2
     rw [UInt8.lt_iff_toNat_lt] at h1 h2
     exact UInt8.toNat_inj.1 (by omega)
  ·rintro rfl
   have : ¬ a < a := by rw [UInt8.lt_iff_toNat_lt]; omega
   simp [this]
 anti a b := by
  unfold NY
  simp only [UInt8.lt_iff_toNat_lt]
  (repeat' split) <;> omega
 trans a b d := by
  unfold NY
  simp only [UInt8.lt_iff_toNat_lt]
  (repeat' split) <;> omega

theorem FF : ∀ (a b : List UInt8), Go.Lib.compareBytes a b = mM NY a b
 | [], [] => rfl
 | [], _ :: _ => rfl
 | _ :: _, [] => rfl
 | a :: r, b :: s => by
  unfold Go.Lib.compareBytes mM
  rw [FF r s]
  by_cases e : a = b
  ·subst e
   have : ¬ a < a := by rw [UInt8.lt_iff_toNat_lt]; omega
   simp [this]
  ·rw [if_neg e]
   unfold NY
   have : ¬ (¬ a < b ∧ ¬ b < a) := by
    rintro ⟨h1, h2⟩
    rw [UInt8.lt_iff_toNat_lt] at h1 h2
    exact e (UInt8.toNat_inj.1 (by omega))
   by_cases h1 : a < b
   ·simp [h1]
   ·have h2 : b < a := Classical.byContradiction fun h2 => this ⟨h1, h2⟩
    simp [h1, h2]

def WB (a b : ByteArray) : Int := mM NY a.data.toList b.data.toList

theorem aFy (a b : ByteArray) : RJ a b = WB a b := FF _ _

theorem data_inj {x y : ByteArray} (h : x.data.toList = y.data.toList) : x = y := by
 cases x; cases y
 congr 1
 exact Array.toList_inj.1 h

theorem HM : LD WB where
 eq a b := by unfold WB; rw [(NB.list).eq]; exact ⟨data_inj, fun h => by rw [h]⟩
 anti a b := (NB.list).anti _ _
 trans a b d := (NB.list).trans _ _ _

def EM (a b : aI) : Int := if a.Kind = b.Kind then (if a.Num = b.Num then WB a.Text b.Text else uE a.Num b.Num) else uE a.Kind b.Kind

theorem aDI : LD EM where
 eq a b := by
  obtain ⟨a1, a2, a3⟩ := a
  obtain ⟨b1, b2, b3⟩ := b
  unfold EM
  simp only [aI.mk.injEq]
  by_cases h1 : a1 = b1
  ·by_cases h2 : a2 = b2
   ·simp [h1, h2, HM.eq]
   ·simp [h1, h2, EB.eq]
  ·simp [h1, EB.eq]
 anti a b := by
  unfold EM
  by_cases h1 : a.Kind = b.Kind
  ·rw [if_pos h1, if_pos h1.symm]
   by_cases h2 : a.Num = b.Num
   ·rw [if_pos h2, if_pos h2.symm]; exact HM.anti _ _
   ·rw [if_neg h2, if_neg (fun h => h2 h.symm)]; exact EB.anti _ _
  ·rw [if_neg h1, if_neg (fun h => h1 h.symm)]; exact EB.anti _ _
 trans a b d := by
  unfold EM
  intro h1 h2
  have lt : ∀ {x y : Int}, uE x y < 0 → x < y := fun {x y} h => by unfold uE at h; split at h <;> (try split at h) <;> omega
  have mk : ∀ {x y : Int}, x < y → uE x y < 0 := fun {x y} h => by unfold uE; rw [if_pos h]; omega
  by_cases e1 : a.Kind = b.Kind
  ·rw [if_pos e1] at h1
   by_cases e2 : b.Kind = d.Kind
   ·rw [if_pos e2] at h2
    rw [if_pos (e1.trans e2)]
    by_cases f1 : a.Num = b.Num
    ·rw [if_pos f1] at h1
     by_cases f2 : b.Num = d.Num
     ·rw [if_pos f2] at h2
      rw [if_pos (f1.trans f2)]
      exact HM.trans _ _ _ h1 h2
     ·rw [if_neg f2] at h2
      rw [f1, if_neg f2]; exact h2
    ·rw [if_neg f1] at h1
     have g1 := lt h1
     by_cases f2 : b.Num = d.Num
     ·rw [← f2, if_neg f1]; exact h1
     ·rw [if_neg f2] at h2
      have g2 := lt h2
      rw [if_neg (by omega)]
      exact mk (by omega)
   ·rw [if_neg e2] at h2
    rw [e1, if_neg e2]; exact h2
  ·rw [if_neg e1] at h1
   have g1 := lt h1
   by_cases e2 : b.Kind = d.Kind
   ·rw [← e2, if_neg e1]; exact h1
   ·rw [if_neg e2] at h2
    have g2 := lt h2
    rw [if_neg (by omega)]
    exact mk (by omega)

def tC (a b : List aI) : Int := mM EM a b

theorem BC : LD tC := aDI.list

end Go.Abs
namespace Go.Abs
open Go
theorem aCA (x y : Int) : qD x y = some (uE x y) := by
 unfold qD lO uE
 by_cases h1 : x < y
 ·simp [h1]
 ·by_cases h2 : y < x <;> simp [h1, h2]

theorem aC8 (x y : Int) : gW x y = some (uE x y) := by
 unfold gW lV uE
 by_cases h1 : x < y
 ·simp [h1]
 ·by_cases h2 : y < x <;> simp [h1, h2]

theorem LQ {v : aI} (h : IC v = true) : v.Kind = 1 ∧ v.Text = (⟨#[]⟩ : ByteArray) := by
 simp only [IC, TM, Bool.and_eq_true, decide_eq_true_eq] at h; exact h

theorem IP {v : aI} (h : IN v = true) : v.Kind = 2 ∧ v.Num = 0 ∧ v.Text.size ≤ 64 := by
 simp only [IN, Bool.and_eq_true, decide_eq_true_eq] at h; exact ⟨h.1.1, h.1.2, by omega⟩

theorem aAR {v : aI} (h : HX v = true) : IC v = true ∨ (IC v = false ∧ IN v = true) := by
 unfold HX at h
 cases hn : IC v
 ·rw [hn] at h; exact .inr ⟨rfl, by simpa using h⟩
 ·exact .inl rfl

theorem aC9 (a : ByteArray) : WB a a = 0 := (HM.eq a a).2 rfl

theorem LB (a : Int) : uE a a = 0 := (EB.eq a a).2 rfl

theorem aDd {a b : aI} (ha : HX a = true) (hb : HX b = true) : rW a b = some (EM a b) := by
 unfold rW
 simp only [of_eq, Option.bind_some]
 rcases aAR ha with h1 | ⟨h1, h1'⟩ <;> rcases aAR hb with h2 | ⟨h2, h2'⟩
 ·obtain ⟨k1, t1⟩ := LQ h1
  obtain ⟨k2, t2⟩ := LQ h2
  simp only [h1, h2, if_true, Bool.not_true, Bool.or_self, cond_false, aC8, Option.bind_some]
  unfold EM
  rw [k1, k2, t1, t2, if_pos rfl, aC9]
  by_cases hn : a.Num = b.Num
  ·rw [if_pos hn, hn, LB]
  ·rw [if_neg hn]
 ·obtain ⟨k1, t1⟩ := LQ h1
  obtain ⟨k2, n2, _⟩ := IP h2'
  simp only [h1, h2, h2', if_true, Bool.false_eq_true, if_false, Bool.not_true, Bool.or_self, cond_false]
  unfold EM
  rw [k1, k2]; rfl
 ·obtain ⟨k1, n1, _⟩ := IP h1'
  obtain ⟨k2, t2⟩ := LQ h2
  simp only [h1, h1', h2, if_true, Bool.false_eq_true, if_false, Bool.not_true, Bool.or_self, cond_false]
  unfold EM
  rw [k1, k2]; rfl
 ·obtain ⟨k1, n1, _⟩ := IP h1'
  obtain ⟨k2, n2, _⟩ := IP h2'
  simp only [h1, h1', h2, h2', if_true, Bool.false_eq_true, if_false, Bool.not_true, Bool.or_self, cond_false]
  unfold EM nX kO
  rw [k1, k2, n1, n2, if_pos rfl, if_pos rfl]
  simp [aFy]

theorem aAL {r : List aI} (h : vI r = true) : r.length ≤ 8 ∧ ∀ v ∈ r, HX v = true := by
 simp only [vI, Bool.and_eq_true, decide_eq_true_eq, List.all_eq_true] at h; exact h

theorem aDZ {a b : List aI} {k : Nat} (hk : k = a.length ∨ k = b.length) (h1 : k ≤ a.length) (h2 : k ≤ b.length) : tC (a.drop k) (b.drop k) = uE a.length b.length := by
 rcases hk with rfl | rfl
 ·rw [List.drop_length]
  by_cases h : a.length = b.length
  ·rw [h, List.drop_length, LB]; rfl
  ·rw [List.drop_eq_getElem_cons (by omega)]
   show (-1 : Int) = _
   unfold uE; rw [if_pos (by omega)]
 ·rw [List.drop_length]
  by_cases h : a.length = b.length
  ·rw [← h, List.drop_length, LB]; rfl
  ·rw [List.drop_eq_getElem_cons (by omega)]
   show (1 : Int) = _
   unfold uE; rw [if_neg (by omega), if_pos (by omega)]

theorem aAP {a b : List aI} (hl : a.length ≤ 8) (hlb : b.length ≤ 8) (n : Nat) (hn : n = min a.length b.length) : ∀ (m k : Nat), n - k = m → k ≤ n →
  ∃ x, lp (fun s : Int × Int => cK (fun st y0 => (kX y0 st b).bind fun o => some (o.2, o.1)) (a.take n) (n : Nat) s.1 s.2) ((k : Int) - 1, (k : Int)) = some x ∧
   ((∃ sg, x = .inl sg ∧ tC (a.drop k) (b.drop k) = uE a.length b.length) ∨
    (∃ i : Nat, x = .inr ((i : Int), (i : Int)) ∧ i < a.length ∧ i < b.length ∧ tC (a.drop k) (b.drop k) = EM (a.getD i default) (b.getD i default)))
 | 0, k, hm, hk => by
  have : k = n := by omega
  subst this
  refine ⟨.inl ((k : Int) - 1), cV ?_, .inl ⟨_, rfl, aDZ (by omega) (by omega) (by omega)⟩⟩
  show cK _ _ _ _ _ = _
  simp only [cK, kL, cond_false]
 | m + 1, k, hm, hk => by
  have h1 : k < a.length := by omega
  have h2 : k < b.length := by omega
  have ht : (a.take n)[k]? = some a[k] := by
   rw [List.getElem?_take_of_lt (by omega)]; exact List.getElem?_eq_getElem h1
  obtain ⟨d1, d2, d3, d4⟩ := idx ht (by simp; omega)
  have hlt : (a.take n).length = n := by simp; omega
  rw [hlt] at d1 d2
  obtain ⟨_, e2, e3, _⟩ := idx (List.getElem?_eq_getElem h2) (by omega)
  have hw : IntKind.i64.wrap ((k : Int) - 1 + 1) = (k : Int) := by rw [cW (by omega) (by omega)]; omega
  have hb : (fun s : Int × Int => cK (fun st y0 => (kX y0 st b).bind fun o => some (o.2, o.1)) (a.take n) (n : Nat) s.1 s.2) ((k : Int) - 1, (k : Int)) =
    some (if a[k] = b[k] then .inl ((k : Int), ((k + 1 : Nat) : Int)) else .inr (.inr ((k : Int), (k : Int)))) := by
   show cK _ _ _ _ _ = _
   simp only [cK, d1, cond_true, hlt, aQ d2, d3, d4, kX, hw, aQ e2, e3, veq, Option.bind_some]
   by_cases h : a[k] = b[k] <;> simp [h]
  have ea : a.drop k = a[k] :: a.drop (k + 1) := List.drop_eq_getElem_cons h1
  have eb : b.drop k = b[k] :: b.drop (k + 1) := List.drop_eq_getElem_cons h2
  by_cases h : a[k] = b[k]
  ·rw [if_pos h] at hb
   obtain ⟨x, e, hx⟩ := aAP hl hlb n hn m (k + 1) (by omega) (by omega)
   have hc : tC (a.drop k) (b.drop k) = tC (a.drop (k + 1)) (b.drop (k + 1)) := by
    rw [ea, eb]; unfold tC; rw [mM, if_pos h]
   refine ⟨x, ?_, by rw [hc]; exact hx⟩
   rw [fO hb]
   rw [show ((k + 1 : Nat) : Int) - 1 = (k : Int) by omega] at e
   exact e
  ·rw [if_neg h] at hb
   refine ⟨_, cV hb, .inr ⟨k, rfl, h1, h2, ?_⟩⟩
   rw [ea, eb]; unfold tC; rw [mM, if_neg h]
   simp [List.getD_eq_getElem?_getD, h1, h2]

theorem aCb (a b : List aI) : uG a b = some (if vI a && vI b then tC a b else 0) := by
 unfold uG
 rw [RR]
 simp only [Option.bind_some]
 cases ha : vI a
 ·simp [dN]
 ·simp only [Bool.not_true, Bool.not_false, dN, cond_true, RR, Option.bind_some, Bool.false_or]
  cases hb : vI b
  ·simp
  ·obtain ⟨la, ma⟩ := aAL ha
   obtain ⟨lb, mb⟩ := aAL hb
   have hif : (if ((List.length b : Nat) : Int) < ((List.length a : Nat) : Int) then ((List.length b : Nat) : Int) else ((List.length a : Nat) : Int)) = ((min a.length b.length : Nat) : Int) := by split <;> omega
   have hlt : (a.take (min a.length b.length)).length = min a.length b.length := by rw [List.length_take]; omega
   simp only [Bool.not_true, cond_false, hif, Int.toNat_natCast, vY, Option.bind_some, iU, iP, hlt, Bool.and_self, if_true]
   rw [aQ ⟨by omega, by omega⟩]
   obtain ⟨x, e, hx⟩ := aAP (a := a) (b := b) la lb _ rfl _ 0 rfl (Nat.zero_le _)
   have e' : lp (fun s : Int × Int => cK (fun st y0 => (kX y0 st b).bind fun o => some (o.2, o.1)) (a.take (min a.length b.length)) (min a.length b.length : Nat) s.1 s.2) ((-1 : Int), (0 : Int)) = some x := e
   rw [e']
   simp only [List.drop_zero] at hx
   rcases hx with ⟨sg, rfl, h⟩ | ⟨i, rfl, h1, h2, h⟩
   ·simp [fJ, aCA, h]
   ·have hi : decide ((i : Int) < 0) = false := by simp
    simp only [Option.bind_some, Sum.elim_inr, hi, cond_false, Int.toNat_natCast]
    rw [aQ ⟨by omega, by omega⟩, aQ ⟨by omega, by omega⟩]
    have g1 : a.getD i default ∈ a := by simp [List.getD_eq_getElem?_getD, h1]
    have g2 : b.getD i default ∈ b := by simp [List.getD_eq_getElem?_getD, h2]
    rw [aDd (ma _ g1) (mb _ g2), h]
    simp only [Option.bind_some]

end Go.Abs
namespace Go.Abs
open Go
def jE (e : aE) : aB := ⟨e.At, e.Net⟩

def gA (r : List aI) (f : List aB) : List aE → List (List aI × List aB)
 | [] => [(r, f)]
 | e :: l => if e.Row = r then gA r (f ++ [jE e]) l else (r, f) :: gA e.Row [jE e] l

def groups : List aE → List (List aI × List aB)
 | [] => []
 | e :: l => gA e.Row [jE e] l

def itG {σ : Type} (y : σ → List aI → List aB → Option (σ × Bool)) : List (List aI × List aB) → σ → Option σ
 | [], s => some s
 | g :: gs, s => (y s g.1 g.2).bind fun x => if x.2 then itG y gs x.1 else some x.1

def okL (l : List aE) : Prop := l.length ≤ 3518437208783 ∧ ∀ e ∈ l, e.Row.length ≤ 4398046510976

theorem CV {r : List aI} (h : r.length ≤ 4398046510976) : tV r = some r := by
 unfold tV
 rw [aQ ⟨by omega, by omega, by omega⟩, aQ (by simp only [List.length_nil, Nat.zero_add]; omega)]
 rfl

theorem QN {σ : Type} {y : σ → List aI → List aB → Option (σ × Bool)} {l : List aE} (hl : okL l) (row : List aI) (sg : σ) : ∀ (r : List aE) (k : Nat) (f : List aB), l.drop k = r → k ≤ l.length → f.length ≤ k →
  ∃ k' f', k ≤ k' ∧ k' ≤ l.length ∧ f'.length ≤ k' ∧ lp (fun s : σ × Int × List aB => kM y l row s.1 s.2.1 s.2.2) (sg, (k : Int), f) = some (sg, ((k' : Nat) : Int), f') ∧
   gA row f r = (row, f') :: groups (l.drop k') ∧ (∀ e r', r = e :: r' → e.Row = row → k < k')
 | [], k, f, hd, hk, hf => by
  have : k = l.length := by
   have := congrArg List.length hd
   simp only [List.length_drop, List.length_nil] at this; omega
  subst this
  refine ⟨l.length, f, Nat.le_refl _, Nat.le_refl _, hf, cV ?_, by simp [gA, groups], fun e r' h => by cases h⟩
  show kM _ _ _ _ _ _ = _
  simp only [kM, kL, dN, cond_false, Option.bind_some, Bool.false_and]
  exact aQ (fun h => by cases h)
 | a :: r, k, f, hd, hk, hf => by
  obtain ⟨h1, h2⟩ := drop_cons hd
  have hlt : k < l.length := (List.getElem?_eq_some_iff.1 h1).1
  obtain ⟨hll, hlr⟩ := hl
  obtain ⟨d1, d2, d3, d4⟩ := idx h1 (by omega)
  have har := hlr a (List.mem_of_getElem? h1)
  have hb : (fun s : σ × Int × List aB => kM y l row s.1 s.2.1 s.2.2) (sg, (k : Int), f) = some (if a.Row = row then .inl (sg, ((k + 1 : Nat) : Int), f ++ [jE a]) else .inr (sg, (k : Int), f)) := by
   show kM _ _ _ _ _ _ = _
   simp only [kM, d1, d3, d4, dN, cond_true, IT a.Row row (by omega), Option.bind_some, Bool.true_and]
   rw [aQ (fun _ => d2)]
   by_cases e : a.Row = row
   ·simp only [e, decide_true, cond_true, if_true]
    rw [aQ d2, aQ d2, aQ (by simp only [List.length_cons, List.length_nil]; omega)]
    rfl
   ·simp [e]
  by_cases e : a.Row = row
  ·rw [if_pos e] at hb
   obtain ⟨k', f', g1, g2, g3, g4, g5, _⟩ := QN ⟨hll, hlr⟩ row sg r (k + 1) (f ++ [jE a]) h2 (by omega) (by simp; omega) (y := y)
   refine ⟨k', f', by omega, g2, g3, by rw [fO hb]; exact g4, by simp [gA, e, g5], fun _ _ _ _ => by omega⟩
  ·rw [if_neg e] at hb
   refine ⟨k, f, Nat.le_refl _, hk, hf, cV hb, ?_, fun b r' h hr => by cases h; exact absurd hr e⟩
   rw [hd]; simp [gA, e, groups]

theorem aBs {σ : Type} {y : σ → List aI → List aB → Option (σ × Bool)} {l : List aE} (hl : okL l) : ∀ (m k : Nat) (sg s' : σ), l.length - k ≤ m → k ≤ l.length → itG y (groups (l.drop k)) sg = some s' →
  ∃ x, lp (fun s : σ × Int => jK y l s.1 s.2) (sg, (k : Int)) = some x ∧ Sum.elim id id x = s' := by
 have stop : ∀ (sg s' : σ), itG y (groups (l.drop l.length)) sg = some s' → ∃ x, lp (fun s : σ × Int => jK y l s.1 s.2) (sg, ((l.length : Nat) : Int)) = some x ∧ Sum.elim id id x = s' := by
  intro sg s' h
  rw [List.drop_length] at h
  simp only [groups, itG, Option.some.injEq] at h
  refine ⟨.inl sg, cV ?_, h⟩
  show jK _ _ _ _ = _
  simp only [jK, kL, cond_false]
 intro m
 induction m with
 | zero =>
  intro k sg s' hm hk h
  have : k = l.length := by omega
  subst this; exact stop sg s' h
 | succ m ih =>
  intro k sg s' hm hk h
  by_cases he : k = l.length
  ·subst he; exact stop sg s' h
  ·have hlt : k < l.length := by omega
   have hd : l.drop k = l[k] :: l.drop (k + 1) := List.drop_eq_getElem_cons hlt
   obtain ⟨d1, d2, d3, d4⟩ := idx (List.getElem?_eq_getElem hlt) (by have := hl.1; omega)
   obtain ⟨k', f', g1, g2, g3, g4, g5, g6⟩ := QN hl l[k].Row sg (l.drop k) k [] rfl hk (by simp) (y := y)
   have hk' := g6 _ _ hd rfl
   have hg : groups (l.drop k) = (l[k].Row, f') :: groups (l.drop k') := by
    rw [← g5, hd]; simp [groups, gA]
   rw [hg] at h
   simp only [itG] at h
   obtain ⟨x, hx, h⟩ := aW h
   have hrow := hl.2 _ (List.getElem_mem hlt)
   have hb : (fun s : σ × Int => jK y l s.1 s.2) (sg, (k : Int)) = some (if x.2 then .inl (x.1, ((k' : Nat) : Int)) else .inr (.inr x.1)) := by
    show jK _ _ _ _ = _
    simp only [jK, d1, cond_true, aQ d2, d3, tZ, g4, Option.bind_some, rB, CV hrow, hx]
    cases x.2 <;> simp
   cases hx2 : x.2
   ·rw [hx2] at hb h
    simp only [Bool.false_eq_true, if_false, Option.some.injEq] at hb h
    exact ⟨_, cV hb, h⟩
   ·rw [hx2] at hb h
    simp only [if_true] at hb h
    obtain ⟨z, hz1, hz2⟩ := ih k' x.1 s' (by omega) g2 h
    exact ⟨z, by rw [fO hb]; exact hz1, hz2⟩

theorem RM {σ : Type} {y : σ → List aI → List aB → Option (σ × Bool)} {l : List aE} (hl : okL l) {s s' : σ} (h : itG y (groups l) s = some s') : nS y l s = some s' := by
 unfold nS uA
 obtain ⟨x, h1, h2⟩ := aBs hl l.length 0 s s' (by omega) (Nat.zero_le _) (by simpa using h)
 simp only [Int.natCast_zero] at h1
 rw [h1]
 cases x <;> simpa using h2

def ahd (last : Option (List aI)) (r : List aI) : Bool := match last with
 | none => true
 | some q => decide (tC q r < 0)

def yP (p : List aB → Bool) : Option (List aI) → List (List aI × List aB) → Bool
 | _, [] => true
 | last, g :: gs => (vI g.1 && ahd last g.1 && p g.2) && yP p (some g.1) gs

theorem aAt {holds : List aB → Option Bool} {p : List aB → Bool} (hp : ∀ f, holds f = some (p f)) (c : List aE) (t : Bool) : ∀ (gs : List (List aI × List aB)) (last : List aI) (b : Bool), (b = true → vI last = true) →
  ∃ x, itG (fun st r f => rnd (fun (s : Bool × (List aI) × Bool) => qY holds c s.1 s.2.1 s.2.2 r f) st) gs (.inl (t, last, b)) = some x ∧
   (if yP p (if b then some last else none) gs then ∃ u, x = .inl (t, u) else ∃ u, x = .inr (false, u))
 | [], last, b, _ => ⟨_, rfl, by simp [yP]⟩
 | g :: gs, last, b, hb => by
  have hy : qY holds c t last b g.1 g.2 = some (if vI g.1 && ahd (if b then some last else none) g.1 && p g.2 then .inl (t, g.1, true) else .inr (false, last, b)) := by
   unfold qY
   simp only [RR, Option.bind_some, aCb, hp]
   cases hm : vI g.1
   ·simp [dN]
   ·cases b
    ·cases h2 : p g.2 <;> simp [dN, ahd, h2]
    ·have hl := hb rfl
     by_cases h1 : tC last g.1 < 0
     ·have h1' : ¬ (0 ≤ tC last g.1) := by omega
      cases h2 : p g.2 <;> simp [dN, ahd, h2, hl, h1, h1']
     ·have h1' : 0 ≤ tC last g.1 := by omega
      simp [dN, ahd, hl, h1, h1']
  cases hc : (vI g.1 && ahd (if b then some last else none) g.1 && p g.2)
  ·rw [hc] at hy
   simp only [itG, rnd, hy, Option.bind_some, yP, hc]
   exact ⟨.inr (false, last, b), by simp, by simp⟩
  ·rw [hc] at hy
   simp only [itG, rnd, hy, Option.bind_some, yP, hc]
   have hm : vI g.1 = true := by simp only [Bool.and_eq_true] at hc; exact hc.1.1
   obtain ⟨x, h1, h2⟩ := aAt hp c t gs g.1 true (fun _ => hm)
   refine ⟨x, ?_, ?_⟩
   ·simpa [rnd] using h1
   ·simpa using h2

theorem aAU {l : List aE} (hl : okL l) {holds : List aB → Option Bool} {p : List aB → Bool} (hp : ∀ f, holds f = some (p f)) : uY l holds = some (decide (l.length ≤ 4096) && yP p none (groups l)) := by
 unfold uY
 by_cases h : l.length ≤ 4096
 ·have h1 : decide ((4096 : Int) < ((l.length : Nat) : Int)) = false := by simp; omega
  rw [h1, cond_false]
  simp only [qL, Option.bind_some, AN]
  obtain ⟨x, e1, e2⟩ := aAt hp l false (groups l) [] false (fun h => by cases h)
  rw [RM hl e1]
  simp only [Bool.false_eq_true, if_false] at e2
  simp only [h, decide_true, Bool.true_and]
  cases hc : yP p none (groups l)
  ·rw [hc] at e2
   simp only [Bool.false_eq_true, if_false] at e2
   obtain ⟨u, rfl⟩ := e2
   rfl
  ·rw [hc] at e2
   simp only [if_true] at e2
   obtain ⟨u, rfl⟩ := e2
   rfl
 ·have h1 : decide ((4096 : Int) < ((l.length : Nat) : Int)) = true := by simp; omega
  rw [h1, cond_true]
  simp [h]

def eS (l : List aE) : Bool := decide (l.length ≤ 4096) && yP eO none (groups l)

theorem DH {l : List aE} (hl : okL l) : oY l = some (eS l) := by
 unfold oY
 rw [aAU hl (p := eO) (fun f => GK f)]; rfl

def RW (f : List aB) : Bool := eO f && decide (0 ≤ HC f)

def jT (l : List aE) : Bool := decide (l.length ≤ 4096) && yP RW none (groups l)

theorem FT {l : List aE} (hl : okL l) : pK l = some (jT l) := by
 unfold pK
 rw [aAU hl (p := RW) (fun f => by
  unfold tI RW
  rw [GK]
  cases h : eO f <;> simp [dN, aD8, h])]
 rfl

def iS (r : List aI) (f : List aB) : List aE := f.map fun j => ⟨r, j.At, j.Net⟩

theorem put_eq {out : List aE} {r : List aI} {f : List aB} (hr : r.length ≤ 4398046510976) (hl : out.length + f.length ≤ 1099511627776) : zZ out r f = some (out ++ iS r f) := by
 unfold zZ BM
 rw [xD (l := f) (body := fun s : List aE × Int => qK r f (f.length : Nat) s.1 s.2) (fun o i => (o, i)) (fun o t => o ++ iS r t) (fun o t => o.length + t.length ≤ 1099511627776) out ?_ ?_ hl]
 ·rfl
 ·intro i a t o ha hi
  left
  obtain ⟨d1, d2, d3, d4⟩ := idx ha (by have := (List.getElem?_eq_some_iff.1 ha).1; omega)
  simp only [List.length_cons] at hi
  refine ⟨o ++ [⟨r, a.At, a.Net⟩], ?_, by simp; omega, by simp [iS]⟩
  show qK _ _ _ _ _ = _
  simp only [qK, d1, cond_true, aQ d2, d3, d4, CV hr, Option.bind_some]
  exact aQ (by simp only [List.length_cons, List.length_nil]; omega)
 ·intro o _
  show qK _ _ _ _ _ = _
  simp only [qK, kL, cond_false]
  simp [iS]

def AM (by1 : List aB → List aB × Int) : List (List aI × List aB) → List aE → List aE × Int
 | [], out => (out, 0)
 | g :: gs, out => if (by1 g.2).2 ≠ 0 then ([], (by1 g.2).2) else if 4096 < (out ++ iS g.1 (by1 g.2).1).length then ([], 7) else AM by1 gs (out ++ iS g.1 (by1 g.2).1)

theorem UG {by0 : List aB → Option (List aB × Int)} {by1 : List aB → List aB × Int} (c : List aE) : ∀ (gs : List (List aI × List aB)) (out : List aE), out.length ≤ 4096 → (∀ g ∈ gs, by0 g.2 = some (by1 g.2) ∧ (by1 g.2).1.length ≤ 1024 ∧ g.1.length ≤ 4398046510976) →
  ∃ x, itG (fun st r f => rnd (fun (s : (List aE) × Int × List aE) => oU by0 c s.1 s.2.1 s.2.2 r f) st) gs (.inl ([], 0, out)) = some x ∧ Sum.elim (fun s : (List aE) × Int × List aE => (s.2.2, (0 : Int))) (fun s => (s.1, s.2.1)) x = AM by1 gs out
 | [], out, _, _ => ⟨_, rfl, rfl⟩
 | g :: gs, out, ho, hg => by
  obtain ⟨h1, h2, h3⟩ := hg g (by simp)
  have hy : oU by0 c [] 0 out g.1 g.2 = some (if (by1 g.2).2 ≠ 0 then .inr ([], (by1 g.2).2, out) else if 4096 < (out ++ iS g.1 (by1 g.2).1).length then .inr ([], 7, out ++ iS g.1 (by1 g.2).1) else .inl ([], 0, out ++ iS g.1 (by1 g.2).1)) := by
   unfold oU
   simp only [h1, Option.bind_some, put_eq h3 (show out.length + (by1 g.2).1.length ≤ 1099511627776 by omega)]
   by_cases e1 : (by1 g.2).2 = 0
   ·by_cases e2 : 4096 < (out ++ iS g.1 (by1 g.2).1).length
    ·have e2' : (4096 : Int) < (((out ++ iS g.1 (by1 g.2).1).length : Nat) : Int) := by omega
     simp only [e1, e2, e2', decide_true, Bool.not_true, cond_false, cond_true, ne_eq, not_true_eq_false, if_false, if_true]
    ·have e2' : ¬ (4096 : Int) < (((out ++ iS g.1 (by1 g.2).1).length : Nat) : Int) := by omega
     simp only [e1, e2, e2', decide_true, decide_false, Bool.not_true, cond_false, ne_eq, not_true_eq_false, if_false]
   ·simp only [e1, decide_false, Bool.not_false, cond_true, ne_eq, not_false_eq_true, if_true]
  simp only [itG, rnd, hy, Option.bind_some, AM]
  by_cases e1 : (by1 g.2).2 ≠ 0
  ·rw [if_pos e1, if_pos e1]; exact ⟨_, rfl, rfl⟩
  ·rw [if_neg e1, if_neg e1]
   by_cases e2 : 4096 < (out ++ iS g.1 (by1 g.2).1).length
   ·rw [if_pos e2, if_pos e2]; exact ⟨_, rfl, rfl⟩
   ·rw [if_neg e2, if_neg e2]
    exact UG c gs _ (by omega) (fun q hq => hg q (by simp [hq]))

theorem aB5 {l : List aE} (hl : okL l) {by0 : List aB → Option (List aB × Int)} {by1 : List aB → List aB × Int} (hb : ∀ g ∈ groups l, by0 g.2 = some (by1 g.2) ∧ (by1 g.2).1.length ≤ 1024 ∧ g.1.length ≤ 4398046510976) : uS l by0 = some (AM by1 (groups l) []) := by
 unfold uS
 simp only [qL, Option.bind_some, xK]
 obtain ⟨x, e1, e2⟩ := UG (by0 := by0) (by1 := by1) l (groups l) [] (by simp) hb
 rw [RM hl e1]
 cases x <;> simpa using e2

def flat (gs : List (List aI × List aB)) : List aE := gs.flatMap fun g => iS g.1 g.2

theorem QZ : ∀ (l : List aE) (r : List aI) (f : List aB), flat (gA r f l) = iS r f ++ l
 | [], r, f => by simp [gA, flat]
 | e :: l, r, f => by
  unfold gA
  split
  ·rename_i h
   rw [QZ l r]
   simp [iS, jE, ← h]
  ·have := QZ l e.Row [jE e]
   simp only [flat, List.flatMap_cons] at this ⊢
   rw [this]
   simp [iS, jE]

theorem FW (l : List aE) : flat (groups l) = l := by
 cases l with
 | nil => rfl
 | cons e l => unfold groups; rw [QZ]; simp [iS, jE]

theorem WJ {r : List aI} : ∀ {l : List aE} {f : List aB} {g : List aI × List aB}, g ∈ gA r f l → f ≠ [] → g.2 ≠ [] ∧ (g.1 = r ∨ ∃ e ∈ l, g.1 = e.Row)
 | [], f, g, h, hf => by simp only [gA, List.mem_singleton] at h; subst h; exact ⟨hf, .inl rfl⟩
 | e :: l, f, g, h, hf => by
  unfold gA at h
  split at h
  ·obtain ⟨h1, h2⟩ := WJ h (by simp)
   exact ⟨h1, h2.imp id fun ⟨x, hx, hx'⟩ => ⟨x, by simp [hx], hx'⟩⟩
  ·rcases List.mem_cons.1 h with rfl | h
   ·exact ⟨hf, .inl rfl⟩
   ·obtain ⟨h1, h2⟩ := WJ (r := e.Row) h (by simp)
    refine ⟨h1, .inr ?_⟩
    rcases h2 with h2 | ⟨x, hx, hx'⟩
    ·exact ⟨e, by simp, h2⟩
    ·exact ⟨x, by simp [hx], hx'⟩

theorem aBR {l : List aE} {g : List aI × List aB} (h : g ∈ groups l) : g.2 ≠ [] ∧ ∃ e ∈ l, g.1 = e.Row := by
 cases l with
 | nil => simp [groups] at h
 | cons e l =>
  obtain ⟨h1, h2⟩ := WJ h (by simp)
  refine ⟨h1, ?_⟩
  rcases h2 with h2 | ⟨x, hx, hx'⟩
  ·exact ⟨e, by simp, h2⟩
  ·exact ⟨x, by simp [hx], hx'⟩

end Go.Abs
namespace Go.Abs
open Go
def gL (l : List aE) (r : List aI) : List aB := (l.filter fun e => decide (e.Row = r)).map jE

theorem GQ (a b : List aE) (r : List aI) : gL (a ++ b) r = gL a r ++ gL b r := by simp [gL]

theorem UK (q : List aI) (f : List aB) (r : List aI) : gL (iS q f) r = if q = r then f else [] := by
 induction f with
 | nil => simp [gL, iS]
 | cons j f ih =>
  have h1 : iS q (j :: f) = [⟨q, j.At, j.Net⟩] ++ iS q f := rfl
  rw [h1, GQ, ih]
  by_cases h : q = r <;> simp [gL, jE, h]

def look : List (List aI × List aB) → List aI → List aB
 | [], _ => []
 | g :: gs, r => if g.1 = r then g.2 else look gs r

theorem tL (g : List aI × List aB) (gs : List (List aI × List aB)) (r : List aI) : look (g :: gs) r = if g.1 = r then g.2 else look gs r := rfl

abbrev ltG (a b : List aI × List aB) : Prop := tC a.1 b.1 < 0

abbrev tT (gs : List (List aI × List aB)) : Prop := gs.Pairwise ltG

abbrev Full (gs : List (List aI × List aB)) : Prop := ∀ g ∈ gs, g.2 ≠ []

theorem sF {a : List aI} : ¬ tC a a < 0 := by rw [(BC.eq a a).2 rfl]; omega

theorem zJ : ∀ {gs : List (List aI × List aB)} {r : List aI}, (∀ g ∈ gs, g.1 ≠ r) → look gs r = []
 | [], _, _ => rfl
 | g :: gs, r, h => by
  rw [tL]
  rw [if_neg (h g (by simp))]
  exact zJ fun q hq => h q (by simp [hq])

theorem CX (gs : List (List aI × List aB)) (r : List aI) : (look gs r = [] ∧ ∀ g ∈ gs, g.1 ≠ r) ∨ ∃ g ∈ gs, g.1 = r ∧ look gs r = g.2 := by
 induction gs with
 | nil => exact .inl ⟨rfl, by simp⟩
 | cons g gs ih =>
  rw [tL]
  by_cases h : g.1 = r
  ·rw [if_pos h]; exact .inr ⟨g, by simp, h, rfl⟩
  ·rw [if_neg h]
   rcases ih with ⟨h1, h2⟩ | ⟨q, hq, h1, h2⟩
   ·refine .inl ⟨h1, fun q hq => ?_⟩
    rcases List.mem_cons.1 hq with rfl | hq
    ·exact h
    ·exact h2 q hq
   ·exact .inr ⟨q, by simp [hq], h1, h2⟩

theorem BF {gs : List (List aI × List aB)} (hs : tT gs) {g : List aI × List aB} (hg : g ∈ gs) : look gs g.1 = g.2 := by
 induction gs with
 | nil => simp at hg
 | cons q gs ih =>
  have hs' := List.pairwise_cons.1 hs
  rw [tL]
  rcases List.mem_cons.1 hg with rfl | hg
  ·rw [if_pos rfl]
  ·rw [if_neg (fun e => by have := hs'.1 g hg; simp only [ltG, e] at this; exact sF this)]
   exact ih hs'.2 hg

theorem tJ (g : List aI × List aB) (gs : List (List aI × List aB)) : flat (g :: gs) = iS g.1 g.2 ++ flat gs := rfl

theorem zR : ∀ {gs : List (List aI × List aB)}, tT gs → ∀ r, gL (flat gs) r = look gs r
 | [], _, r => rfl
 | g :: gs, hs, r => by
  have hs' := List.pairwise_cons.1 hs
  rw [tJ, GQ, UK, zR hs'.2, tL]
  by_cases h : g.1 = r
  ·rw [if_pos h, if_pos h, zJ, List.append_nil]
   intro q hq e
   have := hs'.1 q hq
   simp only [ltG, h, e] at this; exact sF this
  ·rw [if_neg h, if_neg h]; rfl

theorem LK : ∀ {gs hs : List (List aI × List aB)}, tT gs → tT hs → Full gs → Full hs → (∀ r, look gs r = look hs r) → gs = hs
 | [], [], _, _, _, _, _ => rfl
 | [], h :: hs, _, _, _, fh, he => by
  have := he h.1
  simp only [tL, look, if_true] at this
  exact absurd this.symm (fh h (by simp))
 | g :: gs, [], _, _, fg, _, he => by
  have := he g.1
  simp only [tL, look, if_true] at this
  exact absurd this (fg g (by simp))
 | g :: gs, h :: hs, sg, sh, fg, fh, he => by
  have sg' := List.pairwise_cons.1 sg
  have sh' := List.pairwise_cons.1 sh
  by_cases e : g.1 = h.1
  ·have h2 := he g.1
   simp only [look, if_true, if_pos e.symm] at h2
   have ht : gs = hs := LK sg'.2 sh'.2 (fun q hq => fg q (by simp [hq])) (fun q hq => fh q (by simp [hq])) fun r => by
    by_cases hr : g.1 = r
    ·subst hr
     rw [zJ (gs := gs), zJ (gs := hs)]
     ·intro q hq e'; have := sh'.1 q hq; simp only [ltG, ← e, e'] at this; exact sF this
     ·intro q hq e'; have := sg'.1 q hq; simp only [ltG, e'] at this; exact sF this
    ·have := he r
     simp only [look, if_neg hr, if_neg (fun x => hr (e.trans x))] at this
     exact this
   rw [ht]
   obtain ⟨g1, g2⟩ := g
   obtain ⟨h1, h3⟩ := h
   simp only at e h2
   rw [e, h2]
  ·exfalso
   have hne : tC g.1 h.1 ≠ 0 := fun x => e ((BC.eq _ _).1 x)
   by_cases hlt : tC g.1 h.1 < 0
   ·have h2 := he g.1
    rw [BF sg (by simp), zJ] at h2
    ·exact fg g (by simp) h2
    ·intro q hq e'
     rcases List.mem_cons.1 hq with rfl | hq
     ·exact e e'.symm
     ·have := BC.trans _ _ _ hlt (sh'.1 q hq)
      rw [e'] at this; exact sF this
   ·have hlt' : tC h.1 g.1 < 0 := (BC.anti _ _).2 (by omega)
    have h2 := he h.1
    rw [BF sh (by simp), zJ] at h2
    ·exact fh h (by simp) h2.symm
    ·intro q hq e'
     rcases List.mem_cons.1 hq with rfl | hq
     ·exact e e'
     ·have := BC.trans _ _ _ hlt' (sg'.1 q hq)
      rw [e'] at this; exact sF this

theorem zK {p : List aB → Bool} : ∀ {gs : List (List aI × List aB)} {last : Option (List aI)}, yP p last gs = true ↔ (∀ g ∈ gs, vI g.1 = true ∧ p g.2 = true) ∧ tT gs ∧ (∀ q, last = some q → ∀ g ∈ gs, tC q g.1 < 0)
 | [], last => by simp [yP]
 | g :: gs, last => by
  unfold yP
  simp only [Bool.and_eq_true, zK (gs := gs), List.mem_cons, List.pairwise_cons]
  constructor
  ·rintro ⟨⟨⟨h1, h2⟩, h3⟩, h4, h5, h6⟩
   refine ⟨?_, ⟨fun q hq => h6 _ rfl q hq, h5⟩, ?_⟩
   ·rintro q (rfl | hq)
    ·exact ⟨h1, h3⟩
    ·exact h4 q hq
   ·rintro q rfl x (rfl | hx)
    ·simpa [ahd] using h2
    ·simp only [ahd, decide_eq_true_eq] at h2
     exact BC.trans _ _ _ h2 (h6 _ rfl x hx)
  ·rintro ⟨h1, ⟨h2, h3⟩, h4⟩
   refine ⟨⟨⟨(h1 g (.inl rfl)).1, ?_⟩, (h1 g (.inl rfl)).2⟩, fun q hq => h1 q (.inr hq), h3, ?_⟩
   ·unfold ahd
    split
    ·rfl
    ·exact decide_eq_true (h4 _ rfl g (.inl rfl))
   ·rintro q hq x hx
    cases hq
    exact h2 x hx

theorem jN {l : List aE} (h : eS l = true) : l.length ≤ 4096 ∧ (∀ g ∈ groups l, vI g.1 = true ∧ eO g.2 = true) ∧ tT (groups l) := by
 simp only [eS, Bool.and_eq_true, decide_eq_true_eq] at h
 obtain ⟨h1, h2, _⟩ := zK.1 h.2
 exact ⟨h.1, h1, h2⟩

theorem aCT {l : List aE} (h : eS l = true) (r : List aI) : eO (look (groups l) r) = true := by
 rcases CX (groups l) r with ⟨h1, _⟩ | ⟨g, hg, _, h1⟩
 ·rw [h1]; exact SD
 ·rw [h1]; exact ((jN h).2.1 g hg).2

theorem tP {l : List aE} (h : tT (groups l)) (r : List aI) : look (groups l) r = gL l r := by
 rw [← zR h, FW]

theorem aAY (r : List aI) (f : List aB) (e : aE) (l : List aE) : gA r f (e :: l) = if e.Row = r then gA r (f ++ [jE e]) l else (r, f) :: gA e.Row [jE e] l := rfl

theorem WH (r : List aI) : ∀ (f2 f : List aB) (l : List aE), gA r f (iS r f2 ++ l) = gA r (f ++ f2) l
 | [], f, l => by simp [iS]
 | j :: f2, f, l => by
  show gA r f (⟨r, j.At, j.Net⟩ :: (iS r f2 ++ l)) = _
  rw [aAY, if_pos rfl, WH r f2]
  simp [jE]

theorem TC : ∀ {gs : List (List aI × List aB)}, tT gs → Full gs → groups (flat gs) = gs
 | [], _, _ => rfl
 | (r, f) :: gs, hs, hf => by
  have hs' := List.pairwise_cons.1 hs
  have hne := hf (r, f) (by simp)
  have ih := TC hs'.2 (fun g hg => hf g (by simp [hg]))
  cases f with
  | nil => exact absurd rfl hne
  | cons j f =>
   rw [tJ]
   show gA r [jE ⟨r, j.At, j.Net⟩] (iS r f ++ flat gs) = _
   rw [WH]
   have key : ∀ (F : List aB), gA r F (flat gs) = (r, F) :: groups (flat gs) := by
    intro F
    cases gs with
    | nil => rfl
    | cons g gs =>
     obtain ⟨q, f'⟩ := g
     have hq := hf (q, f') (by simp)
     cases f' with
     | nil => exact absurd rfl hq
     | cons j' f' =>
      have hqr : q ≠ r := fun e => by
       have := hs'.1 (q, j' :: f') (by simp)
       simp only [ltG, e] at this; exact sF this
      rw [tJ]
      show gA r F (⟨q, j'.At, j'.Net⟩ :: (iS q f' ++ flat gs)) = _
      rw [gA, if_neg hqr]
      rfl
   rw [key, ih]
   rfl

def sI (gs : List (List aI × List aB)) : List (List aI × List aB) := gs.filter fun g => !g.2.isEmpty

theorem EV : ∀ (gs : List (List aI × List aB)), flat (sI gs) = flat gs
 | [] => rfl
 | (r, []) :: gs => by
  have : sI ((r, []) :: gs) = sI gs := rfl
  rw [this, EV gs, tJ]; rfl
 | (r, j :: f) :: gs => by
  have : sI ((r, j :: f) :: gs) = (r, j :: f) :: sI gs := rfl
  rw [this, tJ, tJ, EV gs]

theorem xA (gs : List (List aI × List aB)) : Full (sI gs) := by
 intro g hg
 have := (List.mem_filter.1 hg).2
 intro h; rw [h] at this; simp at this

theorem AE {gs : List (List aI × List aB)} (hs : tT gs) : groups (flat gs) = sI gs := by
 rw [← EV]
 exact TC (hs.filter _) (xA gs)

theorem SU {gs : List (List aI × List aB)} (hs : tT gs) (r : List aI) : look (groups (flat gs)) r = look gs r := by
 have h1 := zR (gs := sI gs) (hs.filter _) r
 rw [AE hs, ← h1, ← zR hs, EV]

theorem aCy {gs : List (List aI × List aB)} (hs : tT gs) (hm : ∀ g ∈ gs, vI g.1 = true ∧ eO g.2 = true) (hl : (flat gs).length ≤ 4096) : eS (flat gs) = true := by
 simp only [eS, Bool.and_eq_true, decide_eq_true_eq]
 refine ⟨hl, zK.2 ?_⟩
 rw [AE hs]
 exact ⟨fun g hg => hm g (List.mem_filter.1 hg).1, hs.filter _, by simp⟩

def qT (by1 : List aB → List aB × Int) (gs : List (List aI × List aB)) : List (List aI × List aB) := gs.map fun g => (g.1, (by1 g.2).1)

theorem wG {by1 : List aB → List aB × Int} {gs : List (List aI × List aB)} (hs : tT gs) : tT (qT by1 gs) := by
 rw [tT, qT, List.pairwise_map]; exact hs

theorem tN {by1 : List aB → List aB × Int} (h0 : (by1 []).1 = []) : ∀ (gs : List (List aI × List aB)) (r : List aI), look (qT by1 gs) r = (by1 (look gs r)).1
 | [], r => h0.symm
 | g :: gs, r => by
  show look ((g.1, (by1 g.2).1) :: qT by1 gs) r = _
  rw [tL, tL]
  by_cases h : g.1 = r
  ·rw [if_pos h, if_pos h]
  ·rw [if_neg h, if_neg h]; exact tN h0 gs r

theorem aAD {by1 : List aB → List aB × Int} : ∀ {gs : List (List aI × List aB)} {out : List aE}, out.length ≤ 4096 → (AM by1 gs out).2 = 0 → (∀ g ∈ gs, (by1 g.2).2 = 0) ∧ (AM by1 gs out).1 = out ++ flat (qT by1 gs) ∧ (AM by1 gs out).1.length ≤ 4096
 | [], out, ho, _ => by simp [AM, qT, flat, ho]
 | g :: gs, out, ho, h => by
  unfold AM at h ⊢
  by_cases e1 : (by1 g.2).2 = 0
  ·rw [if_neg (by simp [e1])] at h ⊢
   by_cases e2 : 4096 < (out ++ iS g.1 (by1 g.2).1).length
   ·rw [if_pos e2] at h; simp at h
   ·rw [if_neg e2] at h ⊢
    obtain ⟨h1, h2, h3⟩ := aAD (by omega) h
    refine ⟨?_, ?_, h3⟩
    ·intro q hq
     rcases List.mem_cons.1 hq with rfl | hq
     ·exact e1
     ·exact h1 q hq
    ·rw [h2]; simp [qT, tJ]
  ·rw [if_pos e1] at h; exact absurd h e1

theorem VY {by1 : List aB → List aB × Int} : ∀ {gs : List (List aI × List aB)} {out : List aE}, (AM by1 gs out).2 ≠ 0 → (AM by1 gs out).1 = []
 | [], out, h => by simp [AM] at h
 | g :: gs, out, h => by
  unfold AM at h ⊢
  split
  ·rfl
  ·rename_i e1
   rw [if_neg e1] at h
   split
   ·rfl
   ·rename_i e2
    rw [if_neg e2] at h
    exact VY h

def zH (by1 : List aB → List aB × Int) (l : List aE) : List aE × Int := if eS l then AM by1 (groups l) [] else ([], 2)

theorem FG {l : List aE} (hl : okL l) {g : List aI × List aB} (hg : g ∈ groups l) : g.1.length ≤ 4398046510976 := by
 obtain ⟨_, e, he, h⟩ := aBR hg
 rw [h]; exact hl.2 e he

theorem all_eq {l : List aE} (hl : okL l) {by0 : List aB → Option (List aB × Int)} {by1 : List aB → List aB × Int} (hb : ∀ f, by0 f = some (by1 f)) (h1 : ∀ f, (by1 f).1.length ≤ 1024) : AP l by0 = some (zH by1 l) := by
 unfold AP zH
 rw [DH hl]
 cases h : eS l
 ·rfl
 ·simp only [Option.bind_some, Bool.not_true, cond_false, if_true]
  rw [aB5 hl (fun g hg => ⟨hb g.2, h1 g.2, FG hl hg⟩)]
  rfl

theorem GP {by1 : List aB → List aB × Int} {l : List aE} (h : (zH by1 l).2 = 0) : eS l = true ∧ (∀ g ∈ groups l, (by1 g.2).2 = 0) ∧ (zH by1 l).1 = flat (qT by1 (groups l)) ∧ (zH by1 l).1.length ≤ 4096 := by
 unfold zH at h ⊢
 cases hm : eS l
 ·rw [hm] at h; simp at h
 ·rw [hm] at h
  simp only [if_true] at h ⊢
  obtain ⟨h1, h2, h3⟩ := aAD (by simp) h
  exact ⟨trivial, h1, by simpa using h2, h3⟩

theorem aCi {by1 : List aB → List aB × Int} (h0 : (by1 []).1 = []) {l : List aE} (h : (zH by1 l).2 = 0) (r : List aI) : look (groups (zH by1 l).1) r = (by1 (look (groups l) r)).1 := by
 obtain ⟨h1, h2, h3, _⟩ := GP h
 rw [h3, SU (wG (jN h1).2.2), tN h0]

theorem aD3 {by1 : List aB → List aB × Int} (h0 : (by1 []).2 = 0) {l : List aE} (h : (zH by1 l).2 = 0) (r : List aI) : (by1 (look (groups l) r)).2 = 0 := by
 obtain ⟨h1, h2, _, _⟩ := GP h
 rcases CX (groups l) r with ⟨e, _⟩ | ⟨g, hg, _, e⟩
 ·rw [e]; exact h0
 ·rw [e]; exact h2 g hg

theorem CK : ∀ (l : List aE) (r : List aI) (f : List aB), (gA r f l).length ≤ l.length + 1
 | [], _, _ => by simp [gA]
 | e :: l, r, f => by
  rw [aAY]
  split
  ·have := CK l r (f ++ [jE e]); simp only [List.length_cons]; omega
  ·have := CK l e.Row [jE e]; simp only [List.length_cons]; omega

theorem PK (l : List aE) : (groups l).length ≤ l.length := by
 cases l with
 | nil => simp [groups]
 | cons e l => exact CK l e.Row [jE e]

end Go.Abs
namespace Go.Abs
open Go
def vL : aI := ⟨1, 1, ByteArray.empty⟩

end Go.Abs
namespace Go.Abs
open Go
theorem aA1 : okL [] := ⟨by simp, by simp⟩

theorem aEm {gs : List (List aI × List aB)} (h : ∀ g ∈ gs, g.1.length ≤ 4398046510976) (hl : (flat gs).length ≤ 4096) : okL (flat gs) := by
 refine ⟨by omega, fun e he => ?_⟩
 obtain ⟨g, hg, h1⟩ := List.mem_flatMap.1 he
 obtain ⟨j, _, rfl⟩ := List.mem_map.1 h1
 exact h g hg

theorem aEi {by1 : List aB → List aB × Int} {l : List aE} (hl : okL l) : okL (zH by1 l).1 := by
 by_cases h : (zH by1 l).2 = 0
 ·obtain ⟨_, _, h3, h4⟩ := GP h
  rw [h3] at h4 ⊢
  refine aEm (fun g hg => ?_) h4
  obtain ⟨q, hq, rfl⟩ := List.mem_map.1 hg
  have := FG hl hq
  exact this
 ·unfold zH at h ⊢
  split
  ·rename_i hm
   rw [if_pos hm] at h
   rw [VY h]; exact aA1
  ·exact aA1

def gI (l : List aE) (t : Int) : List aE × Int := zH (fun f => rest f t) l

theorem aDe {l : List aE} (hl : okL l) (t : Int) : okL (gI l t).1 := aEi hl

theorem aDU {l : List aE} (hl : okL l) (t : Int) : yG l t = some (gI l t) := by
 unfold yG gI
 rw [all_eq hl (by0 := fun y0 => rO y0 t) (by1 := fun f => rest f t) (fun f => by unfold rO; rw [aFe]; rfl) (fun f => aEb f t)]
 rfl

theorem XC {t : Int} : rest [] t = ([], 0) := by
 unfold rest
 rw [if_pos SD]
 split
 ·rfl
 ·split <;> rfl

end Go.Abs
namespace Go.Abs
open Go
theorem MG {σ : Type} {y : σ → List aI → List aB → Option (σ × Bool)} (c : List aE) : ∀ (gs : List (List aI × List aB)) (s s' : σ), itG y gs s = some s' →
  ∃ x, itG (fun st t10 t11 => rnd (fun (s : σ) => lX y c s t10 t11) st) gs (.inl s) = some x ∧ Sum.elim id id x = s'
 | [], s, s', h => by simp only [itG, Option.some.injEq] at h; exact ⟨_, rfl, h⟩
 | g :: gs, s, s', h => by
  simp only [itG] at h
  obtain ⟨z, hz, h⟩ := aW h
  have hl : lX y c s g.1 g.2 = some (if z.2 then .inl z.1 else .inr z.1) := by
   unfold lX
   rw [hz]
   obtain ⟨z1, z2⟩ := z
   cases z2 <;> rfl
  cases h2 : z.2
  ·rw [h2] at h hl
   simp only [Bool.false_eq_true, if_false, Option.some.injEq] at h hl
   refine ⟨.inr z.1, ?_, h⟩
   simp [itG, rnd, hl]
  ·rw [h2] at h hl
   simp only [if_true] at h hl
   obtain ⟨x, h3, h4⟩ := MG c gs z.1 s' h
   refine ⟨x, ?_, h4⟩
   simp only [itG, rnd, hl, Option.bind_some, Sum.isLeft_inl, if_true]
   exact h3

theorem PW {σ : Type} {y : σ → List aI → List aB → Option (σ × Bool)} {l : List aE} (hl : okL l) {s s' : σ} (h : itG y (if eS l then groups l else []) s = some s') : nY y l s = some s' := by
 unfold nY
 rw [DH hl]
 cases hm : eS l
 ·rw [hm] at h
  simp only [Bool.false_eq_true, if_false, itG] at h
  simpa using h
 ·rw [hm] at h
  simp only [if_true] at h
  simp only [Option.bind_some, Bool.not_true, cond_false, qL, sE]
  obtain ⟨x, h1, h2⟩ := MG l (groups l) s s' h
  rw [RM hl h1]
  cases x <;> simpa using h2

theorem xS {l : List aE} (hm : eS l = true) {e : aE} (he : e ∈ l) : vI e.Row = true ∧ -2 < e.At ∧ e.At < 1125899906842624 ∧ e.Net ≠ 0 ∧ e.Net ≤ 1048576 ∧ -1048576 ≤ e.Net := by
 obtain ⟨_, h2, _⟩ := jN hm
 have he' : e ∈ flat (groups l) := by rw [FW]; exact he
 obtain ⟨g, hg, h1⟩ := List.mem_flatMap.1 he'
 obtain ⟨j, hj, rfl⟩ := List.mem_map.1 h1
 obtain ⟨a, b⟩ := h2 g hg
 exact ⟨a, (mO.1 b).2.above j hj⟩

theorem qJ {l : List aE} (hm : eS l = true) (r : List aI) : eO (gL l r) = true := by
 rw [← tP (jN hm).2.2]; exact aCT hm r

end Go.Abs
namespace Go.Abs
open Go
theorem aAO {c : Int} : ∀ {l : List Int} {m : Int}, c ≤ l.foldl mn m ↔ c ≤ m ∧ ∀ x ∈ l, c ≤ x
 | [], m => by simp
 | a :: l, m => by
  rw [List.foldl_cons, aAO]
  unfold mn
  constructor
  ·rintro ⟨h1, h2⟩
   have h3 : c ≤ m ∧ c ≤ a := by split at h1 <;> omega
   refine ⟨h3.1, fun x hx => ?_⟩
   rcases List.mem_cons.1 hx with rfl | hx
   ·exact h3.2
   ·exact h2 x hx
  ·rintro ⟨h1, h2⟩
   have := h2 a (by simp)
   exact ⟨by split <;> omega, fun x hx => h2 x (by simp [hx])⟩

theorem TJ {t : Int} : ∀ {f : List aB} {l v : Int}, oD l f → v + val f t = v ∨ v + val f t ∈ parts v f
 | [], l, v, _ => .inl (by simp [val])
 | j :: r, l, v, h => by
  unfold parts
  rw [kN]
  by_cases e : j.At ≤ t
  ·rw [if_pos e]
   right
   rcases TJ (t := t) (v := v + j.Net) h.2 with h1 | h1
   ·rw [show v + (j.Net + val r t) = v + j.Net by omega]; simp
   ·rw [show v + (j.Net + val r t) = v + j.Net + val r t by omega]; exact List.mem_cons_of_mem _ h1
  ·left
   rw [if_neg e, h.2.VO (by omega)]; omega

theorem TU {f : List aB} (hf : eO f = true) : 0 ≤ HC f ↔ ∀ t, 0 ≤ val f t := by
 have hr := (mO.1 hf).2
 unfold HC
 rw [aAO]
 constructor
 ·rintro ⟨_, h2⟩ t
  rcases TJ (t := t) (v := 0) hr with h | h
  ·omega
  ·rw [parts_eq hr] at h
   obtain ⟨j, hj, h⟩ := List.mem_map.1 h
   have := h2 _ (List.mem_map.2 ⟨j, hj, rfl⟩)
   omega
 ·intro h
  refine ⟨h _, fun x hx => ?_⟩
  obtain ⟨j, _, rfl⟩ := List.mem_map.1 hx
  exact h _

theorem xO {l : List aE} : jT l = true ↔ eS l = true ∧ ∀ r t, 0 ≤ val (gL l r) t := by
 constructor
 ·intro h
  unfold jT at h
  rw [Bool.and_eq_true, zK] at h
  obtain ⟨h1, h2, h3, _⟩ := h
  have hm : eS l = true := by
   unfold eS
   rw [Bool.and_eq_true]
   exact ⟨h1, zK.2 ⟨fun g hg => ⟨(h2 g hg).1, by have := (h2 g hg).2; unfold RW at this; rw [Bool.and_eq_true] at this; exact this.1⟩, h3, fun q hq => by cases hq⟩⟩
  refine ⟨hm, fun r => ?_⟩
  rw [← tP h3]
  rcases CX (groups l) r with ⟨e, _⟩ | ⟨g, hg, _, e⟩
  ·rw [e]; intro t; simp [val]
  ·rw [e]
   have := (h2 g hg).2
   unfold RW at this
   rw [Bool.and_eq_true, decide_eq_true_eq] at this
   exact (TU this.1).1 this.2
 ·rintro ⟨hm, h⟩
  obtain ⟨h1, h2, h3⟩ := jN hm
  unfold jT
  rw [Bool.and_eq_true]
  refine ⟨by simpa using h1, zK.2 ⟨fun g hg => ⟨(h2 g hg).1, ?_⟩, h3, fun q hq => by cases hq⟩⟩
  unfold RW
  rw [Bool.and_eq_true, decide_eq_true_eq]
  refine ⟨(h2 g hg).2, (TU (h2 g hg).2).2 ?_⟩
  have : g.2 = gL l g.1 := by rw [← tP h3, BF h3 hg]
  rw [this]; exact h g.1

theorem SP {f : List aB} (hu : Up (-2) f) (h : ∀ t, -2 < t → t < 1125899906842624 → 0 ≤ val f t) : ∀ t, 0 ≤ val f t := by
 intro t
 by_cases h1 : -2 < t
 ·by_cases h2 : t < 1125899906842624
  ·exact h t h1 h2
  ·have := TY (s := 1125899906842623) (t := t) (by omega) (f := f) (fun j hj => by have := (hu.above j hj); omega)
   rw [← this]; exact h _ (by omega) (by omega)
 ·rw [hu.VO (by omega)]; omega

end Go.Abs
namespace Go.Abs
open Go
abbrev gN (d : List Int) (i : Nat) : Int := d.getD i default

def swp (d : List Int) (i j : Nat) : List Int := (d.set i (gN d j)).set j (gN d i)

theorem aC6 {d : List Int} {i k : Nat} {x : Int} (h : i < d.length) : gN (d.set i x) k = if k = i then x else gN d k := by
 simp only [gN, List.getD_eq_getElem?_getD, List.getElem?_set]
 by_cases e : i = k
 ·subst e; simp [h]
 ·rw [if_neg e, if_neg (fun h => e h.symm)]

theorem iM (d : List Int) (i j : Nat) : (swp d i j).length = d.length := by simp [swp]

theorem vD {d : List Int} {i j : Nat} (hi : i < d.length) (hj : j < d.length) (k : Nat) : gN (swp d i j) k = if k = j then gN d i else if k = i then gN d j else gN d k := by
 unfold swp
 rw [aC6 (by simpa using hj), aC6 hi]

theorem aEk {d : List Int} {i j : Nat} (hi : i < d.length) (hj : j < d.length) : (swp d i j).Perm d := by
 have h1 : gN d i = d[i] := by simp [gN, List.getD_eq_getElem?_getD, List.getElem?_eq_getElem hi]
 have h2 : gN d j = d[j] := by simp [gN, List.getD_eq_getElem?_getD, List.getElem?_eq_getElem hj]
 unfold swp
 rw [h1, h2]
 exact List.set_set_perm hi hj

structure Rel (a b : Nat) (d d' : List Int) : Prop where
 len : d'.length = d.length
 perm : d'.Perm d
 out : ∀ k, k < a ∨ b ≤ k → gN d' k = gN d k
 src : ∀ k, a ≤ k → k < b → ∃ k', a ≤ k' ∧ k' < b ∧ gN d' k = gN d k'

theorem Rel.refl (a b : Nat) (d : List Int) : Rel a b d d := ⟨rfl, .refl _, fun _ _ => rfl, fun k h1 h2 => ⟨k, h1, h2, rfl⟩⟩

theorem Rel.trans {a b : Nat} {d d' d'' : List Int} (h : Rel a b d d') (h' : Rel a b d' d'') : Rel a b d d'' :=
 ⟨h'.len.trans h.len, h'.perm.trans h.perm, fun k hk => (h'.out k hk).trans (h.out k hk), fun k h1 h2 => by
  obtain ⟨k1, a1, a2, a3⟩ := h'.src k h1 h2
  obtain ⟨k2, b1, b2, b3⟩ := h.src k1 a1 a2
  exact ⟨k2, b1, b2, a3.trans b3⟩⟩

theorem Rel.mono {a b a' b' : Nat} {d d' : List Int} (h : Rel a b d d') (h1 : a' ≤ a) (h2 : b ≤ b') : Rel a' b' d d' :=
 ⟨h.len, h.perm, fun k hk => h.out k (by omega), fun k k1 k2 => by
  by_cases hk : a ≤ k ∧ k < b
  ·obtain ⟨k', c1, c2, c3⟩ := h.src k hk.1 hk.2
   exact ⟨k', by omega, by omega, c3⟩
  ·exact ⟨k, k1, k2, h.out k (by omega)⟩⟩

theorem Rel.swp {a b : Nat} {d : List Int} {i j : Nat} (hi : i < d.length) (hj : j < d.length) (h1 : a ≤ i ∧ i < b) (h2 : a ≤ j ∧ j < b) : Rel a b d (swp d i j) :=
 ⟨iM .., aEk hi hj, fun k hk => by rw [vD hi hj, if_neg (by omega), if_neg (by omega)], fun k k1 k2 => by
  rw [vD hi hj]
  split
  ·exact ⟨i, h1.1, h1.2, rfl⟩
  ·split
   ·exact ⟨j, h2.1, h2.2, rfl⟩
   ·exact ⟨k, k1, k2, rfl⟩⟩

theorem Rel.all {a b : Nat} {d d' : List Int} (h : Rel a b d d') {p : Int → Prop} (hp : ∀ k, a ≤ k → k < b → p (gN d k)) : ∀ k, a ≤ k → k < b → p (gN d' k) := fun k k1 k2 => by
 obtain ⟨k', c1, c2, c3⟩ := h.src k k1 k2
 rw [c3]; exact hp k' c1 c2

def rK (a b : Nat) (d : List Int) : Prop := ∀ p q, a ≤ p → p ≤ q → q < b → gN d p ≤ gN d q

theorem tY (a b : Int) : dF a b = some (decide (a < b)) := by simp [dF, lO, dN]

theorem wrN {x : Int} {n : Nat} (h : x = (n : Int)) (hn : n ≤ 9000000000000000000) : IntKind.i64.wrap x = (n : Int) := by
 rw [cW (by omega) (by omega), h]

theorem asN {i n : Nat} (h : i < n) : 0 ≤ (i : Int) ∧ (i : Int) < ((n : Nat) : Int) := by omega

theorem VW {a b i : Int} {d : List Int} {lo j : Nat} (ha : a = (lo : Nat)) (h1 : lo ≤ j) (hj : j < d.length) (hl : d.length < 4611686018427387904) :
  fH a b i d (j : Nat) = if lo < j ∧ gN d j < gN d (j - 1) then some (.inl (swp d j (j - 1), ((j - 1 : Nat) : Int))) else some (.inr d) := by
 subst ha
 unfold fH
 by_cases h : lo < j
 ·have e1 : IntKind.i64.wrap ((j : Int) - 1) = ((j - 1 : Nat) : Int) := wrN (by omega) (by omega)
  have d1 : decide (((lo : Nat) : Int) < ((j : Nat) : Int)) = true := by simp; omega
  rw [e1, d1]
  simp only [true_and, Int.toNat_natCast, tY, dN, cond_true, Option.bind_some, Bool.true_and]
  rw [aQ fun _ => asN hj, aQ fun _ => asN (by omega)]
  by_cases h2 : gN d j < gN d (j - 1)
  ·rw [if_pos ⟨h, h2⟩]
   simp only [gN] at h2
   simp only [h2, decide_true, cond_true]
   rw [aQ (asN (by omega)), aQ (asN hj), aQ (asN hj), aQ (asN (by omega))]
   rfl
  ·rw [if_neg (fun hh => h2 hh.2)]
   simp only [gN] at h2
   simp only [h2, decide_false, cond_false]
 ·have d1 : decide (((lo : Nat) : Int) < ((j : Nat) : Int)) = false := by simp; omega
  rw [if_neg (fun hh => h hh.1), d1]
  simp only [Bool.false_eq_true, false_implies, dN, cond_false, Option.bind_some, Bool.false_and]
  rw [aQ trivial, aQ trivial]

structure JL (a j i : Nat) (d : List Int) : Prop where
 oth : ∀ p q, a ≤ p → p ≤ q → q ≤ i → p ≠ j → q ≠ j → gN d p ≤ gN d q
 up : ∀ q, j < q → q ≤ i → gN d j ≤ gN d q

theorem JL.done {a j i : Nat} {d : List Int} (h : JL a j i d) (hj : a ≤ j) (hn : ¬ (a < j ∧ gN d j < gN d (j - 1))) : rK a (i + 1) d := by
 intro p q h1 h2 h3
 by_cases hp : p = j
 ·by_cases hq : q = j
  ·subst hp; subst hq; exact Int.le_refl _
  ·subst hp; exact h.up q (by omega) (by omega)
 ·by_cases hq : q = j
  ·subst hq
   have h4 : ¬ gN d q < gN d (q - 1) := fun hh => hn ⟨by omega, hh⟩
   have := h.oth p (q - 1) h1 (by omega) (by omega) hp (by omega)
   omega
  ·exact h.oth p q h1 h2 (by omega) hp hq

theorem JL.next {a j i : Nat} {d : List Int} (h : JL a j i d) (hj : a < j) (hji : j ≤ i) (hi : i < d.length) (hlt : gN d j < gN d (j - 1)) : JL a (j - 1) i (swp d j (j - 1)) := by
 have g := vD (d := d) (i := j) (j := j - 1) (by omega) (by omega)
 refine ⟨fun p q h1 h2 h3 hp hq => ?_, fun q h1 h2 => ?_⟩
 ·rw [g, g, if_neg hp, if_neg hq]
  by_cases hpj : p = j
  ·rw [if_pos hpj]
   by_cases hqj : q = j
   ·rw [if_pos hqj]; exact Int.le_refl _
   ·rw [if_neg hqj]; exact h.oth (j - 1) q (by omega) (by omega) h3 (by omega) hqj
  ·rw [if_neg hpj]
   by_cases hqj : q = j
   ·rw [if_pos hqj]; exact h.oth p (j - 1) h1 (by omega) (by omega) hpj (by omega)
   ·rw [if_neg hqj]; exact h.oth p q h1 h2 h3 hpj hqj
 ·rw [g, g, if_pos rfl, if_neg (by omega)]
  by_cases hqj : q = j
  ·rw [if_pos hqj]; omega
  ·rw [if_neg hqj]; exact h.up q (by omega) h2

theorem aFF {a b i : Int} {lo hi : Nat} (ha : a = (lo : Nat)) : ∀ (j : Nat) (d : List Int), lo ≤ j → j ≤ hi → hi < d.length → d.length < 4611686018427387904 → JL lo j hi d →
  ∃ d', lp (fun s : List Int × Int => fH a b i s.1 s.2) (d, (j : Int)) = some d' ∧ Rel lo (hi + 1) d d' ∧ rK lo (hi + 1) d' := by
 intro j
 induction j with
 | zero =>
  intro d h1 h2 h3 h4 h5
  have hs := VW (a := a) (b := b) (i := i) ha h1 (by omega) h4 (d := d)
  rw [if_neg (by omega)] at hs
  exact ⟨d, cV hs, Rel.refl .., h5.done h1 (by omega)⟩
 | succ j ih =>
  intro d h1 h2 h3 h4 h5
  have hs := VW (a := a) (b := b) (i := i) ha h1 (by omega) h4 (d := d)
  by_cases h : lo < j + 1 ∧ gN d (j + 1) < gN d (j + 1 - 1)
  ·rw [if_pos h] at hs
   obtain ⟨d', e, r, s⟩ := ih (swp d (j + 1) (j + 1 - 1)) (by omega) (by omega) (by rw [iM]; omega) (by rw [iM]; omega) (h5.next h.1 h2 h3 h.2)
   exact ⟨d', (fO hs).trans e, (Rel.swp (by omega) (by omega) (by omega) (by omega)).trans r, s⟩
  ·rw [if_neg h] at hs
   exact ⟨d, cV hs, Rel.refl .., h5.done h1 h⟩

theorem ZY {a b : Int} {lo hi : Nat} (ha : a = (lo : Nat)) (hb : b = (hi : Nat)) : ∀ (n i : Nat) (d : List Int), hi - i = n → lo < i → hi ≤ d.length → d.length < 4611686018427387904 → rK lo i d → (i ≤ hi ∨ hi ≤ i) →
  ∃ d', lp (fun s : List Int × Int => dS a b s.1 s.2) (d, (i : Int)) = some d' ∧ Rel lo hi d d' ∧ rK lo hi d' := by
 intro n
 induction n with
 | zero =>
  intro i d h1 h2 h3 h4 h5 _
  refine ⟨d, cV ?_, Rel.refl .., fun p q p1 p2 p3 => h5 p q p1 p2 (by omega)⟩
  show dS _ _ _ _ = _
  have : decide (((i : Nat) : Int) < b) = false := by simp; omega
  simp only [dS, this, cond_false]
 | succ n ih =>
  intro i d h1 h2 h3 h4 h5 _
  obtain ⟨d1, e, r, s⟩ := aFF (a := a) (b := b) (i := (i : Int)) (hi := i) ha i d (by omega) (Nat.le_refl _) (by omega) h4 ⟨fun p q p1 p2 p3 p4 p5 => h5 p q p1 p2 (by omega), fun q q1 q2 => by omega⟩
  obtain ⟨d2, e2, r2, s2⟩ := ih (i + 1) d1 (by omega) (by omega) (by rw [r.len]; exact h3) (by rw [r.len]; exact h4) s (by omega)
  refine ⟨d2, ?_, (r.mono (Nat.le_refl _) (by omega)).trans r2, s2⟩
  rw [fO (s' := (d1, ((i + 1 : Nat) : Int))) ?_, e2]
  show dS _ _ _ _ = _
  have : decide (((i : Nat) : Int) < b) = true := by simp; omega
  simp only [dS, this, cond_true, jZ]
  rw [e]
  simp only [Option.bind_some, iC]
  rw [wrN (n := i + 1) (by omega) (by omega)]

theorem MX (lo : Nat) (d : List Int) : rK lo (lo + 1) d := fun p q p1 p2 p3 => by
 have : p = q := by omega
 subst this
 exact Int.le_refl _

theorem aDB {lo hi : Nat} {d : List Int} (h3 : hi ≤ d.length) (h4 : d.length < 4611686018427387904) (h0 : lo ≤ hi) : ∃ d', iK d (lo : Int) (hi : Int) = some d' ∧ Rel lo hi d d' ∧ rK lo hi d' := by
 unfold iK jX
 obtain ⟨d', e, r, s⟩ := ZY (a := (lo : Int)) (b := (hi : Int)) (lo := lo) (hi := hi) rfl rfl (hi - (lo + 1)) (lo + 1) d rfl (by omega) h3 h4 (MX lo d) (by omega)
 rw [wrN (n := lo + 1) (by omega) (by omega), e]
 exact ⟨d', rfl, r, s⟩

theorem aFT {lo hi : Nat} : ∀ (n i j : Nat) (d : List Int), j + 1 - i = n → lo ≤ i → j + 1 ≤ hi ∨ j ≤ i → hi ≤ d.length → d.length < 4611686018427387904 → i < 4611686018427387904 → j < 4611686018427387904 →
  ∃ d', lp (fun s : List Int × Int × Int => dV s.1 s.2.1 s.2.2) (d, (i : Int), (j : Int)) = some d' ∧ Rel lo hi d d' := by
 intro n
 induction n using Nat.strongRecOn with
 | ind n ih =>
  intro i j d h1 h2 h3 h4 h5 h6 h7
  by_cases h : i < j
  ·obtain ⟨d', e, r⟩ := ih (j - 1 + 1 - (i + 1)) (by omega) (i + 1) (j - 1) (swp d i j) rfl (by omega) (by omega) (by rw [iM]; exact h4) (by rw [iM]; exact h5) (by omega) (by omega)
   refine ⟨d', ?_, (Rel.swp (by omega) (by omega) (by omega) (by omega)).trans r⟩
   rw [fO (s' := (swp d i j, ((i + 1 : Nat) : Int), ((j - 1 : Nat) : Int))) ?_, e]
   show dV _ _ _ = _
   have : decide (((i : Nat) : Int) < ((j : Nat) : Int)) = true := by simp; omega
   simp only [dV, this, cond_true, Int.toNat_natCast]
   rw [aQ (asN (by omega)), aQ (asN (by omega)), aQ (asN (by omega)), aQ (asN (by omega)), wrN (n := i + 1) (by omega) (by omega), wrN (n := j - 1) (by omega) (by omega)]
   rfl
  ·refine ⟨d, cV ?_, Rel.refl ..⟩
   show dV _ _ _ = _
   have : decide (((i : Nat) : Int) < ((j : Nat) : Int)) = false := by simp; omega
   simp only [dV, this, cond_false]

theorem aB2 {lo hi : Nat} {d : List Int} (h0 : lo < hi) (h3 : hi ≤ d.length) (h4 : d.length < 4611686018427387904) : ∃ d', iQ d (lo : Int) (hi : Int) = some d' ∧ Rel lo hi d d' := by
 unfold iQ kG
 obtain ⟨d', e, r⟩ := aFT (lo := lo) (hi := hi) (hi - 1 + 1 - lo) lo (hi - 1) d rfl (Nat.le_refl _) (by omega) h3 h4 (by omega) (by omega)
 rw [wrN (n := hi - 1) (by omega) (by omega), e]
 exact ⟨d', rfl, r⟩

end Go.Abs
namespace Go.Abs
open Go
def AO (f hi : Nat) (d : List Int) (r : Nat) : Nat := if 2 * r + 2 < hi ∧ gN d (f + (2 * r + 1)) < gN d (f + (2 * r + 2)) then 2 * r + 2 else 2 * r + 1

theorem RE {f hi r c : Nat} {d : List Int} (hf : f + hi ≤ d.length) (hr : r < hi) (hc : c < hi) (hl : d.length < 2305843009213693951) :
  iD d (hi : Nat) (f : Nat) (r : Nat) (c : Nat) = if gN d (f + r) < gN d (f + c) then some (.inl (swp d (f + r) (f + c), (c : Int))) else some (.inr (.inr d)) := by
 unfold iD
 have e1 : IntKind.i64.wrap ((f : Int) + (r : Int)) = ((f + r : Nat) : Int) := wrN (by omega) (by omega)
 have e2 : IntKind.i64.wrap ((f : Int) + (c : Int)) = ((f + c : Nat) : Int) := wrN (by omega) (by omega)
 rw [e1, e2]
 simp only [Int.toNat_natCast, tY, Option.bind_some]
 rw [aQ (asN (by omega)), aQ (asN (by omega))]
 by_cases h : gN d (f + r) < gN d (f + c)
 ·rw [if_pos h]
  simp only [gN] at h
  simp only [h, decide_true, Bool.not_true, cond_false]
  rw [aQ (asN (by omega)), aQ (asN (by omega)), aQ (asN (by omega)), aQ (asN (by omega))]
  rfl
 ·rw [if_neg h]
  simp only [gN] at h
  simp only [h, decide_false, Bool.not_false, cond_true]

theorem aCZ {f hi r : Nat} {d : List Int} (hf : f + hi ≤ d.length) (hr : r < hi) (hl : d.length < 2305843009213693951) :
  dO (hi : Nat) (f : Nat) d (r : Nat) = if hi ≤ 2 * r + 1 then some (.inr (.inl d)) else if gN d (f + r) < gN d (f + AO f hi d r) then some (.inl (swp d (f + r) (f + AO f hi d r), (AO f hi d r : Int))) else some (.inr (.inr d)) := by
 unfold dO
 have e1 : IntKind.i64.wrap (IntKind.i64.wrap ((2 : Int) * (r : Int)) + 1) = ((2 * r + 1 : Nat) : Int) := by
  rw [wrN (x := (2 : Int) * (r : Int)) (n := 2 * r) (by omega) (by omega)]; exact wrN (by omega) (by omega)
 have e2 : IntKind.i64.wrap (((2 * r + 1 : Nat) : Int) + 1) = ((2 * r + 2 : Nat) : Int) := wrN (by omega) (by omega)
 simp only [e1, e2]
 by_cases h : hi ≤ 2 * r + 1
 ·rw [if_pos h]
  have : decide (((hi : Nat) : Int) ≤ ((2 * r + 1 : Nat) : Int)) = true := by simp; omega
  rw [this, cond_true]
 ·rw [if_neg h]
  have d1 : decide (((hi : Nat) : Int) ≤ ((2 * r + 1 : Nat) : Int)) = false := by simp; omega
  rw [d1, cond_false]
  by_cases h2 : 2 * r + 2 < hi
  ·have d2 : decide (((2 * r + 2 : Nat) : Int) < ((hi : Nat) : Int)) = true := by simp; omega
   have e3 : IntKind.i64.wrap ((f : Int) + ((2 * r + 1 : Nat) : Int)) = ((f + (2 * r + 1) : Nat) : Int) := wrN (by omega) (by omega)
   have e4 : IntKind.i64.wrap (((f + (2 * r + 1) : Nat) : Int) + 1) = ((f + (2 * r + 2) : Nat) : Int) := wrN (by omega) (by omega)
   simp only [d2, e3, e4, Int.toNat_natCast, tY, dN, cond_true, Option.bind_some, Bool.true_and]
   rw [aQ fun _ => asN (by omega), aQ fun _ => asN (by omega)]
   by_cases h3 : gN d (f + (2 * r + 1)) < gN d (f + (2 * r + 2))
   ·have hb : AO f hi d r = 2 * r + 2 := if_pos ⟨h2, h3⟩
    simp only [gN] at h3
    simp only [h3, decide_true, cond_true]
    rw [RE hf hr h2 hl, hb]
   ·have hb : AO f hi d r = 2 * r + 1 := if_neg fun hh => h3 hh.2
    simp only [gN] at h3
    simp only [h3, decide_false, cond_false]
    rw [RE hf hr (by omega) hl, hb]
  ·have d2 : decide (((2 * r + 2 : Nat) : Int) < ((hi : Nat) : Int)) = false := by simp; omega
   have hb : AO f hi d r = 2 * r + 1 := if_neg fun hh => h2 hh.1
   simp only [d2, Bool.false_eq_true, false_implies, dN, cond_false, Option.bind_some, Bool.false_and]
   rw [aQ trivial, aQ trivial, RE hf hr (by omega) hl, hb]

def chd (c p : Nat) : Prop := c = 2 * p + 1 ∨ c = 2 * p + 2

def Hp (f lo hi : Nat) (d : List Int) : Prop := ∀ i c, lo ≤ i → chd c i → c < hi → gN d (f + c) ≤ gN d (f + i)

structure HpX (f lo hi r : Nat) (d : List Int) : Prop where
 oth : ∀ i c, lo ≤ i → i ≠ r → chd c i → c < hi → gN d (f + c) ≤ gN d (f + i)
 up : ∀ p c, lo ≤ p → chd r p → chd c r → c < hi → gN d (f + c) ≤ gN d (f + p)

theorem aCh {f hi r : Nat} {d : List Int} (h : ¬ hi ≤ 2 * r + 1) : chd (AO f hi d r) r ∧ AO f hi d r < hi ∧ ∀ c, chd c r → c < hi → gN d (f + c) ≤ gN d (f + AO f hi d r) := by
 unfold AO
 split
 ·rename_i h1
  refine ⟨.inr rfl, h1.1, fun c hc hlt => ?_⟩
  rcases hc with rfl | rfl
  ·omega
  ·exact Int.le_refl _
 ·rename_i h1
  refine ⟨.inl rfl, by omega, fun c hc hlt => ?_⟩
  rcases hc with rfl | rfl
  ·exact Int.le_refl _
  ·have : ¬ gN d (f + (2 * r + 1)) < gN d (f + (2 * r + 2)) := fun hh => h1 ⟨hlt, hh⟩
   omega

theorem HpX.done {f lo hi r : Nat} {d : List Int} (h : HpX f lo hi r d) (hr : ∀ c, chd c r → c < hi → gN d (f + c) ≤ gN d (f + r)) : Hp f lo hi d := by
 intro i c h1 h2 h3
 by_cases e : i = r
 ·subst e; exact hr c h2 h3
 ·exact h.oth i c h1 e h2 h3

theorem HpX.next {f lo hi r c : Nat} {d : List Int} (h : HpX f lo hi r d) (hf : f + hi ≤ d.length) (hlo : lo ≤ r) (hrh : r < hi) (hc : chd c r) (hch : c < hi) (hbig : ∀ k, chd k r → k < hi → gN d (f + k) ≤ gN d (f + c)) (hlt : gN d (f + r) < gN d (f + c)) : HpX f lo hi c (swp d (f + r) (f + c)) := by
 have g := vD (d := d) (i := f + r) (j := f + c) (by omega) (by omega)
 have hcr : r < c := by unfold chd at hc; omega
 refine ⟨fun i k h1 h2 h3 h4 => ?_, fun p k h1 h2 h3 h4 => ?_⟩
 ·rw [g, g, if_neg (show ¬ f + i = f + c by omega)]
  by_cases hir : i = r
  ·subst hir
   rw [if_pos (show f + i = f + i from rfl)]
   by_cases hkc : k = c
   ·subst hkc; rw [if_pos rfl]; omega
   ·rw [if_neg (by omega), if_neg (by unfold chd at h3; omega)]
    exact hbig k h3 h4
  ·rw [if_neg (show ¬ f + i = f + r by omega)]
   have hkc : k ≠ c := by intro e; subst e; unfold chd at h3 hc; omega
   rw [if_neg (by omega)]
   by_cases hkr : k = r
   ·subst hkr
    rw [if_pos rfl]
    exact h.up i c h1 h3 hc hch
   ·rw [if_neg (by omega)]
    exact h.oth i k h1 hir h3 h4
 ·have hp : p = r := by unfold chd at h2 hc; omega
  subst hp
  have hk : c < k := by unfold chd at h3; omega
  rw [g, g, if_neg (by omega), if_neg (by omega), if_neg (by omega), if_pos rfl]
  exact h.oth c k (by omega) (by omega) h3 h4

theorem aEZ {f lo hi : Nat} : ∀ (n r : Nat) (d : List Int), hi - r = n → f + hi ≤ d.length → lo ≤ r → r < hi → d.length < 2305843009213693951 → HpX f lo hi r d →
  ∃ d', (lp (fun s : List Int × Int => dO (hi : Nat) (f : Nat) s.1 s.2) (d, (r : Int)) = some (.inl d') ∨ lp (fun s : List Int × Int => dO (hi : Nat) (f : Nat) s.1 s.2) (d, (r : Int)) = some (.inr d')) ∧ Rel f (f + hi) d d' ∧ Hp f lo hi d' := by
 intro n
 induction n using Nat.strongRecOn with
 | ind n ih =>
  intro r d h1 h2 h3 h4 h5 h6
  have hs := aCZ h2 h4 h5
  by_cases h : hi ≤ 2 * r + 1
  ·rw [if_pos h] at hs
   exact ⟨d, .inl (cV hs), Rel.refl .., h6.done fun c hc hlt => by unfold chd at hc; omega⟩
  ·rw [if_neg h] at hs
   obtain ⟨b1, b2, b3⟩ := aCh (f := f) (d := d) h
   by_cases hlt : gN d (f + r) < gN d (f + AO f hi d r)
   ·rw [if_pos hlt] at hs
    have hb : r < AO f hi d r := by unfold chd at b1; omega
    obtain ⟨d', e, rl, hp⟩ := ih (hi - AO f hi d r) (by omega) (AO f hi d r) _ rfl (by rw [iM]; exact h2) (by omega) b2 (by rw [iM]; exact h5) (h6.next h2 h3 h4 b1 b2 b3 hlt)
    exact ⟨d', e.imp (fun e => (fO hs).trans e) (fun e => (fO hs).trans e), (Rel.swp (by omega) (by omega) (by omega) (by omega)).trans rl, hp⟩
   ·rw [if_neg hlt] at hs
    exact ⟨d, .inr (cV hs), Rel.refl .., h6.done fun c hc hc2 => by have := b3 c hc hc2; omega⟩

theorem aAH {f lo hi : Nat} {d : List Int} (h2 : f + hi ≤ d.length) (h5 : d.length < 2305843009213693951) (hlo : lo < 2305843009213693951) (h6 : HpX f lo hi lo d) :
  ∃ d', gE d (lo : Nat) (hi : Nat) (f : Nat) = some d' ∧ Rel f (f + hi) d d' ∧ Hp f lo hi d' := by
 unfold gE lT
 by_cases h : lo < hi
 ·obtain ⟨d', e, r, p⟩ := aEZ (hi - lo) lo d rfl h2 (Nat.le_refl _) h h5 h6
  rcases e with e | e <;> rw [e] <;> exact ⟨d', rfl, r, p⟩
 ·refine ⟨d, ?_, Rel.refl .., fun i c h1 hc hlt => by unfold chd at hc; omega⟩
  have hs : dO (hi : Nat) (f : Nat) d (lo : Nat) = some (.inr (.inl d)) := by
   unfold dO
   have e1 : IntKind.i64.wrap (IntKind.i64.wrap ((2 : Int) * (lo : Int)) + 1) = ((2 * lo + 1 : Nat) : Int) := by
    rw [wrN (x := (2 : Int) * (lo : Int)) (n := 2 * lo) (by omega) (by omega)]; exact wrN (by omega) (by omega)
   have : decide (((hi : Nat) : Int) ≤ ((2 * lo + 1 : Nat) : Int)) = true := by simp; omega
   simp only [e1, this, cond_true]
  rw [cV (show (fun s : List Int × Int => dO (hi : Nat) (f : Nat) s.1 s.2) (d, (lo : Int)) = _ from hs)]
  rfl

theorem aDf {f k : Nat} {d : List Int} (h : Hp f 0 k d) : ∀ i, i < k → gN d (f + i) ≤ gN d f := by
 intro i
 induction i using Nat.strongRecOn with
 | ind i ih =>
  intro hi
  by_cases h0 : i = 0
  ·subst h0; exact Int.le_refl _
  ·have h1 := h ((i - 1) / 2) i (Nat.zero_le _) (by unfold chd; omega) hi
   have h2 := ih ((i - 1) / 2) (by omega) (by omega)
   omega

theorem aAw {f hi : Nat} : ∀ (k : Nat) (d : List Int), f + hi ≤ d.length → k < 2305843009213693951 → d.length < 2305843009213693951 → Hp f k hi d →
  ∃ d', lp (fun s : List Int × Int => eH (f : Nat) 0 (hi : Nat) s.1 s.2) (d, (k : Int) - 1) = some d' ∧ Rel f (f + hi) d d' ∧ Hp f 0 hi d'
 | 0, d, _, _, _, h => by
  refine ⟨d, cV ?_, Rel.refl .., h⟩
  show eH _ _ _ _ _ = _
  have : decide ((0 : Int) ≤ ((0 : Nat) : Int) - 1) = false := by simp
  simp only [eH, this, cond_false]
 | k + 1, d, h1, h2, h3, h => by
  obtain ⟨d1, e, r, p⟩ := aAH (f := f) (lo := k) (hi := hi) h1 h3 (by omega) ⟨fun i c a1 a2 a3 a4 => h i c (by omega) a3 a4, fun p c a1 a2 => by unfold chd at a2; omega⟩
  obtain ⟨d2, e2, r2, p2⟩ := aAw (f := f) (hi := hi) k d1 (by rw [r.len]; exact h1) (by omega) (by rw [r.len]; exact h3) p
  refine ⟨d2, ?_, r.trans r2, p2⟩
  rw [fO (s' := (d1, (k : Int) - 1)) ?_, e2]
  show eH _ _ _ _ _ = _
  have g1 : (((k + 1 : Nat) : Int) - 1) = (k : Int) := by omega
  have g2 : decide ((0 : Int) ≤ (k : Int)) = true := by simp
  simp only [eH, g1, g2, cond_true, e, Option.bind_some]
  rw [cW (by omega) (by omega)]

theorem aB7 {f n : Nat} : ∀ (k : Nat) (d : List Int), k ≤ n → f + n ≤ d.length → d.length < 2305843009213693951 → Hp f 0 k d → rK (f + k) (f + n) d → (∀ p q, f ≤ p → p < f + k → f + k ≤ q → q < f + n → gN d p ≤ gN d q) →
  ∃ d', lp (fun s : List Int × Int => eG (f : Nat) 0 s.1 s.2) (d, (k : Int) - 1) = some d' ∧ Rel f (f + n) d d' ∧ rK f (f + n) d'
 | 0, d, _, _, _, _, hs, _ => by
  refine ⟨d, cV ?_, Rel.refl .., hs⟩
  show eG _ _ _ _ = _
  have : decide ((0 : Int) ≤ ((0 : Nat) : Int) - 1) = false := by simp
  simp only [eG, this, cond_false]
 | k + 1, d, h1, h2, h3, h, hs, hb => by
  have g := vD (d := d) (i := f) (j := f + k) (by omega) (by omega)
  have hroot := aDf h
  obtain ⟨d1, e, r, p⟩ := aAH (f := f) (lo := 0) (hi := k) (d := swp d f (f + k)) (by rw [iM]; omega) (by rw [iM]; exact h3) (by omega) ⟨fun i c a1 a2 a3 a4 => by
   rw [g, g, if_neg (by unfold chd at a3; omega), if_neg (by unfold chd at a3; omega), if_neg (by unfold chd at a3; omega), if_neg (by omega)]
   exact h i c (by omega) a3 (by omega), fun p c a1 a2 => by unfold chd at a2; omega⟩
  have rs : Rel f (f + n) d (swp d f (f + k)) := Rel.swp (i := f) (j := f + k) (by omega) (by omega) (by omega) (by omega)
  have top : gN d1 (f + k) = gN d f := by rw [r.out _ (by omega), g, if_pos rfl]
  have tail : ∀ q, f + k < q → gN d1 q = gN d q := fun q hq => by rw [r.out _ (by omega), g, if_neg (by omega), if_neg (by omega)]
  have low : ∀ p, f ≤ p → p < f + k → ∃ p', f ≤ p' ∧ p' < f + (k + 1) ∧ gN d1 p = gN d p' := fun p p1 p2 => by
   obtain ⟨p', a1, a2, a3⟩ := r.src p p1 p2
   rw [g, if_neg (by omega)] at a3
   by_cases hp : p' = f
   ·rw [if_pos hp] at a3; exact ⟨f + k, by omega, by omega, a3⟩
   ·rw [if_neg hp] at a3; exact ⟨p', a1, by omega, a3⟩
  obtain ⟨d2, e2, r2, s2⟩ := aB7 (f := f) (n := n) k d1 (by omega) (by rw [r.len, iM]; exact h2) (by rw [r.len, iM]; exact h3) p (fun p q p1 p2 p3 => by
   by_cases hq : q = f + k
   ·have : p = f + k := by omega
    rw [hq, this]; exact Int.le_refl _
   ·rw [tail q (by omega)]
    by_cases hp : p = f + k
    ·rw [hp, top]; exact hb f q (Nat.le_refl _) (by omega) (by omega) p3
    ·rw [tail p (by omega)]; exact hs p q (by omega) p2 p3) (fun p q p1 p2 p3 p4 => by
   obtain ⟨p', a1, a2, a3⟩ := low p p1 p2
   rw [a3]
   by_cases hq : q = f + k
   ·rw [hq, top]
    have := hroot (p' - f) (by omega)
    rw [show f + (p' - f) = p' by omega] at this
    exact this
   ·rw [tail q (by omega)]; exact hb p' q a1 a2 (by omega) p4)
  refine ⟨d2, ?_, (rs.trans (r.mono (Nat.le_refl _) (by omega))).trans r2, s2⟩
  rw [fO (s' := (d1, (k : Int) - 1)) ?_, e2]
  show eG _ _ _ _ = _
  have g1 : (((k + 1 : Nat) : Int) - 1) = (k : Int) := by omega
  have g2 : decide ((0 : Int) ≤ (k : Int)) = true := by simp
  have g3 : IntKind.i64.wrap ((f : Int) + (k : Int)) = ((f + k : Nat) : Int) := wrN (by omega) (by omega)
  simp only [eG, g1, g2, g3, cond_true, Int.toNat_natCast]
  rw [aQ (asN (by omega)), aQ (asN (by omega)), aQ (asN (by omega)), aQ (asN (by omega))]
  have e' : gE (List.set (List.set d f (List.getD d (f + k) default)) (f + k) (List.getD d f default)) 0 (k : Int) (f : Int) = some d1 := e
  rw [e']
  simp only [Option.bind_some]
  rw [cW (by omega) (by omega)]

theorem aCI {lo hi : Nat} {d : List Int} (h0 : lo < hi) (h1 : hi ≤ d.length) (h3 : d.length < 2305843009213693951) : ∃ d', kE d (lo : Int) (hi : Int) = some d' ∧ Rel lo hi d d' ∧ rK lo hi d' := by
 unfold kE
 rw [aQ (by decide)]
 have e1 : IntKind.i64.wrap ((hi : Int) - (lo : Int)) = ((hi - lo : Nat) : Int) := wrN (by omega) (by omega)
 have e2 : IntKind.i64.wrap (((hi - lo : Nat) : Int) - 1) = ((hi - lo - 1 : Nat) : Int) := wrN (by omega) (by omega)
 have e3 : IntKind.i64.wrap (Int.tdiv ((hi - lo - 1 : Nat) : Int) 2) = (((hi - lo - 1) / 2 + 1 : Nat) : Int) - 1 := by
  have : Int.tdiv ((hi - lo - 1 : Nat) : Int) 2 = (((hi - lo - 1) / 2 : Nat) : Int) := by rw [Int.tdiv_eq_ediv_of_nonneg (by omega)]; omega
  rw [this, wrN (n := (hi - lo - 1) / 2) rfl (by omega)]; omega
 rw [e1, e2, e3]
 unfold lS
 obtain ⟨d1, a1, r1, p1⟩ := aAw (f := lo) (hi := hi - lo) ((hi - lo - 1) / 2 + 1) d (by omega) (by omega) h3 (fun i c b1 b2 b3 => by unfold chd at b2; omega)
 rw [a1]
 simp only [Option.bind_some, jV, lU]
 obtain ⟨d2, a2, r2, s2⟩ := aB7 (f := lo) (n := hi - lo) (hi - lo) d1 (Nat.le_refl _) (by rw [r1.len]; omega) (by rw [r1.len]; exact h3) p1 (fun p q b1 b2 b3 => by omega) (fun p q b1 b2 b3 b4 => by omega)
 have e4 : IntKind.i64.wrap (((hi - lo : Nat) : Int) - 1) = ((hi - lo : Nat) : Int) - 1 := cW (by omega) (by omega)
 rw [e4, a2]
 have : lo + (hi - lo) = hi := by omega
 rw [this] at r1 r2 s2
 exact ⟨d2, rfl, r1.trans r2, s2⟩

end Go.Abs
namespace Go.Abs
open Go
def MY : ByteArray := ⟨#[0, 1, 2, 2, 3, 3, 3, 3, 4, 4, 4, 4, 4, 4, 4, 4, 5, 5, 5, 5, 5, 5, 5, 5, 5, 5, 5, 5, 5, 5, 5, 5, 6, 6, 6, 6, 6, 6, 6, 6, 6, 6, 6, 6, 6, 6, 6, 6, 6, 6, 6, 6, 6, 6, 6, 6, 6, 6, 6, 6, 6, 6, 6, 6, 7, 7, 7, 7, 7, 7, 7, 7, 7, 7, 7, 7, 7, 7, 7, 7, 7, 7, 7, 7, 7, 7, 7, 7, 7, 7, 7, 7, 7, 7, 7, 7, 7, 7, 7, 7, 7, 7, 7, 7, 7, 7, 7, 7, 7, 7, 7, 7, 7, 7, 7, 7, 7, 7, 7, 7, 7, 7, 7, 7, 7, 7, 7, 7, 8, 8, 8, 8, 8, 8, 8, 8, 8, 8, 8, 8, 8, 8, 8, 8, 8, 8, 8, 8, 8, 8, 8, 8, 8, 8, 8, 8, 8, 8, 8, 8, 8, 8, 8, 8, 8, 8, 8, 8, 8, 8, 8, 8, 8, 8, 8, 8, 8, 8, 8, 8, 8, 8, 8, 8, 8, 8, 8, 8, 8, 8, 8, 8, 8, 8, 8, 8, 8, 8, 8, 8, 8, 8, 8, 8, 8, 8, 8, 8, 8, 8, 8, 8, 8, 8, 8, 8, 8, 8, 8, 8, 8, 8, 8, 8, 8, 8, 8, 8, 8, 8, 8, 8, 8, 8, 8, 8, 8, 8, 8, 8, 8, 8, 8, 8, 8, 8, 8, 8, 8, 8, 8, 8, 8, 8, 8, 8]⟩

theorem aCV : ∀ i : Fin 256, i.val ≠ 0 → ∃ k : Fin 8, bt MY (i.val : Int) = (k.val : Int) + 1 ∧ 2 ^ k.val ≤ i.val := by decide +kernel

theorem TS : ByteArray.size MY = 256 := by decide +kernel

theorem aEL {x : Int} (h : 0 ≤ x) (h2 : x ≤ 255) : IntKind.u8.wrap x = x := by
 simp only [IntKind.wrap, IntKind.bits, IntKind.signed]
 simp
 omega

theorem LI {x : Int} (h : 0 ≤ x) (h2 : x ≤ 9223372036854775807) : IntKind.u64.wrap x = x := by
 simp only [IntKind.wrap, IntKind.bits, IntKind.signed]
 simp
 omega

theorem aB0 {x n : Int} (h1 : 1 ≤ x) (h2 : x ≤ 255) (hn : 0 ≤ n ∧ n ≤ 100) : ∃ k : Nat, nD x n = some (n + k + 1) ∧ k ≤ 7 ∧ (2 : Int) ^ k ≤ x := by
 obtain ⟨k, e, hk⟩ := aCV ⟨x.toNat, by omega⟩ (by simp; omega)
 refine ⟨k.val, ?_, by omega, ?_⟩
 ·show (bE (0 ≤ (IntKind.u8.wrap x) ∧ (IntKind.u8.wrap x) < ((ByteArray.size MY : Nat) : Int)) <| some (IntKind.i64.wrap (n + (IntKind.i64.wrap (bt MY (IntKind.u8.wrap x)))))) = _
  rw [aEL (by omega) h2, aQ (by rw [TS]; omega)]
  simp only at e
  rw [Int.toNat_of_nonneg (by omega)] at e
  rw [e, cW (n := (k.val : Int) + 1) (by omega) (by omega), cW (by omega) (by omega)]
  congr 1
  omega
 ·simp only at hk
  have : ((2 ^ k.val : Nat) : Int) ≤ ((x.toNat : Nat) : Int) := by exact_mod_cast hk
  rw [Int.toNat_of_nonneg (by omega)] at this
  simpa using this

theorem NO {x m : Int} (hm : 0 < m) : Int.fdiv x m = x / m := Int.fdiv_eq_ediv_of_nonneg _ (by omega)

theorem aDo {x n : Int} (h1 : 1 ≤ x) (h2 : x ≤ 65535) (hn : 0 ≤ n ∧ n ≤ 90) : ∃ k : Nat, mA x n = some (n + k + 1) ∧ k ≤ 15 ∧ (2 : Int) ^ k ≤ x := by
 unfold mA
 by_cases h : 256 ≤ x
 ·have hd : Int.fdiv x (2 ^ (min (Int.toNat (8 : Int)) 64)) = x / 256 := by rw [show (2 ^ (min (Int.toNat (8 : Int)) 64) : Int) = 256 from by decide]; exact NO (by omega)
  obtain ⟨k, e, h3, h4⟩ := aB0 (x := x / 256) (n := n + 8) (by omega) (by omega) (by omega)
  refine ⟨k + 8, ?_, by omega, ?_⟩
  ·simp only [h, decide_true, cond_true]
   rw [aQ (by decide), hd, cW (n := n + 8) (by omega) (by omega), e]
   congr 1; omega
  ·rw [Int.pow_add]; have : (2 : Int) ^ 8 = 256 := by decide
   rw [this]; omega
 ·obtain ⟨k, e, h3, h4⟩ := aB0 (x := x) (n := n) h1 (by omega) (by omega)
  exact ⟨k, by simp only [h, decide_false, cond_false, e], by omega, h4⟩

theorem aCf {x n : Int} (h1 : 1 ≤ x) (h2 : x ≤ 4294967295) (hn : 0 ≤ n ∧ n ≤ 70) : ∃ k : Nat, lZ x n = some (n + k + 1) ∧ k ≤ 31 ∧ (2 : Int) ^ k ≤ x := by
 unfold lZ
 by_cases h : 65536 ≤ x
 ·have hd : Int.fdiv x (2 ^ (min (Int.toNat (16 : Int)) 64)) = x / 65536 := by rw [show (2 ^ (min (Int.toNat (16 : Int)) 64) : Int) = 65536 from by decide]; exact NO (by omega)
  obtain ⟨k, e, h3, h4⟩ := aDo (x := x / 65536) (n := n + 16) (by omega) (by omega) (by omega)
  refine ⟨k + 16, ?_, by omega, ?_⟩
  ·simp only [h, decide_true, cond_true]
   rw [aQ (by decide), hd, cW (n := n + 16) (by omega) (by omega), e]
   congr 1; omega
  ·rw [Int.pow_add]; have : (2 : Int) ^ 16 = 65536 := by decide
   rw [this]; omega
 ·obtain ⟨k, e, h3, h4⟩ := aDo (x := x) (n := n) h1 (by omega) (by omega)
  exact ⟨k, by simp only [h, decide_false, cond_false, e], by omega, h4⟩

theorem aC0 {x : Int} (h1 : 1 ≤ x) (h2 : x ≤ 9223372036854775807) : ∃ k : Nat, lE x = some ((k : Int) + 1) ∧ k ≤ 63 ∧ (2 : Int) ^ k ≤ x := by
 unfold lE qE
 by_cases h : 4294967296 ≤ x
 ·have hd : Int.fdiv x (2 ^ (min (Int.toNat (32 : Int)) 64)) = x / 4294967296 := by rw [show (2 ^ (min (Int.toNat (32 : Int)) 64) : Int) = 4294967296 from by decide]; exact NO (by omega)
  obtain ⟨k, e, h3, h4⟩ := aCf (x := x / 4294967296) (n := 32) (by omega) (by omega) (by omega)
  refine ⟨k + 32, ?_, by omega, ?_⟩
  ·simp only [h, decide_true, cond_true]
   rw [aQ (by decide), hd, e]
   simp only [Option.bind_some]
   congr 1; omega
  ·rw [Int.pow_add]; have : (2 : Int) ^ 32 = 4294967296 := by decide
   rw [this]; omega
 ·obtain ⟨k, e, h3, h4⟩ := aCf (x := x) (n := 0) h1 (by omega) (by omega)
  refine ⟨k, ?_, by omega, h4⟩
  simp only [h, decide_false, cond_false, e, Option.bind_some]
  congr 1; omega

theorem aCC : bt MY 0 = 0 := by decide +kernel

theorem aDT : lE 0 = some 0 := by
 have h3 : nD 0 0 = some 0 := by
  show (bE (0 ≤ (IntKind.u8.wrap 0) ∧ (IntKind.u8.wrap 0) < ((ByteArray.size MY : Nat) : Int)) <| some (IntKind.i64.wrap (0 + (IntKind.i64.wrap (bt MY (IntKind.u8.wrap 0)))))) = _
  rw [aEL (by omega) (by omega), aQ (by rw [TS]; omega), aCC, cW (n := 0) (by omega) (by omega), cW (by omega) (by omega)]
  rfl
 have h2 : mA 0 0 = some 0 := h3
 have h1 : lZ 0 0 = some 0 := h2
 unfold lE qE
 have : decide ((4294967296 : Int) ≤ 0) = false := by decide
 rw [this, cond_false, h1]
 rfl

theorem aEc {n : Nat} (h1 : 1 ≤ n) (h2 : n < 2305843009213693951) : ∃ m : Int, mH (n : Int) = some m ∧ 1 ≤ m ∧ m ≤ 2 * n := by
 unfold mH
 rw [LI (by omega) (by omega)]
 obtain ⟨k, e, h3, h4⟩ := aC0 (x := (n : Int)) (by omega) (by omega)
 have hk : (2 : Int) ^ (k + 1) = 2 * 2 ^ k := by rw [Int.pow_succ]; omega
 have hp : (1 : Int) ≤ 2 ^ k := by
  have : (0 : Int) < 2 ^ k := Int.pow_pos (by decide)
  omega
 rw [e]
 simp only [Option.bind_some]
 rw [aQ (by omega), show min (Int.toNat ((k : Int) + 1)) 64 = k + 1 by omega, Int.one_mul, hk, LI (by omega) (by omega)]
 exact ⟨_, rfl, by omega, by omega⟩

theorem aF4 (x : Int) {m : Int} (h0 : 0 ≤ m) (hm : m ≤ 9223372036854775807) : 0 ≤ bS .and .u64 x m ∧ bS .and .u64 x m ≤ m := by
 have h1 : (BitVec.ofInt IntKind.u64.bits x &&& BitVec.ofInt IntKind.u64.bits m).toNat ≤ m.toNat := by
  rw [BitVec.toNat_and]
  refine Nat.le_trans Nat.and_le_right ?_
  rw [BitVec.toNat_ofInt]
  have : IntKind.u64.bits = 64 := rfl
  rw [this]
  omega
 have h2 : bS .and .u64 x m = ((BitVec.ofInt IntKind.u64.bits x &&& BitVec.ofInt IntKind.u64.bits m).toNat : Int) := LI (by omega) (by omega)
 rw [h2]
 omega

theorem aBj (r : Int) : ∃ x, mS r = some x := by
 unfold mS
 rw [aQ (by decide), aQ (by decide), aQ (by decide)]
 exact ⟨_, rfl⟩

theorem aC4 {lo i o : Nat} {d : List Int} (l r m : Int) (hi : i < d.length) (ho : lo + o < d.length) (hl : d.length < 2305843009213693951) :
  fI d (lo : Nat) l r m (i : Nat) (o : Nat) = some (.inl (swp d i (lo + o), r, ((i + 1 : Nat) : Int))) := by
 unfold fI
 rw [wrN (x := (lo : Int) + (o : Int)) (n := lo + o) (by omega) (by omega), wrN (n := i + 1) (by omega) (by omega)]
 simp only [Int.toNat_natCast]
 rw [aQ (asN (by omega)), aQ (asN (by omega)), aQ (asN (by omega)), aQ (asN (by omega))]
 rfl

theorem aF7 {lo n : Nat} {m : Int} (hm : 1 ≤ m ∧ m ≤ 2 * n) (h8 : 8 ≤ n) : ∀ (q i : Nat) (r : Int) (d : List Int), lo + n / 4 * 2 + 2 - i = q → lo ≤ i → i ≤ lo + n / 4 * 2 + 2 → lo + n ≤ d.length → d.length < 2305843009213693951 →
  ∃ d', lp (fun s : List Int × Int × Int => dH (lo : Nat) (n : Nat) m s.1 s.2.1 s.2.2) (d, r, (i : Int)) = some d' ∧ Rel lo (lo + n) d d' := by
 have t4 : IntKind.i64.wrap (Int.tdiv (n : Int) 4) = ((n / 4 : Nat) : Int) ∨ 2305843009213693951 ≤ n := by
  by_cases h : n < 2305843009213693951
  ·left
   have : Int.tdiv (n : Int) 4 = ((n / 4 : Nat) : Int) := by rw [Int.tdiv_eq_ediv_of_nonneg (by omega)]; omega
   rw [this]; exact wrN rfl (by omega)
  ·right; omega
 intro q
 induction q with
 | zero =>
  intro i r d h1 h2 h3 h4 h5
  have t4 := t4.resolve_right (by omega)
  refine ⟨d, cV ?_, Rel.refl ..⟩
  show dH _ _ _ _ _ _ = _
  unfold dH
  rw [aQ (by decide), t4, wrN (x := ((n / 4 : Nat) : Int) * 2) (n := n / 4 * 2) (by omega) (by omega), wrN (x := (lo : Int) + ((n / 4 * 2 : Nat) : Int)) (n := lo + n / 4 * 2) (by omega) (by omega), wrN (x := ((lo + n / 4 * 2 : Nat) : Int) + 1) (n := lo + n / 4 * 2 + 1) (by omega) (by omega)]
  have : decide (((i : Nat) : Int) ≤ ((lo + n / 4 * 2 + 1 : Nat) : Int)) = false := by simp; omega
  rw [this, cond_false]
 | succ q ih =>
  intro i r d h1 h2 h3 h4 h5
  have t4 := t4.resolve_right (by omega)
  obtain ⟨x, hx⟩ := aBj r
  obtain ⟨a1, a2⟩ := aF4 x.1 (m := m - 1) (by omega) (by omega)
  have hd : decide (((i : Nat) : Int) ≤ ((lo + n / 4 * 2 + 1 : Nat) : Int)) = true := by simp; omega
  have step : ∃ o, o < n ∧ dH (lo : Nat) (n : Nat) m d r (i : Nat) = some (.inl (swp d i (lo + o), x.2, ((i + 1 : Nat) : Int))) := by
   unfold dH
   rw [aQ (by decide), t4, wrN (x := ((n / 4 : Nat) : Int) * 2) (n := n / 4 * 2) (by omega) (by omega), wrN (x := (lo : Int) + ((n / 4 * 2 : Nat) : Int)) (n := lo + n / 4 * 2) (by omega) (by omega), wrN (x := ((lo + n / 4 * 2 : Nat) : Int) + 1) (n := lo + n / 4 * 2 + 1) (by omega) (by omega), hd, cond_true, hx]
   simp only [Option.bind_some]
   rw [LI (x := m - 1) (by omega) (by omega)]
   have e1 : IntKind.i64.wrap (bS .and .u64 x.1 (m - 1)) = (((bS .and .u64 x.1 (m - 1)).toNat : Nat) : Int) := wrN (by omega) (by omega)
   rw [e1]
   by_cases h : (n : Int) ≤ (((bS .and .u64 x.1 (m - 1)).toNat : Nat) : Int)
   ·refine ⟨(bS .and .u64 x.1 (m - 1)).toNat - n, by omega, ?_⟩
    simp only [h, decide_true, cond_true]
    rw [wrN (x := (((bS .and .u64 x.1 (m - 1)).toNat : Nat) : Int) - (n : Int)) (n := (bS .and .u64 x.1 (m - 1)).toNat - n) (by omega) (by omega)]
    exact aC4 _ _ _ (by omega) (by omega) h5
   ·refine ⟨(bS .and .u64 x.1 (m - 1)).toNat, by omega, ?_⟩
    simp only [h, decide_false, cond_false]
    exact aC4 _ _ _ (by omega) (by omega) h5
  obtain ⟨o, ho, hs⟩ := step
  obtain ⟨d', e, rl⟩ := ih (i + 1) x.2 (swp d i (lo + o)) (by omega) (by omega) (by omega) (by rw [iM]; exact h4) (by rw [iM]; exact h5)
  exact ⟨d', (fO (show (fun s : List Int × Int × Int => dH (lo : Nat) (n : Nat) m s.1 s.2.1 s.2.2) (d, r, (i : Int)) = _ from hs)).trans e, (Rel.swp (i := i) (j := lo + o) (by omega) (by omega) (by omega) (by omega)).trans rl⟩

theorem aB4 {lo hi : Nat} {d : List Int} (h8 : 8 ≤ hi - lo) (h1 : hi ≤ d.length) (h2 : d.length < 2305843009213693951) : ∃ d', iJ d (lo : Int) (hi : Int) = some d' ∧ Rel lo hi d d' := by
 unfold iJ
 have e1 : IntKind.i64.wrap ((hi : Int) - (lo : Int)) = ((hi - lo : Nat) : Int) := wrN (by omega) (by omega)
 have d1 : decide ((8 : Int) ≤ ((hi - lo : Nat) : Int)) = true := by simp; omega
 obtain ⟨m, em, m1, m2⟩ := aEc (n := hi - lo) (by omega) (by omega)
 have t4 : IntKind.i64.wrap (Int.tdiv ((hi - lo : Nat) : Int) 4) = (((hi - lo) / 4 : Nat) : Int) := by
  have : Int.tdiv ((hi - lo : Nat) : Int) 4 = (((hi - lo) / 4 : Nat) : Int) := by rw [Int.tdiv_eq_ediv_of_nonneg (by omega)]; omega
  rw [this]; exact wrN rfl (by omega)
 rw [e1, d1, cond_true, em]
 simp only [Option.bind_some]
 rw [aQ (by decide), t4, wrN (x := (((hi - lo) / 4 : Nat) : Int) * 2) (n := (hi - lo) / 4 * 2) (by omega) (by omega), wrN (x := (lo : Int) + (((hi - lo) / 4 * 2 : Nat) : Int)) (n := lo + (hi - lo) / 4 * 2) (by omega) (by omega), wrN (x := ((lo + (hi - lo) / 4 * 2 : Nat) : Int) - 1) (n := lo + (hi - lo) / 4 * 2 - 1) (by omega) (by omega)]
 unfold jY
 obtain ⟨d', e, r⟩ := aF7 (lo := lo) (n := hi - lo) (m := m) ⟨m1, m2⟩ h8 (lo + (hi - lo) / 4 * 2 + 2 - (lo + (hi - lo) / 4 * 2 - 1)) (lo + (hi - lo) / 4 * 2 - 1) (IntKind.u64.wrap ((hi - lo : Nat) : Int)) d rfl (by omega) (by omega) (by omega) h2
 rw [e]
 have : lo + (hi - lo) = hi := by omega
 rw [this] at r
 exact ⟨d', rfl, r⟩

theorem aD4 {a b : Nat} {d : List Int} (s : Int) (ha : a < d.length) (hb : b < d.length) : ∃ (p q : Nat) (s' : Int), gV d (a : Int) (b : Int) s = some (((p : Int), (q : Int)), s') ∧ ((p = a ∧ q = b) ∨ (p = b ∧ q = a)) := by
 unfold gV
 rw [aQ (asN hb), aQ (asN ha), tY]
 simp only [Option.bind_some]
 cases decide (d.getD (Int.toNat (b : Int)) default < d.getD (Int.toNat (a : Int)) default)
 ·exact ⟨a, b, _, rfl, .inl ⟨rfl, rfl⟩⟩
 ·exact ⟨b, a, _, rfl, .inr ⟨rfl, rfl⟩⟩

theorem med {a b c : Nat} {d : List Int} (s : Int) (ha : a < d.length) (hb : b < d.length) (hc : c < d.length) : ∃ (p : Nat) (s' : Int), jB d (a : Int) (b : Int) (c : Int) s = some ((p : Int), s') ∧ (p = a ∨ p = b ∨ p = c) := by
 unfold jB
 obtain ⟨p1, q1, s1, e1, h1⟩ := aD4 s ha hb
 obtain ⟨p2, q2, s2, e2, h2⟩ := aD4 (a := q1) (b := c) (d := d) s1 (by omega) hc
 obtain ⟨p3, q3, s3, e3, h3⟩ := aD4 (a := p1) (b := p2) (d := d) s2 (by omega) (by omega)
 rw [e1]; simp only [Option.bind_some]
 rw [e2]; simp only [Option.bind_some]
 rw [e3]
 exact ⟨q3, s3, rfl, by omega⟩

theorem aEx {a : Nat} {d : List Int} (s : Int) (h1 : 1 ≤ a) (ha : a + 1 < d.length) (hl : d.length < 2305843009213693951) : ∃ (p : Nat) (s' : Int), eA d (a : Int) s = some ((p : Int), s') ∧ a - 1 ≤ p ∧ p ≤ a + 1 := by
 unfold eA
 rw [wrN (x := (a : Int) - 1) (n := a - 1) (by omega) (by omega), wrN (x := (a : Int) + 1) (n := a + 1) (by omega) (by omega)]
 obtain ⟨p, s', e, h⟩ := med (a := a - 1) (b := a) (c := a + 1) (d := d) s (by omega) (by omega) (by omega)
 rw [e]
 exact ⟨p, s', rfl, by omega, by omega⟩

theorem aEz (d : List Int) (s : Int) (j : Int) : ∃ h, fW d s j = some (j, h) := by
 unfold fW
 cases decide (s = 0) <;> cases decide (s = 12) <;> exact ⟨_, rfl⟩

theorem aBx {lo hi : Nat} {d : List Int} (h8 : 12 < hi - lo) (h1 : hi ≤ d.length) (h2 : d.length < 2305843009213693951) : ∃ (p : Nat) (h : Int), iV d (lo : Int) (hi : Int) = some ((p : Int), h) ∧ lo ≤ p ∧ p < hi := by
 unfold iV
 have e1 : IntKind.i64.wrap ((hi : Int) - (lo : Int)) = ((hi - lo : Nat) : Int) := wrN (by omega) (by omega)
 have t4 : IntKind.i64.wrap (Int.tdiv ((hi - lo : Nat) : Int) 4) = (((hi - lo) / 4 : Nat) : Int) := by
  have : Int.tdiv ((hi - lo : Nat) : Int) 4 = (((hi - lo) / 4 : Nat) : Int) := by rw [Int.tdiv_eq_ediv_of_nonneg (by omega)]; omega
  rw [this]; exact wrN rfl (by omega)
 have d1 : decide ((8 : Int) ≤ ((hi - lo : Nat) : Int)) = true := by simp; omega
 have q1 : IntKind.i64.wrap ((lo : Int) + IntKind.i64.wrap ((((hi - lo) / 4 : Nat) : Int) * 1)) = ((lo + (hi - lo) / 4 : Nat) : Int) := by
  rw [wrN (x := (((hi - lo) / 4 : Nat) : Int) * 1) (n := (hi - lo) / 4) (by omega) (by omega)]; exact wrN (by omega) (by omega)
 have q2 : IntKind.i64.wrap ((lo : Int) + IntKind.i64.wrap ((((hi - lo) / 4 : Nat) : Int) * 2)) = ((lo + (hi - lo) / 4 * 2 : Nat) : Int) := by
  rw [wrN (x := (((hi - lo) / 4 : Nat) : Int) * 2) (n := (hi - lo) / 4 * 2) (by omega) (by omega)]; exact wrN (by omega) (by omega)
 have q3 : IntKind.i64.wrap ((lo : Int) + IntKind.i64.wrap ((((hi - lo) / 4 : Nat) : Int) * 3)) = ((lo + (hi - lo) / 4 * 3 : Nat) : Int) := by
  rw [wrN (x := (((hi - lo) / 4 : Nat) : Int) * 3) (n := (hi - lo) / 4 * 3) (by omega) (by omega)]; exact wrN (by omega) (by omega)
 rw [aQ (by decide), aQ (by decide), aQ (by decide)]
 simp only [e1, t4, d1, q1, q2, q3, cond_true]
 by_cases h50 : (50 : Int) ≤ ((hi - lo : Nat) : Int)
 ·simp only [h50, decide_true, cond_true]
  obtain ⟨p1, s1, f1, g1, g2⟩ := aEx (a := lo + (hi - lo) / 4) (d := d) 0 (by omega) (by omega) h2
  obtain ⟨p2, s2, f2, g3, g4⟩ := aEx (a := lo + (hi - lo) / 4 * 2) (d := d) s1 (by omega) (by omega) h2
  obtain ⟨p3, s3, f3, g5, g6⟩ := aEx (a := lo + (hi - lo) / 4 * 3) (d := d) s2 (by omega) (by omega) h2
  obtain ⟨p4, s4, f4, g7⟩ := med (a := p1) (b := p2) (c := p3) (d := d) s3 (by omega) (by omega) (by omega)
  obtain ⟨h, f5⟩ := aEz d s4 p4
  rw [f1]; simp only [Option.bind_some]
  rw [f2]; simp only [Option.bind_some]
  rw [f3]; simp only [Option.bind_some, gC]
  rw [f4]; simp only [Option.bind_some]
  exact ⟨p4, h, f5, by omega, by omega⟩
 ·simp only [h50, decide_false, cond_false, gC]
  obtain ⟨p4, s4, f4, g7⟩ := med (a := lo + (hi - lo) / 4) (b := lo + (hi - lo) / 4 * 2) (c := lo + (hi - lo) / 4 * 3) (d := d) 0 (by omega) (by omega) (by omega)
  obtain ⟨h, f5⟩ := aEz d s4 p4
  rw [f4]; simp only [Option.bind_some]
  exact ⟨p4, h, f5, by omega, by omega⟩

end Go.Abs
namespace Go.Abs
open Go
theorem QY {body : List Int × Int → Option ((List Int × Int) ⊕ (List Int × Int))} {d : List Int} {p : Nat → Prop} [DecidablePred p] {j : Nat}
  (hs : ∀ i, i ≤ j + 1 → body (d, (i : Int)) = if i ≤ j ∧ p i then some (.inl (d, ((i + 1 : Nat) : Int))) else some (.inr (d, (i : Int)))) :
  ∀ (n i : Nat), j + 1 - i = n → i ≤ j + 1 → ∃ i' : Nat, lp body (d, (i : Int)) = some (d, (i' : Int)) ∧ i ≤ i' ∧ i' ≤ j + 1 ∧ (∀ k, i ≤ k → k < i' → p k) ∧ (i' ≤ j → ¬ p i') := by
 intro n
 induction n with
 | zero =>
  intro i h1 h2
  have := hs i h2
  rw [if_neg (by omega)] at this
  exact ⟨i, cV this, Nat.le_refl _, h2, fun k a b => by omega, fun h => by omega⟩
 | succ n ih =>
  intro i h1 h2
  have h := hs i h2
  by_cases hp : p i
  ·rw [if_pos ⟨by omega, hp⟩] at h
   obtain ⟨i', e, a1, a2, a3, a4⟩ := ih (i + 1) (by omega) (by omega)
   refine ⟨i', (fO h).trans e, by omega, a2, fun k b1 b2 => ?_, a4⟩
   by_cases hk : k = i
   ·rw [hk]; exact hp
   ·exact a3 k (by omega) b2
  ·rw [if_neg fun hh => hp hh.2] at h
   exact ⟨i, cV h, Nat.le_refl _, h2, fun k a b => by omega, fun _ => hp⟩

theorem KR {body : List Int × Int → Option ((List Int × Int) ⊕ (List Int × Int))} {d : List Int} {p : Nat → Prop} [DecidablePred p] {i m : Nat} (hi : 1 ≤ i)
  (hs : ∀ j, j ≤ m → body (d, (j : Int)) = if i ≤ j ∧ p j then some (.inl (d, ((j - 1 : Nat) : Int))) else some (.inr (d, (j : Int)))) :
  ∀ (j : Nat), j ≤ m → i ≤ j + 1 → ∃ j' : Nat, lp body (d, (j : Int)) = some (d, (j' : Int)) ∧ i ≤ j' + 1 ∧ j' ≤ j ∧ (∀ k, j' < k → k ≤ j → p k) ∧ (i ≤ j' → ¬ p j') := by
 intro j
 induction j with
 | zero =>
  intro h1 h2
  have := hs 0 h1
  rw [if_neg (by omega)] at this
  exact ⟨0, cV this, by omega, Nat.le_refl _, fun k a b => by omega, fun h => by omega⟩
 | succ j ih =>
  intro h1 h2
  have h := hs (j + 1) h1
  by_cases hp : i ≤ j + 1 ∧ p (j + 1)
  ·rw [if_pos hp] at h
   obtain ⟨j', e, a1, a2, a3, a4⟩ := ih (by omega) (by omega)
   refine ⟨j', (fO h).trans e, a1, by omega, fun k b1 b2 => ?_, a4⟩
   by_cases hk : k = j + 1
   ·rw [hk]; exact hp.2
   ·exact a3 k b1 (by omega)
  ·rw [if_neg hp] at h
   exact ⟨j + 1, cV h, by omega, Nat.le_refl _, fun k a b => by omega, fun h1 h2 => hp ⟨h1, h2⟩⟩

theorem aAx {α : Type} {i j u v : Nat} {d : List Int} {n : Bool} {x y : Option α} (hu : i ≤ j → u < d.length) (hv : i ≤ j → v < d.length) :
  (bE ((decide ((i : Int) ≤ (j : Int))) = true → 0 ≤ (u : Int) ∧ (u : Int) < ((List.length d : Nat) : Int)) <|
  bE ((decide ((i : Int) ≤ (j : Int))) = true → 0 ≤ (v : Int) ∧ (v : Int) < ((List.length d : Nat) : Int)) <|
  (dN (decide ((i : Int) ≤ (j : Int))) (dF (List.getD d (Int.toNat (u : Int)) default) (List.getD d (Int.toNat (v : Int)) default))).bind fun z =>
  cond ((decide ((i : Int) ≤ (j : Int))) && (Bool.xor n z)) x y) = if i ≤ j ∧ (Bool.xor n (decide (gN d u < gN d v))) = true then x else y := by
 by_cases h : i ≤ j
 ·have hd : decide ((i : Int) ≤ (j : Int)) = true := by simp; omega
  rw [hd]
  rw [aQ fun _ => asN (hu h), aQ fun _ => asN (hv h)]
  simp only [dN, cond_true, tY, Option.bind_some, Bool.true_and, Int.toNat_natCast, h, true_and, gN]
  cases Bool.xor n (decide (d.getD u default < d.getD v default)) <;> simp
 ·have hd : decide ((i : Int) ≤ (j : Int)) = false := by simp; omega
  rw [hd, aQ (fun h => by cases h), aQ (fun h => by cases h)]
  simp [dN, h]

theorem NC {α : Type} {i j u v : Nat} {d : List Int} {x y : Option α} (hu : i ≤ j → u < d.length) (hv : i ≤ j → v < d.length) :
  (bE ((decide ((i : Int) ≤ (j : Int))) = true → 0 ≤ (u : Int) ∧ (u : Int) < ((List.length d : Nat) : Int)) <|
  bE ((decide ((i : Int) ≤ (j : Int))) = true → 0 ≤ (v : Int) ∧ (v : Int) < ((List.length d : Nat) : Int)) <|
  (dN (decide ((i : Int) ≤ (j : Int))) (dF (List.getD d (Int.toNat (u : Int)) default) (List.getD d (Int.toNat (v : Int)) default))).bind fun z =>
  cond ((decide ((i : Int) ≤ (j : Int))) && z) x y) = if i ≤ j ∧ gN d u < gN d v then x else y := by
 have := aAx (n := false) (x := x) (y := y) hu hv
 simp only [Bool.false_xor] at this
 exact this.trans (by simp)

theorem NZ {α : Type} {i j u v : Nat} {d : List Int} {x y : Option α} (hu : i ≤ j → u < d.length) (hv : i ≤ j → v < d.length) :
  (bE ((decide ((i : Int) ≤ (j : Int))) = true → 0 ≤ (u : Int) ∧ (u : Int) < ((List.length d : Nat) : Int)) <|
  bE ((decide ((i : Int) ≤ (j : Int))) = true → 0 ≤ (v : Int) ∧ (v : Int) < ((List.length d : Nat) : Int)) <|
  (dN (decide ((i : Int) ≤ (j : Int))) (dF (List.getD d (Int.toNat (u : Int)) default) (List.getD d (Int.toNat (v : Int)) default))).bind fun z =>
  cond ((decide ((i : Int) ≤ (j : Int))) && (!z)) x y) = if i ≤ j ∧ ¬ gN d u < gN d v then x else y := by
 have := aAx (n := true) (x := x) (y := y) hu hv
 simp only [Bool.true_xor] at this
 exact this.trans (by simp)

theorem aFx {a j : Nat} {d : List Int} (ha : a < d.length) (hj : j < d.length) (hl : d.length < 2305843009213693951) : ∀ i, i ≤ j + 1 → eU (a : Nat) (j : Nat) d (i : Nat) = if i ≤ j ∧ gN d i < gN d a then some (.inl (d, ((i + 1 : Nat) : Int))) else some (.inr (d, (i : Int))) := by
 intro i hi
 unfold eU
 rw [wrN (x := (i : Int) + 1) (n := i + 1) (by omega) (by omega)]
 exact NC (u := i) (v := a) (by omega) (by omega)

theorem aEo {a j : Nat} {d : List Int} (ha : a < d.length) (hj : j < d.length) (hl : d.length < 2305843009213693951) : ∀ i, i ≤ j + 1 → fF (a : Nat) (j : Nat) d (i : Nat) = if i ≤ j ∧ gN d i < gN d a then some (.inl (d, ((i + 1 : Nat) : Int))) else some (.inr (d, (i : Int))) := by
 intro i hi
 unfold fF
 rw [wrN (x := (i : Int) + 1) (n := i + 1) (by omega) (by omega)]
 exact NC (u := i) (v := a) (by omega) (by omega)

theorem aBW {a i m : Nat} {d : List Int} (hi : 1 ≤ i) (ha : a < d.length) (hm : m < d.length) (hl : d.length < 2305843009213693951) : ∀ j, j ≤ m → fD (a : Nat) (i : Nat) d (j : Nat) = if i ≤ j ∧ ¬ gN d j < gN d a then some (.inl (d, ((j - 1 : Nat) : Int))) else some (.inr (d, (j : Int))) := by
 intro j hj
 unfold fD
 refine (NZ (i := i) (j := j) (d := d) (α := (List Int × Int) ⊕ (List Int × Int)) (u := j) (v := a) (x := some (.inl (d, IntKind.i64.wrap ((j : Int) - 1)))) (y := some (.inr (d, (j : Int)))) (by omega) (by omega)).trans ?_
 by_cases h : i ≤ j ∧ ¬ gN d j < gN d a
 ·rw [if_pos h, if_pos h, wrN (x := (j : Int) - 1) (n := j - 1) (by omega) (by omega)]
 ·rw [if_neg h, if_neg h]

theorem aBo {a i m : Nat} {d : List Int} (hi : 1 ≤ i) (ha : a < d.length) (hm : m < d.length) (hl : d.length < 2305843009213693951) : ∀ j, j ≤ m → fA (a : Nat) (i : Nat) d (j : Nat) = if i ≤ j ∧ ¬ gN d j < gN d a then some (.inl (d, ((j - 1 : Nat) : Int))) else some (.inr (d, (j : Int))) := by
 intro j hj
 unfold fA
 refine (NZ (i := i) (j := j) (d := d) (α := (List Int × Int) ⊕ (List Int × Int)) (u := j) (v := a) (x := some (.inl (d, IntKind.i64.wrap ((j : Int) - 1)))) (y := some (.inr (d, (j : Int)))) (by omega) (by omega)).trans ?_
 by_cases h : i ≤ j ∧ ¬ gN d j < gN d a
 ·rw [if_pos h, if_pos h, wrN (x := (j : Int) - 1) (n := j - 1) (by omega) (by omega)]
 ·rw [if_neg h, if_neg h]

theorem aDx {a j : Nat} {d : List Int} (ha : a < d.length) (hj : j < d.length) (hl : d.length < 2305843009213693951) : ∀ i, i ≤ j + 1 → dY (a : Nat) (j : Nat) d (i : Nat) = if i ≤ j ∧ ¬ gN d a < gN d i then some (.inl (d, ((i + 1 : Nat) : Int))) else some (.inr (d, (i : Int))) := by
 intro i hi
 unfold dY
 rw [wrN (x := (i : Int) + 1) (n := i + 1) (by omega) (by omega)]
 exact NZ (u := a) (v := i) (by omega) (by omega)

theorem aBC {a i m : Nat} {d : List Int} (hi : 1 ≤ i) (ha : a < d.length) (hm : m < d.length) (hl : d.length < 2305843009213693951) : ∀ j, j ≤ m → dX (a : Nat) (i : Nat) d (j : Nat) = if i ≤ j ∧ gN d a < gN d j then some (.inl (d, ((j - 1 : Nat) : Int))) else some (.inr (d, (j : Int))) := by
 intro j hj
 unfold dX
 refine (NC (i := i) (j := j) (d := d) (α := (List Int × Int) ⊕ (List Int × Int)) (u := a) (v := j) (x := some (.inl (d, IntKind.i64.wrap ((j : Int) - 1)))) (y := some (.inr (d, (j : Int)))) (by omega) (by omega)).trans ?_
 by_cases h : i ≤ j ∧ gN d a < gN d j
 ·rw [if_pos h, if_pos h, wrN (x := (j : Int) - 1) (n := j - 1) (by omega) (by omega)]
 ·rw [if_neg h, if_neg h]

structure CJ (a b i j : Nat) (d : List Int) : Prop where
 hi : a < i
 hij : i ≤ j + 1
 hj : j < b
 lo : ∀ k, a < k → k < i → gN d k < gN d a
 up : ∀ k, j < k → k < b → gN d a ≤ gN d k

theorem CJ.swap {a b i j : Nat} {d : List Int} (h : CJ a b i j d) (hb : b ≤ d.length) (hij : i < j) (h1 : gN d a ≤ gN d i) (h2 : gN d j < gN d a) : CJ a b (i + 1) (j - 1) (swp d i j) := by
 have := h.hi; have := h.hj
 have g := vD (d := d) (i := i) (j := j) (by omega) (by omega)
 have ga : gN (swp d i j) a = gN d a := by rw [g, if_neg (by omega), if_neg (by omega)]
 refine ⟨by omega, by omega, by omega, fun k k1 k2 => ?_, fun k k1 k2 => ?_⟩
 ·rw [ga, g, if_neg (by omega)]
  by_cases hk : k = i
  ·rw [if_pos hk]; exact h2
  ·rw [if_neg hk]; exact h.lo k k1 (by omega)
 ·rw [ga, g]
  by_cases hk : k = j
  ·rw [if_pos hk]; exact h1
  ·rw [if_neg hk, if_neg (by omega)]; exact h.up k (by omega) k2

theorem QH {a b i j : Nat} {d : List Int} (h : CJ a b i j d) (hb : b ≤ d.length) (hl : d.length < 2305843009213693951) : ∃ i' j' : Nat, CJ a b i' j' d ∧ i ≤ i' ∧ j' ≤ j ∧ (j' < i' → j' + 1 = i') ∧ (i' ≤ j' → i' < j' ∧ gN d a ≤ gN d i' ∧ gN d j' < gN d a) ∧
  dU (a : Nat) d (i : Nat) (j : Nat) = fC d (a : Nat) (i' : Nat) (j' : Nat) ∧ gM d (a : Nat) (i : Nat) (j : Nat) = eZ d (a : Nat) (i' : Nat) (j' : Nat) := by
 have h1 := h.hi; have h2 := h.hij; have h3 := h.hj
 obtain ⟨i', e1, a1, a2, a3, a4⟩ := QY (body := fun s => fF (a : Nat) (j : Nat) s.1 s.2) (d := d) (p := fun k => gN d k < gN d a) (j := j) (aEo (a := a) (j := j) (d := d) (by omega) (by omega) hl) (j + 1 - i) i rfl h2
 obtain ⟨i2, e1', b1, b2, b3, b4⟩ := QY (body := fun s => eU (a : Nat) (j : Nat) s.1 s.2) (d := d) (p := fun k => gN d k < gN d a) (j := j) (aFx (a := a) (j := j) (d := d) (by omega) (by omega) hl) (j + 1 - i) i rfl h2
 have hii : i2 = i' := by
  rcases Nat.lt_trichotomy i2 i' with hh | hh | hh
  ·exact absurd (a3 i2 b1 hh) (b4 (by omega))
  ·exact hh
  ·exact absurd (b3 i' a1 hh) (a4 (by omega))
 subst hii
 obtain ⟨j', f1, c1, c2, c3, c4⟩ := KR (body := fun s => fA (a : Nat) (i2 : Nat) s.1 s.2) (d := d) (p := fun k => ¬ gN d k < gN d a) (i := i2) (m := j) (by omega) (aBo (a := a) (i := i2) (m := j) (d := d) (by omega) (by omega) (by omega) hl) j (Nat.le_refl _) a2
 obtain ⟨j2, f1', g1, g2, g3, g4⟩ := KR (body := fun s => fD (a : Nat) (i2 : Nat) s.1 s.2) (d := d) (p := fun k => ¬ gN d k < gN d a) (i := i2) (m := j) (by omega) (aBW (a := a) (i := i2) (m := j) (d := d) (by omega) (by omega) (by omega) hl) j (Nat.le_refl _) a2
 have hjj : j2 = j' := by
  rcases Nat.lt_trichotomy j2 j' with hh | hh | hh
  ·exact absurd (g3 j' hh c2) (c4 (by omega))
  ·exact hh
  ·exact absurd (c3 j2 hh g2) (g4 (by omega))
 subst hjj
 have hend : i2 ≤ j2 → i2 < j2 ∧ gN d a ≤ gN d i2 ∧ gN d j2 < gN d a := fun hh => by
  have k1 : ¬ gN d i2 < gN d a := a4 (by omega)
  have k2 : gN d j2 < gN d a := Classical.byContradiction fun hn => c4 hh hn
  refine ⟨?_, by omega, k2⟩
  rcases Nat.lt_or_ge i2 j2 with h | h
  ·exact h
  ·have : i2 = j2 := by omega
   rw [this] at k1; exact absurd k2 k1
 refine ⟨i2, j2, ⟨by omega, by omega, by omega, fun k k1 k2 => ?_, fun k k1 k2 => ?_⟩, a1, c2, fun hh => by omega, hend, ?_, ?_⟩
 ·by_cases hk : k < i
  ·exact h.lo k k1 hk
  ·exact a3 k (by omega) k2
 ·by_cases hk : j < k
  ·exact h.up k hk k2
  ·have := c3 k k1 (by omega); omega
 ·unfold dU lM
  rw [show lp (fun s : List Int × Int => fF (a : Nat) (j : Nat) s.1 s.2) (d, (i : Int)) = some (d, (i2 : Int)) from e1]
  simp only [Option.bind_some]
  unfold jC lB
  rw [show lp (fun s : List Int × Int => fA (a : Nat) (i2 : Nat) s.1 s.2) (d, (j : Int)) = some (d, (j2 : Int)) from f1]
  rfl
 ·unfold gM
  rw [show lp (fun s : List Int × Int => eU (a : Nat) (j : Nat) s.1 s.2) (d, (i : Int)) = some (d, (i2 : Int)) from e1']
  simp only [Option.bind_some]
  unfold jF lQ
  rw [show lp (fun s : List Int × Int => fD (a : Nat) (i2 : Nat) s.1 s.2) (d, (j : Int)) = some (d, (j2 : Int)) from f1']
  rfl

theorem CJ.rel {a b i j : Nat} {d : List Int} (h : CJ a b i j d) (hb : b ≤ d.length) (hij : i ≤ j) : Rel (a + 1) b d (swp d i j) := by
 have := h.hi; have := h.hj
 exact Rel.swp (i := i) (j := j) (by omega) (by omega) (by omega) (by omega)

theorem aFr {a b : Nat} : ∀ (n i j : Nat) (d : List Int), j + 1 - i = n → b ≤ d.length → d.length < 2305843009213693951 → CJ a b i j d →
  ∃ (d' : List Int) (j' : Nat), lp (fun s : List Int × Int × Int => dU (a : Nat) s.1 s.2.1 s.2.2) (d, (i : Int), (j : Int)) = some (d', (j' : Int)) ∧ Rel (a + 1) b d d' ∧ CJ a b (j' + 1) j' d' := by
 intro n
 induction n using Nat.strongRecOn with
 | ind n ih =>
  intro i j d h1 h2 h3 h
  obtain ⟨i', j', p1, p2, p3, p4, p5, p6, _⟩ := QH h h2 h3
  have q1 := p1.hi; have q2 := p1.hj; have q3 := p1.hij
  by_cases hlt : j' < i'
  ·have hs : dU (a : Nat) d (i : Nat) (j : Nat) = some (.inr (d, (j' : Int))) := by
    rw [p6]
    unfold fC
    have : decide ((j' : Int) < (i' : Int)) = true := by simp; omega
    rw [this, cond_true]
   have := p4 hlt
   exact ⟨d, j', cV hs, Rel.refl .., by rw [this]; exact p1⟩
  ·obtain ⟨k1, k2, k3⟩ := p5 (by omega)
   have hs : dU (a : Nat) d (i : Nat) (j : Nat) = some (.inl (swp d i' j', ((i' + 1 : Nat) : Int), ((j' - 1 : Nat) : Int))) := by
    rw [p6]
    unfold fC
    have : decide ((j' : Int) < (i' : Int)) = false := by simp; omega
    rw [this, cond_false]
    simp only [Int.toNat_natCast]
    rw [aQ (asN (by omega)), aQ (asN (by omega)), aQ (asN (by omega)), aQ (asN (by omega)), wrN (x := (i' : Int) + 1) (n := i' + 1) (by omega) (by omega), wrN (x := (j' : Int) - 1) (n := j' - 1) (by omega) (by omega)]
    rfl
   obtain ⟨d', j2, e, r, p⟩ := ih (j' - 1 + 1 - (i' + 1)) (by omega) (i' + 1) (j' - 1) (swp d i' j') rfl (by rw [iM]; exact h2) (by rw [iM]; exact h3) (p1.swap h2 k1 k2 k3)
   exact ⟨d', j2, (fO hs).trans e, (p1.rel h2 (by omega)).trans r, p⟩

theorem YQ {a b j : Nat} {d : List Int} (h : CJ a b (j + 1) j d) (hb : b ≤ d.length) : Rel a b d (swp d j a) ∧ (∀ k, a ≤ k → k < j → gN (swp d j a) k ≤ gN (swp d j a) j) ∧ (∀ k, j < k → k < b → gN (swp d j a) j ≤ gN (swp d j a) k) := by
 have h1 := h.hi; have h3 := h.hj
 have g := vD (d := d) (i := j) (j := a) (by omega) (by omega)
 have gj : gN (swp d j a) j = gN d a := by
  rw [g]
  by_cases hh : j = a
  ·rw [if_pos hh, hh]
  ·rw [if_neg hh, if_pos rfl]
 refine ⟨Rel.swp (i := j) (j := a) (by omega) (by omega) (by omega) (by omega), fun k k1 k2 => ?_, fun k k1 k2 => ?_⟩
 ·rw [gj, g]
  by_cases hk : k = a
  ·rw [if_pos hk]
   have := h.lo j (by omega) (by omega); omega
  ·rw [if_neg hk, if_neg (by omega)]
   have := h.lo k (by omega) (by omega); omega
 ·rw [gj, g, if_neg (by omega), if_neg (by omega)]
  exact h.up k k1 k2

theorem YT {lo hi p : Nat} {d : List Int} (h0 : lo < hi) (hb : hi ≤ d.length) (hl : d.length < 2305843009213693951) (hp : lo ≤ p ∧ p < hi) :
  ∃ (m : Nat) (fl : Bool) (d' : List Int), iE d (lo : Int) (hi : Int) (p : Int) = some (((m : Int), fl), d') ∧ lo ≤ m ∧ m < hi ∧ Rel lo hi d d' ∧ (∀ k, lo ≤ k → k < m → gN d' k ≤ gN d' m) ∧ (∀ k, m < k → k < hi → gN d' m ≤ gN d' k) := by
 unfold iE
 rw [aQ (asN (by omega)), aQ (asN (by omega)), aQ (asN (by omega)), aQ (asN (by omega)), wrN (x := (lo : Int) + 1) (n := lo + 1) (by omega) (by omega), wrN (x := (hi : Int) - 1) (n := hi - 1) (by omega) (by omega)]
 simp only [Int.toNat_natCast]
 have r0 : Rel lo hi d (swp d lo p) := Rel.swp (i := lo) (j := p) (by omega) (by omega) (by omega) (by omega)
 have l0 : (swp d lo p).length = d.length := iM ..
 have inv : CJ lo hi (lo + 1) (hi - 1) (swp d lo p) := ⟨by omega, by omega, by omega, fun k k1 k2 => by omega, fun k k1 k2 => by omega⟩
 obtain ⟨i', j', p1, p2, p3, p4, p5, _, p6⟩ := QH inv (by rw [l0]; exact hb) (by rw [l0]; exact hl)
 have e0 : gM (List.set (List.set d lo (List.getD d p default)) p (List.getD d lo default)) (lo : Int) ((lo + 1 : Nat) : Int) ((hi - 1 : Nat) : Int) = eZ (swp d lo p) (lo : Nat) (i' : Nat) (j' : Nat) := p6
 rw [e0]
 have q1 := p1.hi; have q2 := p1.hj; have q3 := p1.hij
 generalize hg : swp d lo p = d1 at *
 unfold eZ
 by_cases hlt : j' < i'
 ·have : decide ((j' : Int) < (i' : Int)) = true := by simp; omega
  rw [this, cond_true]
  simp only [Int.toNat_natCast]
  rw [aQ (asN (by omega)), aQ (asN (by omega)), aQ (asN (by omega)), aQ (asN (by omega))]
  have hp1 : CJ lo hi (j' + 1) j' d1 := by rw [p4 hlt]; exact p1
  obtain ⟨r, a1, a2⟩ := YQ hp1 (by omega)
  exact ⟨j', true, swp d1 j' lo, rfl, by omega, by omega, r0.trans r, a1, a2⟩
 ·obtain ⟨k1, k2, k3⟩ := p5 (by omega)
  have : decide ((j' : Int) < (i' : Int)) = false := by simp; omega
  rw [this, cond_false]
  simp only [Int.toNat_natCast]
  rw [aQ (asN (by omega)), aQ (asN (by omega)), aQ (asN (by omega)), aQ (asN (by omega)), wrN (x := (i' : Int) + 1) (n := i' + 1) (by omega) (by omega), wrN (x := (j' : Int) - 1) (n := j' - 1) (by omega) (by omega)]
  obtain ⟨d2, j2, e, r, pp⟩ := aFr (a := lo) (b := hi) (j' - 1 + 1 - (i' + 1)) (i' + 1) (j' - 1) (swp d1 i' j') rfl (by rw [iM]; omega) (by rw [iM]; omega) (p1.swap (by omega) k1 k2 k3)
  have w1 := pp.hi; have w2 := pp.hj
  have l2 : d2.length = d1.length := by rw [r.len, iM]
  unfold lP
  rw [show lp (fun s : List Int × Int × Int => dU (lo : Int) s.1 s.2.1 s.2.2) ((List.set (List.set d1 i' (List.getD d1 j' default)) j' (List.getD d1 i' default)), ((i' + 1 : Nat) : Int), ((j' - 1 : Nat) : Int)) = some (d2, (j2 : Int)) from e]
  simp only [Option.bind_some, jI, Int.toNat_natCast]
  rw [aQ (asN (by omega)), aQ (asN (by omega)), aQ (asN (by omega)), aQ (asN (by omega))]
  obtain ⟨rr, a1, a2⟩ := YQ pp (by omega)
  exact ⟨j2, false, swp d2 j2 lo, rfl, by omega, by omega, ((r0.trans ((p1.rel (by omega) (by omega)).mono (by omega) (Nat.le_refl _))).trans (r.mono (by omega) (Nat.le_refl _))).trans rr, a1, a2⟩

end Go.Abs
namespace Go.Abs
open Go
structure JS (a b i j : Nat) (d : List Int) : Prop where
 hi : a < i
 hij : i ≤ j + 1
 hj : j < b
 lo : ∀ k, a < k → k < i → gN d k ≤ gN d a
 up : ∀ k, j < k → k < b → gN d a < gN d k

end Go.Abs
