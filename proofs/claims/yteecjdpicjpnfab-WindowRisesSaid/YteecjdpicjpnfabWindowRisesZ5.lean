/- What the law WindowRises stands on: the framework, the given functions as plain functions, their walks, and the plain laws; part 5. -/
import Derived.Test.YteecjdpicjpnfabWindowRisesZ4
set_option linter.unusedSimpArgs false
set_option linter.unusedVariables false
namespace Go.Abs
open Go Go.RowKit Go.Proofs
theorem YP (l0 : (List aG)) (rK : Int) (hop2 : Int) (mF : Int) (jZ : Int) (r : ((List aN) × Int)) (h0 : xI l0 rK hop2 mF jZ = some r) : dF Try.prog 19 [(eL aD l0), (eI rK), (eI hop2), (eI mF), (eI jZ)] (.tup [(eL aR r.1), (eI r.2)]) := by
  intro H0
  refine yM aB Try.func19 (by kernel_rfl) (by kernel_rfl) (by kernel_rfl) ?_
  have hO := aM.start H0
  unfold xI at h0
  refine aO ?_
  refine aS aB 6 ?_
  refine fQ 1 (eI rK) (by kernel_rfl) (by kernel_rfl) ?_
  refine fQ 1 (eI hop2) (by kernel_rfl) (by kernel_rfl) ?_
  refine fQ 1 (eI mF) (by kernel_rfl) (by kernel_rfl) ?_
  refine fQ 1 (eI jZ) (by kernel_rfl) (by kernel_rfl) ?_
  refine oA 1 (.sl true 0 (fun _ => .bad)) (eL aR ([])) (by kernel_rfl) (by kernel_rfl) (by kernel_rfl) (eU) (by kernel_rfl) (by kernel_rfl) hO ?_
  intro lo1 H hO
  refine kK 1 (eI 0) (by kernel_rfl) (by kernel_rfl) hO ?_
  intro lo2 H hO
  refine cX ?_
  refine bB [(0, (eL aD l0)), (6, (.rp (eI rK))), (7, (.rp (eI hop2))), (8, (.rp (eI mF))), (9, (.rp (eI jZ))), (10, (.lp lo1 0 0)), (11, (.lp lo2 0 0))] ?_
  refine aO ?_
  refine bW 0 ?_
  refine aO ?_
  refine aS aB 10 ?_
  refine bE 2 ?_
  obtain ⟨x3, hx4, h0⟩ := aW h0
  refine cW (QJ rK hop2 _ hx4) hO ?_
  intro H hO
  refine bE 6 ?_
  obtain ⟨x6, hx7, h0⟩ := aW h0
  refine mO [(25, false)] 27 [(eL aD l0)] (aE x6) (!(!x3)) (by kernel_rfl) (by kernel_rfl) (by kernel_rfl) (fun hb8 => (wN l0 _ (jP hx7 hb8))) hO ?_
  intro H hO
  refine aZ ?_
  refine bO [] [(20, (aE ((!x3) || (!x6))))] ?_
  refine bJ h0 (fun h0 => ?_) (fun h0 => ?_)
  · refine aO ?_
    refine aS aB 2 ?_
    refine gM 0 lo1 1 0 (eL aR ([])) (.sl true 0 (fun _ => .bad)) [(eL aR ([]))] [(lo1, 1, [(.sl true 0 (fun _ => .bad))]), (lo2, 1, [(eI 0)])] hO rfl (by kernel_rfl) ?_
    intro H hO
    refine gM 1 lo2 1 0 (eI 0) (eI (2 : Int)) [(eI 0)] [(lo1, 1, [(.sl true 0 (fun _ => .bad))]), (lo2, 1, [(eI (2 : Int))])] hO rfl (by kernel_rfl) ?_
    intro H hO
    refine cX ?_
    refine AE 0 lo1 1 (.sl true 0 (fun _ => .bad)) (eL aR ([])) [(lo1, 1, [(eL aR ([]))]), (lo2, 1, [(eI (2 : Int))])] hO (by kernel_rfl) (by kernel_rfl) eU (by kernel_rfl) ?_
    intro H hO
    refine bB [(10, (.lp lo1 0 0)), (11, (.lp lo2 0 0))] ?_
    refine bH ?_
    obtain rfl := oI h0
    exact aF (bD (aU (QM0 (.inr rfl) (rs := [.cell 10 32, .cell 11 26]) (xs := [(eL aR ([])), (eI (2 : Int))]) (x := (.tup [(eL aR ([])), (eI (2 : Int))])) (by kernel_rfl) (lH (lo := lo1) (k := 1) (y := (eL aR ([]))) (x := (eL aR ([]))) 0 hO (by kernel_rfl) (by kernel_rfl) (by kernel_rfl) (by kernel_rfl) (lH (lo := lo2) (k := 1) (y := (eI (2 : Int))) (x := (eI (2 : Int))) 1 hO (by kernel_rfl) (by kernel_rfl) (by kernel_rfl) (by kernel_rfl) mT)) (by kernel_rfl) ⟨rfl, hO.out⟩)))
  refine aO ?_
  refine aS aB 4 ?_
  refine bE 1 ?_
  obtain ⟨x10, hx11, h0⟩ := aW h0
  refine cW (yV l0 _ hx11) hO ?_
  intro H hO
  refine aZ ?_
  refine bO [20] [(30, (aE (!x10)))] ?_
  refine bJ h0 (fun h0 => ?_) (fun h0 => ?_)
  · refine aO ?_
    refine aS aB 2 ?_
    refine gM 0 lo1 1 0 (eL aR ([])) (.sl true 0 (fun _ => .bad)) [(eL aR ([]))] [(lo1, 1, [(.sl true 0 (fun _ => .bad))]), (lo2, 1, [(eI 0)])] hO rfl (by kernel_rfl) ?_
    intro H hO
    refine gM 1 lo2 1 0 (eI 0) (eI (20 : Int)) [(eI 0)] [(lo1, 1, [(.sl true 0 (fun _ => .bad))]), (lo2, 1, [(eI (20 : Int))])] hO rfl (by kernel_rfl) ?_
    intro H hO
    refine cX ?_
    refine AE 0 lo1 1 (.sl true 0 (fun _ => .bad)) (eL aR ([])) [(lo1, 1, [(eL aR ([]))]), (lo2, 1, [(eI (20 : Int))])] hO (by kernel_rfl) (by kernel_rfl) eU (by kernel_rfl) ?_
    intro H hO
    refine bB [(10, (.lp lo1 0 0)), (11, (.lp lo2 0 0))] ?_
    refine bH ?_
    obtain rfl := oI h0
    exact aF (bD (aU (QM0 (.inr rfl) (rs := [.cell 10 32, .cell 11 26]) (xs := [(eL aR ([])), (eI (20 : Int))]) (x := (.tup [(eL aR ([])), (eI (20 : Int))])) (by kernel_rfl) (lH (lo := lo1) (k := 1) (y := (eL aR ([]))) (x := (eL aR ([]))) 0 hO (by kernel_rfl) (by kernel_rfl) (by kernel_rfl) (by kernel_rfl) (lH (lo := lo2) (k := 1) (y := (eI (20 : Int))) (x := (eI (20 : Int))) 1 hO (by kernel_rfl) (by kernel_rfl) (by kernel_rfl) (by kernel_rfl) mT)) (by kernel_rfl) ⟨rfl, hO.out⟩)))
  refine aO ?_
  refine aS aB 9 ?_
  refine bE 1 ?_
  obtain ⟨x14, hx15, h0⟩ := aW h0
  refine cW (GA mF _ hx15) hO ?_
  intro H hO
  refine bE 5 ?_
  obtain ⟨x17, hx18, h0⟩ := aW h0
  refine mO [(38, false)] 30 [(eI jZ)] (aE x17) (!(!x14)) (by kernel_rfl) (by kernel_rfl) (by kernel_rfl) (fun hb19 => (GA jZ _ (jP hx18 hb19))) hO ?_
  intro H hO
  refine aZ ?_
  refine bO [30] [(34, (aE ((!x14) || (!x17))))] ?_
  refine bJ h0 (fun h0 => ?_) (fun h0 => ?_)
  · refine aO ?_
    refine aS aB 2 ?_
    refine gM 0 lo1 1 0 (eL aR ([])) (.sl true 0 (fun _ => .bad)) [(eL aR ([]))] [(lo1, 1, [(.sl true 0 (fun _ => .bad))]), (lo2, 1, [(eI 0)])] hO rfl (by kernel_rfl) ?_
    intro H hO
    refine gM 1 lo2 1 0 (eI 0) (eI (13 : Int)) [(eI 0)] [(lo1, 1, [(.sl true 0 (fun _ => .bad))]), (lo2, 1, [(eI (13 : Int))])] hO rfl (by kernel_rfl) ?_
    intro H hO
    refine cX ?_
    refine AE 0 lo1 1 (.sl true 0 (fun _ => .bad)) (eL aR ([])) [(lo1, 1, [(eL aR ([]))]), (lo2, 1, [(eI (13 : Int))])] hO (by kernel_rfl) (by kernel_rfl) eU (by kernel_rfl) ?_
    intro H hO
    refine bB [(10, (.lp lo1 0 0)), (11, (.lp lo2 0 0))] ?_
    refine bH ?_
    obtain rfl := oI h0
    exact aF (bD (aU (QM0 (.inr rfl) (rs := [.cell 10 32, .cell 11 26]) (xs := [(eL aR ([])), (eI (13 : Int))]) (x := (.tup [(eL aR ([])), (eI (13 : Int))])) (by kernel_rfl) (lH (lo := lo1) (k := 1) (y := (eL aR ([]))) (x := (eL aR ([]))) 0 hO (by kernel_rfl) (by kernel_rfl) (by kernel_rfl) (by kernel_rfl) (lH (lo := lo2) (k := 1) (y := (eI (13 : Int))) (x := (eI (13 : Int))) 1 hO (by kernel_rfl) (by kernel_rfl) (by kernel_rfl) (by kernel_rfl) mT)) (by kernel_rfl) ⟨rfl, hO.out⟩)))
  refine bM ?_
  refine dQ [(0, (eL aD l0)), (6, (.rp (eI rK))), (7, (.rp (eI hop2))), (8, (.rp (eI mF))), (9, (.rp (eI jZ))), (10, (.lp lo1 0 0)), (11, (.lp lo2 0 0))] ?_
  refine aF (aV (aH (?_)))
  unfold CH at h0
  refine aO ?_
  refine aS aB 3 ?_
  refine QK (β := Option Nat) sU (t := 79) hO ?_
  intro lm H hO
  refine kK 1 (.lit (.map none)) (by kernel_rfl) (by kernel_rfl) hO ?_
  intro lo12 H hO
  refine gM 2 lo12 1 0 (.lit (.map none)) (.mp lm) [(.lit (.map none))] [(lo1, 1, [(eL aR ([]))]), (lo2, 1, [(eI 0)]), (lo12, 1, [(.mp lm)])] hO rfl (by kernel_rfl) ?_
  intro H hO
  replace hO : aM ⟨H0, [], pmG shP lm [] [] ++ []⟩ H [(lo1, 1, [(eL aR ([]))]), (lo2, 1, [(eI 0)]), (lo12, 1, [(.mp lm)])] := hO
  refine cX ?_
  refine bB [(0, (eL aD l0)), (6, (.rp (eI rK))), (7, (.rp (eI hop2))), (8, (.rp (eI mF))), (9, (.rp (eI jZ))), (10, (.lp lo1 0 0)), (11, (.lp lo2 0 0)), (12, (.lp lo12 0 0))] ?_
  refine aO ?_
  refine aO ?_
  refine aS aB 2 ?_
  refine bE 1 ?_
  obtain ⟨x1, hx1, h0⟩ := aW h0
  refine cW (GZ l0 _ hx1) hO ?_
  intro H hO
  refine cX ?_
  refine bB [(6, (.rp (eI rK))), (7, (.rp (eI hop2))), (8, (.rp (eI mF))), (9, (.rp (eI jZ))), (10, (.lp lo1 0 0)), (11, (.lp lo2 0 0)), (12, (.lp lo12 0 0)), (45, (.fn (.func 59) [] [(.rp (eL aD x1))]))] ?_
  refine bW 1 ?_
  obtain ⟨o0, hl0, h0⟩ := aW h0
  refine vS (fid := 59) (ys := []) (cs := [(.rp (eL aD x1))]) #[46, 47] (fun (A : rN) (b lL : Nat) (st : (List aN × Int × List (Int × aN)) ⊕ (List aN × Int × List (Int × aN))) (G' : Gs) => Sum.elim (fun (s : List aN × Int × List (Int × aN)) => ∃ los : List (Nat × Nat), los.length = s.2.2.length ∧ G' = (lL, .raw (gL b A .ready none)) :: (up [(lo1, 1, [(eL aR (s.1))]), (lo2, 1, [(eI (s.2.1))]), (lo12, 1, [(.mp lm)])] ++ (pmG shP lm los s.2.2 ++ []))) (fun (s : List aN × Int × List (Int × aN)) => ∃ los : List (Nat × Nat), los.length = s.2.2.length ∧ G' = (lL, .raw (gL b A .done (some .ret))) :: (up [(lo1, 1, [(eL aR (s.1))]), (lo2, 1, [(eI (s.2.1))]), (lo12, 1, [(.mp lm)])] ++ (pmG shP lm los s.2.2 ++ []))) st) (.inl ([], 0, [])) o0 (.tup []) (by kernel_rfl) (by kernel_rfl) (by kernel_rfl) hO (fun _ _ => ⟨[], rfl, rfl⟩) ?_ ?_
  · intro b lL
    clear hO h0
    refine BH _ b (fun st t46 t47 => rnd (fun (q : List aN × Int × List (Int × aN)) => nH rK hop2 mF jZ q.1 q.2.1 q.2.2 t46 t47) st) ?_ x1 _ _ hl0
    intro st t46 t47 out1 rr hr
    obtain ⟨s, rfl, h1, rfl⟩ := FN hr
    clear hr
    intro Hr Gr hi hg
    obtain ⟨t10, t11, m⟩ := s
    dsimp only [Sum.elim_inl] at hi
    obtain ⟨los, hl, rfl⟩ := hi
    replace h1 : nH rK hop2 mF jZ t10 t11 m t46 t47 = some out1 := h1
    unfold nH at h1
    obtain ⟨E1, hE, hO⟩ := oE hg
    refine oG (tM (hO.gm 0 _ rfl).2 (by kernel_rfl) (by kernel_rfl) ?_)
    refine eE [(6, (.rp (eI rK))), (7, (.rp (eI hop2))), (8, (.rp (eI mF))), (9, (.rp (eI jZ))), (10, (.lp lo1 0 0)), (11, (.lp lo2 0 0)), (12, (.lp lo12 0 0)), (46, (eL aJ t46)), (47, (eL aK t47))] ?_
    refine bV aB 1 [(6, (.rp (eI rK))), (7, (.rp (eI hop2))), (8, (.rp (eI mF))), (9, (.rp (eI jZ))), (10, (.lp lo1 0 0)), (11, (.lp lo2 0 0)), (12, (.lp lo12 0 0)), (13, (eL aJ t46)), (47, (eL aK t47))] ?_
    refine aS aB 1 ?_
    refine aZ ?_
    refine dQ [(6, (.rp (eI rK))), (7, (.rp (eI hop2))), (8, (.rp (eI mF))), (9, (.rp (eI jZ))), (10, (.lp lo1 0 0)), (11, (.lp lo2 0 0)), (12, (.lp lo12 0 0)), (13, (eL aJ t46)), (14, (eL aK t47))] ?_
    refine aF (⟨rfl, rfl, (hO.gm 0 _ rfl).2, ?_⟩)
    intro o1 ho1
    replace hO := hO.mZ o1
    refine bW 2 ?_
    refine aO ?_
    refine aS aB 9 ?_
    refine iS 2 lo12 1 0 (.mp lm) (.mp lm) [(.mp lm)] hO rfl ?_
    refine bE 7 ?_
    obtain ⟨x2, hx2, h1⟩ := aW h1
    replace hO : aM ⟨Hr, E1, pmG shP lm los m ++ ((lL, o1) :: [])⟩ _ [(lo1, 1, [(eL aR t10)]), (lo2, 1, [(eI t11)]), (lo12, 1, [(.mp lm)])] := hO.pP List.perm_middle.symm
    refine aFD (pmG shP lm los m) [(lo1, 1, [(eL aR t10)]), (lo2, 1, [(eI t11)]), (lo12, 1, [(.mp lm)])] [0, 1, 2] (VE lm los m hl t46 t47 rK hop2 mF jZ _ hx2) hO ?_
    intro r1 M1 L1 H hP hO
    obtain ⟨los', hl', rfl, rfl, rfl⟩ := hP
    replace hO : aM ⟨Hr, E1, (lL, o1) :: (pmG shP lm los' x2.2 ++ [])⟩ H [(lo1, 1, [(eL aR t10)]), (lo2, 1, [(eI t11)]), (lo12, 1, [(.mp lm)])] := hO.pP List.perm_middle
    refine aZ ?_
    refine bB [(10, (.lp lo1 0 0)), (11, (.lp lo2 0 0)), (12, (.lp lo12 0 0)), (56, (aE (!x2.1)))] ?_
    refine bJ h1 (fun h1 => ?_) (fun h1 => ?_)
    · refine aO ?_
      refine aS aB 2 ?_
      refine gM 0 lo1 1 0 (eL aR t10) (.sl true 0 (fun _ => .bad)) [(eL aR t10)] [(lo1, 1, [(.sl true 0 (fun _ => .bad))]), (lo2, 1, [(eI t11)]), (lo12, 1, [(.mp lm)])] hO rfl (by kernel_rfl) ?_
      intro H hO
      refine gM 1 lo2 1 0 (eI t11) (eI (7 : Int)) [(eI t11)] [(lo1, 1, [(.sl true 0 (fun _ => .bad))]), (lo2, 1, [(eI (7 : Int))]), (lo12, 1, [(.mp lm)])] hO rfl (by kernel_rfl) ?_
      intro H hO
      refine cX ?_
      refine AE 0 lo1 1 (.sl true 0 (fun _ => .bad)) (eL aR []) [(lo1, 1, [(eL aR ([]))]), (lo2, 1, [(eI ((7 : Int)))]), (lo12, 1, [(.mp lm)])] hO (by kernel_rfl) (by kernel_rfl) eU (by kernel_rfl) ?_
      intro H hO
      refine bB [(10, (.lp lo1 0 0)), (11, (.lp lo2 0 0))] ?_
      refine bH ?_
      obtain rfl := oI h1
      exact aF (bD (⟨(cZ hO hE ho1 .dead).1, rfl, _, ⟨los', hl', rfl⟩, (cZ hO hE ho1 _).2⟩))
    · refine bM ?_
      obtain rfl := oI h1
      refine dQ [(10, (.lp lo1 0 0)), (11, (.lp lo2 0 0))] ?_
      exact aF (aV (⟨(cZ hO hE ho1 .dead).1, rfl, _, ⟨los', hl', rfl⟩, (cZ hO hE ho1 _).2⟩))
  · intro b lD lL H' G' hi hO
    rcases o0 with s | s
    · obtain ⟨t10, t11, m⟩ := s
      dsimp only [Sum.elim_inl] at hi
      obtain ⟨los, hl, rfl⟩ := hi
      replace h0 : vW m = some r := h0
      obtain ⟨hlL, hO⟩ := lY hO
      refine ⟨_, _, hlL, (by intro e; cases e), ?_⟩
      refine dQ [(10, (.lp lo1 0 0)), (11, (.lp lo2 0 0)), (12, (.lp lo12 0 0))] ?_
      refine aF (aV (aH (?_)))
      unfold vW at h0
      replace hO : aM ⟨H0, [], up (pmL shP los m) ++ ((lm, pF sU (pmM los m)) :: [(lD, .raw oN)])⟩ _ [(lo1, 1, [(eL aR t10)]), (lo2, 1, [(eI t11)]), (lo12, 1, [(.mp lm)])] := hO.pP (by
        show ((lD, dK.raw oN) :: (((lm, pF sU (pmM los m)) :: up (pmL shP los m)) ++ [])).Perm _
        rw [List.append_nil]
        refine List.Perm.trans ?_ List.perm_middle.symm
        refine (List.Perm.swap _ _ _).trans (List.Perm.cons _ ?_)
        exact (List.perm_append_comm (l₁ := [(lD, dK.raw oN)])))
      refine KX 3 2 2 (fun b p => [(eI p.Span.From), (eI p.Span.To), (.msl 2 b 0 (List.length p.Rows))]) aN.Rows bT aR (fun _ _ _ => rfl) (fun _ _ => rfl) (fun _ _ => rfl) m los hl hO fun H hO => ?_
      replace hO : aM ⟨H0, [], (lm, pF sU (pmM los m)) :: (up (pmL shF los m) ++ [(lD, .raw oN)])⟩ H [(lo1, 1, [(eL aR t10)]), (lo2, 1, [(eI t11)]), (lo12, 1, [(.mp lm)])] := hO.pP List.perm_middle
      refine aO ?_
      refine aS aB 4 ?_
      refine iS 2 lo12 1 0 (.mp lm) (.mp lm) [(.mp lm)] hO rfl ?_
      refine KY (mty := 79) hO ?_
      rw [PG hl]
      obtain ⟨c1, h0⟩ := bA h0
      refine JQ 1 8 (lN m) (by kernel_rfl) (by kernel_rfl) c1 hO ?_
      intro lo15 H hO
      refine aZ ?_
      refine bB [(10, (.lp lo1 0 0)), (11, (.lp lo2 0 0)), (12, (.lp lo12 0 0)), (15, (.msl 1 lo15 0 (List.length ([] : List Int))))] ?_
      refine aO ?_
      refine aO ?_
      refine aS aB 2 ?_
      refine iS 2 lo12 1 0 (.mp lm) (.mp lm) [(.mp lm)] hO rfl ?_
      refine NY (mty := 79) hO ?_
      intro li bs ck H hmb hmn hO
      refine cX ?_
      refine bB [(10, (.lp lo1 0 0)), (11, (.lp lo2 0 0)), (12, (.lp lo12 0 0)), (15, (.msl 1 lo15 0 (List.length ([] : List Int)))), (61, (.lp li 0 0))] ?_
      refine bW 3 ?_
      refine RZ (by kernel_rfl) (fun (s : List Int) (seen : List Nat) T H => ∃ lo15 : Nat, Has T [(10, (.lp lo1 0 0)), (11, (.lp lo2 0 0)), (12, (.lp lo12 0 0)), (15, (.msl 1 lo15 0 (List.length s))), (61, (.lp li 0 0))] ∧ aM ⟨H0, [], (li, IV li lm ck seen) :: (lm, EC sU (pmM los m) bs ck) :: (up (pmL shF los m) ++ [(lD, .raw oN)])⟩ H [(lo1, 1, [(eL aR t10)]), (lo2, 1, [(eI t11)]), (lo12, 1, [(.mp lm)]), (lo15, 1, List.map (eI) s)]) hmb (aEH hl h0) ⟨lo15, .eq (by kernel_rfl), hO⟩ ?_
      clear hO h0 c1
      rintro seen rem s T H ⟨lo15, hT, hO⟩ hleft hall
      refine bF (l := [(10, (.lp lo1 0 0)), (11, (.lp lo2 0 0)), (12, (.lp lo12 0 0)), (15, (.msl 1 lo15 0 (List.length s))), (61, (.lp li 0 0))]) hT ?_
      clear hT
      refine aO ?_
      refine aS aB 2 ?_
      refine QM hmb hmn hleft hall hO (fun h0 => ?_) (fun mk mv bq rest out1 H h1 hlt hleft hall hat hO => ?_)
      · clear hall hleft
        unfold DC at h0
        refine aZ ?_
        refine bB [(10, (.lp lo1 0 0)), (11, (.lp lo2 0 0)), (12, (.lp lo12 0 0)), (15, (.msl 1 lo15 0 (List.length s))), (63, (aE false))] ?_
        refine aO ?_
        refine mJ (false) (fun hc => by cases hc) (fun hc => ?_)
        refine gG 3 ?_
        replace hO := hO.nC
        refine aCB hO fun H hO => ?_
        refine dQ [(10, (.lp lo1 0 0)), (11, (.lp lo2 0 0)), (12, (.lp lo12 0 0)), (15, (.msl 1 lo15 0 (List.length s)))] ?_
        refine aF (aY (aY (bU (aH (?_)))))
        refine aO ?_
        refine aS aB 2 ?_
        refine bE 1 ?_
        obtain ⟨b1, hb1, h0⟩ := aW h0
        refine yC [(lo1, 1, [(eL aR t10)]), (lo2, 1, [(eI t11)]), (lo12, 1, [(.mp lm)]), (lo15, 1, List.map (eI) b1)] 3 (sB lo15 s _ hb1) hO ?_
        intro H hO hlen
        simp only [List.length_map] at hlen
        refine cX ?_
        rw [← hlen]
        refine bB [(10, (.lp lo1 0 0)), (11, (.lp lo2 0 0)), (12, (.lp lo12 0 0)), (15, (.msl 1 lo15 0 (List.length b1)))] ?_
        refine aO ?_
        refine aS aB 4 ?_
        refine bE 2 ?_
        obtain ⟨c2, h0⟩ := bA h0
        refine JQ 3 40 (lN b1) (by kernel_rfl) (by kernel_rfl) c2 hO ?_
        intro lo17 H hO
        refine aZ ?_
        refine bB [(10, (.lp lo1 0 0)), (11, (.lp lo2 0 0)), (12, (.lp lo12 0 0)), (15, (.msl 1 lo15 0 (List.length b1))), (17, (.msl 3 lo17 0 (List.length ([] : List aN))))] ?_
        refine aO ?_
        refine bV aB 3 [(10, (.lp lo1 0 0)), (11, (.lp lo2 0 0)), (12, (.lp lo12 0 0)), (15, (.msl 1 lo15 0 (List.length b1))), (17, (.msl 3 lo17 0 (List.length ([] : List aN)))), (75, (.msl 1 lo15 0 (List.length b1))), (76, (eI (lN b1))), (77, (eI (0 : Int)))] ?_
        obtain ⟨out, hlo, h0⟩ := aW h0
        refine bW 5 ?_
        refine dM (by kernel_rfl) (fun (s : List aN × Int) T H => ∃ (lo17 : Nat) (los : List (Nat × Nat)), los.length = m.length ∧ Has T [(10, (.lp lo1 0 0)), (11, (.lp lo2 0 0)), (12, (.lp lo12 0 0)), (15, (.msl 1 lo15 0 (List.length b1))), (17, (.msl 3 lo17 0 (List.length s.1))), (75, (.msl 1 lo15 0 (List.length b1))), (76, (eI (lN b1))), (77, (eI s.2))] ∧ aM ⟨H0, [], (lm, pF sU (pmM los m)) :: (up (pmL shF los m) ++ [(lD, .raw oN)])⟩ H [(lo1, 1, [(eL aR t10)]), (lo2, 1, [(eI t11)]), (lo12, 1, [(.mp lm)]), (lo15, 1, List.map (eI) b1), (lo17, 3, List.map aR s.1)]) hlo ⟨lo17, los, hl, .eq (by kernel_rfl), hO⟩ ?_
        clear hO c2
        rintro k s out1 T H ⟨lo17, los, hl, hT, hO⟩ h1 ho
        obtain ⟨o17, i77⟩ := s
        replace h1 : sD m b1 (lN b1) o17 i77 = some out1 := h1
        dsimp only at hT
        refine bF hT ?_
        clear hT
        unfold sD at h1
        refine bV aB 1 [(10, (.lp lo1 0 0)), (11, (.lp lo2 0 0)), (12, (.lp lo12 0 0)), (15, (.msl 1 lo15 0 (List.length b1))), (17, (.msl 3 lo17 0 (List.length o17))), (75, (.msl 1 lo15 0 (List.length b1))), (76, (eI (lN b1))), (77, (eI i77)), (78, (aE (decide (i77 < (lN b1)))))] ?_
        refine aO ?_
        refine bJ h1 (fun h1 => ?_) (fun h1 => ?_)
        · refine bM ?_
          refine bB [(10, (.lp lo1 0 0)), (11, (.lp lo2 0 0)), (12, (.lp lo12 0 0)), (15, (.msl 1 lo15 0 (List.length b1))), (17, (.msl 3 lo17 0 (List.length o17))), (75, (.msl 1 lo15 0 (List.length b1))), (76, (eI (lN b1))), (77, (eI i77))] ?_
          refine aO ?_
          refine bW 6 ?_
          refine aO ?_
          obtain ⟨c3, h1⟩ := bA h1
          refine aS aB 3 ?_
          refine rO 1 [0 ≤ i77 ∧ i77 < (lN b1)] ⟨c3, trivial⟩ ?_
          refine iS 3 lo15 1 (0 + Int.toNat i77) (eI (gD b1 i77)) (eI (gD b1 i77)) (List.map (eI) b1) hO (bZ c3) ?_
          refine aZ ?_
          refine bB [(10, (.lp lo1 0 0)), (11, (.lp lo2 0 0)), (12, (.lp lo12 0 0)), (15, (.msl 1 lo15 0 (List.length b1))), (17, (.msl 3 lo17 0 (List.length o17))), (75, (.msl 1 lo15 0 (List.length b1))), (76, (eI (lN b1))), (77, (eI i77)), (19, (eI (gD b1 i77)))] ?_
          cases hg : gH m (gD b1 i77) with
          | none => rw [hg] at h1; cases h1
          | some p =>
            rw [hg] at h1
            obtain ⟨c4, h1⟩ := bA h1
            obtain ⟨a, bb, R, e1, hP, hO⟩ := aM.focus (sh := shF) (los := los) (m := m) (G := [(lD, .raw oN)]) hO hl hg
            replace hO : aM ⟨H0, [], (lm, pF sU (pmM los m)) :: (up R ++ [(lD, .raw oN)])⟩ _ [(a, 3, [(aR p)]), (lo1, 1, [(eL aR t10)]), (lo2, 1, [(eI t11)]), (lo12, 1, [(.mp lm)]), (lo15, 1, List.map (eI) b1), (lo17, 3, List.map aR o17)] := hO
            refine aS aB 9 ?_
            refine bE 1 ?_
            refine iS 3 lo12 1 0 (.mp lm) (.mp lm) [(.mp lm)] hO rfl ?_
            refine bE 3 ?_
            refine XL (f := sU) (mty := 79) (ok := false) aB (gD b1 i77) none hO ?_
            rw [e1]
            refine bE 5 ?_
            refine iS 0 a 3 0 (aR p) (aR p) [(aR p)] hO rfl ?_
            refine nK (xs := [(aR p)]) (k := 3) (by kernel_rfl) (by kernel_rfl) ?_
            refine sV (e := aR) o17 ([p]) 5 lo17 3 40 (eW [(aR p)]) (fun lo18 => [(a, 3, [(aR p)]), (lo1, 1, [(eL aR t10)]), (lo2, 1, [(eI t11)]), (lo12, 1, [(.mp lm)]), (lo15, 1, List.map (eI) b1), (lo18, 3, List.map aR (o17 ++ ([p])))]) (by kernel_rfl) (by kernel_rfl) hO (by kernel_rfl) (by kernel_rfl) c4 (fun _ => by kernel_rfl) ?_
            intro lo18 H hO
            refine aZ ?_
            refine dQ [(10, (.lp lo1 0 0)), (11, (.lp lo2 0 0)), (12, (.lp lo12 0 0)), (15, (.msl 1 lo15 0 (List.length b1))), (17, (.msl 3 lo18 0 (List.length (o17 ++ [p])))), (75, (.msl 1 lo15 0 (List.length b1))), (76, (eI (lN b1))), (77, (eI i77))] ?_
            refine aF (aV (aH (?_)))
            refine aS aB 2 ?_
            refine aZ ?_
            obtain rfl := oI h1
            obtain ⟨los', hl', hO⟩ := aM.ZG (sh := shF) (x := p) (b := bb) (G := [(lD, .raw oN)]) hO hP
            rw [RS hg] at hl' hO
            exact aF (⟨rfl, _, rfl, lo18, los', hl', .eq (by kernel_rfl), hO⟩)
        · refine gG 5 ?_
          obtain rfl := oI h1
          obtain rfl : _ = out := ho
          obtain rfl := oI h0
          refine dQ [(10, (.lp lo1 0 0)), (11, (.lp lo2 0 0)), (12, (.lp lo12 0 0)), (17, (.msl 3 lo17 0 (List.length o17)))] ?_
          refine sX (en := aR) o17 3 4 17 3 lo17 (List.length o17) hO (by kernel_rfl) (by kernel_rfl) (by kernel_rfl) (L' := [(lo1, 1, [(eL aR t10)]), (lo2, 1, [(eI t11)]), (lo12, 1, [(.mp lm)]), (lo15, 1, List.map (eI) b1)]) (by kernel_rfl) ?_
          intro H hO
          refine aF (aY (aY (bU (aH (?_)))))
          refine eE [(10, (.lp lo1 0 0)), (11, (.lp lo2 0 0)), (12, (.lp lo12 0 0)), (17, (eL aR o17))] ?_
          refine aO ?_
          refine aS aB 3 ?_
          refine bE 1 ?_
          refine gM 0 lo1 1 0 (eL aR t10) (eL aR o17) [(eL aR t10)] [(lo1, 1, [(eL aR o17)]), (lo2, 1, [(eI t11)]), (lo12, 1, [(.mp lm)]), (lo15, 1, List.map (eI) b1)] hO rfl (by kernel_rfl) ?_
          intro H hO
          refine gM 1 lo2 1 0 (eI t11) (eI (0 : Int)) [(eI t11)] [(lo1, 1, [(eL aR o17)]), (lo2, 1, [(eI ((0 : Int)))]), (lo12, 1, [(.mp lm)]), (lo15, 1, List.map (eI) b1)] hO rfl (by kernel_rfl) ?_
          intro H hO
          refine cX ?_
          refine bB [(10, (.lp lo1 0 0)), (11, (.lp lo2 0 0))] ?_
          refine bH ?_
          replace hO := hO.pP (G' := (lD, .raw oN) :: ((lm, pF sU (pmM los m)) :: up (pmL shF los m))) (by
            refine (List.Perm.cons _ List.perm_append_comm).trans ?_
            exact List.Perm.swap _ _ _)
          have hD := (hO.gm 0 _ rfl).2
          replace hO := (hO.mZ .dead).nC
          exact aF (QM1 (.inr rfl) hD (rs := [.cell 10 32, .cell 11 26]) (xs := [(eL aR o17), (eI (0 : Int))]) (x := (.tup [(eL aR o17), (eI (0 : Int))])) (by kernel_rfl) (lH (lo := lo1) (k := 1) (y := (eL aR o17)) (x := (eL aR o17)) 0 hO (by kernel_rfl) (by kernel_rfl) (by kernel_rfl) (by kernel_rfl) (lH (lo := lo2) (k := 1) (y := (eI (0 : Int))) (x := (eI (0 : Int))) 1 hO (by kernel_rfl) (by kernel_rfl) (by kernel_rfl) (by kernel_rfl) mT)) (by kernel_rfl) ⟨rfl, hO.aAI.out⟩)
      replace h1 : sN s mk = some out1 := h1
      unfold sN at h1
      refine aZ ?_
      refine bB [(10, (.lp lo1 0 0)), (11, (.lp lo2 0 0)), (12, (.lp lo12 0 0)), (15, (.msl 1 lo15 0 (List.length s))), (61, (.lp li 0 0)), (63, (aE true))] ?_
      refine aO ?_
      refine mJ (true) (fun hc => ?_) (fun hc => by cases hc)
      refine bM ?_
      refine bB [(10, (.lp lo1 0 0)), (11, (.lp lo2 0 0)), (12, (.lp lo12 0 0)), (15, (.msl 1 lo15 0 (List.length s))), (61, (.lp li 0 0))] ?_
      refine bW 4 ?_
      refine aO ?_
      refine aS aB 3 ?_
      refine MH hat hO ?_
      refine aZ ?_
      refine bB [(10, (.lp lo1 0 0)), (11, (.lp lo2 0 0)), (12, (.lp lo12 0 0)), (15, (.msl 1 lo15 0 (List.length s))), (61, (.lp li 0 0)), (16, (eI mk))] ?_
      refine aS aB 5 ?_
      refine bE 2 ?_
      refine nK (xs := [(eI mk)]) (k := 1) (by kernel_rfl) (by kernel_rfl) ?_
      obtain ⟨c5, h1⟩ := bA h1
      refine sV (e := (eI)) s ([mk]) 3 lo15 1 8 (eW [(eI mk)]) (fun lo16 => [(lo1, 1, [(eL aR t10)]), (lo2, 1, [(eI t11)]), (lo12, 1, [(.mp lm)]), (lo16, 1, List.map (eI) (s ++ ([mk])))]) (by kernel_rfl) (by kernel_rfl) hO (by kernel_rfl) (by kernel_rfl) c5 (fun _ => by kernel_rfl) ?_
      intro lo16 H hO
      refine aZ ?_
      obtain rfl := oI h1
      exact aF (aV (⟨rfl, _, _, _, hlt, hleft, hall, lo16, .eq (by kernel_rfl), hO⟩))
    · obtain ⟨t10, t11, m⟩ := s
      dsimp only [Sum.elim_inr] at hi
      obtain ⟨los, hl, rfl⟩ := hi
      obtain rfl := oI h0
      obtain ⟨hlL, hO⟩ := lY hO
      refine ⟨_, _, hlL, (by intro e; cases e), ?_⟩
      refine bH ?_
      refine aF (bD (aU ?_))
      have hD := (hO.gm 0 _ rfl).2
      replace hO := (hO.mZ .dead).nC
      exact QM1 (.inr rfl) hD (rs := [.cell 10 32, .cell 11 26]) (xs := [(eL aR t10), (eI t11)]) (x := (.tup [(eL aR t10), (eI t11)])) (by kernel_rfl) (lH (lo := lo1) (k := 1) (y := (eL aR t10)) (x := (eL aR t10)) 0 hO (by kernel_rfl) (by kernel_rfl) (by kernel_rfl) (by kernel_rfl) (lH (lo := lo2) (k := 1) (y := (eI t11)) (x := (eI t11)) 1 hO (by kernel_rfl) (by kernel_rfl) (by kernel_rfl) (by kernel_rfl) mT)) (by kernel_rfl) ⟨rfl, hO.aAI.out⟩

theorem qB (s0 : (List aI)) (r : (List aI)) (h0 : fS s0 = some r) : DV Try.prog 47 [(eL aJ s0)] (fun lo => (.msl 3 lo 0 (List.length r))) 3 (List.map aJ r) := by
  intro H0
  refine cY Try.func47 ?_
  have hO := aM.start H0
  unfold fS at h0
  refine aX aB 1 [] [] ?_
  refine aO ?_
  refine aO ?_
  refine aS aB 2 ?_
  refine bE 1 ?_
  refine aDW false (List.length s0) (fun i => aJ (List.getD s0 i default)) (by kernel_rfl) (by kernel_rfl) ?_
  intro b1 hn2
  refine cX ?_
  refine bO [] [(4, (aE b1))] ?_
  refine mJ (b1) (fun hc3 => ?_) (fun hc3 => ?_)
  · replace h0 : some ([] : List aI) = some r := by
      have hl := List.eq_nil_of_length_eq_zero (hn2 hc3)
      rw [hl] at h0
      exact (bA h0).2
    refine bV aB 1 [(2, (.sl true 0 (fun _ => .bad)))] ?_
    refine bH ?_
    refine dQ [(2, (.sl true 0 (fun _ => .bad)))] ?_
    refine aB8 (el := (fun _ => .bad)) 0 2 3 hO (by kernel_rfl) ?_
    intro lo4 H5 hO
    obtain rfl := oI h0
    exact aF (aU (jV (x := (.msl 3 lo4 0 (List.length ([] : List aI)))) (by kernel_rfl) (aQ.refl _) ⟨lo4, rfl, hO⟩))
  · refine bM ?_
    refine bB [(0, (eL aJ s0))] ?_
    refine aO ?_
    refine aS aB 4 ?_
    refine nK (xs := []) (k := 3) (by kernel_rfl) (by kernel_rfl) ?_
    refine bE 2 ?_
    obtain ⟨c7, h0⟩ := bA h0
    refine ZT (e := aJ) s0 (fun _ => .bad) 3 32 (eL aJ s0) (fun lo6 => [(lo6, 3, List.map aJ s0)]) (by kernel_rfl) (by kernel_rfl) hO (PM (fun _ => by kernel_rfl)) c7 (fun _ => by kernel_rfl) ?_
    intro lo6 H hO
    refine aZ ?_
    refine bB [(2, (.msl 3 lo6 0 (List.length s0)))] ?_
    refine bH ?_
    obtain rfl := oI h0
    exact aF (jV (x := (.msl 3 lo6 0 (List.length s0))) (by kernel_rfl) (aQ.refl _) ⟨lo6, rfl, hO⟩)

theorem NB (l0 : (List aG)) (run1 : (List Int)) (r : aN) (h0 : rM l0 run1 = some r) : dF Try.prog 43 [(eL aD l0), (eL (eI) run1)] (aR r) := by
  intro H0
  refine yM aB Try.func43 (by kernel_rfl) (by kernel_rfl) (by kernel_rfl) ?_
  have hO := aM.start H0
  unfold rM at h0
  refine aO ?_
  refine aS aB 1 ?_
  refine oA 3 (.agg [(eI 0), (eI 0), (.sl true 0 (fun _ => .bad))]) (aR (aN.mk (bI.mk 0 0) ([]))) (by kernel_rfl) (by kernel_rfl) (by kernel_rfl) (xH (xs := [(eI 0), (eI 0), (.sl true 0 (fun _ => .bad))]) (ys := [(eI 0), (eI 0), (eL bT ([]))]) ⟨aQ.refl _, aQ.refl _, eU, trivial⟩) (by kernel_rfl) (by kernel_rfl) hO ?_
  intro lo1 H hO
  refine cX ?_
  refine bO [] [(4, (.lp lo1 0 0))] ?_
  refine aO ?_
  refine fX (fZ [10, 16, 5]) aB 14 ?_
  obtain ⟨c2, h0⟩ := bA h0
  obtain ⟨c3, h0⟩ := bA h0
  refine cJ 12 [0 ≤ (0 : Int) ∧ (0 : Int) < (lN run1), 0 ≤ (wR ((lN run1) - (1 : Int))) ∧ (wR ((lN run1) - (1 : Int))) < (lN run1)] ⟨c2, c3, trivial⟩ ?_
  refine aDr 3 (.agg [(eI 0), (eI 0), (.sl true 0 (fun _ => .bad))]) (aR (aN.mk (bI.mk 0 0) ([]))) (xH (xs := [(eI 0), (eI 0), (.sl true 0 (fun _ => .bad))]) (ys := [(eI 0), (eI 0), (eL bT ([]))]) ⟨aQ.refl _, aQ.refl _, eU, trivial⟩) hO ?_
  intro lo4 H hO
  refine kS 1 lo4 3 0 (aR (aN.mk (bI.mk 0 0) ([]))) (.agg [(eI ((bI.mk (gD run1 (0 : Int)) (wR ((gD run1 (wR ((lN run1) - (1 : Int)))) + (1 : Int)))).From)), (eI ((bI.mk (gD run1 (0 : Int)) (wR ((gD run1 (wR ((lN run1) - (1 : Int)))) + (1 : Int)))).To)), (.sl true 0 (fun _ => .bad))]) [(aR (aN.mk (bI.mk 0 0) ([])))] [(lo1, 3, [(aR (aN.mk (bI.mk 0 0) ([])))]), (lo4, 3, [(.agg [(eI ((bI.mk (gD run1 (0 : Int)) (wR ((gD run1 (wR ((lN run1) - (1 : Int)))) + (1 : Int)))).From)), (eI ((bI.mk (gD run1 (0 : Int)) (wR ((gD run1 (wR ((lN run1) - (1 : Int)))) + (1 : Int)))).To)), (.sl true 0 (fun _ => .bad))])])] hO rfl (by kernel_rfl) ?_
  intro H hO
  refine nE (by kernel_rfl) ?_
  refine aBI 1 3 lo4 2 2 [(eI ((bI.mk (gD run1 (0 : Int)) (wR ((gD run1 (wR ((lN run1) - (1 : Int)))) + (1 : Int)))).From)), (eI ((bI.mk (gD run1 (0 : Int)) (wR ((gD run1 (wR ((lN run1) - (1 : Int)))) + (1 : Int)))).To)), (.sl true 0 (fun _ => .bad))] (fun _ => .bad) (fun lo5 => [(lo1, 3, [(aR (aN.mk (bI.mk 0 0) ([])))]), (lo4, 3, [(.agg [(eI ((bI.mk (gD run1 (0 : Int)) (wR ((gD run1 (wR ((lN run1) - (1 : Int)))) + (1 : Int)))).From)), (eI ((bI.mk (gD run1 (0 : Int)) (wR ((gD run1 (wR ((lN run1) - (1 : Int)))) + (1 : Int)))).To)), (.msl 2 lo5 0 0)])]), (lo5, 2, List.map bT ([] : List bG))]) hO (by kernel_rfl) (by kernel_rfl) (fun _ => by kernel_rfl) ?_
  intro lo5 H hO
  replace hO : aM ⟨H0, [], []⟩ H [(lo1, 3, [(aR (aN.mk (bI.mk 0 0) ([])))]), (lo4, 3, [(.agg [(eI ((aN.mk (bI.mk (gD run1 (0 : Int)) (wR ((gD run1 (wR ((lN run1) - (1 : Int)))) + (1 : Int)))) ([])).Span.From)), (eI ((aN.mk (bI.mk (gD run1 (0 : Int)) (wR ((gD run1 (wR ((lN run1) - (1 : Int)))) + (1 : Int)))) ([])).Span.To)), (.msl 2 lo5 0 (List.length ([] : List bG)))])]), (lo5, 2, List.map bT ([] : List bG))] := hO
  refine bB [(0, (eL aD l0)), (4, (.lp lo1 0 0)), (5, (.lp lo4 0 0))] ?_
  refine aO ?_
  refine aO ?_
  refine aS aB 2 ?_
  refine bE 1 ?_
  obtain ⟨x6, hx7, h0⟩ := aW h0
  refine cW (EU l0 _ hx7) hO ?_
  intro H hO
  refine cX ?_
  refine bO [0] [(21, (.fn (.func 70) [] [(.rp (eL aD x6))]))] ?_
  refine bW 0 ?_
  refine eE [(4, (.lp lo1 0 0)), (5, (.lp lo4 0 0)), (21, (.fn (.func 70) [] [(.rp (eL aD x6))]))] ?_
  refine eH (fun T H => ∃ t4 : aN, ∃ p5 : aN, ∃ wL : (List aG), ∃ lo8 : Nat, Has T [(4, (.lp lo1 0 0)), (5, (.lp lo4 0 0)), (21, (.fn (.func 70) [] [(.rp (eL aD wL))]))] ∧ aM ⟨H0, [], []⟩ H [(lo1, 3, [(aR t4)]), (lo4, 3, [(.agg [(eI p5.Span.From), (eI p5.Span.To), (.msl 2 lo8 0 (List.length p5.Rows))])]), (lo8, 2, List.map bT p5.Rows)] ∧ tP t4 p5 wL = some r) ?_ ⟨(aN.mk (bI.mk 0 0) ([])), aN.mk (bI.mk (gD run1 (0 : Int)) (wR ((gD run1 (wR ((lN run1) - (1 : Int)))) + (1 : Int)))) ([]), x6, lo5, .eq (by kernel_rfl), hO, h0⟩
  clear hO h0
  rintro T H ⟨t4, p5, wL, lo8, hT, hO, h0⟩
  refine bF (l := [(4, (.lp lo1 0 0)), (5, (.lp lo4 0 0)), (21, (.fn (.func 70) [] [(.rp (eL aD wL))]))]) hT ?_
  clear hT
  unfold tP at h0
  obtain ⟨o0, hl0, h0⟩ := aW h0
  refine vS (fid := 70) (ys := []) (cs := [(.rp (eL aD wL))]) #[22] (fun (A : rN) (b lL : Nat) (st : (aN × aN) ⊕ (aN × aN)) (G' : Gs) => Sum.elim (fun (s : aN × aN) => ∃ lo8 : Nat, G' = (lL, .raw (gL b A .ready none)) :: (up [(lo1, 3, [(aR s.1)]), (lo4, 3, [(.agg [(eI s.2.Span.From), (eI s.2.Span.To), (.msl 2 lo8 0 (List.length s.2.Rows))])]), (lo8, 2, List.map bT s.2.Rows)] ++ [])) (fun (s : aN × aN) => False) st) (.inl (t4, p5)) o0 (.tup []) (by kernel_rfl) (by kernel_rfl) (by kernel_rfl) hO (fun _ _ => ⟨lo8, rfl⟩) ?_ ?_
  · intro b lL
    clear hO h0
    refine AS _ b (fun st t22 => rnd (fun (s : aN × aN) => oB wL s.1 s.2 t22) st) ?_ wL _ _ hl0
    intro st t22 out1 rr hr
    obtain ⟨s, rfl, h1, rfl⟩ := FN hr
    clear hr
    intro Hr Gr hi hg
    obtain ⟨t4, p5⟩ := s
    dsimp only [Sum.elim_inl] at hi
    obtain ⟨lo8, rfl⟩ := hi
    replace h1 : oB wL t4 p5 t22 = some out1 := h1
    unfold oB at h1
    obtain ⟨E1, hE, hO⟩ := oE hg
    refine oG (tM (hO.gm 0 _ rfl).2 (by kernel_rfl) (by kernel_rfl) ?_)
    refine eE [(4, (.lp lo1 0 0)), (5, (.lp lo4 0 0)), (21, (.fn (.func 70) [] [(.rp (eL aD wL))])), (22, (aD t22))] ?_
    refine aS aB 2 ?_
    refine oA 3 (.agg [(.sl true 0 (fun _ => .bad)), (eI 0), (eI 0)]) (aD (aG.mk ([]) 0 0)) (by kernel_rfl) (by kernel_rfl) (by kernel_rfl) (xH (xs := [(.sl true 0 (fun _ => .bad)), (eI 0), (eI 0)]) (ys := [(eL aJ ([])), (eI 0), (eI 0)]) ⟨eU, aQ.refl _, aQ.refl _, trivial⟩) (by kernel_rfl) (by kernel_rfl) hO ?_
    intro lo9 H hO
    refine gM 3 lo9 3 0 (aD (aG.mk ([]) 0 0)) (aD t22) [(aD (aG.mk ([]) 0 0))] [(lo1, 3, [(aR t4)]), (lo4, 3, [(.agg [(eI p5.Span.From), (eI p5.Span.To), (.msl 2 lo8 0 (List.length p5.Rows))])]), (lo8, 2, List.map bT p5.Rows), (lo9, 3, [(aD t22)])] hO rfl (by kernel_rfl) ?_
    intro H hO
    refine cX ?_
    refine dQ [(4, (.lp lo1 0 0)), (5, (.lp lo4 0 0)), (6, (.lp lo9 0 0))] ?_
    refine aF (⟨rfl, rfl, (hO.gm 0 _ rfl).2, ?_⟩)
    intro o1 ho1
    replace hO := hO.mZ o1
    refine bW 1 ?_
    refine aO ?_
    refine aO ?_
    refine aS aB 14 ?_
    refine bE 1 ?_
    refine iS 3 lo9 3 0 (aD t22) (eI t22.At) [(aD t22)] hO rfl ?_
    refine bE 4 ?_
    refine iS 1 lo4 3 0 (.agg [(eI p5.Span.From), (eI p5.Span.To), (.msl 2 lo8 0 (List.length p5.Rows))]) (eI p5.Span.From) [(.agg [(eI p5.Span.From), (eI p5.Span.To), (.msl 2 lo8 0 (List.length p5.Rows))])] hO rfl ?_
    refine bE 8 ?_
    refine qZ [(29, false)] 3 lo9 3 0 (aD t22) (eI t22.At) [(aD t22)] (by kernel_rfl) (by kernel_rfl) hO (by kernel_rfl) (!(decide (t22.At < p5.Span.From))) (by kernel_rfl) (fun hb10 => rfl) ?_
    refine bE 11 ?_
    refine qZ [(29, false)] 1 lo4 3 0 (.agg [(eI p5.Span.From), (eI p5.Span.To), (.msl 2 lo8 0 (List.length p5.Rows))]) (eI p5.Span.To) [(.agg [(eI p5.Span.From), (eI p5.Span.To), (.msl 2 lo8 0 (List.length p5.Rows))])] (by kernel_rfl) (by kernel_rfl) hO (by kernel_rfl) (!(decide (t22.At < p5.Span.From))) (by kernel_rfl) (fun _ => rfl) ?_
    refine aZ ?_
    refine bO [] [(36, (aE ((decide (t22.At < p5.Span.From)) || (decide (p5.Span.To ≤ t22.At)))))] ?_
    refine bJ h1 (fun h1 => ?_) (fun h1 => ?_)
    · refine gG 1 ?_
      refine dQ [(4, (.lp lo1 0 0)), (5, (.lp lo4 0 0))] ?_
      replace hO := hO.pick (L' := [(lo1, 3, [(aR t4)]), (lo4, 3, [(.agg [(eI p5.Span.From), (eI p5.Span.To), (.msl 2 lo8 0 (List.length p5.Rows))])]), (lo8, 2, List.map bT p5.Rows)]) [0, 1, 2] (by decide) (by kernel_rfl)
      obtain rfl := oI h1
      exact aF (aY (bU (⟨(cZ hO hE ho1 .dead).1, rfl, _, ⟨lo8, rfl⟩, (cZ hO hE ho1 _).2⟩)))
    refine bM ?_
    refine bB [(4, (.lp lo1 0 0)), (5, (.lp lo4 0 0)), (6, (.lp lo9 0 0))] ?_
    refine aO ?_
    refine aS aB 5 ?_
    refine bE 1 ?_
    refine iS 1 lo4 3 0 (.agg [(eI p5.Span.From), (eI p5.Span.To), (.msl 2 lo8 0 (List.length p5.Rows))]) (.msl 2 lo8 0 (List.length p5.Rows)) [(.agg [(eI p5.Span.From), (eI p5.Span.To), (.msl 2 lo8 0 (List.length p5.Rows))])] hO rfl ?_
    refine aZ ?_
    refine bO [] [(7, (eI (wR ((lN p5.Rows) - (1 : Int)))))] ?_
    refine aO ?_
    refine aO ?_
    obtain ⟨c12, h1⟩ := bA h1
    obtain ⟨x13, hx14, h1⟩ := aW h1
    refine fX (fZ []) aB 13 ?_
    refine rL (K := fun T H => Has (lift T) [(4, (.lp lo1 0 0)), (5, (.lp lo4 0 0)), (6, (.lp lo9 0 0)), (7, (eI (wR ((lN p5.Rows) - (1 : Int))))), (53, (aE ((decide ((0 : Int) ≤ (wR ((lN p5.Rows) - (1 : Int))))) && x13)))] ∧ aM ⟨Hr, E1, (lL, o1) :: []⟩ H [(lo1, 3, [(aR t4)]), (lo4, 3, [(.agg [(eI p5.Span.From), (eI p5.Span.To), (.msl 2 lo8 0 (List.length p5.Rows))])]), (lo8, 2, List.map bT p5.Rows), (lo9, 3, [(aD t22)])]) ?_ ?_
    · refine kE 3 ?_
      refine oR (t := 43) (e := decide ((0 : Int) ≤ (wR ((lN p5.Rows) - (1 : Int))))) (by kernel_rfl) (fun hg15 => ?_) (fun hg15 => ?_)
      · refine kE 4 ?_
        refine iZ 1 lo4 3 0 (.agg [(eI p5.Span.From), (eI p5.Span.To), (.msl 2 lo8 0 (List.length p5.Rows))]) (.msl 2 lo8 0 (List.length p5.Rows)) [(.agg [(eI p5.Span.From), (eI p5.Span.To), (.msl 2 lo8 0 (List.length p5.Rows))])] (by kernel_rfl) (by kernel_rfl) (by kernel_rfl) hO (by kernel_rfl) rfl ?_
        refine cJ 8 [0 ≤ (wR ((lN p5.Rows) - (1 : Int))) ∧ (wR ((lN p5.Rows) - (1 : Int))) < (lN p5.Rows)] ⟨(c12 hg15), trivial⟩ ?_
        refine iZ 2 lo8 2 (0 + Int.toNat (wR ((lN p5.Rows) - (1 : Int)))) (bT (gD p5.Rows (wR ((lN p5.Rows) - (1 : Int))))) (eL aJ ((gD p5.Rows (wR ((lN p5.Rows) - (1 : Int)))).Row)) (List.map bT p5.Rows) (by kernel_rfl) (by kernel_rfl) (by kernel_rfl) hO (by kernel_rfl) (bZ (c12 hg15)) ?_
        refine kE 10 ?_
        refine iZ 3 lo9 3 0 (aD t22) (eL aJ t22.Row) [(aD t22)] (by kernel_rfl) (by kernel_rfl) (by kernel_rfl) hO (by kernel_rfl) rfl ?_
        refine pV 67 [(eL aJ ((gD p5.Rows (wR ((lN p5.Rows) - (1 : Int)))).Row)), (eL aJ t22.Row)] (aE x13) (by kernel_rfl) (by kernel_rfl) (qE ((gD p5.Rows (wR ((lN p5.Rows) - (1 : Int)))).Row) t22.Row _ (jP hx14 hg15)) hO ?_
        intro H hO
        refine kJ ?_
        exact ⟨⟨[(4, (.lp lo1 0 0)), (5, (.lp lo4 0 0)), (6, (.lp lo9 0 0)), (7, (eI (wR ((lN p5.Rows) - (1 : Int))))), (53, (aE x13))], by kernel_rfl, rfl, ⟨aQ.refl _, aQ.refl _, aQ.refl _, aQ.refl _, aQ.eq (congrArg aE (nU hg15 rfl).symm), trivial⟩⟩, hO⟩
      refine kJ ?_
      exact ⟨⟨[(4, (.lp lo1 0 0)), (5, (.lp lo4 0 0)), (6, (.lp lo9 0 0)), (7, (eI (wR ((lN p5.Rows) - (1 : Int))))), (53, (aE false))], by kernel_rfl, rfl, ⟨aQ.refl _, aQ.refl _, aQ.refl _, aQ.refl _, aQ.eq (congrArg aE (nU hg15 rfl).symm), trivial⟩⟩, hO⟩
    · rintro T H ⟨hT, hO⟩
      refine dH hT ?_
      clear hT
      refine aF (aH ?_)
      refine bJ h1 (fun h1 => ?_) (fun h1 => ?_)
      · refine aO ?_
        refine fX (fZ []) aB 12 ?_
        refine kE 1 ?_
        refine fU 1 lo4 3 0 (.agg [(eI p5.Span.From), (eI p5.Span.To), (.msl 2 lo8 0 (List.length p5.Rows))]) (.msl 2 lo8 0 (List.length p5.Rows)) [(.agg [(eI p5.Span.From), (eI p5.Span.To), (.msl 2 lo8 0 (List.length p5.Rows))])] hO rfl ?_
        obtain ⟨c17, h1⟩ := bA h1
        refine cJ 5 [0 ≤ (wR ((lN p5.Rows) - (1 : Int))) ∧ (wR ((lN p5.Rows) - (1 : Int))) < (lN p5.Rows)] ⟨c17, trivial⟩ ?_
        refine fU 2 lo8 2 (0 + Int.toNat (wR ((lN p5.Rows) - (1 : Int)))) (bT (gD p5.Rows (wR ((lN p5.Rows) - (1 : Int))))) (eI ((gD p5.Rows (wR ((lN p5.Rows) - (1 : Int)))).N)) (List.map bT p5.Rows) hO (bZ c17) ?_
        refine kE 7 ?_
        refine fU 3 lo9 3 0 (aD t22) (eI t22.Net) [(aD t22)] hO rfl ?_
        obtain ⟨c18, h1⟩ := bA h1
        refine cJ 11 [0 ≤ (wR ((lN p5.Rows) - (1 : Int))) ∧ (wR ((lN p5.Rows) - (1 : Int))) < (lN p5.Rows)] ⟨c18, trivial⟩ ?_
        refine kS 2 lo8 2 (0 + Int.toNat (wR ((lN p5.Rows) - (1 : Int)))) (bT (gD p5.Rows (wR ((lN p5.Rows) - (1 : Int))))) (bT (bG.mk (gD p5.Rows (wR ((lN p5.Rows) - (1 : Int)))).Row (wR (((gD p5.Rows (wR ((lN p5.Rows) - (1 : Int)))).N) + t22.Net)))) (List.map bT p5.Rows) [(lo1, 3, [(aR t4)]), (lo4, 3, [(.agg [(eI p5.Span.From), (eI p5.Span.To), (.msl 2 lo8 0 (List.length p5.Rows))])]), (lo8, 2, List.map bT (List.set p5.Rows (Int.toNat (wR ((lN p5.Rows) - (1 : Int)))) (bG.mk (gD p5.Rows (wR ((lN p5.Rows) - (1 : Int)))).Row (wR (((gD p5.Rows (wR ((lN p5.Rows) - (1 : Int)))).N) + t22.Net))))), (lo9, 3, [(aD t22)])] hO (bZ c18) (by simp only [List.set, iH]) ?_
        intro H hO
        refine nE (by kernel_rfl) ?_
        replace hO : aM ⟨Hr, E1, (lL, o1) :: []⟩ H [(lo1, 3, [(aR t4)]), (lo4, 3, [(.agg [(eI ((aN.mk p5.Span (List.set p5.Rows (Int.toNat (wR ((lN p5.Rows) - (1 : Int)))) (bG.mk (gD p5.Rows (wR ((lN p5.Rows) - (1 : Int)))).Row (wR (((gD p5.Rows (wR ((lN p5.Rows) - (1 : Int)))).N) + t22.Net))))).Span.From)), (eI ((aN.mk p5.Span (List.set p5.Rows (Int.toNat (wR ((lN p5.Rows) - (1 : Int)))) (bG.mk (gD p5.Rows (wR ((lN p5.Rows) - (1 : Int)))).Row (wR (((gD p5.Rows (wR ((lN p5.Rows) - (1 : Int)))).N) + t22.Net))))).Span.To)), (.msl 2 lo8 0 (List.length (List.set p5.Rows (Int.toNat (wR ((lN p5.Rows) - (1 : Int)))) (bG.mk (gD p5.Rows (wR ((lN p5.Rows) - (1 : Int)))).Row (wR (((gD p5.Rows (wR ((lN p5.Rows) - (1 : Int)))).N) + t22.Net))))))])]), (lo8, 2, List.map bT (List.set p5.Rows (Int.toNat (wR ((lN p5.Rows) - (1 : Int)))) (bG.mk (gD p5.Rows (wR ((lN p5.Rows) - (1 : Int)))).Row (wR (((gD p5.Rows (wR ((lN p5.Rows) - (1 : Int)))).N) + t22.Net))))), (lo9, 3, [(aD t22)])] := by simpa only [List.length_set] using hO
        replace hO := hO.pick (L' := [(lo1, 3, [(aR t4)]), (lo4, 3, [(.agg [(eI ((aN.mk p5.Span (List.set p5.Rows (Int.toNat (wR ((lN p5.Rows) - (1 : Int)))) (bG.mk (gD p5.Rows (wR ((lN p5.Rows) - (1 : Int)))).Row (wR (((gD p5.Rows (wR ((lN p5.Rows) - (1 : Int)))).N) + t22.Net))))).Span.From)), (eI ((aN.mk p5.Span (List.set p5.Rows (Int.toNat (wR ((lN p5.Rows) - (1 : Int)))) (bG.mk (gD p5.Rows (wR ((lN p5.Rows) - (1 : Int)))).Row (wR (((gD p5.Rows (wR ((lN p5.Rows) - (1 : Int)))).N) + t22.Net))))).Span.To)), (.msl 2 lo8 0 (List.length (List.set p5.Rows (Int.toNat (wR ((lN p5.Rows) - (1 : Int)))) (bG.mk (gD p5.Rows (wR ((lN p5.Rows) - (1 : Int)))).Row (wR (((gD p5.Rows (wR ((lN p5.Rows) - (1 : Int)))).N) + t22.Net))))))])]), (lo8, 2, List.map bT (List.set p5.Rows (Int.toNat (wR ((lN p5.Rows) - (1 : Int)))) (bG.mk (gD p5.Rows (wR ((lN p5.Rows) - (1 : Int)))).Row (wR (((gD p5.Rows (wR ((lN p5.Rows) - (1 : Int)))).N) + t22.Net)))))]) [0, 1, 2] (by decide) (by kernel_rfl)
        refine bO [6, 7, 53] [] ?_
        refine gG 1 ?_
        refine dQ [(4, (.lp lo1 0 0)), (5, (.lp lo4 0 0))] ?_
        obtain rfl := oI h1
        exact aF (aY (bU (⟨(cZ hO hE ho1 .dead).1, rfl, _, ⟨lo8, rfl⟩, (cZ hO hE ho1 _).2⟩)))
      refine bM ?_
      refine bB [(4, (.lp lo1 0 0)), (5, (.lp lo4 0 0)), (6, (.lp lo9 0 0))] ?_
      refine IF 2 3 6 3 lo9 (aD t22) [(lo1, 3, [(aR t4)]), (lo4, 3, [(.agg [(eI p5.Span.From), (eI p5.Span.To), (.msl 2 lo8 0 (List.length p5.Rows))])]), (lo8, 2, List.map bT p5.Rows)] hO (by kernel_rfl) (by kernel_rfl) (by kernel_rfl) ?_
      intro H hO
      refine fX (fZ [68, 69, 71, 73]) aB 12 ?_
      refine kE 1 ?_
      refine fU 1 lo4 3 0 (.agg [(eI p5.Span.From), (eI p5.Span.To), (.msl 2 lo8 0 (List.length p5.Rows))]) (.msl 2 lo8 0 (List.length p5.Rows)) [(.agg [(eI p5.Span.From), (eI p5.Span.To), (.msl 2 lo8 0 (List.length p5.Rows))])] hO rfl ?_
      refine kE 4 ?_
      obtain ⟨x19, hx20, h1⟩ := aW h1
      refine aAe 47 [(eL aJ t22.Row)] (eL aJ x19) (by kernel_rfl) (by kernel_rfl) (DV.frozen (qB t22.Row _ hx20)) hO ?_
      intro H hO
      refine kE 8 ?_
      refine TK (xs := [(bT (bG.mk x19 t22.Net))]) (k := 2) (by kernel_rfl) (by kernel_rfl) ?_
      obtain ⟨c23, h1⟩ := bA h1
      refine JT (e := bT) p5.Rows ([bG.mk x19 t22.Net]) 2 lo8 2 32 (eW [(bT (bG.mk x19 t22.Net))]) (fun lo22 => [(lo1, 3, [(aR t4)]), (lo4, 3, [(.agg [(eI p5.Span.From), (eI p5.Span.To), (.msl 2 lo8 0 (List.length p5.Rows))])]), (lo22, 2, List.map bT (p5.Rows ++ ([bG.mk x19 t22.Net])))]) (by kernel_rfl) (by kernel_rfl) hO (by kernel_rfl) (by kernel_rfl) c23 (fun _ => by kernel_rfl) ?_
      intro lo22 H hO
      refine kE 11 ?_
      refine kS 1 lo4 3 0 (.agg [(eI p5.Span.From), (eI p5.Span.To), (.msl 2 lo8 0 (List.length p5.Rows))]) (.agg [(eI ((aN.mk p5.Span (p5.Rows ++ ([bG.mk x19 t22.Net]))).Span.From)), (eI ((aN.mk p5.Span (p5.Rows ++ ([bG.mk x19 t22.Net]))).Span.To)), (.msl 2 lo22 0 (List.length (p5.Rows ++ ([bG.mk x19 t22.Net]))))]) [(.agg [(eI p5.Span.From), (eI p5.Span.To), (.msl 2 lo8 0 (List.length p5.Rows))])] [(lo1, 3, [(aR t4)]), (lo4, 3, [(.agg [(eI ((aN.mk p5.Span (p5.Rows ++ ([bG.mk x19 t22.Net]))).Span.From)), (eI ((aN.mk p5.Span (p5.Rows ++ ([bG.mk x19 t22.Net]))).Span.To)), (.msl 2 lo22 0 (List.length (p5.Rows ++ ([bG.mk x19 t22.Net]))))])]), (lo22, 2, List.map bT (p5.Rows ++ ([bG.mk x19 t22.Net])))] hO rfl (by kernel_rfl) ?_
      intro H hO
      refine nE (by kernel_rfl) ?_
      refine dQ [(4, (.lp lo1 0 0)), (5, (.lp lo4 0 0))] ?_
      obtain rfl := oI h1
      exact aF (aV (⟨(cZ hO hE ho1 .dead).1, rfl, _, ⟨lo22, rfl⟩, (cZ hO hE ho1 _).2⟩))
  · intro b lD24 lL H' G' hi hO
    rcases o0 with s | s
    · dsimp only [Sum.elim_inl] at hi
      obtain ⟨lo8, rfl⟩ := hi
      replace h0 : (some s.2) = some r := h0
      obtain ⟨hlL, hO⟩ := lY hO
      refine ⟨_, _, hlL, (by intro e; cases e), ?_⟩
      refine dQ [(4, (.lp lo1 0 0)), (5, (.lp lo4 0 0))] ?_
      refine aF (aV (aH (?_)))
      refine aO ?_
      refine KJ (e := bT) s.2.Rows 1 2 3 2 lo4 lo8 (List.length s.2.Rows) 2 [(eI s.2.Span.From), (eI s.2.Span.To), (.msl 2 lo8 0 (List.length s.2.Rows))] [(lo1, 3, [(aR s.1)]), (lo4, 3, [(aR s.2)])] hO (by kernel_rfl) (by kernel_rfl) (by kernel_rfl) (by kernel_rfl) (by kernel_rfl) (by kernel_rfl) ?_
      intro H hO
      refine aS aB 2 ?_
      refine iS 1 lo4 3 0 (aR s.2) (aR s.2) [(aR s.2)] hO rfl ?_
      refine gM 0 lo1 3 0 (aR s.1) (aR s.2) [(aR s.1)] [(lo1, 3, [(aR s.2)]), (lo4, 3, [(aR s.2)])] hO rfl (by kernel_rfl) ?_
      intro H hO
      refine cX ?_
      refine dQ [(4, (.lp lo1 0 0))] ?_
      replace hO := hO.pick (L' := [(lo1, 3, [(aR s.2)])]) [0] (by decide) (by kernel_rfl)
      refine aF (aH (?_))
      refine bH ?_
      obtain rfl := oI h0
      have hD := (hO.gm 0 _ rfl).2
      replace hO := (hO.mZ .dead).nC
      exact aF (QM1 (.inr rfl) hD (rs := [.cell 4 58]) (xs := [(aR s.2)]) (x := (aR s.2)) (by kernel_rfl) (lH (lo := lo1) (k := 3) (y := (aR s.2)) (x := (aR s.2)) 0 hO (by kernel_rfl) (by kernel_rfl) (by kernel_rfl) (by kernel_rfl) mT) (by kernel_rfl) ⟨rfl, hO.out⟩)
    · exact hi.elim

end Go.Abs
namespace Go.Abs
open Go Go.RowKit Go.Proofs
theorem QH (l0 : (List aG)) (n1 : Int) (nI : Int) (r : ((List aN) × Int)) (h0 : sA l0 n1 nI = some r) : dF Try.prog 21 [(eL aD l0), (eI n1), (eI nI)] (.tup [(eL aR r.1), (eI r.2)]) := by
  intro H0
  refine cY Try.func21 ?_
  have hO := aM.start H0
  unfold sA at h0
  refine aX aB 2 [] [] ?_
  refine aO ?_
  refine aO ?_
  refine aS aB 4 ?_
  refine bE 2 ?_
  obtain ⟨x1, hx2, h0⟩ := aW h0
  refine cW (JB l0 n1 _ hx2) hO ?_
  intro H hO
  refine aZ ?_
  refine bO [] [(8, (eI x1))] ?_
  refine aX aB 2 [] [(18, (aE (!decide (x1 = (0 : Int)))))] ?_
  refine bJ h0 (fun h0 => ?_) (fun h0 => ?_)
  · refine bV aB 3 [(6, (.sl true 0 (fun _ => .bad))), (7, (eI x1))] ?_
    refine bH ?_
    refine dH (l := [(6, (eL aR ([]))), (7, (eI x1))]) ⟨[(6, (.sl true 0 (fun _ => .bad))), (7, (eI x1))], by kernel_rfl, rfl, ⟨eU, aQ.refl _, trivial⟩⟩ ?_
    obtain rfl := oI h0
    exact aF (aU (Q_r hO))
  refine bM ?_
  refine bB [(0, (eL aD l0)), (1, (eI n1)), (2, (eI nI))] ?_
  refine aO ?_
  refine aX aB 6 [] [(25, (aE ((decide (nI < (0 : Int))) || (decide ((1125899906842624 : Int) < nI)))))] ?_
  refine bJ h0 (fun h0 => ?_) (fun h0 => ?_)
  · refine bV aB 2 [(6, (.sl true 0 (fun _ => .bad))), (7, (eI (13 : Int)))] ?_
    refine bH ?_
    refine dH (l := [(6, (eL aR ([]))), (7, (eI (13 : Int)))]) ⟨[(6, (.sl true 0 (fun _ => .bad))), (7, (eI (13 : Int)))], by kernel_rfl, rfl, ⟨eU, aQ.refl _, trivial⟩⟩ ?_
    obtain rfl := oI h0
    exact aF (aU (Q_r hO))
  refine bM ?_
  refine bB [(0, (eL aD l0)), (1, (eI n1)), (2, (eI nI))] ?_
  refine aO ?_
  refine aS aB 3 ?_
  refine bE 1 ?_
  obtain ⟨x6, hx7, h0⟩ := aW h0
  refine cW (DZ l0 _ hx7) hO ?_
  intro H hO
  refine aZ ?_
  refine bO [] [(9, (eL (eI) x6))] ?_
  refine aO ?_
  refine aS aB 8 ?_
  refine bE 2 ?_
  obtain ⟨x9, hx10, h0⟩ := aW h0
  refine cW (rT x6 nI _ hx10) hO ?_
  intro H hO
  refine aZ ?_
  refine bO [2] [(10, (eI x9.1))] ?_
  refine aO ?_
  refine aS aB 8 ?_
  obtain ⟨c12, h0⟩ := bA h0
  refine qK [0 ≤ x9.1 ∧ x9.1 ≤ (lN x6) ∧ (lN x6) ≤ (lN x6) ∧ (lN x6) ≤ (lN x6)] ⟨c12, trivial⟩ ?_
  refine dH (l := [(0, (eL aD l0)), (1, (eI n1)), (12, (eL (eI) (List.drop (Int.toNat x9.1) (List.take (Int.toNat (lN x6)) x6))))]) ⟨[(0, (eL aD l0)), (1, (eI n1)), (12, (.sl false (Int.toNat (lN x6) - Int.toNat x9.1) (fun i => (eI) (List.getD x6 (Int.toNat x9.1 + i) default))))], by kernel_rfl, rfl, ⟨aQ.refl _, aQ.refl _, aEL (Int.toNat_le.2 (Int.le_trans (And.left (And.right (And.right c12))) (And.right (And.right (And.right c12))))), trivial⟩⟩ ?_
  refine aF (aH (?_))
  refine aO ?_
  refine aX aB 6 [] [(46, (aE (decide ((1024 : Int) < (wR ((wR ((lN (List.drop (Int.toNat x9.1) (List.take (Int.toNat (lN x6)) x6))) - n1)) + (1 : Int)))))))] ?_
  refine bJ h0 (fun h0 => ?_) (fun h0 => ?_)
  · refine bV aB 2 [(6, (.sl true 0 (fun _ => .bad))), (7, (eI (7 : Int)))] ?_
    refine bH ?_
    refine dH (l := [(6, (eL aR ([]))), (7, (eI (7 : Int)))]) ⟨[(6, (.sl true 0 (fun _ => .bad))), (7, (eI (7 : Int)))], by kernel_rfl, rfl, ⟨eU, aQ.refl _, trivial⟩⟩ ?_
    obtain rfl := oI h0
    exact aF (aU (Q_r hO))
  refine bM ?_
  refine bB [(0, (eL aD l0)), (1, (eI n1)), (12, (eL (eI) (List.drop (Int.toNat x9.1) (List.take (Int.toNat (lN x6)) x6))))] ?_
  refine aO ?_
  refine aS aB 2 ?_
  refine nK (xs := []) (k := 3) (by kernel_rfl) (by kernel_rfl) ?_
  refine aZ ?_
  refine bO [] [(13, (.sl true 0 (fun _ => .bad)))] ?_
  refine eV (fun T H => ∃ kH : List aN, ∃ lo14 : Nat, Has T [(13, (.msl 3 lo14 0 (List.length kH)))] ∧ aM ⟨H0, [], []⟩ H [(lo14, 3, List.map aR kH)] ∧ vC kH = some r) ?_ ?_
  · clear hO h0
    rintro T H ⟨kH, lo14, hT, hO, h0⟩
    refine bF hT ?_
    clear hT
    unfold vC at h0
    refine bV aB 3 [(6, (.msl 3 lo14 0 (List.length kH))), (7, (eI (0 : Int)))] ?_
    refine bH ?_
    refine dQ [(6, (.msl 3 lo14 0 (List.length kH))), (7, (eI (0 : Int)))] ?_
    refine sX (en := aR) kH 0 0 6 3 lo14 (List.length kH) hO (by kernel_rfl) (by kernel_rfl) (by kernel_rfl) (L' := []) (by kernel_rfl) ?_
    intro H15 hO
    obtain rfl := oI h0
    exact aF (Q_r hO)
  refine bW 0 ?_
  refine eE [(0, (eL aD l0)), (1, (eI n1)), (12, (eL (eI) (List.drop (Int.toNat x9.1) (List.take (Int.toNat (lN x6)) x6)))), (13, (.sl true 0 (fun _ => .bad)))] ?_
  refine IP (el := (fun _ => .bad)) 3 13 3 hO (by kernel_rfl) ?_
  intro lo26 H27 hO
  refine eH (fun T H => ∃ lQ : (List Int), ∃ kH : List aN, ∃ lo17 : Nat, Has T [(0, (eL aD l0)), (1, (eI n1)), (12, (eL (eI) lQ)), (13, (.msl 3 lo17 0 (List.length kH)))] ∧ aM ⟨H0, [], []⟩ H [(lo17, 3, List.map aR kH)] ∧ uY l0 n1 lQ kH = some r) ?_ ⟨List.drop (Int.toNat x9.1) (List.take (Int.toNat (lN x6)) x6), ([] : List aN), lo26, .eq (by kernel_rfl), hO, h0⟩
  clear hO h0
  rintro T H ⟨lQ, kH, lo17, hT, hO, h0⟩
  refine bF hT ?_
  clear hT
  unfold uY at h0
  obtain ⟨rr0, hl0, h0⟩ := aW h0
  refine dM (by kernel_rfl) (fun (s : (List Int) × List aN) T H => ∃ lo17 : Nat, Has T [(0, (eL aD l0)), (1, (eI n1)), (12, (eL (eI) s.1)), (13, (.msl 3 lo17 0 (List.length s.2)))] ∧ aM ⟨H0, [], []⟩ H [(lo17, 3, List.map aR s.2)]) hl0 ⟨lo17, .eq (by kernel_rfl), hO⟩ ?_
  clear hO
  rintro k0 s out1 T H ⟨lo17, hT, hO⟩ h1 ho0
  obtain ⟨lQ, kH⟩ := s
  replace h1 : mE l0 n1 lQ kH = some out1 := h1
  try dsimp only at hT
  refine bF hT ?_
  clear hT
  unfold mE at h1
  refine aO ?_
  refine aX aB 4 [] [(51, (aE (decide (n1 ≤ (lN lQ)))))] ?_
  refine bJ h1 (fun h1 => ?_) (fun h1 => ?_)
  · refine bM ?_
    refine bB [(0, (eL aD l0)), (1, (eI n1)), (12, (eL (eI) lQ)), (13, (.msl 3 lo17 0 (List.length kH)))] ?_
    refine bW 1 ?_
    refine aO ?_
    refine aS aB 10 ?_
    refine bE 5 ?_
    obtain ⟨c19, h1⟩ := bA h1
    refine aCX (n' := List.length lQ) (el := fun i => (eI) (List.getD lQ i default)) c19 ?_
    obtain ⟨x20, hx21, h1⟩ := aW h1
    refine aFE 43 [(eL aD l0), (.sl false (Int.toNat n1) (fun i => (eI) (List.getD lQ i default)))] (aR x20) (dF.sub (NB l0 (List.take (Int.toNat n1) lQ) _ hx21) ⟨aQ.refl _, ZJ (Int.toNat_le.2 (Int.le_trans (And.left (And.right c19)) (And.right (And.right c19)))), trivial⟩) hO ?_
    intro H hO
    refine nK (xs := [(aR x20)]) (k := 3) (by kernel_rfl) (by kernel_rfl) ?_
    obtain ⟨c24, h1⟩ := bA h1
    refine sV (e := aR) kH ([x20]) 0 lo17 3 40 (eW [(aR x20)]) (fun lo23 => [(lo23, 3, List.map aR (kH ++ ([x20])))]) (by kernel_rfl) (by kernel_rfl) hO (by kernel_rfl) (by kernel_rfl) c24 (fun _ => by kernel_rfl) ?_
    intro lo23 H hO
    refine aZ ?_
    refine bO [13] [(13, (.msl 3 lo23 0 (List.length (kH ++ ([x20])))))] ?_
    refine aS aB 3 ?_
    obtain ⟨c25, h1⟩ := bA h1
    refine qK [0 ≤ (1 : Int) ∧ (1 : Int) ≤ (lN lQ)] ⟨c25, trivial⟩ ?_
    refine dH (l := [(0, (eL aD l0)), (1, (eI n1)), (12, (eL (eI) (List.drop (Int.toNat (1 : Int)) lQ))), (13, (.msl 3 lo23 0 (List.length (kH ++ ([x20])))))]) ⟨[(0, (eL aD l0)), (1, (eI n1)), (12, (.sl false (List.length lQ - Int.toNat (1 : Int)) (fun i => (eI) (List.getD lQ (Int.toNat (1 : Int) + i) default)))), (13, (.msl 3 lo23 0 (List.length (kH ++ ([x20])))))], by kernel_rfl, rfl, ⟨aQ.refl _, aQ.refl _, aEr, aQ.refl _, trivial⟩⟩ ?_
    exact aF (aV (aH (⟨rfl, _, (oI h1).symm, _, .eq (by kernel_rfl), hO⟩)))
  refine gG 0 ?_
  obtain rfl := oI h1
  obtain rfl : _ = rr0 := ho0
  replace h0 : vC kH = some r := h0
  exact aF (aY (aY (bU (aH (⟨rfl, _, _, .eq (by kernel_rfl), hO, h0⟩)))))

theorem YE (l0 : (List aG)) (iP : Int) (r : ((List Int) × Int)) (h0 : xL l0 iP = some r) : dF Try.prog 44 [(eL aD l0), (eI iP)] (.tup [(eL (eI) r.1), (eI r.2)]) := by
  intro H0
  refine cY Try.func44 ?_
  have hO := aM.start H0
  unfold xL at h0
  refine aX aB 2 [] [] ?_
  refine aO ?_
  refine bW 0 ?_
  refine aO ?_
  refine aS aB 4 ?_
  refine bE 1 ?_
  obtain ⟨x1, hx2, h0⟩ := aW h0
  refine cW (wN l0 _ hx2) hO ?_
  intro H hO
  refine aZ ?_
  refine bO [] [(11, (aE (!x1)))] ?_
  refine bJ h0 (fun h0 => ?_) (fun h0 => ?_)
  · refine bV aB 2 [(4, (.sl true 0 (fun _ => .bad))), (5, (eI (2 : Int)))] ?_
    refine bH ?_
    refine dH (l := [(4, (eL (eI) ([]))), (5, (eI (2 : Int)))]) ⟨[(4, (.sl true 0 (fun _ => .bad))), (5, (eI (2 : Int)))], by kernel_rfl, rfl, ⟨eU, aQ.refl _, trivial⟩⟩ ?_
    obtain rfl := oI h0
    exact aF (bD (aU (Q_r hO)))
  refine aO ?_
  refine aS aB 4 ?_
  refine bE 1 ?_
  obtain ⟨x5, hx6, h0⟩ := aW h0
  refine cW (yV l0 _ hx6) hO ?_
  intro H hO
  refine aZ ?_
  refine bO [11] [(15, (aE (!x5)))] ?_
  refine bJ h0 (fun h0 => ?_) (fun h0 => ?_)
  · refine bV aB 2 [(4, (.sl true 0 (fun _ => .bad))), (5, (eI (20 : Int)))] ?_
    refine bH ?_
    refine dH (l := [(4, (eL (eI) ([]))), (5, (eI (20 : Int)))]) ⟨[(4, (.sl true 0 (fun _ => .bad))), (5, (eI (20 : Int)))], by kernel_rfl, rfl, ⟨eU, aQ.refl _, trivial⟩⟩ ?_
    obtain rfl := oI h0
    exact aF (bD (aU (Q_r hO)))
  refine aX aB 7 [15] [(19, (aE ((decide (iP < (0 : Int))) || (decide ((1125899906842624 : Int) < iP)))))] ?_
  refine bJ h0 (fun h0 => ?_) (fun h0 => ?_)
  · refine bV aB 2 [(4, (.sl true 0 (fun _ => .bad))), (5, (eI (13 : Int)))] ?_
    refine bH ?_
    refine dH (l := [(4, (eL (eI) ([]))), (5, (eI (13 : Int)))]) ⟨[(4, (.sl true 0 (fun _ => .bad))), (5, (eI (13 : Int)))], by kernel_rfl, rfl, ⟨eU, aQ.refl _, trivial⟩⟩ ?_
    obtain rfl := oI h0
    exact aF (bD (aU (Q_r hO)))
  refine bV aB 3 [(0, (eL aD l0)), (1, (eI iP)), (26, (aE (decide (iP = (1125899906842624 : Int)))))] ?_
  refine bJ h0 (fun h0 => ?_) (fun h0 => ?_)
  · refine bV aB 2 [(4, (.sl true 0 (fun _ => .bad))), (5, (eI (0 : Int)))] ?_
    refine bH ?_
    refine dH (l := [(4, (eL (eI) ([]))), (5, (eI (0 : Int)))]) ⟨[(4, (.sl true 0 (fun _ => .bad))), (5, (eI (0 : Int)))], by kernel_rfl, rfl, ⟨eU, aQ.refl _, trivial⟩⟩ ?_
    obtain rfl := oI h0
    exact aF (bD (aU (Q_r hO)))
  refine bM ?_
  refine dQ [(0, (eL aD l0)), (1, (eI iP))] ?_
  refine aF (aV (aH (?_)))
  refine aO ?_
  refine aS aB 5 ?_
  refine QK (β := Int) (eI) (t := 117) hO ?_
  intro lm11 H hO
  refine bE 2 ?_
  refine LJ (f := (eI)) (mty := 117) iP (1 : Int) hO ?_
  intro H hO
  refine aZ ?_
  refine bO [] [(6, (.mp lm11))] ?_
  refine eV (fun T H => ∃ lG : (List (Int × Int)), Has T [(6, (.mp lm11))] ∧ aM ⟨H0, [], (lm11, pF (eI) lG) :: []⟩ H [] ∧ wE lG = some r) ?_ ?_
  · clear hO h0
    rintro T H ⟨lG, hT, hO, h0⟩
    refine bF hT ?_
    clear hT
    unfold wE at h0
    refine aO ?_
    refine aS aB 4 ?_
    refine bE 1 ?_
    refine KY (mty := 117) hO ?_
    obtain ⟨c13, h0⟩ := bA h0
    refine JQ 1 8 (lN lG) (by kernel_rfl) (by kernel_rfl) c13 hO ?_
    intro lo14 H hO
    refine aZ ?_
    refine bB [(6, (.mp lm11)), (9, (.msl 1 lo14 0 (List.length ([] : List Int))))] ?_
    refine eV (fun T H => ∃ out9 : List Int, ∃ lo15 : Nat, Has T [(9, (.msl 1 lo15 0 (List.length out9)))] ∧ aM ⟨H0, [], []⟩ H [(lo15, 1, List.map (eI) out9)] ∧ yS out9 = some r) ?_ ?_
    · clear hO h0
      rintro T H ⟨out9, lo15, hT, hO, h0⟩
      refine bF hT ?_
      clear hT
      unfold yS at h0
      refine aO ?_
      refine aS aB 2 ?_
      refine bE 1 ?_
      obtain ⟨x16, hx17, h0⟩ := aW h0
      refine yC [(lo15, 1, List.map (eI) x16)] 0 (sB lo15 out9 _ hx17) hO ?_
      intro H hO hl18
      simp only [List.length_map] at hl18
      refine cX ?_
      refine dH (l := [(9, (.msl 1 lo15 0 (List.length x16)))]) ⟨[(9, (.msl 1 lo15 0 (List.length out9)))], by kernel_rfl, rfl, ⟨aQ.eq (by simp [hl18]), trivial⟩⟩ ?_
      refine aF (aH (?_))
      refine bV aB 3 [(4, (.msl 1 lo15 0 (List.length x16))), (5, (eI (0 : Int)))] ?_
      refine bH ?_
      refine dQ [(4, (.msl 1 lo15 0 (List.length x16))), (5, (eI (0 : Int)))] ?_
      refine sX (en := (eI)) x16 0 0 4 1 lo15 (List.length x16) hO (by kernel_rfl) (by kernel_rfl) (by kernel_rfl) (L' := []) (by kernel_rfl) ?_
      intro H19 hO
      obtain rfl := oI h0
      exact aF (Q_r hO)
    refine aO ?_
    refine aS aB 2 ?_
    refine bE 1 ?_
    refine NY (mty := 117) hO ?_
    intro li20 bs21 ck22 H hmb aD2 hO
    refine cX ?_
    refine bO [6] [(50, (.lp li20 0 0))] ?_
    refine bW 3 ?_
    refine eE [(9, (.msl 1 lo14 0 (List.length ([] : List Int)))), (50, (.lp li20 0 0))] ?_
    refine eH (fun T H => ∃ out9 : List Int, ∃ t50 : (List (Int × Int)), ∃ lo24 : Nat, Has T [(9, (.msl 1 lo24 0 (List.length out9))), (50, (.lp li20 0 0))] ∧ aM ⟨H0, [], (li20, IV li20 lm11 ck22 []) :: (lm11, EC (eI) t50 bs21 ck22) :: []⟩ H [(lo24, 1, List.map (eI) out9)] ∧ List.length bs21 = List.length t50 ∧ zG out9 t50 = some r) ?_ ⟨([] : List Int), lG, lo14, .eq (by kernel_rfl), hO, hmb, h0⟩
    clear hO hmb h0
    rintro T H ⟨out9, t50, lo24, hT, hO, hmb, h0⟩
    refine bF hT ?_
    clear hT
    unfold zG at h0
    refine RZ (by kernel_rfl) (fun (s : List Int) (seen : List Nat) T H => ∃ lo24 : Nat, Has T [(9, (.msl 1 lo24 0 (List.length s))), (50, (.lp li20 0 0))] ∧ aM ⟨H0, [], (li20, IV li20 lm11 ck22 seen) :: (lm11, EC (eI) t50 bs21 ck22) :: []⟩ H [(lo24, 1, List.map (eI) s)]) hmb h0 ⟨lo24, .eq (by kernel_rfl), hO⟩ ?_
    clear hO h0
    rintro seen rem s T H ⟨lo24, hT, hO⟩ hleft hall
    obtain ⟨out9, rfl⟩ : ∃ x, x = s := ⟨_, rfl⟩
    refine bF (l := [(9, (.msl 1 lo24 0 (List.length out9))), (50, (.lp li20 0 0))]) hT ?_
    clear hT
    refine aO ?_
    refine aS aB 2 ?_
    refine QM hmb aD2 hleft hall hO (fun h0 => ?_) (fun mk mv bq rest out1 H h1 hlt hleft hall hat hO => ?_)
    · clear hall hleft
      replace h0 : zM t50 out9 = some r := h0
      unfold zM at h0
      refine aZ ?_
      refine bO [] [(52, (aE false))] ?_
      refine aO ?_
      refine mJ (false) (fun hc25 => ?_) (fun hc25 => ?_)
      · cases hc25
      · refine gG 3 ?_
        replace hO := hO.nC.nC
        exact aF (aY (aY (bU (aH (⟨rfl, _, _, .eq (by kernel_rfl), hO, h0⟩)))))
    replace h1 : sR t50 out9 mk mv = some out1 := h1
    unfold sR at h1
    refine aZ ?_
    refine bO [] [(52, (aE true))] ?_
    refine aO ?_
    refine mJ (true) (fun hc26 => ?_) (fun hc26 => ?_)
    · refine bM ?_
      refine bB [(9, (.msl 1 lo24 0 (List.length out9))), (50, (.lp li20 0 0))] ?_
      refine bW 4 ?_
      refine aO ?_
      refine aS aB 3 ?_
      refine MH hat hO ?_
      refine aZ ?_
      refine bO [] [(10, (eI mk))] ?_
      refine aS aB 5 ?_
      refine bE 2 ?_
      refine nK (xs := [(eI mk)]) (k := 1) (by kernel_rfl) (by kernel_rfl) ?_
      obtain ⟨c28, h1⟩ := bA h1
      refine sV (e := (eI)) out9 ([mk]) 0 lo24 1 8 (eW [(eI mk)]) (fun lo27 => [(lo27, 1, List.map (eI) (out9 ++ ([mk])))]) (by kernel_rfl) (by kernel_rfl) hO (by kernel_rfl) (by kernel_rfl) c28 (fun _ => by kernel_rfl) ?_
      intro lo27 H hO
      refine aZ ?_
      obtain rfl := oI h1
      exact aF (aV (aH (⟨rfl, _, _, _, hlt, hleft, hall, lo27, .eq (by kernel_rfl), hO⟩)))
    · cases hc26
  refine aX aB 3 [0] [(32, (eL aD l0)), (33, (eI (lN l0))), (34, (eI (0 : Int)))] ?_
  refine bW 1 ?_
  refine eE [(1, (eI iP)), (6, (.mp lm11)), (32, (eL aD l0)), (33, (eI (lN l0))), (34, (eI (0 : Int)))] ?_
  refine eH (fun T H => ∃ lG : (List (Int × Int)), ∃ t32 : (List aG), ∃ t33 : Int, ∃ t34 : Int, Has T [(1, (eI iP)), (6, (.mp lm11)), (32, (eL aD t32)), (33, (eI t33)), (34, (eI t34))] ∧ aM ⟨H0, [], (lm11, pF (eI) lG) :: []⟩ H [] ∧ zC iP lG t32 t33 t34 = some r) ?_ ⟨fB ([] : (List (Int × Int))) iP (1 : Int), l0, (lN l0), (0 : Int), .eq (by kernel_rfl), hO, h0⟩
  clear hO h0
  rintro T H ⟨lG, t32, t33, t34, hT, hO, h0⟩
  refine bF hT ?_
  clear hT
  unfold zC at h0
  obtain ⟨rr0, hl0, h0⟩ := aW h0
  refine dM (by kernel_rfl) (fun (s : (List (Int × Int)) × Int) T H => Has T [(1, (eI iP)), (6, (.mp lm11)), (32, (eL aD t32)), (33, (eI t33)), (34, (eI s.2))] ∧ aM ⟨H0, [], (lm11, pF (eI) s.1) :: []⟩ H []) hl0 ⟨.eq (by kernel_rfl), hO⟩ ?_
  clear hO
  rintro k0 s out1 T H ⟨hT, hO⟩ h1 ho0
  obtain ⟨lG, t34⟩ := s
  replace h1 : oO iP t32 t33 lG t34 = some out1 := h1
  try dsimp only at hT
  refine bF hT ?_
  clear hT
  unfold oO at h1
  refine aX aB 1 [] [(35, (aE (decide (t34 < t33))))] ?_
  refine aO ?_
  refine bJ h1 (fun h1 => ?_) (fun h1 => ?_)
  · refine bM ?_
    refine bB [(1, (eI iP)), (6, (.mp lm11)), (32, (eL aD t32)), (33, (eI t33)), (34, (eI t34))] ?_
    refine eV (fun T H => ∃ lG : (List (Int × Int)), Has T [(1, (eI iP)), (6, (.mp lm11)), (32, (eL aD t32)), (33, (eI t33)), (34, (eI t34))] ∧ aM ⟨H0, [], (lm11, pF (eI) lG) :: []⟩ H [] ∧ sS iP lG t32 t33 t34 = some out1) ?_ ?_
    · clear hO h1
      rintro T H ⟨lG, hT, hO, h1⟩
      refine bF hT ?_
      clear hT
      unfold sS at h1
      refine aS aB 2 ?_
      refine aZ ?_
      exact aF (aH (⟨rfl, _, (oI h1).symm, .eq (by kernel_rfl), hO⟩))
    refine bW 2 ?_
    refine aO ?_
    refine aS aB 4 ?_
    obtain ⟨c30, h1⟩ := bA h1
    refine rO 2 [0 ≤ t34 ∧ t34 < (lN t32)] ⟨c30, trivial⟩ ?_
    refine oA 3 (.agg [(.sl true 0 (fun _ => .bad)), (eI 0), (eI 0)]) (aD (aG.mk ([]) 0 0)) (by kernel_rfl) (by kernel_rfl) (by kernel_rfl) (xH (xs := [(.sl true 0 (fun _ => .bad)), (eI 0), (eI 0)]) (ys := [(eL aJ ([])), (eI 0), (eI 0)]) ⟨eU, aQ.refl _, aQ.refl _, trivial⟩) (by kernel_rfl) (by kernel_rfl) hO ?_
    intro lo31 H hO
    refine gM 0 lo31 3 0 (aD (aG.mk ([]) 0 0)) (aD (gD t32 t34)) [(aD (aG.mk ([]) 0 0))] [(lo31, 3, [(aD (gD t32 t34))])] hO rfl (by kernel_rfl) ?_
    intro H hO
    refine cX ?_
    refine bO [] [(8, (.lp lo31 0 0))] ?_
    refine aO ?_
    refine aS aB 4 ?_
    refine bE 1 ?_
    refine iS 0 lo31 3 0 (aD (gD t32 t34)) (eI ((gD t32 t34).At)) [(aD (gD t32 t34))] hO rfl ?_
    refine aZ ?_
    refine bO [] [(41, (aE (decide (iP < ((gD t32 t34).At)))))] ?_
    refine bJ h1 (fun h1 => ?_) (fun h1 => ?_)
    · refine aS aB 4 ?_
      refine bE 2 ?_
      refine iS 0 lo31 3 0 (aD (gD t32 t34)) (eI ((gD t32 t34).At)) [(aD (gD t32 t34))] hO rfl ?_
      refine LJ (f := (eI)) (mty := 117) ((gD t32 t34).At) (1 : Int) hO ?_
      intro H hO
      refine cX ?_
      replace hO := hO.pick (L' := []) [] (by decide) (by kernel_rfl)
      exact aF (aV (aH (⟨rfl, _, .eq (by kernel_rfl), hO, h1⟩)))
    refine bM ?_
    replace hO := hO.pick (L' := []) [] (by decide) (by kernel_rfl)
    exact aF (aV (aH (⟨rfl, _, .eq (by kernel_rfl), hO, h1⟩)))
  refine gG 1 ?_
  obtain rfl := oI h1
  obtain rfl : _ = rr0 := ho0
  replace h0 : wE lG = some r := h0
  exact aF (aY (aY (bU (aH (⟨rfl, _, .eq (by kernel_rfl), hO, h0⟩)))))

theorem PK (t0 : Int) (t1 : (List cB)) (r : (List bG)) (h0 : sI t0 t1 = some r) : dF Try.prog 45 [(eI t0), (.rp (eL cC t1))] (eL bT r) := by
  intro H0
  refine cY Try.func45 ?_
  have hO := aM.start H0
  unfold sI at h0
  refine aX aB 1 [] [] ?_
  refine aO ?_
  refine aS aB 2 ?_
  refine nK (xs := []) (k := 2) (by kernel_rfl) (by kernel_rfl) ?_
  refine aZ ?_
  refine bO [] [(4, (.sl true 0 (fun _ => .bad)))] ?_
  refine eV (fun T H => ∃ out4 : List bG, ∃ lo1 : Nat, Has T [(4, (.msl 2 lo1 0 (List.length out4)))] ∧ aM ⟨H0, [], []⟩ H [(lo1, 2, List.map bT out4)] ∧ vE out4 = some r) ?_ ?_
  · clear hO h0
    rintro T H ⟨out4, lo1, hT, hO, h0⟩
    refine bF hT ?_
    clear hT
    unfold vE at h0
    refine bV aB 2 [(3, (.msl 2 lo1 0 (List.length out4)))] ?_
    refine bH ?_
    refine dQ [(3, (.msl 2 lo1 0 (List.length out4)))] ?_
    refine sX (en := bT) out4 0 0 3 2 lo1 (List.length out4) hO (by kernel_rfl) (by kernel_rfl) (by kernel_rfl) (L' := []) (by kernel_rfl) ?_
    intro H2 hO
    obtain rfl := oI h0
    exact aF (Q_r hO)
  refine aX aB 3 [1] [(9, (eL cC t1)), (10, (eI (lN t1))), (11, (eI (0 : Int)))] ?_
  refine bW 0 ?_
  refine eE [(0, (eI t0)), (4, (.sl true 0 (fun _ => .bad))), (9, (eL cC t1)), (10, (eI (lN t1))), (11, (eI (0 : Int)))] ?_
  refine IP (el := (fun _ => .bad)) 1 4 2 hO (by kernel_rfl) ?_
  intro lo21 H22 hO
  refine eH (fun T H => ∃ out4 : List bG, ∃ t9 : (List cB), ∃ t10 : Int, ∃ t11 : Int, ∃ lo4 : Nat, Has T [(0, (eI t0)), (4, (.msl 2 lo4 0 (List.length out4))), (9, (eL cC t9)), (10, (eI t10)), (11, (eI t11))] ∧ aM ⟨H0, [], []⟩ H [(lo4, 2, List.map bT out4)] ∧ vA t0 out4 t9 t10 t11 = some r) ?_ ⟨([] : List bG), t1, (lN t1), (0 : Int), lo21, .eq (by kernel_rfl), hO, h0⟩
  clear hO h0
  rintro T H ⟨out4, t9, t10, t11, lo4, hT, hO, h0⟩
  refine bF hT ?_
  clear hT
  unfold vA at h0
  obtain ⟨rr0, hl0, h0⟩ := aW h0
  refine dM (by kernel_rfl) (fun (s : List bG × Int) T H => ∃ lo4 : Nat, Has T [(0, (eI t0)), (4, (.msl 2 lo4 0 (List.length s.1))), (9, (eL cC t9)), (10, (eI t10)), (11, (eI s.2))] ∧ aM ⟨H0, [], []⟩ H [(lo4, 2, List.map bT s.1)]) hl0 ⟨lo4, .eq (by kernel_rfl), hO⟩ ?_
  clear hO
  rintro k0 s out1 T H ⟨lo4, hT, hO⟩ h1 ho0
  obtain ⟨out4, t11⟩ := s
  replace h1 : nB t0 t9 t10 out4 t11 = some out1 := h1
  try dsimp only at hT
  refine bF hT ?_
  clear hT
  unfold nB at h1
  refine aX aB 1 [] [(12, (aE (decide (t11 < t10))))] ?_
  refine aO ?_
  refine bJ h1 (fun h1 => ?_) (fun h1 => ?_)
  · refine bM ?_
    refine bB [(0, (eI t0)), (4, (.msl 2 lo4 0 (List.length out4))), (9, (eL cC t9)), (10, (eI t10)), (11, (eI t11))] ?_
    refine eV (fun T H => ∃ out4 : List bG, ∃ lo6 : Nat, Has T [(0, (eI t0)), (4, (.msl 2 lo6 0 (List.length out4))), (9, (eL cC t9)), (10, (eI t10)), (11, (eI t11))] ∧ aM ⟨H0, [], []⟩ H [(lo6, 2, List.map bT out4)] ∧ oS t0 out4 t9 t10 t11 = some out1) ?_ ?_
    · clear hO h1
      rintro T H ⟨out4, lo6, hT, hO, h1⟩
      refine bF hT ?_
      clear hT
      unfold oS at h1
      refine aS aB 2 ?_
      refine aZ ?_
      exact aF (aH (⟨rfl, _, (oI h1).symm, _, .eq (by kernel_rfl), hO⟩))
    refine bW 1 ?_
    refine aO ?_
    refine aS aB 4 ?_
    obtain ⟨c7, h1⟩ := bA h1
    refine rO 2 [0 ≤ t11 ∧ t11 < (lN t9)] ⟨c7, trivial⟩ ?_
    refine oA 2 (.agg [(.sl true 0 (fun _ => .bad)), (.sl true 0 (fun _ => .bad))]) (cC (cB.mk ([]) ([]))) (by kernel_rfl) (by kernel_rfl) (by kernel_rfl) (xH (xs := [(.sl true 0 (fun _ => .bad)), (.sl true 0 (fun _ => .bad))]) (ys := [(eL aJ ([])), (eL aK ([]))]) ⟨eU, eU, trivial⟩) (by kernel_rfl) (by kernel_rfl) hO ?_
    intro lo8 H hO
    refine gM 1 lo8 2 0 (cC (cB.mk ([]) ([]))) (cC (gD t9 t11)) [(cC (cB.mk ([]) ([])))] [(lo4, 2, List.map bT out4), (lo8, 2, [(cC (gD t9 t11))])] hO rfl (by kernel_rfl) ?_
    intro H hO
    refine cX ?_
    refine bO [] [(6, (.lp lo8 0 0))] ?_
    refine aO ?_
    refine aS aB 5 ?_
    refine bE 1 ?_
    refine iS 1 lo8 2 0 (cC (gD t9 t11)) (eL aK ((gD t9 t11).jumps)) [(cC (gD t9 t11))] hO rfl ?_
    refine bE 3 ?_
    obtain ⟨x9, hx10, h1⟩ := aW h1
    refine cW (QT ((gD t9 t11).jumps) t0 _ hx10) hO ?_
    intro H hO
    refine aZ ?_
    refine bO [] [(7, (eI x9))] ?_
    refine aX aB 2 [] [(20, (aE (decide ((0 : Int) < x9))))] ?_
    refine bJ h1 (fun h1 => ?_) (fun h1 => ?_)
    · refine aS aB 9 ?_
      refine bE 2 ?_
      refine iS 1 lo8 2 0 (cC (gD t9 t11)) (eL aJ ((gD t9 t11).row)) [(cC (gD t9 t11))] hO rfl ?_
      obtain ⟨x16, hx17, h1⟩ := aW h1
      refine aAb (L' := fun lo18 => [(lo4, 2, List.map bT out4), (lo8, 2, [(cC (gD t9 t11))]), (lo18, 3, List.map aJ x16)]) 3 (List.map aJ x16) 47 [(eL aJ ((gD t9 t11).row))] (fun lo18 => (.msl 3 lo18 0 (List.length x16))) (by kernel_rfl) (by kernel_rfl) (qB ((gD t9 t11).row) _ hx17) hO (fun _ => by kernel_rfl) ?_
      intro lo18 H hO
      refine bE 5 ?_
      refine IW (e := aJ) x16 2 24 3 lo18 (List.length x16) [(lo4, 2, List.map bT out4), (lo8, 2, [(cC (gD t9 t11))])] (by kernel_rfl) hO (by kernel_rfl) (by kernel_rfl) (by kernel_rfl) (by kernel_rfl) ?_
      intro H hO
      refine bE 6 ?_
      refine nK (xs := [(bT (bG.mk x16 x9))]) (k := 2) (by kernel_rfl) (by kernel_rfl) ?_
      obtain ⟨c20, h1⟩ := bA h1
      refine sV (e := bT) out4 ([bG.mk x16 x9]) 0 lo4 2 32 (eW [(bT (bG.mk x16 x9))]) (fun lo19 => [(lo19, 2, List.map bT (out4 ++ ([bG.mk x16 x9]))), (lo8, 2, [(cC (gD t9 t11))])]) (by kernel_rfl) (by kernel_rfl) hO (by kernel_rfl) (by kernel_rfl) c20 (fun _ => by kernel_rfl) ?_
      intro lo19 H hO
      refine aZ ?_
      replace hO := hO.pick (L' := [(lo19, 2, List.map bT (out4 ++ ([bG.mk x16 x9])))]) [0] (by decide) (by kernel_rfl)
      exact aF (aV (aH (⟨rfl, _, _, .eq (by kernel_rfl), hO, h1⟩)))
    refine bM ?_
    replace hO := hO.pick (L' := [(lo4, 2, List.map bT out4)]) [0] (by decide) (by kernel_rfl)
    exact aF (aV (aH (⟨rfl, _, _, .eq (by kernel_rfl), hO, h1⟩)))
  refine gG 0 ?_
  obtain rfl := oI h1
  obtain rfl : _ = rr0 := ho0
  replace h0 : vE out4 = some r := h0
  exact aF (aY (aY (bU (aH (⟨rfl, _, _, .eq (by kernel_rfl), hO, h0⟩)))))

theorem XK (l0 : (List aG)) (iP : Int) (r : ((List aN) × Int)) (h0 : wD l0 iP = some r) : dF Try.prog 22 [(eL aD l0), (eI iP)] (.tup [(eL aR r.1), (eI r.2)]) := by
  intro H0
  refine yM aB Try.func22 (by kernel_rfl) (by kernel_rfl) (by kernel_rfl) ?_
  have hO := aM.start H0
  unfold wD at h0
  refine aX aB 2 [] [] ?_
  refine aO ?_
  refine aS aB 8 ?_
  refine bE 2 ?_
  obtain ⟨x1, hx2, h0⟩ := aW h0
  refine cW (YE l0 iP _ hx2) hO ?_
  intro H hO
  refine aZ ?_
  refine bO [1] [(6, (eL (eI) x1.1)), (7, (eI x1.2))] ?_
  refine aO ?_
  refine aX aB 2 [] [(24, (aE (!decide (x1.2 = (0 : Int)))))] ?_
  refine bJ h0 (fun h0 => ?_) (fun h0 => ?_)
  · refine bV aB 3 [(4, (.sl true 0 (fun _ => .bad))), (5, (eI x1.2))] ?_
    refine bH ?_
    refine dH (l := [(4, (eL aR ([]))), (5, (eI x1.2))]) ⟨[(4, (.sl true 0 (fun _ => .bad))), (5, (eI x1.2))], by kernel_rfl, rfl, ⟨eU, aQ.refl _, trivial⟩⟩ ?_
    obtain rfl := oI h0
    exact aF (aU (QM0 (.inr rfl) (rs := [.tmp 4, .tmp 5]) (xs := [(eL aR ([])), (eI x1.2)]) (x := (.tup [(eL aR ([])), (eI x1.2)])) (by kernel_rfl) (CE (x := (eL aR ([]))) (by kernel_rfl) (CE (x := (eI x1.2)) (by kernel_rfl) mT)) (by kernel_rfl) ⟨rfl, hO.out⟩))
  refine bM ?_
  refine bB [(0, (eL aD l0)), (6, (eL (eI) x1.1))] ?_
  refine aO ?_
  refine aS aB 3 ?_
  refine nK (xs := []) (k := 2) (by kernel_rfl) (by kernel_rfl) ?_
  refine oA 1 (.sl true 0 (fun _ => .bad)) (eL cC ([])) (by kernel_rfl) (by kernel_rfl) (by kernel_rfl) (eU) (by kernel_rfl) (by kernel_rfl) hO ?_
  intro lo5 H hO
  refine VW 26 2 (fun _ => .bad) (by kernel_rfl) hO (by kernel_rfl) ?_
  intro lo6 H hO
  refine gM 0 lo5 1 0 (eL cC ([])) (.msl 2 lo6 0 (List.length ([] : List cB))) [(eL cC ([]))] [(lo5, 1, [(.msl 2 lo6 0 (List.length ([] : List cB)))]), (lo6, 2, List.map cC ([] : List cB))] hO rfl (by kernel_rfl) ?_
  intro H hO
  refine cX ?_
  refine bO [] [(8, (.lp lo5 0 0))] ?_
  refine aO ?_
  refine aO ?_
  refine aS aB 2 ?_
  refine bE 1 ?_
  obtain ⟨x7, hx8, h0⟩ := aW h0
  refine cW (GZ l0 _ hx8) hO ?_
  intro H hO
  refine cX ?_
  refine bO [0] [(28, (.fn (.func 59) [] [(.rp (eL aD x7))]))] ?_
  refine bW 0 ?_
  refine eE [(6, (eL (eI) x1.1)), (8, (.lp lo5 0 0)), (28, (.fn (.func 59) [] [(.rp (eL aD x7))]))] ?_
  refine eH (fun T H => ∃ eM : (List Int), ∃ all8 : List cB, ∃ wM : (List aG), ∃ lo9 : Nat, Has T [(6, (eL (eI) eM)), (8, (.lp lo5 0 0)), (28, (.fn (.func 59) [] [(.rp (eL aD wM))]))] ∧ aM ⟨H0, [], []⟩ H [(lo5, 1, [(.msl 2 lo9 0 (List.length all8))]), (lo9, 2, List.map cC all8)] ∧ xS eM all8 wM = some r) ?_ ⟨x1.1, ([] : List cB), x7, lo6, .eq (by kernel_rfl), hO, h0⟩
  clear hO h0
  rintro T H ⟨eM, all8, wM, lo9, hT, hO, h0⟩
  refine bF (l := [(6, (eL (eI) eM)), (8, (.lp lo5 0 0)), (28, (.fn (.func 59) [] [(.rp (eL aD wM))]))]) hT ?_
  clear hT
  unfold xS at h0
  obtain ⟨o0, hl0, h0⟩ := aW h0
  refine vS (fid := 59) (ys := []) (cs := [(.rp (eL aD wM))]) #[29, 30] (fun (A : rN) (b lL : Nat) (st : (List cB) ⊕ (List cB)) (G' : Gs) => Sum.elim (fun (s : List cB) => ∃ lo9 : Nat, G' = (lL, .raw (gL b A .ready none)) :: (up [(lo5, 1, [(.msl 2 lo9 0 (List.length s))]), (lo9, 2, List.map cC s)] ++ [])) (fun (s : List cB) => False) st) (.inl all8) o0 (.tup []) (by kernel_rfl) (by kernel_rfl) (by kernel_rfl) hO (fun _ _ => ⟨lo9, rfl⟩) ?_ ?_
  · intro b lL
    clear hO h0
    refine BH _ b (fun st t29 t30 => rnd (fun (s : List cB) => nT eM wM s t29 t30) st) ?_ wM _ _ hl0
    intro st t29 t30 out1 rr hr
    obtain ⟨s, rfl, h1, rfl⟩ := FN hr
    clear hr
    intro Hr Gr hi hg
    obtain ⟨all8, rfl⟩ : ∃ x, x = s := ⟨_, rfl⟩
    dsimp only [Sum.elim_inl] at hi
    obtain ⟨lo9, rfl⟩ := hi
    replace h1 : nT eM wM all8 t29 t30 = some out1 := h1
    unfold nT at h1
    obtain ⟨E1, hE, hO⟩ := oE hg
    refine oG (tM (hO.gm 0 _ rfl).2 (by kernel_rfl) (by kernel_rfl) ?_)
    refine eE [(6, (eL (eI) eM)), (8, (.lp lo5 0 0)), (28, (.fn (.func 59) [] [(.rp (eL aD wM))])), (29, (eL aJ t29)), (30, (eL aK t30))] ?_
    refine aX aB 1 [6, 28, 29] [(9, (eL aJ t29))] ?_
    refine aS aB 1 ?_
    refine aZ ?_
    refine dQ [(8, (.lp lo5 0 0)), (9, (eL aJ t29)), (10, (eL aK t30))] ?_
    refine aF (⟨rfl, rfl, (hO.gm 0 _ rfl).2, ?_⟩)
    intro o1 ho1
    replace hO := hO.mZ o1
    refine bW 1 ?_
    refine aS aB 7 ?_
    refine iS 0 lo5 1 0 (.msl 2 lo9 0 (List.length all8)) (.msl 2 lo9 0 (List.length all8)) [(.msl 2 lo9 0 (List.length all8))] hO rfl ?_
    refine bE 4 ?_
    refine nK (xs := [(cC (cB.mk t29 t30))]) (k := 2) (by kernel_rfl) (by kernel_rfl) ?_
    obtain ⟨c11, h1⟩ := bA h1
    refine sV (e := cC) all8 ([cB.mk t29 t30]) 1 lo9 2 48 (eW [(cC (cB.mk t29 t30))]) (fun lo10 => [(lo5, 1, [(.msl 2 lo9 0 (List.length all8))]), (lo10, 2, List.map cC (all8 ++ ([cB.mk t29 t30])))]) (by kernel_rfl) (by kernel_rfl) hO (by kernel_rfl) (by kernel_rfl) c11 (fun _ => by kernel_rfl) ?_
    intro lo10 H hO
    refine gM 0 lo5 1 0 (.msl 2 lo9 0 (List.length all8)) (.msl 2 lo10 0 (List.length (all8 ++ ([cB.mk t29 t30])))) [(.msl 2 lo9 0 (List.length all8))] [(lo5, 1, [(.msl 2 lo10 0 (List.length (all8 ++ ([cB.mk t29 t30]))))]), (lo10, 2, List.map cC (all8 ++ ([cB.mk t29 t30])))] hO rfl (by kernel_rfl) ?_
    intro H hO
    refine cX ?_
    refine dQ [(8, (.lp lo5 0 0))] ?_
    obtain rfl := oI h1
    exact aF (aV (⟨(cZ hO hE ho1 .dead).1, rfl, _, ⟨lo10, rfl⟩, (cZ hO hE ho1 _).2⟩))
  · intro b lD12 lL H' G' hi hO
    rcases o0 with s | s
    · dsimp only [Sum.elim_inl] at hi
      obtain ⟨lo9, rfl⟩ := hi
      replace h0 : (uI eM s ([] : List aN) eM (lN eM) (0 : Int)) = some r := h0
      obtain ⟨hlL, hO⟩ := lY hO
      refine ⟨_, _, hlL, (by intro e; cases e), ?_⟩
      refine dQ [(6, (eL (eI) eM)), (8, (.lp lo5 0 0))] ?_
      refine aF (aV (aH (?_)))
      refine aO ?_
      refine OH (e := cC) s 0 1 1 2 lo5 lo9 (List.length s) [(lo5, 1, [(eL cC s)])] hO (by kernel_rfl) (by kernel_rfl) (by kernel_rfl) (.inr (by decide)) (by kernel_rfl) ?_
      intro H hO
      refine eE [(6, (eL (eI) eM)), (8, (.lp lo5 0 0))] ?_
      refine IF 1 0 8 1 lo5 (eL cC s) [] hO (by kernel_rfl) (by kernel_rfl) (by kernel_rfl) ?_
      intro H hO
      refine aS aB 2 ?_
      refine aZ ?_
      refine bO [8] [(11, (.fn (.func 45) [] [(.rp (eL cC s))]))] ?_
      refine aO ?_
      refine aS aB 2 ?_
      refine nK (xs := []) (k := 3) (by kernel_rfl) (by kernel_rfl) ?_
      refine aZ ?_
      refine bO [] [(12, (.sl true 0 (fun _ => .bad)))] ?_
      refine eV (fun T H => ∃ eJ : List aN, ∃ lo13 : Nat, Has T [(12, (.msl 3 lo13 0 (List.length eJ)))] ∧ aM ⟨H0, [], (lD12, .raw oN) :: []⟩ H [(lo13, 3, List.map aR eJ)] ∧ xR eJ = some r) ?_ ?_
      · clear hO h0
        rintro T H ⟨eJ, lo13, hT, hO, h0⟩
        refine bF hT ?_
        clear hT
        unfold xR at h0
        refine bV aB 3 [(4, (.msl 3 lo13 0 (List.length eJ))), (5, (eI (0 : Int)))] ?_
        refine bH ?_
        refine dQ [(4, (.msl 3 lo13 0 (List.length eJ))), (5, (eI (0 : Int)))] ?_
        refine sX (en := aR) eJ 0 0 4 3 lo13 (List.length eJ) hO (by kernel_rfl) (by kernel_rfl) (by kernel_rfl) (L' := []) (by kernel_rfl) ?_
        intro H14 hO
        obtain rfl := oI h0
        have hD := (hO.gm 0 _ rfl).2
        replace hO := (hO.mZ .dead).nC
        exact aF (QM1 (.inr rfl) hD (rs := [.tmp 4, .tmp 5]) (xs := [(eL aR eJ), (eI (0 : Int))]) (x := (.tup [(eL aR eJ), (eI (0 : Int))])) (by kernel_rfl) (CE (x := (eL aR eJ)) (by kernel_rfl) (CE (x := (eI (0 : Int))) (by kernel_rfl) mT)) (by kernel_rfl) ⟨rfl, hO.out⟩)
      refine aX aB 3 [] [(39, (eL (eI) eM)), (40, (eI (lN eM))), (41, (eI (0 : Int)))] ?_
      refine bW 2 ?_
      refine eE [(6, (eL (eI) eM)), (11, (.fn (.func 45) [] [(.rp (eL cC s))])), (12, (.sl true 0 (fun _ => .bad))), (39, (eL (eI) eM)), (40, (eI (lN eM))), (41, (eI (0 : Int)))] ?_
      refine IP (el := (fun _ => .bad)) 2 12 3 hO (by kernel_rfl) ?_
      intro lo30 H31 hO
      refine eH (fun T H => ∃ gK : (List cB), ∃ eJ : List aN, ∃ t39 : (List Int), ∃ t40 : Int, ∃ t41 : Int, ∃ lo16 : Nat, Has T [(6, (eL (eI) eM)), (11, (.fn (.func 45) [] [(.rp (eL cC gK))])), (12, (.msl 3 lo16 0 (List.length eJ))), (39, (eL (eI) t39)), (40, (eI t40)), (41, (eI t41))] ∧ aM ⟨H0, [], (lD12, .raw oN) :: []⟩ H [(lo16, 3, List.map aR eJ)] ∧ uI eM gK eJ t39 t40 t41 = some r) ?_ ⟨s, ([] : List aN), eM, (lN eM), (0 : Int), lo30, .eq (by kernel_rfl), hO, h0⟩
      clear hO h0
      rintro T H ⟨gK, eJ, t39, t40, t41, lo16, hT, hO, h0⟩
      refine bF hT ?_
      clear hT
      unfold uI at h0
      obtain ⟨rr0, hl0, h0⟩ := aW h0
      refine dM (by kernel_rfl) (fun (s : List aN × Int) T H => ∃ lo16 : Nat, Has T [(6, (eL (eI) eM)), (11, (.fn (.func 45) [] [(.rp (eL cC gK))])), (12, (.msl 3 lo16 0 (List.length s.1))), (39, (eL (eI) t39)), (40, (eI t40)), (41, (eI s.2))] ∧ aM ⟨H0, [], (lD12, .raw oN) :: []⟩ H [(lo16, 3, List.map aR s.1)]) hl0 ⟨lo16, .eq (by kernel_rfl), hO⟩ ?_
      clear hO
      rintro k0 s out1 T H ⟨lo16, hT, hO⟩ h1 ho0
      obtain ⟨eJ, t41⟩ := s
      replace h1 : nQ eM gK t39 t40 eJ t41 = some out1 := h1
      try dsimp only at hT
      refine bF hT ?_
      clear hT
      unfold nQ at h1
      refine aX aB 1 [] [(42, (aE (decide (t41 < t40))))] ?_
      refine aO ?_
      refine bJ h1 (fun h1 => ?_) (fun h1 => ?_)
      · refine bM ?_
        refine bB [(6, (eL (eI) eM)), (11, (.fn (.func 45) [] [(.rp (eL cC gK))])), (12, (.msl 3 lo16 0 (List.length eJ))), (39, (eL (eI) t39)), (40, (eI t40)), (41, (eI t41))] ?_
        refine eV (fun T H => ∃ eJ : List aN, ∃ lo18 : Nat, Has T [(6, (eL (eI) eM)), (11, (.fn (.func 45) [] [(.rp (eL cC gK))])), (12, (.msl 3 lo18 0 (List.length eJ))), (39, (eL (eI) t39)), (40, (eI t40)), (41, (eI t41))] ∧ aM ⟨H0, [], (lD12, .raw oN) :: []⟩ H [(lo18, 3, List.map aR eJ)] ∧ uD eM gK eJ t39 t40 t41 = some out1) ?_ ?_
        · clear hO h1
          rintro T H ⟨eJ, lo18, hT, hO, h1⟩
          refine bF hT ?_
          clear hT
          unfold uD at h1
          refine aS aB 2 ?_
          refine aZ ?_
          exact aF (aH (⟨rfl, _, (oI h1).symm, _, .eq (by kernel_rfl), hO⟩))
        refine bW 3 ?_
        refine aO ?_
        refine aS aB 5 ?_
        obtain ⟨c19, h1⟩ := bA h1
        refine qK [0 ≤ t41 ∧ t41 < (lN t39)] ⟨c19, trivial⟩ ?_
        refine bO [] [(13, (eI t41)), (14, (eI (gD t39 t41)))] ?_
        refine aO ?_
        refine aS aB 4 ?_
        refine bE 2 ?_
        obtain ⟨x20, hx21, h1⟩ := aW h1
        refine cW (PK (gD t39 t41) gK _ hx21) hO ?_
        intro H hO
        refine aZ ?_
        refine bO [] [(15, (eL bT x20))] ?_
        refine aO ?_
        refine aX aB 3 [] [(51, (aE (decide ((lN x20) = (0 : Int)))))] ?_
        refine bJ h1 (fun h1 => ?_) (fun h1 => ?_)
        · refine gG 3 ?_
          exact aF (aY (bU (aH (⟨rfl, _, _, .eq (by kernel_rfl), hO, h1⟩))))
        refine bM ?_
        refine bB [(6, (eL (eI) eM)), (11, (.fn (.func 45) [] [(.rp (eL cC gK))])), (12, (.msl 3 lo16 0 (List.length eJ))), (13, (eI t41)), (14, (eI (gD t39 t41))), (15, (eL bT x20)), (39, (eL (eI) t39)), (40, (eI t40)), (41, (eI t41))] ?_
        refine aO ?_
        refine aX aB 3 [] [(54, (aE (decide ((lN eJ) = (1024 : Int)))))] ?_
        refine bJ h1 (fun h1 => ?_) (fun h1 => ?_)
        · refine aO ?_
          refine aS aB 2 ?_
          refine aZ ?_
          refine dQ [(4, (.sl true 0 (fun _ => .bad))), (5, (eI (7 : Int)))] ?_
          replace hO := hO.pick (L' := []) [] (by decide) (by kernel_rfl)
          refine aF (aH (?_))
          refine bH ?_
          refine dH (l := [(4, (eL aR ([]))), (5, (eI (7 : Int)))]) ⟨[(4, (.sl true 0 (fun _ => .bad))), (5, (eI (7 : Int)))], by kernel_rfl, rfl, ⟨eU, aQ.refl _, trivial⟩⟩ ?_
          obtain rfl := oI h1
          obtain rfl : _ = rr0 := ho0
          replace h0 : some ([], (7 : Int)) = some r := h0
          obtain rfl := oI h0
          have hD := (hO.gm 0 _ rfl).2
          replace hO := (hO.mZ .dead).nC
          exact aF (aU (bD (aU (aU (bD (aU (QM1 (.inr rfl) hD (rs := [.tmp 4, .tmp 5]) (xs := [(eL aR ([])), (eI (7 : Int))]) (x := (.tup [(eL aR ([])), (eI (7 : Int))])) (by kernel_rfl) (CE (x := (eL aR ([]))) (by kernel_rfl) (CE (x := (eI (7 : Int))) (by kernel_rfl) mT)) (by kernel_rfl) ⟨rfl, hO.out⟩)))))))
        refine bM ?_
        refine bB [(6, (eL (eI) eM)), (11, (.fn (.func 45) [] [(.rp (eL cC gK))])), (12, (.msl 3 lo16 0 (List.length eJ))), (13, (eI t41)), (14, (eI (gD t39 t41))), (15, (eL bT x20)), (39, (eL (eI) t39)), (40, (eI t40)), (41, (eI t41))] ?_
        refine aX aB 1 [] [(16, (eI (1125899906842624 : Int)))] ?_
        refine eV (fun T H => ∃ eJ : List aN, ∃ t14 : Int, ∃ sE : (List bG), ∃ yZ : Int, ∃ lo25 : Nat, Has T [(6, (eL (eI) eM)), (11, (.fn (.func 45) [] [(.rp (eL cC gK))])), (12, (.msl 3 lo25 0 (List.length eJ))), (14, (eI t14)), (15, (eL bT sE)), (16, (eI yZ)), (39, (eL (eI) t39)), (40, (eI t40)), (41, (eI t41))] ∧ aM ⟨H0, [], (lD12, .raw oN) :: []⟩ H [(lo25, 3, List.map aR eJ)] ∧ uK eM gK eJ t14 sE yZ t39 t40 t41 = some out1) ?_ ?_
        · clear hO h1
          rintro T H ⟨eJ, t14, sE, yZ, lo25, hT, hO, h1⟩
          refine bF hT ?_
          clear hT
          unfold uK at h1
          refine aS aB 9 ?_
          refine bE 6 ?_
          refine nK (xs := [(aR (aN.mk (bI.mk t14 yZ) sE))]) (k := 3) (by kernel_rfl) (by kernel_rfl) ?_
          obtain ⟨c27, h1⟩ := bA h1
          refine sV (e := aR) eJ ([aN.mk (bI.mk t14 yZ) sE]) 0 lo25 3 40 (eW [(aR (aN.mk (bI.mk t14 yZ) sE))]) (fun lo26 => [(lo26, 3, List.map aR (eJ ++ ([aN.mk (bI.mk t14 yZ) sE])))]) (by kernel_rfl) (by kernel_rfl) hO (by kernel_rfl) (by kernel_rfl) c27 (fun _ => by kernel_rfl) ?_
          intro lo26 H hO
          refine aZ ?_
          exact aF (aV (aH (⟨rfl, _, _, .eq (by kernel_rfl), hO, h1⟩)))
        refine aX aB 5 [] [(59, (aE (decide ((wR (t41 + (1 : Int))) < (lN eM)))))] ?_
        refine bJ h1 (fun h1 => ?_) (fun h1 => ?_)
        · refine aS aB 6 ?_
          obtain ⟨c29, h1⟩ := bA h1
          refine qK [0 ≤ (wR (t41 + (1 : Int))) ∧ (wR (t41 + (1 : Int))) < (lN eM)] ⟨c29, trivial⟩ ?_
          exact aF (aH (⟨rfl, _, _, _, _, _, .eq (by kernel_rfl), hO, h1⟩))
        refine bM ?_
        exact aF (aH (⟨rfl, _, _, _, _, _, .eq (by kernel_rfl), hO, h1⟩))
      refine gG 2 ?_
      obtain rfl := oI h1
      obtain rfl : _ = rr0 := ho0
      replace h0 : xR eJ = some r := h0
      exact aF (aY (aY (bU (aH (⟨rfl, _, _, .eq (by kernel_rfl), hO, h0⟩)))))
    · exact hi.elim

theorem OX (w0 : bY) (l1 : (List aG)) (nI : Int) (t3 : Int) (r : ((List aN) × Int)) (h0 : sJ w0 l1 nI t3 = some r) : dF Try.prog 8 [(cO w0), (eL aD l1), (eI nI), (eI t3)] (.tup [(eL aR r.1), (eI r.2)]) := by
  intro H0
  refine cY Try.func8 ?_
  have hO := aM.start H0
  unfold sJ at h0
  refine aO ?_
  refine aS aB 3 ?_
  refine fQ 3 (cO w0) (by kernel_rfl) (by kernel_rfl) ?_
  refine aZ ?_
  refine bO [0] [(4, (.rp (cO w0)))] ?_
  refine aO ?_
  refine aO ?_
  refine aS aB 5 ?_
  refine bE 3 ?_
  obtain ⟨x1, hx2, h0⟩ := aW h0
  refine cW (EW w0 l1 t3 _ hx2) hO ?_
  intro H hO
  refine aZ ?_
  refine bO [] [(10, (eI x1))] ?_
  refine aX aB 2 [] [(16, (aE (!decide (x1 = (0 : Int)))))] ?_
  refine bJ h0 (fun h0 => ?_) (fun h0 => ?_)
  · refine bV aB 3 [(8, (.sl true 0 (fun _ => .bad))), (9, (eI x1))] ?_
    refine bH ?_
    refine dH (l := [(8, (eL aR ([]))), (9, (eI x1))]) ⟨[(8, (.sl true 0 (fun _ => .bad))), (9, (eI x1))], by kernel_rfl, rfl, ⟨eU, aQ.refl _, trivial⟩⟩ ?_
    obtain rfl := oI h0
    exact aF (aU (Q_r hO))
  refine bM ?_
  refine bB [(1, (eL aD l1)), (2, (eI nI)), (3, (eI t3)), (4, (.rp (cO w0)))] ?_
  refine aO ?_
  refine aX aB 2 [] [(19, (eI w0.Kind))] ?_
  refine bW 0 ?_
  refine aX aB 2 [] [(20, (aE (decide (w0.Kind = (2 : Int)))))] ?_
  refine bJ h0 (fun h0 => ?_) (fun h0 => ?_)
  · refine aO ?_
    refine fX (fZ [24, 26, 30, 31]) aB 14 ?_
    refine kE 8 ?_
    obtain ⟨x6, hx7, h0⟩ := aW h0
    refine zW (QC l1 t3 _ hx7) hO ?_
    intro H hO
    obtain ⟨x9, hx10, h0⟩ := aW h0
    refine zW (YP l1 w0.Size w0.Hop nI x6 _ hx10) hO ?_
    intro H hO
    refine kJ ?_
    refine bB [(8, (eL aR x9.1)), (9, (eI x9.2))] ?_
    refine bH ?_
    obtain rfl := oI h0
    exact aF (bD (aU (Q_r hO)))
  refine aX aB 2 [3, 19, 20] [(34, (aE (decide (w0.Kind = (3 : Int)))))] ?_
  refine bJ h0 (fun h0 => ?_) (fun h0 => ?_)
  · refine aO ?_
    refine aS aB 9 ?_
    refine bE 4 ?_
    obtain ⟨x13, hx14, h0⟩ := aW h0
    refine cW (QH l1 w0.Size nI _ hx14) hO ?_
    intro H hO
    refine aZ ?_
    refine bB [(8, (eL aR x13.1)), (9, (eI x13.2))] ?_
    refine bH ?_
    obtain rfl := oI h0
    exact aF (bD (aU (Q_r hO)))
  refine bM ?_
  refine dQ [(1, (eL aD l1)), (2, (eI nI))] ?_
  refine aF (aV (aH (?_)))
  refine aO ?_
  refine aS aB 7 ?_
  refine bE 2 ?_
  obtain ⟨x16, hx17, h0⟩ := aW h0
  refine cW (XK l1 nI _ hx17) hO ?_
  intro H hO
  refine aZ ?_
  refine bB [(8, (eL aR x16.1)), (9, (eI x16.2))] ?_
  refine bH ?_
  obtain rfl := oI h0
  exact aF (Q_r hO)

theorem IK  (r : Bool) (h0 : sL  = some r) : dF Try.prog 7 [] (aE r) := by
  intro H0
  refine cY Try.func7 ?_
  have hO := aM.start H0
  unfold sL at h0
  refine bV aB 1 [] ?_
  refine aO ?_
  refine aS aB 3 ?_
  refine bE 1 ?_
  refine kK 3 (cO (bY.mk 0 0 0)) (by kernel_rfl) (by kernel_rfl) hO ?_
  intro lo1 H hO
  refine gM 0 lo1 3 0 (cO (bY.mk 0 0 0)) (cO (bY.mk (2 : Int) (10 : Int) (5 : Int))) [(cO (bY.mk 0 0 0))] [(lo1, 3, [(cO (bY.mk (2 : Int) (10 : Int) (5 : Int)))])] hO rfl (by kernel_rfl) ?_
  intro H hO
  refine cX ?_
  refine bB [(1, (.lp lo1 0 0))] ?_
  refine aO ?_
  refine aS aB 8 ?_
  refine bE 1 ?_
  refine nK (xs := [(aJ (aI.mk (1 : Int) (1 : Int) ByteArray.empty))]) (k := 3) (by kernel_rfl) (by kernel_rfl) ?_
  refine bE 4 ?_
  refine nK (xs := [(aJ (aI.mk (1 : Int) (1 : Int) ByteArray.empty))]) (k := 3) (by kernel_rfl) (by kernel_rfl) ?_
  refine bE 6 ?_
  refine nK (xs := [(.agg [(eW [(aJ (aI.mk (1 : Int) (1 : Int) ByteArray.empty))]), (eI (3 : Int)), (eI (1 : Int))]), (.agg [(eW [(aJ (aI.mk (1 : Int) (1 : Int) ByteArray.empty))]), (eI (7 : Int)), (eI (-1 : Int))])]) (k := 3) (by kernel_rfl) (by kernel_rfl) ?_
  refine aZ ?_
  refine dH (l := [(1, (.lp lo1 0 0)), (2, (eL aD ([aG.mk ([aI.mk (1 : Int) (1 : Int) ByteArray.empty]) (3 : Int) (1 : Int), aG.mk ([aI.mk (1 : Int) (1 : Int) ByteArray.empty]) (7 : Int) (-1 : Int)])))]) ⟨[(1, (.lp lo1 0 0)), (2, (eW [(.agg [(eW [(aJ (aI.mk (1 : Int) (1 : Int) ByteArray.empty))]), (eI (3 : Int)), (eI (1 : Int))]), (.agg [(eW [(aJ (aI.mk (1 : Int) (1 : Int) ByteArray.empty))]), (eI (7 : Int)), (eI (-1 : Int))])]))], by kernel_rfl, rfl, ⟨aQ.refl _, (aD3 (e := aD) (xs := [(.agg [(eW [(aJ (aI.mk (1 : Int) (1 : Int) ByteArray.empty))]), (eI (3 : Int)), (eI (1 : Int))]), (.agg [(eW [(aJ (aI.mk (1 : Int) (1 : Int) ByteArray.empty))]), (eI (7 : Int)), (eI (-1 : Int))])]) (l := [aG.mk ([aI.mk (1 : Int) (1 : Int) ByteArray.empty]) (3 : Int) (1 : Int), aG.mk ([aI.mk (1 : Int) (1 : Int) ByteArray.empty]) (7 : Int) (-1 : Int)]) ⟨(xH (xs := [(eW [(aJ (aI.mk (1 : Int) (1 : Int) ByteArray.empty))]), (eI (3 : Int)), (eI (1 : Int))]) (ys := [(eL aJ ([aI.mk (1 : Int) (1 : Int) ByteArray.empty])), (eI (3 : Int)), (eI (1 : Int))]) ⟨VC (l := [aI.mk (1 : Int) (1 : Int) ByteArray.empty]), aQ.refl _, aQ.refl _, trivial⟩), (xH (xs := [(eW [(aJ (aI.mk (1 : Int) (1 : Int) ByteArray.empty))]), (eI (7 : Int)), (eI (-1 : Int))]) (ys := [(eL aJ ([aI.mk (1 : Int) (1 : Int) ByteArray.empty])), (eI (7 : Int)), (eI (-1 : Int))]) ⟨VC (l := [aI.mk (1 : Int) (1 : Int) ByteArray.empty]), aQ.refl _, aQ.refl _, trivial⟩), trivial⟩ rfl), trivial⟩⟩ ?_
  refine aF (aH (?_))
  refine aO ?_
  refine aS aB 8 ?_
  refine iS 0 lo1 3 0 (cO (bY.mk (2 : Int) (10 : Int) (5 : Int))) (cO (bY.mk (2 : Int) (10 : Int) (5 : Int))) [(cO (bY.mk (2 : Int) (10 : Int) (5 : Int)))] hO rfl ?_
  refine bE 2 ?_
  obtain ⟨x2, hx3, h0⟩ := aW h0
  refine cW (zT (bY.mk (2 : Int) (10 : Int) (5 : Int)) ([aG.mk ([aI.mk (1 : Int) (1 : Int) ByteArray.empty]) (3 : Int) (1 : Int), aG.mk ([aI.mk (1 : Int) (1 : Int) ByteArray.empty]) (7 : Int) (-1 : Int)]) (12 : Int) _ hx3) hO ?_
  intro H hO
  refine aZ ?_
  refine bO [] [(3, (eI x2.1)), (4, (eI x2.2))] ?_
  refine aO ?_
  refine aS aB 8 ?_
  refine iS 0 lo1 3 0 (cO (bY.mk (2 : Int) (10 : Int) (5 : Int))) (cO (bY.mk (2 : Int) (10 : Int) (5 : Int))) [(cO (bY.mk (2 : Int) (10 : Int) (5 : Int)))] hO rfl ?_
  refine bE 2 ?_
  obtain ⟨x5, hx6, h0⟩ := aW h0
  refine cW (OX (bY.mk (2 : Int) (10 : Int) (5 : Int)) ([aG.mk ([aI.mk (1 : Int) (1 : Int) ByteArray.empty]) (3 : Int) (1 : Int), aG.mk ([aI.mk (1 : Int) (1 : Int) ByteArray.empty]) (7 : Int) (-1 : Int)]) (0 : Int) (2 : Int) _ hx6) hO ?_
  intro H hO
  refine aZ ?_
  replace hO := hO.pick (L' := []) [] (by decide) (by kernel_rfl)
  refine bO [1, 2] [(5, (eL aR x5.1)), (6, (eI x5.2))] ?_
  refine aO ?_
  refine aS aB 29 ?_
  obtain ⟨c8, h0⟩ := bA h0
  refine rO 25 [((((((decide (x2.1 = (5 : Int))) && (decide (x2.2 = (0 : Int)))) && (decide (x5.2 = (0 : Int)))) && (decide ((lN x5.1) = (1 : Int))))) = true → 0 ≤ (0 : Int) ∧ (0 : Int) < (lN x5.1))] ⟨c8, trivial⟩ ?_
  obtain ⟨x9, hx10, h0⟩ := aW h0
  refine mO [(50, true)] 18 [(cO (bY.mk 0 0 0))] (eI x9) (((((decide (x2.1 = (5 : Int))) && (decide (x2.2 = (0 : Int)))) && (decide (x5.2 = (0 : Int)))) && (decide ((lN x5.1) = (1 : Int)))) && ((decide ((((gD x5.1 (0 : Int)).Span).From) = ((bI.mk 0 (10 : Int)).From))) && ((decide ((((gD x5.1 (0 : Int)).Span).To) = ((bI.mk 0 (10 : Int)).To))) && true))) (by kernel_rfl) (by kernel_rfl) (by kernel_rfl) (fun hb11 => (EV (bY.mk 0 0 0) _ (jP hx10 hb11))) hO ?_
  intro H hO
  refine aZ ?_
  refine bB [(0, (aE ((((((decide (x2.1 = (5 : Int))) && (decide (x2.2 = (0 : Int)))) && (decide (x5.2 = (0 : Int)))) && (decide ((lN x5.1) = (1 : Int)))) && ((decide ((((gD x5.1 (0 : Int)).Span).From) = ((bI.mk 0 (10 : Int)).From))) && ((decide ((((gD x5.1 (0 : Int)).Span).To) = ((bI.mk 0 (10 : Int)).To))) && true))) && (decide (x9 = (2 : Int))))))] ?_
  refine bH ?_
  obtain rfl := oI h0
  exact aF (Q_r hO)

theorem WJ (a0 : (List aI)) (b1 : (List aI)) (r : Bool) (h0 : vM a0 b1 = some r) : dF Try.prog 26 [(eL aJ a0), (eL aJ b1)] (aE r) := by
  intro H0
  refine cY Try.func26 ?_
  have hO := aM.start H0
  unfold vM at h0
  refine aX aB 1 [] [] ?_
  refine aO ?_
  refine aX aB 5 [] [(10, (aE (!decide ((lN a0) = (lN b1)))))] ?_
  refine bJ h0 (fun h0 => ?_) (fun h0 => ?_)
  · refine bV aB 1 [(4, (aE false))] ?_
    refine bH ?_
    obtain rfl := oI h0
    exact aF (aU (Q_r hO))
  refine bM ?_
  refine bB [(0, (eL aJ a0)), (1, (eL aJ b1))] ?_
  refine eV (fun T H => Has T [] ∧ aM ⟨H0, [], []⟩ H [] ∧ uF  = some r) ?_ ?_
  · clear hO h0
    rintro T H ⟨hT, hO, h0⟩
    refine bF hT ?_
    clear hT
    unfold uF at h0
    refine bV aB 1 [(4, (aE true))] ?_
    refine bH ?_
    obtain rfl := oI h0
    exact aF (Q_r hO)
  refine aX aB 1 [] [(5, (eI (0 : Int)))] ?_
  refine bW 0 ?_
  refine eE [(0, (eL aJ a0)), (1, (eL aJ b1)), (5, (eI (0 : Int)))] ?_
  refine eH (fun T H => ∃ i5 : Int, Has T [(0, (eL aJ a0)), (1, (eL aJ b1)), (5, (eI i5))] ∧ aM ⟨H0, [], []⟩ H [] ∧ xP a0 b1 i5 = some r) ?_ ⟨(0 : Int), .eq (by kernel_rfl), hO, h0⟩
  clear hO h0
  rintro T H ⟨i5, hT, hO, h0⟩
  refine bF hT ?_
  clear hT
  unfold xP at h0
  obtain ⟨rr0, hl0, h0⟩ := aW h0
  refine dM (by kernel_rfl) (fun (s : Int) T H => Has T [(0, (eL aJ a0)), (1, (eL aJ b1)), (5, (eI s))] ∧ aM ⟨H0, [], []⟩ H []) hl0 ⟨.eq (by kernel_rfl), hO⟩ ?_
  clear hO
  rintro k0 s out1 T H ⟨hT, hO⟩ h1 ho0
  obtain ⟨i5, rfl⟩ : ∃ x, x = s := ⟨_, rfl⟩
  replace h1 : rB a0 b1 i5 = some out1 := h1
  refine bF hT ?_
  clear hT
  unfold rB at h1
  refine aO ?_
  refine aX aB 4 [] [(14, (aE (decide (i5 < (lN a0)))))] ?_
  refine bJ h1 (fun h1 => ?_) (fun h1 => ?_)
  · refine bM ?_
    refine bB [(0, (eL aJ a0)), (1, (eL aJ b1)), (5, (eI i5))] ?_
    refine aO ?_
    refine bW 1 ?_
    refine aO ?_
    refine fX (fZ [20, 24]) aB 9 ?_
    obtain ⟨c3, h1⟩ := bA h1
    obtain ⟨c4, h1⟩ := bA h1
    refine OG (Ds := [0 ≤ i5 ∧ i5 < (lN a0), 0 ≤ i5 ∧ i5 < (lN b1)]) (by kernel_rfl) ⟨c3, c4, trivial⟩ ?_
    refine bO [] [(25, (aE (!((decide (((gD a0 i5).Kind) = ((gD b1 i5).Kind))) && ((decide (((gD a0 i5).Num) = ((gD b1 i5).Num))) && ((pN ((gD a0 i5).Text) ((gD b1 i5).Text)) && true))))))] ?_
    refine bJ h1 (fun h1 => ?_) (fun h1 => ?_)
    · refine bV aB 1 [(4, (aE false))] ?_
      refine bH ?_
      obtain rfl := oI h1
      obtain rfl : _ = rr0 := ho0
      replace h0 : some false = some r := h0
      obtain rfl := oI h0
      exact aF (bD (aU (aU (bD (aU (Q_r hO))))))
    refine bM ?_
    refine dQ [(0, (eL aJ a0)), (1, (eL aJ b1)), (5, (eI i5))] ?_
    refine aF (aV (aH (?_)))
    refine aS aB 3 ?_
    refine aZ ?_
    exact aF (aH (⟨rfl, _, (oI h1).symm, .eq (by kernel_rfl), hO⟩))
  refine gG 0 ?_
  obtain rfl := oI h1
  obtain rfl : _ = rr0 := ho0
  replace h0 : uF  = some r := h0
  exact aF (aY (aY (bU (aH (⟨rfl, .eq (by kernel_rfl), hO, h0⟩)))))

theorem UX (f0 : (List aC)) (t1 : Int) (r : ((List aC) × Int)) (h0 : vH f0 t1 = some r) : dF Try.prog 25 [(eL aK f0), (eI t1)] (.tup [(eL aK r.1), (eI r.2)]) := by
  intro H0
  refine cY Try.func25 ?_
  have hO := aM.start H0
  unfold vH at h0
  refine aX aB 2 [] [] ?_
  refine aO ?_
  refine aO ?_
  refine aS aB 3 ?_
  refine bE 1 ?_
  obtain ⟨x1, hx2, h0⟩ := aW h0
  refine cW (wI f0 _ hx2) hO ?_
  intro H hO
  refine aZ ?_
  refine bO [] [(12, (aE (!x1)))] ?_
  refine bJ h0 (fun h0 => ?_) (fun h0 => ?_)
  · refine bV aB 2 [(4, (.sl true 0 (fun _ => .bad))), (5, (eI (2 : Int)))] ?_
    refine bH ?_
    refine dH (l := [(4, (eL aK ([]))), (5, (eI (2 : Int)))]) ⟨[(4, (.sl true 0 (fun _ => .bad))), (5, (eI (2 : Int)))], by kernel_rfl, rfl, ⟨eU, aQ.refl _, trivial⟩⟩ ?_
    obtain rfl := oI h0
    exact aF (aU (Q_r hO))
  refine bM ?_
  refine bB [(0, (eL aK f0)), (1, (eI t1))] ?_
  refine aO ?_
  refine aX aB 2 [] [(14, (aE (decide ((1125899906842624 : Int) ≤ t1))))] ?_
  refine bJ h0 (fun h0 => ?_) (fun h0 => ?_)
  · refine aO ?_
    refine aS aB 4 ?_
    refine bE 1 ?_
    obtain ⟨x6, hx7, h0⟩ := aW h0
    refine aAb (L' := fun lo8 => [(lo8, 2, List.map aK x6)]) 2 (List.map aK x6) 37 [(eL aK f0)] (fun lo8 => (.msl 2 lo8 0 (List.length x6))) (by kernel_rfl) (by kernel_rfl) (yA f0 _ hx7) hO (fun _ => by kernel_rfl) ?_
    intro lo8 H hO
    refine aZ ?_
    refine bB [(4, (.msl 2 lo8 0 (List.length x6))), (5, (eI (0 : Int)))] ?_
    refine bH ?_
    refine dQ [(4, (.msl 2 lo8 0 (List.length x6))), (5, (eI (0 : Int)))] ?_
    refine sX (en := aK) x6 0 0 4 2 lo8 (List.length x6) hO (by kernel_rfl) (by kernel_rfl) (by kernel_rfl) (L' := []) (by kernel_rfl) ?_
    intro H9 hO
    obtain rfl := oI h0
    exact aF (aU (Q_r hO))
  refine bM ?_
  refine bB [(0, (eL aK f0)), (1, (eI t1))] ?_
  refine aO ?_
  refine aS aB 3 ?_
  refine nK (xs := []) (k := 2) (by kernel_rfl) (by kernel_rfl) ?_
  refine aZ ?_
  refine bO [] [(6, (.sl true 0 (fun _ => .bad))), (7, (eI (0 : Int)))] ?_
  refine eV (fun T H => ∃ out6 : List aC, ∃ v7 : Int, ∃ lo10 : Nat, Has T [(1, (eI t1)), (6, (.msl 2 lo10 0 (List.length out6))), (7, (eI v7))] ∧ aM ⟨H0, [], []⟩ H [(lo10, 2, List.map aK out6)] ∧ rA t1 out6 v7 = some r) ?_ ?_
  · clear hO h0
    rintro T H ⟨out6, v7, lo10, hT, hO, h0⟩
    refine bF hT ?_
    clear hT
    unfold rA at h0
    refine eV (fun T H => ∃ out6 : List aC, ∃ lo11 : Nat, Has T [(6, (.msl 2 lo11 0 (List.length out6)))] ∧ aM ⟨H0, [], []⟩ H [(lo11, 2, List.map aK out6)] ∧ uA out6 = some r) ?_ ?_
    · clear hO h0
      rintro T H ⟨out6, lo11, hT, hO, h0⟩
      refine bF hT ?_
      clear hT
      unfold uA at h0
      refine aO ?_
      refine aS aB 6 ?_
      refine IW (e := aK) out6 0 6 2 lo11 (List.length out6) [] (by kernel_rfl) hO (by kernel_rfl) (by kernel_rfl) (by kernel_rfl) (by kernel_rfl) ?_
      intro H hO
      refine bE 1 ?_
      obtain ⟨x12, hx13, h0⟩ := aW h0
      refine cW (YM out6 _ hx13) hO ?_
      intro H hO
      refine aZ ?_
      refine bB [(4, (eL aK x12.1)), (5, (eI x12.2))] ?_
      refine bH ?_
      obtain rfl := oI h0
      exact aF (Q_r hO)
    refine aX aB 2 [] [(38, (aE (!decide (v7 = (0 : Int)))))] ?_
    refine bJ h0 (fun h0 => ?_) (fun h0 => ?_)
    · refine aS aB 8 ?_
      refine bE 5 ?_
      refine nK (xs := [(aK (aC.mk t1 (wR (0 - v7))))]) (k := 2) (by kernel_rfl) (by kernel_rfl) ?_
      obtain ⟨c17, h0⟩ := bA h0
      refine sV (e := aK) out6 ([aC.mk t1 (wR (0 - v7))]) 0 lo10 2 16 (eW [(aK (aC.mk t1 (wR (0 - v7))))]) (fun lo16 => [(lo16, 2, List.map aK (out6 ++ ([aC.mk t1 (wR (0 - v7))])))]) (by kernel_rfl) (by kernel_rfl) hO (by kernel_rfl) (by kernel_rfl) c17 (fun _ => by kernel_rfl) ?_
      intro lo16 H hO
      refine aZ ?_
      exact aF (aH (⟨rfl, _, _, .eq (by kernel_rfl), hO, h0⟩))
    refine bM ?_
    exact aF (aH (⟨rfl, _, _, .eq (by kernel_rfl), hO, h0⟩))
  refine aX aB 3 [0] [(18, (eL aK f0)), (19, (eI (lN f0))), (20, (eI (0 : Int)))] ?_
  refine bW 0 ?_
  refine eE [(1, (eI t1)), (6, (.sl true 0 (fun _ => .bad))), (7, (eI (0 : Int))), (18, (eL aK f0)), (19, (eI (lN f0))), (20, (eI (0 : Int)))] ?_
  refine IP (el := (fun _ => .bad)) 1 6 2 hO (by kernel_rfl) ?_
  intro lo26 H27 hO
  refine eH (fun T H => ∃ out6 : List aC, ∃ v7 : Int, ∃ t18 : (List aC), ∃ t19 : Int, ∃ t20 : Int, ∃ lo19 : Nat, Has T [(1, (eI t1)), (6, (.msl 2 lo19 0 (List.length out6))), (7, (eI v7)), (18, (eL aK t18)), (19, (eI t19)), (20, (eI t20))] ∧ aM ⟨H0, [], []⟩ H [(lo19, 2, List.map aK out6)] ∧ xW t1 out6 v7 t18 t19 t20 = some r) ?_ ⟨([] : List aC), (0 : Int), f0, (lN f0), (0 : Int), lo26, .eq (by kernel_rfl), hO, h0⟩
  clear hO h0
  rintro T H ⟨out6, v7, t18, t19, t20, lo19, hT, hO, h0⟩
  refine bF hT ?_
  clear hT
  unfold xW at h0
  obtain ⟨rr0, hl0, h0⟩ := aW h0
  refine dM (by kernel_rfl) (fun (s : List aC × Int × Int) T H => ∃ lo19 : Nat, Has T [(1, (eI t1)), (6, (.msl 2 lo19 0 (List.length s.1))), (7, (eI s.2.1)), (18, (eL aK t18)), (19, (eI t19)), (20, (eI s.2.2))] ∧ aM ⟨H0, [], []⟩ H [(lo19, 2, List.map aK s.1)]) hl0 ⟨lo19, .eq (by kernel_rfl), hO⟩ ?_
  clear hO
  rintro k0 s out1 T H ⟨lo19, hT, hO⟩ h1 ho0
  obtain ⟨out6, v7, t20⟩ := s
  replace h1 : lT t1 t18 t19 out6 v7 t20 = some out1 := h1
  try dsimp only at hT
  refine bF hT ?_
  clear hT
  unfold lT at h1
  refine aX aB 1 [] [(21, (aE (decide (t20 < t19))))] ?_
  refine aO ?_
  refine bJ h1 (fun h1 => ?_) (fun h1 => ?_)
  · refine bM ?_
    refine bB [(1, (eI t1)), (6, (.msl 2 lo19 0 (List.length out6))), (7, (eI v7)), (18, (eL aK t18)), (19, (eI t19)), (20, (eI t20))] ?_
    refine aO ?_
    refine bW 1 ?_
    refine aO ?_
    refine aS aB 4 ?_
    obtain ⟨c21, h1⟩ := bA h1
    refine rO 2 [0 ≤ t20 ∧ t20 < (lN t18)] ⟨c21, trivial⟩ ?_
    refine kK 2 (aK (aC.mk 0 0)) (by kernel_rfl) (by kernel_rfl) hO ?_
    intro lo22 H hO
    refine gM 1 lo22 2 0 (aK (aC.mk 0 0)) (aK (gD t18 t20)) [(aK (aC.mk 0 0))] [(lo19, 2, List.map aK out6), (lo22, 2, [(aK (gD t18 t20))])] hO rfl (by kernel_rfl) ?_
    intro H hO
    refine cX ?_
    refine bO [] [(9, (.lp lo22 0 0))] ?_
    refine aO ?_
    refine aO ?_
    refine aS aB 4 ?_
    refine bE 1 ?_
    refine iS 1 lo22 2 0 (aK (gD t18 t20)) (eI ((gD t18 t20).At)) [(aK (gD t18 t20))] hO rfl ?_
    refine aZ ?_
    refine bO [] [(27, (aE (decide (t1 ≤ ((gD t18 t20).At)))))] ?_
    refine bJ h1 (fun h1 => ?_) (fun h1 => ?_)
    · refine gG 0 ?_
      replace hO := hO.pick (L' := [(lo19, 2, List.map aK out6)]) [0] (by decide) (by kernel_rfl)
      obtain rfl := oI h1
      obtain rfl : _ = rr0 := ho0
      replace h0 : rA t1 out6 v7 = some r := h0
      exact aF (aY (rS (by kernel_rfl) (aY (aY (bU (aH (⟨rfl, _, _, _, .eq (by kernel_rfl), hO, h0⟩)))))))
    refine bM ?_
    refine bB [(1, (eI t1)), (6, (.msl 2 lo19 0 (List.length out6))), (7, (eI v7)), (9, (.lp lo22 0 0)), (18, (eL aK t18)), (19, (eI t19)), (20, (eI t20))] ?_
    refine aO ?_
    refine aS aB 5 ?_
    refine bE 1 ?_
    refine iS 1 lo22 2 0 (aK (gD t18 t20)) (aK (gD t18 t20)) [(aK (gD t18 t20))] hO rfl ?_
    refine nK (xs := [(aK (gD t18 t20))]) (k := 2) (by kernel_rfl) (by kernel_rfl) ?_
    obtain ⟨c25, h1⟩ := bA h1
    refine sV (e := aK) out6 ([gD t18 t20]) 0 lo19 2 16 (eW [(aK (gD t18 t20))]) (fun lo24 => [(lo24, 2, List.map aK (out6 ++ ([gD t18 t20]))), (lo22, 2, [(aK (gD t18 t20))])]) (by kernel_rfl) (by kernel_rfl) hO (by kernel_rfl) (by kernel_rfl) c25 (fun _ => by kernel_rfl) ?_
    intro lo24 H hO
    refine aZ ?_
    refine bO [6] [(6, (.msl 2 lo24 0 (List.length (out6 ++ ([gD t18 t20])))))] ?_
    refine aS aB 5 ?_
    refine bE 2 ?_
    refine iS 1 lo22 2 0 (aK (gD t18 t20)) (eI ((gD t18 t20).Net)) [(aK (gD t18 t20))] hO rfl ?_
    refine aZ ?_
    refine dQ [(1, (eI t1)), (6, (.msl 2 lo24 0 (List.length (out6 ++ ([gD t18 t20]))))), (7, (eI (wR (v7 + ((gD t18 t20).Net))))), (18, (eL aK t18)), (19, (eI t19)), (20, (eI t20))] ?_
    replace hO := hO.pick (L' := [(lo24, 2, List.map aK (out6 ++ ([gD t18 t20])))]) [0] (by decide) (by kernel_rfl)
    refine aF (aV (aH (?_)))
    refine aS aB 2 ?_
    refine aZ ?_
    exact aF (aH (⟨rfl, _, (oI h1).symm, _, .eq (by kernel_rfl), hO⟩))
  refine gG 0 ?_
  obtain rfl := oI h1
  obtain rfl : _ = rr0 := ho0
  replace h0 : rA t1 out6 v7 = some r := h0
  exact aF (aY (aY (bU (aH (⟨rfl, _, _, _, .eq (by kernel_rfl), hO, h0⟩)))))

theorem PA (f0 : (List aC)) (t1 : Int) (r : ((List aC) × Int)) (h0 : qA f0 t1 = some r) : dF Try.prog 24 [(eL aK f0), (.rp (eI t1))] (.tup [(eL aK r.1), (eI r.2)]) := by
  intro H0
  refine cY Try.func24 ?_
  have hO := aM.start H0
  unfold qA at h0
  refine aX aB 2 [] [] ?_
  refine aO ?_
  refine aS aB 7 ?_
  refine bE 2 ?_
  obtain ⟨x1, hx2, h0⟩ := aW h0
  refine cW (UX f0 t1 _ hx2) hO ?_
  intro H hO
  refine aZ ?_
  refine bB [(3, (eL aK x1.1)), (4, (eI x1.2))] ?_
  refine bH ?_
  obtain rfl := oI h0
  exact aF (Q_r hO)

theorem JJ (l0 : (List aG)) (t1 : Int) (r : ((List aG) × Int)) (h0 : sC l0 t1 = some r) : dF Try.prog 10 [(eL aD l0), (eI t1)] (.tup [(eL aD r.1), (eI r.2)]) := by
  intro H0
  refine cY Try.func10 ?_
  have hO := aM.start H0
  unfold sC at h0
  refine aO ?_
  refine aS aB 3 ?_
  refine fQ 1 (eI t1) (by kernel_rfl) (by kernel_rfl) ?_
  refine aZ ?_
  refine bO [1] [(3, (.rp (eI t1)))] ?_
  refine aO ?_
  refine aS aB 7 ?_
  refine bE 2 ?_
  obtain ⟨x1, hx2, h0⟩ := aW h0
  refine cW (aA0 l0 24 [] [(.rp (eI t1))] (fun y0 => qA y0 t1) (fun y0 r h => PA y0 t1 r h) _ hx2) hO ?_
  intro H hO
  refine aZ ?_
  refine bB [(4, (eL aD x1.1)), (5, (eI x1.2))] ?_
  refine bH ?_
  obtain rfl := oI h0
  exact aF (Q_r hO)

theorem UL (a0 : (List aG)) (b1 : (List aG)) (r : Bool) (h0 : vP a0 b1 = some r) : dF Try.prog 11 [(eL aD a0), (eL aD b1)] (aE r) := by
  intro H0
  refine cY Try.func11 ?_
  have hO := aM.start H0
  unfold vP at h0
  refine aX aB 1 [] [] ?_
  refine aO ?_
  refine aX aB 5 [] [(10, (aE (!decide ((lN a0) = (lN b1)))))] ?_
  refine bJ h0 (fun h0 => ?_) (fun h0 => ?_)
  · refine bV aB 1 [(4, (aE false))] ?_
    refine bH ?_
    obtain rfl := oI h0
    exact aF (aU (Q_r hO))
  refine bM ?_
  refine bB [(0, (eL aD a0)), (1, (eL aD b1))] ?_
  refine eV (fun T H => Has T [] ∧ aM ⟨H0, [], []⟩ H [] ∧ tZ  = some r) ?_ ?_
  · clear hO h0
    rintro T H ⟨hT, hO, h0⟩
    refine bF hT ?_
    clear hT
    unfold tZ at h0
    refine bV aB 1 [(4, (aE true))] ?_
    refine bH ?_
    obtain rfl := oI h0
    exact aF (Q_r hO)
  refine aX aB 1 [] [(5, (eI (0 : Int)))] ?_
  refine bW 0 ?_
  refine eE [(0, (eL aD a0)), (1, (eL aD b1)), (5, (eI (0 : Int)))] ?_
  refine eH (fun T H => ∃ i5 : Int, Has T [(0, (eL aD a0)), (1, (eL aD b1)), (5, (eI i5))] ∧ aM ⟨H0, [], []⟩ H [] ∧ xT a0 b1 i5 = some r) ?_ ⟨(0 : Int), .eq (by kernel_rfl), hO, h0⟩
  clear hO h0
  rintro T H ⟨i5, hT, hO, h0⟩
  refine bF hT ?_
  clear hT
  unfold xT at h0
  obtain ⟨rr0, hl0, h0⟩ := aW h0
  refine dM (by kernel_rfl) (fun (s : Int) T H => Has T [(0, (eL aD a0)), (1, (eL aD b1)), (5, (eI s))] ∧ aM ⟨H0, [], []⟩ H []) hl0 ⟨.eq (by kernel_rfl), hO⟩ ?_
  clear hO
  rintro k0 s out1 T H ⟨hT, hO⟩ h1 ho0
  obtain ⟨i5, rfl⟩ : ∃ x, x = s := ⟨_, rfl⟩
  replace h1 : qY a0 b1 i5 = some out1 := h1
  refine bF hT ?_
  clear hT
  unfold qY at h1
  refine aO ?_
  refine aX aB 4 [] [(14, (aE (decide (i5 < (lN a0)))))] ?_
  refine bJ h1 (fun h1 => ?_) (fun h1 => ?_)
  · refine bM ?_
    refine bB [(0, (eL aD a0)), (1, (eL aD b1)), (5, (eI i5))] ?_
    refine aO ?_
    refine bW 1 ?_
    refine aO ?_
    obtain ⟨c3, h1⟩ := bA h1
    obtain ⟨c4, h1⟩ := bA h1
    obtain ⟨c5, h1⟩ := bA h1
    obtain ⟨c6, h1⟩ := bA h1
    obtain ⟨c7, h1⟩ := bA h1
    obtain ⟨c8, h1⟩ := bA h1
    obtain ⟨x9, hx10, h1⟩ := aW h1
    refine fX (fZ [21, 26, 33, 38, 46, 51]) aB 38 ?_
    refine rL (K := fun T H => Has (lift T) [(0, (eL aD a0)), (1, (eL aD b1)), (5, (eI i5)), (54, (aE (((!decide (((gD a0 i5).At) = ((gD b1 i5).At))) || (!decide (((gD a0 i5).Net) = ((gD b1 i5).Net)))) || (!x9))))] ∧ aM ⟨H0, [], []⟩ H []) ?_ ?_
    · refine cJ 12 [0 ≤ i5 ∧ i5 < (lN a0), 0 ≤ i5 ∧ i5 < (lN b1)] ⟨c3, c4, trivial⟩ ?_
      refine oR (t := 28) (e := !decide (((gD a0 i5).At) = ((gD b1 i5).At))) (by kernel_rfl) (fun hg11 => ?_) (fun hg11 => ?_)
      · refine kJ ?_
        exact ⟨⟨[(0, (eL aD a0)), (1, (eL aD b1)), (5, (eI i5)), (54, (aE true))], by kernel_rfl, rfl, ⟨aQ.refl _, aQ.refl _, aQ.refl _, aQ.eq (congrArg aE (GB (GB hg11 rfl) rfl).symm), trivial⟩⟩, hO⟩
      refine cJ 25 [0 ≤ i5 ∧ i5 < (lN a0), 0 ≤ i5 ∧ i5 < (lN b1)] ⟨(c5 (NC hg11)), (c6 (NC hg11)), trivial⟩ ?_
      refine oR (t := 41) (e := !decide (((gD a0 i5).Net) = ((gD b1 i5).Net))) (by kernel_rfl) (fun hg12 => ?_) (fun hg12 => ?_)
      · refine kJ ?_
        exact ⟨⟨[(0, (eL aD a0)), (1, (eL aD b1)), (5, (eI i5)), (54, (aE true))], by kernel_rfl, rfl, ⟨aQ.refl _, aQ.refl _, aQ.refl _, aQ.eq (congrArg aE (GB (GB hg11 hg12) rfl).symm), trivial⟩⟩, hO⟩
      refine cJ 35 [0 ≤ i5 ∧ i5 < (lN a0), 0 ≤ i5 ∧ i5 < (lN b1)] ⟨(c7 (NC (GB hg11 hg12))), (c8 (NC (GB hg11 hg12))), trivial⟩ ?_
      refine pV 26 [(eL aJ ((gD a0 i5).Row)), (eL aJ ((gD b1 i5).Row))] (aE x9) (by kernel_rfl) (by kernel_rfl) (WJ ((gD a0 i5).Row) ((gD b1 i5).Row) _ (jP hx10 (NC (GB hg11 hg12)))) hO ?_
      intro H hO
      refine kJ ?_
      exact ⟨⟨[(0, (eL aD a0)), (1, (eL aD b1)), (5, (eI i5)), (54, (aE (!x9)))], by kernel_rfl, rfl, ⟨aQ.refl _, aQ.refl _, aQ.refl _, aQ.eq (congrArg aE (GB (GB hg11 hg12) rfl).symm), trivial⟩⟩, hO⟩
    · rintro T H ⟨hT, hO⟩
      refine dH hT ?_
      clear hT
      refine aF (aH ?_)
      refine bJ h1 (fun h1 => ?_) (fun h1 => ?_)
      · refine bV aB 1 [(4, (aE false))] ?_
        refine bH ?_
        obtain rfl := oI h1
        obtain rfl : _ = rr0 := ho0
        replace h0 : some false = some r := h0
        obtain rfl := oI h0
        exact aF (bD (aU (aU (bD (aU (Q_r hO))))))
      refine bM ?_
      refine dQ [(0, (eL aD a0)), (1, (eL aD b1)), (5, (eI i5))] ?_
      refine aF (aV (aH (?_)))
      refine aS aB 3 ?_
      refine aZ ?_
      exact aF (aH (⟨rfl, _, (oI h1).symm, .eq (by kernel_rfl), hO⟩))
  refine gG 0 ?_
  obtain rfl := oI h1
  obtain rfl : _ = rr0 := ho0
  replace h0 : tZ  = some r := h0
  exact aF (aY (aY (bU (aH (⟨rfl, .eq (by kernel_rfl), hO, h0⟩)))))

theorem HE (w0 : bY) (l1 : (List aG)) (m2 : (List aG)) (t3 : Int) (u4 : Int) (r : Bool) (h0 : qM w0 l1 m2 t3 u4 = some r) : dF Try.prog 4 [(cO w0), (eL aD l1), (eL aD m2), (eI t3), (eI u4)] (aE r) := by
  intro H0
  refine cY Try.func4 ?_
  have hO := aM.start H0
  unfold qM at h0
  refine aO ?_
  refine aS aB 2 ?_
  refine fQ 3 (cO w0) (by kernel_rfl) (by kernel_rfl) ?_
  refine aZ ?_
  refine bO [0] [(5, (.rp (cO w0)))] ?_
  refine aO ?_
  refine aS aB 8 ?_
  refine bE 2 ?_
  obtain ⟨x1, hx2, h0⟩ := aW h0
  refine cW (JJ l1 t3 _ hx2) hO ?_
  intro H hO
  refine aZ ?_
  refine bO [] [(11, (eL aD x1.1)), (12, (eI x1.2))] ?_
  refine aO ?_
  refine aS aB 8 ?_
  refine bE 2 ?_
  obtain ⟨x4, hx5, h0⟩ := aW h0
  refine cW (JJ m2 t3 _ hx5) hO ?_
  intro H hO
  refine aZ ?_
  refine bO [] [(13, (eL aD x4.1)), (14, (eI x4.2))] ?_
  refine aO ?_
  refine aO ?_
  refine aS aB 21 ?_
  refine bE 9 ?_
  obtain ⟨x7, hx8, h0⟩ := aW h0
  refine mO [(37, false)] 11 [(eL aD x1.1), (eL aD x4.1)] (aE x7) (!((!decide (x1.2 = (0 : Int))) || (!decide (x4.2 = (0 : Int))))) (by kernel_rfl) (by kernel_rfl) (by kernel_rfl) (fun hb9 => (UL x1.1 x4.1 _ (jP hx8 hb9))) hO ?_
  intro H hO
  refine aZ ?_
  refine bO [11, 12, 13, 14] [(51, (aE (((((!decide (x1.2 = (0 : Int))) || (!decide (x4.2 = (0 : Int)))) || (!x7)) || (decide (u4 < t3))) || (decide ((1125899906842624 : Int) ≤ t3)))))] ?_
  refine bJ h0 (fun h0 => ?_) (fun h0 => ?_)
  · refine aO ?_
    refine aS aB 2 ?_
    obtain ⟨x11, hx12, h0⟩ := aW h0
    refine cW (IK  _ hx12) hO ?_
    intro H hO
    refine aZ ?_
    refine bB [(10, (aE x11))] ?_
    refine bH ?_
    obtain rfl := oI h0
    exact aF (aU (Q_r hO))
  refine bM ?_
  refine bB [(1, (eL aD l1)), (2, (eL aD m2)), (3, (eI t3)), (4, (eI u4)), (5, (.rp (cO w0)))] ?_
  refine aO ?_
  refine aS aB 9 ?_
  refine bE 3 ?_
  obtain ⟨x14, hx15, h0⟩ := aW h0
  refine cW (zT w0 l1 t3 _ hx15) hO ?_
  intro H hO
  refine aZ ?_
  refine bO [1, 3] [(15, (eI x14.1)), (16, (eI x14.2))] ?_
  refine aO ?_
  refine aS aB 9 ?_
  refine bE 3 ?_
  obtain ⟨x17, hx18, h0⟩ := aW h0
  refine cW (zT w0 m2 u4 _ hx18) hO ?_
  intro H hO
  refine aZ ?_
  refine bO [2, 4, 5] [(17, (eI x17.1)), (18, (eI x17.2))] ?_
  refine aO ?_
  refine aS aB 15 ?_
  obtain ⟨x20, hx21, h0⟩ := aW h0
  refine cW (IK  _ hx21) hO ?_
  intro H hO
  refine aZ ?_
  refine bB [(10, (aE (x20 && (((!decide (x14.2 = (0 : Int))) || (!decide (x17.2 = (0 : Int)))) || (decide (x14.1 ≤ x17.1))))))] ?_
  refine bH ?_
  obtain rfl := oI h0
  exact aF (Q_r hO)

end Go.Abs
namespace Go.Abs
open Go Go.RowKit Go.Proofs
theorem HD {H : Type} {enc : TypeId × Value → H} {w : World} : wK enc Try.prog w 24 cO xV :=
  CP Try.underlying24 (by kernel_rfl) (oJ (c' := CW) (ok' := xV) (fun (a : Int) (b : Int × Int × Unit) => (bY.mk a b.1 b.2.1 : bY)) (by kernel_rfl) (vT Try.underlying22) (oJ (c' := fun (b : Int × Int × Unit) => (V.cells (cQ .i64 b.1) ++ (V.cells (cQ .i64 b.2.1) ++ []))) (ok' := fun b => (tL b.1 ∧ (tL b.2.1 ∧ True))) (fun a b => (a, b)) (by kernel_rfl) (vT Try.underlying3) (oJ (c' := fun (b : Int × Unit) => (V.cells (cQ .i64 b.1) ++ [])) (ok' := fun b => (tL b.1 ∧ True)) (fun a b => (a, b)) (by kernel_rfl) (vT Try.underlying3) (FW ()) (fun _ _ => rfl) (fun _ _ h1 h2 => ⟨h1, h2⟩)) (fun _ _ => rfl) (fun _ _ h1 h2 => ⟨h1, h2⟩)) (fun _ _ => rfl) (fun _ _ h1 h2 => ⟨h1, h2⟩))

theorem HS {H : Type} {enc : TypeId × Value → H} {w : World} : wK enc Try.prog w 49 aJ DA :=
  CP Try.underlying49 (by kernel_rfl) (oJ (c' := KP) (ok' := DA) (fun (a : Int) (b : Int × ByteArray × Unit) => (aI.mk a b.1 b.2.1 : aI)) (by kernel_rfl) (vT Try.underlying47) (oJ (c' := fun (b : Int × ByteArray × Unit) => (V.cells (cQ .i64 b.1) ++ (V.cells (zS b.2.1) ++ []))) (ok' := fun b => (tL b.1 ∧ ((fun s => s.size ≤ maxLen) b.2.1 ∧ True))) (fun a b => (a, b)) (by kernel_rfl) (vT Try.underlying3) (oJ (c' := fun (b : ByteArray × Unit) => (V.cells (zS b.1) ++ [])) (ok' := fun b => ((fun s => s.size ≤ maxLen) b.1 ∧ True)) (fun a b => (a, b)) (by kernel_rfl) (WN Try.underlying9) (FW ()) (fun _ _ => rfl) (fun _ _ h1 h2 => ⟨h1, h2⟩)) (fun _ _ => rfl) (fun _ _ h1 h2 => ⟨h1, h2⟩)) (fun _ _ => rfl) (fun _ _ h1 h2 => ⟨h1, h2⟩))

theorem BI {H : Type} {enc : TypeId × Value → H} {w : World} : wK enc Try.prog w 53 aD rP :=
  CP Try.underlying53 (by kernel_rfl) (oJ (c' := MQ) (ok' := rP) (fun (a : (List aI)) (b : Int × Int × Unit) => (aG.mk a b.1 b.2.1 : aG)) (by kernel_rfl) (YT Try.underlying51 (by decide +kernel) (fun _ => by kernel_rfl) (fun _ => rfl) HS (by kernel_rfl)) (oJ (c' := fun (b : Int × Int × Unit) => (V.cells (cQ .i64 b.1) ++ (V.cells (cQ .i64 b.2.1) ++ []))) (ok' := fun b => (tL b.1 ∧ (tL b.2.1 ∧ True))) (fun a b => (a, b)) (by kernel_rfl) (vT Try.underlying3) (oJ (c' := fun (b : Int × Unit) => (V.cells (cQ .i64 b.1) ++ [])) (ok' := fun b => (tL b.1 ∧ True)) (fun a b => (a, b)) (by kernel_rfl) (vT Try.underlying3) (FW ()) (fun _ _ => rfl) (fun _ _ h1 h2 => ⟨h1, h2⟩)) (fun _ _ => rfl) (fun _ _ h1 h2 => ⟨h1, h2⟩)) (fun _ _ => rfl) (fun _ _ h1 h2 => ⟨h1, h2⟩))

end Go.Abs
namespace Go.Abs
open Go
theorem cT {n : Int} (h1 : -9223372036854775808 ≤ n) (h2 : n ≤ 9223372036854775807) : IntKind.i64.wrap n = n := by
  simp only [IntKind.wrap, IntKind.bits, IntKind.signed]
  simp
  split <;> omega

def oW {α st R : Type} (step : st → α → Option (st ⊕ R)) (fin : st → R) : st → List α → Option R
  | s, [] => some (fin s)
  | s, a :: r => match step s a with
    | some (.inl s') => oW step fin s' r
    | some (.inr x) => some x
    | none => none

theorem FU {α st R : Type} {step : st → α → Option (st ⊕ R)} {fin : st → R} {s s' : st} {a : α} {r : List α} (h : step s a = some (.inl s')) : oW step fin s (a :: r) = oW step fin s' r := by
  simp only [oW, h]

theorem GS {α st R : Type} {step : st → α → Option (st ⊕ R)} {fin : st → R} {s : st} {x : R} {a : α} {r : List α} (h : step s a = some (.inr x)) : oW step fin s (a :: r) = some x := by
  simp only [oW, h]

theorem ZF {α S st R : Type} {body : S → Option (S ⊕ R)} {l : List α} (mk : st → Int → S) (step : st → α → Option (st ⊕ R)) (fin : st → R)
    (hn : ∀ (i : Nat) a s, l[i]? = some a → (∀ s', step s a = some (.inl s') → body (mk s i) = some (.inl (mk s' ((i + 1 : Nat) : Int)))) ∧ (∀ x, step s a = some (.inr x) → body (mk s i) = some (.inr x)))
    (he : ∀ s, body (mk s (l.length : Nat)) = some (.inr (fin s))) : ∀ (m k : Nat) (s : st) (r : R), l.length - k = m → k ≤ l.length → oW step fin s (l.drop k) = some r → lp body (mk s k) = some r
  | 0, k, s, r, hm, hk, h => by
    have : k = l.length := by omega
    subst this
    rw [List.drop_length] at h
    simp only [oW, Option.some.injEq] at h
    subst h
    exact cV (he s)
  | m + 1, k, s, r, hm, hk, h => by
    have hlt : k < l.length := by omega
    have hd : l.drop k = l[k] :: l.drop (k + 1) := List.drop_eq_getElem_cons hlt
    rw [hd] at h
    simp only [oW] at h
    obtain ⟨h1, h2⟩ := hn k l[k] s (List.getElem?_eq_getElem hlt)
    split at h
    · rename_i s' hs
      rw [fO (h1 s' hs)]
      exact ZF mk step fin hn he m (k + 1) s' r (by omega) (by omega) h
    · rename_i x hs
      simp at h; subst h
      exact cV (h2 x hs)
    · cases h

theorem VN {α S st R : Type} {body : S → Option (S ⊕ R)} {l : List α} (mk : st → Int → S) (step : st → α → Option (st ⊕ R)) (fin : st → R)
    (hn : ∀ (i : Nat) a s, l[i]? = some a → (∀ s', step s a = some (.inl s') → body (mk s i) = some (.inl (mk s' ((i + 1 : Nat) : Int)))) ∧ (∀ x, step s a = some (.inr x) → body (mk s i) = some (.inr x)))
    (he : ∀ s, body (mk s (l.length : Nat)) = some (.inr (fin s))) {s : st} {r : R} (h : oW step fin s l = some r) : lp body (mk s 0) = some r :=
  ZF mk step fin hn he _ 0 s r rfl (Nat.zero_le _) (by simpa using h)

theorem VY {α S st R : Type} {body : S → Option (S ⊕ R)} {l : List α} (mk : st → Int → S) (step : st → α → Option (st ⊕ R)) (fin : st → R) (Inv : Nat → st → Prop)
    (hn : ∀ (i : Nat) a s, Inv i s → l[i]? = some a → (∀ s', step s a = some (.inl s') → Inv (i + 1) s' ∧ body (mk s i) = some (.inl (mk s' ((i + 1 : Nat) : Int)))) ∧ (∀ x, step s a = some (.inr x) → body (mk s i) = some (.inr x)))
    (he : ∀ s, Inv l.length s → body (mk s (l.length : Nat)) = some (.inr (fin s))) : ∀ (m k : Nat) (s : st) (r : R), l.length - k = m → k ≤ l.length → Inv k s → oW step fin s (l.drop k) = some r → lp body (mk s k) = some r
  | 0, k, s, r, hm, hk, hi, h => by
    have : k = l.length := by omega
    subst this
    rw [List.drop_length] at h
    simp only [oW, Option.some.injEq] at h
    subst h
    exact cV (he s hi)
  | m + 1, k, s, r, hm, hk, hi, h => by
    have hlt : k < l.length := by omega
    have hd : l.drop k = l[k] :: l.drop (k + 1) := List.drop_eq_getElem_cons hlt
    rw [hd] at h
    simp only [oW] at h
    obtain ⟨h1, h2⟩ := hn k l[k] s hi (List.getElem?_eq_getElem hlt)
    split at h
    · rename_i s' hs
      obtain ⟨hi', hb⟩ := h1 s' hs
      rw [fO hb]
      exact VY mk step fin Inv hn he m (k + 1) s' r (by omega) (by omega) hi' h
    · rename_i x hs
      simp at h; subst h
      exact cV (h2 x hs)
    · cases h

theorem aCl {α S st R : Type} {body : S → Option (S ⊕ R)} {l : List α} (mk : st → Int → S) (step : st → α → Option (st ⊕ R)) (fin : st → R) (Inv : Nat → st → Prop)
    (hn : ∀ (i : Nat) a s, Inv i s → l[i]? = some a → (∀ s', step s a = some (.inl s') → Inv (i + 1) s' ∧ body (mk s i) = some (.inl (mk s' ((i + 1 : Nat) : Int)))) ∧ (∀ x, step s a = some (.inr x) → body (mk s i) = some (.inr x)))
    (he : ∀ s, Inv l.length s → body (mk s (l.length : Nat)) = some (.inr (fin s))) {s : st} {r : R} (hi : Inv 0 s) (h : oW step fin s l = some r) : lp body (mk s 0) = some r :=
  VY mk step fin Inv hn he _ 0 s r rfl (Nat.zero_le _) hi (by simpa using h)

theorem idx {α : Type} [Inhabited α] {l : List α} {i : Nat} {a : α} (h : l[i]? = some a) (hl : l.length < 4611686018427387904) :
    decide ((i : Int) < ((l.length : Nat) : Int)) = true ∧ (0 ≤ (i : Int) ∧ (i : Int) < ((l.length : Nat) : Int)) ∧ l.getD (Int.toNat (i : Int)) default = a ∧ IntKind.i64.wrap ((i : Int) + 1) = ((i + 1 : Nat) : Int) := by
  have hlt : i < l.length := (List.getElem?_eq_some_iff.1 h).1
  refine ⟨by simpa using hlt, ⟨by omega, by omega⟩, ?_, ?_⟩
  · rw [Int.toNat_natCast, List.getD_eq_getElem?_getD, h]; rfl
  · rw [cT (by omega) (by omega)]; omega

theorem kO {n : Nat} : decide (((n : Nat) : Int) < ((n : Nat) : Int)) = false := by simp

theorem aFH {α : Type} {j : α} {r : List α} : (0 : Int) ≤ 0 ∧ (0 : Int) < ((List.length (j :: r) : Nat) : Int) := ⟨by omega, by simp⟩

theorem aFg {α : Type} [Inhabited α] {j : α} {r : List α} : List.getD (j :: r) (Int.toNat (0 : Int)) default = j := rfl

end Go.Abs
namespace Go.Abs
open Go
theorem drop_cons {α : Type} {l r : List α} {a : α} {k : Nat} (h : l.drop k = a :: r) : l[k]? = some a ∧ l.drop (k + 1) = r := by
  have hk : k < l.length := by
    apply Classical.byContradiction; intro hn
    rw [List.drop_eq_nil_of_le (by omega)] at h; cases h
  rw [List.drop_eq_getElem_cons hk] at h
  obtain ⟨h1, h2⟩ := List.cons.inj h
  exact ⟨by rw [List.getElem?_eq_getElem hk, h1], h2⟩

theorem aCr {α S st R : Type} {body : S → Option (S ⊕ R)} {l : List α} (mk : st → Int → S) (G : st → List α → R) (Inv : st → List α → Prop)
    (hn : ∀ (i : Nat) a r s, l[i]? = some a → Inv s (a :: r) → (∃ s', body (mk s i) = some (.inl (mk s' ((i + 1 : Nat) : Int))) ∧ Inv s' r ∧ G s' r = G s (a :: r)) ∨ body (mk s i) = some (.inr (G s (a :: r))))
    (he : ∀ s, Inv s [] → body (mk s (l.length : Nat)) = some (.inr (G s []))) : ∀ (r : List α) (k : Nat) (s : st), l.drop k = r → k ≤ l.length → Inv s r → lp body (mk s k) = some (G s r)
  | [], k, s, hd, hk, hi => by
    have : k = l.length := by
      have := congrArg List.length hd
      simp only [List.length_drop, List.length_nil] at this; omega
    subst this
    exact cV (he s hi)
  | a :: r, k, s, hd, hk, hi => by
    obtain ⟨h1, h2⟩ := drop_cons hd
    have hlt : k < l.length := (List.getElem?_eq_some_iff.1 h1).1
    rcases hn k a r s h1 hi with ⟨s', hb, hi', hg⟩ | hb
    · rw [fO hb, aCr mk G Inv hn he r (k + 1) s' h2 (by omega) hi', hg]
    · exact cV hb

theorem yL {α S st R : Type} {body : S → Option (S ⊕ R)} {l : List α} (mk : st → Int → S) (G : st → List α → R) (Inv : st → List α → Prop) (s : st)
    (hn : ∀ (i : Nat) a r s, l[i]? = some a → Inv s (a :: r) → (∃ s', body (mk s i) = some (.inl (mk s' ((i + 1 : Nat) : Int))) ∧ Inv s' r ∧ G s' r = G s (a :: r)) ∨ body (mk s i) = some (.inr (G s (a :: r))))
    (he : ∀ s, Inv s [] → body (mk s (l.length : Nat)) = some (.inr (G s []))) (hi : Inv s l) : lp body (mk s 0) = some (G s l) :=
  aCr mk G Inv hn he l 0 s rfl (Nat.zero_le _) hi

end Go.Abs
namespace Go.Abs
open Go
variable {α : Type} [Inhabited α]
theorem wr {n : Int} (h1 : -1099511627776 ≤ n) (h2 : n ≤ 8796093022208) : IntKind.i64.wrap n = n := cT (by omega) (by omega)

section ins
variable {ok : α → Prop} {le : α → α → Prop} {cmp : α → α → Option Int}
end ins
end Go.Abs
namespace Go.Abs
open Go
variable {α : Type} [Inhabited α]
theorem half {s : Nat} (h : s ≤ 4398046511104) : IntKind.i64.wrap (Int.fdiv (IntKind.u64.wrap (IntKind.i64.wrap (s : Int))) (2 ^ (min (Int.toNat (1 : Int)) 64))) = ((s / 2 : Nat) : Int) := by
  rw [wr (n := (s : Int)) (by omega) (by omega)]
  have hu : IntKind.u64.wrap (s : Int) = (s : Int) := by
    simp only [IntKind.wrap, IntKind.bits, IntKind.signed]
    simp
    omega
  have hp : (2 : Int) ^ (min (Int.toNat (1 : Int)) 64) = 2 := by decide
  rw [hu, hp, Int.fdiv_eq_ediv_of_nonneg _ (by omega), wr (by omega) (by omega)]
  omega

section sym
variable {ok : α → Prop} {le : α → α → Prop} {cmp : α → α → Option Int}
end sym
end Go.Abs
namespace Go.Abs
open Go
def SZ (n : Int) : Bool := decide (n ≤ 1048576) && decide (-1048576 ≤ n)

theorem aD5 (n : Int) : AH n = some (SZ n) := rfl

def LB (last : Int) (j : aC) : Bool := decide (j.At ≤ last) || decide (1125899906842624 ≤ j.At) || decide (j.Net = 0) || !SZ j.Net

def chk (last : Int) : List aC → Bool
  | [] => true
  | j :: r => !LB last j && chk j.At r

def fI (f : List aC) : Bool := decide (f.length ≤ 1024) && chk (-2) f

theorem VB {f : List aC} {i : Nat} {a : aC} {last : Int} (ha : f[i]? = some a) (hl : f.length < 4611686018427387904) :
    nA f (f.length : Nat) last i = some (if LB last a then .inr (.inr false) else .inl (a.At, ((i + 1 : Nat) : Int))) := by
  obtain ⟨d1, d2, d3, d4⟩ := idx ha hl
  simp only [nA, d1, cond_true, aP d2, d3, d4, aD5]
  unfold LB
  cases h : (decide (a.At ≤ last) || decide (1125899906842624 ≤ a.At) || decide (a.Net = 0)) <;> cases h2 : SZ a.Net <;> simp [dL]

theorem WC : ∀ (f : List aC) (last : Int), oW (fun last (j : aC) => some (if LB last j then .inr (.inr false) else .inl j.At)) (fun _ => (.inl () : Unit ⊕ Bool)) last f = some (if chk last f then .inl () else .inr false)
  | [], last => by simp [oW, chk]
  | j :: r, last => by
    cases h : LB last j
    · rw [FU (s' := j.At) (by simp [h])]
      rw [WC r j.At]
      simp [chk, h]
    · rw [GS (x := .inr false) (by simp [h])]
      simp [chk, h]

theorem EX (f : List aC) : nJ f = some (fI f) := by
  unfold nJ fI
  by_cases hl : f.length ≤ 1024
  · have h1 : decide ((1024 : Int) < ((f.length : Nat) : Int)) = false := by simp; omega
    rw [h1, cond_false]
    unfold AN
    have key := VN (l := f) (body := fun s : Int × Int => nA f (f.length : Nat) s.1 s.2) (fun last i => (last, i)) _ _
      (fun i a s ha => by
        constructor
        · intro s' hs
          show nA f (f.length : Nat) s i = _
          rw [VB ha (by omega)]
          split at hs <;> simp_all
        · intro x hs
          show nA f (f.length : Nat) s i = _
          rw [VB ha (by omega)]
          split at hs <;> simp_all)
      (fun s => by show nA f (f.length : Nat) s (f.length : Nat) = _; simp only [nA, kO, cond_false]) (WC f (-2))
    rw [key]
    cases h : chk (-2) f <;> simp [xJ, hl]
  · have h1 : decide ((1024 : Int) < ((f.length : Nat) : Int)) = true := by simp; omega
    rw [h1, cond_true]
    simp [hl]

theorem aAH {last : Int} {j : aC} : LB last j = false ↔ last < j.At ∧ j.At < 1125899906842624 ∧ j.Net ≠ 0 ∧ j.Net ≤ 1048576 ∧ -1048576 ≤ j.Net := by
  simp [LB, SZ]
  omega

def rR (last : Int) : List aC → Prop
  | [] => True
  | j :: r => (last < j.At ∧ j.At < 1125899906842624 ∧ j.Net ≠ 0 ∧ j.Net ≤ 1048576 ∧ -1048576 ≤ j.Net) ∧ rR j.At r

theorem aAi : ∀ {f : List aC} {last : Int}, chk last f = true ↔ rR last f
  | [], last => by simp [chk, rR]
  | j :: r, last => by simp [chk, rR, aAH, aAi]

theorem mS {f : List aC} : fI f = true ↔ f.length ≤ 1024 ∧ rR (-2) f := by simp [fI, aAi]

theorem rR.above : ∀ {f : List aC} {last : Int}, rR last f → ∀ j ∈ f, last < j.At ∧ j.At < 1125899906842624 ∧ j.Net ≠ 0 ∧ j.Net ≤ 1048576 ∧ -1048576 ≤ j.Net
  | [], _, _, j, hj => by simp at hj
  | a :: r, last, h, j, hj => by
    rcases List.mem_cons.1 hj with rfl | hj
    · exact h.1
    · have := h.2.above j hj
      have h1 := h.1.1
      exact ⟨by omega, this.2⟩

def val (f : List aC) (t : Int) : Int := (f.map fun j => if j.At ≤ t then j.Net else 0).sum

theorem ZV (t : Int) : val [] t = 0 := rfl

theorem mC (j : aC) (r : List aC) (t : Int) : val (j :: r) t = (if j.At ≤ t then j.Net else 0) + val r t := by simp [val]

theorem aAk (f g : List aC) (t : Int) : val (f ++ g) t = val f t + val g t := by simp [val]

theorem IU : ∀ {f : List aC} {b : Int} (t : Int), 0 ≤ b → (∀ j ∈ f, j.Net ≤ b ∧ -b ≤ j.Net) → val f t ≤ b * f.length ∧ -(b * f.length) ≤ val f t
  | [], b, t, _, _ => by simp [val]
  | j :: r, b, t, hb, h => by
    obtain ⟨h1, h2⟩ := IU t hb (fun k hk => h k (List.mem_cons_of_mem _ hk))
    have h3 := h j (List.mem_cons_self ..)
    rw [mC]
    simp only [List.length_cons, Int.natCast_add, Int.natCast_one, Int.mul_add, Int.mul_one]
    split <;> omega

theorem wA {f : List aC} {t : Int} (h : ∀ j ∈ f, t < j.At) : val f t = 0 := by
  induction f with
  | nil => rfl
  | cons j r ih =>
    rw [mC, ih (fun k hk => h k (List.mem_cons_of_mem _ hk))]
    have := h j (List.mem_cons_self ..)
    rw [if_neg (by omega)]; rfl

theorem ZH {f : List aC} {i : Nat} {a : aC} {t v : Int} (ha : f[i]? = some a) (hl : f.length < 4611686018427387904) :
    oD t f (f.length : Nat) v i = some (if t < a.At then .inr v else .inl (IntKind.i64.wrap (v + a.Net), ((i + 1 : Nat) : Int))) := by
  obtain ⟨d1, d2, d3, d4⟩ := idx ha hl
  simp only [oD, d1, cond_true, aP d2, d3, d4]
  by_cases h : t < a.At <;> simp [h]

theorem aEu {t : Int} (f : List aC) : ∀ (last v : Int), rR last f → v ≤ 1048576 * (2048 - f.length) → -(1048576 * (2048 - f.length)) ≤ v → f.length ≤ 1024 →
    oW (fun v (j : aC) => some (if t < j.At then .inr v else .inl (IntKind.i64.wrap (v + j.Net)))) (fun v => (v : Int)) v f = some (v + val f t) := by
  induction f with
  | nil => intro last v _ _ _ _; simp [oW, val]
  | cons j r ih =>
    intro last v h h1 h2 hl
    simp only [List.length_cons] at h1 h2 hl
    by_cases hj : t < j.At
    · rw [GS (x := v) (by simp [hj])]
      rw [wA (fun k hk => by
        rcases List.mem_cons.1 hk with rfl | hk
        · exact hj
        · have := (h.2.above k hk).1; omega)]
      simp
    · have hj1 := h.1
      have hw : IntKind.i64.wrap (v + j.Net) = v + j.Net := cT (by omega) (by omega)
      rw [FU (s' := v + j.Net) (by simp [hj, hw])]
      rw [ih j.At (v + j.Net) h.2 (by omega) (by omega) (by omega), mC, if_pos (by omega)]
      congr 1
      omega

theorem aAJ (f : List aC) (t : Int) : yH f t = some (if fI f then val f t else 0) := by
  unfold yH
  rw [EX]
  simp only [Option.bind_some]
  cases h : fI f
  · simp
  · obtain ⟨hl, hr⟩ := mS.1 h
    simp only [Bool.not_true, cond_false, if_true]
    unfold BQ
    have key := VN (l := f) (body := fun s : Int × Int => oD t f (f.length : Nat) s.1 s.2) (fun v i => (v, i)) _ _
      (fun i a s ha => by
        constructor
        · intro s' hs
          show oD t f (f.length : Nat) s i = _
          rw [ZH ha (by omega)]
          split at hs <;> simp_all
        · intro x hs
          show oD t f (f.length : Nat) s i = _
          rw [ZH ha (by omega)]
          split at hs <;> simp_all)
      (fun s => by show oD t f (f.length : Nat) s (f.length : Nat) = _; simp only [oD, kO, cond_false]) (aEu (t := t) f (-2) 0 hr (by omega) (by omega) hl)
    rw [key]
    simp [wP]

theorem aEh (f : List aC) : uQ f = some (if fI f then (f, 0) else ([], 7)) := by
  unfold uQ
  rw [EX]
  cases h : fI f <;> simp

end Go.Abs
namespace Go.Abs
open Go
section both
variable {op : Int → Int → Option Int} {f g r : List aC} {out : List aC} {a b was t : Int} {j : aC}
end both
def emit (p v was : Int) : List aC := if v = was then [] else [⟨p, v - was⟩]

def aDU (was : Int) : List (Int × Int) → List aC
  | [] => []
  | x :: r => emit x.1 x.2 was ++ aDU x.2 r

def merge (f g : List aC) (a b : Int) : List (Int × Int × Int) :=
  match f, g with
  | [], [] => []
  | j :: f, [] => (j.At, a + j.Net, b) :: merge f [] (a + j.Net) b
  | [], k :: g => (k.At, a, b + k.Net) :: merge [] g a (b + k.Net)
  | j :: f, k :: g =>
    if j.At < k.At then (j.At, a + j.Net, b) :: merge f (k :: g) (a + j.Net) b
    else if k.At < j.At then (k.At, a, b + k.Net) :: merge (j :: f) g a (b + k.Net)
    else (j.At, a + j.Net, b + k.Net) :: merge f g (a + j.Net) (b + k.Net)

termination_by f.length + g.length
end Go.Abs
namespace Go.Abs
open Go
def comb (OP : Int → Int → Int) (f g : List aC) : List aC := aDU 0 ((merge f g 0 0).map fun x => (x.1, OP x.2.1 x.2.2))

def told (f : List aC) : List aC × Int := if fI f then (f, 0) else ([], 7)

theorem aDw (f : List aC) : uQ f = some (told f) := aEh f

def two (OP : Int → Int → Int) (f g : List aC) : List aC × Int := if fI f && fI g then told (comb OP f g) else ([], 2)

end Go.Abs
namespace Go.Abs
open Go
theorem rR.aDc {l t : Int} {f : List aC} (h : rR l f) (ht : t ≤ l) : val f t = 0 := wA fun j hj => by have := (h.above j hj).1; omega

theorem SQ {f : List aC} (hf : fI f = true) (t : Int) : val f t ≤ 1073741824 ∧ -1073741824 ≤ val f t := by
  obtain ⟨h1, h2⟩ := mS.1 hf
  have := IU t (b := 1048576) (by omega) (fun j hj => by have := h2.above j hj; omega) (f := f)
  omega

end Go.Abs
namespace Go.Abs
open Go
def vY (f : List aC) : Int := (f.map aC.Net).sum

theorem QV (j : aC) (f : List aC) : vY (j :: f) = j.Net + vY f := by simp [vY]

def jR (t : Int) : List aC → List aC
  | [] => []
  | j :: r => if t ≤ j.At then [] else j :: jR t r

def aft (t : Int) : List aC → List aC
  | [] => []
  | j :: r => if t ≤ j.At then j :: r else aft t r

theorem GN (t : Int) : ∀ f : List aC, jR t f ++ aft t f = f
  | [] => rfl
  | j :: r => by
    unfold jR aft
    split
    · rfl
    · simp [GN t r]

theorem PL {t : Int} : ∀ {f : List aC}, ∀ j ∈ jR t f, j.At < t
  | [], j, h => by simp [jR] at h
  | k :: r, j, h => by
    unfold jR at h
    split at h
    · simp at h
    · rcases List.mem_cons.1 h with rfl | h
      · omega
      · exact PL j h

theorem WV {t l : Int} : ∀ {f : List aC}, rR l f → ∀ j ∈ aft t f, t ≤ j.At
  | [], _, j, h => by simp [aft] at h
  | k :: r, hr, j, h => by
    unfold aft at h
    split at h
    · rcases List.mem_cons.1 h with rfl | h
      · assumption
      · have := (hr.2.above j h).1; omega
    · exact WV hr.2 j h

theorem aEC {f : List aC} {t : Int} (h : ∀ j ∈ f, j.At ≤ t) : val f t = vY f := by
  induction f with
  | nil => rfl
  | cons j r ih => rw [mC, QV, if_pos (h j (List.mem_cons_self ..)), ih fun k hk => h k (List.mem_cons_of_mem _ hk)]

theorem WR (t : Int) : ∀ f : List aC, (jR t f).length ≤ f.length
  | [] => by simp [jR]
  | j :: r => by
    unfold jR
    split
    · simp
    · simpa using WR t r

theorem aDu {l t p : Int} {f : List aC} (hf : rR l f) (hp : p < t) : val f p = val (jR t f) p := by
  conv => lhs; rw [← GN t f]
  rw [aAk, wA (f := aft t f) (fun j hj => by have := WV hf j hj; omega)]
  omega

theorem aCs {l t : Int} {f : List aC} (hf : rR l f) : vY (jR t f) = val f (t - 1) := by
  rw [aDu hf (p := t - 1) (t := t) (by omega), aEC (fun j hj => by have := PL j hj; omega)]

theorem aAu {t : Int} (f : List aC) : ∀ (l v : Int) (out : List aC), rR l f → v ≤ 1048576 * (2048 - f.length) → -(1048576 * (2048 - f.length)) ≤ v → f.length ≤ 1024 →
    oW (fun (s : List aC × Int) (j : aC) => some (if t ≤ j.At then .inr s else .inl (s.1 ++ [j], IntKind.i64.wrap (s.2 + j.Net)))) (fun s => s) (out, v) f = some (out ++ jR t f, v + vY (jR t f)) := by
  induction f with
  | nil => intro l v out _ _ _ _; simp [oW, jR, vY]
  | cons j r ih =>
    intro l v out h h1 h2 hl
    simp only [List.length_cons] at h1 h2 hl
    have hj1 := h.1
    by_cases hj : t ≤ j.At
    · rw [GS (x := (out, v)) (by simp [hj])]
      simp [jR, hj, vY]
    · have hw : IntKind.i64.wrap (v + j.Net) = v + j.Net := cT (by omega) (by omega)
      rw [FU (s' := (out ++ [j], v + j.Net)) (by simp [hj, hw])]
      rw [ih j.At (v + j.Net) (out ++ [j]) h.2 (by omega) (by omega) (by omega)]
      have : jR t (j :: r) = j :: jR t r := by simp [jR, hj]
      rw [this, QV]
      simp [Int.add_assoc]

def EY (t : Int) (f : List aC) : List aC := jR t f ++ (if vY (jR t f) = 0 then [] else [⟨t, -vY (jR t f)⟩])

def ahead (f : List aC) (t : Int) : List aC × Int :=
  if fI f then (if 1125899906842624 ≤ t then (f, 0) else told (EY t f)) else ([], 2)

theorem aDy {f : List aC} (hl : f.length ≤ 1024) : iO f = some f := by
  unfold iO
  exact aP ⟨by omega, by omega⟩

theorem aA5 {f : List aC} (hf : fI f = true) (t : Int) : vY (jR t f) ≤ 1073741824 ∧ -1073741824 ≤ vY (jR t f) := by
  rw [aCs (mS.1 hf).2]
  exact SQ hf _

theorem aCO (f : List aC) (t : Int) : vH f t = some (ahead f t) := by
  unfold vH ahead
  rw [EX]
  simp only [Option.bind_some]
  cases h : fI f
  · simp
  · obtain ⟨hl, hr⟩ := mS.1 h
    simp only [Bool.not_true, cond_false, if_true]
    by_cases ht : 1125899906842624 ≤ t
    · simp [ht, aDy hl]
    · rw [decide_eq_false ht, cond_false, if_neg ht]
      unfold xW
      have key := aCl (l := f) (body := fun s : List aC × Int × Int => lT t f (f.length : Nat) s.1 s.2.1 s.2.2) (fun (s : List aC × Int) i => (s.1, s.2, i)) _ _ (fun i s => s.1.length = i)
        (fun i a s hi ha => by
          obtain ⟨d1, d2, d3, d4⟩ := idx ha (by omega)
          have hlt : i < f.length := (List.getElem?_eq_some_iff.1 ha).1
          have hb : lT t f (f.length : Nat) s.1 s.2 i = some (if t ≤ a.At then .inr s else .inl (s.1 ++ [a], IntKind.i64.wrap (s.2 + a.Net), ((i + 1 : Nat) : Int))) := by
            simp only [lT, d1, cond_true, aP d2, d3, d4]
            rw [aP (by simp only [List.length_cons, List.length_nil]; omega)]
            by_cases h : t ≤ a.At <;> simp [h]
          by_cases hh : t ≤ a.At
          · refine ⟨fun s' hs => by simp [hh] at hs, fun x hs => ?_⟩
            simp [hh] at hs; subst hs
            show lT t f (f.length : Nat) s.1 s.2 i = _
            rw [hb, if_pos hh]
          · refine ⟨fun s' hs => ?_, fun x hs => by simp [hh] at hs⟩
            simp [hh] at hs; subst hs
            refine ⟨by simp [hi], ?_⟩
            show lT t f (f.length : Nat) s.1 s.2 i = _
            rw [hb, if_neg hh])
        (fun s _ => by show lT t f (f.length : Nat) s.1 s.2 (f.length : Nat) = _; simp only [lT, kO, cond_false]) (s := ([], 0)) rfl (aAu (t := t) f (-2) 0 [] hr (by omega) (by omega) hl)
      rw [key]
      have hb := aA5 h t
      have hlen := WR t f
      have hw : IntKind.i64.wrap (0 - vY (jR t f)) = -vY (jR t f) := by rw [cT (by omega) (by omega)]; omega
      simp only [Option.bind_some, List.nil_append, Int.zero_add, rA, uA, EY, hw, aDw]
      by_cases hv : vY (jR t f) = 0
      · simp [hv]
      · rw [aP (by simp only [List.length_cons, List.length_nil]; omega)]
        simp [hv]

end Go.Abs
namespace Go.Abs
open Go
def aFz (t : Int) (f : List aC) : List aC := (if vY (jR t f) = 0 then [] else [⟨-1, vY (jR t f)⟩]) ++ aft t f

def rest (f : List aC) (t : Int) : List aC × Int :=
  if fI f then (if 1125899906842624 ≤ t then ([], 0) else if t ≤ -1 then (f, 0) else told (aFz t f)) else ([], 2)

end Go.Abs
namespace Go.Abs
open Go
def Inc (last : Int) : List Int → Prop
  | [] => True
  | p :: r => (last < p ∧ p < 1125899906842624) ∧ Inc p r

theorem Inc.above : ∀ {ps : List Int} {last : Int}, Inc last ps → ∀ p ∈ ps, last < p ∧ p < 1125899906842624
  | [], _, _, j, hj => by simp at hj
  | a :: r, last, h, j, hj => by
    rcases List.mem_cons.1 hj with rfl | hj
    · exact h.1
    · have := h.2.above j hj
      have h1 := h.1.1
      exact ⟨by omega, this.2⟩

end Go.Abs
namespace Go.Abs
open Go
theorem aDE {f : List aC} (h : fI f = true) : ∀ j ∈ f, j.Net ≤ 1048576 ∧ -1048576 ≤ j.Net := fun j hj => by have := (mS.1 h).2.above j hj; omega

def jY (t : Int) : List Int → List Int
  | [] => [t]
  | p :: r => if p = t then p :: r else if t < p then t :: p :: r else p :: jY t r

theorem JD {t x : Int} : ∀ {ps : List Int}, x ∈ jY t ps ↔ x = t ∨ x ∈ ps
  | [] => by simp [jY]
  | p :: r => by
    unfold jY
    split
    · rename_i h; subst h; simp
    · split
      · simp
      · simp only [List.mem_cons, JD (ps := r)]; constructor <;> (intro h; rcases h with h | h | h <;> simp [h])

theorem AT {t : Int} : ∀ {ps : List Int} {last : Int}, Inc last ps → last < t → t < 1125899906842624 → Inc last (jY t ps)
  | [], last, _, h1, h2 => ⟨⟨h1, h2⟩, trivial⟩
  | p :: r, last, h, h1, h2 => by
    unfold jY
    split
    · exact h
    · split
      · rename_i h3 h4
        exact ⟨⟨h1, h2⟩, ⟨h4, h.1.2⟩, h.2⟩
      · exact ⟨h.1, AT h.2 (by omega) h2⟩

theorem IX {t : Int} : ∀ {ps : List Int}, (jY t ps).length ≤ ps.length + 1
  | [] => by simp [jY]
  | p :: r => by
    unfold jY
    split
    · simp
    · split
      · simp
      · simp only [List.length_cons]; have := IX (t := t) (ps := r); omega

theorem FX {t : Int} : ∀ {ps : List Int} {last : Int}, Inc last ps → t ∈ ps → jY t ps = ps
  | [], _, _, h => by simp at h
  | p :: r, last, hi, h => by
    unfold jY
    split
    · rfl
    · rename_i hp
      rcases List.mem_cons.1 h with h | h
      · exact absurd h.symm hp
      · have := (hi.2.above t h).1
        rw [if_neg (by omega), FX hi.2 h]

end Go.Abs
namespace Go.Abs
open Go
def mn (a b : Int) : Int := if b < a then b else a

def parts (v : Int) : List aC → List Int
  | [] => []
  | j :: r => (v + j.Net) :: parts (v + j.Net) r

def FC (f : List aC) : Int := (f.map fun j => val f j.At).foldl mn (val f (-1))

theorem parts_eq : ∀ {f : List aC} {l v : Int}, rR l f → parts v f = f.map fun j => v + val f j.At
  | [], _, _, _ => rfl
  | j :: r, l, v, h => by
    simp only [parts, List.map_cons]
    rw [parts_eq h.2, mC, if_pos (Int.le_refl _), h.2.aDc (Int.le_refl _), Int.add_zero]
    congr 1
    apply List.map_congr_left
    intro k hk
    have := (h.2.above k hk).1
    rw [mC, if_pos (by omega)]; omega

theorem aBf {j : aC} {r : List aC} (h : rR (-2) (j :: r)) : val (j :: r) (-1) = if j.At = -1 then j.Net else 0 := by
  have := h.1.1
  by_cases e : j.At = -1
  · rw [if_pos e, mC, if_pos (by omega), h.2.aDc (by omega)]; omega
  · rw [if_neg e, wA]
    intro k hk
    rcases List.mem_cons.1 hk with rfl | hk
    · omega
    · have := (h.2.above k hk).1; omega

theorem NM {f : List aC} (hf : fI f = true) (m : Int) (hm : -1125899906842624 ≤ m ∧ m ≤ 1125899906842624) : uB 0 m f (f.length : Nat) 0 = some ((f.map fun j => val f j.At).foldl mn m) := by
  obtain ⟨hl, hr⟩ := mS.1 hf
  unfold uB
  rw [yL (l := f) (body := fun s : Int × Int × Int => nS f (f.length : Nat) s.1 s.2.1 s.2.2) (fun (s : Int × Int) i => (s.1, s.2, i)) (fun s r => (parts s.1 r).foldl mn s.2)
    (fun s r => (∀ j ∈ r, j.Net ≤ 1048576 ∧ -1048576 ≤ j.Net) ∧ r.length ≤ 1024 ∧ s.1 ≤ 1048576 * (1024 - r.length) ∧ -(1048576 * (1024 - r.length)) ≤ s.1) (0, m) ?_ ?_ ?_]
  · simp only [Option.bind_some, tS, parts_eq hr, Int.zero_add]
  · rintro i a r ⟨v, m⟩ ha ⟨h1, h2, h3, h4⟩
    obtain ⟨d1, d2, d3, d4⟩ := idx ha (by omega)
    have hj := h1 a (List.mem_cons_self ..)
    simp only [List.length_cons] at h2 h3 h4
    have hw : IntKind.i64.wrap (v + a.Net) = v + a.Net := cT (by omega) (by omega)
    left
    refine ⟨(v + a.Net, mn m (v + a.Net)), ?_, ⟨fun j hj => h1 j (List.mem_cons_of_mem _ hj), by omega, by simp only; omega, by simp only; omega⟩, rfl⟩
    show nS f (f.length : Nat) v m i = _
    simp only [nS, d1, cond_true, aP d2, d3, d4, hw, mn]
  · rintro ⟨v, m⟩ _
    show nS f (f.length : Nat) v m (f.length : Nat) = _
    simp only [nS, kO, cond_false, parts, List.foldl_nil]
  · exact ⟨aDE hf, hl, by simp only; omega, by simp only; omega⟩

theorem aDl (f : List aC) : vN f = some (if fI f then FC f else 0) := by
  unfold vN
  rw [EX]
  cases h : fI f
  · simp
  · cases f with
    | nil => simp [FC, val]
    | cons j r =>
      obtain ⟨hl, hr⟩ := mS.1 h
      have hne : decide (((List.length (j :: r) : Nat) : Int) = 0) = false := by simp; omega
      simp only [Option.bind_some, Bool.not_true, Bool.false_or, hne, cond_false, aP aFH, aFg, if_true]
      have hj := hr.1
      unfold FC
      rw [aBf hr]
      by_cases e : j.At = -1
      · simp only [e, decide_true, cond_true, if_true, rC]
        exact NM h j.Net (by omega)
      · simp only [e, decide_false, cond_false, if_false, rC]
        exact NM h 0 (by omega)

theorem ZE : fI [] = true := by decide

end Go.Abs
namespace Go.Abs
open Go
theorem w1 : IntKind.i64.wrap (0 + 1) = 1 := by rw [cT] <;> omega

theorem w2 : IntKind.i64.wrap (1 + 1) = 2 := by rw [cT] <;> omega

theorem w3 : IntKind.i64.wrap (1 - 1) = 0 := by rw [cT] <;> omega

theorem v0 : IntKind.i64.wrap 0 = 0 := by rw [cT] <;> omega

theorem v1 : IntKind.i64.wrap 1 = 1 := by rw [cT] <;> omega

theorem v2 : IntKind.i64.wrap 2 = 2 := by rw [cT] <;> omega

theorem v3 : IntKind.i64.wrap (-1) = -1 := by rw [cT] <;> omega

end Go.Abs
namespace Go.Abs
open Go
theorem aDt (f : List aC) : (told f).1.length ≤ 1024 := by
  unfold told
  cases h : fI f
  · simp
  · simpa using (mS.1 h).1

theorem aB5 (f : List aC) (t : Int) : (ahead f t).1.length ≤ 1024 := by
  unfold ahead
  split
  · split
    · exact (mS.1 (by assumption)).1
    · exact aDt _
  · simp

end Go.Abs
namespace Go.Abs
open Go
variable {α : Type} [Inhabited α]
noncomputable def pZ (f1 : α → Option Bool) (s0 : (List α)) (t7 : Int) (t8 : Int) : Option ((Int) ⊕ (Unit ⊕ Int)) :=
  cond (decide (t8 < t7))
  (bC (0 ≤ t8 ∧ t8 < ((List.length s0 : Nat) : Int)) <|
  (f1 (List.getD s0 (Int.toNat t8) default)).bind fun x2 =>
  cond x2
  (some (.inr (.inr t8)))
  (some (.inl (IntKind.i64.wrap (t8 + (1 : Int))))))
  (some (.inr (.inl ())))

theorem WX {l : List α} {f : α → Option Bool} {g : α → Bool} (hl : l.length ≤ 1099511627776) (hf : ∀ x ∈ l, f x = some (g x)) : ∀ (r : List α) (k : Nat), l.drop k = r → k ≤ l.length →
    ∃ x, lp (fun s => pZ f l (l.length : Nat) s) (k : Int) = some x ∧ ((x = .inl () ∧ r.any g = false) ∨ (∃ i : Nat, x = .inr (i : Int) ∧ k ≤ i ∧ i < l.length ∧ r.any g = true ∧ g (l.getD i default) = true ∧ ∀ j, k ≤ j → j < i → g (l.getD j default) = false))
  | [], k, hd, hk => by
    have : k = l.length := by
      have := congrArg List.length hd
      simp only [List.length_drop, List.length_nil] at this; omega
    subst this
    refine ⟨.inl (), cV ?_, Or.inl ⟨rfl, rfl⟩⟩
    show pZ f l _ _ = _
    simp only [pZ, kO, cond_false]
  | a :: r, k, hd, hk => by
    obtain ⟨h1, h2⟩ := drop_cons hd
    have hlt : k < l.length := (List.getElem?_eq_some_iff.1 h1).1
    obtain ⟨d1, d2, d3, d4⟩ := idx h1 (by omega)
    have hga : l.getD k default = a := by rw [Int.toNat_natCast] at d3; exact d3
    have hb : (fun s => pZ f l (l.length : Nat) s) (k : Int) = some (if g a then .inr (.inr (k : Int)) else .inl ((k + 1 : Nat) : Int)) := by
      show pZ f l _ _ = _
      simp only [pZ, d1, cond_true, aP d2, d3, d4, hf a (List.mem_of_getElem? h1), Option.bind_some]
      cases g a <;> simp
    cases hg : g a
    · rw [hg] at hb
      obtain ⟨x, e, hx⟩ := WX hl hf r (k + 1) h2 (by omega)
      refine ⟨x, by rw [fO hb]; exact e, ?_⟩
      rcases hx with ⟨rfl, h⟩ | ⟨i, rfl, h3, h4, h5, h6, h7⟩
      · exact Or.inl ⟨rfl, by simp [hg, h]⟩
      · refine Or.inr ⟨i, rfl, by omega, h4, by simp [h5], h6, fun j hj hj' => ?_⟩
        by_cases e : j = k
        · subst e; rw [hga, hg]
        · exact h7 j (by omega) hj'
    · rw [hg] at hb
      exact ⟨.inr (k : Int), cV hb, Or.inr ⟨k, rfl, Nat.le_refl _, hlt, by simp [hg], by rw [hga, hg], fun j h h' => by omega⟩⟩

end Go.Abs
namespace Go.Abs
open Go
theorem RC (x y : ByteArray) : pN x y = decide (x = y) := by
  unfold pN
  rw [ByteArray.toList_eq, ByteArray.toList_eq]
  by_cases h : x = y
  · simp [h]
  · have : x.data.toList ≠ y.data.toList := by
      intro he
      apply h
      cases x; cases y
      congr 1
      exact Array.toList_inj.1 he
    have h2 : (x.data.toList == y.data.toList) = false := by simpa using this
    rw [h2]; simp [h]

theorem veq (a b : aI) : ((decide (a.Kind = b.Kind)) && ((decide (a.Num = b.Num)) && ((pN a.Text b.Text) && true))) = decide (a = b) := by
  rw [RC]
  obtain ⟨a1, a2, a3⟩ := a
  obtain ⟨b1, b2, b3⟩ := b
  by_cases h1 : a1 = b1 <;> by_cases h2 : a2 = b2 <;> by_cases h3 : a3 = b3 <;> simp [h1, h2, h3]

def GI (v : aI) : Bool := decide (v.Kind = 1) && pN v.Text (⟨#[]⟩ : ByteArray)

def GD (v : aI) : Bool := ((decide (v.Kind = 2)) && (decide (v.Num = 0))) && (decide (((ByteArray.size v.Text : Nat) : Int) ≤ 64))

def GU (v : aI) : Bool := GI v || GD v

def uT (r : List aI) : Bool := decide (r.length ≤ 8) && r.all GU

theorem of_eq (v : aI) : mM v = some (if GI v then (.k_number v.Num, true) else if GD v then (.k_words v.Text, true) else (.none_, false)) := by
  unfold mM GI GD
  cases (decide (v.Kind = 1) && pN v.Text (⟨#[]⟩ : ByteArray)) <;> cases (((decide (v.Kind = 2)) && (decide (v.Num = 0))) && (decide (((ByteArray.size v.Text : Nat) : Int) ≤ 64))) <;> rfl

theorem aEg (v : aI) : xN v = some (GU v) := by
  unfold xN GU
  rw [of_eq]
  cases GI v <;> cases GD v <;> rfl

theorem UN {l : List aI} {f : aI → Option Bool} {g : aI → Bool} (hl : l.length ≤ 1099511627776) (hf : ∀ x ∈ l, f x = some (g x)) : fJ l f = some (l.any g) := by
  unfold fJ jD iV
  obtain ⟨x, e, hx⟩ := WX hl hf l 0 rfl (Nat.zero_le _)
  have e' : lp (fun s => iW f l (l.length : Nat) s) 0 = some x := e
  rw [e']
  rcases hx with ⟨rfl, h⟩ | ⟨i, rfl, _, _, h, _⟩
  · simp [gF, h]
  · simp [h]

theorem PF (r : List aI) : wB r = some (uT r) := by
  unfold wB uT
  by_cases h : r.length ≤ 8
  · have h1 : decide ((8 : Int) < ((r.length : Nat) : Int)) = false := by simp; omega
    rw [h1, cond_false, UN (g := fun v => !GU v) (by omega) (fun x _ => by simp [xO, aEg])]
    simp only [Option.bind_some, h, decide_true, Bool.true_and]
    congr 1
    rw [List.all_eq_not_any_not]
  · have h1 : decide ((8 : Int) < ((r.length : Nat) : Int)) = true := by simp; omega
    rw [h1, cond_true]
    simp [h]

theorem TE {α : Type} [DecidableEq α] {f g : List α} {body : Int → Option (Int ⊕ (Unit ⊕ Bool))} (he : f.length = g.length)
    (hb : ∀ (i : Nat) a b, f[i]? = some a → g[i]? = some b → body i = some (if a = b then .inl ((i + 1 : Nat) : Int) else .inr (.inr false)))
    (hend : body (f.length : Nat) = some (.inr (.inl ()))) : ∀ (m k : Nat), f.length - k = m → k ≤ f.length → lp body (k : Int) = some (if f.drop k = g.drop k then .inl () else .inr false)
  | 0, k, hm, hk => by
    have : k = f.length := by omega
    subst this
    rw [List.drop_length, he, List.drop_length, if_pos rfl]
    rw [← he]
    exact cV hend
  | m + 1, k, hm, hk => by
    have h1 : k < f.length := by omega
    have h2 : k < g.length := by omega
    have hbk := hb k _ _ (List.getElem?_eq_getElem h1) (List.getElem?_eq_getElem h2)
    have e1 : f.drop k = f[k] :: f.drop (k + 1) := List.drop_eq_getElem_cons h1
    have e2 : g.drop k = g[k] :: g.drop (k + 1) := List.drop_eq_getElem_cons h2
    have hiff : (f.drop k = g.drop k) ↔ (f[k] = g[k] ∧ f.drop (k + 1) = g.drop (k + 1)) := by rw [e1, e2, List.cons.injEq]
    by_cases h : f[k] = g[k]
    · rw [if_pos h] at hbk
      rw [fO hbk, TE he hb hend m (k + 1) (by omega) (by omega)]
      simp only [hiff, h, true_and]
    · rw [if_neg h] at hbk
      rw [cV hbk]
      simp only [hiff, h, false_and, if_false]

theorem WE {α : Type} {f g : List α} (h : f.length ≠ g.length) : (!decide (((f.length : Nat) : Int) = ((g.length : Nat) : Int))) = true := by simp; omega

theorem TP {α : Type} {f g : List α} (h : f.length = g.length) : (!decide (((f.length : Nat) : Int) = ((g.length : Nat) : Int))) = false := by simp [h]

theorem FO (a b : List aI) (hl : a.length ≤ 17592186044416) : rD a b = some (decide (a = b)) := by
  unfold rD fW
  by_cases he : a.length = b.length
  · rw [TP he, cond_false]
    unfold kD
    have := TE (f := a) (g := b) (body := fun s => fM a b (a.length : Nat) s) he ?_ ?_ a.length 0 rfl (Nat.zero_le _)
    · simp only [Int.natCast_zero, List.drop_zero] at this
      rw [this]
      by_cases h : a = b <;> simp [h, iG]
    · intro i x y hx hy
      obtain ⟨d1, d2, d3, d4⟩ := idx hx (by omega)
      obtain ⟨_, e2, e3, _⟩ := idx hy (by omega)
      simp only [fM, d1, cond_true, aP d2, aP e2, d3, e3, d4, veq]
      by_cases h : x = y <;> simp [h]
    · simp only [fM, kO, cond_false]
  · rw [WE he, cond_true]
    have : a ≠ b := fun h => he (by rw [h])
    simp [this]

theorem SY (a b : List aI) (hl : a.length ≤ 17592186044416) : vM a b = some (decide (a = b)) := by
  unfold vM
  by_cases he : a.length = b.length
  · rw [TP he, cond_false]
    unfold xP
    have := TE (f := a) (g := b) (body := fun s => rB a b s) he ?_ ?_ a.length 0 rfl (Nat.zero_le _)
    · simp only [Int.natCast_zero, List.drop_zero] at this
      rw [this]
      by_cases h : a = b <;> simp [h, uF]
    · intro i x y hx hy
      obtain ⟨d1, d2, d3, d4⟩ := idx hx (by omega)
      obtain ⟨_, e2, e3, _⟩ := idx hy (by omega)
      simp only [rB, d1, cond_true, aP d2, aP e2, d3, e3, d4, veq]
      by_cases h : x = y <;> simp [h]
    · simp only [rB, kO, cond_false]
  · rw [WE he, cond_true]
    have : a ≠ b := fun h => he (by rw [h])
    simp [this]

structure JC {α : Type} (c : α → α → Int) : Prop where
  eq : ∀ a b, c a b = 0 ↔ a = b
  anti : ∀ a b, c a b < 0 ↔ 0 < c b a
  trans : ∀ a b d, c a b < 0 → c b d < 0 → c a d < 0

def tE (x y : Int) : Int := if x < y then -1 else if y < x then 1 else 0

theorem CK : JC tE where
  eq a b := by unfold tE; (repeat' split) <;> omega
  anti a b := by unfold tE; (repeat' split) <;> omega
  trans a b d := by unfold tE; (repeat' split) <;> omega

def mG {α : Type} [DecidableEq α] (c : α → α → Int) : List α → List α → Int
  | [], [] => 0
  | [], _ :: _ => -1
  | _ :: _, [] => 1
  | a :: r, b :: s => if a = b then mG c r s else c a b

theorem JC.list {α : Type} [DecidableEq α] {c : α → α → Int} (h : JC c) : JC (mG c) where
  eq := by
    intro a
    induction a with
    | nil => intro b; cases b <;> simp [mG]
    | cons x r ih =>
      intro b
      cases b with
      | nil => simp [mG]
      | cons y s =>
        unfold mG
        split
        · rename_i e; subst e; rw [ih]; simp
        · rename_i e
          have := h.eq x y
          constructor
          · intro h0; exact absurd (this.1 h0) e
          · intro h0; cases h0; exact absurd rfl e
  anti := by
    intro a
    induction a with
    | nil => intro b; cases b <;> simp [mG]
    | cons x r ih =>
      intro b
      cases b with
      | nil => simp [mG]
      | cons y s =>
        unfold mG
        by_cases e : x = y
        · subst e; simp only [if_true]; exact ih s
        · rw [if_neg e, if_neg (fun e' => e e'.symm)]; exact h.anti x y
  trans := by
    intro a
    induction a with
    | nil =>
      intro b d
      cases b <;> cases d <;> simp [mG]
    | cons x r ih =>
      intro b d
      cases b with
      | nil => simp [mG]
      | cons y s =>
        cases d with
        | nil => simp [mG]
        | cons z t =>
          unfold mG
          by_cases e1 : x = y
          · subst e1
            rw [if_pos rfl]
            by_cases e2 : x = z
            · subst e2; rw [if_pos rfl, if_pos rfl]; exact ih s t
            · rw [if_neg e2, if_neg e2]; exact fun _ h => h
          · rw [if_neg e1]
            by_cases e2 : y = z
            · have hz : ¬ x = z := fun e => e1 (e.trans e2.symm)
              intro h _
              rw [if_neg hz, ← e2]; exact h
            · rw [if_neg e2]
              intro h1 h2
              by_cases e3 : x = z
              · subst e3
                have h3 := (h.anti x y).1 h1
                omega
              · rw [if_neg e3]; exact h.trans x y z h1 h2

def LI (a b : UInt8) : Int := if a < b then -1 else if b < a then 1 else 0

theorem KZ : JC LI where
  eq a b := by
    unfold LI
    constructor
    · intro h
      split at h
      · cases h
      · split at h
        · cases h
        · rename_i h1 h2
          rw [UInt8.lt_iff_toNat_lt] at h1 h2
          exact UInt8.toNat_inj.1 (by omega)
    · rintro rfl
      have : ¬ a < a := by rw [UInt8.lt_iff_toNat_lt]; omega
      simp [this]
  anti a b := by
    unfold LI
    simp only [UInt8.lt_iff_toNat_lt]
    (repeat' split) <;> omega
  trans a b d := by
    unfold LI
    simp only [UInt8.lt_iff_toNat_lt]
    (repeat' split) <;> omega

theorem DH : ∀ (a b : List UInt8), Go.Lib.compareBytes a b = mG LI a b
  | [], [] => rfl
  | [], _ :: _ => rfl
  | _ :: _, [] => rfl
  | a :: r, b :: s => by
    unfold Go.Lib.compareBytes mG
    rw [DH r s]
    by_cases e : a = b
    · subst e
      have : ¬ a < a := by rw [UInt8.lt_iff_toNat_lt]; omega
      simp [this]
    · rw [if_neg e]
      unfold LI
      have : ¬ (¬ a < b ∧ ¬ b < a) := by
        rintro ⟨h1, h2⟩
        rw [UInt8.lt_iff_toNat_lt] at h1 h2
        exact e (UInt8.toNat_inj.1 (by omega))
      by_cases h1 : a < b
      · simp [h1]
      · have h2 : b < a := Classical.byContradiction fun h2 => this ⟨h1, h2⟩
        simp [h1, h2]

def WD (a b : ByteArray) : Int := mG LI a.data.toList b.data.toList

theorem aD6 (a b : ByteArray) : QE a b = WD a b := DH _ _

theorem data_inj {x y : ByteArray} (h : x.data.toList = y.data.toList) : x = y := by
  cases x; cases y
  congr 1
  exact Array.toList_inj.1 h

theorem GH : JC WD where
  eq a b := by unfold WD; rw [(KZ.list).eq]; exact ⟨data_inj, fun h => by rw [h]⟩
  anti a b := (KZ.list).anti _ _
  trans a b d := (KZ.list).trans _ _ _

def CS (a b : aI) : Int := if a.Kind = b.Kind then (if a.Num = b.Num then WD a.Text b.Text else tE a.Num b.Num) else tE a.Kind b.Kind

theorem aDb : JC CS where
  eq a b := by
    obtain ⟨a1, a2, a3⟩ := a
    obtain ⟨b1, b2, b3⟩ := b
    unfold CS
    simp only [aI.mk.injEq]
    by_cases h1 : a1 = b1
    · by_cases h2 : a2 = b2
      · simp [h1, h2, GH.eq]
      · simp [h1, h2, CK.eq]
    · simp [h1, CK.eq]
  anti a b := by
    unfold CS
    by_cases h1 : a.Kind = b.Kind
    · rw [if_pos h1, if_pos h1.symm]
      by_cases h2 : a.Num = b.Num
      · rw [if_pos h2, if_pos h2.symm]; exact GH.anti _ _
      · rw [if_neg h2, if_neg (fun h => h2 h.symm)]; exact CK.anti _ _
    · rw [if_neg h1, if_neg (fun h => h1 h.symm)]; exact CK.anti _ _
  trans a b d := by
    unfold CS
    intro h1 h2
    have lt : ∀ {x y : Int}, tE x y < 0 → x < y := fun {x y} h => by unfold tE at h; split at h <;> (try split at h) <;> omega
    have mk : ∀ {x y : Int}, x < y → tE x y < 0 := fun {x y} h => by unfold tE; rw [if_pos h]; omega
    by_cases e1 : a.Kind = b.Kind
    · rw [if_pos e1] at h1
      by_cases e2 : b.Kind = d.Kind
      · rw [if_pos e2] at h2
        rw [if_pos (e1.trans e2)]
        by_cases f1 : a.Num = b.Num
        · rw [if_pos f1] at h1
          by_cases f2 : b.Num = d.Num
          · rw [if_pos f2] at h2
            rw [if_pos (f1.trans f2)]
            exact GH.trans _ _ _ h1 h2
          · rw [if_neg f2] at h2
            rw [f1, if_neg f2]; exact h2
        · rw [if_neg f1] at h1
          have g1 := lt h1
          by_cases f2 : b.Num = d.Num
          · rw [← f2, if_neg f1]; exact h1
          · rw [if_neg f2] at h2
            have g2 := lt h2
            rw [if_neg (by omega)]
            exact mk (by omega)
      · rw [if_neg e2] at h2
        rw [e1, if_neg e2]; exact h2
    · rw [if_neg e1] at h1
      have g1 := lt h1
      by_cases e2 : b.Kind = d.Kind
      · rw [← e2, if_neg e1]; exact h1
      · rw [if_neg e2] at h2
        have g2 := lt h2
        rw [if_neg (by omega)]
        exact mk (by omega)

def wF (a b : List aI) : Int := mG CS a b

theorem UA : JC wF := aDb.list

end Go.Abs
namespace Go.Abs
open Go
theorem aCa (x y : Int) : pJ x y = some (tE x y) := by
  unfold pJ kW tE
  by_cases h1 : x < y
  · simp [h1]
  · by_cases h2 : y < x <;> simp [h1, h2]

theorem aBF (x y : Int) : gU x y = some (tE x y) := by
  unfold gU lP tE
  by_cases h1 : x < y
  · simp [h1]
  · by_cases h2 : y < x <;> simp [h1, h2]

theorem JV {v : aI} (h : GI v = true) : v.Kind = 1 ∧ v.Text = (⟨#[]⟩ : ByteArray) := by
  simp only [GI, RC, Bool.and_eq_true, decide_eq_true_eq] at h; exact h

theorem GP {v : aI} (h : GD v = true) : v.Kind = 2 ∧ v.Num = 0 ∧ v.Text.size ≤ 64 := by
  simp only [GD, Bool.and_eq_true, decide_eq_true_eq] at h; exact ⟨h.1.1, h.1.2, by omega⟩

theorem ZP {v : aI} (h : GU v = true) : GI v = true ∨ (GI v = false ∧ GD v = true) := by
  unfold GU at h
  cases hn : GI v
  · rw [hn] at h; exact .inr ⟨rfl, by simpa using h⟩
  · exact .inl rfl

theorem aCt (a : ByteArray) : WD a a = 0 := (GH.eq a a).2 rfl

theorem IC (a : Int) : tE a a = 0 := (CK.eq a a).2 rfl

theorem aCw {a b : aI} (ha : GU a = true) (hb : GU b = true) : rI a b = some (CS a b) := by
  unfold rI
  simp only [of_eq, Option.bind_some]
  rcases ZP ha with h1 | ⟨h1, h1'⟩ <;> rcases ZP hb with h2 | ⟨h2, h2'⟩
  · obtain ⟨k1, t1⟩ := JV h1
    obtain ⟨k2, t2⟩ := JV h2
    simp only [h1, h2, if_true, Bool.not_true, Bool.or_self, cond_false, aBF, Option.bind_some]
    unfold CS
    rw [k1, k2, t1, t2, if_pos rfl, aCt]
    by_cases hn : a.Num = b.Num
    · rw [if_pos hn, hn, IC]
    · rw [if_neg hn]
  · obtain ⟨k1, t1⟩ := JV h1
    obtain ⟨k2, n2, _⟩ := GP h2'
    simp only [h1, h2, h2', if_true, Bool.false_eq_true, if_false, Bool.not_true, Bool.or_self, cond_false]
    unfold CS
    rw [k1, k2]; rfl
  · obtain ⟨k1, n1, _⟩ := GP h1'
    obtain ⟨k2, t2⟩ := JV h2
    simp only [h1, h1', h2, if_true, Bool.false_eq_true, if_false, Bool.not_true, Bool.or_self, cond_false]
    unfold CS
    rw [k1, k2]; rfl
  · obtain ⟨k1, n1, _⟩ := GP h1'
    obtain ⟨k2, n2, _⟩ := GP h2'
    simp only [h1, h1', h2, h2', if_true, Bool.false_eq_true, if_false, Bool.not_true, Bool.or_self, cond_false]
    unfold CS nM kG
    rw [k1, k2, n1, n2, if_pos rfl, if_pos rfl]
    simp [aD6]

theorem ZA {r : List aI} (h : uT r = true) : r.length ≤ 8 ∧ ∀ v ∈ r, GU v = true := by
  simp only [uT, Bool.and_eq_true, decide_eq_true_eq, List.all_eq_true] at h; exact h

theorem aCJ {a b : List aI} {k : Nat} (hk : k = a.length ∨ k = b.length) (h1 : k ≤ a.length) (h2 : k ≤ b.length) : wF (a.drop k) (b.drop k) = tE a.length b.length := by
  rcases hk with rfl | rfl
  · rw [List.drop_length]
    by_cases h : a.length = b.length
    · rw [h, List.drop_length, IC]; rfl
    · rw [List.drop_eq_getElem_cons (by omega)]
      show (-1 : Int) = _
      unfold tE; rw [if_pos (by omega)]
  · rw [List.drop_length]
    by_cases h : a.length = b.length
    · rw [← h, List.drop_length, IC]; rfl
    · rw [List.drop_eq_getElem_cons (by omega)]
      show (1 : Int) = _
      unfold tE; rw [if_neg (by omega), if_pos (by omega)]

theorem ZK {a b : List aI} (hl : a.length ≤ 8) (hlb : b.length ≤ 8) (n : Nat) (hn : n = min a.length b.length) : ∀ (m k : Nat), n - k = m → k ≤ n →
    ∃ x, lp (fun s : Int × Int => cI (fun st y0 => (kR y0 st b).bind fun o => some (o.2, o.1)) (a.take n) (n : Nat) s.1 s.2) ((k : Int) - 1, (k : Int)) = some x ∧
      ((∃ sg, x = .inl sg ∧ wF (a.drop k) (b.drop k) = tE a.length b.length) ∨
        (∃ i : Nat, x = .inr ((i : Int), (i : Int)) ∧ i < a.length ∧ i < b.length ∧ wF (a.drop k) (b.drop k) = CS (a.getD i default) (b.getD i default)))
  | 0, k, hm, hk => by
    have : k = n := by omega
    subst this
    refine ⟨.inl ((k : Int) - 1), cV ?_, .inl ⟨_, rfl, aCJ (by omega) (by omega) (by omega)⟩⟩
    show cI _ _ _ _ _ = _
    simp only [cI, kO, cond_false]
  | m + 1, k, hm, hk => by
    have h1 : k < a.length := by omega
    have h2 : k < b.length := by omega
    have ht : (a.take n)[k]? = some a[k] := by
      rw [List.getElem?_take_of_lt (by omega)]; exact List.getElem?_eq_getElem h1
    obtain ⟨d1, d2, d3, d4⟩ := idx ht (by simp; omega)
    have hlt : (a.take n).length = n := by simp; omega
    rw [hlt] at d1 d2
    obtain ⟨_, e2, e3, _⟩ := idx (List.getElem?_eq_getElem h2) (by omega)
    have hw : IntKind.i64.wrap ((k : Int) - 1 + 1) = (k : Int) := by rw [cT (by omega) (by omega)]; omega
    have hb : (fun s : Int × Int => cI (fun st y0 => (kR y0 st b).bind fun o => some (o.2, o.1)) (a.take n) (n : Nat) s.1 s.2) ((k : Int) - 1, (k : Int)) =
        some (if a[k] = b[k] then .inl ((k : Int), ((k + 1 : Nat) : Int)) else .inr (.inr ((k : Int), (k : Int)))) := by
      show cI _ _ _ _ _ = _
      simp only [cI, d1, cond_true, hlt, aP d2, d3, d4, kR, hw, aP e2, e3, veq, Option.bind_some]
      by_cases h : a[k] = b[k] <;> simp [h]
    have ea : a.drop k = a[k] :: a.drop (k + 1) := List.drop_eq_getElem_cons h1
    have eb : b.drop k = b[k] :: b.drop (k + 1) := List.drop_eq_getElem_cons h2
    by_cases h : a[k] = b[k]
    · rw [if_pos h] at hb
      obtain ⟨x, e, hx⟩ := ZK hl hlb n hn m (k + 1) (by omega) (by omega)
      have hc : wF (a.drop k) (b.drop k) = wF (a.drop (k + 1)) (b.drop (k + 1)) := by
        rw [ea, eb]; unfold wF; rw [mG, if_pos h]
      refine ⟨x, ?_, by rw [hc]; exact hx⟩
      rw [fO hb]
      rw [show ((k + 1 : Nat) : Int) - 1 = (k : Int) by omega] at e
      exact e
    · rw [if_neg h] at hb
      refine ⟨_, cV hb, .inr ⟨k, rfl, h1, h2, ?_⟩⟩
      rw [ea, eb]; unfold wF; rw [mG, if_neg h]
      simp [List.getD_eq_getElem?_getD, h1, h2]

theorem aBC (a b : List aI) : tT a b = some (if uT a && uT b then wF a b else 0) := by
  unfold tT
  rw [PF]
  simp only [Option.bind_some]
  cases ha : uT a
  · simp [dL]
  · simp only [Bool.not_true, Bool.not_false, dL, cond_true, PF, Option.bind_some, Bool.false_or]
    cases hb : uT b
    · simp
    · obtain ⟨la, ma⟩ := ZA ha
      obtain ⟨lb, mb⟩ := ZA hb
      have hif : (if ((List.length b : Nat) : Int) < ((List.length a : Nat) : Int) then ((List.length b : Nat) : Int) else ((List.length a : Nat) : Int)) = ((min a.length b.length : Nat) : Int) := by split <;> omega
      have hlt : (a.take (min a.length b.length)).length = min a.length b.length := by rw [List.length_take]; omega
      simp only [Bool.not_true, cond_false, hif, Int.toNat_natCast, vD, Option.bind_some, iR, iM, hlt, Bool.and_self, if_true]
      rw [aP ⟨by omega, by omega⟩]
      obtain ⟨x, e, hx⟩ := ZK (a := a) (b := b) la lb _ rfl _ 0 rfl (Nat.zero_le _)
      have e' : lp (fun s : Int × Int => cI (fun st y0 => (kR y0 st b).bind fun o => some (o.2, o.1)) (a.take (min a.length b.length)) (min a.length b.length : Nat) s.1 s.2) ((-1 : Int), (0 : Int)) = some x := e
      rw [e']
      simp only [List.drop_zero] at hx
      rcases hx with ⟨sg, rfl, h⟩ | ⟨i, rfl, h1, h2, h⟩
      · simp [fK, aCa, h]
      · have hi : decide ((i : Int) < 0) = false := by simp
        simp only [Option.bind_some, Sum.elim_inr, hi, cond_false, Int.toNat_natCast]
        rw [aP ⟨by omega, by omega⟩, aP ⟨by omega, by omega⟩]
        have g1 : a.getD i default ∈ a := by simp [List.getD_eq_getElem?_getD, h1]
        have g2 : b.getD i default ∈ b := by simp [List.getD_eq_getElem?_getD, h2]
        rw [aCw (ma _ g1) (mb _ g2), h]
        simp only [Option.bind_some]

end Go.Abs
namespace Go.Abs
open Go
def jE (e : aG) : aC := ⟨e.At, e.Net⟩

def gA (r : List aI) (f : List aC) : List aG → List (List aI × List aC)
  | [] => [(r, f)]
  | e :: l => if e.Row = r then gA r (f ++ [jE e]) l else (r, f) :: gA e.Row [jE e] l

def groups : List aG → List (List aI × List aC)
  | [] => []
  | e :: l => gA e.Row [jE e] l

def itG {σ : Type} (y : σ → List aI → List aC → Option (σ × Bool)) : List (List aI × List aC) → σ → Option σ
  | [], s => some s
  | g :: gs, s => (y s g.1 g.2).bind fun x => if x.2 then itG y gs x.1 else some x.1

def okL (l : List aG) : Prop := l.length ≤ 3518437208783 ∧ ∀ e ∈ l, e.Row.length ≤ 4398046510976

theorem BM {r : List aI} (h : r.length ≤ 4398046510976) : tB r = some r := by
  unfold tB
  rw [aP ⟨by omega, by omega, by omega⟩, aP (by simp only [List.length_nil, Nat.zero_add]; omega)]
  rfl

theorem MV {σ : Type} {y : σ → List aI → List aC → Option (σ × Bool)} {l : List aG} (hl : okL l) (row : List aI) (sg : σ) : ∀ (r : List aG) (k : Nat) (f : List aC), l.drop k = r → k ≤ l.length → f.length ≤ k →
    ∃ k' f', k ≤ k' ∧ k' ≤ l.length ∧ f'.length ≤ k' ∧ lp (fun s : σ × Int × List aC => kI y l row s.1 s.2.1 s.2.2) (sg, (k : Int), f) = some (sg, ((k' : Nat) : Int), f') ∧
      gA row f r = (row, f') :: groups (l.drop k') ∧ (∀ e r', r = e :: r' → e.Row = row → k < k')
  | [], k, f, hd, hk, hf => by
    have : k = l.length := by
      have := congrArg List.length hd
      simp only [List.length_drop, List.length_nil] at this; omega
    subst this
    refine ⟨l.length, f, Nat.le_refl _, Nat.le_refl _, hf, cV ?_, by simp [gA, groups], fun e r' h => by cases h⟩
    show kI _ _ _ _ _ _ = _
    simp only [kI, kO, dL, cond_false, Option.bind_some, Bool.false_and]
    exact aP (fun h => by cases h)
  | a :: r, k, f, hd, hk, hf => by
    obtain ⟨h1, h2⟩ := drop_cons hd
    have hlt : k < l.length := (List.getElem?_eq_some_iff.1 h1).1
    obtain ⟨hll, hlr⟩ := hl
    obtain ⟨d1, d2, d3, d4⟩ := idx h1 (by omega)
    have har := hlr a (List.mem_of_getElem? h1)
    have hb : (fun s : σ × Int × List aC => kI y l row s.1 s.2.1 s.2.2) (sg, (k : Int), f) = some (if a.Row = row then .inl (sg, ((k + 1 : Nat) : Int), f ++ [jE a]) else .inr (sg, (k : Int), f)) := by
      show kI _ _ _ _ _ _ = _
      simp only [kI, d1, d3, d4, dL, cond_true, FO a.Row row (by omega), Option.bind_some, Bool.true_and]
      rw [aP (fun _ => d2)]
      by_cases e : a.Row = row
      · simp only [e, decide_true, cond_true, if_true]
        rw [aP d2, aP d2, aP (by simp only [List.length_cons, List.length_nil]; omega)]
        rfl
      · simp [e]
    by_cases e : a.Row = row
    · rw [if_pos e] at hb
      obtain ⟨k', f', g1, g2, g3, g4, g5, _⟩ := MV ⟨hll, hlr⟩ row sg r (k + 1) (f ++ [jE a]) h2 (by omega) (by simp; omega) (y := y)
      refine ⟨k', f', by omega, g2, g3, by rw [fO hb]; exact g4, by simp [gA, e, g5], fun _ _ _ _ => by omega⟩
    · rw [if_neg e] at hb
      refine ⟨k, f, Nat.le_refl _, hk, hf, cV hb, ?_, fun b r' h hr => by cases h; exact absurd hr e⟩
      rw [hd]; simp [gA, e, groups]

theorem aAs {σ : Type} {y : σ → List aI → List aC → Option (σ × Bool)} {l : List aG} (hl : okL l) : ∀ (m k : Nat) (sg s' : σ), l.length - k ≤ m → k ≤ l.length → itG y (groups (l.drop k)) sg = some s' →
    ∃ x, lp (fun s : σ × Int => jG y l s.1 s.2) (sg, (k : Int)) = some x ∧ Sum.elim id id x = s' := by
  have stop : ∀ (sg s' : σ), itG y (groups (l.drop l.length)) sg = some s' → ∃ x, lp (fun s : σ × Int => jG y l s.1 s.2) (sg, ((l.length : Nat) : Int)) = some x ∧ Sum.elim id id x = s' := by
    intro sg s' h
    rw [List.drop_length] at h
    simp only [groups, itG, Option.some.injEq] at h
    refine ⟨.inl sg, cV ?_, h⟩
    show jG _ _ _ _ = _
    simp only [jG, kO, cond_false]
  intro m
  induction m with
  | zero =>
    intro k sg s' hm hk h
    have : k = l.length := by omega
    subst this; exact stop sg s' h
  | succ m ih =>
    intro k sg s' hm hk h
    by_cases he : k = l.length
    · subst he; exact stop sg s' h
    · have hlt : k < l.length := by omega
      have hd : l.drop k = l[k] :: l.drop (k + 1) := List.drop_eq_getElem_cons hlt
      obtain ⟨d1, d2, d3, d4⟩ := idx (List.getElem?_eq_getElem hlt) (by have := hl.1; omega)
      obtain ⟨k', f', g1, g2, g3, g4, g5, g6⟩ := MV hl l[k].Row sg (l.drop k) k [] rfl hk (by simp) (y := y)
      have hk' := g6 _ _ hd rfl
      have hg : groups (l.drop k) = (l[k].Row, f') :: groups (l.drop k') := by
        rw [← g5, hd]; simp [groups, gA]
      rw [hg] at h
      simp only [itG] at h
      obtain ⟨x, hx, h⟩ := aW h
      have hrow := hl.2 _ (List.getElem_mem hlt)
      have hb : (fun s : σ × Int => jG y l s.1 s.2) (sg, (k : Int)) = some (if x.2 then .inl (x.1, ((k' : Nat) : Int)) else .inr (.inr x.1)) := by
        show jG _ _ _ _ = _
        simp only [jG, d1, cond_true, aP d2, d3, tN, g4, Option.bind_some, qI, BM hrow, hx]
        cases x.2 <;> simp
      cases hx2 : x.2
      · rw [hx2] at hb h
        simp only [Bool.false_eq_true, if_false, Option.some.injEq] at hb h
        exact ⟨_, cV hb, h⟩
      · rw [hx2] at hb h
        simp only [if_true] at hb h
        obtain ⟨z, hz1, hz2⟩ := ih k' x.1 s' (by omega) g2 h
        exact ⟨z, by rw [fO hb]; exact hz1, hz2⟩

theorem QG {σ : Type} {y : σ → List aI → List aC → Option (σ × Bool)} {l : List aG} (hl : okL l) {s s' : σ} (h : itG y (groups l) s = some s') : nG y l s = some s' := by
  unfold nG tO
  obtain ⟨x, h1, h2⟩ := aAs hl l.length 0 s s' (by omega) (Nat.zero_le _) (by simpa using h)
  simp only [Int.natCast_zero] at h1
  rw [h1]
  cases x <;> simpa using h2

def ahd (last : Option (List aI)) (r : List aI) : Bool := match last with
  | none => true
  | some q => decide (wF q r < 0)

def xX (p : List aC → Bool) : Option (List aI) → List (List aI × List aC) → Bool
  | _, [] => true
  | last, g :: gs => (uT g.1 && ahd last g.1 && p g.2) && xX p (some g.1) gs

theorem ZW {holds : List aC → Option Bool} {p : List aC → Bool} (hp : ∀ f, holds f = some (p f)) (c : List aG) (t : Bool) : ∀ (gs : List (List aI × List aC)) (last : List aI) (b : Bool), (b = true → uT last = true) →
    ∃ x, itG (fun st r f => rnd (fun (s : Bool × (List aI) × Bool) => qH holds c s.1 s.2.1 s.2.2 r f) st) gs (.inl (t, last, b)) = some x ∧
      (if xX p (if b then some last else none) gs then ∃ u, x = .inl (t, u) else ∃ u, x = .inr (false, u))
  | [], last, b, _ => ⟨_, rfl, by simp [xX]⟩
  | g :: gs, last, b, hb => by
    have hy : qH holds c t last b g.1 g.2 = some (if uT g.1 && ahd (if b then some last else none) g.1 && p g.2 then .inl (t, g.1, true) else .inr (false, last, b)) := by
      unfold qH
      simp only [PF, Option.bind_some, aBC, hp]
      cases hm : uT g.1
      · simp [dL]
      · cases b
        · cases h2 : p g.2 <;> simp [dL, ahd, h2]
        · have hl := hb rfl
          by_cases h1 : wF last g.1 < 0
          · have h1' : ¬ (0 ≤ wF last g.1) := by omega
            cases h2 : p g.2 <;> simp [dL, ahd, h2, hl, h1, h1']
          · have h1' : 0 ≤ wF last g.1 := by omega
            simp [dL, ahd, hl, h1, h1']
    cases hc : (uT g.1 && ahd (if b then some last else none) g.1 && p g.2)
    · rw [hc] at hy
      simp only [itG, rnd, hy, Option.bind_some, xX, hc]
      exact ⟨.inr (false, last, b), by simp, by simp⟩
    · rw [hc] at hy
      simp only [itG, rnd, hy, Option.bind_some, xX, hc]
      have hm : uT g.1 = true := by simp only [Bool.and_eq_true] at hc; exact hc.1.1
      obtain ⟨x, h1, h2⟩ := ZW hp c t gs g.1 true (fun _ => hm)
      refine ⟨x, ?_, ?_⟩
      · simpa [rnd] using h1
      · simpa using h2

theorem ZL {l : List aG} (hl : okL l) {holds : List aC → Option Bool} {p : List aC → Bool} (hp : ∀ f, holds f = some (p f)) : uM l holds = some (decide (l.length ≤ 4096) && xX p none (groups l)) := by
  unfold uM
  by_cases h : l.length ≤ 4096
  · have h1 : decide ((4096 : Int) < ((l.length : Nat) : Int)) = false := by simp; omega
    rw [h1, cond_false]
    simp only [pQ, Option.bind_some, yT]
    obtain ⟨x, e1, e2⟩ := ZW hp l false (groups l) [] false (fun h => by cases h)
    rw [QG hl e1]
    simp only [Bool.false_eq_true, if_false] at e2
    simp only [h, decide_true, Bool.true_and]
    cases hc : xX p none (groups l)
    · rw [hc] at e2
      simp only [Bool.false_eq_true, if_false] at e2
      obtain ⟨u, rfl⟩ := e2
      rfl
    · rw [hc] at e2
      simp only [if_true] at e2
      obtain ⟨u, rfl⟩ := e2
      rfl
  · have h1 : decide ((4096 : Int) < ((l.length : Nat) : Int)) = true := by simp; omega
    rw [h1, cond_true]
    simp [h]

def jI (l : List aG) : Bool := decide (l.length ≤ 4096) && xX fI none (groups l)

theorem BV {l : List aG} (hl : okL l) : oK l = some (jI l) := by
  unfold oK
  rw [ZL hl (p := fI) (fun f => EX f)]; rfl

def OV (f : List aC) : Bool := fI f && decide (0 ≤ FC f)

def nV (l : List aG) : Bool := decide (l.length ≤ 4096) && xX OV none (groups l)

theorem DQ {l : List aG} (hl : okL l) : oP l = some (nV l) := by
  unfold oP
  rw [ZL hl (p := OV) (fun f => by
    unfold sG OV
    rw [EX]
    cases h : fI f <;> simp [dL, aDl, h])]
  rfl

def iQ (r : List aI) (f : List aC) : List aG := f.map fun j => ⟨r, j.At, j.Net⟩

theorem put_eq {out : List aG} {r : List aI} {f : List aC} (hr : r.length ≤ 4398046510976) (hl : out.length + f.length ≤ 1099511627776) : zI out r f = some (out ++ iQ r f) := by
  unfold zI AM
  rw [yL (l := f) (body := fun s : List aG × Int => pR r f (f.length : Nat) s.1 s.2) (fun o i => (o, i)) (fun o t => o ++ iQ r t) (fun o t => o.length + t.length ≤ 1099511627776) out ?_ ?_ hl]
  · rfl
  · intro i a t o ha hi
    left
    obtain ⟨d1, d2, d3, d4⟩ := idx ha (by have := (List.getElem?_eq_some_iff.1 ha).1; omega)
    simp only [List.length_cons] at hi
    refine ⟨o ++ [⟨r, a.At, a.Net⟩], ?_, by simp; omega, by simp [iQ]⟩
    show pR _ _ _ _ _ = _
    simp only [pR, d1, cond_true, aP d2, d3, d4, BM hr, Option.bind_some]
    exact aP (by simp only [List.length_cons, List.length_nil]; omega)
  · intro o _
    show pR _ _ _ _ _ = _
    simp only [pR, kO, cond_false]
    simp [iQ]

def zL (by1 : List aC → List aC × Int) : List (List aI × List aC) → List aG → List aG × Int
  | [], out => (out, 0)
  | g :: gs, out => if (by1 g.2).2 ≠ 0 then ([], (by1 g.2).2) else if 4096 < (out ++ iQ g.1 (by1 g.2).1).length then ([], 7) else zL by1 gs (out ++ iQ g.1 (by1 g.2).1)

theorem SF {by0 : List aC → Option (List aC × Int)} {by1 : List aC → List aC × Int} (c : List aG) : ∀ (gs : List (List aI × List aC)) (out : List aG), out.length ≤ 4096 → (∀ g ∈ gs, by0 g.2 = some (by1 g.2) ∧ (by1 g.2).1.length ≤ 1024 ∧ g.1.length ≤ 4398046510976) →
    ∃ x, itG (fun st r f => rnd (fun (s : (List aG) × Int × List aG) => oC by0 c s.1 s.2.1 s.2.2 r f) st) gs (.inl ([], 0, out)) = some x ∧ Sum.elim (fun s : (List aG) × Int × List aG => (s.2.2, (0 : Int))) (fun s => (s.1, s.2.1)) x = zL by1 gs out
  | [], out, _, _ => ⟨_, rfl, rfl⟩
  | g :: gs, out, ho, hg => by
    obtain ⟨h1, h2, h3⟩ := hg g (by simp)
    have hy : oC by0 c [] 0 out g.1 g.2 = some (if (by1 g.2).2 ≠ 0 then .inr ([], (by1 g.2).2, out) else if 4096 < (out ++ iQ g.1 (by1 g.2).1).length then .inr ([], 7, out ++ iQ g.1 (by1 g.2).1) else .inl ([], 0, out ++ iQ g.1 (by1 g.2).1)) := by
      unfold oC
      simp only [h1, Option.bind_some, put_eq h3 (show out.length + (by1 g.2).1.length ≤ 1099511627776 by omega)]
      by_cases e1 : (by1 g.2).2 = 0
      · by_cases e2 : 4096 < (out ++ iQ g.1 (by1 g.2).1).length
        · have e2' : (4096 : Int) < (((out ++ iQ g.1 (by1 g.2).1).length : Nat) : Int) := by omega
          simp only [e1, e2, e2', decide_true, Bool.not_true, cond_false, cond_true, ne_eq, not_true_eq_false, if_false, if_true]
        · have e2' : ¬ (4096 : Int) < (((out ++ iQ g.1 (by1 g.2).1).length : Nat) : Int) := by omega
          simp only [e1, e2, e2', decide_true, decide_false, Bool.not_true, cond_false, ne_eq, not_true_eq_false, if_false]
      · simp only [e1, decide_false, Bool.not_false, cond_true, ne_eq, not_false_eq_true, if_true]
    simp only [itG, rnd, hy, Option.bind_some, zL]
    by_cases e1 : (by1 g.2).2 ≠ 0
    · rw [if_pos e1, if_pos e1]; exact ⟨_, rfl, rfl⟩
    · rw [if_neg e1, if_neg e1]
      by_cases e2 : 4096 < (out ++ iQ g.1 (by1 g.2).1).length
      · rw [if_pos e2, if_pos e2]; exact ⟨_, rfl, rfl⟩
      · rw [if_neg e2, if_neg e2]
        exact SF c gs _ (by omega) (fun q hq => hg q (by simp [hq]))

theorem aB7 {l : List aG} (hl : okL l) {by0 : List aC → Option (List aC × Int)} {by1 : List aC → List aC × Int} (hb : ∀ g ∈ groups l, by0 g.2 = some (by1 g.2) ∧ (by1 g.2).1.length ≤ 1024 ∧ g.1.length ≤ 4398046510976) : tY l by0 = some (zL by1 (groups l) []) := by
  unfold tY
  simp only [pQ, Option.bind_some, wH]
  obtain ⟨x, e1, e2⟩ := SF (by0 := by0) (by1 := by1) l (groups l) [] (by simp) hb
  rw [QG hl e1]
  cases x <;> simpa using e2

def flat (gs : List (List aI × List aC)) : List aG := gs.flatMap fun g => iQ g.1 g.2

theorem PC : ∀ (l : List aG) (r : List aI) (f : List aC), flat (gA r f l) = iQ r f ++ l
  | [], r, f => by simp [gA, flat]
  | e :: l, r, f => by
    unfold gA
    split
    · rename_i h
      rw [PC l r]
      simp [iQ, jE, ← h]
    · have := PC l e.Row [jE e]
      simp only [flat, List.flatMap_cons] at this ⊢
      rw [this]
      simp [iQ, jE]

theorem EI (l : List aG) : flat (groups l) = l := by
  cases l with
  | nil => rfl
  | cons e l => unfold groups; rw [PC]; simp [iQ, jE]

theorem VX {r : List aI} : ∀ {l : List aG} {f : List aC} {g : List aI × List aC}, g ∈ gA r f l → f ≠ [] → g.2 ≠ [] ∧ (g.1 = r ∨ ∃ e ∈ l, g.1 = e.Row)
  | [], f, g, h, hf => by simp only [gA, List.mem_singleton] at h; subst h; exact ⟨hf, .inl rfl⟩
  | e :: l, f, g, h, hf => by
    unfold gA at h
    split at h
    · obtain ⟨h1, h2⟩ := VX h (by simp)
      exact ⟨h1, h2.imp id fun ⟨x, hx, hx'⟩ => ⟨x, by simp [hx], hx'⟩⟩
    · rcases List.mem_cons.1 h with rfl | h
      · exact ⟨hf, .inl rfl⟩
      · obtain ⟨h1, h2⟩ := VX (r := e.Row) h (by simp)
        refine ⟨h1, .inr ?_⟩
        rcases h2 with h2 | ⟨x, hx, hx'⟩
        · exact ⟨e, by simp, h2⟩
        · exact ⟨x, by simp [hx], hx'⟩

theorem aAG {l : List aG} {g : List aI × List aC} (h : g ∈ groups l) : g.2 ≠ [] ∧ ∃ e ∈ l, g.1 = e.Row := by
  cases l with
  | nil => simp [groups] at h
  | cons e l =>
    obtain ⟨h1, h2⟩ := VX h (by simp)
    refine ⟨h1, ?_⟩
    rcases h2 with h2 | ⟨x, hx, hx'⟩
    · exact ⟨e, by simp, h2⟩
    · exact ⟨x, by simp [hx], hx'⟩

end Go.Abs
namespace Go.Abs
open Go
def gS (l : List aG) (r : List aI) : List aC := (l.filter fun e => decide (e.Row = r)).map jE

theorem EO (a b : List aG) (r : List aI) : gS (a ++ b) r = gS a r ++ gS b r := by simp [gS]

theorem SI (q : List aI) (f : List aC) (r : List aI) : gS (iQ q f) r = if q = r then f else [] := by
  induction f with
  | nil => simp [gS, iQ]
  | cons j f ih =>
    have h1 : iQ q (j :: f) = [⟨q, j.At, j.Net⟩] ++ iQ q f := rfl
    rw [h1, EO, ih]
    by_cases h : q = r <;> simp [gS, jE, h]

def look : List (List aI × List aC) → List aI → List aC
  | [], _ => []
  | g :: gs, r => if g.1 = r then g.2 else look gs r

theorem yK (g : List aI × List aC) (gs : List (List aI × List aC)) (r : List aI) : look (g :: gs) r = if g.1 = r then g.2 else look gs r := rfl

abbrev ltG (a b : List aI × List aC) : Prop := wF a.1 b.1 < 0

abbrev wY (gs : List (List aI × List aC)) : Prop := gs.Pairwise ltG

abbrev Full (gs : List (List aI × List aC)) : Prop := ∀ g ∈ gs, g.2 ≠ []

theorem zR {a : List aI} : ¬ wF a a < 0 := by rw [(UA.eq a a).2 rfl]; omega

theorem SE : ∀ {gs : List (List aI × List aC)} {r : List aI}, (∀ g ∈ gs, g.1 ≠ r) → look gs r = []
  | [], _, _ => rfl
  | g :: gs, r, h => by
    rw [yK]
    rw [if_neg (h g (by simp))]
    exact SE fun q hq => h q (by simp [hq])

theorem FY (gs : List (List aI × List aC)) (r : List aI) : (look gs r = [] ∧ ∀ g ∈ gs, g.1 ≠ r) ∨ ∃ g ∈ gs, g.1 = r ∧ look gs r = g.2 := by
  induction gs with
  | nil => exact .inl ⟨rfl, by simp⟩
  | cons g gs ih =>
    rw [yK]
    by_cases h : g.1 = r
    · rw [if_pos h]; exact .inr ⟨g, by simp, h, rfl⟩
    · rw [if_neg h]
      rcases ih with ⟨h1, h2⟩ | ⟨q, hq, h1, h2⟩
      · refine .inl ⟨h1, fun q hq => ?_⟩
        rcases List.mem_cons.1 hq with rfl | hq
        · exact h
        · exact h2 q hq
      · exact .inr ⟨q, by simp [hq], h1, h2⟩

theorem VO {gs : List (List aI × List aC)} (hs : wY gs) {g : List aI × List aC} (hg : g ∈ gs) : look gs g.1 = g.2 := by
  induction gs with
  | nil => simp at hg
  | cons q gs ih =>
    have hs' := List.pairwise_cons.1 hs
    rw [yK]
    rcases List.mem_cons.1 hg with rfl | hg
    · rw [if_pos rfl]
    · rw [if_neg (fun e => by have := hs'.1 g hg; simp only [ltG, e] at this; exact zR this)]
      exact ih hs'.2 hg

theorem sZ (g : List aI × List aC) (gs : List (List aI × List aC)) : flat (g :: gs) = iQ g.1 g.2 ++ flat gs := rfl

theorem yQ : ∀ {gs : List (List aI × List aC)}, wY gs → ∀ r, gS (flat gs) r = look gs r
  | [], _, r => rfl
  | g :: gs, hs, r => by
    have hs' := List.pairwise_cons.1 hs
    rw [sZ, EO, SI, yQ hs'.2, yK]
    by_cases h : g.1 = r
    · rw [if_pos h, if_pos h, SE, List.append_nil]
      intro q hq e
      have := hs'.1 q hq
      simp only [ltG, h, e] at this; exact zR this
    · rw [if_neg h, if_neg h]; rfl

theorem yN {p : List aC → Bool} : ∀ {gs : List (List aI × List aC)} {last : Option (List aI)}, xX p last gs = true ↔ (∀ g ∈ gs, uT g.1 = true ∧ p g.2 = true) ∧ wY gs ∧ (∀ q, last = some q → ∀ g ∈ gs, wF q g.1 < 0)
  | [], last => by simp [xX]
  | g :: gs, last => by
    unfold xX
    simp only [Bool.and_eq_true, yN (gs := gs), List.mem_cons, List.pairwise_cons]
    constructor
    · rintro ⟨⟨⟨h1, h2⟩, h3⟩, h4, h5, h6⟩
      refine ⟨?_, ⟨fun q hq => h6 _ rfl q hq, h5⟩, ?_⟩
      · rintro q (rfl | hq)
        · exact ⟨h1, h3⟩
        · exact h4 q hq
      · rintro q rfl x (rfl | hx)
        · simpa [ahd] using h2
        · simp only [ahd, decide_eq_true_eq] at h2
          exact UA.trans _ _ _ h2 (h6 _ rfl x hx)
    · rintro ⟨h1, ⟨h2, h3⟩, h4⟩
      refine ⟨⟨⟨(h1 g (.inl rfl)).1, ?_⟩, (h1 g (.inl rfl)).2⟩, fun q hq => h1 q (.inr hq), h3, ?_⟩
      · unfold ahd
        split
        · rfl
        · exact decide_eq_true (h4 _ rfl g (.inl rfl))
      · rintro q hq x hx
        cases hq
        exact h2 x hx

theorem mR {l : List aG} (h : jI l = true) : l.length ≤ 4096 ∧ (∀ g ∈ groups l, uT g.1 = true ∧ fI g.2 = true) ∧ wY (groups l) := by
  simp only [jI, Bool.and_eq_true, decide_eq_true_eq] at h
  obtain ⟨h1, h2, _⟩ := yN.1 h.2
  exact ⟨h.1, h1, h2⟩

theorem aBn {l : List aG} (h : jI l = true) (r : List aI) : fI (look (groups l) r) = true := by
  rcases FY (groups l) r with ⟨h1, _⟩ | ⟨g, hg, _, h1⟩
  · rw [h1]; exact ZE
  · rw [h1]; exact ((mR h).2.1 g hg).2

theorem yX {l : List aG} (h : wY (groups l)) (r : List aI) : look (groups l) r = gS l r := by
  rw [← yQ h, EI]

theorem aAg (r : List aI) (f : List aC) (e : aG) (l : List aG) : gA r f (e :: l) = if e.Row = r then gA r (f ++ [jE e]) l else (r, f) :: gA e.Row [jE e] l := rfl

theorem XE (r : List aI) : ∀ (f2 f : List aC) (l : List aG), gA r f (iQ r f2 ++ l) = gA r (f ++ f2) l
  | [], f, l => by simp [iQ]
  | j :: f2, f, l => by
    show gA r f (⟨r, j.At, j.Net⟩ :: (iQ r f2 ++ l)) = _
    rw [aAg, if_pos rfl, XE r f2]
    simp [jE]

theorem RE : ∀ {gs : List (List aI × List aC)}, wY gs → Full gs → groups (flat gs) = gs
  | [], _, _ => rfl
  | (r, f) :: gs, hs, hf => by
    have hs' := List.pairwise_cons.1 hs
    have hne := hf (r, f) (by simp)
    have ih := RE hs'.2 (fun g hg => hf g (by simp [hg]))
    cases f with
    | nil => exact absurd rfl hne
    | cons j f =>
      rw [sZ]
      show gA r [jE ⟨r, j.At, j.Net⟩] (iQ r f ++ flat gs) = _
      rw [XE]
      have key : ∀ (F : List aC), gA r F (flat gs) = (r, F) :: groups (flat gs) := by
        intro F
        cases gs with
        | nil => rfl
        | cons g gs =>
          obtain ⟨q, f'⟩ := g
          have hq := hf (q, f') (by simp)
          cases f' with
          | nil => exact absurd rfl hq
          | cons j' f' =>
            have hqr : q ≠ r := fun e => by
              have := hs'.1 (q, j' :: f') (by simp)
              simp only [ltG, e] at this; exact zR this
            rw [sZ]
            show gA r F (⟨q, j'.At, j'.Net⟩ :: (iQ q f' ++ flat gs)) = _
            rw [gA, if_neg hqr]
            rfl
      rw [key, ih]
      rfl

def JA (gs : List (List aI × List aC)) : List (List aI × List aC) := gs.filter fun g => !g.2.isEmpty

theorem DT : ∀ (gs : List (List aI × List aC)), flat (JA gs) = flat gs
  | [] => rfl
  | (r, []) :: gs => by
    have : JA ((r, []) :: gs) = JA gs := rfl
    rw [this, DT gs, sZ]; rfl
  | (r, j :: f) :: gs => by
    have : JA ((r, j :: f) :: gs) = (r, j :: f) :: JA gs := rfl
    rw [this, sZ, sZ, DT gs]

theorem aCf (gs : List (List aI × List aC)) : Full (JA gs) := by
  intro g hg
  have := (List.mem_filter.1 hg).2
  intro h; rw [h] at this; simp at this

theorem DW {gs : List (List aI × List aC)} (hs : wY gs) : groups (flat gs) = JA gs := by
  rw [← DT]
  exact RE (hs.filter _) (aCf gs)

theorem aBS {gs : List (List aI × List aC)} (hs : wY gs) (r : List aI) : look (groups (flat gs)) r = look gs r := by
  have h1 := yQ (gs := JA gs) (hs.filter _) r
  rw [DW hs, ← h1, ← yQ hs, DT]

theorem aBk {gs : List (List aI × List aC)} (hs : wY gs) (hm : ∀ g ∈ gs, uT g.1 = true ∧ fI g.2 = true) (hl : (flat gs).length ≤ 4096) : jI (flat gs) = true := by
  simp only [jI, Bool.and_eq_true, decide_eq_true_eq]
  refine ⟨hl, yN.2 ?_⟩
  rw [DW hs]
  exact ⟨fun g hg => hm g (List.mem_filter.1 hg).1, hs.filter _, by simp⟩

def HN (by1 : List aC → List aC × Int) (gs : List (List aI × List aC)) : List (List aI × List aC) := gs.map fun g => (g.1, (by1 g.2).1)

theorem UU {by1 : List aC → List aC × Int} {gs : List (List aI × List aC)} (hs : wY gs) : wY (HN by1 gs) := by
  rw [wY, HN, List.pairwise_map]; exact hs

theorem QU {by1 : List aC → List aC × Int} (h0 : (by1 []).1 = []) : ∀ (gs : List (List aI × List aC)) (r : List aI), look (HN by1 gs) r = (by1 (look gs r)).1
  | [], r => h0.symm
  | g :: gs, r => by
    show look ((g.1, (by1 g.2).1) :: HN by1 gs) r = _
    rw [yK, yK]
    by_cases h : g.1 = r
    · rw [if_pos h, if_pos h]
    · rw [if_neg h, if_neg h]; exact QU h0 gs r

theorem ZY {by1 : List aC → List aC × Int} : ∀ {gs : List (List aI × List aC)} {out : List aG}, out.length ≤ 4096 → (zL by1 gs out).2 = 0 → (∀ g ∈ gs, (by1 g.2).2 = 0) ∧ (zL by1 gs out).1 = out ++ flat (HN by1 gs) ∧ (zL by1 gs out).1.length ≤ 4096
  | [], out, ho, _ => by simp [zL, HN, flat, ho]
  | g :: gs, out, ho, h => by
    unfold zL at h ⊢
    by_cases e1 : (by1 g.2).2 = 0
    · rw [if_neg (by simp [e1])] at h ⊢
      by_cases e2 : 4096 < (out ++ iQ g.1 (by1 g.2).1).length
      · rw [if_pos e2] at h; simp at h
      · rw [if_neg e2] at h ⊢
        obtain ⟨h1, h2, h3⟩ := ZY (by omega) h
        refine ⟨?_, ?_, h3⟩
        · intro q hq
          rcases List.mem_cons.1 hq with rfl | hq
          · exact e1
          · exact h1 q hq
        · rw [h2]; simp [HN, sZ]
    · rw [if_pos e1] at h; exact absurd h e1

theorem VU {by1 : List aC → List aC × Int} : ∀ {gs : List (List aI × List aC)} {out : List aG}, (zL by1 gs out).2 ≠ 0 → (zL by1 gs out).1 = []
  | [], out, h => by simp [zL] at h
  | g :: gs, out, h => by
    unfold zL at h ⊢
    split
    · rfl
    · rename_i e1
      rw [if_neg e1] at h
      split
      · rfl
      · rename_i e2
        rw [if_neg e2] at h
        exact VU h

def yE (by1 : List aC → List aC × Int) (l : List aG) : List aG × Int := if jI l then zL by1 (groups l) [] else ([], 2)

theorem DJ {l : List aG} (hl : okL l) {g : List aI × List aC} (hg : g ∈ groups l) : g.1.length ≤ 4398046510976 := by
  obtain ⟨_, e, he, h⟩ := aAG hg
  rw [h]; exact hl.2 e he

theorem all_eq {l : List aG} (hl : okL l) {by0 : List aC → Option (List aC × Int)} {by1 : List aC → List aC × Int} (hb : ∀ f, by0 f = some (by1 f)) (h1 : ∀ f, (by1 f).1.length ≤ 1024) : zN l by0 = some (yE by1 l) := by
  unfold zN yE
  rw [BV hl]
  cases h : jI l
  · rfl
  · simp only [Option.bind_some, Bool.not_true, cond_false, if_true]
    rw [aB7 hl (fun g hg => ⟨hb g.2, h1 g.2, DJ hl hg⟩)]
    rfl

theorem FB {by1 : List aC → List aC × Int} {l : List aG} (h : (yE by1 l).2 = 0) : jI l = true ∧ (∀ g ∈ groups l, (by1 g.2).2 = 0) ∧ (yE by1 l).1 = flat (HN by1 (groups l)) ∧ (yE by1 l).1.length ≤ 4096 := by
  unfold yE at h ⊢
  cases hm : jI l
  · rw [hm] at h; simp at h
  · rw [hm] at h
    simp only [if_true] at h ⊢
    obtain ⟨h1, h2, h3⟩ := ZY (by simp) h
    exact ⟨trivial, h1, by simpa using h2, h3⟩

theorem aCD {by1 : List aC → List aC × Int} (h0 : (by1 []).1 = []) {l : List aG} (h : (yE by1 l).2 = 0) (r : List aI) : look (groups (yE by1 l).1) r = (by1 (look (groups l) r)).1 := by
  obtain ⟨h1, h2, h3, _⟩ := FB h
  rw [h3, aBS (UU (mR h1).2.2), QU h0]

theorem aCF {by1 : List aC → List aC × Int} (h0 : (by1 []).2 = 0) {l : List aG} (h : (yE by1 l).2 = 0) (r : List aI) : (by1 (look (groups l) r)).2 = 0 := by
  obtain ⟨h1, h2, _, _⟩ := FB h
  rcases FY (groups l) r with ⟨e, _⟩ | ⟨g, hg, _, e⟩
  · rw [e]; exact h0
  · rw [e]; exact h2 g hg

theorem XT {f g : List aG} (hl : okL f) : vP f g = some (decide (f = g)) := by
  unfold vP
  by_cases he : f.length = g.length
  · rw [TP he, cond_false]
    unfold xT
    have := TE (f := f) (g := g) (body := fun s => qY f g s) he ?_ ?_ f.length 0 rfl (Nat.zero_le _)
    · simp only [Int.natCast_zero, List.drop_zero] at this
      rw [this]
      by_cases h : f = g <;> simp [h, tZ]
    · intro i x y hx hy
      have hll := hl.1
      obtain ⟨d1, d2, d3, d4⟩ := idx hx (by omega)
      obtain ⟨_, e2, e3, _⟩ := idx hy (by omega)
      have hr := hl.2 x (List.mem_of_getElem? hx)
      simp only [qY, d1, cond_true, aP d2, aP e2, d3, e3, d4, dL]
      rw [aP (fun _ => d2), aP (fun _ => e2), aP (fun _ => d2), aP (fun _ => e2), SY x.Row y.Row (by omega)]
      obtain ⟨x1, x2, x3⟩ := x
      obtain ⟨y1, y2, y3⟩ := y
      by_cases h1 : x2 = y2 <;> by_cases h2 : x3 = y3 <;> by_cases h3 : x1 = y1 <;> simp [h1, h2, h3]
    · simp only [qY, kO, cond_false]
  · rw [WE he, cond_true]
    have : f ≠ g := fun h => he (by rw [h])
    simp [this]

theorem BD : ∀ (l : List aG) (r : List aI) (f : List aC), (gA r f l).length ≤ l.length + 1
  | [], _, _ => by simp [gA]
  | e :: l, r, f => by
    rw [aAg]
    split
    · have := BD l r (f ++ [jE e]); simp only [List.length_cons]; omega
    · have := BD l e.Row [jE e]; simp only [List.length_cons]; omega

theorem NP (l : List aG) : (groups l).length ≤ l.length := by
  cases l with
  | nil => simp [groups]
  | cons e l => exact BD l e.Row [jE e]

end Go.Abs
namespace Go.Abs
open Go
def vL : aI := ⟨1, 1, ByteArray.empty⟩

end Go.Abs
namespace Go.Abs
open Go
theorem YZ : okL [] := ⟨by simp, by simp⟩

theorem aDo {gs : List (List aI × List aC)} (h : ∀ g ∈ gs, g.1.length ≤ 4398046510976) (hl : (flat gs).length ≤ 4096) : okL (flat gs) := by
  refine ⟨by omega, fun e he => ?_⟩
  obtain ⟨g, hg, h1⟩ := List.mem_flatMap.1 he
  obtain ⟨j, _, rfl⟩ := List.mem_map.1 h1
  exact h g hg

theorem aC3 {by1 : List aC → List aC × Int} {l : List aG} (hl : okL l) : okL (yE by1 l).1 := by
  by_cases h : (yE by1 l).2 = 0
  · obtain ⟨_, _, h3, h4⟩ := FB h
    rw [h3] at h4 ⊢
    refine aDo (fun g hg => ?_) h4
    obtain ⟨q, hq, rfl⟩ := List.mem_map.1 hg
    have := DJ hl hq
    exact this
  · unfold yE at h ⊢
    split
    · rename_i hm
      rw [if_pos hm] at h
      rw [VU h]; exact YZ
    · exact YZ

def pI (l : List aG) (t : Int) : List aG × Int := yE (fun f => ahead f t) l

theorem aAY {l : List aG} (hl : okL l) (t : Int) : okL (pI l t).1 := aC3 hl

theorem RG {l : List aG} (hl : okL l) (t : Int) : sC l t = some (pI l t) := by
  unfold sC pI
  rw [all_eq hl (by0 := fun y0 => qA y0 t) (by1 := fun f => ahead f t) (fun f => by unfold qA; rw [aCO]; rfl) (fun f => aB5 f t)]
  rfl

theorem RR {t : Int} (ht0 : 0 ≤ t) : ahead [] t = ([], 0) := by
  unfold ahead
  rw [if_pos ZE]
  split
  · rfl
  · rfl

end Go.Abs
namespace Go.Abs
open Go
theorem KQ {σ : Type} {y : σ → List aI → List aC → Option (σ × Bool)} (c : List aG) : ∀ (gs : List (List aI × List aC)) (s s' : σ), itG y gs s = some s' →
    ∃ x, itG (fun st t10 t11 => rnd (fun (s : σ) => lO y c s t10 t11) st) gs (.inl s) = some x ∧ Sum.elim id id x = s'
  | [], s, s', h => by simp only [itG, Option.some.injEq] at h; exact ⟨_, rfl, h⟩
  | g :: gs, s, s', h => by
    simp only [itG] at h
    obtain ⟨z, hz, h⟩ := aW h
    have hl : lO y c s g.1 g.2 = some (if z.2 then .inl z.1 else .inr z.1) := by
      unfold lO
      rw [hz]
      obtain ⟨z1, z2⟩ := z
      cases z2 <;> rfl
    cases h2 : z.2
    · rw [h2] at h hl
      simp only [Bool.false_eq_true, if_false, Option.some.injEq] at h hl
      refine ⟨.inr z.1, ?_, h⟩
      simp [itG, rnd, hl]
    · rw [h2] at h hl
      simp only [if_true] at h hl
      obtain ⟨x, h3, h4⟩ := KQ c gs z.1 s' h
      refine ⟨x, ?_, h4⟩
      simp only [itG, rnd, hl, Option.bind_some, Sum.isLeft_inl, if_true]
      exact h3

theorem MF {σ : Type} {y : σ → List aI → List aC → Option (σ × Bool)} {l : List aG} (hl : okL l) {s s' : σ} (h : itG y (if jI l then groups l else []) s = some s') : nP y l s = some s' := by
  unfold nP
  rw [BV hl]
  cases hm : jI l
  · rw [hm] at h
    simp only [Bool.false_eq_true, if_false, itG] at h
    simpa using h
  · rw [hm] at h
    simp only [if_true] at h
    simp only [Option.bind_some, Bool.not_true, cond_false, pQ, rJ]
    obtain ⟨x, h1, h2⟩ := KQ l (groups l) s s' h
    rw [QG hl h1]
    cases x <;> simpa using h2

theorem wT {l : List aG} (hm : jI l = true) {e : aG} (he : e ∈ l) : uT e.Row = true ∧ -2 < e.At ∧ e.At < 1125899906842624 ∧ e.Net ≠ 0 ∧ e.Net ≤ 1048576 ∧ -1048576 ≤ e.Net := by
  obtain ⟨_, h2, _⟩ := mR hm
  have he' : e ∈ flat (groups l) := by rw [EI]; exact he
  obtain ⟨g, hg, h1⟩ := List.mem_flatMap.1 he'
  obtain ⟨j, hj, rfl⟩ := List.mem_map.1 h1
  obtain ⟨a, b⟩ := h2 g hg
  exact ⟨a, (mS.1 b).2.above j hj⟩

theorem OJ {l : List aG} (hm : jI l = true) (r : List aI) : fI (gS l r) = true := by
  rw [← yX (mR hm).2.2]; exact aBn hm r

end Go.Abs
namespace Go.Abs
open Go
theorem aAa {c : Int} : ∀ {l : List Int} {m : Int}, c ≤ l.foldl mn m ↔ c ≤ m ∧ ∀ x ∈ l, c ≤ x
  | [], m => by simp
  | a :: l, m => by
    rw [List.foldl_cons, aAa]
    unfold mn
    constructor
    · rintro ⟨h1, h2⟩
      have h3 : c ≤ m ∧ c ≤ a := by split at h1 <;> omega
      refine ⟨h3.1, fun x hx => ?_⟩
      rcases List.mem_cons.1 hx with rfl | hx
      · exact h3.2
      · exact h2 x hx
    · rintro ⟨h1, h2⟩
      have := h2 a (by simp)
      exact ⟨by split <;> omega, fun x hx => h2 x (by simp [hx])⟩

theorem RV {t : Int} : ∀ {f : List aC} {l v : Int}, rR l f → v + val f t = v ∨ v + val f t ∈ parts v f
  | [], l, v, _ => .inl (by simp [val])
  | j :: r, l, v, h => by
    unfold parts
    rw [mC]
    by_cases e : j.At ≤ t
    · rw [if_pos e]
      right
      rcases RV (t := t) (v := v + j.Net) h.2 with h1 | h1
      · rw [show v + (j.Net + val r t) = v + j.Net by omega]; simp
      · rw [show v + (j.Net + val r t) = v + j.Net + val r t by omega]; exact List.mem_cons_of_mem _ h1
    · left
      rw [if_neg e, h.2.aDc (by omega)]; omega

theorem RX {f : List aC} (hf : fI f = true) : 0 ≤ FC f ↔ ∀ t, 0 ≤ val f t := by
  have hr := (mS.1 hf).2
  unfold FC
  rw [aAa]
  constructor
  · rintro ⟨_, h2⟩ t
    rcases RV (t := t) (v := 0) hr with h | h
    · omega
    · rw [parts_eq hr] at h
      obtain ⟨j, hj, h⟩ := List.mem_map.1 h
      have := h2 _ (List.mem_map.2 ⟨j, hj, rfl⟩)
      omega
  · intro h
    refine ⟨h _, fun x hx => ?_⟩
    obtain ⟨j, _, rfl⟩ := List.mem_map.1 hx
    exact h _

theorem aAE {l : List aG} : nV l = true ↔ jI l = true ∧ ∀ r t, 0 ≤ val (gS l r) t := by
  constructor
  · intro h
    unfold nV at h
    rw [Bool.and_eq_true, yN] at h
    obtain ⟨h1, h2, h3, _⟩ := h
    have hm : jI l = true := by
      unfold jI
      rw [Bool.and_eq_true]
      exact ⟨h1, yN.2 ⟨fun g hg => ⟨(h2 g hg).1, by have := (h2 g hg).2; unfold OV at this; rw [Bool.and_eq_true] at this; exact this.1⟩, h3, fun q hq => by cases hq⟩⟩
    refine ⟨hm, fun r => ?_⟩
    rw [← yX h3]
    rcases FY (groups l) r with ⟨e, _⟩ | ⟨g, hg, _, e⟩
    · rw [e]; intro t; simp [val]
    · rw [e]
      have := (h2 g hg).2
      unfold OV at this
      rw [Bool.and_eq_true, decide_eq_true_eq] at this
      exact (RX this.1).1 this.2
  · rintro ⟨hm, h⟩
    obtain ⟨h1, h2, h3⟩ := mR hm
    unfold nV
    rw [Bool.and_eq_true]
    refine ⟨by simpa using h1, yN.2 ⟨fun g hg => ⟨(h2 g hg).1, ?_⟩, h3, fun q hq => by cases hq⟩⟩
    unfold OV
    rw [Bool.and_eq_true, decide_eq_true_eq]
    refine ⟨(h2 g hg).2, (RX (h2 g hg).2).2 ?_⟩
    have : g.2 = gS l g.1 := by rw [← yX h3, VO h3 hg]
    rw [this]; exact h g.1

end Go.Abs
namespace Go.Abs
open Go
abbrev gN (d : List Int) (i : Nat) : Int := d.getD i default

def swp (d : List Int) (i j : Nat) : List Int := (d.set i (gN d j)).set j (gN d i)

theorem aCm {d : List Int} {i k : Nat} {x : Int} (h : i < d.length) : gN (d.set i x) k = if k = i then x else gN d k := by
  simp only [gN, List.getD_eq_getElem?_getD, List.getElem?_set]
  by_cases e : i = k
  · subst e; simp [h]
  · rw [if_neg e, if_neg (fun h => e h.symm)]

theorem iK (d : List Int) (i j : Nat) : (swp d i j).length = d.length := by simp [swp]

theorem uP {d : List Int} {i j : Nat} (hi : i < d.length) (hj : j < d.length) (k : Nat) : gN (swp d i j) k = if k = j then gN d i else if k = i then gN d j else gN d k := by
  unfold swp
  rw [aCm (by simpa using hj), aCm hi]

theorem aDp {d : List Int} {i j : Nat} (hi : i < d.length) (hj : j < d.length) : (swp d i j).Perm d := by
  have h1 : gN d i = d[i] := by simp [gN, List.getD_eq_getElem?_getD, List.getElem?_eq_getElem hi]
  have h2 : gN d j = d[j] := by simp [gN, List.getD_eq_getElem?_getD, List.getElem?_eq_getElem hj]
  unfold swp
  rw [h1, h2]
  exact List.set_set_perm hi hj

structure Rel (a b : Nat) (d d' : List Int) : Prop where
  len : d'.length = d.length
  perm : d'.Perm d
  out : ∀ k, k < a ∨ b ≤ k → gN d' k = gN d k
  src : ∀ k, a ≤ k → k < b → ∃ k', a ≤ k' ∧ k' < b ∧ gN d' k = gN d k'

theorem Rel.refl (a b : Nat) (d : List Int) : Rel a b d d := ⟨rfl, .refl _, fun _ _ => rfl, fun k h1 h2 => ⟨k, h1, h2, rfl⟩⟩

theorem Rel.trans {a b : Nat} {d d' d'' : List Int} (h : Rel a b d d') (h' : Rel a b d' d'') : Rel a b d d'' :=
  ⟨h'.len.trans h.len, h'.perm.trans h.perm, fun k hk => (h'.out k hk).trans (h.out k hk), fun k h1 h2 => by
    obtain ⟨k1, a1, a2, a3⟩ := h'.src k h1 h2
    obtain ⟨k2, b1, b2, b3⟩ := h.src k1 a1 a2
    exact ⟨k2, b1, b2, a3.trans b3⟩⟩

theorem Rel.mono {a b a' b' : Nat} {d d' : List Int} (h : Rel a b d d') (h1 : a' ≤ a) (h2 : b ≤ b') : Rel a' b' d d' :=
  ⟨h.len, h.perm, fun k hk => h.out k (by omega), fun k k1 k2 => by
    by_cases hk : a ≤ k ∧ k < b
    · obtain ⟨k', c1, c2, c3⟩ := h.src k hk.1 hk.2
      exact ⟨k', by omega, by omega, c3⟩
    · exact ⟨k, k1, k2, h.out k (by omega)⟩⟩

theorem Rel.swp {a b : Nat} {d : List Int} {i j : Nat} (hi : i < d.length) (hj : j < d.length) (h1 : a ≤ i ∧ i < b) (h2 : a ≤ j ∧ j < b) : Rel a b d (swp d i j) :=
  ⟨iK .., aDp hi hj, fun k hk => by rw [uP hi hj, if_neg (by omega), if_neg (by omega)], fun k k1 k2 => by
    rw [uP hi hj]
    split
    · exact ⟨i, h1.1, h1.2, rfl⟩
    · split
      · exact ⟨j, h2.1, h2.2, rfl⟩
      · exact ⟨k, k1, k2, rfl⟩⟩

theorem Rel.all {a b : Nat} {d d' : List Int} (h : Rel a b d d') {p : Int → Prop} (hp : ∀ k, a ≤ k → k < b → p (gN d k)) : ∀ k, a ≤ k → k < b → p (gN d' k) := fun k k1 k2 => by
  obtain ⟨k', c1, c2, c3⟩ := h.src k k1 k2
  rw [c3]; exact hp k' c1 c2

def qV (a b : Nat) (d : List Int) : Prop := ∀ p q, a ≤ p → p ≤ q → q < b → gN d p ≤ gN d q

theorem tH (a b : Int) : dA a b = some (decide (a < b)) := by simp [dA, kW, dL]

theorem wrN {x : Int} {n : Nat} (h : x = (n : Int)) (hn : n ≤ 9000000000000000000) : IntKind.i64.wrap x = (n : Int) := by
  rw [cT (by omega) (by omega), h]

theorem asN {i n : Nat} (h : i < n) : 0 ≤ (i : Int) ∧ (i : Int) < ((n : Nat) : Int) := by omega

theorem WS {a b i : Int} {d : List Int} {lo j : Nat} (ha : a = (lo : Nat)) (h1 : lo ≤ j) (hj : j < d.length) (hl : d.length < 4611686018427387904) :
    fH a b i d (j : Nat) = if lo < j ∧ gN d j < gN d (j - 1) then some (.inl (swp d j (j - 1), ((j - 1 : Nat) : Int))) else some (.inr d) := by
  subst ha
  unfold fH
  by_cases h : lo < j
  · have e1 : IntKind.i64.wrap ((j : Int) - 1) = ((j - 1 : Nat) : Int) := wrN (by omega) (by omega)
    have d1 : decide (((lo : Nat) : Int) < ((j : Nat) : Int)) = true := by simp; omega
    rw [e1, d1]
    simp only [true_and, Int.toNat_natCast, tH, dL, cond_true, Option.bind_some, Bool.true_and]
    rw [aP fun _ => asN hj, aP fun _ => asN (by omega)]
    by_cases h2 : gN d j < gN d (j - 1)
    · rw [if_pos ⟨h, h2⟩]
      simp only [gN] at h2
      simp only [h2, decide_true, cond_true]
      rw [aP (asN (by omega)), aP (asN hj), aP (asN hj), aP (asN (by omega))]
      rfl
    · rw [if_neg (fun hh => h2 hh.2)]
      simp only [gN] at h2
      simp only [h2, decide_false, cond_false]
  · have d1 : decide (((lo : Nat) : Int) < ((j : Nat) : Int)) = false := by simp; omega
    rw [if_neg (fun hh => h hh.1), d1]
    simp only [Bool.false_eq_true, false_implies, dL, cond_false, Option.bind_some, Bool.false_and]
    rw [aP trivial, aP trivial]

structure IM (a j i : Nat) (d : List Int) : Prop where
  oth : ∀ p q, a ≤ p → p ≤ q → q ≤ i → p ≠ j → q ≠ j → gN d p ≤ gN d q
  up : ∀ q, j < q → q ≤ i → gN d j ≤ gN d q

theorem IM.done {a j i : Nat} {d : List Int} (h : IM a j i d) (hj : a ≤ j) (hn : ¬ (a < j ∧ gN d j < gN d (j - 1))) : qV a (i + 1) d := by
  intro p q h1 h2 h3
  by_cases hp : p = j
  · by_cases hq : q = j
    · subst hp; subst hq; exact Int.le_refl _
    · subst hp; exact h.up q (by omega) (by omega)
  · by_cases hq : q = j
    · subst hq
      have h4 : ¬ gN d q < gN d (q - 1) := fun hh => hn ⟨by omega, hh⟩
      have := h.oth p (q - 1) h1 (by omega) (by omega) hp (by omega)
      omega
    · exact h.oth p q h1 h2 (by omega) hp hq

theorem IM.next {a j i : Nat} {d : List Int} (h : IM a j i d) (hj : a < j) (hji : j ≤ i) (hi : i < d.length) (hlt : gN d j < gN d (j - 1)) : IM a (j - 1) i (swp d j (j - 1)) := by
  have g := uP (d := d) (i := j) (j := j - 1) (by omega) (by omega)
  refine ⟨fun p q h1 h2 h3 hp hq => ?_, fun q h1 h2 => ?_⟩
  · rw [g, g, if_neg hp, if_neg hq]
    by_cases hpj : p = j
    · rw [if_pos hpj]
      by_cases hqj : q = j
      · rw [if_pos hqj]; exact Int.le_refl _
      · rw [if_neg hqj]; exact h.oth (j - 1) q (by omega) (by omega) h3 (by omega) hqj
    · rw [if_neg hpj]
      by_cases hqj : q = j
      · rw [if_pos hqj]; exact h.oth p (j - 1) h1 (by omega) (by omega) hpj (by omega)
      · rw [if_neg hqj]; exact h.oth p q h1 h2 h3 hpj hqj
  · rw [g, g, if_pos rfl, if_neg (by omega)]
    by_cases hqj : q = j
    · rw [if_pos hqj]; omega
    · rw [if_neg hqj]; exact h.up q (by omega) h2

theorem aEO {a b i : Int} {lo hi : Nat} (ha : a = (lo : Nat)) : ∀ (j : Nat) (d : List Int), lo ≤ j → j ≤ hi → hi < d.length → d.length < 4611686018427387904 → IM lo j hi d →
    ∃ d', lp (fun s : List Int × Int => fH a b i s.1 s.2) (d, (j : Int)) = some d' ∧ Rel lo (hi + 1) d d' ∧ qV lo (hi + 1) d' := by
  intro j
  induction j with
  | zero =>
    intro d h1 h2 h3 h4 h5
    have hs := WS (a := a) (b := b) (i := i) ha h1 (by omega) h4 (d := d)
    rw [if_neg (by omega)] at hs
    exact ⟨d, cV hs, Rel.refl .., h5.done h1 (by omega)⟩
  | succ j ih =>
    intro d h1 h2 h3 h4 h5
    have hs := WS (a := a) (b := b) (i := i) ha h1 (by omega) h4 (d := d)
    by_cases h : lo < j + 1 ∧ gN d (j + 1) < gN d (j + 1 - 1)
    · rw [if_pos h] at hs
      obtain ⟨d', e, r, s⟩ := ih (swp d (j + 1) (j + 1 - 1)) (by omega) (by omega) (by rw [iK]; omega) (by rw [iK]; omega) (h5.next h.1 h2 h3 h.2)
      exact ⟨d', (fO hs).trans e, (Rel.swp (by omega) (by omega) (by omega) (by omega)).trans r, s⟩
    · rw [if_neg h] at hs
      exact ⟨d, cV hs, Rel.refl .., h5.done h1 h⟩

theorem YJ {a b : Int} {lo hi : Nat} (ha : a = (lo : Nat)) (hb : b = (hi : Nat)) : ∀ (n i : Nat) (d : List Int), hi - i = n → lo < i → hi ≤ d.length → d.length < 4611686018427387904 → qV lo i d → (i ≤ hi ∨ hi ≤ i) →
    ∃ d', lp (fun s : List Int × Int => dR a b s.1 s.2) (d, (i : Int)) = some d' ∧ Rel lo hi d d' ∧ qV lo hi d' := by
  intro n
  induction n with
  | zero =>
    intro i d h1 h2 h3 h4 h5 _
    refine ⟨d, cV ?_, Rel.refl .., fun p q p1 p2 p3 => h5 p q p1 p2 (by omega)⟩
    show dR _ _ _ _ = _
    have : decide (((i : Nat) : Int) < b) = false := by simp; omega
    simp only [dR, this, cond_false]
  | succ n ih =>
    intro i d h1 h2 h3 h4 h5 _
    obtain ⟨d1, e, r, s⟩ := aEO (a := a) (b := b) (i := (i : Int)) (hi := i) ha i d (by omega) (Nat.le_refl _) (by omega) h4 ⟨fun p q p1 p2 p3 p4 p5 => h5 p q p1 p2 (by omega), fun q q1 q2 => by omega⟩
    obtain ⟨d2, e2, r2, s2⟩ := ih (i + 1) d1 (by omega) (by omega) (by rw [r.len]; exact h3) (by rw [r.len]; exact h4) s (by omega)
    refine ⟨d2, ?_, (r.mono (Nat.le_refl _) (by omega)).trans r2, s2⟩
    rw [fO (s' := (d1, ((i + 1 : Nat) : Int))) ?_, e2]
    show dR _ _ _ _ = _
    have : decide (((i : Nat) : Int) < b) = true := by simp; omega
    simp only [dR, this, cond_true, jU]
    rw [e]
    simp only [Option.bind_some, hY]
    rw [wrN (n := i + 1) (by omega) (by omega)]

theorem MA (lo : Nat) (d : List Int) : qV lo (lo + 1) d := fun p q p1 p2 p3 => by
  have : p = q := by omega
  subst this
  exact Int.le_refl _

theorem aDG {lo hi : Nat} {d : List Int} (h3 : hi ≤ d.length) (h4 : d.length < 4611686018427387904) (h0 : lo ≤ hi) : ∃ d', iE d (lo : Int) (hi : Int) = some d' ∧ Rel lo hi d d' ∧ qV lo hi d' := by
  unfold iE jW
  obtain ⟨d', e, r, s⟩ := YJ (a := (lo : Int)) (b := (hi : Int)) (lo := lo) (hi := hi) rfl rfl (hi - (lo + 1)) (lo + 1) d rfl (by omega) h3 h4 (MA lo d) (by omega)
  rw [wrN (n := lo + 1) (by omega) (by omega), e]
  exact ⟨d', rfl, r, s⟩

theorem aER {lo hi : Nat} : ∀ (n i j : Nat) (d : List Int), j + 1 - i = n → lo ≤ i → j + 1 ≤ hi ∨ j ≤ i → hi ≤ d.length → d.length < 4611686018427387904 → i < 4611686018427387904 → j < 4611686018427387904 →
    ∃ d', lp (fun s : List Int × Int × Int => dU s.1 s.2.1 s.2.2) (d, (i : Int), (j : Int)) = some d' ∧ Rel lo hi d d' := by
  intro n
  induction n using Nat.strongRecOn with
  | ind n ih =>
    intro i j d h1 h2 h3 h4 h5 h6 h7
    by_cases h : i < j
    · obtain ⟨d', e, r⟩ := ih (j - 1 + 1 - (i + 1)) (by omega) (i + 1) (j - 1) (swp d i j) rfl (by omega) (by omega) (by rw [iK]; exact h4) (by rw [iK]; exact h5) (by omega) (by omega)
      refine ⟨d', ?_, (Rel.swp (by omega) (by omega) (by omega) (by omega)).trans r⟩
      rw [fO (s' := (swp d i j, ((i + 1 : Nat) : Int), ((j - 1 : Nat) : Int))) ?_, e]
      show dU _ _ _ = _
      have : decide (((i : Nat) : Int) < ((j : Nat) : Int)) = true := by simp; omega
      simp only [dU, this, cond_true, Int.toNat_natCast]
      rw [aP (asN (by omega)), aP (asN (by omega)), aP (asN (by omega)), aP (asN (by omega)), wrN (n := i + 1) (by omega) (by omega), wrN (n := j - 1) (by omega) (by omega)]
      rfl
    · refine ⟨d, cV ?_, Rel.refl ..⟩
      show dU _ _ _ = _
      have : decide (((i : Nat) : Int) < ((j : Nat) : Int)) = false := by simp; omega
      simp only [dU, this, cond_false]

theorem aBA {lo hi : Nat} {d : List Int} (h0 : lo < hi) (h3 : hi ≤ d.length) (h4 : d.length < 4611686018427387904) : ∃ d', iN d (lo : Int) (hi : Int) = some d' ∧ Rel lo hi d d' := by
  unfold iN kC
  obtain ⟨d', e, r⟩ := aER (lo := lo) (hi := hi) (hi - 1 + 1 - lo) lo (hi - 1) d rfl (Nat.le_refl _) (by omega) h3 h4 (by omega) (by omega)
  rw [wrN (n := hi - 1) (by omega) (by omega), e]
  exact ⟨d', rfl, r⟩

end Go.Abs
namespace Go.Abs
open Go
def yU (f hi : Nat) (d : List Int) (r : Nat) : Nat := if 2 * r + 2 < hi ∧ gN d (f + (2 * r + 1)) < gN d (f + (2 * r + 2)) then 2 * r + 2 else 2 * r + 1

theorem PY {f hi r c : Nat} {d : List Int} (hf : f + hi ≤ d.length) (hr : r < hi) (hc : c < hi) (hl : d.length < 2305843009213693951) :
    iB d (hi : Nat) (f : Nat) (r : Nat) (c : Nat) = if gN d (f + r) < gN d (f + c) then some (.inl (swp d (f + r) (f + c), (c : Int))) else some (.inr (.inr d)) := by
  unfold iB
  have e1 : IntKind.i64.wrap ((f : Int) + (r : Int)) = ((f + r : Nat) : Int) := wrN (by omega) (by omega)
  have e2 : IntKind.i64.wrap ((f : Int) + (c : Int)) = ((f + c : Nat) : Int) := wrN (by omega) (by omega)
  rw [e1, e2]
  simp only [Int.toNat_natCast, tH, Option.bind_some]
  rw [aP (asN (by omega)), aP (asN (by omega))]
  by_cases h : gN d (f + r) < gN d (f + c)
  · rw [if_pos h]
    simp only [gN] at h
    simp only [h, decide_true, Bool.not_true, cond_false]
    rw [aP (asN (by omega)), aP (asN (by omega)), aP (asN (by omega)), aP (asN (by omega))]
    rfl
  · rw [if_neg h]
    simp only [gN] at h
    simp only [h, decide_false, Bool.not_false, cond_true]

theorem aBz {f hi r : Nat} {d : List Int} (hf : f + hi ≤ d.length) (hr : r < hi) (hl : d.length < 2305843009213693951) :
    dN (hi : Nat) (f : Nat) d (r : Nat) = if hi ≤ 2 * r + 1 then some (.inr (.inl d)) else if gN d (f + r) < gN d (f + yU f hi d r) then some (.inl (swp d (f + r) (f + yU f hi d r), (yU f hi d r : Int))) else some (.inr (.inr d)) := by
  unfold dN
  have e1 : IntKind.i64.wrap (IntKind.i64.wrap ((2 : Int) * (r : Int)) + 1) = ((2 * r + 1 : Nat) : Int) := by
    rw [wrN (x := (2 : Int) * (r : Int)) (n := 2 * r) (by omega) (by omega)]; exact wrN (by omega) (by omega)
  have e2 : IntKind.i64.wrap (((2 * r + 1 : Nat) : Int) + 1) = ((2 * r + 2 : Nat) : Int) := wrN (by omega) (by omega)
  simp only [e1, e2]
  by_cases h : hi ≤ 2 * r + 1
  · rw [if_pos h]
    have : decide (((hi : Nat) : Int) ≤ ((2 * r + 1 : Nat) : Int)) = true := by simp; omega
    rw [this, cond_true]
  · rw [if_neg h]
    have d1 : decide (((hi : Nat) : Int) ≤ ((2 * r + 1 : Nat) : Int)) = false := by simp; omega
    rw [d1, cond_false]
    by_cases h2 : 2 * r + 2 < hi
    · have d2 : decide (((2 * r + 2 : Nat) : Int) < ((hi : Nat) : Int)) = true := by simp; omega
      have e3 : IntKind.i64.wrap ((f : Int) + ((2 * r + 1 : Nat) : Int)) = ((f + (2 * r + 1) : Nat) : Int) := wrN (by omega) (by omega)
      have e4 : IntKind.i64.wrap (((f + (2 * r + 1) : Nat) : Int) + 1) = ((f + (2 * r + 2) : Nat) : Int) := wrN (by omega) (by omega)
      simp only [d2, e3, e4, Int.toNat_natCast, tH, dL, cond_true, Option.bind_some, Bool.true_and]
      rw [aP fun _ => asN (by omega), aP fun _ => asN (by omega)]
      by_cases h3 : gN d (f + (2 * r + 1)) < gN d (f + (2 * r + 2))
      · have hb : yU f hi d r = 2 * r + 2 := if_pos ⟨h2, h3⟩
        simp only [gN] at h3
        simp only [h3, decide_true, cond_true]
        rw [PY hf hr h2 hl, hb]
      · have hb : yU f hi d r = 2 * r + 1 := if_neg fun hh => h3 hh.2
        simp only [gN] at h3
        simp only [h3, decide_false, cond_false]
        rw [PY hf hr (by omega) hl, hb]
    · have d2 : decide (((2 * r + 2 : Nat) : Int) < ((hi : Nat) : Int)) = false := by simp; omega
      have hb : yU f hi d r = 2 * r + 1 := if_neg fun hh => h2 hh.1
      simp only [d2, Bool.false_eq_true, false_implies, dL, cond_false, Option.bind_some, Bool.false_and]
      rw [aP trivial, aP trivial, PY hf hr (by omega) hl, hb]

def chd (c p : Nat) : Prop := c = 2 * p + 1 ∨ c = 2 * p + 2

def Hp (f lo hi : Nat) (d : List Int) : Prop := ∀ i c, lo ≤ i → chd c i → c < hi → gN d (f + c) ≤ gN d (f + i)

structure HpX (f lo hi r : Nat) (d : List Int) : Prop where
  oth : ∀ i c, lo ≤ i → i ≠ r → chd c i → c < hi → gN d (f + c) ≤ gN d (f + i)
  up : ∀ p c, lo ≤ p → chd r p → chd c r → c < hi → gN d (f + c) ≤ gN d (f + p)

theorem aB2 {f hi r : Nat} {d : List Int} (h : ¬ hi ≤ 2 * r + 1) : chd (yU f hi d r) r ∧ yU f hi d r < hi ∧ ∀ c, chd c r → c < hi → gN d (f + c) ≤ gN d (f + yU f hi d r) := by
  unfold yU
  split
  · rename_i h1
    refine ⟨.inr rfl, h1.1, fun c hc hlt => ?_⟩
    rcases hc with rfl | rfl
    · omega
    · exact Int.le_refl _
  · rename_i h1
    refine ⟨.inl rfl, by omega, fun c hc hlt => ?_⟩
    rcases hc with rfl | rfl
    · exact Int.le_refl _
    · have : ¬ gN d (f + (2 * r + 1)) < gN d (f + (2 * r + 2)) := fun hh => h1 ⟨hlt, hh⟩
      omega

theorem HpX.done {f lo hi r : Nat} {d : List Int} (h : HpX f lo hi r d) (hr : ∀ c, chd c r → c < hi → gN d (f + c) ≤ gN d (f + r)) : Hp f lo hi d := by
  intro i c h1 h2 h3
  by_cases e : i = r
  · subst e; exact hr c h2 h3
  · exact h.oth i c h1 e h2 h3

theorem HpX.next {f lo hi r c : Nat} {d : List Int} (h : HpX f lo hi r d) (hf : f + hi ≤ d.length) (hlo : lo ≤ r) (hrh : r < hi) (hc : chd c r) (hch : c < hi) (hbig : ∀ k, chd k r → k < hi → gN d (f + k) ≤ gN d (f + c)) (hlt : gN d (f + r) < gN d (f + c)) : HpX f lo hi c (swp d (f + r) (f + c)) := by
  have g := uP (d := d) (i := f + r) (j := f + c) (by omega) (by omega)
  have hcr : r < c := by unfold chd at hc; omega
  refine ⟨fun i k h1 h2 h3 h4 => ?_, fun p k h1 h2 h3 h4 => ?_⟩
  · rw [g, g, if_neg (show ¬ f + i = f + c by omega)]
    by_cases hir : i = r
    · subst hir
      rw [if_pos (show f + i = f + i from rfl)]
      by_cases hkc : k = c
      · subst hkc; rw [if_pos rfl]; omega
      · rw [if_neg (by omega), if_neg (by unfold chd at h3; omega)]
        exact hbig k h3 h4
    · rw [if_neg (show ¬ f + i = f + r by omega)]
      have hkc : k ≠ c := by intro e; subst e; unfold chd at h3 hc; omega
      rw [if_neg (by omega)]
      by_cases hkr : k = r
      · subst hkr
        rw [if_pos rfl]
        exact h.up i c h1 h3 hc hch
      · rw [if_neg (by omega)]
        exact h.oth i k h1 hir h3 h4
  · have hp : p = r := by unfold chd at h2 hc; omega
    subst hp
    have hk : c < k := by unfold chd at h3; omega
    rw [g, g, if_neg (by omega), if_neg (by omega), if_neg (by omega), if_pos rfl]
    exact h.oth c k (by omega) (by omega) h3 h4

theorem aEo {f lo hi : Nat} : ∀ (n r : Nat) (d : List Int), hi - r = n → f + hi ≤ d.length → lo ≤ r → r < hi → d.length < 2305843009213693951 → HpX f lo hi r d →
    ∃ d', (lp (fun s : List Int × Int => dN (hi : Nat) (f : Nat) s.1 s.2) (d, (r : Int)) = some (.inl d') ∨ lp (fun s : List Int × Int => dN (hi : Nat) (f : Nat) s.1 s.2) (d, (r : Int)) = some (.inr d')) ∧ Rel f (f + hi) d d' ∧ Hp f lo hi d' := by
  intro n
  induction n using Nat.strongRecOn with
  | ind n ih =>
    intro r d h1 h2 h3 h4 h5 h6
    have hs := aBz h2 h4 h5
    by_cases h : hi ≤ 2 * r + 1
    · rw [if_pos h] at hs
      exact ⟨d, .inl (cV hs), Rel.refl .., h6.done fun c hc hlt => by unfold chd at hc; omega⟩
    · rw [if_neg h] at hs
      obtain ⟨b1, b2, b3⟩ := aB2 (f := f) (d := d) h
      by_cases hlt : gN d (f + r) < gN d (f + yU f hi d r)
      · rw [if_pos hlt] at hs
        have hb : r < yU f hi d r := by unfold chd at b1; omega
        obtain ⟨d', e, rl, hp⟩ := ih (hi - yU f hi d r) (by omega) (yU f hi d r) _ rfl (by rw [iK]; exact h2) (by omega) b2 (by rw [iK]; exact h5) (h6.next h2 h3 h4 b1 b2 b3 hlt)
        exact ⟨d', e.imp (fun e => (fO hs).trans e) (fun e => (fO hs).trans e), (Rel.swp (by omega) (by omega) (by omega) (by omega)).trans rl, hp⟩
      · rw [if_neg hlt] at hs
        exact ⟨d, .inr (cV hs), Rel.refl .., h6.done fun c hc hc2 => by have := b3 c hc hc2; omega⟩

theorem ZN {f lo hi : Nat} {d : List Int} (h2 : f + hi ≤ d.length) (h5 : d.length < 2305843009213693951) (hlo : lo < 2305843009213693951) (h6 : HpX f lo hi lo d) :
    ∃ d', gE d (lo : Nat) (hi : Nat) (f : Nat) = some d' ∧ Rel f (f + hi) d d' ∧ Hp f lo hi d' := by
  unfold gE lJ
  by_cases h : lo < hi
  · obtain ⟨d', e, r, p⟩ := aEo (hi - lo) lo d rfl h2 (Nat.le_refl _) h h5 h6
    rcases e with e | e <;> rw [e] <;> exact ⟨d', rfl, r, p⟩
  · refine ⟨d, ?_, Rel.refl .., fun i c h1 hc hlt => by unfold chd at hc; omega⟩
    have hs : dN (hi : Nat) (f : Nat) d (lo : Nat) = some (.inr (.inl d)) := by
      unfold dN
      have e1 : IntKind.i64.wrap (IntKind.i64.wrap ((2 : Int) * (lo : Int)) + 1) = ((2 * lo + 1 : Nat) : Int) := by
        rw [wrN (x := (2 : Int) * (lo : Int)) (n := 2 * lo) (by omega) (by omega)]; exact wrN (by omega) (by omega)
      have : decide (((hi : Nat) : Int) ≤ ((2 * lo + 1 : Nat) : Int)) = true := by simp; omega
      simp only [e1, this, cond_true]
    rw [cV (show (fun s : List Int × Int => dN (hi : Nat) (f : Nat) s.1 s.2) (d, (lo : Int)) = _ from hs)]
    rfl

theorem aCu {f k : Nat} {d : List Int} (h : Hp f 0 k d) : ∀ i, i < k → gN d (f + i) ≤ gN d f := by
  intro i
  induction i using Nat.strongRecOn with
  | ind i ih =>
    intro hi
    by_cases h0 : i = 0
    · subst h0; exact Int.le_refl _
    · have h1 := h ((i - 1) / 2) i (Nat.zero_le _) (by unfold chd; omega) hi
      have h2 := ih ((i - 1) / 2) (by omega) (by omega)
      omega

theorem aAf {f hi : Nat} : ∀ (k : Nat) (d : List Int), f + hi ≤ d.length → k < 2305843009213693951 → d.length < 2305843009213693951 → Hp f k hi d →
    ∃ d', lp (fun s : List Int × Int => eG (f : Nat) 0 (hi : Nat) s.1 s.2) (d, (k : Int) - 1) = some d' ∧ Rel f (f + hi) d d' ∧ Hp f 0 hi d'
  | 0, d, _, _, _, h => by
    refine ⟨d, cV ?_, Rel.refl .., h⟩
    show eG _ _ _ _ _ = _
    have : decide ((0 : Int) ≤ ((0 : Nat) : Int) - 1) = false := by simp
    simp only [eG, this, cond_false]
  | k + 1, d, h1, h2, h3, h => by
    obtain ⟨d1, e, r, p⟩ := ZN (f := f) (lo := k) (hi := hi) h1 h3 (by omega) ⟨fun i c a1 a2 a3 a4 => h i c (by omega) a3 a4, fun p c a1 a2 => by unfold chd at a2; omega⟩
    obtain ⟨d2, e2, r2, p2⟩ := aAf (f := f) (hi := hi) k d1 (by rw [r.len]; exact h1) (by omega) (by rw [r.len]; exact h3) p
    refine ⟨d2, ?_, r.trans r2, p2⟩
    rw [fO (s' := (d1, (k : Int) - 1)) ?_, e2]
    show eG _ _ _ _ _ = _
    have g1 : (((k + 1 : Nat) : Int) - 1) = (k : Int) := by omega
    have g2 : decide ((0 : Int) ≤ (k : Int)) = true := by simp
    simp only [eG, g1, g2, cond_true, e, Option.bind_some]
    rw [cT (by omega) (by omega)]

theorem aCn {f n : Nat} : ∀ (k : Nat) (d : List Int), k ≤ n → f + n ≤ d.length → d.length < 2305843009213693951 → Hp f 0 k d → qV (f + k) (f + n) d → (∀ p q, f ≤ p → p < f + k → f + k ≤ q → q < f + n → gN d p ≤ gN d q) →
    ∃ d', lp (fun s : List Int × Int => eF (f : Nat) 0 s.1 s.2) (d, (k : Int) - 1) = some d' ∧ Rel f (f + n) d d' ∧ qV f (f + n) d'
  | 0, d, _, _, _, _, hs, _ => by
    refine ⟨d, cV ?_, Rel.refl .., hs⟩
    show eF _ _ _ _ = _
    have : decide ((0 : Int) ≤ ((0 : Nat) : Int) - 1) = false := by simp
    simp only [eF, this, cond_false]
  | k + 1, d, h1, h2, h3, h, hs, hb => by
    have g := uP (d := d) (i := f) (j := f + k) (by omega) (by omega)
    have hroot := aCu h
    obtain ⟨d1, e, r, p⟩ := ZN (f := f) (lo := 0) (hi := k) (d := swp d f (f + k)) (by rw [iK]; omega) (by rw [iK]; exact h3) (by omega) ⟨fun i c a1 a2 a3 a4 => by
      rw [g, g, if_neg (by unfold chd at a3; omega), if_neg (by unfold chd at a3; omega), if_neg (by unfold chd at a3; omega), if_neg (by omega)]
      exact h i c (by omega) a3 (by omega), fun p c a1 a2 => by unfold chd at a2; omega⟩
    have rs : Rel f (f + n) d (swp d f (f + k)) := Rel.swp (i := f) (j := f + k) (by omega) (by omega) (by omega) (by omega)
    have top : gN d1 (f + k) = gN d f := by rw [r.out _ (by omega), g, if_pos rfl]
    have tail : ∀ q, f + k < q → gN d1 q = gN d q := fun q hq => by rw [r.out _ (by omega), g, if_neg (by omega), if_neg (by omega)]
    have low : ∀ p, f ≤ p → p < f + k → ∃ p', f ≤ p' ∧ p' < f + (k + 1) ∧ gN d1 p = gN d p' := fun p p1 p2 => by
      obtain ⟨p', a1, a2, a3⟩ := r.src p p1 p2
      rw [g, if_neg (by omega)] at a3
      by_cases hp : p' = f
      · rw [if_pos hp] at a3; exact ⟨f + k, by omega, by omega, a3⟩
      · rw [if_neg hp] at a3; exact ⟨p', a1, by omega, a3⟩
    obtain ⟨d2, e2, r2, s2⟩ := aCn (f := f) (n := n) k d1 (by omega) (by rw [r.len, iK]; exact h2) (by rw [r.len, iK]; exact h3) p (fun p q p1 p2 p3 => by
      by_cases hq : q = f + k
      · have : p = f + k := by omega
        rw [hq, this]; exact Int.le_refl _
      · rw [tail q (by omega)]
        by_cases hp : p = f + k
        · rw [hp, top]; exact hb f q (Nat.le_refl _) (by omega) (by omega) p3
        · rw [tail p (by omega)]; exact hs p q (by omega) p2 p3) (fun p q p1 p2 p3 p4 => by
      obtain ⟨p', a1, a2, a3⟩ := low p p1 p2
      rw [a3]
      by_cases hq : q = f + k
      · rw [hq, top]
        have := hroot (p' - f) (by omega)
        rw [show f + (p' - f) = p' by omega] at this
        exact this
      · rw [tail q (by omega)]; exact hb p' q a1 a2 (by omega) p4)
    refine ⟨d2, ?_, (rs.trans (r.mono (Nat.le_refl _) (by omega))).trans r2, s2⟩
    rw [fO (s' := (d1, (k : Int) - 1)) ?_, e2]
    show eF _ _ _ _ = _
    have g1 : (((k + 1 : Nat) : Int) - 1) = (k : Int) := by omega
    have g2 : decide ((0 : Int) ≤ (k : Int)) = true := by simp
    have g3 : IntKind.i64.wrap ((f : Int) + (k : Int)) = ((f + k : Nat) : Int) := wrN (by omega) (by omega)
    simp only [eF, g1, g2, g3, cond_true, Int.toNat_natCast]
    rw [aP (asN (by omega)), aP (asN (by omega)), aP (asN (by omega)), aP (asN (by omega))]
    have e' : gE (List.set (List.set d f (List.getD d (f + k) default)) (f + k) (List.getD d f default)) 0 (k : Int) (f : Int) = some d1 := e
    rw [e']
    simp only [Option.bind_some]
    rw [cT (by omega) (by omega)]

theorem aBr {lo hi : Nat} {d : List Int} (h0 : lo < hi) (h1 : hi ≤ d.length) (h3 : d.length < 2305843009213693951) : ∃ d', kB d (lo : Int) (hi : Int) = some d' ∧ Rel lo hi d d' ∧ qV lo hi d' := by
  unfold kB
  rw [aP (by decide)]
  have e1 : IntKind.i64.wrap ((hi : Int) - (lo : Int)) = ((hi - lo : Nat) : Int) := wrN (by omega) (by omega)
  have e2 : IntKind.i64.wrap (((hi - lo : Nat) : Int) - 1) = ((hi - lo - 1 : Nat) : Int) := wrN (by omega) (by omega)
  have e3 : IntKind.i64.wrap (Int.tdiv ((hi - lo - 1 : Nat) : Int) 2) = (((hi - lo - 1) / 2 + 1 : Nat) : Int) - 1 := by
    have : Int.tdiv ((hi - lo - 1 : Nat) : Int) 2 = (((hi - lo - 1) / 2 : Nat) : Int) := by rw [Int.tdiv_eq_ediv_of_nonneg (by omega)]; omega
    rw [this, wrN (n := (hi - lo - 1) / 2) rfl (by omega)]; omega
  rw [e1, e2, e3]
  unfold lK
  obtain ⟨d1, a1, r1, p1⟩ := aAf (f := lo) (hi := hi - lo) ((hi - lo - 1) / 2 + 1) d (by omega) (by omega) h3 (fun i c b1 b2 b3 => by unfold chd at b2; omega)
  rw [a1]
  simp only [Option.bind_some, jO, lI]
  obtain ⟨d2, a2, r2, s2⟩ := aCn (f := lo) (n := hi - lo) (hi - lo) d1 (Nat.le_refl _) (by rw [r1.len]; omega) (by rw [r1.len]; exact h3) p1 (fun p q b1 b2 b3 => by omega) (fun p q b1 b2 b3 b4 => by omega)
  have e4 : IntKind.i64.wrap (((hi - lo : Nat) : Int) - 1) = ((hi - lo : Nat) : Int) - 1 := cT (by omega) (by omega)
  rw [e4, a2]
  have : lo + (hi - lo) = hi := by omega
  rw [this] at r1 r2 s2
  exact ⟨d2, rfl, r1.trans r2, s2⟩

end Go.Abs
namespace Go.Abs
open Go
def LN : ByteArray := ⟨#[0, 1, 2, 2, 3, 3, 3, 3, 4, 4, 4, 4, 4, 4, 4, 4, 5, 5, 5, 5, 5, 5, 5, 5, 5, 5, 5, 5, 5, 5, 5, 5, 6, 6, 6, 6, 6, 6, 6, 6, 6, 6, 6, 6, 6, 6, 6, 6, 6, 6, 6, 6, 6, 6, 6, 6, 6, 6, 6, 6, 6, 6, 6, 6, 7, 7, 7, 7, 7, 7, 7, 7, 7, 7, 7, 7, 7, 7, 7, 7, 7, 7, 7, 7, 7, 7, 7, 7, 7, 7, 7, 7, 7, 7, 7, 7, 7, 7, 7, 7, 7, 7, 7, 7, 7, 7, 7, 7, 7, 7, 7, 7, 7, 7, 7, 7, 7, 7, 7, 7, 7, 7, 7, 7, 7, 7, 7, 7, 8, 8, 8, 8, 8, 8, 8, 8, 8, 8, 8, 8, 8, 8, 8, 8, 8, 8, 8, 8, 8, 8, 8, 8, 8, 8, 8, 8, 8, 8, 8, 8, 8, 8, 8, 8, 8, 8, 8, 8, 8, 8, 8, 8, 8, 8, 8, 8, 8, 8, 8, 8, 8, 8, 8, 8, 8, 8, 8, 8, 8, 8, 8, 8, 8, 8, 8, 8, 8, 8, 8, 8, 8, 8, 8, 8, 8, 8, 8, 8, 8, 8, 8, 8, 8, 8, 8, 8, 8, 8, 8, 8, 8, 8, 8, 8, 8, 8, 8, 8, 8, 8, 8, 8, 8, 8, 8, 8, 8, 8, 8, 8, 8, 8, 8, 8, 8, 8, 8, 8, 8, 8, 8, 8, 8, 8, 8, 8]⟩

theorem aBg : ∀ i : Fin 256, i.val ≠ 0 → ∃ k : Fin 8, bt LN (i.val : Int) = (k.val : Int) + 1 ∧ 2 ^ k.val ≤ i.val := by decide +kernel

theorem RH : ByteArray.size LN = 256 := by decide +kernel

theorem aDO {x : Int} (h : 0 ≤ x) (h2 : x ≤ 255) : IntKind.u8.wrap x = x := by
  simp only [IntKind.wrap, IntKind.bits, IntKind.signed]
  simp
  omega

theorem IG {x : Int} (h : 0 ≤ x) (h2 : x ≤ 9223372036854775807) : IntKind.u64.wrap x = x := by
  simp only [IntKind.wrap, IntKind.bits, IntKind.signed]
  simp
  omega

theorem aCe {x n : Int} (h1 : 1 ≤ x) (h2 : x ≤ 255) (hn : 0 ≤ n ∧ n ≤ 100) : ∃ k : Nat, mU x n = some (n + k + 1) ∧ k ≤ 7 ∧ (2 : Int) ^ k ≤ x := by
  obtain ⟨k, e, hk⟩ := aBg ⟨x.toNat, by omega⟩ (by simp; omega)
  refine ⟨k.val, ?_, by omega, ?_⟩
  · show (bC (0 ≤ (IntKind.u8.wrap x) ∧ (IntKind.u8.wrap x) < ((ByteArray.size LN : Nat) : Int)) <| some (IntKind.i64.wrap (n + (IntKind.i64.wrap (bt LN (IntKind.u8.wrap x)))))) = _
    rw [aDO (by omega) h2, aP (by rw [RH]; omega)]
    simp only at e
    rw [Int.toNat_of_nonneg (by omega)] at e
    rw [e, cT (n := (k.val : Int) + 1) (by omega) (by omega), cT (by omega) (by omega)]
    congr 1
    omega
  · simp only at hk
    have : ((2 ^ k.val : Nat) : Int) ≤ ((x.toNat : Nat) : Int) := by exact_mod_cast hk
    rw [Int.toNat_of_nonneg (by omega)] at this
    simpa using this

theorem LO {x m : Int} (hm : 0 < m) : Int.fdiv x m = x / m := Int.fdiv_eq_ediv_of_nonneg _ (by omega)

theorem aCA {x n : Int} (h1 : 1 ≤ x) (h2 : x ≤ 65535) (hn : 0 ≤ n ∧ n ≤ 90) : ∃ k : Nat, lR x n = some (n + k + 1) ∧ k ≤ 15 ∧ (2 : Int) ^ k ≤ x := by
  unfold lR
  by_cases h : 256 ≤ x
  · have hd : Int.fdiv x (2 ^ (min (Int.toNat (8 : Int)) 64)) = x / 256 := by rw [show (2 ^ (min (Int.toNat (8 : Int)) 64) : Int) = 256 from by decide]; exact LO (by omega)
    obtain ⟨k, e, h3, h4⟩ := aCe (x := x / 256) (n := n + 8) (by omega) (by omega) (by omega)
    refine ⟨k + 8, ?_, by omega, ?_⟩
    · simp only [h, decide_true, cond_true]
      rw [aP (by decide), hd, cT (n := n + 8) (by omega) (by omega), e]
      congr 1; omega
    · rw [Int.pow_add]; have : (2 : Int) ^ 8 = 256 := by decide
      rw [this]; omega
  · obtain ⟨k, e, h3, h4⟩ := aCe (x := x) (n := n) h1 (by omega) (by omega)
    exact ⟨k, by simp only [h, decide_false, cond_false, e], by omega, h4⟩

theorem aBx {x n : Int} (h1 : 1 ≤ x) (h2 : x ≤ 4294967295) (hn : 0 ≤ n ∧ n ≤ 70) : ∃ k : Nat, lS x n = some (n + k + 1) ∧ k ≤ 31 ∧ (2 : Int) ^ k ≤ x := by
  unfold lS
  by_cases h : 65536 ≤ x
  · have hd : Int.fdiv x (2 ^ (min (Int.toNat (16 : Int)) 64)) = x / 65536 := by rw [show (2 ^ (min (Int.toNat (16 : Int)) 64) : Int) = 65536 from by decide]; exact LO (by omega)
    obtain ⟨k, e, h3, h4⟩ := aCA (x := x / 65536) (n := n + 16) (by omega) (by omega) (by omega)
    refine ⟨k + 16, ?_, by omega, ?_⟩
    · simp only [h, decide_true, cond_true]
      rw [aP (by decide), hd, cT (n := n + 16) (by omega) (by omega), e]
      congr 1; omega
    · rw [Int.pow_add]; have : (2 : Int) ^ 16 = 65536 := by decide
      rw [this]; omega
  · obtain ⟨k, e, h3, h4⟩ := aCA (x := x) (n := n) h1 (by omega) (by omega)
    exact ⟨k, by simp only [h, decide_false, cond_false, e], by omega, h4⟩

theorem aCb {x : Int} (h1 : 1 ≤ x) (h2 : x ≤ 9223372036854775807) : ∃ k : Nat, kV x = some ((k : Int) + 1) ∧ k ≤ 63 ∧ (2 : Int) ^ k ≤ x := by
  unfold kV pK
  by_cases h : 4294967296 ≤ x
  · have hd : Int.fdiv x (2 ^ (min (Int.toNat (32 : Int)) 64)) = x / 4294967296 := by rw [show (2 ^ (min (Int.toNat (32 : Int)) 64) : Int) = 4294967296 from by decide]; exact LO (by omega)
    obtain ⟨k, e, h3, h4⟩ := aBx (x := x / 4294967296) (n := 32) (by omega) (by omega) (by omega)
    refine ⟨k + 32, ?_, by omega, ?_⟩
    · simp only [h, decide_true, cond_true]
      rw [aP (by decide), hd, e]
      simp only [Option.bind_some]
      congr 1; omega
    · rw [Int.pow_add]; have : (2 : Int) ^ 32 = 4294967296 := by decide
      rw [this]; omega
  · obtain ⟨k, e, h3, h4⟩ := aBx (x := x) (n := 0) h1 (by omega) (by omega)
    refine ⟨k, ?_, by omega, h4⟩
    simp only [h, decide_false, cond_false, e, Option.bind_some]
    congr 1; omega

theorem aBQ : bt LN 0 = 0 := by decide +kernel

theorem aCZ : kV 0 = some 0 := by
  have h3 : mU 0 0 = some 0 := by
    show (bC (0 ≤ (IntKind.u8.wrap 0) ∧ (IntKind.u8.wrap 0) < ((ByteArray.size LN : Nat) : Int)) <| some (IntKind.i64.wrap (0 + (IntKind.i64.wrap (bt LN (IntKind.u8.wrap 0)))))) = _
    rw [aDO (by omega) (by omega), aP (by rw [RH]; omega), aBQ, cT (n := 0) (by omega) (by omega), cT (by omega) (by omega)]
    rfl
  have h2 : lR 0 0 = some 0 := h3
  have h1 : lS 0 0 = some 0 := h2
  unfold kV pK
  have : decide ((4294967296 : Int) ≤ 0) = false := by decide
  rw [this, cond_false, h1]
  rfl

theorem aCQ {n : Nat} (h1 : 1 ≤ n) (h2 : n < 2305843009213693951) : ∃ m : Int, mA (n : Int) = some m ∧ 1 ≤ m ∧ m ≤ 2 * n := by
  unfold mA
  rw [IG (by omega) (by omega)]
  obtain ⟨k, e, h3, h4⟩ := aCb (x := (n : Int)) (by omega) (by omega)
  have hk : (2 : Int) ^ (k + 1) = 2 * 2 ^ k := by rw [Int.pow_succ]; omega
  have hp : (1 : Int) ≤ 2 ^ k := by
    have : (0 : Int) < 2 ^ k := Int.pow_pos (by decide)
    omega
  rw [e]
  simp only [Option.bind_some]
  rw [aP (by omega), show min (Int.toNat ((k : Int) + 1)) 64 = k + 1 by omega, Int.one_mul, hk, IG (by omega) (by omega)]
  exact ⟨_, rfl, by omega, by omega⟩

theorem aEQ (x : Int) {m : Int} (h0 : 0 ≤ m) (hm : m ≤ 9223372036854775807) : 0 ≤ bR .and .u64 x m ∧ bR .and .u64 x m ≤ m := by
  have h1 : (BitVec.ofInt IntKind.u64.bits x &&& BitVec.ofInt IntKind.u64.bits m).toNat ≤ m.toNat := by
    rw [BitVec.toNat_and]
    refine Nat.le_trans Nat.and_le_right ?_
    rw [BitVec.toNat_ofInt]
    have : IntKind.u64.bits = 64 := rfl
    rw [this]
    omega
  have h2 : bR .and .u64 x m = ((BitVec.ofInt IntKind.u64.bits x &&& BitVec.ofInt IntKind.u64.bits m).toNat : Int) := IG (by omega) (by omega)
  rw [h2]
  omega

theorem aAV (r : Int) : ∃ x, mI r = some x := by
  unfold mI
  rw [aP (by decide), aP (by decide), aP (by decide)]
  exact ⟨_, rfl⟩

theorem aBe {lo i o : Nat} {d : List Int} (l r m : Int) (hi : i < d.length) (ho : lo + o < d.length) (hl : d.length < 2305843009213693951) :
    fF d (lo : Nat) l r m (i : Nat) (o : Nat) = some (.inl (swp d i (lo + o), r, ((i + 1 : Nat) : Int))) := by
  unfold fF
  rw [wrN (x := (lo : Int) + (o : Int)) (n := lo + o) (by omega) (by omega), wrN (n := i + 1) (by omega) (by omega)]
  simp only [Int.toNat_natCast]
  rw [aP (asN (by omega)), aP (asN (by omega)), aP (asN (by omega)), aP (asN (by omega))]
  rfl

theorem aEZ {lo n : Nat} {m : Int} (hm : 1 ≤ m ∧ m ≤ 2 * n) (h8 : 8 ≤ n) : ∀ (q i : Nat) (r : Int) (d : List Int), lo + n / 4 * 2 + 2 - i = q → lo ≤ i → i ≤ lo + n / 4 * 2 + 2 → lo + n ≤ d.length → d.length < 2305843009213693951 →
    ∃ d', lp (fun s : List Int × Int × Int => dG (lo : Nat) (n : Nat) m s.1 s.2.1 s.2.2) (d, r, (i : Int)) = some d' ∧ Rel lo (lo + n) d d' := by
  have t4 : IntKind.i64.wrap (Int.tdiv (n : Int) 4) = ((n / 4 : Nat) : Int) ∨ 2305843009213693951 ≤ n := by
    by_cases h : n < 2305843009213693951
    · left
      have : Int.tdiv (n : Int) 4 = ((n / 4 : Nat) : Int) := by rw [Int.tdiv_eq_ediv_of_nonneg (by omega)]; omega
      rw [this]; exact wrN rfl (by omega)
    · right; omega
  intro q
  induction q with
  | zero =>
    intro i r d h1 h2 h3 h4 h5
    have t4 := t4.resolve_right (by omega)
    refine ⟨d, cV ?_, Rel.refl ..⟩
    show dG _ _ _ _ _ _ = _
    unfold dG
    rw [aP (by decide), t4, wrN (x := ((n / 4 : Nat) : Int) * 2) (n := n / 4 * 2) (by omega) (by omega), wrN (x := (lo : Int) + ((n / 4 * 2 : Nat) : Int)) (n := lo + n / 4 * 2) (by omega) (by omega), wrN (x := ((lo + n / 4 * 2 : Nat) : Int) + 1) (n := lo + n / 4 * 2 + 1) (by omega) (by omega)]
    have : decide (((i : Nat) : Int) ≤ ((lo + n / 4 * 2 + 1 : Nat) : Int)) = false := by simp; omega
    rw [this, cond_false]
  | succ q ih =>
    intro i r d h1 h2 h3 h4 h5
    have t4 := t4.resolve_right (by omega)
    obtain ⟨x, hx⟩ := aAV r
    obtain ⟨a1, a2⟩ := aEQ x.1 (m := m - 1) (by omega) (by omega)
    have hd : decide (((i : Nat) : Int) ≤ ((lo + n / 4 * 2 + 1 : Nat) : Int)) = true := by simp; omega
    have step : ∃ o, o < n ∧ dG (lo : Nat) (n : Nat) m d r (i : Nat) = some (.inl (swp d i (lo + o), x.2, ((i + 1 : Nat) : Int))) := by
      unfold dG
      rw [aP (by decide), t4, wrN (x := ((n / 4 : Nat) : Int) * 2) (n := n / 4 * 2) (by omega) (by omega), wrN (x := (lo : Int) + ((n / 4 * 2 : Nat) : Int)) (n := lo + n / 4 * 2) (by omega) (by omega), wrN (x := ((lo + n / 4 * 2 : Nat) : Int) + 1) (n := lo + n / 4 * 2 + 1) (by omega) (by omega), hd, cond_true, hx]
      simp only [Option.bind_some]
      rw [IG (x := m - 1) (by omega) (by omega)]
      have e1 : IntKind.i64.wrap (bR .and .u64 x.1 (m - 1)) = (((bR .and .u64 x.1 (m - 1)).toNat : Nat) : Int) := wrN (by omega) (by omega)
      rw [e1]
      by_cases h : (n : Int) ≤ (((bR .and .u64 x.1 (m - 1)).toNat : Nat) : Int)
      · refine ⟨(bR .and .u64 x.1 (m - 1)).toNat - n, by omega, ?_⟩
        simp only [h, decide_true, cond_true]
        rw [wrN (x := (((bR .and .u64 x.1 (m - 1)).toNat : Nat) : Int) - (n : Int)) (n := (bR .and .u64 x.1 (m - 1)).toNat - n) (by omega) (by omega)]
        exact aBe _ _ _ (by omega) (by omega) h5
      · refine ⟨(bR .and .u64 x.1 (m - 1)).toNat, by omega, ?_⟩
        simp only [h, decide_false, cond_false]
        exact aBe _ _ _ (by omega) (by omega) h5
    obtain ⟨o, ho, hs⟩ := step
    obtain ⟨d', e, rl⟩ := ih (i + 1) x.2 (swp d i (lo + o)) (by omega) (by omega) (by omega) (by rw [iK]; exact h4) (by rw [iK]; exact h5)
    exact ⟨d', (fO (show (fun s : List Int × Int × Int => dG (lo : Nat) (n : Nat) m s.1 s.2.1 s.2.2) (d, r, (i : Int)) = _ from hs)).trans e, (Rel.swp (i := i) (j := lo + o) (by omega) (by omega) (by omega) (by omega)).trans rl⟩

theorem aBK {lo hi : Nat} {d : List Int} (h8 : 8 ≤ hi - lo) (h1 : hi ≤ d.length) (h2 : d.length < 2305843009213693951) : ∃ d', iF d (lo : Int) (hi : Int) = some d' ∧ Rel lo hi d d' := by
  unfold iF
  have e1 : IntKind.i64.wrap ((hi : Int) - (lo : Int)) = ((hi - lo : Nat) : Int) := wrN (by omega) (by omega)
  have d1 : decide ((8 : Int) ≤ ((hi - lo : Nat) : Int)) = true := by simp; omega
  obtain ⟨m, em, m1, m2⟩ := aCQ (n := hi - lo) (by omega) (by omega)
  have t4 : IntKind.i64.wrap (Int.tdiv ((hi - lo : Nat) : Int) 4) = (((hi - lo) / 4 : Nat) : Int) := by
    have : Int.tdiv ((hi - lo : Nat) : Int) 4 = (((hi - lo) / 4 : Nat) : Int) := by rw [Int.tdiv_eq_ediv_of_nonneg (by omega)]; omega
    rw [this]; exact wrN rfl (by omega)
  rw [e1, d1, cond_true, em]
  simp only [Option.bind_some]
  rw [aP (by decide), t4, wrN (x := (((hi - lo) / 4 : Nat) : Int) * 2) (n := (hi - lo) / 4 * 2) (by omega) (by omega), wrN (x := (lo : Int) + (((hi - lo) / 4 * 2 : Nat) : Int)) (n := lo + (hi - lo) / 4 * 2) (by omega) (by omega), wrN (x := ((lo + (hi - lo) / 4 * 2 : Nat) : Int) - 1) (n := lo + (hi - lo) / 4 * 2 - 1) (by omega) (by omega)]
  unfold jX
  obtain ⟨d', e, r⟩ := aEZ (lo := lo) (n := hi - lo) (m := m) ⟨m1, m2⟩ h8 (lo + (hi - lo) / 4 * 2 + 2 - (lo + (hi - lo) / 4 * 2 - 1)) (lo + (hi - lo) / 4 * 2 - 1) (IntKind.u64.wrap ((hi - lo : Nat) : Int)) d rfl (by omega) (by omega) (by omega) h2
  rw [e]
  have : lo + (hi - lo) = hi := by omega
  rw [this] at r
  exact ⟨d', rfl, r⟩

theorem aCU {a b : Nat} {d : List Int} (s : Int) (ha : a < d.length) (hb : b < d.length) : ∃ (p q : Nat) (s' : Int), gV d (a : Int) (b : Int) s = some (((p : Int), (q : Int)), s') ∧ ((p = a ∧ q = b) ∨ (p = b ∧ q = a)) := by
  unfold gV
  rw [aP (asN hb), aP (asN ha), tH]
  simp only [Option.bind_some]
  cases decide (d.getD (Int.toNat (b : Int)) default < d.getD (Int.toNat (a : Int)) default)
  · exact ⟨a, b, _, rfl, .inl ⟨rfl, rfl⟩⟩
  · exact ⟨b, a, _, rfl, .inr ⟨rfl, rfl⟩⟩

theorem med {a b c : Nat} {d : List Int} (s : Int) (ha : a < d.length) (hb : b < d.length) (hc : c < d.length) : ∃ (p : Nat) (s' : Int), iY d (a : Int) (b : Int) (c : Int) s = some ((p : Int), s') ∧ (p = a ∨ p = b ∨ p = c) := by
  unfold iY
  obtain ⟨p1, q1, s1, e1, h1⟩ := aCU s ha hb
  obtain ⟨p2, q2, s2, e2, h2⟩ := aCU (a := q1) (b := c) (d := d) s1 (by omega) hc
  obtain ⟨p3, q3, s3, e3, h3⟩ := aCU (a := p1) (b := p2) (d := d) s2 (by omega) (by omega)
  rw [e1]; simp only [Option.bind_some]
  rw [e2]; simp only [Option.bind_some]
  rw [e3]
  exact ⟨q3, s3, rfl, by omega⟩

theorem aDz {a : Nat} {d : List Int} (s : Int) (h1 : 1 ≤ a) (ha : a + 1 < d.length) (hl : d.length < 2305843009213693951) : ∃ (p : Nat) (s' : Int), eB d (a : Int) s = some ((p : Int), s') ∧ a - 1 ≤ p ∧ p ≤ a + 1 := by
  unfold eB
  rw [wrN (x := (a : Int) - 1) (n := a - 1) (by omega) (by omega), wrN (x := (a : Int) + 1) (n := a + 1) (by omega) (by omega)]
  obtain ⟨p, s', e, h⟩ := med (a := a - 1) (b := a) (c := a + 1) (d := d) s (by omega) (by omega) (by omega)
  rw [e]
  exact ⟨p, s', rfl, by omega, by omega⟩

theorem aDM (d : List Int) (s : Int) (j : Int) : ∃ h, fV d s j = some (j, h) := by
  unfold fV
  cases decide (s = 0) <;> cases decide (s = 12) <;> exact ⟨_, rfl⟩

theorem aA6 {lo hi : Nat} {d : List Int} (h8 : 12 < hi - lo) (h1 : hi ≤ d.length) (h2 : d.length < 2305843009213693951) : ∃ (p : Nat) (h : Int), iU d (lo : Int) (hi : Int) = some ((p : Int), h) ∧ lo ≤ p ∧ p < hi := by
  unfold iU
  have e1 : IntKind.i64.wrap ((hi : Int) - (lo : Int)) = ((hi - lo : Nat) : Int) := wrN (by omega) (by omega)
  have t4 : IntKind.i64.wrap (Int.tdiv ((hi - lo : Nat) : Int) 4) = (((hi - lo) / 4 : Nat) : Int) := by
    have : Int.tdiv ((hi - lo : Nat) : Int) 4 = (((hi - lo) / 4 : Nat) : Int) := by rw [Int.tdiv_eq_ediv_of_nonneg (by omega)]; omega
    rw [this]; exact wrN rfl (by omega)
  have d1 : decide ((8 : Int) ≤ ((hi - lo : Nat) : Int)) = true := by simp; omega
  have q1 : IntKind.i64.wrap ((lo : Int) + IntKind.i64.wrap ((((hi - lo) / 4 : Nat) : Int) * 1)) = ((lo + (hi - lo) / 4 : Nat) : Int) := by
    rw [wrN (x := (((hi - lo) / 4 : Nat) : Int) * 1) (n := (hi - lo) / 4) (by omega) (by omega)]; exact wrN (by omega) (by omega)
  have q2 : IntKind.i64.wrap ((lo : Int) + IntKind.i64.wrap ((((hi - lo) / 4 : Nat) : Int) * 2)) = ((lo + (hi - lo) / 4 * 2 : Nat) : Int) := by
    rw [wrN (x := (((hi - lo) / 4 : Nat) : Int) * 2) (n := (hi - lo) / 4 * 2) (by omega) (by omega)]; exact wrN (by omega) (by omega)
  have q3 : IntKind.i64.wrap ((lo : Int) + IntKind.i64.wrap ((((hi - lo) / 4 : Nat) : Int) * 3)) = ((lo + (hi - lo) / 4 * 3 : Nat) : Int) := by
    rw [wrN (x := (((hi - lo) / 4 : Nat) : Int) * 3) (n := (hi - lo) / 4 * 3) (by omega) (by omega)]; exact wrN (by omega) (by omega)
  rw [aP (by decide), aP (by decide), aP (by decide)]
  simp only [e1, t4, d1, q1, q2, q3, cond_true]
  by_cases h50 : (50 : Int) ≤ ((hi - lo : Nat) : Int)
  · simp only [h50, decide_true, cond_true]
    obtain ⟨p1, s1, f1, g1, g2⟩ := aDz (a := lo + (hi - lo) / 4) (d := d) 0 (by omega) (by omega) h2
    obtain ⟨p2, s2, f2, g3, g4⟩ := aDz (a := lo + (hi - lo) / 4 * 2) (d := d) s1 (by omega) (by omega) h2
    obtain ⟨p3, s3, f3, g5, g6⟩ := aDz (a := lo + (hi - lo) / 4 * 3) (d := d) s2 (by omega) (by omega) h2
    obtain ⟨p4, s4, f4, g7⟩ := med (a := p1) (b := p2) (c := p3) (d := d) s3 (by omega) (by omega) (by omega)
    obtain ⟨h, f5⟩ := aDM d s4 p4
    rw [f1]; simp only [Option.bind_some]
    rw [f2]; simp only [Option.bind_some]
    rw [f3]; simp only [Option.bind_some, fY]
    rw [f4]; simp only [Option.bind_some]
    exact ⟨p4, h, f5, by omega, by omega⟩
  · simp only [h50, decide_false, cond_false, fY]
    obtain ⟨p4, s4, f4, g7⟩ := med (a := lo + (hi - lo) / 4) (b := lo + (hi - lo) / 4 * 2) (c := lo + (hi - lo) / 4 * 3) (d := d) 0 (by omega) (by omega) (by omega)
    obtain ⟨h, f5⟩ := aDM d s4 p4
    rw [f4]; simp only [Option.bind_some]
    exact ⟨p4, h, f5, by omega, by omega⟩

end Go.Abs
namespace Go.Abs
open Go
theorem PJ {body : List Int × Int → Option ((List Int × Int) ⊕ (List Int × Int))} {d : List Int} {p : Nat → Prop} [DecidablePred p] {j : Nat}
    (hs : ∀ i, i ≤ j + 1 → body (d, (i : Int)) = if i ≤ j ∧ p i then some (.inl (d, ((i + 1 : Nat) : Int))) else some (.inr (d, (i : Int)))) :
    ∀ (n i : Nat), j + 1 - i = n → i ≤ j + 1 → ∃ i' : Nat, lp body (d, (i : Int)) = some (d, (i' : Int)) ∧ i ≤ i' ∧ i' ≤ j + 1 ∧ (∀ k, i ≤ k → k < i' → p k) ∧ (i' ≤ j → ¬ p i') := by
  intro n
  induction n with
  | zero =>
    intro i h1 h2
    have := hs i h2
    rw [if_neg (by omega)] at this
    exact ⟨i, cV this, Nat.le_refl _, h2, fun k a b => by omega, fun h => by omega⟩
  | succ n ih =>
    intro i h1 h2
    have h := hs i h2
    by_cases hp : p i
    · rw [if_pos ⟨by omega, hp⟩] at h
      obtain ⟨i', e, a1, a2, a3, a4⟩ := ih (i + 1) (by omega) (by omega)
      refine ⟨i', (fO h).trans e, by omega, a2, fun k b1 b2 => ?_, a4⟩
      by_cases hk : k = i
      · rw [hk]; exact hp
      · exact a3 k (by omega) b2
    · rw [if_neg fun hh => hp hh.2] at h
      exact ⟨i, cV h, Nat.le_refl _, h2, fun k a b => by omega, fun _ => hp⟩

theorem IQ {body : List Int × Int → Option ((List Int × Int) ⊕ (List Int × Int))} {d : List Int} {p : Nat → Prop} [DecidablePred p] {i m : Nat} (hi : 1 ≤ i)
    (hs : ∀ j, j ≤ m → body (d, (j : Int)) = if i ≤ j ∧ p j then some (.inl (d, ((j - 1 : Nat) : Int))) else some (.inr (d, (j : Int)))) :
    ∀ (j : Nat), j ≤ m → i ≤ j + 1 → ∃ j' : Nat, lp body (d, (j : Int)) = some (d, (j' : Int)) ∧ i ≤ j' + 1 ∧ j' ≤ j ∧ (∀ k, j' < k → k ≤ j → p k) ∧ (i ≤ j' → ¬ p j') := by
  intro j
  induction j with
  | zero =>
    intro h1 h2
    have := hs 0 h1
    rw [if_neg (by omega)] at this
    exact ⟨0, cV this, by omega, Nat.le_refl _, fun k a b => by omega, fun h => by omega⟩
  | succ j ih =>
    intro h1 h2
    have h := hs (j + 1) h1
    by_cases hp : i ≤ j + 1 ∧ p (j + 1)
    · rw [if_pos hp] at h
      obtain ⟨j', e, a1, a2, a3, a4⟩ := ih (by omega) (by omega)
      refine ⟨j', (fO h).trans e, a1, by omega, fun k b1 b2 => ?_, a4⟩
      by_cases hk : k = j + 1
      · rw [hk]; exact hp.2
      · exact a3 k b1 (by omega)
    · rw [if_neg hp] at h
      exact ⟨j + 1, cV h, by omega, Nat.le_refl _, fun k a b => by omega, fun h1 h2 => hp ⟨h1, h2⟩⟩

theorem ZD {α : Type} {i j u v : Nat} {d : List Int} {n : Bool} {x y : Option α} (hu : i ≤ j → u < d.length) (hv : i ≤ j → v < d.length) :
    (bC ((decide ((i : Int) ≤ (j : Int))) = true → 0 ≤ (u : Int) ∧ (u : Int) < ((List.length d : Nat) : Int)) <|
    bC ((decide ((i : Int) ≤ (j : Int))) = true → 0 ≤ (v : Int) ∧ (v : Int) < ((List.length d : Nat) : Int)) <|
    (dL (decide ((i : Int) ≤ (j : Int))) (dA (List.getD d (Int.toNat (u : Int)) default) (List.getD d (Int.toNat (v : Int)) default))).bind fun z =>
    cond ((decide ((i : Int) ≤ (j : Int))) && (Bool.xor n z)) x y) = if i ≤ j ∧ (Bool.xor n (decide (gN d u < gN d v))) = true then x else y := by
  by_cases h : i ≤ j
  · have hd : decide ((i : Int) ≤ (j : Int)) = true := by simp; omega
    rw [hd]
    rw [aP fun _ => asN (hu h), aP fun _ => asN (hv h)]
    simp only [dL, cond_true, tH, Option.bind_some, Bool.true_and, Int.toNat_natCast, h, true_and, gN]
    cases Bool.xor n (decide (d.getD u default < d.getD v default)) <;> simp
  · have hd : decide ((i : Int) ≤ (j : Int)) = false := by simp; omega
    rw [hd, aP (fun h => by cases h), aP (fun h => by cases h)]
    simp [dL, h]

theorem LK {α : Type} {i j u v : Nat} {d : List Int} {x y : Option α} (hu : i ≤ j → u < d.length) (hv : i ≤ j → v < d.length) :
    (bC ((decide ((i : Int) ≤ (j : Int))) = true → 0 ≤ (u : Int) ∧ (u : Int) < ((List.length d : Nat) : Int)) <|
    bC ((decide ((i : Int) ≤ (j : Int))) = true → 0 ≤ (v : Int) ∧ (v : Int) < ((List.length d : Nat) : Int)) <|
    (dL (decide ((i : Int) ≤ (j : Int))) (dA (List.getD d (Int.toNat (u : Int)) default) (List.getD d (Int.toNat (v : Int)) default))).bind fun z =>
    cond ((decide ((i : Int) ≤ (j : Int))) && z) x y) = if i ≤ j ∧ gN d u < gN d v then x else y := by
  have := ZD (n := false) (x := x) (y := y) hu hv
  simp only [Bool.false_xor] at this
  exact this.trans (by simp)

theorem LQ {α : Type} {i j u v : Nat} {d : List Int} {x y : Option α} (hu : i ≤ j → u < d.length) (hv : i ≤ j → v < d.length) :
    (bC ((decide ((i : Int) ≤ (j : Int))) = true → 0 ≤ (u : Int) ∧ (u : Int) < ((List.length d : Nat) : Int)) <|
    bC ((decide ((i : Int) ≤ (j : Int))) = true → 0 ≤ (v : Int) ∧ (v : Int) < ((List.length d : Nat) : Int)) <|
    (dL (decide ((i : Int) ≤ (j : Int))) (dA (List.getD d (Int.toNat (u : Int)) default) (List.getD d (Int.toNat (v : Int)) default))).bind fun z =>
    cond ((decide ((i : Int) ≤ (j : Int))) && (!z)) x y) = if i ≤ j ∧ ¬ gN d u < gN d v then x else y := by
  have := ZD (n := true) (x := x) (y := y) hu hv
  simp only [Bool.true_xor] at this
  exact this.trans (by simp)

theorem aD7 {a j : Nat} {d : List Int} (ha : a < d.length) (hj : j < d.length) (hl : d.length < 2305843009213693951) : ∀ i, i ≤ j + 1 → eR (a : Nat) (j : Nat) d (i : Nat) = if i ≤ j ∧ gN d i < gN d a then some (.inl (d, ((i + 1 : Nat) : Int))) else some (.inr (d, (i : Int))) := by
  intro i hi
  unfold eR
  rw [wrN (x := (i : Int) + 1) (n := i + 1) (by omega) (by omega)]
  exact LK (u := i) (v := a) (by omega) (by omega)

theorem aC9 {a j : Nat} {d : List Int} (ha : a < d.length) (hj : j < d.length) (hl : d.length < 2305843009213693951) : ∀ i, i ≤ j + 1 → fC (a : Nat) (j : Nat) d (i : Nat) = if i ≤ j ∧ gN d i < gN d a then some (.inl (d, ((i + 1 : Nat) : Int))) else some (.inr (d, (i : Int))) := by
  intro i hi
  unfold fC
  rw [wrN (x := (i : Int) + 1) (n := i + 1) (by omega) (by omega)]
  exact LK (u := i) (v := a) (by omega) (by omega)

theorem aBO {a i m : Nat} {d : List Int} (hi : 1 ≤ i) (ha : a < d.length) (hm : m < d.length) (hl : d.length < 2305843009213693951) : ∀ j, j ≤ m → eX (a : Nat) (i : Nat) d (j : Nat) = if i ≤ j ∧ ¬ gN d j < gN d a then some (.inl (d, ((j - 1 : Nat) : Int))) else some (.inr (d, (j : Int))) := by
  intro j hj
  unfold eX
  refine (LQ (i := i) (j := j) (d := d) (α := (List Int × Int) ⊕ (List Int × Int)) (u := j) (v := a) (x := some (.inl (d, IntKind.i64.wrap ((j : Int) - 1)))) (y := some (.inr (d, (j : Int)))) (by omega) (by omega)).trans ?_
  by_cases h : i ≤ j ∧ ¬ gN d j < gN d a
  · rw [if_pos h, if_pos h, wrN (x := (j : Int) - 1) (n := j - 1) (by omega) (by omega)]
  · rw [if_neg h, if_neg h]

theorem aA1 {a i m : Nat} {d : List Int} (hi : 1 ≤ i) (ha : a < d.length) (hm : m < d.length) (hl : d.length < 2305843009213693951) : ∀ j, j ≤ m → eY (a : Nat) (i : Nat) d (j : Nat) = if i ≤ j ∧ ¬ gN d j < gN d a then some (.inl (d, ((j - 1 : Nat) : Int))) else some (.inr (d, (j : Int))) := by
  intro j hj
  unfold eY
  refine (LQ (i := i) (j := j) (d := d) (α := (List Int × Int) ⊕ (List Int × Int)) (u := j) (v := a) (x := some (.inl (d, IntKind.i64.wrap ((j : Int) - 1)))) (y := some (.inr (d, (j : Int)))) (by omega) (by omega)).trans ?_
  by_cases h : i ≤ j ∧ ¬ gN d j < gN d a
  · rw [if_pos h, if_pos h, wrN (x := (j : Int) - 1) (n := j - 1) (by omega) (by omega)]
  · rw [if_neg h, if_neg h]

theorem aCV {a j : Nat} {d : List Int} (ha : a < d.length) (hj : j < d.length) (hl : d.length < 2305843009213693951) : ∀ i, i ≤ j + 1 → dY (a : Nat) (j : Nat) d (i : Nat) = if i ≤ j ∧ ¬ gN d a < gN d i then some (.inl (d, ((i + 1 : Nat) : Int))) else some (.inr (d, (i : Int))) := by
  intro i hi
  unfold dY
  rw [wrN (x := (i : Int) + 1) (n := i + 1) (by omega) (by omega)]
  exact LQ (u := a) (v := i) (by omega) (by omega)

theorem aBc {a i m : Nat} {d : List Int} (hi : 1 ≤ i) (ha : a < d.length) (hm : m < d.length) (hl : d.length < 2305843009213693951) : ∀ j, j ≤ m → dX (a : Nat) (i : Nat) d (j : Nat) = if i ≤ j ∧ gN d a < gN d j then some (.inl (d, ((j - 1 : Nat) : Int))) else some (.inr (d, (j : Int))) := by
  intro j hj
  unfold dX
  refine (LK (i := i) (j := j) (d := d) (α := (List Int × Int) ⊕ (List Int × Int)) (u := a) (v := j) (x := some (.inl (d, IntKind.i64.wrap ((j : Int) - 1)))) (y := some (.inr (d, (j : Int)))) (by omega) (by omega)).trans ?_
  by_cases h : i ≤ j ∧ gN d a < gN d j
  · rw [if_pos h, if_pos h, wrN (x := (j : Int) - 1) (n := j - 1) (by omega) (by omega)]
  · rw [if_neg h, if_neg h]

structure BG (a b i j : Nat) (d : List Int) : Prop where
  hi : a < i
  hij : i ≤ j + 1
  hj : j < b
  lo : ∀ k, a < k → k < i → gN d k < gN d a
  up : ∀ k, j < k → k < b → gN d a ≤ gN d k

theorem BG.swap {a b i j : Nat} {d : List Int} (h : BG a b i j d) (hb : b ≤ d.length) (hij : i < j) (h1 : gN d a ≤ gN d i) (h2 : gN d j < gN d a) : BG a b (i + 1) (j - 1) (swp d i j) := by
  have := h.hi; have := h.hj
  have g := uP (d := d) (i := i) (j := j) (by omega) (by omega)
  have ga : gN (swp d i j) a = gN d a := by rw [g, if_neg (by omega), if_neg (by omega)]
  refine ⟨by omega, by omega, by omega, fun k k1 k2 => ?_, fun k k1 k2 => ?_⟩
  · rw [ga, g, if_neg (by omega)]
    by_cases hk : k = i
    · rw [if_pos hk]; exact h2
    · rw [if_neg hk]; exact h.lo k k1 (by omega)
  · rw [ga, g]
    by_cases hk : k = j
    · rw [if_pos hk]; exact h1
    · rw [if_neg hk, if_neg (by omega)]; exact h.up k (by omega) k2

end Go.Abs
