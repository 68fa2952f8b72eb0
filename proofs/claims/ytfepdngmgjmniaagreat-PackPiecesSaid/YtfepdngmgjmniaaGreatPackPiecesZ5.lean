/- What the law PackPieces stands on: the framework, the given functions as plain functions, their walks, and the plain laws; part 5. -/
import Derived.Test.YtfepdngmgjmniaaGreatPackPiecesZ4
set_option linter.unusedSimpArgs false
set_option linter.unusedVariables false
namespace Go.Abs
open Go Go.RowKit Go.Proofs
theorem TA (a0 : (List aC)) (b1 : (List aC)) (r : Bool) (h0 : wI a0 b1 = some r) : bY Tryz.prog 11 [(eL aE a0), (eL aE b1)] (aK r) := by
  intro H0
  refine cG Tryz.func11 ?_
  have hO := aM.start H0
  unfold wI at h0
  refine aZ aG 1 [] [] ?_
  refine aP ?_
  refine aZ aG 5 [] [(10, (aK (!decide ((lN a0) = (lN b1)))))] ?_
  refine bJ h0 (fun h0 => ?_) (fun h0 => ?_)
  · refine bU aG 1 [(4, (aK false))] ?_
    refine bK ?_
    obtain rfl := oI h0
    exact aJ (aS (Q_r hO))
  refine bL ?_
  refine bG [(0, (eL aE a0)), (1, (eL aE b1))] ?_
  refine cR (fun T H => Has T [] ∧ aM ⟨H0, [], []⟩ H [] ∧ uH  = some r) ?_ ?_
  · clear hO h0
    rintro T H ⟨hT, hO, h0⟩
    refine bB hT ?_
    clear hT
    unfold uH at h0
    refine bU aG 1 [(4, (aK true))] ?_
    refine bK ?_
    obtain rfl := oI h0
    exact aJ (Q_r hO)
  refine aZ aG 1 [] [(5, (eI (0 : Int)))] ?_
  refine bT 0 ?_
  refine cT [(0, (eL aE a0)), (1, (eL aE b1)), (5, (eI (0 : Int)))] ?_
  refine cH (fun T H => ∃ i5 : Int, Has T [(0, (eL aE a0)), (1, (eL aE b1)), (5, (eI i5))] ∧ aM ⟨H0, [], []⟩ H [] ∧ yX a0 b1 i5 = some r) ?_ ⟨(0 : Int), .eq (by kernel_rfl), hO, h0⟩
  clear hO h0
  rintro T H ⟨i5, hT, hO, h0⟩
  refine bB hT ?_
  clear hT
  unfold yX at h0
  obtain ⟨rr0, hl0, h0⟩ := aX h0
  refine bZ (by kernel_rfl) (fun (s : Int) T H => Has T [(0, (eL aE a0)), (1, (eL aE b1)), (5, (eI s))] ∧ aM ⟨H0, [], []⟩ H []) hl0 ⟨.eq (by kernel_rfl), hO⟩ ?_
  clear hO
  rintro k0 s out1 T H ⟨hT, hO⟩ h1 ho0
  obtain ⟨i5, rfl⟩ : ∃ x, x = s := ⟨_, rfl⟩
  replace h1 : rB a0 b1 i5 = some out1 := h1
  refine bB hT ?_
  clear hT
  unfold rB at h1
  refine aP ?_
  refine aZ aG 4 [] [(14, (aK (decide (i5 < (lN a0)))))] ?_
  refine bJ h1 (fun h1 => ?_) (fun h1 => ?_)
  · refine bL ?_
    refine bG [(0, (eL aE a0)), (1, (eL aE b1)), (5, (eI i5))] ?_
    refine aP ?_
    refine bT 1 ?_
    refine aP ?_
    obtain ⟨c3, h1⟩ := bH h1
    obtain ⟨c4, h1⟩ := bH h1
    obtain ⟨c5, h1⟩ := bH h1
    obtain ⟨c6, h1⟩ := bH h1
    obtain ⟨c7, h1⟩ := bH h1
    obtain ⟨c8, h1⟩ := bH h1
    obtain ⟨x9, hx10, h1⟩ := aX h1
    refine fQ (fP [21, 26, 33, 38, 46, 51]) aG 38 ?_
    refine wK (K := fun T H => Has (lift T) [(0, (eL aE a0)), (1, (eL aE b1)), (5, (eI i5)), (54, (aK (((!decide (((gD a0 i5).At) = ((gD b1 i5).At))) || (!decide (((gD a0 i5).Net) = ((gD b1 i5).Net)))) || (!x9))))] ∧ aM ⟨H0, [], []⟩ H []) ?_ ?_
    · refine cZ 12 [0 ≤ i5 ∧ i5 < (lN a0), 0 ≤ i5 ∧ i5 < (lN b1)] ⟨c3, c4, trivial⟩ ?_
      refine rA (t := 28) (e := !decide (((gD a0 i5).At) = ((gD b1 i5).At))) (by kernel_rfl) (fun hg11 => ?_) (fun hg11 => ?_)
      · refine jO ?_
        exact ⟨⟨[(0, (eL aE a0)), (1, (eL aE b1)), (5, (eI i5)), (54, (aK true))], by kernel_rfl, rfl, ⟨aV.refl _, aV.refl _, aV.refl _, aV.eq (congrArg aK (xR (xR hg11 rfl) rfl).symm), trivial⟩⟩, hO⟩
      refine cZ 25 [0 ≤ i5 ∧ i5 < (lN a0), 0 ≤ i5 ∧ i5 < (lN b1)] ⟨(c5 (wV hg11)), (c6 (wV hg11)), trivial⟩ ?_
      refine rA (t := 41) (e := !decide (((gD a0 i5).Net) = ((gD b1 i5).Net))) (by kernel_rfl) (fun hg12 => ?_) (fun hg12 => ?_)
      · refine jO ?_
        exact ⟨⟨[(0, (eL aE a0)), (1, (eL aE b1)), (5, (eI i5)), (54, (aK true))], by kernel_rfl, rfl, ⟨aV.refl _, aV.refl _, aV.refl _, aV.eq (congrArg aK (xR (xR hg11 hg12) rfl).symm), trivial⟩⟩, hO⟩
      refine cZ 35 [0 ≤ i5 ∧ i5 < (lN a0), 0 ≤ i5 ∧ i5 < (lN b1)] ⟨(c7 (wV (xR hg11 hg12))), (c8 (wV (xR hg11 hg12))), trivial⟩ ?_
      refine zW 30 [(eL aH ((gD a0 i5).Row)), (eL aH ((gD b1 i5).Row))] (aK x9) (by kernel_rfl) (by kernel_rfl) (AR ((gD a0 i5).Row) ((gD b1 i5).Row) _ (fW hx10 (wV (xR hg11 hg12)))) hO ?_
      intro H hO
      refine jO ?_
      exact ⟨⟨[(0, (eL aE a0)), (1, (eL aE b1)), (5, (eI i5)), (54, (aK (!x9)))], by kernel_rfl, rfl, ⟨aV.refl _, aV.refl _, aV.refl _, aV.eq (congrArg aK (xR (xR hg11 hg12) rfl).symm), trivial⟩⟩, hO⟩
    · rintro T H ⟨hT, hO⟩
      refine cP hT ?_
      clear hT
      refine aJ (aI ?_)
      refine bJ h1 (fun h1 => ?_) (fun h1 => ?_)
      · refine bU aG 1 [(4, (aK false))] ?_
        refine bK ?_
        obtain rfl := oI h1
        obtain rfl : _ = rr0 := ho0
        replace h0 : some false = some r := h0
        obtain rfl := oI h0
        exact aJ (bR (aS (aS (bR (aS (Q_r hO))))))
      refine bL ?_
      refine cX [(0, (eL aE a0)), (1, (eL aE b1)), (5, (eI i5))] ?_
      refine aJ (aW (aI (?_)))
      refine aU aG 3 ?_
      refine bF ?_
      exact aJ (aI (⟨rfl, _, (oI h1).symm, .eq (by kernel_rfl), hO⟩))
  refine cY 0 ?_
  obtain rfl := oI h1
  obtain rfl : _ = rr0 := ho0
  replace h0 : uH  = some r := h0
  exact aJ (aT (aT (bO (aI (⟨rfl, .eq (by kernel_rfl), hO, h0⟩)))))

theorem JB (l0 : (List aC)) (r : Bool) (h0 : rE l0 = some r) : bY Tryz.prog 3 [(eL aE l0)] (aK r) := by
  intro H0
  refine cG Tryz.func3 ?_
  have hO := aM.start H0
  unfold rE at h0
  refine aZ aG 1 [] [] ?_
  refine aP ?_
  refine aP ?_
  refine aU aG 4 ?_
  refine bS 2 ?_
  obtain ⟨x1, hx2, h0⟩ := aX h0
  refine cF (VY (lN l0) _ hx2) hO ?_
  intro H hO
  refine bF ?_
  refine bV [] [(12, (aK (!x1)))] ?_
  refine bJ h0 (fun h0 => ?_) (fun h0 => ?_)
  · refine aP ?_
    refine aU aG 2 ?_
    obtain ⟨x5, hx6, h0⟩ := aX h0
    refine cF (EF  _ hx6) hO ?_
    intro H hO
    refine bF ?_
    refine bG [(2, (aK x5))] ?_
    refine bK ?_
    obtain rfl := oI h0
    exact aJ (aS (Q_r hO))
  refine bL ?_
  refine bG [(0, (eL aE l0))] ?_
  refine aP ?_
  refine aU aG 7 ?_
  refine bS 1 ?_
  obtain ⟨x8, hx9, h0⟩ := aX h0
  refine cF (IB l0 _ hx9) hO ?_
  intro H hO
  refine bF ?_
  refine bV [] [(3, (eL aL x8.1)), (4, (eI x8.2))] ?_
  refine aP ?_
  refine aU aG 7 ?_
  refine bS 1 ?_
  obtain ⟨x11, hx12, h0⟩ := aX h0
  refine cF (PF l0 _ hx12) hO ?_
  intro H hO
  refine bF ?_
  refine bV [] [(5, (eL aL x11.1)), (6, (eI x11.2))] ?_
  refine aP ?_
  refine aP ?_
  refine aU aG 9 ?_
  refine bS 6 ?_
  obtain ⟨x14, hx15, h0⟩ := aX h0
  refine gI [(27, false)] 9 [(eL aL x8.1), (eL aL x11.1)] (aK x14) (!(!decide (x8.2 = x11.2))) (by kernel_rfl) (by kernel_rfl) (by kernel_rfl) (fun hb16 => (IY x8.1 x11.1 _ (fW hx15 hb16))) hO ?_
  intro H hO
  refine bF ?_
  refine bV [5, 6] [(32, (aK ((!decide (x8.2 = x11.2)) || (!x14))))] ?_
  refine bJ h0 (fun h0 => ?_) (fun h0 => ?_)
  · refine bU aG 1 [(2, (aK false))] ?_
    refine bK ?_
    obtain rfl := oI h0
    exact aJ (aS (Q_r hO))
  refine bL ?_
  refine bG [(0, (eL aE l0)), (3, (eL aL x8.1)), (4, (eI x8.2))] ?_
  refine aP ?_
  refine aZ aG 2 [4] [(34, (aK (!decide (x8.2 = (0 : Int)))))] ?_
  refine bJ h0 (fun h0 => ?_) (fun h0 => ?_)
  · refine aP ?_
    refine aU aG 2 ?_
    obtain ⟨x19, hx20, h0⟩ := aX h0
    refine cF (EF  _ hx20) hO ?_
    intro H hO
    refine bF ?_
    refine bG [(2, (aK x19))] ?_
    refine bK ?_
    obtain rfl := oI h0
    exact aJ (aS (Q_r hO))
  refine bL ?_
  refine bG [(0, (eL aE l0)), (3, (eL aL x8.1))] ?_
  refine aP ?_
  refine aU aG 7 ?_
  refine bS 1 ?_
  obtain ⟨x22, hx23, h0⟩ := aX h0
  refine cF (IQ x8.1 _ hx23) hO ?_
  intro H hO
  refine bF ?_
  refine bV [3] [(7, (eL aE x22.1)), (8, (eI x22.2))] ?_
  refine aP ?_
  refine aU aG 11 ?_
  obtain ⟨x25, hx26, h0⟩ := aX h0
  refine cF (EF  _ hx26) hO ?_
  intro H hO
  refine bS 8 ?_
  obtain ⟨x28, hx29, h0⟩ := aX h0
  refine gI [(46, true)] 11 [(eL aE x22.1), (eL aE l0)] (aK x28) (x25 && (decide (x22.2 = (0 : Int)))) (by kernel_rfl) (by kernel_rfl) (by kernel_rfl) (fun hb30 => (TA x22.1 l0 _ (fW hx29 hb30))) hO ?_
  intro H hO
  refine bF ?_
  refine bG [(2, (aK ((x25 && (decide (x22.2 = (0 : Int)))) && x28)))] ?_
  refine bK ?_
  obtain rfl := oI h0
  exact aJ (Q_r hO)

end Go.Abs
namespace Go.Abs
open Go Go.RowKit Go.Proofs
theorem IP {H : Type} {enc : TypeId × Value → H} {w : World} : AH enc Tryz.prog w 71 aH ED :=
  JU Tryz.underlying71 (by kernel_rfl) (uQ (c' := LK) (ok' := ED) (fun (a : Int) (b : Int × ByteArray × Unit) => (aF.mk a b.1 b.2.1 : aF)) (by kernel_rfl) (EP Tryz.underlying69) (uQ (c' := fun (b : Int × ByteArray × Unit) => (V.cells (wE .i64 b.1) ++ (V.cells (BH b.2.1) ++ []))) (ok' := fun b => (DX b.1 ∧ ((fun s => s.size ≤ maxLen) b.2.1 ∧ True))) (fun a b => (a, b)) (by kernel_rfl) (EP Tryz.underlying3) (uQ (c' := fun (b : ByteArray × Unit) => (V.cells (BH b.1) ++ [])) (ok' := fun b => ((fun s => s.size ≤ maxLen) b.1 ∧ True)) (fun a b => (a, b)) (by kernel_rfl) (UI Tryz.underlying9) (NC ()) (fun _ _ => rfl) (fun _ _ h1 h2 => ⟨h1, h2⟩)) (fun _ _ => rfl) (fun _ _ h1 h2 => ⟨h1, h2⟩)) (fun _ _ => rfl) (fun _ _ h1 h2 => ⟨h1, h2⟩))

theorem KR {H : Type} {enc : TypeId × Value → H} {w : World} : AH enc Tryz.prog w 62 aE yM :=
  JU Tryz.underlying62 (by kernel_rfl) (uQ (c' := OG) (ok' := yM) (fun (a : (List aF)) (b : Int × Int × Unit) => (aC.mk a b.1 b.2.1 : aC)) (by kernel_rfl) (WE Tryz.underlying39 (by decide +kernel) (fun _ => by kernel_rfl) (fun _ => rfl) IP (by kernel_rfl)) (uQ (c' := fun (b : Int × Int × Unit) => (V.cells (wE .i64 b.1) ++ (V.cells (wE .i64 b.2.1) ++ []))) (ok' := fun b => (DX b.1 ∧ (DX b.2.1 ∧ True))) (fun a b => (a, b)) (by kernel_rfl) (EP Tryz.underlying3) (uQ (c' := fun (b : Int × Unit) => (V.cells (wE .i64 b.1) ++ [])) (ok' := fun b => (DX b.1 ∧ True)) (fun a b => (a, b)) (by kernel_rfl) (EP Tryz.underlying3) (NC ()) (fun _ _ => rfl) (fun _ _ h1 h2 => ⟨h1, h2⟩)) (fun _ _ => rfl) (fun _ _ h1 h2 => ⟨h1, h2⟩)) (fun _ _ => rfl) (fun _ _ h1 h2 => ⟨h1, h2⟩))

end Go.Abs
namespace Go.Abs
open Go
theorem dV {n : Int} (h1 : -9223372036854775808 ≤ n) (h2 : n ≤ 9223372036854775807) : IntKind.i64.wrap n = n := by
  simp only [IntKind.wrap, IntKind.bits, IntKind.signed]
  simp
  split <;> omega

def yU {α st R : Type} (step : st → α → Option (st ⊕ R)) (fin : st → R) : st → List α → Option R
  | s, [] => some (fin s)
  | s, a :: r => match step s a with
    | some (.inl s') => yU step fin s' r
    | some (.inr x) => some x
    | none => none

theorem ZG {α st R : Type} {step : st → α → Option (st ⊕ R)} {fin : st → R} {s s' : st} {a : α} {r : List α} (h : step s a = some (.inl s')) : yU step fin s (a :: r) = yU step fin s' r := by
  simp only [yU, h]

theorem YX {α st R : Type} {step : st → α → Option (st ⊕ R)} {fin : st → R} {s : st} {x : R} {a : α} {r : List α} (h : step s a = some (.inr x)) : yU step fin s (a :: r) = some x := by
  simp only [yU, h]

theorem XM {α S st R : Type} {body : S → Option (S ⊕ R)} {l : List α} (mk : st → Int → S) (step : st → α → Option (st ⊕ R)) (fin : st → R)
    (hn : ∀ (i : Nat) a s, l[i]? = some a → (∀ s', step s a = some (.inl s') → body (mk s i) = some (.inl (mk s' ((i + 1 : Nat) : Int)))) ∧ (∀ x, step s a = some (.inr x) → body (mk s i) = some (.inr x)))
    (he : ∀ s, body (mk s (l.length : Nat)) = some (.inr (fin s))) : ∀ (m k : Nat) (s : st) (r : R), l.length - k = m → k ≤ l.length → yU step fin s (l.drop k) = some r → lp body (mk s k) = some r
  | 0, k, s, r, hm, hk, h => by
    have : k = l.length := by omega
    subst this
    rw [List.drop_length] at h
    simp only [yU, Option.some.injEq] at h
    subst h
    exact cM (he s)
  | m + 1, k, s, r, hm, hk, h => by
    have hlt : k < l.length := by omega
    have hd : l.drop k = l[k] :: l.drop (k + 1) := List.drop_eq_getElem_cons hlt
    rw [hd] at h
    simp only [yU] at h
    obtain ⟨h1, h2⟩ := hn k l[k] s (List.getElem?_eq_getElem hlt)
    split at h
    · rename_i s' hs
      rw [dL (h1 s' hs)]
      exact XM mk step fin hn he m (k + 1) s' r (by omega) (by omega) h
    · rename_i x hs
      simp at h; subst h
      exact cM (h2 x hs)
    · cases h

theorem aBj {α S st R : Type} {body : S → Option (S ⊕ R)} {l : List α} (mk : st → Int → S) (step : st → α → Option (st ⊕ R)) (fin : st → R)
    (hn : ∀ (i : Nat) a s, l[i]? = some a → (∀ s', step s a = some (.inl s') → body (mk s i) = some (.inl (mk s' ((i + 1 : Nat) : Int)))) ∧ (∀ x, step s a = some (.inr x) → body (mk s i) = some (.inr x)))
    (he : ∀ s, body (mk s (l.length : Nat)) = some (.inr (fin s))) {s : st} {r : R} (h : yU step fin s l = some r) : lp body (mk s 0) = some r :=
  XM mk step fin hn he _ 0 s r rfl (Nat.zero_le _) (by simpa using h)

theorem idx {α : Type} [Inhabited α] {l : List α} {i : Nat} {a : α} (h : l[i]? = some a) (hl : l.length < 4611686018427387904) :
    decide ((i : Int) < ((l.length : Nat) : Int)) = true ∧ (0 ≤ (i : Int) ∧ (i : Int) < ((l.length : Nat) : Int)) ∧ l.getD (Int.toNat (i : Int)) default = a ∧ IntKind.i64.wrap ((i : Int) + 1) = ((i + 1 : Nat) : Int) := by
  have hlt : i < l.length := (List.getElem?_eq_some_iff.1 h).1
  refine ⟨by simpa using hlt, ⟨by omega, by omega⟩, ?_, ?_⟩
  · rw [Int.toNat_natCast, List.getD_eq_getElem?_getD, h]; rfl
  · rw [dV (by omega) (by omega)]; omega

theorem dR {n : Nat} : decide (((n : Nat) : Int) < ((n : Nat) : Int)) = false := by simp

theorem aDy {α : Type} {j : α} {r : List α} : (0 : Int) ≤ 0 ∧ (0 : Int) < ((List.length (j :: r) : Nat) : Int) := ⟨by omega, by simp⟩

theorem aCV {α : Type} [Inhabited α] {j : α} {r : List α} : List.getD (j :: r) (Int.toNat (0 : Int)) default = j := rfl

end Go.Abs
namespace Go.Abs
open Go
theorem drop_cons {α : Type} {l r : List α} {a : α} {k : Nat} (h : l.drop k = a :: r) : l[k]? = some a ∧ l.drop (k + 1) = r := by
  have hk : k < l.length := by
    apply Classical.byContradiction; intro hn
    rw [List.drop_eq_nil_of_le (by omega)] at h; cases h
  rw [List.drop_eq_getElem_cons hk] at h
  obtain ⟨h1, h2⟩ := List.cons.inj h
  exact ⟨by rw [List.getElem?_eq_getElem hk, h1], h2⟩

theorem aAl {α S st R : Type} {body : S → Option (S ⊕ R)} {l : List α} (mk : st → Int → S) (G : st → List α → R) (Inv : st → List α → Prop)
    (hn : ∀ (i : Nat) a r s, l[i]? = some a → Inv s (a :: r) → (∃ s', body (mk s i) = some (.inl (mk s' ((i + 1 : Nat) : Int))) ∧ Inv s' r ∧ G s' r = G s (a :: r)) ∨ body (mk s i) = some (.inr (G s (a :: r))))
    (he : ∀ s, Inv s [] → body (mk s (l.length : Nat)) = some (.inr (G s []))) : ∀ (r : List α) (k : Nat) (s : st), l.drop k = r → k ≤ l.length → Inv s r → lp body (mk s k) = some (G s r)
  | [], k, s, hd, hk, hi => by
    have : k = l.length := by
      have := congrArg List.length hd
      simp only [List.length_drop, List.length_nil] at this; omega
    subst this
    exact cM (he s hi)
  | a :: r, k, s, hd, hk, hi => by
    obtain ⟨h1, h2⟩ := drop_cons hd
    have hlt : k < l.length := (List.getElem?_eq_some_iff.1 h1).1
    rcases hn k a r s h1 hi with ⟨s', hb, hi', hg⟩ | hb
    · rw [dL hb, aAl mk G Inv hn he r (k + 1) s' h2 (by omega) hi', hg]
    · exact cM hb

theorem nX {α S st R : Type} {body : S → Option (S ⊕ R)} {l : List α} (mk : st → Int → S) (G : st → List α → R) (Inv : st → List α → Prop) (s : st)
    (hn : ∀ (i : Nat) a r s, l[i]? = some a → Inv s (a :: r) → (∃ s', body (mk s i) = some (.inl (mk s' ((i + 1 : Nat) : Int))) ∧ Inv s' r ∧ G s' r = G s (a :: r)) ∨ body (mk s i) = some (.inr (G s (a :: r))))
    (he : ∀ s, Inv s [] → body (mk s (l.length : Nat)) = some (.inr (G s []))) (hi : Inv s l) : lp body (mk s 0) = some (G s l) :=
  aAl mk G Inv hn he l 0 s rfl (Nat.zero_le _) hi

theorem OA {α S R : Type} {body : S → Option (S ⊕ R)} {l : List α} (mk : Int → S) (bad : α → Bool) (x y : R)
    (hn : ∀ (i : Nat) a, l[i]? = some a → body (mk i) = some (if bad a then .inr x else .inl (mk ((i + 1 : Nat) : Int))))
    (he : body (mk (l.length : Nat)) = some (.inr y)) : lp body (mk 0) = some (if l.any bad then x else y) := by
  refine nX (st := Unit) (fun _ i => mk i) (fun _ r => if r.any bad then x else y) (fun _ _ => True) () ?_ ?_ trivial
  · intro i a r s ha _
    have hb := hn i a ha
    cases h : bad a
    · left; refine ⟨(), ?_, trivial, ?_⟩
      · simpa [h] using hb
      · simp [List.any_cons, h]
    · right; simpa [h, List.any_cons] using hb
  · intro _ _; simpa using he

end Go.Abs
namespace Go.Abs
open Go
noncomputable def CD {α : Type} [Inhabited α] (cmp3 : α → α → Option Int) (aA : List α) (a1 : Int) (b2 : Int) (i8 : Int) : Option ((List α × Int) ⊕ ((List α))) :=
  some (.inl (aA, IntKind.i64.wrap (i8 + (1 : Int))))

noncomputable def mF {α : Type} [Inhabited α] (cmp3 : α → α → Option Int) (a1 : Int) (b2 : Int) (i8 : Int) (aA : List α) (j9 : Int) : Option ((List α × Int) ⊕ ((List α))) :=
  bI ((((decide (a1 < j9))) = true → 0 ≤ j9 ∧ j9 < ((List.length aA : Nat) : Int))) <|
  bI ((((decide (a1 < j9))) = true → 0 ≤ (IntKind.i64.wrap (j9 - (1 : Int))) ∧ (IntKind.i64.wrap (j9 - (1 : Int))) < ((List.length aA : Nat) : Int))) <|
  (cO (decide (a1 < j9)) (cmp3 (List.getD aA (Int.toNat j9) default) (List.getD aA (Int.toNat (IntKind.i64.wrap (j9 - (1 : Int)))) default))).bind fun x3 =>
  cond ((decide (a1 < j9)) && (decide (x3 < (0 : Int))))
  (bI (0 ≤ (IntKind.i64.wrap (j9 - (1 : Int))) ∧ (IntKind.i64.wrap (j9 - (1 : Int))) < ((List.length aA : Nat) : Int)) <|
  bI (0 ≤ j9 ∧ j9 < ((List.length aA : Nat) : Int)) <|
  bI (0 ≤ j9 ∧ j9 < ((List.length aA : Nat) : Int)) <|
  bI (0 ≤ (IntKind.i64.wrap (j9 - (1 : Int))) ∧ (IntKind.i64.wrap (j9 - (1 : Int))) < ((List.length aA : Nat) : Int)) <|
  some (.inl (List.set (List.set aA (Int.toNat j9) (List.getD aA (Int.toNat (IntKind.i64.wrap (j9 - (1 : Int)))) default)) (Int.toNat (IntKind.i64.wrap (j9 - (1 : Int)))) (List.getD aA (Int.toNat j9) default), IntKind.i64.wrap (j9 - (1 : Int)))))
  (some (.inr aA))

noncomputable def CK {α : Type} [Inhabited α] (cmp3 : α → α → Option Int) (aA : List α) (a1 : Int) (b2 : Int) (i8 : Int) (j9 : Int) : Option ((List α × Int) ⊕ ((List α))) :=
  (lp (fun s => mF cmp3 a1 b2 i8 s.1 s.2) (aA, j9)).bind (fun rr => CD cmp3 rr a1 b2 i8)

noncomputable def jR {α : Type} [Inhabited α] (cmp3 : α → α → Option Int) (a1 : Int) (b2 : Int) (aA : List α) (i8 : Int) : Option ((List α × Int) ⊕ ((List α))) :=
  cond (decide (i8 < b2))
  (CK cmp3 aA a1 b2 i8 i8)
  (some (.inr aA))

noncomputable def CH {α : Type} [Inhabited α] (cmp3 : α → α → Option Int) (aA : List α) (a1 : Int) (b2 : Int) (i8 : Int) : Option (List α) :=
  (lp (fun s => jR cmp3 a1 b2 s.1 s.2) (aA, i8)).bind (fun rr => some rr)

noncomputable def nZ {α : Type} [Inhabited α] (aA : (List α)) (a1 : Int) (b2 : Int) (cmp3 : α → α → Option Int) : Option (List α) :=
  CH cmp3 aA a1 b2 (IntKind.i64.wrap (a1 + (1 : Int)))

noncomputable def pW {α : Type} [Inhabited α] (cmp4 : α → α → Option Int) (a1 : Int) (b2 : Int) (n3 : Int) (aA : List α) (i10 : Int) : Option ((List α × Int) ⊕ ((List α))) :=
  cond (decide (i10 < n3))
  (bI (0 ≤ (IntKind.i64.wrap (b2 + i10)) ∧ (IntKind.i64.wrap (b2 + i10)) < ((List.length aA : Nat) : Int)) <|
  bI (0 ≤ (IntKind.i64.wrap (a1 + i10)) ∧ (IntKind.i64.wrap (a1 + i10)) < ((List.length aA : Nat) : Int)) <|
  bI (0 ≤ (IntKind.i64.wrap (a1 + i10)) ∧ (IntKind.i64.wrap (a1 + i10)) < ((List.length aA : Nat) : Int)) <|
  bI (0 ≤ (IntKind.i64.wrap (b2 + i10)) ∧ (IntKind.i64.wrap (b2 + i10)) < ((List.length aA : Nat) : Int)) <|
  some (.inl (List.set (List.set aA (Int.toNat (IntKind.i64.wrap (a1 + i10))) (List.getD aA (Int.toNat (IntKind.i64.wrap (b2 + i10))) default)) (Int.toNat (IntKind.i64.wrap (b2 + i10))) (List.getD aA (Int.toNat (IntKind.i64.wrap (a1 + i10))) default), IntKind.i64.wrap (i10 + (1 : Int)))))
  (some (.inr aA))

noncomputable def GK {α : Type} [Inhabited α] (cmp4 : α → α → Option Int) (aA : List α) (a1 : Int) (b2 : Int) (n3 : Int) (i10 : Int) : Option (List α) :=
  (lp (fun s => pW cmp4 a1 b2 n3 s.1 s.2) (aA, i10)).bind (fun rr => some rr)

noncomputable def vV {α : Type} [Inhabited α] (aA : (List α)) (a1 : Int) (b2 : Int) (n3 : Int) (cmp4 : α → α → Option Int) : Option (List α) :=
  GK cmp4 aA a1 b2 n3 (0 : Int)

noncomputable def FT {α : Type} [Inhabited α] (cmp4 : α → α → Option Int) (aA : List α) (m2 : Int) (i10 : Int) : Option (List α) :=
  (vV aA (IntKind.i64.wrap (m2 - i10)) m2 i10 cmp4).bind fun x1 =>
  some x1

noncomputable def mT {α : Type} [Inhabited α] (cmp4 : α → α → Option Int) (m2 : Int) (aA : List α) (i10 : Int) (j11 : Int) : Option ((List α × Int × Int) ⊕ ((List α × Int))) :=
  cond (!decide (i10 = j11))
  (cond (decide (j11 < i10))
  ((vV aA (IntKind.i64.wrap (m2 - i10)) m2 j11 cmp4).bind fun x4 =>
  some (.inl (x4, IntKind.i64.wrap (i10 - j11), j11)))
  ((vV aA (IntKind.i64.wrap (m2 - i10)) (IntKind.i64.wrap ((IntKind.i64.wrap (m2 + j11)) - i10)) i10 cmp4).bind fun x7 =>
  some (.inl (x7, i10, IntKind.i64.wrap (j11 - i10)))))
  (some (.inr (aA, i10)))

noncomputable def LC {α : Type} [Inhabited α] (cmp4 : α → α → Option Int) (aA : List α) (m2 : Int) (i10 : Int) (j11 : Int) : Option (List α) :=
  (lp (fun s => mT cmp4 m2 s.1 s.2.1 s.2.2) (aA, i10, j11)).bind (fun rr => FT cmp4 rr.1 m2 rr.2)

noncomputable def ET {α : Type} [Inhabited α] (aA : (List α)) (a1 : Int) (m2 : Int) (b3 : Int) (cmp4 : α → α → Option Int) : Option (List α) :=
  LC cmp4 aA m2 (IntKind.i64.wrap (m2 - a1)) (IntKind.i64.wrap (b3 - m2))

noncomputable def CP {α : Type} [Inhabited α] (cmp4 : α → α → Option Int) (rec : (List α) → Int → Int → Int → Option (List α)) (aA : List α) (b3 : Int) (bW : Int) (eC : Int) : Option (List α) :=
  cond ((decide (bW < eC)) && (decide (eC < b3)))
  ((rec aA bW eC b3).bind fun x2 =>
  some x2)
  (some aA)

noncomputable def qY {α : Type} [Inhabited α] (cmp4 : α → α → Option Int) (rec : (List α) → Int → Int → Int → Option (List α)) (aA : List α) (a1 : Int) (b3 : Int) (bW : Int) (aY : Int) (eC : Int) : Option (List α) :=
  cond ((decide (a1 < aY)) && (decide (aY < bW)))
  ((rec aA a1 aY bW).bind fun x6 =>
  CP cmp4 rec x6 b3 bW eC)
  (CP cmp4 rec aA b3 bW eC)

noncomputable def IF {α : Type} [Inhabited α] (cmp4 : α → α → Option Int) (rec : (List α) → Int → Int → Int → Option (List α)) (aA : List α) (a1 : Int) (m2 : Int) (b3 : Int) (bW : Int) (n19 : Int) (aY : Int) : Option (List α) :=
  cond ((decide (aY < m2)) && (decide (m2 < (IntKind.i64.wrap (n19 - aY)))))
  ((ET aA aY m2 (IntKind.i64.wrap (n19 - aY)) cmp4).bind fun x10 =>
  qY cmp4 rec x10 a1 b3 bW aY (IntKind.i64.wrap (n19 - aY)))
  (qY cmp4 rec aA a1 b3 bW aY (IntKind.i64.wrap (n19 - aY)))

noncomputable def pE {α : Type} [Inhabited α] (cmp4 : α → α → Option Int) (rec : (List α) → Int → Int → Int → Option (List α)) (a1 : Int) (m2 : Int) (b3 : Int) (bW : Int) (n19 : Int) (p22 : Int) (aA : List α) (aY : Int) (r21 : Int) : Option ((List α × Int × Int) ⊕ ((List α × Int))) :=
  cond (decide (aY < r21))
  (bI (0 ≤ (1 : Int)) <|
  bI (0 ≤ (IntKind.i64.wrap (p22 - (IntKind.i64.wrap (Int.fdiv (IntKind.u64.wrap (IntKind.i64.wrap (aY + r21))) (2 ^ (min (Int.toNat (1 : Int)) 64)))))) ∧ (IntKind.i64.wrap (p22 - (IntKind.i64.wrap (Int.fdiv (IntKind.u64.wrap (IntKind.i64.wrap (aY + r21))) (2 ^ (min (Int.toNat (1 : Int)) 64)))))) < ((List.length aA : Nat) : Int)) <|
  bI (0 ≤ (IntKind.i64.wrap (Int.fdiv (IntKind.u64.wrap (IntKind.i64.wrap (aY + r21))) (2 ^ (min (Int.toNat (1 : Int)) 64)))) ∧ (IntKind.i64.wrap (Int.fdiv (IntKind.u64.wrap (IntKind.i64.wrap (aY + r21))) (2 ^ (min (Int.toNat (1 : Int)) 64)))) < ((List.length aA : Nat) : Int)) <|
  (cmp4 (List.getD aA (Int.toNat (IntKind.i64.wrap (p22 - (IntKind.i64.wrap (Int.fdiv (IntKind.u64.wrap (IntKind.i64.wrap (aY + r21))) (2 ^ (min (Int.toNat (1 : Int)) 64))))))) default) (List.getD aA (Int.toNat (IntKind.i64.wrap (Int.fdiv (IntKind.u64.wrap (IntKind.i64.wrap (aY + r21))) (2 ^ (min (Int.toNat (1 : Int)) 64))))) default)).bind fun x17 =>
  cond (!(decide (x17 < (0 : Int))))
  (some (.inl (aA, IntKind.i64.wrap ((IntKind.i64.wrap (Int.fdiv (IntKind.u64.wrap (IntKind.i64.wrap (aY + r21))) (2 ^ (min (Int.toNat (1 : Int)) 64)))) + (1 : Int)), r21)))
  (some (.inl (aA, aY, IntKind.i64.wrap (Int.fdiv (IntKind.u64.wrap (IntKind.i64.wrap (aY + r21))) (2 ^ (min (Int.toNat (1 : Int)) 64)))))))
  (some (.inr (aA, aY)))

noncomputable def IA {α : Type} [Inhabited α] (cmp4 : α → α → Option Int) (rec : (List α) → Int → Int → Int → Option (List α)) (aA : List α) (a1 : Int) (m2 : Int) (b3 : Int) (bW : Int) (n19 : Int) (aY : Int) (r21 : Int) (p22 : Int) : Option (List α) :=
  (lp (fun s => pE cmp4 rec a1 m2 b3 bW n19 p22 s.1 s.2.1 s.2.2) (aA, aY, r21)).bind (fun rr => IF cmp4 rec rr.1 a1 m2 b3 bW n19 rr.2)

noncomputable def zB {α : Type} [Inhabited α] (cmp4 : α → α → Option Int) (rec : (List α) → Int → Int → Int → Option (List α)) (aA : List α) (a1 : Int) (m2 : Int) (b3 : Int) (bW : Int) (n19 : Int) (aY : Int) (r21 : Int) : Option (List α) :=
  IA cmp4 rec aA a1 m2 b3 bW n19 aY r21 (IntKind.i64.wrap (n19 - (1 : Int)))

noncomputable def zH {α : Type} [Inhabited α] (cmp4 : α → α → Option Int) (rec : (List α) → Int → Int → Int → Option (List α)) (aA : List α) (a1 : Int) (m2 : Int) (b3 : Int) : Option (List α) :=
  bI (0 ≤ (1 : Int)) <|
  cond (decide ((IntKind.i64.wrap (Int.fdiv (IntKind.u64.wrap (IntKind.i64.wrap (a1 + b3))) (2 ^ (min (Int.toNat (1 : Int)) 64)))) < m2))
  (zB cmp4 rec aA a1 m2 b3 (IntKind.i64.wrap (Int.fdiv (IntKind.u64.wrap (IntKind.i64.wrap (a1 + b3))) (2 ^ (min (Int.toNat (1 : Int)) 64)))) (IntKind.i64.wrap ((IntKind.i64.wrap (Int.fdiv (IntKind.u64.wrap (IntKind.i64.wrap (a1 + b3))) (2 ^ (min (Int.toNat (1 : Int)) 64)))) + m2)) (IntKind.i64.wrap ((IntKind.i64.wrap ((IntKind.i64.wrap (Int.fdiv (IntKind.u64.wrap (IntKind.i64.wrap (a1 + b3))) (2 ^ (min (Int.toNat (1 : Int)) 64)))) + m2)) - b3)) (IntKind.i64.wrap (Int.fdiv (IntKind.u64.wrap (IntKind.i64.wrap (a1 + b3))) (2 ^ (min (Int.toNat (1 : Int)) 64)))))
  (zB cmp4 rec aA a1 m2 b3 (IntKind.i64.wrap (Int.fdiv (IntKind.u64.wrap (IntKind.i64.wrap (a1 + b3))) (2 ^ (min (Int.toNat (1 : Int)) 64)))) (IntKind.i64.wrap ((IntKind.i64.wrap (Int.fdiv (IntKind.u64.wrap (IntKind.i64.wrap (a1 + b3))) (2 ^ (min (Int.toNat (1 : Int)) 64)))) + m2)) a1 m2)

noncomputable def IE {α : Type} [Inhabited α] (cmp4 : α → α → Option Int) (rec : (List α) → Int → Int → Int → Option (List α)) (aA : List α) : Option (List α) :=
  some aA

noncomputable def oD {α : Type} [Inhabited α] (cmp4 : α → α → Option Int) (rec : (List α) → Int → Int → Int → Option (List α)) (i14 : Int) (aA : List α) (k17 : Int) : Option ((List α × Int) ⊕ ((List α))) :=
  cond (decide (i14 < k17))
  (bI (0 ≤ (IntKind.i64.wrap (k17 - (1 : Int))) ∧ (IntKind.i64.wrap (k17 - (1 : Int))) < ((List.length aA : Nat) : Int)) <|
  bI (0 ≤ k17 ∧ k17 < ((List.length aA : Nat) : Int)) <|
  bI (0 ≤ k17 ∧ k17 < ((List.length aA : Nat) : Int)) <|
  bI (0 ≤ (IntKind.i64.wrap (k17 - (1 : Int))) ∧ (IntKind.i64.wrap (k17 - (1 : Int))) < ((List.length aA : Nat) : Int)) <|
  some (.inl (List.set (List.set aA (Int.toNat k17) (List.getD aA (Int.toNat (IntKind.i64.wrap (k17 - (1 : Int)))) default)) (Int.toNat (IntKind.i64.wrap (k17 - (1 : Int)))) (List.getD aA (Int.toNat k17) default), IntKind.i64.wrap (k17 - (1 : Int)))))
  (some (.inr aA))

noncomputable def GO {α : Type} [Inhabited α] (cmp4 : α → α → Option Int) (rec : (List α) → Int → Int → Int → Option (List α)) (aA : List α) (i14 : Int) (k17 : Int) : Option (List α) :=
  (lp (fun s => oD cmp4 rec i14 s.1 s.2) (aA, k17)).bind (fun rr => IE cmp4 rec rr)

noncomputable def HY {α : Type} [Inhabited α] (cmp4 : α → α → Option Int) (rec : (List α) → Int → Int → Int → Option (List α)) (aA : List α) (m2 : Int) (i14 : Int) : Option (List α) :=
  GO cmp4 rec aA i14 m2

noncomputable def nT {α : Type} [Inhabited α] (cmp4 : α → α → Option Int) (rec : (List α) → Int → Int → Int → Option (List α)) (m2 : Int) (aA : List α) (i14 : Int) (j15 : Int) : Option ((List α × Int × Int) ⊕ ((List α × Int))) :=
  cond (decide (i14 < j15))
  (bI (0 ≤ (1 : Int)) <|
  bI (0 ≤ m2 ∧ m2 < ((List.length aA : Nat) : Int)) <|
  bI (0 ≤ (IntKind.i64.wrap (Int.fdiv (IntKind.u64.wrap (IntKind.i64.wrap (i14 + j15))) (2 ^ (min (Int.toNat (1 : Int)) 64)))) ∧ (IntKind.i64.wrap (Int.fdiv (IntKind.u64.wrap (IntKind.i64.wrap (i14 + j15))) (2 ^ (min (Int.toNat (1 : Int)) 64)))) < ((List.length aA : Nat) : Int)) <|
  (cmp4 (List.getD aA (Int.toNat m2) default) (List.getD aA (Int.toNat (IntKind.i64.wrap (Int.fdiv (IntKind.u64.wrap (IntKind.i64.wrap (i14 + j15))) (2 ^ (min (Int.toNat (1 : Int)) 64))))) default)).bind fun x31 =>
  cond (!(decide (x31 < (0 : Int))))
  (some (.inl (aA, IntKind.i64.wrap ((IntKind.i64.wrap (Int.fdiv (IntKind.u64.wrap (IntKind.i64.wrap (i14 + j15))) (2 ^ (min (Int.toNat (1 : Int)) 64)))) + (1 : Int)), j15)))
  (some (.inl (aA, i14, IntKind.i64.wrap (Int.fdiv (IntKind.u64.wrap (IntKind.i64.wrap (i14 + j15))) (2 ^ (min (Int.toNat (1 : Int)) 64)))))))
  (some (.inr (aA, i14)))

noncomputable def FY {α : Type} [Inhabited α] (cmp4 : α → α → Option Int) (rec : (List α) → Int → Int → Int → Option (List α)) (aA : List α) (m2 : Int) (i14 : Int) (j15 : Int) : Option (List α) :=
  (lp (fun s => nT cmp4 rec m2 s.1 s.2.1 s.2.2) (aA, i14, j15)).bind (fun rr => HY cmp4 rec rr.1 m2 rr.2)

noncomputable def CR {α : Type} [Inhabited α] (cmp4 : α → α → Option Int) (rec : (List α) → Int → Int → Int → Option (List α)) (aA : List α) (a1 : Int) (m2 : Int) (b3 : Int) : Option (List α) :=
  cond (decide ((IntKind.i64.wrap (b3 - m2)) = (1 : Int)))
  (FY cmp4 rec aA m2 a1 m2)
  (zH cmp4 rec aA a1 m2 b3)

noncomputable def GG {α : Type} [Inhabited α] (cmp4 : α → α → Option Int) (rec : (List α) → Int → Int → Int → Option (List α)) (aA : List α) : Option (List α) :=
  some aA

noncomputable def nV {α : Type} [Inhabited α] (cmp4 : α → α → Option Int) (rec : (List α) → Int → Int → Int → Option (List α)) (i10 : Int) (aA : List α) (k13 : Int) : Option ((List α × Int) ⊕ ((List α))) :=
  cond (decide (k13 < (IntKind.i64.wrap (i10 - (1 : Int)))))
  (bI (0 ≤ (IntKind.i64.wrap (k13 + (1 : Int))) ∧ (IntKind.i64.wrap (k13 + (1 : Int))) < ((List.length aA : Nat) : Int)) <|
  bI (0 ≤ k13 ∧ k13 < ((List.length aA : Nat) : Int)) <|
  bI (0 ≤ k13 ∧ k13 < ((List.length aA : Nat) : Int)) <|
  bI (0 ≤ (IntKind.i64.wrap (k13 + (1 : Int))) ∧ (IntKind.i64.wrap (k13 + (1 : Int))) < ((List.length aA : Nat) : Int)) <|
  some (.inl (List.set (List.set aA (Int.toNat k13) (List.getD aA (Int.toNat (IntKind.i64.wrap (k13 + (1 : Int)))) default)) (Int.toNat (IntKind.i64.wrap (k13 + (1 : Int)))) (List.getD aA (Int.toNat k13) default), IntKind.i64.wrap (k13 + (1 : Int)))))
  (some (.inr aA))

noncomputable def GA {α : Type} [Inhabited α] (cmp4 : α → α → Option Int) (rec : (List α) → Int → Int → Int → Option (List α)) (aA : List α) (i10 : Int) (k13 : Int) : Option (List α) :=
  (lp (fun s => nV cmp4 rec i10 s.1 s.2) (aA, k13)).bind (fun rr => GG cmp4 rec rr)

noncomputable def FZ {α : Type} [Inhabited α] (cmp4 : α → α → Option Int) (rec : (List α) → Int → Int → Int → Option (List α)) (aA : List α) (a1 : Int) (i10 : Int) : Option (List α) :=
  GA cmp4 rec aA i10 a1

noncomputable def oC {α : Type} [Inhabited α] (cmp4 : α → α → Option Int) (rec : (List α) → Int → Int → Int → Option (List α)) (a1 : Int) (aA : List α) (i10 : Int) (j11 : Int) : Option ((List α × Int × Int) ⊕ ((List α × Int))) :=
  cond (decide (i10 < j11))
  (bI (0 ≤ (1 : Int)) <|
  bI (0 ≤ (IntKind.i64.wrap (Int.fdiv (IntKind.u64.wrap (IntKind.i64.wrap (i10 + j11))) (2 ^ (min (Int.toNat (1 : Int)) 64)))) ∧ (IntKind.i64.wrap (Int.fdiv (IntKind.u64.wrap (IntKind.i64.wrap (i10 + j11))) (2 ^ (min (Int.toNat (1 : Int)) 64)))) < ((List.length aA : Nat) : Int)) <|
  bI (0 ≤ a1 ∧ a1 < ((List.length aA : Nat) : Int)) <|
  (cmp4 (List.getD aA (Int.toNat (IntKind.i64.wrap (Int.fdiv (IntKind.u64.wrap (IntKind.i64.wrap (i10 + j11))) (2 ^ (min (Int.toNat (1 : Int)) 64))))) default) (List.getD aA (Int.toNat a1) default)).bind fun x45 =>
  cond (decide (x45 < (0 : Int)))
  (some (.inl (aA, IntKind.i64.wrap ((IntKind.i64.wrap (Int.fdiv (IntKind.u64.wrap (IntKind.i64.wrap (i10 + j11))) (2 ^ (min (Int.toNat (1 : Int)) 64)))) + (1 : Int)), j11)))
  (some (.inl (aA, i10, IntKind.i64.wrap (Int.fdiv (IntKind.u64.wrap (IntKind.i64.wrap (i10 + j11))) (2 ^ (min (Int.toNat (1 : Int)) 64)))))))
  (some (.inr (aA, i10)))

noncomputable def GF {α : Type} [Inhabited α] (cmp4 : α → α → Option Int) (rec : (List α) → Int → Int → Int → Option (List α)) (aA : List α) (a1 : Int) (i10 : Int) (j11 : Int) : Option (List α) :=
  (lp (fun s => oC cmp4 rec a1 s.1 s.2.1 s.2.2) (aA, i10, j11)).bind (fun rr => FZ cmp4 rec rr.1 a1 rr.2)

noncomputable def eE {α : Type} [Inhabited α] (cmp4 : α → α → Option Int) (rec : (List α) → Int → Int → Int → Option (List α)) (aA : (List α)) (a1 : Int) (m2 : Int) (b3 : Int) : Option (List α) :=
  cond (decide ((IntKind.i64.wrap (m2 - a1)) = (1 : Int)))
  (GF cmp4 rec aA a1 m2 b3)
  (CR cmp4 rec aA a1 m2 b3)

noncomputable def eJ {α : Type} [Inhabited α] (cmp4 : α → α → Option Int) : Nat → (List α) → Int → Int → Int → Option (List α)
  | 0 => fun _ _ _ _ => none
  | k + 1 => eE cmp4 (eJ cmp4 k)

noncomputable def pO {α : Type} [Inhabited α] (aA : (List α)) (a1 : Int) (m2 : Int) (b3 : Int) (cmp4 : α → α → Option Int) : Option (List α) := MG (fun k => eJ cmp4 k aA a1 m2 b3)

noncomputable def BS {α : Type} [Inhabited α] (cmp2 : α → α → Option Int) (aA : List α) (n1 : Int) (aQ : Int) : Option ((List α × Int) ⊕ ((List α))) :=
  some (.inl (aA, IntKind.i64.wrap (aQ * (2 : Int))))

noncomputable def yC {α : Type} [Inhabited α] (cmp2 : α → α → Option Int) (aA : List α) (n1 : Int) (aQ : Int) (a7 : Int) : Option ((List α × Int) ⊕ ((List α))) :=
  cond (decide ((IntKind.i64.wrap (a7 + aQ)) < n1))
  ((pO aA a7 (IntKind.i64.wrap (a7 + aQ)) n1 cmp2).bind fun x4 =>
  BS cmp2 x4 n1 aQ)
  (BS cmp2 aA n1 aQ)

noncomputable def mS {α : Type} [Inhabited α] (cmp2 : α → α → Option Int) (n1 : Int) (aQ : Int) (aA : List α) (a7 : Int) (b8 : Int) : Option ((List α × Int × Int) ⊕ ((List α × Int))) :=
  cond (decide (b8 ≤ n1))
  ((pO aA a7 (IntKind.i64.wrap (a7 + aQ)) b8 cmp2).bind fun x8 =>
  some (.inl (x8, b8, IntKind.i64.wrap (b8 + (IntKind.i64.wrap ((2 : Int) * aQ))))))
  (some (.inr (aA, a7)))

noncomputable def yE {α : Type} [Inhabited α] (cmp2 : α → α → Option Int) (aA : List α) (n1 : Int) (aQ : Int) (a7 : Int) (b8 : Int) : Option ((List α × Int) ⊕ ((List α))) :=
  (lp (fun s => mS cmp2 n1 aQ s.1 s.2.1 s.2.2) (aA, a7, b8)).bind (fun rr => yC cmp2 rr.1 n1 aQ rr.2)

noncomputable def jV {α : Type} [Inhabited α] (cmp2 : α → α → Option Int) (n1 : Int) (aA : List α) (aQ : Int) : Option ((List α × Int) ⊕ ((List α))) :=
  cond (decide (aQ < n1))
  (yE cmp2 aA n1 aQ (0 : Int) (IntKind.i64.wrap ((2 : Int) * aQ)))
  (some (.inr aA))

noncomputable def BR {α : Type} [Inhabited α] (cmp2 : α → α → Option Int) (aA : List α) (n1 : Int) (aQ : Int) : Option (List α) :=
  (lp (fun s => jV cmp2 n1 s.1 s.2) (aA, aQ)).bind (fun rr => some rr)

noncomputable def BU {α : Type} [Inhabited α] (cmp2 : α → α → Option Int) (aA : List α) (n1 : Int) (aQ : Int) (a7 : Int) : Option (List α) :=
  (nZ aA a7 n1 cmp2).bind fun x1 =>
  BR cmp2 x1 n1 aQ

noncomputable def mQ {α : Type} [Inhabited α] (cmp2 : α → α → Option Int) (n1 : Int) (aQ : Int) (aA : List α) (a7 : Int) (b8 : Int) : Option ((List α × Int × Int) ⊕ ((List α × Int))) :=
  cond (decide (b8 ≤ n1))
  ((nZ aA a7 b8 cmp2).bind fun x13 =>
  some (.inl (x13, b8, IntKind.i64.wrap (b8 + aQ))))
  (some (.inr (aA, a7)))

noncomputable def BQ {α : Type} [Inhabited α] (cmp2 : α → α → Option Int) (aA : List α) (n1 : Int) (aQ : Int) (a7 : Int) (b8 : Int) : Option (List α) :=
  (lp (fun s => mQ cmp2 n1 aQ s.1 s.2.1 s.2.2) (aA, a7, b8)).bind (fun rr => BU cmp2 rr.1 n1 aQ rr.2)

noncomputable def zY {α : Type} [Inhabited α] (aA : (List α)) (n1 : Int) (cmp2 : α → α → Option Int) : Option (List α) :=
  BQ cmp2 aA n1 (20 : Int) (0 : Int) (20 : Int)

end Go.Abs
namespace Go.Abs
open Go
variable {α : Type} [Inhabited α]
structure Cmp {β : Type} (ok : β → Prop) (le : β → β → Prop) (cmp : β → β → Option Int) : Prop where
  ans : ∀ x y, ok x → ok y → ∃ v, cmp x y = some v ∧ (v < 0 ↔ ¬ le y x)
  trans : ∀ x y z, ok x → ok y → ok z → le x y → le y z → le x z
  total : ∀ x y, ok x → ok y → le x y ∨ le y x

abbrev Srt {β : Type} (le : β → β → Prop) (l : List β) : Prop := l.Pairwise le

abbrev Oks {β : Type} (ok : β → Prop) (l : List β) : Prop := ∀ x ∈ l, ok x

theorem aBq {Q R : List α} {x : α} : (Q ++ x :: R).getD Q.length default = x := by simp [List.getD_eq_getElem?_getD]

theorem aCr {β : Type} {Q R : List β} {x y : β} : (Q ++ x :: R).set Q.length y = Q ++ y :: R := by simp

theorem qQ {Q R d : List α} {x : α} {n : Nat} (hd : d = Q ++ x :: R) (hn : n = Q.length) : d.getD n default = x := by subst hd; subst hn; exact aBq

theorem GP {β : Type} {Q R d : List β} {x y : β} {n : Nat} (hd : d = Q ++ x :: R) (hn : n = Q.length) : d.set n y = Q ++ y :: R := by subst hd; subst hn; exact aCr

theorem wr {n : Int} (h1 : -1099511627776 ≤ n) (h2 : n ≤ 8796093022208) : IntKind.i64.wrap n = n := dV (by omega) (by omega)

theorem SK {β : Type} {Q M R d : List β} {x y : β} {a b : Nat} (hd : d = Q ++ x :: (M ++ y :: R)) (ha : a = Q.length) (hb : b = Q.length + 1 + M.length) : (d.set a y).set b x = Q ++ y :: (M ++ x :: R) := by
  rw [GP hd ha, GP (Q := Q ++ y :: M) (x := y) (R := R) (by simp) (by simp; omega)]
  simp

section ins
variable {ok : α → Prop} {le : α → α → Prop} {cmp : α → α → Option Int}
theorem IJ {A T : List α} {x : α} {a b i : Int} {P : List α} (ha : a = (P.length : Nat)) (hl : (P ++ A ++ x :: T).length ≤ 1099511627776)
    (hs : A = [] ∨ ∃ A' y v, A = A' ++ [y] ∧ cmp x y = some v ∧ ¬ v < 0) : mF cmp a b i (P ++ A ++ x :: T) ((P.length + A.length : Nat) : Int) = some (.inr (P ++ A ++ x :: T)) := by
  simp only [List.length_append, List.length_cons] at hl
  unfold mF
  rcases hs with rfl | ⟨A', y, v, rfl, hc, hv⟩
  · have h : decide (a < ((P.length + ([] : List α).length : Nat) : Int)) = false := by subst ha; simp
    rw [h, bA (fun h => by cases h), bA (fun h => by cases h)]
    simp [cO]
  · simp only [List.length_append, List.length_cons, List.length_nil] at hl ⊢
    have h : decide (a < ((P.length + (A'.length + (0 + 1)) : Nat) : Int)) = true := by subst ha; simp; omega
    have hw : IntKind.i64.wrap (((P.length + (A'.length + (0 + 1)) : Nat) : Int) - 1) = ((P.length + A'.length : Nat) : Int) := by rw [wr (by omega) (by omega)]; omega
    have g1 : (P ++ (A' ++ [y]) ++ x :: T).getD (P.length + (A'.length + (0 + 1))) default = x := qQ (Q := P ++ (A' ++ [y])) rfl (by simp)
    have g2 : (P ++ (A' ++ [y]) ++ x :: T).getD (P.length + A'.length) default = y := qQ (Q := P ++ A') (R := x :: T) (by simp) (by simp)
    rw [h, hw, bA (fun _ => ⟨by omega, by omega⟩), bA (fun _ => ⟨by omega, by omega⟩)]
    rw [Int.toNat_natCast, Int.toNat_natCast, g1, g2]
    simp [cO, hc, hv]

theorem WO {A T : List α} {x y : α} {v : Int} {a b i : Int} {P : List α} (ha : a = (P.length : Nat)) (hl : (P ++ (A ++ [y]) ++ x :: T).length ≤ 1099511627776)
    (hc : cmp x y = some v) (hv : v < 0) : mF cmp a b i (P ++ (A ++ [y]) ++ x :: T) ((P.length + (A ++ [y]).length : Nat) : Int) = some (.inl (P ++ A ++ x :: (y :: T), ((P.length + A.length : Nat) : Int))) := by
  simp only [List.length_append, List.length_cons, List.length_nil] at hl ⊢
  unfold mF
  have h : decide (a < ((P.length + (A.length + (0 + 1)) : Nat) : Int)) = true := by subst ha; simp; omega
  have hw : IntKind.i64.wrap (((P.length + (A.length + (0 + 1)) : Nat) : Int) - 1) = ((P.length + A.length : Nat) : Int) := by rw [wr (by omega) (by omega)]; omega
  have g1 : (P ++ (A ++ [y]) ++ x :: T).getD (P.length + (A.length + (0 + 1))) default = x := qQ (Q := P ++ (A ++ [y])) rfl (by simp)
  have g2 : (P ++ (A ++ [y]) ++ x :: T).getD (P.length + A.length) default = y := qQ (Q := P ++ A) (R := x :: T) (by simp) (by simp)
  have hs : ((P ++ (A ++ [y]) ++ x :: T).set (P.length + (A.length + (0 + 1))) y).set (P.length + A.length) x = P ++ A ++ x :: (y :: T) := by
    rw [GP (Q := P ++ (A ++ [y])) (x := x) (R := T) rfl (by simp), GP (Q := P ++ A) (x := y) (R := y :: T) (by simp) (by simp)]
  have b1 : 0 ≤ ((P.length + (A.length + (0 + 1)) : Nat) : Int) ∧ ((P.length + (A.length + (0 + 1)) : Nat) : Int) < ((List.length (P ++ (A ++ [y]) ++ x :: T) : Nat) : Int) := ⟨by omega, by simp only [List.length_append, List.length_cons, List.length_nil]; omega⟩
  have b2 : 0 ≤ ((P.length + A.length : Nat) : Int) ∧ ((P.length + A.length : Nat) : Int) < ((List.length (P ++ (A ++ [y]) ++ x :: T) : Nat) : Int) := ⟨by omega, by simp only [List.length_append, List.length_cons, List.length_nil]; omega⟩
  rw [h, hw, bA (fun _ => b1), bA (fun _ => b2), Int.toNat_natCast, Int.toNat_natCast, g1, g2]
  simp only [cO, cond_true, hc, Option.bind_some, Bool.true_and, decide_eq_true hv]
  rw [bA b2, bA b1, bA b1, bA b2, hs]

theorem aAX (C : Cmp ok le cmp) {x : α} (hx : ok x) {a b i : Int} {P : List α} (ha : a = (P.length : Nat)) : ∀ (n : Nat) (A B T : List α), A.length = n → Oks ok A → Oks ok B → Srt le (A ++ B) → (∀ y ∈ B, ¬ le y x) → (P ++ A ++ x :: (B ++ T)).length ≤ 1099511627776 →
    ∃ D, D.Perm (A ++ x :: B) ∧ Srt le D ∧ lp (fun s : List α × Int => mF cmp a b i s.1 s.2) (P ++ A ++ x :: (B ++ T), ((P.length + A.length : Nat) : Int)) = some (P ++ D ++ T) := by
  intro n
  induction n with
  | zero =>
    intro A B T hn _ hB hs hlt hl
    have hA : A = [] := List.length_eq_zero_iff.1 hn
    subst hA
    refine ⟨x :: B, List.Perm.refl _, ?_, ?_⟩
    · refine List.pairwise_cons.2 ⟨fun y hy => ?_, by simpa using hs⟩
      rcases C.total x y hx (hB y hy) with h | h
      · exact h
      · exact absurd h (hlt y hy)
    · rw [cM (IJ ha hl (Or.inl rfl))]; simp
  | succ n ih =>
    intro A B T hn hA hB hs hlt hl
    obtain ⟨A', y, rfl⟩ : ∃ A' y, A = A' ++ [y] := by
      rcases List.eq_nil_or_concat A with h | ⟨A', y, h⟩
      · rw [h] at hn; simp at hn
      · exact ⟨A', y, by simpa using h⟩
    have hy : ok y := hA y (by simp)
    obtain ⟨v, hc, hv⟩ := C.ans x y hx hy
    by_cases hneg : v < 0
    · have hb := WO (i := i) (b := b) ha hl hc hneg
      have hl' : (P ++ A' ++ x :: ((y :: B) ++ T)).length ≤ 1099511627776 := by
        simp only [List.length_append, List.length_cons, List.length_nil] at hl ⊢; omega
      obtain ⟨D, d1, d2, d3⟩ := ih A' (y :: B) T (by simpa using hn) (fun z hz => hA z (by simp [hz])) (fun z hz => by rcases List.mem_cons.1 hz with rfl | hz; exact hy; exact hB z hz) (by simpa using hs)
        (fun z hz => by rcases List.mem_cons.1 hz with rfl | hz; exact hv.1 hneg; exact hlt z hz) hl'
      refine ⟨D, d1.trans ?_, d2, ?_⟩
      · simp only [List.append_assoc, List.singleton_append]
        exact List.Perm.append_left _ (List.Perm.swap ..)
      · rw [dL hb]; simpa using d3
    · refine ⟨A' ++ [y] ++ x :: B, List.Perm.refl _, ?_, ?_⟩
      · have hyx : le y x := Classical.byContradiction fun h => hneg (hv.2 h)
        simp only [Srt, List.pairwise_append] at hs ⊢
        obtain ⟨s1, s2, s3⟩ := hs
        refine ⟨s1, List.pairwise_cons.2 ⟨fun z hz => ?_, s2⟩, ?_⟩
        · rcases C.total x z hx (hB z hz) with h | h
          · exact h
          · exact absurd h (hlt z hz)
        · intro z hz w hw
          rcases List.mem_cons.1 hw with rfl | hw
          · rcases List.mem_append.1 hz with hz' | hz'
            · exact C.trans z y w (hA z hz) hy hx (s1.2.2 z hz' y (by simp)) hyx
            · rw [List.mem_singleton] at hz'; subst hz'; exact hyx
          · exact s3 z hz w hw
      · rw [cM (IJ ha hl (Or.inr ⟨A', y, v, rfl, hc, hneg⟩))]
        simp

theorem RC (C : Cmp ok le cmp) {a b : Int} {P : List α} (ha : a = (P.length : Nat)) : ∀ (B A T : List α), Oks ok A → Oks ok B → Srt le A → b = ((P.length + A.length + B.length : Nat) : Int) → (P ++ A ++ (B ++ T)).length ≤ 1099511627776 →
    ∃ D, D.Perm (A ++ B) ∧ Srt le D ∧ lp (fun s : List α × Int => jR cmp a b s.1 s.2) (P ++ A ++ (B ++ T), ((P.length + A.length : Nat) : Int)) = some (P ++ D ++ T)
  | [], A, T, _, _, hs, hb, _ => by
    refine ⟨A, by simp, hs, cM ?_⟩
    have : decide (((P.length + A.length : Nat) : Int) < b) = false := by subst hb; simp
    simp only [jR, this, cond_false, List.nil_append]
  | x :: B, A, T, hA, hB, hs, hb, hl => by
    obtain ⟨D, d1, d2, d3⟩ := aAX C (hB x (by simp)) (b := b) (i := ((P.length + A.length : Nat) : Int)) ha A.length A [] (B ++ T) rfl hA (by intro z hz; simp at hz) (by simpa using hs) (by simp) (by simpa using hl)
    have hD : D.length = A.length + 1 := by rw [d1.length_eq]; simp
    have hlt : decide (((P.length + A.length : Nat) : Int) < b) = true := by subst hb; simp; omega
    have hbod : (fun s : List α × Int => jR cmp a b s.1 s.2) (P ++ A ++ (x :: B ++ T), ((P.length + A.length : Nat) : Int)) = some (.inl (P ++ D ++ (B ++ T), ((P.length + D.length : Nat) : Int))) := by
      show jR cmp a b _ _ = _
      simp only [jR, hlt, cond_true, CK]
      rw [show P ++ A ++ (x :: B ++ T) = P ++ A ++ x :: ([] ++ (B ++ T)) by simp, d3]
      simp only [Option.bind_some, CD]
      rw [wr (by omega) (by simp only [List.length_append, List.length_cons] at hl; omega), hD]
      congr 1
    have hl' : (P ++ D ++ (B ++ T)).length ≤ 1099511627776 := by simp only [List.length_append, List.length_cons] at hl ⊢; omega
    obtain ⟨E, e1, e2, e3⟩ := RC C (b := b) ha B D T (fun z hz => by
      have := d1.mem_iff.1 hz
      rcases List.mem_append.1 this with h | h
      · exact hA z h
      · rw [List.mem_singleton] at h; subst h; exact hB z (by simp)) (fun z hz => hB z (by simp [hz])) d2 (by rw [hb]; simp only [List.length_cons]; congr 1; omega) hl'
    refine ⟨E, e1.trans ?_, e2, by rw [dL hbod]; exact e3⟩
    have := d1.append_right B
    simpa using this

theorem aAu (C : Cmp ok le cmp) {P A T : List α} {a b : Int} (ha : a = (P.length : Nat)) (hb : b = ((P.length + A.length : Nat) : Int)) (hA : Oks ok A) (hl : (P ++ A ++ T).length ≤ 1099511627776) :
    ∃ D, D.Perm A ∧ Srt le D ∧ nZ (P ++ A ++ T) a b cmp = some (P ++ D ++ T) := by
  unfold nZ CH
  simp only [List.length_append] at hl
  cases A with
  | nil =>
    refine ⟨[], List.Perm.refl _, List.Pairwise.nil, ?_⟩
    rw [cM (r := P ++ [] ++ T)]
    · rfl
    · have : decide (IntKind.i64.wrap (a + 1) < b) = false := by
        rw [wr (by omega) (by omega)]; subst ha; subst hb; simp; omega
      simp only [jR, this, cond_false]
  | cons x A =>
    simp only [List.length_cons] at hl
    have hw : IntKind.i64.wrap (a + 1) = ((P.length + [x].length : Nat) : Int) := by rw [wr (by omega) (by omega)]; subst ha; simp
    obtain ⟨D, d1, d2, d3⟩ := RC C (b := b) ha A [x] T (fun z hz => by rw [List.mem_singleton] at hz; subst hz; exact hA z (by simp)) (fun z hz => hA z (by simp [hz])) (by simp) (by rw [hb]; simp only [List.length_cons, List.length_nil]; congr 1; omega) (by simp only [List.length_append, List.length_cons, List.length_nil]; omega)
    refine ⟨D, by simpa using d1, d2, ?_⟩
    rw [hw, show P ++ x :: A ++ T = P ++ [x] ++ (A ++ T) by simp, d3]
    rfl

end ins
theorem JT {cmp : α → α → Option Int} {a b n : Int} : ∀ (X Y Q Z R : List α) (i : Nat), X.length = Y.length → a + i = (Q.length : Nat) → b + i = ((Q.length + X.length + Z.length : Nat) : Int) → n = ((i + X.length : Nat) : Int) → 0 ≤ a → 0 ≤ b → (Q ++ X ++ Z ++ Y ++ R).length ≤ 1099511627776 →
    lp (fun s : List α × Int => pW cmp a b n s.1 s.2) (Q ++ X ++ Z ++ Y ++ R, ((i : Nat) : Int)) = some (Q ++ Y ++ Z ++ X ++ R)
  | [], Y, Q, Z, R, i, hxy, ha, hb, hn, _, _, hl => by
    have : Y = [] := List.length_eq_zero_iff.1 hxy.symm
    subst this
    refine cM ?_
    have : decide (((i : Nat) : Int) < n) = false := by subst hn; simp
    simp only [pW, this, cond_false]
  | x :: X, [], Q, Z, R, i, hxy, _, _, _, _, _, _ => by simp at hxy
  | x :: X, y :: Y, Q, Z, R, i, hxy, ha, hb, hn, ha0, hb0, hl => by
    simp only [List.length_append, List.length_cons] at hl hb hn hxy
    have hlt : decide (((i : Nat) : Int) < n) = true := by subst hn; simp; omega
    have wa : IntKind.i64.wrap (a + i) = ((Q.length : Nat) : Int) := by rw [wr (by omega) (by omega)]; exact ha
    have wb : IntKind.i64.wrap (b + i) = ((Q.length + 1 + (X ++ Z).length : Nat) : Int) := by rw [wr (by omega) (by omega), hb]; simp only [List.length_append]; congr 1; omega
    have wi : IntKind.i64.wrap (((i : Nat) : Int) + 1) = ((i + 1 : Nat) : Int) := by rw [wr (by omega) (by omega)]; omega
    have hd : Q ++ x :: X ++ Z ++ y :: Y ++ R = Q ++ x :: ((X ++ Z) ++ y :: (Y ++ R)) := by simp
    have b1 : 0 ≤ ((Q.length : Nat) : Int) ∧ ((Q.length : Nat) : Int) < ((List.length (Q ++ x :: X ++ Z ++ y :: Y ++ R) : Nat) : Int) := ⟨by omega, by simp only [List.length_append, List.length_cons]; omega⟩
    have b2 : 0 ≤ ((Q.length + 1 + (X ++ Z).length : Nat) : Int) ∧ ((Q.length + 1 + (X ++ Z).length : Nat) : Int) < ((List.length (Q ++ x :: X ++ Z ++ y :: Y ++ R) : Nat) : Int) := ⟨by omega, by simp only [List.length_append, List.length_cons]; omega⟩
    have g1 : (Q ++ x :: X ++ Z ++ y :: Y ++ R).getD Q.length default = x := qQ hd rfl
    have g2 : (Q ++ x :: X ++ Z ++ y :: Y ++ R).getD (Q.length + 1 + (X ++ Z).length) default = y := qQ (Q := Q ++ x :: X ++ Z) (R := Y ++ R) (by simp) (by simp; omega)
    have hbod : (fun s : List α × Int => pW cmp a b n s.1 s.2) (Q ++ x :: X ++ Z ++ y :: Y ++ R, ((i : Nat) : Int)) = some (.inl ((Q ++ [y]) ++ X ++ (Z ++ [x]) ++ Y ++ R, ((i + 1 : Nat) : Int))) := by
      show pW cmp a b n _ _ = _
      simp only [pW, hlt, cond_true, wa, wb, wi, bA b1, bA b2, Int.toNat_natCast, g1, g2]
      rw [SK hd rfl rfl]
      simp
    rw [dL hbod, JT X Y (Q ++ [y]) (Z ++ [x]) R (i + 1) (by omega) (by simp; omega) (by simp; omega) (by rw [hn]; congr 1; omega) ha0 hb0 (by simp only [List.length_append, List.length_cons, List.length_nil]; omega)]
    simp

theorem OZ {cmp : α → α → Option Int} {a b n : Int} {X Y Q Z R d : List α} (hd : d = Q ++ X ++ Z ++ Y ++ R) (hxy : X.length = Y.length) (ha : a = (Q.length : Nat)) (hb : b = ((Q.length + X.length + Z.length : Nat) : Int)) (hn : n = (X.length : Nat)) (hl : d.length ≤ 1099511627776) :
    vV d a b n cmp = some (Q ++ Y ++ Z ++ X ++ R) := by
  subst hd
  unfold vV GK
  have := JT (cmp := cmp) (a := a) (b := b) (n := n) X Y Q Z R 0 hxy (by omega) (by omega) (by omega) (by omega) (by omega) hl
  simp only [Int.natCast_zero] at this
  rw [this]; rfl

theorem aAM {cmp : α → α → Option Int} {m : Int} : ∀ (n : Nat) (X Y Q R : List α), X.length + Y.length ≤ n → X ≠ [] → Y ≠ [] → m = ((Q.length + X.length : Nat) : Int) → (Q ++ X ++ Y ++ R).length ≤ 1099511627776 →
    (lp (fun s : List α × Int × Int => mT cmp m s.1 s.2.1 s.2.2) (Q ++ X ++ Y ++ R, ((X.length : Nat) : Int), ((Y.length : Nat) : Int))).bind (fun rr => FT cmp rr.1 m rr.2) = some (Q ++ Y ++ X ++ R) := by
  intro n
  induction n with
  | zero => intro X Y Q R hn hX; exact absurd (List.length_eq_zero_iff.1 (by omega)) hX
  | succ n ih =>
    intro X Y Q R hn hX hY hm hl
    have hX' : 0 < X.length := List.length_pos_iff.2 hX
    have hY' : 0 < Y.length := List.length_pos_iff.2 hY
    simp only [List.length_append] at hl
    rcases Nat.lt_trichotomy X.length Y.length with h | h | h
    · -- the second is longer
      obtain ⟨Y1, Y2, rfl, hY2⟩ : ∃ Y1 Y2, Y = Y1 ++ Y2 ∧ Y2.length = X.length := ⟨Y.take (Y.length - X.length), Y.drop (Y.length - X.length), (List.take_append_drop _ _).symm, by rw [List.length_drop]; omega⟩
      simp only [List.length_append] at hn hl h
      have hne : decide (((X.length : Nat) : Int) = (((Y1 ++ Y2).length : Nat) : Int)) = false := by simp only [List.length_append]; simp; omega
      have hlt : decide ((((Y1 ++ Y2).length : Nat) : Int) < ((X.length : Nat) : Int)) = false := by simp only [List.length_append]; simp; omega
      have e1 : IntKind.i64.wrap (m - ((X.length : Nat) : Int)) = ((Q.length : Nat) : Int) := by rw [wr (by omega) (by omega)]; omega
      have e0 : IntKind.i64.wrap (m + (((Y1 ++ Y2).length : Nat) : Int)) = m + (((Y1 ++ Y2).length : Nat) : Int) := by simp only [List.length_append]; exact wr (by omega) (by omega)
      have e2 : IntKind.i64.wrap (m + (((Y1 ++ Y2).length : Nat) : Int) - ((X.length : Nat) : Int)) = ((Q.length + X.length + Y1.length : Nat) : Int) := by simp only [List.length_append]; rw [wr (by omega) (by omega)]; omega
      have e3 : IntKind.i64.wrap ((((Y1 ++ Y2).length : Nat) : Int) - ((X.length : Nat) : Int)) = ((Y1.length : Nat) : Int) := by simp only [List.length_append]; rw [wr (by omega) (by omega)]; omega
      have hbod : (fun s : List α × Int × Int => mT cmp m s.1 s.2.1 s.2.2) (Q ++ X ++ (Y1 ++ Y2) ++ R, ((X.length : Nat) : Int), (((Y1 ++ Y2).length : Nat) : Int)) = some (.inl (Q ++ Y2 ++ Y1 ++ (X ++ R), ((Y2.length : Nat) : Int), ((Y1.length : Nat) : Int))) := by
        show mT cmp m _ _ _ = _
        simp only [mT, hne, Bool.not_false, cond_true, hlt, cond_false, e0, e1, e2, e3]
        rw [OZ (X := X) (Y := Y2) (Q := Q) (Z := Y1) (R := R) (by simp) hY2.symm rfl rfl rfl (by simp only [List.length_append]; omega)]
        simp [hY2]
      rw [dL hbod, ih Y2 Y1 Q (X ++ R) (by omega) (fun h => by rw [h] at hY2; simp at hY2; omega) (fun h' => by rw [h'] at h; simp at h; omega) (by rw [hm]; congr 1; omega) (by simp only [List.length_append]; omega)]
      simp
    · -- alike
      have hne : decide (((X.length : Nat) : Int) = ((Y.length : Nat) : Int)) = true := by simp; omega
      rw [cM (r := (Q ++ X ++ Y ++ R, ((X.length : Nat) : Int))) (by show mT cmp m _ _ _ = _; simp only [mT, hne, Bool.not_true, cond_false])]
      simp only [Option.bind_some, FT]
      have e1 : IntKind.i64.wrap (m - ((X.length : Nat) : Int)) = ((Q.length : Nat) : Int) := by rw [wr (by omega) (by omega)]; omega
      rw [e1, OZ (X := X) (Y := Y) (Q := Q) (Z := []) (R := R) (by simp) h rfl (by rw [hm]; simp) rfl (by simp only [List.length_append]; omega)]
      simp
    · -- the first is longer
      obtain ⟨X1, X2, rfl, hX1⟩ : ∃ X1 X2, X = X1 ++ X2 ∧ X1.length = Y.length := ⟨X.take Y.length, X.drop Y.length, (List.take_append_drop _ _).symm, by rw [List.length_take]; omega⟩
      simp only [List.length_append] at hn hl h hm
      have hne : decide ((((X1 ++ X2).length : Nat) : Int) = ((Y.length : Nat) : Int)) = false := by simp only [List.length_append]; simp; omega
      have hlt : decide (((Y.length : Nat) : Int) < (((X1 ++ X2).length : Nat) : Int)) = true := by simp only [List.length_append]; simp; omega
      have e1 : IntKind.i64.wrap (m - (((X1 ++ X2).length : Nat) : Int)) = ((Q.length : Nat) : Int) := by simp only [List.length_append]; rw [wr (by omega) (by omega)]; omega
      have e3 : IntKind.i64.wrap ((((X1 ++ X2).length : Nat) : Int) - ((Y.length : Nat) : Int)) = ((X2.length : Nat) : Int) := by simp only [List.length_append]; rw [wr (by omega) (by omega)]; omega
      have hbod : (fun s : List α × Int × Int => mT cmp m s.1 s.2.1 s.2.2) (Q ++ (X1 ++ X2) ++ Y ++ R, (((X1 ++ X2).length : Nat) : Int), ((Y.length : Nat) : Int)) = some (.inl ((Q ++ Y) ++ X2 ++ X1 ++ R, ((X2.length : Nat) : Int), ((X1.length : Nat) : Int))) := by
        show mT cmp m _ _ _ = _
        simp only [mT, hne, Bool.not_false, cond_true, hlt, e1, e3]
        rw [OZ (X := X1) (Y := Y) (Q := Q) (Z := X2) (R := R) (by simp) hX1 rfl (by rw [hm]; congr 1; omega) (by rw [hX1]) (by simp only [List.length_append]; omega)]
        simp [hX1]
      rw [dL hbod, ih X2 X1 (Q ++ Y) R (by omega) (fun h' => by rw [h'] at h; simp at h; omega) (fun h => by rw [h] at hX1; simp at hX1; omega) (by rw [hm]; simp only [List.length_append]; congr 1; omega) (by simp only [List.length_append]; omega)]
      simp

theorem aCZ {cmp : α → α → Option Int} {a m b : Int} {X Y Q R d : List α} (hd : d = Q ++ X ++ Y ++ R) (hX : X ≠ []) (hY : Y ≠ []) (ha : a = (Q.length : Nat)) (hm : m = ((Q.length + X.length : Nat) : Int)) (hb : b = ((Q.length + X.length + Y.length : Nat) : Int)) (hl : d.length ≤ 1099511627776) :
    ET d a m b cmp = some (Q ++ Y ++ X ++ R) := by
  subst hd
  unfold ET LC
  have hl' := hl
  simp only [List.length_append] at hl'
  rw [show IntKind.i64.wrap (m - a) = ((X.length : Nat) : Int) by rw [wr (by omega) (by omega)]; omega, show IntKind.i64.wrap (b - m) = ((Y.length : Nat) : Int) by rw [wr (by omega) (by omega)]; omega]
  exact aAM _ X Y Q R (Nat.le_refl _) hX hY hm hl

end Go.Abs
namespace Go.Abs
open Go
variable {α : Type} [Inhabited α]
theorem half {s : Nat} (h : s ≤ 4398046511104) : IntKind.i64.wrap (Int.fdiv (IntKind.u64.wrap (IntKind.i64.wrap (s : Int))) (2 ^ (min (Int.toNat (1 : Int)) 64))) = ((s / 2 : Nat) : Int) := by
  rw [wr (n := (s : Int)) (by omega) (by omega)]
  have hu : IntKind.u64.wrap (s : Int) = (s : Int) := by
    simp only [IntKind.wrap, IntKind.bits, IntKind.signed]
    simp
    omega
  have hp : (2 : Int) ^ (min (Int.toNat (1 : Int)) 64) = 2 := by decide
  rw [hu, hp, Int.fdiv_eq_ediv_of_nonneg _ (by omega), wr (by omega) (by omega)]
  omega

theorem HP {P B S d : List α} {n k : Nat} (hd : d = P ++ B ++ S) (hn : n = P.length + k) (hk : k < B.length) : d.getD n default = B.getD k default := by
  subst hd; subst hn
  simp only [List.getD_eq_getElem?_getD]
  rw [List.append_assoc, List.getElem?_append_right (by omega), List.getElem?_append_left (by omega)]
  congr 2; omega

theorem HG {l : List α} {t : Nat} {y : α} (h : y ∈ l.take t) : ∃ i, i < t ∧ i < l.length ∧ y = l.getD i default := by
  obtain ⟨i, hi, rfl⟩ := List.mem_iff_getElem.1 h
  rw [List.length_take] at hi
  refine ⟨i, by omega, by omega, ?_⟩
  rw [List.getElem_take, List.getD_eq_getElem?_getD, List.getElem?_eq_getElem (by omega)]; rfl

theorem vX {l : List α} {t : Nat} {y : α} (h : y ∈ l.drop t) : ∃ i, t ≤ i ∧ i < l.length ∧ y = l.getD i default := by
  obtain ⟨i, hi, rfl⟩ := List.mem_iff_getElem.1 h
  rw [List.length_drop] at hi
  refine ⟨t + i, by omega, by omega, ?_⟩
  rw [List.getElem_drop, List.getD_eq_getElem?_getD, List.getElem?_eq_getElem (by omega)]; rfl

theorem dM {l : List α} {i : Nat} (h : i < l.length) : l.getD i default ∈ l := by
  rw [List.getD_eq_getElem?_getD, List.getElem?_eq_getElem h]; exact List.getElem_mem h

section sym
variable {ok : α → Prop} {le : α → α → Prop} {cmp : α → α → Option Int}
theorem Cmp.refl {β : Type} {ok : β → Prop} {le : β → β → Prop} {cmp : β → β → Option Int} (C : Cmp ok le cmp) {x : β} (h : ok x) : le x x := by rcases C.total x x h h with h | h <;> exact h

theorem tS (C : Cmp ok le cmp) {l : List α} (ho : Oks ok l) (hs : Srt le l) {i j : Nat} (hij : i ≤ j) (hj : j < l.length) : le (l.getD i default) (l.getD j default) := by
  rcases Nat.lt_or_eq_of_le hij with h | h
  · have := List.pairwise_iff_getElem.1 hs i j (by omega) hj h
    simpa [List.getD_eq_getElem?_getD, List.getElem?_eq_getElem hj, List.getElem?_eq_getElem (show i < l.length by omega)] using this
  · subst h; exact C.refl (ho _ (dM hj))

theorem SJ {β : Type} {le : β → β → Prop} {l : List β} (h : Srt le l) (t : Nat) : Srt le (l.take t) := List.Pairwise.sublist (List.take_sublist t l) h

theorem VL {β : Type} {le : β → β → Prop} {l : List β} (h : Srt le l) (t : Nat) : Srt le (l.drop t) := List.Pairwise.sublist (List.drop_sublist t l) h

theorem UN {β : Type} {body : (List β × Int × Int) → Option ((List β × Int × Int) ⊕ (List β × Int))} {d : List β} {f : Nat → Prop} {lo hi : Nat}
    (hb : ∀ i j : Nat, lo ≤ i → i < j → j ≤ hi → ∃ t : Bool, (t = true ↔ f ((i + j) / 2)) ∧ body (d, (i : Int), (j : Int)) = some (.inl (if t then (d, (((i + j) / 2 + 1 : Nat) : Int), (j : Int)) else (d, (i : Int), (((i + j) / 2 : Nat) : Int)))))
    (he : ∀ i : Nat, body (d, (i : Int), (i : Int)) = some (.inr (d, (i : Int)))) :
    ∀ (n i j : Nat), j - i ≤ n → lo ≤ i → i ≤ j → j ≤ hi → (i = lo ∨ f (i - 1)) → (j = hi ∨ ¬ f j) → ∃ s, lo ≤ s ∧ s ≤ hi ∧ (s = lo ∨ f (s - 1)) ∧ (s = hi ∨ ¬ f s) ∧ lp body (d, (i : Int), (j : Int)) = some (d, ((s : Nat) : Int)) := by
  intro n
  induction n with
  | zero =>
    intro i j hn h1 h2 h3 h4 h5
    have : i = j := by omega
    subst this
    exact ⟨i, h1, h3, h4, h5, cM (he i)⟩
  | succ n ih =>
    intro i j hn h1 h2 h3 h4 h5
    by_cases hij : i = j
    · subst hij; exact ⟨i, h1, h3, h4, h5, cM (he i)⟩
    · obtain ⟨t, ht, hbt⟩ := hb i j h1 (by omega) h3
      cases t
      · obtain ⟨s, r1, r2, r3, r4, r5⟩ := ih i ((i + j) / 2) (by omega) h1 (by omega) (by omega) h4 (Or.inr (fun h => by have := ht.2 h; cases this))
        refine ⟨s, r1, r2, r3, r4, ?_⟩
        rw [dL hbt]; exact r5
      · obtain ⟨s, r1, r2, r3, r4, r5⟩ := ih ((i + j) / 2 + 1) j (by omega) (by omega) (by omega) h3 (Or.inr (by simpa using ht.1 rfl)) h5
        refine ⟨s, r1, r2, r3, r4, ?_⟩
        rw [dL hbt]; exact r5

def NP (le : α → α → Prop) (P A B S r : List α) : Prop := ∃ D, D.Perm (A ++ B) ∧ Srt le D ∧ r = P ++ D ++ S

theorem aBU {cmp : α → α → Option Int} {rec : List α → Int → Int → Int → Option (List α)} {e : Int} {x : α} : ∀ (B Q R : List α) (k : Nat), k = Q.length → e = ((Q.length + B.length + 1 : Nat) : Int) → (Q ++ x :: B ++ R).length ≤ 1099511627776 →
    lp (fun s : List α × Int => nV cmp rec e s.1 s.2) (Q ++ x :: B ++ R, (k : Int)) = some (Q ++ B ++ x :: R)
  | [], Q, R, k, hk, he, hl => by
    simp only [List.length_append, List.length_cons, List.length_nil] at hl he
    refine cM ?_
    show nV cmp rec e _ _ = _
    have : decide ((k : Int) < IntKind.i64.wrap (e - 1)) = false := by rw [wr (by omega) (by omega)]; simp; omega
    simp only [nV, this, cond_false]
    simp
  | y :: B, Q, R, k, hk, he, hl => by
    simp only [List.length_append, List.length_cons] at hl he
    have h1 : decide ((k : Int) < IntKind.i64.wrap (e - 1)) = true := by rw [wr (by omega) (by omega)]; simp; omega
    have hw : IntKind.i64.wrap ((k : Int) + 1) = ((k + 1 : Nat) : Int) := by rw [wr (by omega) (by omega)]; omega
    have b1 : 0 ≤ (k : Int) ∧ (k : Int) < ((List.length (Q ++ x :: y :: B ++ R) : Nat) : Int) := ⟨by omega, by simp only [List.length_append, List.length_cons]; omega⟩
    have b2 : 0 ≤ ((k + 1 : Nat) : Int) ∧ ((k + 1 : Nat) : Int) < ((List.length (Q ++ x :: y :: B ++ R) : Nat) : Int) := ⟨by omega, by simp only [List.length_append, List.length_cons]; omega⟩
    have hd : Q ++ x :: y :: B ++ R = Q ++ x :: ([] ++ y :: (B ++ R)) := by simp
    have g1 : (Q ++ x :: y :: B ++ R).getD k default = x := qQ hd hk
    have g2 : (Q ++ x :: y :: B ++ R).getD (k + 1) default = y := qQ (Q := Q ++ [x]) (R := B ++ R) (by simp) (by simp; omega)
    have hb : (fun s : List α × Int => nV cmp rec e s.1 s.2) (Q ++ x :: y :: B ++ R, (k : Int)) = some (.inl ((Q ++ [y]) ++ x :: B ++ R, ((k + 1 : Nat) : Int))) := by
      show nV cmp rec e _ _ = _
      simp only [nV, h1, cond_true, hw, bA b1, bA b2, Int.toNat_natCast, g1, g2]
      rw [SK (M := []) hd hk (by simp; omega)]
      simp
    rw [dL hb, aBU B (Q ++ [y]) R (k + 1) (by simp; omega) (by rw [he]; simp only [List.length_append, List.length_cons, List.length_nil]; congr 1; omega) (by simp only [List.length_append, List.length_cons, List.length_nil]; omega)]
    simp

theorem aCa {cmp : α → α → Option Int} {rec : List α → Int → Int → Int → Option (List α)} {e : Int} {x : α} {Q : List α} (he : e = (Q.length : Nat)) : ∀ (n : Nat) (A R : List α) (k : Nat), A.length = n → k = Q.length + A.length → (Q ++ A ++ x :: R).length ≤ 1099511627776 →
    lp (fun s : List α × Int => oD cmp rec e s.1 s.2) (Q ++ A ++ x :: R, (k : Int)) = some (Q ++ x :: A ++ R) := by
  intro n
  induction n with
  | zero =>
    intro A R k hn hk hl
    have hA : A = [] := List.length_eq_zero_iff.1 hn
    subst hA
    refine cM ?_
    show oD cmp rec e _ _ = _
    have : decide (e < (k : Int)) = false := by simp only [List.length_nil] at hk; simp; omega
    simp only [oD, this, cond_false]
    simp
  | succ n ih =>
    intro A R k hn hk hl
    obtain ⟨A', y, rfl⟩ : ∃ A' y, A = A' ++ [y] := by
      rcases List.eq_nil_or_concat A with h | ⟨A', y, h⟩
      · rw [h] at hn; simp at hn
      · exact ⟨A', y, by simpa using h⟩
    simp only [List.length_append, List.length_cons, List.length_nil] at hl hk hn
    have h1 : decide (e < (k : Int)) = true := by simp; omega
    have hw : IntKind.i64.wrap ((k : Int) - 1) = ((Q.length + A'.length : Nat) : Int) := by rw [wr (by omega) (by omega)]; omega
    have b1 : 0 ≤ (k : Int) ∧ (k : Int) < ((List.length (Q ++ (A' ++ [y]) ++ x :: R) : Nat) : Int) := ⟨by omega, by simp only [List.length_append, List.length_cons, List.length_nil]; omega⟩
    have b2 : 0 ≤ ((Q.length + A'.length : Nat) : Int) ∧ ((Q.length + A'.length : Nat) : Int) < ((List.length (Q ++ (A' ++ [y]) ++ x :: R) : Nat) : Int) := ⟨by omega, by simp only [List.length_append, List.length_cons, List.length_nil]; omega⟩
    have g1 : (Q ++ (A' ++ [y]) ++ x :: R).getD k default = x := qQ (Q := Q ++ (A' ++ [y])) rfl (by simp; omega)
    have g2 : (Q ++ (A' ++ [y]) ++ x :: R).getD (Q.length + A'.length) default = y := qQ (Q := Q ++ A') (R := x :: R) (by simp) (by simp)
    have hb : (fun s : List α × Int => oD cmp rec e s.1 s.2) (Q ++ (A' ++ [y]) ++ x :: R, (k : Int)) = some (.inl (Q ++ A' ++ x :: (y :: R), ((Q.length + A'.length : Nat) : Int))) := by
      show oD cmp rec e _ _ = _
      simp only [oD, h1, cond_true, hw, bA b1, bA b2, Int.toNat_natCast, g1, g2]
      rw [GP (Q := Q ++ (A' ++ [y])) (x := x) (R := R) rfl (by simp; omega), GP (Q := Q ++ A') (x := y) (R := y :: R) (by simp) (by simp)]
    rw [dL hb, ih A' (y :: R) (Q.length + A'.length) (by omega) rfl (by simp only [List.length_append, List.length_cons]; omega)]
    simp

def XT (cmp : α → α → Option Int) (le : α → α → Prop) (P A B S : List α) (d : List α) (a m b : Int) : Prop :=
  (∃ r, NP le P A B S r ∧ ∀ rec, eE cmp rec d a m b = some r) ∨
  (∃ A1 A2 B1 B2, A = A1 ++ A2 ∧ B = B1 ++ B2 ∧ 0 < A1.length + B1.length ∧ 0 < A2.length + B2.length ∧ (∀ x ∈ A1 ++ B1, ∀ y ∈ A2 ++ B2, le x y) ∧
    ∀ rec, eE cmp rec d a m b = (cond (decide (A1 ≠ [] ∧ B1 ≠ [])) (rec (P ++ A1 ++ B1 ++ A2 ++ B2 ++ S) a (a + (A1.length : Nat)) (a + ((A1.length + B1.length : Nat) : Int))) (some (P ++ A1 ++ B1 ++ A2 ++ B2 ++ S))).bind fun x =>
      cond (decide (A2 ≠ [] ∧ B2 ≠ [])) (rec x (a + ((A1.length + B1.length : Nat) : Int)) (a + ((A1.length + B1.length + A2.length : Nat) : Int)) b) (some x))

theorem aA0 (C : Cmp ok le cmp) {P B S : List α} {x : α} {a m b : Int} (hx : ok x) (hB : Oks ok B) (hs : Srt le B) (ha : a = (P.length : Nat)) (hm : m = ((P.length + 1 : Nat) : Int)) (hb : b = ((P.length + 1 + B.length : Nat) : Int)) (hl : (P ++ x :: B ++ S).length ≤ 1099511627776) :
    ∃ r, NP le P [x] B S r ∧ ∀ rec, eE cmp rec (P ++ x :: B ++ S) a m b = some r := by
  have hl' := hl
  simp only [List.length_append, List.length_cons] at hl'
  have hgx : (P ++ x :: B ++ S).getD P.length default = x := qQ (Q := P) (R := B ++ S) (by simp) rfl
  have hgb : ∀ k, k < B.length → (P ++ x :: B ++ S).getD (P.length + 1 + k) default = B.getD k default := fun k hk => HP (P := P ++ [x]) (B := B) (S := S) (by simp) (by simp) hk
  have hbin : ∀ rec, ∃ s : Nat, P.length + 1 ≤ s ∧ s ≤ P.length + 1 + B.length ∧ (s = P.length + 1 ∨ ¬ le x (B.getD (s - 1 - (P.length + 1)) default)) ∧ (s = P.length + 1 + B.length ∨ ¬ ¬ le x (B.getD (s - (P.length + 1)) default)) ∧
      lp (fun s : List α × Int × Int => oC cmp rec a s.1 s.2.1 s.2.2) (P ++ x :: B ++ S, m, b) = some (P ++ x :: B ++ S, ((s : Nat) : Int)) := by
    intro rec
    rw [hm, hb]
    refine UN (lo := P.length + 1) (hi := P.length + 1 + B.length) (f := fun k => ¬ le x (B.getD (k - (P.length + 1)) default)) ?_ ?_ _ _ _ (Nat.le_refl _) (Nat.le_refl _) (by omega) (Nat.le_refl _) (Or.inl rfl) (Or.inl rfl)
    · intro i j h1 h2 h3
      have hh : (i + j) / 2 - (P.length + 1) < B.length := by omega
      have e1 : (P ++ x :: B ++ S).getD ((i + j) / 2) default = B.getD ((i + j) / 2 - (P.length + 1)) default := by
        have := hgb ((i + j) / 2 - (P.length + 1)) hh
        rwa [show P.length + 1 + ((i + j) / 2 - (P.length + 1)) = (i + j) / 2 by omega] at this
      obtain ⟨v, hc, hv⟩ := C.ans _ x (hB _ (dM hh)) hx
      refine ⟨decide (v < 0), by simpa using hv, ?_⟩
      show oC cmp rec a _ _ _ = _
      have hlt : decide ((i : Int) < (j : Int)) = true := by simpa using h2
      have hadd : ((i : Int) + (j : Int)) = ((i + j : Nat) : Int) := by omega
      have w1 : IntKind.i64.wrap ((((i + j) / 2 : Nat) : Int) + 1) = (((i + j) / 2 + 1 : Nat) : Int) := by rw [wr (by omega) (by omega)]; omega
      simp only [oC, hlt, cond_true, hadd, half (s := i + j) (by omega), Int.toNat_natCast, ha, e1, hgx, hc, Option.bind_some, w1]
      rw [bA (by omega), bA ⟨by omega, by simp only [List.length_append, List.length_cons]; omega⟩, bA ⟨by omega, by simp only [List.length_append, List.length_cons]; omega⟩]
      by_cases hneg : v < 0 <;> simp [hneg]
    · intro i
      show oC cmp rec a _ _ _ = _
      have hlt : decide ((i : Int) < (i : Int)) = false := by simp
      simp only [oC, hlt, cond_false]
  obtain ⟨s, s1, s2, s3, s4, s5⟩ := hbin (fun _ _ _ _ => none)
  obtain ⟨t, rfl⟩ : ∃ t, s = P.length + 1 + t := ⟨s - (P.length + 1), by omega⟩
  have ht : t ≤ B.length := by omega
  have hx1 : ∀ i, i < t → le (B.getD i default) x := fun i hi => by
    have h3 : ¬ le x (B.getD (t - 1) default) := by
      rcases s3 with h | h
      · omega
      · rwa [show P.length + 1 + t - 1 - (P.length + 1) = t - 1 by omega] at h
    have h4 : le (B.getD (t - 1) default) x := by
      rcases C.total x _ hx (hB _ (dM (show t - 1 < B.length by omega))) with h | h
      · exact absurd h h3
      · exact h
    exact C.trans _ _ _ (hB _ (dM (by omega))) (hB _ (dM (by omega))) hx (tS C hB hs (show i ≤ t - 1 by omega) (by omega)) h4
  have hx2 : ∀ j, t ≤ j → j < B.length → le x (B.getD j default) := fun j hj hj' => by
    have h3 : le x (B.getD t default) := by
      rcases s4 with h | h
      · omega
      · rw [show P.length + 1 + t - (P.length + 1) = t by omega] at h
        exact Classical.not_not.1 h
    exact C.trans _ _ _ hx (hB _ (dM (by omega))) (hB _ (dM hj')) h3 (tS C hB hs hj hj')
  have hBs : B.take t ++ B.drop t = B := List.take_append_drop t B
  have hlt : (B.take t).length = t := by rw [List.length_take]; omega
  refine ⟨P ++ (B.take t ++ x :: B.drop t) ++ S, ⟨_, ?_, ?_, rfl⟩, fun rec => ?_⟩
  · have := List.perm_middle (a := x) (l₁ := B.take t) (l₂ := B.drop t)
    rw [hBs] at this; exact this
  · simp only [Srt, List.pairwise_append, List.pairwise_cons]
    refine ⟨SJ hs t, ⟨fun z hz => ?_, VL hs t⟩, fun y hy z hz => ?_⟩
    · obtain ⟨j, j1, j2, rfl⟩ := vX hz
      exact hx2 j j1 j2
    · obtain ⟨i, i1, i2, rfl⟩ := HG hy
      rcases List.mem_cons.1 hz with rfl | hz
      · exact hx1 i i1
      · obtain ⟨j, j1, j2, rfl⟩ := vX hz
        exact tS C hB hs (by omega) j2
  · have h1 : decide (IntKind.i64.wrap (m - a) = 1) = true := by rw [wr (by omega) (by omega)]; simp; omega
    have s5' : lp (fun s : List α × Int × Int => oC cmp rec a s.1 s.2.1 s.2.2) (P ++ x :: B ++ S, m, b) = some (P ++ x :: B ++ S, ((P.length + 1 + t : Nat) : Int)) := s5
    simp only [eE, h1, cond_true, GF, s5', Option.bind_some, FZ, GA]
    have hmv := aBU (cmp := cmp) (rec := rec) (e := ((P.length + 1 + t : Nat) : Int)) (x := x) (B.take t) P (B.drop t ++ S) P.length rfl (by rw [hlt]; congr 1; omega) (by simp only [List.length_append, List.length_cons, List.length_drop]; omega)
    have hd : P ++ x :: B.take t ++ (B.drop t ++ S) = P ++ x :: B ++ S := by
      have : P ++ x :: B.take t ++ (B.drop t ++ S) = P ++ x :: (B.take t ++ B.drop t) ++ S := by simp only [List.append_assoc, List.cons_append]
      rw [this, hBs]
    rw [hd] at hmv
    rw [ha, hmv]
    simp [GG]

theorem aBt (C : Cmp ok le cmp) {P A S : List α} {x : α} {a m b : Int} (hx : ok x) (hA : Oks ok A) (hs : Srt le A) (hA1 : A.length ≠ 1) (ha : a = (P.length : Nat)) (hm : m = ((P.length + A.length : Nat) : Int)) (hb : b = ((P.length + A.length + 1 : Nat) : Int)) (hl : (P ++ A ++ x :: S).length ≤ 1099511627776) :
    ∃ r, NP le P A [x] S r ∧ ∀ rec, eE cmp rec (P ++ A ++ x :: S) a m b = some r := by
  have hl' := hl
  simp only [List.length_append, List.length_cons] at hl'
  have hgx : (P ++ A ++ x :: S).getD (P.length + A.length) default = x := qQ (Q := P ++ A) (R := S) rfl (by simp)
  have hga : ∀ k, k < A.length → (P ++ A ++ x :: S).getD (P.length + k) default = A.getD k default := fun k hk => HP (P := P) (B := A) (S := x :: S) rfl rfl hk
  have hbin : ∀ rec, ∃ s : Nat, P.length ≤ s ∧ s ≤ P.length + A.length ∧ (s = P.length ∨ le (A.getD (s - 1 - P.length) default) x) ∧ (s = P.length + A.length ∨ ¬ le (A.getD (s - P.length) default) x) ∧
      lp (fun s : List α × Int × Int => nT cmp rec m s.1 s.2.1 s.2.2) (P ++ A ++ x :: S, a, m) = some (P ++ A ++ x :: S, ((s : Nat) : Int)) := by
    intro rec
    rw [ha, hm]
    refine UN (lo := P.length) (hi := P.length + A.length) (f := fun k => le (A.getD (k - P.length) default) x) ?_ ?_ _ _ _ (Nat.le_refl _) (Nat.le_refl _) (by omega) (Nat.le_refl _) (Or.inl rfl) (Or.inl rfl)
    · intro i j h1 h2 h3
      have hh : (i + j) / 2 - P.length < A.length := by omega
      have e1 : (P ++ A ++ x :: S).getD ((i + j) / 2) default = A.getD ((i + j) / 2 - P.length) default := by
        have := hga ((i + j) / 2 - P.length) hh
        rwa [show P.length + ((i + j) / 2 - P.length) = (i + j) / 2 by omega] at this
      obtain ⟨v, hc, hv⟩ := C.ans x _ hx (hA _ (dM hh))
      refine ⟨!decide (v < 0), by simp only [Bool.not_eq_true', decide_eq_false_iff_not, hv, Classical.not_not], ?_⟩
      show nT cmp rec _ _ _ _ = _
      have hlt : decide ((i : Int) < (j : Int)) = true := by simpa using h2
      have hadd : ((i : Int) + (j : Int)) = ((i + j : Nat) : Int) := by omega
      have w1 : IntKind.i64.wrap ((((i + j) / 2 : Nat) : Int) + 1) = (((i + j) / 2 + 1 : Nat) : Int) := by rw [wr (by omega) (by omega)]; omega
      simp only [nT, hlt, cond_true, hadd, half (s := i + j) (by omega), Int.toNat_natCast, e1, hgx, hc, Option.bind_some, w1]
      rw [bA (by omega), bA ⟨by omega, by simp only [List.length_append, List.length_cons]; omega⟩, bA ⟨by omega, by simp only [List.length_append, List.length_cons]; omega⟩]
      by_cases hneg : v < 0 <;> simp [hneg]
    · intro i
      show nT cmp rec _ _ _ _ = _
      have hlt : decide ((i : Int) < (i : Int)) = false := by simp
      simp only [nT, hlt, cond_false]
  obtain ⟨s, s1, s2, s3, s4, s5⟩ := hbin (fun _ _ _ _ => none)
  obtain ⟨t, rfl⟩ : ∃ t, s = P.length + t := ⟨s - P.length, by omega⟩
  have ht : t ≤ A.length := by omega
  have hx1 : ∀ i, i < t → le (A.getD i default) x := fun i hi => by
    have h4 : le (A.getD (t - 1) default) x := by
      rcases s3 with h | h
      · omega
      · rwa [show P.length + t - 1 - P.length = t - 1 by omega] at h
    exact C.trans _ _ _ (hA _ (dM (by omega))) (hA _ (dM (by omega))) hx (tS C hA hs (show i ≤ t - 1 by omega) (by omega)) h4
  have hx2 : ∀ j, t ≤ j → j < A.length → le x (A.getD j default) := fun j hj hj' => by
    have h3 : le x (A.getD t default) := by
      rcases s4 with h | h
      · omega
      · rw [show P.length + t - P.length = t by omega] at h
        rcases C.total x _ hx (hA _ (dM (show t < A.length by omega))) with h' | h'
        · exact h'
        · exact absurd h' h
    exact C.trans _ _ _ hx (hA _ (dM (by omega))) (hA _ (dM hj')) h3 (tS C hA hs hj hj')
  have hAs : A.take t ++ A.drop t = A := List.take_append_drop t A
  have hlt : (A.take t).length = t := by rw [List.length_take]; omega
  refine ⟨P ++ (A.take t ++ x :: A.drop t) ++ S, ⟨_, ?_, ?_, rfl⟩, fun rec => ?_⟩
  · have := List.perm_middle (a := x) (l₁ := A.take t) (l₂ := A.drop t)
    rw [hAs] at this
    exact this.trans (by simpa using (List.perm_append_comm (l₁ := [x]) (l₂ := A)))
  · simp only [Srt, List.pairwise_append, List.pairwise_cons]
    refine ⟨SJ hs t, ⟨fun z hz => ?_, VL hs t⟩, fun y hy z hz => ?_⟩
    · obtain ⟨j, j1, j2, rfl⟩ := vX hz
      exact hx2 j j1 j2
    · obtain ⟨i, i1, i2, rfl⟩ := HG hy
      rcases List.mem_cons.1 hz with rfl | hz
      · exact hx1 i i1
      · obtain ⟨j, j1, j2, rfl⟩ := vX hz
        exact tS C hA hs (by omega) j2
  · have h1 : decide (IntKind.i64.wrap (m - a) = 1) = false := by rw [wr (by omega) (by omega)]; simp; omega
    have h2 : decide (IntKind.i64.wrap (b - m) = 1) = true := by rw [wr (by omega) (by omega)]; simp; omega
    have s5' : lp (fun s : List α × Int × Int => nT cmp rec m s.1 s.2.1 s.2.2) (P ++ A ++ x :: S, a, m) = some (P ++ A ++ x :: S, ((P.length + t : Nat) : Int)) := s5
    simp only [eE, h1, cond_false, CR, h2, cond_true, FY, s5', Option.bind_some, HY, GO]
    have hmv := aCa (cmp := cmp) (rec := rec) (e := ((P.length + t : Nat) : Int)) (x := x) (Q := P ++ A.take t) (by simp [hlt]) (A.drop t).length (A.drop t) S (P.length + A.length) rfl (by simp only [List.length_append, List.length_drop, hlt]; omega) (by simp only [List.length_append, List.length_cons, List.length_drop, hlt]; omega)
    have hd : P ++ A.take t ++ A.drop t ++ x :: S = P ++ A ++ x :: S := by
      have : P ++ A.take t ++ A.drop t ++ x :: S = P ++ (A.take t ++ A.drop t) ++ x :: S := by simp only [List.append_assoc]
      rw [this, hAs]
    rw [hd] at hmv
    rw [hm, hmv]
    simp [IE]

theorem aCA (C : Cmp ok le cmp) {P A B S : List α} {a m b : Int} (hA : Oks ok A) (hB : Oks ok B) (hsA : Srt le A) (hsB : Srt le B) (hA2 : 2 ≤ A.length) (hB2 : 2 ≤ B.length)
    (ha : a = (P.length : Nat)) (hm : m = ((P.length + A.length : Nat) : Int)) (hb : b = ((P.length + A.length + B.length : Nat) : Int)) (hl : (P ++ A ++ B ++ S).length ≤ 1099511627776) :
    XT cmp le P A B S (P ++ A ++ B ++ S) a m b := by
  right
  have hl' := hl
  simp only [List.length_append] at hl'
  -- the middle
  obtain ⟨mid, hmid⟩ : ∃ mid : Nat, mid = (P.length + (P.length + A.length + B.length)) / 2 := ⟨_, rfl⟩
  have hga : ∀ k, P.length ≤ k → k < P.length + A.length → (P ++ A ++ B ++ S).getD k default = A.getD (k - P.length) default := fun k h1 h2 => HP (P := P) (B := A) (S := B ++ S) (by simp) (by omega) (by omega)
  have hgb : ∀ k, P.length + A.length ≤ k → k < P.length + A.length + B.length → (P ++ A ++ B ++ S).getD k default = B.getD (k - (P.length + A.length)) default := fun k h1 h2 => HP (P := P ++ A) (B := B) (S := S) (by simp) (by simp; omega) (by omega)
  -- the search
  obtain ⟨lo, hi, hlo, hhi, hbnd, hlohi, hrange, hinit⟩ : ∃ lo hi : Nat, (lo = P.length ∨ lo + (P.length + A.length + B.length) = mid + (P.length + A.length)) ∧ (hi = P.length + A.length ∨ hi = mid) ∧ (P.length ≤ lo ∧ mid + (P.length + A.length) ≤ lo + (P.length + A.length + B.length) ∧ hi ≤ P.length + A.length ∧ hi ≤ mid) ∧ lo ≤ hi ∧
      (∀ c, lo ≤ c → c < hi → P.length ≤ c ∧ c < P.length + A.length ∧ P.length + A.length ≤ mid + (P.length + A.length) - 1 - c ∧ mid + (P.length + A.length) - 1 - c < P.length + A.length + B.length) ∧
      (∀ rec, zH cmp rec (P ++ A ++ B ++ S) a m b = zB cmp rec (P ++ A ++ B ++ S) a m b (mid : Int) ((mid + (P.length + A.length) : Nat) : Int) (lo : Int) (hi : Int)) := by
    have hw0 : IntKind.i64.wrap (Int.fdiv (IntKind.u64.wrap (IntKind.i64.wrap (a + b))) (2 ^ (min (Int.toNat (1 : Int)) 64))) = ((mid : Nat) : Int) := by
      rw [show a + b = ((P.length + (P.length + A.length + B.length) : Nat) : Int) by omega, half (by omega), hmid]
    have hw1 : IntKind.i64.wrap ((mid : Int) + m) = ((mid + (P.length + A.length) : Nat) : Int) := by rw [wr (by omega) (by omega)]; omega
    by_cases hc : mid < P.length + A.length
    · refine ⟨mid + (P.length + A.length) - (P.length + A.length + B.length), mid, Or.inr (by omega), Or.inr (by omega), by omega, by omega, fun c h1 h2 => ⟨by omega, by omega, by omega, by omega⟩, fun rec => ?_⟩
      have hlt : decide ((mid : Int) < m) = true := by simp; omega
      simp only [zH, hw0, hlt, cond_true, hw1]
      rw [bA (by omega), show IntKind.i64.wrap (((mid + (P.length + A.length) : Nat) : Int) - b) = ((mid + (P.length + A.length) - (P.length + A.length + B.length) : Nat) : Int) by rw [wr (by omega) (by omega)]; omega]
    · refine ⟨P.length, P.length + A.length, Or.inl rfl, Or.inl rfl, by omega, by omega, fun c h1 h2 => ⟨by omega, by omega, by omega, by omega⟩, fun rec => ?_⟩
      have hlt : decide ((mid : Int) < m) = false := by simp; omega
      simp only [zH, hw0, hlt, cond_false, hw1]
      rw [bA (by omega)]
      rw [ha, hm]
  have hbin : ∀ rec, ∃ s : Nat, lo ≤ s ∧ s ≤ hi ∧ (s = lo ∨ le (A.getD (s - 1 - P.length) default) (B.getD (mid + (P.length + A.length) - 1 - (s - 1) - (P.length + A.length)) default)) ∧ (s = hi ∨ ¬ le (A.getD (s - P.length) default) (B.getD (mid + (P.length + A.length) - 1 - s - (P.length + A.length)) default)) ∧
      lp (fun s : List α × Int × Int => pE cmp rec a m b (mid : Int) ((mid + (P.length + A.length) : Nat) : Int) ((mid + (P.length + A.length) - 1 : Nat) : Int) s.1 s.2.1 s.2.2) (P ++ A ++ B ++ S, (lo : Int), (hi : Int)) = some (P ++ A ++ B ++ S, ((s : Nat) : Int)) := by
    intro rec
    refine UN (lo := lo) (hi := hi) (f := fun k => le (A.getD (k - P.length) default) (B.getD (mid + (P.length + A.length) - 1 - k - (P.length + A.length)) default)) ?_ ?_ _ _ _ (Nat.le_refl _) (Nat.le_refl _) hlohi (Nat.le_refl _) (Or.inl rfl) (Or.inl rfl)
    · intro i j h1 h2 h3
      obtain ⟨r1, r2, r3, r4⟩ := hrange ((i + j) / 2) (by omega) (by omega)
      have e1 := hga ((i + j) / 2) r1 r2
      have e2 := hgb (mid + (P.length + A.length) - 1 - (i + j) / 2) r3 r4
      obtain ⟨v, hc, hv⟩ := C.ans (B.getD (mid + (P.length + A.length) - 1 - (i + j) / 2 - (P.length + A.length)) default) (A.getD ((i + j) / 2 - P.length) default) (hB _ (dM (by omega))) (hA _ (dM (by omega)))
      refine ⟨!decide (v < 0), by simp only [Bool.not_eq_true', decide_eq_false_iff_not, hv, Classical.not_not], ?_⟩
      show pE cmp rec _ _ _ _ _ _ _ _ _ = _
      have hlt : decide ((i : Int) < (j : Int)) = true := by simpa using h2
      have hadd : ((i : Int) + (j : Int)) = ((i + j : Nat) : Int) := by omega
      have w1 : IntKind.i64.wrap ((((i + j) / 2 : Nat) : Int) + 1) = (((i + j) / 2 + 1 : Nat) : Int) := by rw [wr (by omega) (by omega)]; omega
      have w2 : IntKind.i64.wrap (((mid + (P.length + A.length) - 1 : Nat) : Int) - (((i + j) / 2 : Nat) : Int)) = ((mid + (P.length + A.length) - 1 - (i + j) / 2 : Nat) : Int) := by rw [wr (by omega) (by omega)]; omega
      simp only [pE, hlt, cond_true, hadd, half (s := i + j) (by omega), w1, w2, Int.toNat_natCast, e1, e2, hc, Option.bind_some]
      rw [bA (by omega), bA ⟨by omega, by simp only [List.length_append]; omega⟩, bA ⟨by omega, by simp only [List.length_append]; omega⟩]
      by_cases hneg : v < 0 <;> simp [hneg]
    · intro i
      show pE cmp rec _ _ _ _ _ _ _ _ _ = _
      have hlt : decide ((i : Int) < (i : Int)) = false := by simp
      simp only [pE, hlt, cond_false]
  obtain ⟨s, s1, s2, s3, s4, s5⟩ := hbin (fun _ _ _ _ => none)
  have hsA0 : P.length ≤ s ∧ s ≤ P.length + A.length := by
    omega
  have hsB0 : P.length + A.length ≤ mid + (P.length + A.length) - s ∧ mid + (P.length + A.length) - s ≤ P.length + A.length + B.length := by
    omega
  obtain ⟨t, rfl⟩ : ∃ t, s = P.length + t := ⟨s - P.length, by omega⟩
  obtain ⟨u, hu⟩ : ∃ u, mid + (P.length + A.length) - (P.length + t) = P.length + A.length + u := ⟨mid + (P.length + A.length) - (P.length + t) - (P.length + A.length), by omega⟩
  have htA : t ≤ A.length := by omega
  have huB : u ≤ B.length := by omega
  have hmtu : mid = P.length + t + u := by omega
  have hAs : A.take t ++ A.drop t = A := List.take_append_drop t A
  have hBs : B.take u ++ B.drop u = B := List.take_append_drop u B
  have hlA1 : (A.take t).length = t := by rw [List.length_take]; omega
  have hlA2 : (A.drop t).length = A.length - t := by rw [List.length_drop]
  have hlB1 : (B.take u).length = u := by rw [List.length_take]; omega
  have hlB2 : (B.drop u).length = B.length - u := by rw [List.length_drop]
  refine ⟨A.take t, A.drop t, B.take u, B.drop u, hAs.symm, hBs.symm, by rw [hlA1, hlB1]; omega, by rw [hlA2, hlB2]; omega, ?_, fun rec => ?_⟩
  · -- who stands ahead of whom
    intro x hx y hy
    rcases List.mem_append.1 hx with hx | hx
    · obtain ⟨i, i1, i2, rfl⟩ := HG hx
      rcases List.mem_append.1 hy with hy | hy
      · obtain ⟨j, j1, j2, rfl⟩ := vX hy
        exact tS C hA hsA (by omega) j2
      · obtain ⟨j, j1, j2, rfl⟩ := vX hy
        have h3 : le (A.getD (t - 1) default) (B.getD u default) := by
          rcases s3 with h | h
          · rcases hlo with h' | h' <;> omega
          · rwa [show P.length + t - 1 - P.length = t - 1 by omega, show mid + (P.length + A.length) - 1 - (P.length + t - 1) - (P.length + A.length) = u by omega] at h
        exact C.trans _ _ _ (hA _ (dM i2)) (hA _ (dM (by omega))) (hB _ (dM j2)) (tS C hA hsA (show i ≤ t - 1 by omega) (by omega))
          (C.trans _ _ _ (hA _ (dM (by omega))) (hB _ (dM (by omega))) (hB _ (dM j2)) h3 (tS C hB hsB j1 j2))
    · obtain ⟨i, i1, i2, rfl⟩ := HG hx
      rcases List.mem_append.1 hy with hy | hy
      · obtain ⟨j, j1, j2, rfl⟩ := vX hy
        have h3 : le (B.getD (u - 1) default) (A.getD t default) := by
          have h0 : ¬ le (A.getD t default) (B.getD (u - 1) default) := by
            rcases s4 with h | h
            · rcases hhi with h' | h' <;> omega
            · rwa [show P.length + t - P.length = t by omega, show mid + (P.length + A.length) - 1 - (P.length + t) - (P.length + A.length) = u - 1 by omega] at h
          rcases C.total _ _ (hA _ (dM (show t < A.length by omega))) (hB _ (dM (show u - 1 < B.length by omega))) with h | h
          · exact absurd h h0
          · exact h
        exact C.trans _ _ _ (hB _ (dM i2)) (hB _ (dM (by omega))) (hA _ (dM j2)) (tS C hB hsB (show i ≤ u - 1 by omega) (by omega))
          (C.trans _ _ _ (hB _ (dM (by omega))) (hA _ (dM (by omega))) (hA _ (dM j2)) h3 (tS C hA hsA j1 j2))
      · obtain ⟨j, j1, j2, rfl⟩ := vX hy
        exact tS C hB hsB (by omega) j2
  · have h1 : decide (IntKind.i64.wrap (m - a) = 1) = false := by rw [wr (by omega) (by omega)]; simp; omega
    have h2 : decide (IntKind.i64.wrap (b - m) = 1) = false := by rw [wr (by omega) (by omega)]; simp; omega
    have s5' : lp (fun s : List α × Int × Int => pE cmp rec a m b (mid : Int) ((mid + (P.length + A.length) : Nat) : Int) ((mid + (P.length + A.length) - 1 : Nat) : Int) s.1 s.2.1 s.2.2) (P ++ A ++ B ++ S, (lo : Int), (hi : Int)) = some (P ++ A ++ B ++ S, ((P.length + t : Nat) : Int)) := s5
    have hp : IntKind.i64.wrap (((mid + (P.length + A.length) : Nat) : Int) - 1) = ((mid + (P.length + A.length) - 1 : Nat) : Int) := by rw [wr (by omega) (by omega)]; omega
    have he : IntKind.i64.wrap (((mid + (P.length + A.length) : Nat) : Int) - ((P.length + t : Nat) : Int)) = ((P.length + A.length + u : Nat) : Int) := by rw [wr (by omega) (by omega)]; omega
    simp only [eE, h1, cond_false, CR, h2, hinit rec, zB, IA, hp, s5', Option.bind_some, IF, he]
    -- the turn
    have hd : P ++ A ++ B ++ S = (P ++ A.take t) ++ A.drop t ++ B.take u ++ (B.drop u ++ S) := by
      have : (P ++ A.take t) ++ A.drop t ++ B.take u ++ (B.drop u ++ S) = P ++ (A.take t ++ A.drop t) ++ (B.take u ++ B.drop u) ++ S := by simp only [List.append_assoc]
      rw [this, hAs, hBs]
    have hrot : cond (decide (((P.length + t : Nat) : Int) < m) && decide (m < ((P.length + A.length + u : Nat) : Int)))
        ((ET (P ++ A ++ B ++ S) ((P.length + t : Nat) : Int) m ((P.length + A.length + u : Nat) : Int) cmp).bind fun x10 => qY cmp rec x10 a b (mid : Int) ((P.length + t : Nat) : Int) ((P.length + A.length + u : Nat) : Int))
        (qY cmp rec (P ++ A ++ B ++ S) a b (mid : Int) ((P.length + t : Nat) : Int) ((P.length + A.length + u : Nat) : Int))
        = qY cmp rec (P ++ A.take t ++ B.take u ++ A.drop t ++ B.drop u ++ S) a b (mid : Int) ((P.length + t : Nat) : Int) ((P.length + A.length + u : Nat) : Int) := by
      by_cases hc : t < A.length ∧ 0 < u
      · have : (decide (((P.length + t : Nat) : Int) < m) && decide (m < ((P.length + A.length + u : Nat) : Int))) = true := by simp; omega
        rw [this, cond_true, aCZ (Q := P ++ A.take t) (X := A.drop t) (Y := B.take u) (R := B.drop u ++ S) hd (fun h => by rw [h] at hlA2; simp at hlA2; omega) (fun h => by rw [h] at hlB1; simp at hlB1; omega)
          (by simp only [List.length_append, hlA1]) (by simp only [List.length_append, hlA1, hlA2]; rw [hm]; congr 1; omega) (by simp only [List.length_append, hlA1, hlA2, hlB1]; congr 1; omega) hl]
        simp
      · have : (decide (((P.length + t : Nat) : Int) < m) && decide (m < ((P.length + A.length + u : Nat) : Int))) = false := by
          rw [Bool.eq_false_iff]; intro h; simp at h; apply hc; omega
        rw [this, cond_false, hd]
        congr 1
        by_cases h0 : t < A.length
        · have : u = 0 := by omega
          subst this; simp
        · have hz : A.drop t = [] := List.drop_eq_nil_of_le (by omega)
          simp only [hz, List.append_nil, List.append_assoc, List.nil_append]
    rw [hrot]
    have hne1 : decide (A.take t ≠ [] ∧ B.take u ≠ []) = (decide (a < ((P.length + t : Nat) : Int)) && decide (((P.length + t : Nat) : Int) < (mid : Int))) := by
      have q1 : A.take t ≠ [] ↔ 0 < t := by rw [← List.length_pos_iff, hlA1]
      have q2 : B.take u ≠ [] ↔ 0 < u := by rw [← List.length_pos_iff, hlB1]
      rw [Bool.eq_iff_iff]; simp [q1, q2]; omega
    have hne2 : decide (A.drop t ≠ [] ∧ B.drop u ≠ []) = (decide ((mid : Int) < ((P.length + A.length + u : Nat) : Int)) && decide (((P.length + A.length + u : Nat) : Int) < b)) := by
      have q1 : A.drop t ≠ [] ↔ t < A.length := by rw [← List.length_pos_iff, hlA2]; omega
      have q2 : B.drop u ≠ [] ↔ u < B.length := by rw [← List.length_pos_iff, hlB2]; omega
      rw [Bool.eq_iff_iff]; simp [q1, q2]; omega
    rw [hne1, hne2, hlA1, hlB1, hlA2]
    have f1 : a + ((t : Nat) : Int) = ((P.length + t : Nat) : Int) := by omega
    have f2 : a + ((t + u : Nat) : Int) = (mid : Int) := by omega
    have f3 : a + ((t + u + (A.length - t) : Nat) : Int) = ((P.length + A.length + u : Nat) : Int) := by omega
    rw [f1, f2, f3]
    simp only [qY, CP]
    cases (decide (a < ((P.length + t : Nat) : Int)) && decide (((P.length + t : Nat) : Int) < (mid : Int))) <;> simp only [cond_true, cond_false, Option.bind_some, Option.bind_fun_some]

end sym
end Go.Abs
namespace Go.Abs
open Go
variable {α : Type} [Inhabited α] {ok : α → Prop} {le : α → α → Prop} {cmp : α → α → Option Int}
theorem aCe (C : Cmp ok le cmp) {P A B S : List α} {a m b : Int} (hA : A ≠ []) (hB : B ≠ []) (oA : Oks ok A) (oB : Oks ok B) (sA : Srt le A) (sB : Srt le B)
    (ha : a = (P.length : Nat)) (hm : m = ((P.length + A.length : Nat) : Int)) (hb : b = ((P.length + A.length + B.length : Nat) : Int)) (hl : (P ++ A ++ B ++ S).length ≤ 1099511627776) : XT cmp le P A B S (P ++ A ++ B ++ S) a m b := by
  by_cases h1 : A.length = 1
  · obtain ⟨x, rfl⟩ := List.length_eq_one_iff.1 h1
    left
    obtain ⟨r, h, h'⟩ := aA0 C (P := P) (S := S) (x := x) (oA x (by simp)) oB sB ha (by simpa using hm) (by simpa using hb) (by simpa using hl)
    exact ⟨r, h, fun rec => by have := h' rec; simpa using this⟩
  · by_cases h2 : B.length = 1
    · obtain ⟨x, rfl⟩ := List.length_eq_one_iff.1 h2
      left
      obtain ⟨r, h, h'⟩ := aBt C (P := P) (S := S) (x := x) (oB x (by simp)) oA sA h1 ha hm (by simpa using hb) (by simpa using hl)
      exact ⟨r, h, fun rec => by have := h' rec; simpa using this⟩
    · have p1 := List.length_pos_iff.2 hA
      have p2 := List.length_pos_iff.2 hB
      exact aCA C oA oB sA sB (by omega) (by omega) ha hm hb hl

theorem MJ (C : Cmp ok le cmp) : ∀ (k : Nat) (P A B S : List α) (a m b : Int), A ≠ [] → B ≠ [] → Oks ok A → Oks ok B → Srt le A → Srt le B →
    a = (P.length : Nat) → m = ((P.length + A.length : Nat) : Int) → b = ((P.length + A.length + B.length : Nat) : Int) → (P ++ A ++ B ++ S).length ≤ 1099511627776 →
    (∀ r, eJ cmp k (P ++ A ++ B ++ S) a m b = some r → NP le P A B S r) ∧ (A.length + B.length ≤ k → ∃ r, eJ cmp k (P ++ A ++ B ++ S) a m b = some r)
  | 0, P, A, B, S, a, m, b, hA, hB, oA, oB, sA, sB, ha, hm, hb, hl => by
    refine ⟨fun r h => by simp [eJ] at h, fun h => ?_⟩
    exact absurd (List.length_eq_zero_iff.1 (by omega)) hA
  | k + 1, P, A, B, S, a, m, b, hA, hB, oA, oB, sA, sB, ha, hm, hb, hl => by
    have part : ∀ (P' A' B' S' : List α) (a' m' b' : Int), Oks ok A' → Oks ok B' → Srt le A' → Srt le B' → a' = (P'.length : Nat) → m' = ((P'.length + A'.length : Nat) : Int) → b' = ((P'.length + A'.length + B'.length : Nat) : Int) → (P' ++ A' ++ B' ++ S').length ≤ 1099511627776 →
        (∀ r, cond (decide (A' ≠ [] ∧ B' ≠ [])) (eJ cmp k (P' ++ A' ++ B' ++ S') a' m' b') (some (P' ++ A' ++ B' ++ S')) = some r → NP le P' A' B' S' r) ∧
        (A'.length + B'.length ≤ k → ∃ r, cond (decide (A' ≠ [] ∧ B' ≠ [])) (eJ cmp k (P' ++ A' ++ B' ++ S') a' m' b') (some (P' ++ A' ++ B' ++ S')) = some r) := by
      intro P' A' B' S' a' m' b' oA' oB' sA' sB' ha' hm' hb' hl'
      by_cases h : A' ≠ [] ∧ B' ≠ []
      · rw [decide_eq_true h, cond_true]
        exact MJ C k P' A' B' S' a' m' b' h.1 h.2 oA' oB' sA' sB' ha' hm' hb' hl'
      · rw [decide_eq_false h, cond_false]
        refine ⟨fun r hr => ?_, fun _ => ⟨_, rfl⟩⟩
        cases hr
        refine ⟨A' ++ B', List.Perm.refl _, ?_, by simp⟩
        by_cases h1 : A' = []
        · subst h1; simpa using sB'
        · have h2 : B' = [] := Classical.byContradiction fun h2 => h ⟨h1, h2⟩
          subst h2; simpa using sA'
    rcases aCe C hA hB oA oB sA sB ha hm hb hl with ⟨r, hr, hs⟩ | ⟨A1, A2, B1, B2, rfl, rfl, p1, p2, hcross, hs⟩
    · have e : eJ cmp (k + 1) (P ++ A ++ B ++ S) a m b = some r := hs _
      exact ⟨fun r' h => by rw [e] at h; cases h; exact hr, fun _ => ⟨r, e⟩⟩
    · have e := hs (eJ cmp k)
      rw [show eE cmp (eJ cmp k) = eJ cmp (k + 1) from rfl] at e
      have q1 := part P A1 B1 (A2 ++ B2 ++ S) a (a + (A1.length : Nat)) (a + ((A1.length + B1.length : Nat) : Int)) (fun x hx => oA x (by simp [hx])) (fun x hx => oB x (by simp [hx]))
        (List.pairwise_append.1 sA).1 (List.pairwise_append.1 sB).1 ha (by omega) (by omega) (by simp only [List.length_append] at hl ⊢; omega)
      have hd1 : P ++ A1 ++ B1 ++ A2 ++ B2 ++ S = P ++ A1 ++ B1 ++ (A2 ++ B2 ++ S) := by simp
      rw [hd1] at e
      have q2 : ∀ D1 : List α, D1.Perm (A1 ++ B1) → _ := fun D1 hD1 => part (P ++ D1) A2 B2 S (a + ((A1.length + B1.length : Nat) : Int)) (a + ((A1.length + B1.length + A2.length : Nat) : Int)) b (fun x hx => oA x (by simp [hx])) (fun x hx => oB x (by simp [hx]))
        (List.pairwise_append.1 sA).2.1 (List.pairwise_append.1 sB).2.1 (by have := hD1.length_eq; simp only [List.length_append] at this ⊢; omega) (by have := hD1.length_eq; simp only [List.length_append] at this ⊢; omega)
        (by have := hD1.length_eq; rw [hb]; simp only [List.length_append] at this ⊢; congr 1; omega) (by have := hD1.length_eq; simp only [List.length_append] at hl this ⊢; omega)
      refine ⟨fun r h => ?_, fun hk => ?_⟩
      · rw [e] at h
        obtain ⟨x, h1, h2⟩ := Option.bind_eq_some_iff.1 h
        obtain ⟨D1, d1, d2, rfl⟩ := q1.1 x h1
        have h2' : cond (decide (A2 ≠ [] ∧ B2 ≠ [])) (eJ cmp k (P ++ D1 ++ A2 ++ B2 ++ S) (a + ((A1.length + B1.length : Nat) : Int)) (a + ((A1.length + B1.length + A2.length : Nat) : Int)) b) (some (P ++ D1 ++ A2 ++ B2 ++ S)) = some r := by
          have : P ++ D1 ++ (A2 ++ B2 ++ S) = P ++ D1 ++ A2 ++ B2 ++ S := by simp
          rw [this] at h2; exact h2
        obtain ⟨D2, f1, f2, rfl⟩ := (q2 D1 d1).1 r h2'
        refine ⟨D1 ++ D2, ?_, ?_, by simp⟩
        · refine (d1.append f1).trans ?_
          have : (B1 ++ (A2 ++ B2)).Perm (A2 ++ (B1 ++ B2)) := by
            have := (List.perm_append_comm (l₁ := B1) (l₂ := A2)).append_right B2
            simpa using this
          have := this.append_left A1
          simpa using this
        · rw [Srt, List.pairwise_append]
          exact ⟨d2, f2, fun x hx y hy => hcross x (d1.mem_iff.1 hx) y (f1.mem_iff.1 hy)⟩
      · simp only [List.length_append] at hk
        obtain ⟨x, hx⟩ := q1.2 (by omega)
        obtain ⟨D1, d1, d2, rfl⟩ := q1.1 x hx
        obtain ⟨r, hr⟩ := (q2 D1 d1).2 (by omega)
        refine ⟨r, ?_⟩
        rw [e, hx]
        have : P ++ D1 ++ (A2 ++ B2 ++ S) = P ++ D1 ++ A2 ++ B2 ++ S := by simp
        rw [this]; exact hr

theorem ZQ {β : Type} {g : Nat → Option β} (h : ∃ k r, g k = some r) : ∃ r, MG g = some r := by
  unfold MG
  rw [dif_pos h]
  exact Classical.choose_spec h

theorem aAP (C : Cmp ok le cmp) {P A B S d : List α} {a m b : Int} (hd : d = P ++ A ++ B ++ S) (hA : A ≠ []) (hB : B ≠ []) (oA : Oks ok A) (oB : Oks ok B) (sA : Srt le A) (sB : Srt le B)
    (ha : a = (P.length : Nat)) (hm : m = ((P.length + A.length : Nat) : Int)) (hb : b = ((P.length + A.length + B.length : Nat) : Int)) (hl : d.length ≤ 1099511627776) :
    ∃ D, D.Perm (A ++ B) ∧ Srt le D ∧ pO d a m b cmp = some (P ++ D ++ S) := by
  subst hd
  unfold pO
  obtain ⟨r, hr⟩ := (MJ C (A.length + B.length) P A B S a m b hA hB oA oB sA sB ha hm hb hl).2 (Nat.le_refl _)
  obtain ⟨r', hr'⟩ := ZQ (g := fun k => eJ cmp k (P ++ A ++ B ++ S) a m b) ⟨_, r, hr⟩
  obtain ⟨k, hk⟩ := JC hr'
  obtain ⟨D, d1, d2, rfl⟩ := (MJ C k P A B S a m b hA hB oA oB sA sB ha hm hb hl).1 r' hk
  exact ⟨D, d1, d2, hr'⟩

inductive nO {β : Type} (le : β → β → Prop) (n : Nat) : List β → Prop
  | last {l : List β} : l.length ≤ n → Srt le l → nO le n l
  | cons {x l : List β} : x.length = n → Srt le x → nO le n l → nO le n (x ++ l)

theorem nO.srt {β : Type} {le : β → β → Prop} {n : Nat} {l : List β} (h : nO le n l) (hl : l.length ≤ n) : Srt le l := by
  cases h with
  | last _ h => exact h
  | cons hx hs hr =>
    rename_i x r
    have : r = [] := List.length_eq_zero_iff.1 (by simp only [List.length_append] at hl; omega)
    subst this; simpa using hs

theorem nO.split {β : Type} {le : β → β → Prop} {n : Nat} {l : List β} (h : nO le n l) (hl : n < l.length) : ∃ x r, l = x ++ r ∧ x.length = n ∧ Srt le x ∧ nO le n r := by
  cases h with
  | last h' _ => omega
  | cons hx hs hr => exact ⟨_, _, rfl, hx, hs, hr⟩

theorem nO.aC3 {β : Type} {le : β → β → Prop} {n : Nat} {l : List β} (hn : 0 < n) (h : nO le n l) (hl : 2 * n ≤ l.length) : ∃ x y r, l = x ++ y ++ r ∧ x.length = n ∧ y.length = n ∧ Srt le x ∧ Srt le y ∧ nO le n r := by
  obtain ⟨x, r, rfl, h1, h2, h3⟩ := h.split (by omega)
  simp only [List.length_append] at hl
  by_cases he : r.length = n
  · exact ⟨x, r, [], by simp, h1, he, h2, h3.srt (by omega), nO.last (by simp) List.Pairwise.nil⟩
  · obtain ⟨y, r', rfl, e1, e2, e3⟩ := h3.split (by omega)
    exact ⟨x, y, r', by simp, h1, e1, h2, e2, e3⟩

theorem Oks.perm {β : Type} {ok : β → Prop} {l l' : List β} (h : Oks ok l) (hp : l'.Perm l) : Oks ok l' := fun x hx => h x (hp.mem_iff.1 hx)

theorem aC6 (C : Cmp ok le cmp) {n1 : Int} : ∀ (n : Nat) (F G : List α), G.length ≤ n → Oks ok G → n1 = ((F.length + G.length : Nat) : Int) → (F ++ G).length ≤ 1099511627776 →
    ∃ G1 G2, (G1 ++ G2).Perm G ∧ G2.length < 20 ∧ (∀ H, H.length ≤ 20 → Srt le H → nO le 20 (G1 ++ H)) ∧
      lp (fun s : List α × Int × Int => mQ cmp n1 20 s.1 s.2.1 s.2.2) (F ++ G, ((F.length : Nat) : Int), ((F.length + 20 : Nat) : Int)) = some (F ++ G1 ++ G2, ((F.length + G1.length : Nat) : Int)) := by
  intro n
  induction n with
  | zero =>
    intro F G hn hG h1 hl
    refine ⟨[], G, by simp, by omega, fun H h2 h3 => nO.last (by simpa using h2) (by simpa using h3), ?_⟩
    rw [cM (r := (F ++ G, ((F.length : Nat) : Int)))]
    · simp
    · have : decide (((F.length + 20 : Nat) : Int) ≤ n1) = false := by subst h1; simp; omega
      simp only [mQ, this, cond_false]
  | succ n ih =>
    intro F G hn hG h1 hl
    by_cases hg : G.length < 20
    · refine ⟨[], G, by simp, by omega, fun H h2 h3 => nO.last (by simpa using h2) (by simpa using h3), ?_⟩
      rw [cM (r := (F ++ G, ((F.length : Nat) : Int)))]
      · simp
      · have : decide (((F.length + 20 : Nat) : Int) ≤ n1) = false := by subst h1; simp; omega
        simp only [mQ, this, cond_false]
    · obtain ⟨X, R, rfl, hX⟩ : ∃ X R, G = X ++ R ∧ X.length = 20 := ⟨G.take 20, G.drop 20, (List.take_append_drop _ _).symm, by rw [List.length_take]; omega⟩
      simp only [List.length_append] at hn hl h1 hg
      obtain ⟨D, d1, d2, d3⟩ := aAu C (P := F) (A := X) (T := R) (a := ((F.length : Nat) : Int)) (b := ((F.length + 20 : Nat) : Int)) rfl (by rw [hX]) (fun x hx => hG x (by simp [hx])) (by simp only [List.length_append]; omega)
      have hD : D.length = 20 := by rw [d1.length_eq, hX]
      obtain ⟨G1, G2, g1, g2, g3, g4⟩ := ih (F ++ D) R (by omega) (fun x hx => hG x (by simp [hx])) (by rw [h1]; simp only [List.length_append]; congr 1; omega) (by simp only [List.length_append]; omega)
      refine ⟨D ++ G1, G2, ?_, g2, fun H h2 h3 => ?_, ?_⟩
      · have := d1.append g1
        simpa using this
      · rw [List.append_assoc]; exact nO.cons hD d2 (g3 H h2 h3)
      · have hb : (fun s : List α × Int × Int => mQ cmp n1 20 s.1 s.2.1 s.2.2) (F ++ (X ++ R), ((F.length : Nat) : Int), ((F.length + 20 : Nat) : Int)) = some (.inl (F ++ D ++ R, (((F ++ D).length : Nat) : Int), (((F ++ D).length + 20 : Nat) : Int))) := by
          show mQ cmp n1 20 _ _ _ = _
          have : decide (((F.length + 20 : Nat) : Int) ≤ n1) = true := by subst h1; simp; omega
          simp only [mQ, this, cond_true]
          rw [show F ++ (X ++ R) = F ++ X ++ R by simp, d3]
          simp only [Option.bind_some, List.length_append, hD]
          rw [wr (by omega) (by omega)]
          congr 1
        rw [dL hb, g4]
        simp only [List.length_append, List.append_assoc]
        congr 2
        congr 1; omega

theorem aC0 (C : Cmp ok le cmp) {n1 : Int} {bs : Nat} (hbs : 0 < bs) (hbs' : bs ≤ 1099511627776) : ∀ (n : Nat) (F G : List α), G.length ≤ n → Oks ok G → nO le bs G → n1 = ((F.length + G.length : Nat) : Int) → (F ++ G).length ≤ 1099511627776 →
    ∃ G1 G2, (G1 ++ G2).Perm G ∧ G2.length < 2 * bs ∧ nO le bs G2 ∧ (∀ H, H.length ≤ 2 * bs → Srt le H → nO le (2 * bs) (G1 ++ H)) ∧
      lp (fun s : List α × Int × Int => mS cmp n1 (bs : Int) s.1 s.2.1 s.2.2) (F ++ G, ((F.length : Nat) : Int), ((F.length + 2 * bs : Nat) : Int)) = some (F ++ G1 ++ G2, ((F.length + G1.length : Nat) : Int)) := by
  have stop : ∀ (F G : List α), nO le bs G → G.length < 2 * bs → n1 = ((F.length + G.length : Nat) : Int) → ∃ G1 G2, (G1 ++ G2).Perm G ∧ G2.length < 2 * bs ∧ nO le bs G2 ∧ (∀ H, H.length ≤ 2 * bs → Srt le H → nO le (2 * bs) (G1 ++ H)) ∧
      lp (fun s : List α × Int × Int => mS cmp n1 (bs : Int) s.1 s.2.1 s.2.2) (F ++ G, ((F.length : Nat) : Int), ((F.length + 2 * bs : Nat) : Int)) = some (F ++ G1 ++ G2, ((F.length + G1.length : Nat) : Int)) := by
    intro F G hG hg h1
    refine ⟨[], G, by simp, hg, hG, fun H h2 h3 => nO.last (by simpa using h2) (by simpa using h3), ?_⟩
    rw [cM (r := (F ++ G, ((F.length : Nat) : Int)))]
    · simp
    · have : decide (((F.length + 2 * bs : Nat) : Int) ≤ n1) = false := by subst h1; simp; omega
      show mS cmp n1 _ _ _ _ = _
      simp only [mS, this, cond_false]
  intro n
  induction n with
  | zero => intro F G hn _ hB h1 _; exact stop F G hB (by omega) h1
  | succ n ih =>
    intro F G hn hG hB h1 hl
    by_cases hg : G.length < 2 * bs
    · exact stop F G hB hg h1
    · obtain ⟨x, y, R, rfl, x1, y1, sx, sy, hR⟩ := hB.aC3 hbs (by omega)
      simp only [List.length_append] at hn hl h1 hg
      obtain ⟨D, d1, d2, d3⟩ := aAP C (P := F) (A := x) (B := y) (S := R) (d := F ++ (x ++ y ++ R)) (a := ((F.length : Nat) : Int)) (m := ((F.length + bs : Nat) : Int)) (b := ((F.length + 2 * bs : Nat) : Int)) (by simp) (fun h => by rw [h] at x1; simp at x1; omega) (fun h => by rw [h] at y1; simp at y1; omega)
        (fun z hz => hG z (by simp [hz])) (fun z hz => hG z (by simp [hz])) sx sy rfl (by rw [x1]) (by rw [x1, y1]; congr 1; omega) (by simp only [List.length_append]; omega)
      have hD : D.length = 2 * bs := by rw [d1.length_eq]; simp only [List.length_append]; omega
      obtain ⟨G1, G2, g1, g2, g3, g4, g5⟩ := ih (F ++ D) R (by omega) (fun z hz => hG z (by simp [hz])) hR (by rw [h1]; simp only [List.length_append]; congr 1; omega) (by simp only [List.length_append]; omega)
      refine ⟨D ++ G1, G2, ?_, g2, g3, fun H h2 h3 => ?_, ?_⟩
      · have := d1.append g1
        simpa using this
      · rw [List.append_assoc]; exact nO.cons hD d2 (g4 H h2 h3)
      · have hb : (fun s : List α × Int × Int => mS cmp n1 (bs : Int) s.1 s.2.1 s.2.2) (F ++ (x ++ y ++ R), ((F.length : Nat) : Int), ((F.length + 2 * bs : Nat) : Int)) = some (.inl (F ++ D ++ R, (((F ++ D).length : Nat) : Int), (((F ++ D).length + 2 * bs : Nat) : Int))) := by
          show mS cmp n1 _ _ _ _ = _
          have : decide (((F.length + 2 * bs : Nat) : Int) ≤ n1) = true := by subst h1; simp; omega
          have w1 : IntKind.i64.wrap (((F.length : Nat) : Int) + (bs : Int)) = ((F.length + bs : Nat) : Int) := by rw [wr (by omega) (by omega)]; omega
          have w2 : IntKind.i64.wrap (2 * (bs : Int)) = 2 * (bs : Int) := wr (by omega) (by omega)
          have w3 : IntKind.i64.wrap (((F.length + 2 * bs : Nat) : Int) + 2 * (bs : Int)) = ((F.length + 2 * bs + 2 * bs : Nat) : Int) := by rw [wr (by omega) (by omega)]; omega
          simp only [mS, this, cond_true, w1, w2, w3, d3, Option.bind_some, List.length_append, hD]
        rw [dL hb, g5]
        simp only [List.length_append, List.append_assoc]
        congr 2
        congr 1; omega

theorem ZC (C : Cmp ok le cmp) {d : List α} {bs : Nat} (hbs : 0 < bs) (hbs' : bs < d.length) (ho : Oks ok d) (hB : nO le bs d) (hl : d.length ≤ 1099511627776) :
    ∃ r, r.Perm d ∧ nO le (2 * bs) r ∧ jV cmp ((d.length : Nat) : Int) d (bs : Int) = some (.inl (r, ((2 * bs : Nat) : Int))) := by
  obtain ⟨G1, G2, g1, g2, g3, g4, g5⟩ := aC0 C (n1 := ((d.length : Nat) : Int)) hbs (by omega) d.length [] d (Nat.le_refl _) ho hB (by simp) (by simpa using hl)
  have hlen := g1.length_eq
  simp only [List.length_append] at hlen
  have w2 : IntKind.i64.wrap (2 * (bs : Int)) = ((2 * bs : Nat) : Int) := by rw [wr (by omega) (by omega)]; omega
  have w4 : IntKind.i64.wrap ((bs : Int) * 2) = ((2 * bs : Nat) : Int) := by rw [wr (by omega) (by omega)]; omega
  have hlt : decide ((bs : Int) < ((d.length : Nat) : Int)) = true := by simp; omega
  simp only [List.nil_append, List.length_nil, Nat.zero_add, Int.natCast_zero] at g5
  have w1 : IntKind.i64.wrap (((G1.length : Nat) : Int) + (bs : Int)) = ((G1.length + bs : Nat) : Int) := by rw [wr (by omega) (by omega)]; omega
  by_cases hg : bs < G2.length
  · obtain ⟨x, y, rfl, x1, sx, hy⟩ := g3.split hg
    simp only [List.length_append] at g2 hg hlen
    have sy : Srt le y := hy.srt (by omega)
    have og : Oks ok (G1 ++ (x ++ y)) := ho.perm g1
    obtain ⟨D, d1, d2, d3⟩ := aAP C (P := G1) (A := x) (B := y) (S := []) (d := G1 ++ (x ++ y)) (a := ((G1.length : Nat) : Int)) (m := ((G1.length + bs : Nat) : Int)) (b := ((d.length : Nat) : Int)) (by simp) (fun h => by rw [h] at x1; simp at x1; omega) (fun h => by rw [h] at hg; simp at hg; omega)
      (fun z hz => og z (by simp [hz])) (fun z hz => og z (by simp [hz])) sx sy rfl (by rw [x1]) (by congr 1; omega) (by simp only [List.length_append]; omega)
    refine ⟨G1 ++ D, ?_, ?_, ?_⟩
    · exact (d1.append_left G1).trans g1
    · exact g4 D (by rw [d1.length_eq]; simp only [List.length_append]; omega) d2
    · have hc : decide (((G1.length + bs : Nat) : Int) < ((d.length : Nat) : Int)) = true := by simp; omega
      simp only [jV, hlt, cond_true, w2, yE, g5, Option.bind_some, yC, w1, hc, d3, BS, w4]
      simp
  · refine ⟨G1 ++ G2, g1, g4 G2 (by omega) (g3.srt (by omega)), ?_⟩
    have hc : decide (((G1.length + bs : Nat) : Int) < ((d.length : Nat) : Int)) = false := by simp; omega
    simp only [jV, hlt, cond_true, w2, yE, g5, Option.bind_some, yC, w1, hc, cond_false, BS, w4]

theorem aAW (C : Cmp ok le cmp) : ∀ (n : Nat) (d : List α) (bs : Nat), d.length - bs ≤ n → 0 < bs → Oks ok d → nO le bs d → d.length ≤ 1099511627776 →
    ∃ r, r.Perm d ∧ Srt le r ∧ lp (fun s : List α × Int => jV cmp ((d.length : Nat) : Int) s.1 s.2) (d, (bs : Int)) = some r := by
  have stop : ∀ (d : List α) (bs : Nat), d.length ≤ bs → nO le bs d → ∃ r, r.Perm d ∧ Srt le r ∧ lp (fun s : List α × Int => jV cmp ((d.length : Nat) : Int) s.1 s.2) (d, (bs : Int)) = some r := by
    intro d bs h hB
    refine ⟨d, List.Perm.refl _, hB.srt h, cM ?_⟩
    show jV cmp _ _ _ = _
    have : decide ((bs : Int) < ((d.length : Nat) : Int)) = false := by simp; omega
    simp only [jV, this, cond_false]
  intro n
  induction n with
  | zero => intro d bs hn _ _ hB _; exact stop d bs (by omega) hB
  | succ n ih =>
    intro d bs hn hbs ho hB hl
    by_cases h : d.length ≤ bs
    · exact stop d bs h hB
    · obtain ⟨r, r1, r2, r3⟩ := ZC C hbs (by omega) ho hB hl
      obtain ⟨r', e1, e2, e3⟩ := ih r (2 * bs) (by rw [r1.length_eq]; omega) (by omega) (ho.perm r1) r2 (by rw [r1.length_eq]; exact hl)
      rw [r1.length_eq] at e3
      refine ⟨r', e1.trans r1, e2, ?_⟩
      rw [dL (show (fun s : List α × Int => jV cmp ((d.length : Nat) : Int) s.1 s.2) (d, (bs : Int)) = _ from r3)]
      exact e3

theorem RA (C : Cmp ok le cmp) {d : List α} (ho : Oks ok d) (hl : d.length ≤ 1099511627776) : ∃ r, r.Perm d ∧ Srt le r ∧ zY d ((d.length : Nat) : Int) cmp = some r := by
  obtain ⟨G1, G2, g1, g2, g3, g4⟩ := aC6 C (n1 := ((d.length : Nat) : Int)) d.length [] d (Nat.le_refl _) ho (by simp) (by simpa using hl)
  have hlen := g1.length_eq
  simp only [List.length_append] at hlen
  have og := ho.perm g1
  obtain ⟨D, d1, d2, d3⟩ := aAu C (P := G1) (A := G2) (T := []) (a := ((G1.length : Nat) : Int)) (b := ((d.length : Nat) : Int)) rfl (by congr 1; omega) (fun z hz => og z (by simp [hz])) (by simp only [List.length_append, List.length_nil]; omega)
  have hp : (G1 ++ D).Perm d := (d1.append_left G1).trans g1
  obtain ⟨r, r1, r2, r3⟩ := aAW C (G1 ++ D).length (G1 ++ D) 20 (by omega) (by omega) (ho.perm hp) (g3 D (by rw [d1.length_eq]; omega) d2) (by rw [hp.length_eq]; exact hl)
  refine ⟨r, r1.trans hp, r2, ?_⟩
  simp only [List.nil_append, List.length_nil, Nat.zero_add, Int.natCast_zero] at g4
  unfold zY BQ
  have g4' : lp (fun s : List α × Int × Int => mQ cmp ((d.length : Nat) : Int) 20 s.1 s.2.1 s.2.2) (d, (0 : Int), (20 : Int)) = some (G1 ++ G2, ((G1.length : Nat) : Int)) := g4
  rw [g4']
  simp only [Option.bind_some, BU]
  rw [show G1 ++ G2 = G1 ++ G2 ++ [] by simp, d3]
  simp only [Option.bind_some, BR, List.append_nil]
  rw [hp.length_eq] at r3
  have r3' : lp (fun s : List α × Int => jV cmp ((d.length : Nat) : Int) s.1 s.2) (G1 ++ D, (20 : Int)) = some r := r3
  rw [r3']; rfl

end Go.Abs
namespace Go.Abs
open Go
structure aDu where
  Kind : Int
  Input : Int
  Edges : (List aC)
  At : Int
  deriving Inhabited, DecidableEq

end Go.Abs
namespace Go.Abs
open Go
def DE (n : Int) : Bool := decide (n ≤ 1048576) && decide (-1048576 ≤ n)

theorem XF (n : Int) : yI n = some (DE n) := rfl

def qI (last : Int) (j : aB) : Bool := decide (j.At ≤ last) || decide (1125899906842624 ≤ j.At) || decide (j.Net = 0) || !DE j.Net

def chk (last : Int) : List aB → Bool
  | [] => true
  | j :: r => !qI last j && chk j.At r

def fZ (f : List aB) : Bool := decide (f.length ≤ 1024) && chk (-2) f

theorem TI {f : List aB} {i : Nat} {a : aB} {last : Int} (ha : f[i]? = some a) (hl : f.length < 4611686018427387904) :
    mR f (f.length : Nat) last i = some (if qI last a then .inr (.inr false) else .inl (a.At, ((i + 1 : Nat) : Int))) := by
  obtain ⟨d1, d2, d3, d4⟩ := idx ha hl
  simp only [mR, d1, cond_true, bA d2, d3, d4, XF]
  unfold qI
  cases h : (decide (a.At ≤ last) || decide (1125899906842624 ≤ a.At) || decide (a.Net = 0)) <;> cases h2 : DE a.Net <;> simp [cO]

theorem UG : ∀ (f : List aB) (last : Int), yU (fun last (j : aB) => some (if qI last j then .inr (.inr false) else .inl j.At)) (fun _ => (.inl () : Unit ⊕ Bool)) last f = some (if chk last f then .inl () else .inr false)
  | [], last => by simp [yU, chk]
  | j :: r, last => by
    cases h : qI last j
    · rw [ZG (s' := j.At) (by simp [h])]
      rw [UG r j.At]
      simp [chk, h]
    · rw [YX (x := .inr false) (by simp [h])]
      simp [chk, h]

theorem NG (f : List aB) : pJ f = some (fZ f) := by
  unfold pJ fZ
  by_cases hl : f.length ≤ 1024
  · have h1 : decide ((1024 : Int) < ((f.length : Nat) : Int)) = false := by simp; omega
    rw [h1, cond_false]
    unfold CC
    have key := aBj (l := f) (body := fun s : Int × Int => mR f (f.length : Nat) s.1 s.2) (fun last i => (last, i)) _ _
      (fun i a s ha => by
        constructor
        · intro s' hs
          show mR f (f.length : Nat) s i = _
          rw [TI ha (by omega)]
          split at hs <;> simp_all
        · intro x hs
          show mR f (f.length : Nat) s i = _
          rw [TI ha (by omega)]
          split at hs <;> simp_all)
      (fun s => by show mR f (f.length : Nat) s (f.length : Nat) = _; simp only [mR, dR, cond_false]) (UG f (-2))
    rw [key]
    cases h : chk (-2) f <;> simp [yK, hl]
  · have h1 : decide ((1024 : Int) < ((f.length : Nat) : Int)) = true := by simp; omega
    rw [h1, cond_true]
    simp [hl]

theorem lV {last : Int} {j : aB} : qI last j = false ↔ last < j.At ∧ j.At < 1125899906842624 ∧ j.Net ≠ 0 ∧ j.Net ≤ 1048576 ∧ -1048576 ≤ j.Net := by
  simp [qI, DE]
  omega

def vA (last : Int) : List aB → Prop
  | [] => True
  | j :: r => (last < j.At ∧ j.At < 1125899906842624 ∧ j.Net ≠ 0 ∧ j.Net ≤ 1048576 ∧ -1048576 ≤ j.Net) ∧ vA j.At r

theorem YA : ∀ {f : List aB} {last : Int}, chk last f = true ↔ vA last f
  | [], last => by simp [chk, vA]
  | j :: r, last => by simp [chk, vA, lV, YA]

theorem kT {f : List aB} : fZ f = true ↔ f.length ≤ 1024 ∧ vA (-2) f := by simp [fZ, YA]

theorem vA.above : ∀ {f : List aB} {last : Int}, vA last f → ∀ j ∈ f, last < j.At ∧ j.At < 1125899906842624 ∧ j.Net ≠ 0 ∧ j.Net ≤ 1048576 ∧ -1048576 ≤ j.Net
  | [], _, _, j, hj => by simp at hj
  | a :: r, last, h, j, hj => by
    rcases List.mem_cons.1 hj with rfl | hj
    · exact h.1
    · have := h.2.above j hj
      have h1 := h.1.1
      exact ⟨by omega, this.2⟩

def val (f : List aB) (t : Int) : Int := (f.map fun j => if j.At ≤ t then j.Net else 0).sum

theorem sV (t : Int) : val [] t = 0 := rfl

theorem dD (j : aB) (r : List aB) (t : Int) : val (j :: r) t = (if j.At ≤ t then j.Net else 0) + val r t := by simp [val]

theorem DB (f g : List aB) (t : Int) : val (f ++ g) t = val f t + val g t := by simp [val]

theorem CN {f : List aB} {t : Int} (h : ∀ j ∈ f, t < j.At) : val f t = 0 := by
  induction f with
  | nil => rfl
  | cons j r ih =>
    rw [dD, ih (fun k hk => h k (List.mem_cons_of_mem _ hk))]
    have := h j (List.mem_cons_self ..)
    rw [if_neg (by omega)]; rfl

theorem aCf (f : List aB) : uR f = some (if fZ f then (f, 0) else ([], 7)) := by
  unfold uR
  rw [NG]
  cases h : fZ f <;> simp

end Go.Abs
namespace Go.Abs
open Go
section both
variable {op : Int → Int → Option Int} {f g r : List aB} {out : List aB} {a b was t : Int} {j : aB}
end both
def emit (p v was : Int) : List aB := if v = was then [] else [⟨p, v - was⟩]

def BO (was : Int) : List (Int × Int) → List aB
  | [] => []
  | x :: r => emit x.1 x.2 was ++ BO x.2 r

def merge (f g : List aB) (a b : Int) : List (Int × Int × Int) :=
  match f, g with
  | [], [] => []
  | j :: f, [] => (j.At, a + j.Net, b) :: merge f [] (a + j.Net) b
  | [], k :: g => (k.At, a, b + k.Net) :: merge [] g a (b + k.Net)
  | j :: f, k :: g =>
    if j.At < k.At then (j.At, a + j.Net, b) :: merge f (k :: g) (a + j.Net) b
    else if k.At < j.At then (k.At, a, b + k.Net) :: merge (j :: f) g a (b + k.Net)
    else (j.At, a + j.Net, b + k.Net) :: merge f g (a + j.Net) (b + k.Net)

termination_by f.length + g.length
end Go.Abs
namespace Go.Abs
open Go
def comb (OP : Int → Int → Int) (f g : List aB) : List aB := BO 0 ((merge f g 0 0).map fun x => (x.1, OP x.2.1 x.2.2))

def told (f : List aB) : List aB × Int := if fZ f then (f, 0) else ([], 7)

theorem aBo (f : List aB) : uR f = some (told f) := aCf f

def two (OP : Int → Int → Int) (f g : List aB) : List aB × Int := if fZ f && fZ g then told (comb OP f g) else ([], 2)

end Go.Abs
namespace Go.Abs
open Go
theorem aA5 (p v was t : Int) : val (emit p v was) t = if p ≤ t then v - was else 0 := by
  unfold emit
  by_cases h : v = was
  · rw [if_pos h, sV, h]; split <;> omega
  · rw [if_neg h, dD, sV]; simp

theorem vA.CW {l t : Int} {f : List aB} (h : vA l f) (ht : t ≤ l) : val f t = 0 := CN fun j hj => by have := (h.above j hj).1; omega

end Go.Abs
namespace Go.Abs
open Go
def xY (f : List aB) : Nat → Int
  | 0 => -2
  | k + 1 => (f.getD k default).At

theorem WL {f : List aB} {i : Nat} {a : aB} {last : Int} (ha : f[i]? = some a) (hl : f.length ≤ 1024) (hlast : last = xY f i) (hp : -2 ≤ last) (hp' : 0 < i → -1 ≤ last) :
    lR f i = some (if qI last a then .inr (.inr false) else .inl ((i + 1 : Nat) : Int)) := by
  obtain ⟨d1, d2, d3, d4⟩ := idx ha (by omega)
  have hlt : i < f.length := (List.getElem?_eq_some_iff.1 ha).1
  simp only [lR, d1, cond_true, d3, d4]
  rw [bA d2, bA (fun _ => d2), bA (fun _ => d2), bA (fun _ => d2), bA (fun _ => d2), bA (fun _ => d2)]
  cases i with
  | zero =>
    rw [bA (fun h => by simp at h)]
    have hm2 : last = -2 := hlast
    subst hm2
    by_cases hb : qI (-2) a = true
    · rw [if_pos hb]
      have hx : (((((decide (a.At < -1)) || (decide (1125899906842624 ≤ a.At))) || (decide (a.Net = 0))) || (decide (1048576 < a.Net))) || (decide (a.Net < -1048576))) = true := by
        simp [qI, DE] at hb ⊢; omega
      rw [hx, cond_true]
    · have hb' : qI (-2) a = false := by simpa using hb
      rw [if_neg hb]
      rw [lV] at hb'
      have hx : (((((decide (a.At < -1)) || (decide (1125899906842624 ≤ a.At))) || (decide (a.Net = 0))) || (decide (1048576 < a.Net))) || (decide (a.Net < -1048576))) = false := by
        simp; omega
      rw [hx, cond_false]
      simp
  | succ k =>
    have hw : IntKind.i64.wrap (((k + 1 : Nat) : Int) - 1) = (k : Int) := by rw [dV (by omega) (by omega)]; omega
    have hg : List.getD f (Int.toNat (k : Int)) default = f.getD k default := by rw [Int.toNat_natCast]
    rw [hw, hg, bA (fun _ => ⟨by omega, by omega⟩)]
    have hpos : decide ((0 : Int) < ((k + 1 : Nat) : Int)) = true := by simp
    have hp1 := hp' (by omega)
    have hl2 : (f.getD k default).At = last := hlast.symm
    rw [hpos, Bool.true_and, hl2]
    by_cases hb : qI last a = true
    · rw [if_pos hb]
      by_cases hx : (((((decide (a.At < -1)) || (decide (1125899906842624 ≤ a.At))) || (decide (a.Net = 0))) || (decide (1048576 < a.Net))) || (decide (a.Net < -1048576))) = true
      · rw [hx, cond_true]
      · have hx' : (((((decide (a.At < -1)) || (decide (1125899906842624 ≤ a.At))) || (decide (a.Net = 0))) || (decide (1048576 < a.Net))) || (decide (a.Net < -1048576))) = false := by simpa using hx
        have hy : decide (a.At ≤ last) = true := by
          simp [qI, DE] at hb hx' ⊢; omega
        rw [hx', cond_false, hy, cond_true]
    · have hb' : qI last a = false := by simpa using hb
      rw [if_neg hb]
      rw [lV] at hb'
      have hx : (((((decide (a.At < -1)) || (decide (1125899906842624 ≤ a.At))) || (decide (a.Net = 0))) || (decide (1048576 < a.Net))) || (decide (a.Net < -1048576))) = false := by
        simp; omega
      have hy : decide (a.At ≤ last) = false := by simp; omega
      rw [hx, cond_false, hy, cond_false]

theorem RE {f : List aB} (hl : f.length ≤ 1024) : ∀ (m k : Nat), f.length - k = m → k ≤ f.length → -2 ≤ xY f k → (0 < k → -1 ≤ xY f k) → lp (fun s => lR f s) (k : Int) = some (if chk (xY f k) (f.drop k) = true then .inl () else .inr false)
  | 0, k, hm, hk, _, _ => by
    have : k = f.length := by omega
    subst this
    rw [List.drop_length]
    refine cM ?_
    show lR f _ = _
    simp [lR, chk]
  | m + 1, k, hm, hk, hp, hp' => by
    have h1 : k < f.length := by omega
    have hb := WL (List.getElem?_eq_getElem h1) hl rfl hp hp'
    have e1 : f.drop k = f[k] :: f.drop (k + 1) := List.drop_eq_getElem_cons h1
    have hpa : xY f (k + 1) = f[k].At := by simp [xY, List.getD_eq_getElem?_getD, h1]
    rw [e1]
    by_cases h : qI (xY f k) f[k] = true
    · rw [if_pos h] at hb
      rw [cM (show (fun s => lR f s) (k : Int) = _ from hb)]
      simp [chk, h]
    · rw [if_neg h] at hb
      have h' : qI (xY f k) f[k] = false := by simpa using h
      have := lV.1 h'
      rw [dL (show (fun s => lR f s) (k : Int) = _ from hb), RE hl m (k + 1) (by omega) (by omega) (by rw [hpa]; omega) (fun _ => by rw [hpa]; omega), hpa]
      simp [chk, h']

theorem IS (f : List aB) : pQ f = some (fZ f) := by
  unfold pQ fZ
  by_cases hl : f.length ≤ 1024
  · have h1 : decide ((1024 : Int) < ((f.length : Nat) : Int)) = false := by simp; omega
    rw [h1, cond_false]
    unfold BA
    have := RE hl f.length 0 rfl (Nat.zero_le _) (by simp [xY]) (by omega)
    simp only [Int.natCast_zero, List.drop_zero, xY] at this
    rw [this]
    cases h : chk (-2) f <;> simp [wA, hl]
  · have h1 : decide ((1024 : Int) < ((f.length : Nat) : Int)) = true := by simp; omega
    rw [h1, cond_true]
    simp [hl]

end Go.Abs
namespace Go.Abs
open Go
def YK (f : List aB) : Int := (f.map aB.Net).sum

def PS (t : Int) : List aB → List aB
  | [] => []
  | j :: r => if t ≤ j.At then [] else j :: PS t r

def aft (t : Int) : List aB → List aB
  | [] => []
  | j :: r => if t ≤ j.At then j :: r else aft t r

def aCJ (t : Int) (f : List aB) : List aB := PS t f ++ (if YK (PS t f) = 0 then [] else [⟨t, -YK (PS t f)⟩])

def ahead (f : List aB) (t : Int) : List aB × Int :=
  if fZ f then (if 1125899906842624 ≤ t then (f, 0) else told (aCJ t f)) else ([], 2)

end Go.Abs
namespace Go.Abs
open Go
def aDs (t : Int) (f : List aB) : List aB := (if YK (PS t f) = 0 then [] else [⟨-1, YK (PS t f)⟩]) ++ aft t f

def rest (f : List aB) (t : Int) : List aB × Int :=
  if fZ f then (if 1125899906842624 ≤ t then ([], 0) else if t ≤ -1 then (f, 0) else told (aDs t f)) else ([], 2)

end Go.Abs
namespace Go.Abs
open Go
def Up (last : Int) : List aB → Prop
  | [] => True
  | j :: r => (last < j.At ∧ j.At < 1125899906842624 ∧ j.Net ≠ 0) ∧ Up j.At r

theorem Up.above : ∀ {f : List aB} {last : Int}, Up last f → ∀ j ∈ f, last < j.At ∧ j.At < 1125899906842624 ∧ j.Net ≠ 0
  | [], _, _, j, hj => by simp at hj
  | a :: r, last, h, j, hj => by
    rcases List.mem_cons.1 hj with rfl | hj
    · exact h.1
    · have := h.2.above j hj
      have h1 := h.1.1
      exact ⟨by omega, this.2⟩

theorem Up.CW {l t : Int} {f : List aB} (h : Up l f) (ht : t ≤ l) : val f t = 0 := CN fun j hj => by have := (h.above j hj).1; omega

theorem Up.weaken {a b : Int} {f : List aB} (h : Up b f) (hab : a ≤ b) : Up a f := by
  cases f with
  | nil => trivial
  | cons j r => exact ⟨⟨by have := h.1.1; omega, h.1.2⟩, h.2⟩

theorem vA.up : ∀ {f : List aB} {last : Int}, vA last f → Up last f
  | [], _, _ => trivial
  | _ :: _, _, h => ⟨⟨h.1.1, h.1.2.1, h.1.2.2.1⟩, h.2.up⟩

theorem Up.ext : ∀ {f g : List aB} {last : Int}, Up last f → Up last g → (∀ t, last < t → t < 1125899906842624 → val f t = val g t) → f = g
  | [], [], _, _, _, _ => rfl
  | j :: r, [], last, hf, _, h => by
    have := h j.At hf.1.1 hf.1.2.1
    rw [dD, if_pos (Int.le_refl _), hf.2.CW (Int.le_refl _), sV] at this
    exact absurd (by omega) hf.1.2.2
  | [], k :: s, last, _, hg, h => by
    have := h k.At hg.1.1 hg.1.2.1
    rw [dD, if_pos (Int.le_refl _), hg.2.CW (Int.le_refl _), sV] at this
    exact absurd (by omega) hg.1.2.2
  | j :: r, k :: s, last, hf, hg, h => by
    have h1 := h j.At hf.1.1 hf.1.2.1
    have h2 := h k.At hg.1.1 hg.1.2.1
    rw [dD, if_pos (Int.le_refl _), hf.2.CW (Int.le_refl _), dD] at h1
    rw [dD, dD k, if_pos (Int.le_refl _), hg.2.CW (Int.le_refl _)] at h2
    have n1 := hf.1.2.2
    have n2 := hg.1.2.2
    have he : j.At = k.At := by
      rcases Int.lt_trichotomy j.At k.At with h3 | h3 | h3
      · rw [if_neg (by omega), hg.2.CW (by omega)] at h1; omega
      · exact h3
      · rw [if_neg (by omega), hf.2.CW (by omega)] at h2; omega
    rw [if_pos (by omega), hg.2.CW (by omega)] at h1
    have hj : j = k := by
      obtain ⟨a, b⟩ := j; obtain ⟨c, d⟩ := k
      simp only at he h1
      simp only [Int.add_zero] at h1
      rw [he, h1]
    subst hj
    rw [hf.2.ext hg.2 (fun t ht ht' => by
      have := h t (by have := hf.1.1; omega) ht'
      rw [dD, dD] at this; omega)]

def Inc (last : Int) : List Int → Prop
  | [] => True
  | p :: r => (last < p ∧ p < 1125899906842624) ∧ Inc p r

theorem Inc.above : ∀ {ps : List Int} {last : Int}, Inc last ps → ∀ p ∈ ps, last < p ∧ p < 1125899906842624
  | [], _, _, j, hj => by simp at hj
  | a :: r, last, h, j, hj => by
    rcases List.mem_cons.1 hj with rfl | hj
    · exact h.1
    · have := h.2.above j hj
      have h1 := h.1.1
      exact ⟨by omega, this.2⟩

theorem HN : ∀ {l : List (Int × Int)} {last was : Int}, Inc last (l.map Prod.fst) → Up last (BO was l)
  | [], _, _, _ => trivial
  | x :: r, last, was, h => by
    simp only [BO]
    have ih : Up x.1 (BO x.2 r) := HN h.2
    have h1 : last < x.1 ∧ x.1 < 1125899906842624 := h.1
    unfold emit
    split
    · exact ih.weaken (by omega)
    · exact ⟨⟨h1.1, h1.2, by simp only; omega⟩, ih⟩

theorem JY {F : Int → Int} : ∀ {ps : List Int} {last : Int}, Inc last ps → (∀ s t, last ≤ s → s ≤ t → t < 1125899906842624 → (∀ p ∈ ps, ¬ (s < p ∧ p ≤ t)) → F s = F t) →
    ∀ t, last ≤ t → t < 1125899906842624 → val (BO (F last) (ps.map fun p => (p, F p))) t = F t - F last
  | [], last, _, hF, t, h1, h2 => by
    have := hF last t (Int.le_refl _) h1 h2 (by simp)
    simp [BO, val, this]
  | p :: r, last, hi, hF, t, h1, h2 => by
    simp only [List.map_cons, BO]
    rw [DB, aA5]
    by_cases hp : p ≤ t
    · rw [if_pos hp, JY (F := F) hi.2 (fun s t' hs hst ht' hn => hF s t' (by have := hi.1.1; omega) hst ht' (fun q hq => by
        rcases List.mem_cons.1 hq with rfl | hq
        · omega
        · exact hn q hq)) t hp h2]
      omega
    · have := hF last t (Int.le_refl _) h1 h2 (fun q hq => by
        rcases List.mem_cons.1 hq with rfl | hq
        · omega
        · have := (hi.2.above q hq).1; omega)
      rw [if_neg hp, Up.CW (HN (last := p) (by rw [List.map_map]; simpa [Function.comp_def] using hi.2)) (by omega)]
      omega

theorem aCK {f : List aB} (h : fZ f = true) : Up (-2) f := (kT.1 h).2.up

theorem aBF {F : Int → Int} (h2 : F (-2) = 0) {ps : List Int} (hi : Inc (-2) ps) (hF : ∀ s t, -2 ≤ s → s ≤ t → t < 1125899906842624 → (∀ p ∈ ps, ¬ (s < p ∧ p ≤ t)) → F s = F t) {h : List aB} (hh : Up (-2) h) (hv : ∀ t, -2 < t → t < 1125899906842624 → val h t = F t) :
    BO 0 (ps.map fun p => (p, F p)) = h := by
  refine (HN (by rw [List.map_map]; simpa [Function.comp_def] using hi)).ext hh fun t h3 h4 => ?_
  have := JY hi hF t (by omega) h4
  rw [h2] at this
  rw [this, hv t h3 h4]; omega

end Go.Abs
namespace Go.Abs
open Go
theorem VS {f : List aB} (t : Int) (hb : ∀ j ∈ f, j.Net ≤ 1048576 ∧ -1048576 ≤ j.Net) (hl : f.length ≤ 1099511627776) : nF f t = some (val f t) := by
  unfold nF wP
  rw [nX (l := f) (body := fun s : Int × Int => jI f t s.1 s.2) (fun v i => (v, i)) (fun v r => v + val r t)
    (fun v r => (∀ j ∈ r, j.Net ≤ 1048576 ∧ -1048576 ≤ j.Net) ∧ r.length ≤ 1099511627776 ∧ v ≤ 1048576 * (1099511627776 - r.length) ∧ -(1048576 * (1099511627776 - r.length)) ≤ v) 0 ?_ ?_ ?_]
  · simp [sI]
  · intro i a r v ha ⟨h1, h2, h3, h4⟩
    obtain ⟨d1, d2, d3, d4⟩ := idx ha (by omega)
    have hj := h1 a (List.mem_cons_self ..)
    simp only [List.length_cons] at h2 h3 h4
    left
    by_cases h : a.At ≤ t
    · refine ⟨v + a.Net, ?_, ⟨fun j hj => h1 j (List.mem_cons_of_mem _ hj), by omega, by omega, by omega⟩, ?_⟩
      · show jI f t v i = _
        have hw : IntKind.i64.wrap (v + a.Net) = v + a.Net := dV (by omega) (by omega)
        simp only [jI, pT, d1, cond_true, bA d2, d3, d4, h, decide_true, hw]
      · show v + a.Net + val r t = v + val (a :: r) t
        rw [dD, if_pos h]; omega
    · refine ⟨v, ?_, ⟨fun j hj => h1 j (List.mem_cons_of_mem _ hj), by omega, by omega, by omega⟩, ?_⟩
      · show jI f t v i = _
        simp only [jI, pT, d1, cond_true, bA d2, d3, d4, h, decide_false, cond_false]
      · show v + val r t = v + val (a :: r) t
        rw [dD, if_neg h]; omega
  · intro s _
    show jI f t s (f.length : Nat) = _
    simp only [jI, dR, cond_false]
    simp [val]
  · exact ⟨hb, hl, by omega, by omega⟩

theorem zO {f : List aB} (h : fZ f = true) : ∀ j ∈ f, j.Net ≤ 1048576 ∧ -1048576 ≤ j.Net := fun j hj => by have := (kT.1 h).2.above j hj; omega

theorem JJ {f : List aB} (h : fZ f = true) (t : Int) : nF f t = some (val f t) :=
  VS t (zO h) (by have := (kT.1 h).1; omega)

def EZ (t : Int) : List Int → List Int
  | [] => [t]
  | p :: r => if p = t then p :: r else if t < p then t :: p :: r else p :: EZ t r

theorem QM {t x : Int} : ∀ {ps : List Int}, x ∈ EZ t ps ↔ x = t ∨ x ∈ ps
  | [] => by simp [EZ]
  | p :: r => by
    unfold EZ
    split
    · rename_i h; subst h; simp
    · split
      · simp
      · simp only [List.mem_cons, QM (ps := r)]; constructor <;> (intro h; rcases h with h | h | h <;> simp [h])

theorem QK {t : Int} : ∀ {ps : List Int} {last : Int}, Inc last ps → last < t → t < 1125899906842624 → Inc last (EZ t ps)
  | [], last, _, h1, h2 => ⟨⟨h1, h2⟩, trivial⟩
  | p :: r, last, h, h1, h2 => by
    unfold EZ
    split
    · exact h
    · split
      · rename_i h3 h4
        exact ⟨⟨h1, h2⟩, ⟨h4, h.1.2⟩, h.2⟩
      · exact ⟨h.1, QK h.2 (by omega) h2⟩

def OX (ps : List Int) (f : List aB) : List Int := f.foldl (fun ps j => EZ j.At ps) ps

theorem LY {x : Int} : ∀ {f : List aB} {ps : List Int}, x ∈ OX ps f ↔ x ∈ ps ∨ ∃ j ∈ f, j.At = x
  | [], ps => by simp [OX]
  | k :: r, ps => by
    have := LY (x := x) (f := r) (ps := EZ k.At ps)
    unfold OX at this ⊢
    rw [List.foldl_cons, this, QM]
    constructor
    · rintro ((h | h) | ⟨j, h, h'⟩)
      · exact Or.inr ⟨k, List.mem_cons_self .., h.symm⟩
      · exact Or.inl h
      · exact Or.inr ⟨j, List.mem_cons_of_mem _ h, h'⟩
    · rintro (h | ⟨j, h, h'⟩)
      · exact Or.inl (Or.inr h)
      · rcases List.mem_cons.1 h with rfl | h
        · exact Or.inl (Or.inl h'.symm)
        · exact Or.inr ⟨j, h, h'⟩

theorem UT : ∀ {f : List aB} {ps : List Int} {last : Int}, Inc last ps → (∀ j ∈ f, last < j.At ∧ j.At < 1125899906842624) → Inc last (OX ps f)
  | [], _, _, h, _ => h
  | k :: r, ps, last, h, hf => by
    have hk := hf k (List.mem_cons_self ..)
    exact UT (f := r) (QK h hk.1 hk.2) fun j hj => hf j (List.mem_cons_of_mem _ hj)

end Go.Abs
namespace Go.Abs
open Go
def mn (a b : Int) : Int := if b < a then b else a

def parts (v : Int) : List aB → List Int
  | [] => []
  | j :: r => (v + j.Net) :: parts (v + j.Net) r

def rD (f : List aB) : Int := (f.map fun j => val f j.At).foldl mn (val f (-1))

theorem parts_eq : ∀ {f : List aB} {l v : Int}, vA l f → parts v f = f.map fun j => v + val f j.At
  | [], _, _, _ => rfl
  | j :: r, l, v, h => by
    simp only [parts, List.map_cons]
    rw [parts_eq h.2, dD, if_pos (Int.le_refl _), h.2.CW (Int.le_refl _), Int.add_zero]
    congr 1
    apply List.map_congr_left
    intro k hk
    have := (h.2.above k hk).1
    rw [dD, if_pos (by omega)]; omega

theorem aAq {j : aB} {r : List aB} (h : vA (-2) (j :: r)) : val (j :: r) (-1) = if j.At = -1 then j.Net else 0 := by
  have := h.1.1
  by_cases e : j.At = -1
  · rw [if_pos e, dD, if_pos (by omega), h.2.CW (by omega)]; omega
  · rw [if_neg e, CN]
    intro k hk
    rcases List.mem_cons.1 hk with rfl | hk
    · omega
    · have := (h.2.above k hk).1; omega

theorem NK {f : List aB} (hf : fZ f = true) (m : Int) (hm : -1125899906842624 ≤ m ∧ m ≤ 1125899906842624) : uB 0 m f (f.length : Nat) 0 = some ((f.map fun j => val f j.At).foldl mn m) := by
  obtain ⟨hl, hr⟩ := kT.1 hf
  unfold uB
  rw [nX (l := f) (body := fun s : Int × Int × Int => nC f (f.length : Nat) s.1 s.2.1 s.2.2) (fun (s : Int × Int) i => (s.1, s.2, i)) (fun s r => (parts s.1 r).foldl mn s.2)
    (fun s r => (∀ j ∈ r, j.Net ≤ 1048576 ∧ -1048576 ≤ j.Net) ∧ r.length ≤ 1024 ∧ s.1 ≤ 1048576 * (1024 - r.length) ∧ -(1048576 * (1024 - r.length)) ≤ s.1) (0, m) ?_ ?_ ?_]
  · simp only [Option.bind_some, uI, parts_eq hr, Int.zero_add]
  · rintro i a r ⟨v, m⟩ ha ⟨h1, h2, h3, h4⟩
    obtain ⟨d1, d2, d3, d4⟩ := idx ha (by omega)
    have hj := h1 a (List.mem_cons_self ..)
    simp only [List.length_cons] at h2 h3 h4
    have hw : IntKind.i64.wrap (v + a.Net) = v + a.Net := dV (by omega) (by omega)
    left
    refine ⟨(v + a.Net, mn m (v + a.Net)), ?_, ⟨fun j hj => h1 j (List.mem_cons_of_mem _ hj), by omega, by simp only; omega, by simp only; omega⟩, rfl⟩
    show nC f (f.length : Nat) v m i = _
    simp only [nC, d1, cond_true, bA d2, d3, d4, hw, mn]
  · rintro ⟨v, m⟩ _
    show nC f (f.length : Nat) v m (f.length : Nat) = _
    simp only [nC, dR, cond_false, parts, List.foldl_nil]
  · exact ⟨zO hf, hl, by simp only; omega, by simp only; omega⟩

theorem aA7 (f : List aB) : vJ f = some (if fZ f then rD f else 0) := by
  unfold vJ
  rw [NG]
  cases h : fZ f
  · simp
  · cases f with
    | nil => simp [rD, val]
    | cons j r =>
      obtain ⟨hl, hr⟩ := kT.1 h
      have hne : decide (((List.length (j :: r) : Nat) : Int) = 0) = false := by simp; omega
      simp only [Option.bind_some, Bool.not_true, Bool.false_or, hne, cond_false, bA aDy, aCV, if_true]
      have hj := hr.1
      unfold rD
      rw [aAq hr]
      by_cases e : j.At = -1
      · simp only [e, decide_true, cond_true, if_true, qV]
        exact NK h j.Net (by omega)
      · simp only [e, decide_false, cond_false, if_false, qV]
        exact NK h 0 (by omega)

theorem KY (f : List aB) : qS f = some (if fZ f then rD f else 0) := by
  unfold qS
  rw [IS]
  cases h : fZ f
  · simp
  · obtain ⟨hl, hr⟩ := kT.1 h
    simp only [Option.bind_some, Bool.not_true, cond_false, JJ h, if_true, wW]
    rw [nX (l := f) (body := fun s : Int × Int => mL f s.1 s.2) (fun m i => (m, i)) (fun m r => (r.map fun j => val f j.At).foldl mn m) (fun _ _ => True) (val f (-1)) ?_ ?_ trivial]
    · simp [sU, rD]
    · rintro i a r m ha _
      obtain ⟨d1, d2, d3, d4⟩ := idx ha (by omega)
      left
      refine ⟨mn m (val f a.At), ?_, trivial, rfl⟩
      show mL f m i = _
      simp only [mL, sD, d1, cond_true, bA d2, d3, d4, JJ h, Option.bind_some, mn]
      by_cases e : val f a.At < m <;> simp [e]
    · intro m _
      show mL f m (f.length : Nat) = _
      simp only [mL, dR, cond_false, List.map_nil, List.foldl_nil]

theorem JW {s t : Int} (hst : s ≤ t) : ∀ {f : List aB}, (∀ j ∈ f, ¬ (s < j.At ∧ j.At ≤ t)) → val f s = val f t
  | [], _ => rfl
  | j :: r, h => by
    have hj := h j (List.mem_cons_self ..)
    rw [dD, dD, JW hst (fun k hk => h k (List.mem_cons_of_mem _ hk))]
    by_cases e : j.At ≤ s
    · rw [if_pos e, if_pos (by omega)]
    · rw [if_neg e, if_neg (by omega)]

theorem YJ {f : List aB} (h : fZ f = true) : ∀ j ∈ f, -2 < j.At ∧ j.At < 1125899906842624 := fun j hj => by have := (kT.1 h).2.above j hj; omega

theorem aCx : fZ [] = true := by decide

end Go.Abs
namespace Go.Abs
open Go
theorem w1 : IntKind.i64.wrap (0 + 1) = 1 := by rw [dV] <;> omega

theorem w2 : IntKind.i64.wrap (1 + 1) = 2 := by rw [dV] <;> omega

theorem w3 : IntKind.i64.wrap (1 - 1) = 0 := by rw [dV] <;> omega

theorem v0 : IntKind.i64.wrap 0 = 0 := by rw [dV] <;> omega

theorem v1 : IntKind.i64.wrap 1 = 1 := by rw [dV] <;> omega

theorem v2 : IntKind.i64.wrap 2 = 2 := by rw [dV] <;> omega

theorem v3 : IntKind.i64.wrap (-1) = -1 := by rw [dV] <;> omega

end Go.Abs
namespace Go.Abs
open Go
theorem aBD (f : List aB) : (told f).1.length ≤ 1024 := by
  unfold told
  cases h : fZ f
  · simp
  · simpa using (kT.1 h).1

end Go.Abs
namespace Go.Abs
theorem aBy : @dU = @nZ aB _ := rfl

theorem aAD : @eA = @eE aB _ := rfl

theorem YH (cmp) : ∀ k, @gL cmp k = @eJ aB _ cmp k
  | 0 => rfl
  | k + 1 => by
    show eA cmp _ = eE cmp _
    rw [YH cmp k, aAD]

theorem aBN : @eP = @pO aB _ := by
  funext d a m b cmp
  unfold eP pO
  simp only [YH]

theorem VP : @fH = @zY aB _ := by
  funext d n cmp
  unfold fH zY iV BQ
  unfold iW mQ eY BU
  unfold iQ BR iJ jV
  unfold iS yE iX mS
  unfold fB yC
  rw [aBN, aBy]
  rfl

end Go.Abs
namespace Go.Abs
open Go
variable {α : Type} [Inhabited α]
noncomputable def pY (f1 : α → Option Bool) (s0 : (List α)) (t7 : Int) (t8 : Int) : Option ((Int) ⊕ (Unit ⊕ Int)) :=
  cond (decide (t8 < t7))
  (bI (0 ≤ t8 ∧ t8 < ((List.length s0 : Nat) : Int)) <|
  (f1 (List.getD s0 (Int.toNat t8) default)).bind fun x2 =>
  cond x2
  (some (.inr (.inr t8)))
  (some (.inl (IntKind.i64.wrap (t8 + (1 : Int))))))
  (some (.inr (.inl ())))

theorem DZ {l : List α} {f : α → Option Bool} {g : α → Bool} (hl : l.length ≤ 1099511627776) (hf : ∀ x ∈ l, f x = some (g x)) : ∀ (r : List α) (k : Nat), l.drop k = r → k ≤ l.length →
    ∃ x, lp (fun s => pY f l (l.length : Nat) s) (k : Int) = some x ∧ ((x = .inl () ∧ r.any g = false) ∨ (∃ i : Nat, x = .inr (i : Int) ∧ k ≤ i ∧ i < l.length ∧ r.any g = true ∧ g (l.getD i default) = true ∧ ∀ j, k ≤ j → j < i → g (l.getD j default) = false))
  | [], k, hd, hk => by
    have : k = l.length := by
      have := congrArg List.length hd
      simp only [List.length_drop, List.length_nil] at this; omega
    subst this
    refine ⟨.inl (), cM ?_, Or.inl ⟨rfl, rfl⟩⟩
    show pY f l _ _ = _
    simp only [pY, dR, cond_false]
  | a :: r, k, hd, hk => by
    obtain ⟨h1, h2⟩ := drop_cons hd
    have hlt : k < l.length := (List.getElem?_eq_some_iff.1 h1).1
    obtain ⟨d1, d2, d3, d4⟩ := idx h1 (by omega)
    have hga : l.getD k default = a := by rw [Int.toNat_natCast] at d3; exact d3
    have hb : (fun s => pY f l (l.length : Nat) s) (k : Int) = some (if g a then .inr (.inr (k : Int)) else .inl ((k + 1 : Nat) : Int)) := by
      show pY f l _ _ = _
      simp only [pY, d1, cond_true, bA d2, d3, d4, hf a (List.mem_of_getElem? h1), Option.bind_some]
      cases g a <;> simp
    cases hg : g a
    · rw [hg] at hb
      obtain ⟨x, e, hx⟩ := DZ hl hf r (k + 1) h2 (by omega)
      refine ⟨x, by rw [dL hb]; exact e, ?_⟩
      rcases hx with ⟨rfl, h⟩ | ⟨i, rfl, h3, h4, h5, h6, h7⟩
      · exact Or.inl ⟨rfl, by simp [hg, h]⟩
      · refine Or.inr ⟨i, rfl, by omega, h4, by simp [h5], h6, fun j hj hj' => ?_⟩
        by_cases e : j = k
        · subst e; rw [hga, hg]
        · exact h7 j (by omega) hj'
    · rw [hg] at hb
      exact ⟨.inr (k : Int), cM hb, Or.inr ⟨k, rfl, Nat.le_refl _, hlt, by simp [hg], by rw [hga, hg], fun j h h' => by omega⟩⟩

end Go.Abs
namespace Go.Abs
open Go
theorem JS {l : List aB} {f : aB → Option Bool} {g : aB → Bool} (hl : l.length ≤ 1099511627776) (hf : ∀ x ∈ l, f x = some (g x)) : dA l f = some (l.any g) := by
  unfold dA fU fJ
  obtain ⟨x, e, hx⟩ := DZ hl hf l 0 rfl (Nat.zero_le _)
  have e' : lp (fun s => fK f l (l.length : Nat) s) 0 = some x := e
  rw [e']
  rcases hx with ⟨rfl, h⟩ | ⟨i, rfl, _, _, h, _⟩
  · simp [dY, h]
  · simp [h]

def xZ (j : aB) : Bool := !DE j.Net

def EM (j : aB) : Bool := decide (j.At < -1) || decide (1125899906842624 < j.At)

def HR (l : List aB) : List aB := BO 0 ((OX [] (l.filter fun j => decide (j.At < 1125899906842624))).map fun p => (p, val l p))

def mY (l : List aB) : List aB × Int := if l.any xZ then ([], 2) else if l.any EM then ([], 13) else told (HR l)

def CS (p n : Int) : List aB := if n ≠ 0 ∧ p < 1125899906842624 then [⟨p, n⟩] else []

def xO (p n : Int) : List aB → List aB
  | [] => CS p n
  | j :: r => if j.At = p then xO p (n + j.Net) r else CS p n ++ xO j.At j.Net r

def grp : List aB → List aB
  | [] => []
  | j :: r => xO j.At j.Net r

abbrev TQ (a b : aB) : Prop := a.At ≤ b.At

theorem MB {t : Int} (ht : t < 1125899906842624) : ∀ {r : List aB} {p n : Int}, val (xO p n r) t = (if p ≤ t then n else 0) + val r t
  | [], p, n => by
    unfold xO CS
    split
    · rw [dD, sV]
    · rw [sV]; split <;> omega
  | j :: r, p, n => by
    unfold xO
    split
    · rename_i h
      rw [MB ht, dD, h]; split <;> omega
    · rw [DB, MB ht, dD]
      have : val (CS p n) t = if p ≤ t then n else 0 := by
        unfold CS
        split
        · rw [dD, sV]; simp
        · rw [sV]; split <;> omega
      rw [this]

theorem aCt {t : Int} (ht : t < 1125899906842624) : ∀ {r : List aB}, val (grp r) t = val r t
  | [] => rfl
  | j :: r => by unfold grp; rw [MB ht, dD]

theorem PO : ∀ {r : List aB} {p n last : Int}, last < p → (∀ j ∈ r, p ≤ j.At) → Srt TQ r → Up last (xO p n r)
  | [], p, n, last, h, _, _ => by
    unfold xO CS
    split
    · rename_i h'; exact ⟨⟨h, h'.2, h'.1⟩, trivial⟩
    · trivial
  | j :: r, p, n, last, h, hp, hs => by
    have hj := hp j (by simp)
    have hs' := List.pairwise_cons.1 hs
    unfold xO
    split
    · exact PO h (fun k hk => hp k (by simp [hk])) hs'.2
    · have ih : Up p (xO j.At j.Net r) := PO (by omega) (fun k hk => hs'.1 k hk) hs'.2
      unfold CS
      split
      · rename_i h'; exact ⟨⟨h, h'.2, h'.1⟩, ih⟩
      · exact ih.weaken (by omega)

theorem aCY {r : List aB} (h : ∀ j ∈ r, -2 < j.At) (hs : Srt TQ r) : Up (-2) (grp r) := by
  cases r with
  | nil => trivial
  | cons j r =>
    have hs' := List.pairwise_cons.1 hs
    exact PO (h j (by simp)) (fun k hk => hs'.1 k hk) hs'.2

theorem VA {l out : List aB} (hl : l.length ≤ 1099511627776) (hb : ∀ j ∈ l, j.Net ≤ 1048576 ∧ -1048576 ≤ j.Net) : ∀ (r : List aB) (k : Nat) (p n : Int), l.drop k = r → k ≤ l.length → n ≤ 1048576 * k → -(1048576 * k) ≤ n →
    ∃ n' k', k ≤ k' ∧ k' ≤ l.length ∧ xO p n r = CS p n' ++ grp (l.drop k') ∧ lp (fun s : List aB × List aB × Int × aB => jT s.1 s.2.1 s.2.2.1 s.2.2.2) (l, out, (k : Int), ⟨p, n⟩) = some (l, out, ((k' : Nat) : Int), ⟨p, n'⟩) ∧ (∀ j r', r = j :: r' → j.At = p → k < k')
  | [], k, p, n, hd, hk, _, _ => by
    have : k = l.length := by
      have := congrArg List.length hd
      simp only [List.length_drop, List.length_nil] at this; omega
    subst this
    refine ⟨n, l.length, Nat.le_refl _, Nat.le_refl _, by simp [xO, grp], cM ?_, fun j r' h => by cases h⟩
    show jT _ _ _ _ = _
    simp only [jT, dR, Bool.false_and, cond_false]
    exact bA (fun h => by cases h)
  | a :: r, k, p, n, hd, hk, h1, h2 => by
    obtain ⟨e1, e2⟩ := drop_cons hd
    have hlt : k < l.length := (List.getElem?_eq_some_iff.1 e1).1
    obtain ⟨d1, d2, d3, d4⟩ := idx e1 (by omega)
    have ha := hb a (List.mem_of_getElem? e1)
    by_cases h : a.At = p
    · have hw : IntKind.i64.wrap (n + a.Net) = n + a.Net := dV (by omega) (by omega)
      obtain ⟨n', k', k1, k2, k3, k4, _⟩ := VA hl hb r (k + 1) p (n + a.Net) e2 (by omega) (by omega) (by omega) (out := out)
      refine ⟨n', k', by omega, k2, by simp [xO, h, k3], ?_, fun _ _ _ _ => by omega⟩
      have hb : (fun s : List aB × List aB × Int × aB => jT s.1 s.2.1 s.2.2.1 s.2.2.2) (l, out, (k : Int), ⟨p, n⟩) = some (.inl (l, out, ((k + 1 : Nat) : Int), ⟨p, n + a.Net⟩)) := by
        show jT _ _ _ _ = _
        simp only [jT, d1, Bool.true_and, d3, d4, h, decide_true, cond_true, hw]
        rw [bA (fun _ => d2), bA d2]
      rw [dL hb, k4]
    · refine ⟨n, k, Nat.le_refl _, hk, ?_, cM ?_, fun j r' he hp => ?_⟩
      · rw [hd]; simp [xO, h, grp]
      · show jT _ _ _ _ = _
        simp only [jT, d1, Bool.true_and, d3, h, decide_false, cond_false]
        exact bA (fun _ => d2)
      · cases he; exact absurd hp h

theorem aBk {l : List aB} (hl : l.length ≤ 1099511627776) (hb : ∀ j ∈ l, j.Net ≤ 1048576 ∧ -1048576 ≤ j.Net) : ∀ (m k : Nat) (out : List aB), l.length - k ≤ m → k ≤ l.length → out.length ≤ k →
    lp (fun s : List aB × List aB × Int => lQ s.1 s.2.1 s.2.2) (l, out, (k : Int)) = some (out ++ grp (l.drop k)) := by
  have stop : ∀ out, lp (fun s : List aB × List aB × Int => lQ s.1 s.2.1 s.2.2) (l, out, ((l.length : Nat) : Int)) = some (out ++ grp (l.drop l.length)) := by
    intro out
    refine cM ?_
    show lQ _ _ _ = _
    simp only [lQ, dR, cond_false]
    simp [grp]
  intro m
  induction m with
  | zero =>
    intro k out hm hk _
    have : k = l.length := by omega
    subst this; exact stop out
  | succ m ih =>
    intro k out hm hk ho
    by_cases he : k = l.length
    · subst he; exact stop out
    · have hlt : k < l.length := by omega
      have hd : l.drop k = l[k] :: l.drop (k + 1) := List.drop_eq_getElem_cons hlt
      obtain ⟨d1, d2, d3, d4⟩ := idx (List.getElem?_eq_getElem hlt) (by omega)
      obtain ⟨n', k', k1, k2, k3, k4, k5⟩ := VA hl hb (l.drop k) k l[k].At 0 rfl hk (by omega) (by omega) (out := out)
      have hk' := k5 _ _ hd rfl
      have hbod : (fun s : List aB × List aB × Int => lQ s.1 s.2.1 s.2.2) (l, out, (k : Int)) = some (.inl (l, out ++ CS l[k].At n', ((k' : Nat) : Int))) := by
        show lQ _ _ _ = _
        simp only [lQ, d1, cond_true, bA d2, d3, AL, k4, Option.bind_some, vU]
        unfold CS
        by_cases c : n' ≠ 0 ∧ l[k].At < 1125899906842624
        · have hc : (!decide (n' = 0) && decide (l[k].At < 1125899906842624)) = true := by simp [c]
          rw [hc, cond_true, if_pos c, bA (by simp only [List.length_cons, List.length_nil]; omega)]
        · have hc : (!decide (n' = 0) && decide (l[k].At < 1125899906842624)) = false := by
            rw [Bool.eq_false_iff]; intro h; apply c; simpa using h
          rw [hc, cond_false, if_neg c]; simp
      have hfl : (CS l[k].At n').length ≤ 1 := by unfold CS; split <;> simp
      rw [dL hbod, ih k' _ (by omega) k2 (by simp only [List.length_append]; omega)]
      have hg : grp (l.drop k) = xO l[k].At 0 (l.drop k) := by rw [hd]; simp [grp, xO]
      rw [hg, k3]; simp

theorem aCD (a b : aB) : nG a b = some (if a.At < b.At then -1 else if b.At < a.At then 1 else 0) := by
  unfold nG jL oQ
  by_cases h1 : a.At < b.At
  · simp [h1]
  · by_cases h2 : b.At < a.At <;> simp [h1, h2]

theorem aDx : Cmp (fun _ => True) TQ (fun y0 y1 => nG y0 y1) where
  ans x y _ _ := ⟨_, aCD x y, by unfold TQ; split <;> (try split) <;> omega⟩
  trans x y z _ _ _ h1 h2 := Int.le_trans h1 h2
  total x y _ _ := Int.le_total x.At y.At

theorem aDt {l : List aB} (hl : l.length ≤ 1099511627776) : ∃ r, r.Perm l ∧ Srt TQ r ∧ dK l (fun y0 y1 => nG y0 y1) = some r := by
  obtain ⟨r, r1, r2, r3⟩ := RA aDx (d := l) (fun _ _ => trivial) hl
  refine ⟨r, r1, r2, ?_⟩
  unfold dK
  rw [VP, r3]; rfl

theorem SS {f g : List aB} (h : f.Perm g) (t : Int) : val f t = val g t := by
  induction h with
  | nil => rfl
  | cons x _ ih => rw [dD, dD, ih]
  | swap x y l => rw [dD, dD, dD, dD]; omega
  | trans _ _ ih1 ih2 => rw [ih1, ih2]

theorem ZE {l : List aB} (h : l.any xZ = false) : ∀ j ∈ l, j.Net ≤ 1048576 ∧ -1048576 ≤ j.Net := by
  intro j hj
  have := List.any_eq_false.1 h j hj
  simp [xZ, DE] at this
  omega

theorem EN {l : List aB} (h : l.any EM = false) : ∀ j ∈ l, -2 < j.At ∧ j.At ≤ 1125899906842624 := by
  intro j hj
  have := List.any_eq_false.1 h j hj
  simp [EM] at this
  omega

theorem JZ {l : List aB} (ht : ∀ j ∈ l, -2 < j.At) : Inc (-2) (OX [] (l.filter fun j => decide (j.At < 1125899906842624))) :=
  UT (ps := []) (show Inc (-2) [] from trivial) fun j hj => by
    obtain ⟨h1, h2⟩ := List.mem_filter.1 hj
    exact ⟨ht j h1, by simpa using h2⟩

theorem LX {l h : List aB} (ht : ∀ j ∈ l, -2 < j.At) (hh : Up (-2) h) (hv : ∀ t, -2 < t → t < 1125899906842624 → val h t = val l t) : HR l = h := by
  refine aBF (F := val l) (CN fun j hj => ht j hj) (JZ ht) ?_ hh hv
  intro s t _ hst h2 hn
  exact JW hst fun j hj hc => hn j.At (LY.2 (Or.inr ⟨j, List.mem_filter.2 ⟨hj, by simp; omega⟩, rfl⟩)) hc

theorem norm_eq {l : List aB} (hl : l.length ≤ 1099511627776) : xV l = some (mY l) := by
  unfold xV mY
  rw [JS (g := xZ) hl (fun x _ => by simp [uG, XF, xZ])]
  simp only [Option.bind_some]
  cases h1 : l.any xZ
  · rw [JS (f := fun y0 => uF y0) (g := EM) hl (fun x _ => rfl)]
    simp only [cond_false, Option.bind_some, Bool.false_eq_true, if_false]
    cases h2 : l.any EM
    · simp only [cond_false, Bool.false_eq_true, if_false]
      have hc : eZ l = some l := by unfold eZ; exact bA ⟨by omega, by omega⟩
      obtain ⟨r, r1, r2, r3⟩ := aDt hl
      rw [hc]
      simp only [Option.bind_some]
      rw [r3]
      simp only [Option.bind_some, AG]
      have hlr : r.length ≤ 1099511627776 := by rw [r1.length_eq]; exact hl
      have := aBk hlr (fun j hj => ZE h1 j (r1.mem_iff.1 hj)) r.length 0 [] (by omega) (by omega) (by simp)
      simp only [Int.natCast_zero, List.drop_zero, List.nil_append] at this
      rw [this]
      simp only [Option.bind_some, wF, aBo]
      rw [LX (fun j hj => (EN h2 j hj).1) (aCY (fun j hj => (EN h2 j (r1.mem_iff.1 hj)).1) r2) (fun t _ ht => by rw [aCt ht, SS r1])]
    · simp
  · simp

end Go.Abs
namespace Go.Abs
open Go
theorem QW (x y : ByteArray) : oJ x y = decide (x = y) := by
  unfold oJ
  rw [ByteArray.toList_eq, ByteArray.toList_eq]
  by_cases h : x = y
  · simp [h]
  · have : x.data.toList ≠ y.data.toList := by
      intro he
      apply h
      cases x; cases y
      congr 1
      exact Array.toList_inj.1 he
    have h2 : (x.data.toList == y.data.toList) = false := by simpa using this
    rw [h2]; simp [h]

theorem veq (a b : aF) : ((decide (a.Kind = b.Kind)) && ((decide (a.Num = b.Num)) && ((oJ a.Text b.Text) && true))) = decide (a = b) := by
  rw [QW]
  obtain ⟨a1, a2, a3⟩ := a
  obtain ⟨b1, b2, b3⟩ := b
  by_cases h1 : a1 = b1 <;> by_cases h2 : a2 = b2 <;> by_cases h3 : a3 = b3 <;> simp [h1, h2, h3]

def FI (v : aF) : Bool := decide (v.Kind = 1) && oJ v.Text (⟨#[]⟩ : ByteArray)

def EY (v : aF) : Bool := ((decide (v.Kind = 2)) && (decide (v.Num = 0))) && (decide (((ByteArray.size v.Text : Nat) : Int) ≤ 64))

def tQ (v : aF) : Bool := FI v || EY v

def fX (r : List aF) : Bool := decide (r.length ≤ 8) && r.all tQ

theorem of_eq (v : aF) : lX v = some (if FI v then (.k_number v.Num, true) else if EY v then (.k_words v.Text, true) else (.none_, false)) := by
  unfold lX FI EY
  cases (decide (v.Kind = 1) && oJ v.Text (⟨#[]⟩ : ByteArray)) <;> cases (((decide (v.Kind = 2)) && (decide (v.Num = 0))) && (decide (((ByteArray.size v.Text : Nat) : Int) ≤ 64))) <;> rfl

theorem aCl (v : aF) : yD v = some (tQ v) := by
  unfold yD tQ
  rw [of_eq]
  cases FI v <;> cases EY v <;> rfl

theorem MR (v : aF) : rW v = some (tQ v) := by
  unfold rW tQ FI EY
  by_cases h : v.Kind = 1
  · simp [h]
  · simp [h]

theorem SW {l : List aF} {f : aF → Option Bool} {g : aF → Bool} (hl : l.length ≤ 1099511627776) (hf : ∀ x ∈ l, f x = some (g x)) : dO l f = some (l.any g) := by
  unfold dO fT fL
  obtain ⟨x, e, hx⟩ := DZ hl hf l 0 rfl (Nat.zero_le _)
  have e' : lp (fun s => fN f l (l.length : Nat) s) 0 = some x := e
  rw [e']
  rcases hx with ⟨rfl, h⟩ | ⟨i, rfl, _, _, h, _⟩
  · simp [dZ, h]
  · simp [h]

theorem GJ (r : List aF) : rC r = some (fX r) := by
  unfold rC fX
  by_cases h : r.length ≤ 8
  · have h1 : decide ((8 : Int) < ((r.length : Nat) : Int)) = false := by simp; omega
    rw [h1, cond_false, SW (g := fun v => !tQ v) (by omega) (fun x _ => by simp [yH, aCl])]
    simp only [Option.bind_some, h, decide_true, Bool.true_and]
    congr 1
    rw [List.all_eq_not_any_not]
  · have h1 : decide ((8 : Int) < ((r.length : Nat) : Int)) = true := by simp; omega
    rw [h1, cond_true]
    simp [h]

theorem HS (r : List aF) (hl : r.length ≤ 1099511627776 * 16) : rT r = some (fX r) := by
  unfold rT AK
  have hl9 : (r.take 9).length ≤ 9 := by simp; omega
  rw [OA (l := r.take 9) (fun i => i) (fun v => !tQ v) (.inr false) (.inl ()) ?_ ?_]
  · unfold fX
    by_cases h : r.length ≤ 8
    · have ht : r.take 9 = r := List.take_of_length_le (by omega)
      rw [ht, List.all_eq_not_any_not]
      cases h1 : (r.any fun v => !tQ v)
      · have : ((r.length : Nat) : Int) ≤ 8 := by omega
        simp [sH, this, h]
      · simp
    · cases h1 : ((r.take 9).any fun v => !tQ v)
      · have : ¬ ((r.length : Nat) : Int) ≤ 8 := by omega
        simp [sH, this, h]
      · simp [h]
  · intro i a ha
    have hi : i < (r.take 9).length := (List.getElem?_eq_some_iff.1 ha).1
    have hi2 : i < r.length := by simp at hi; omega
    have ha2 : r[i]? = some a := by
      rw [List.getElem?_take] at ha
      split at ha
      · exact ha
      · cases ha
    obtain ⟨d1, d2, d3, d4⟩ := idx ha2 (by omega)
    have h9 : decide ((i : Int) < 9) = true := by simp; omega
    show pZ r i = _
    simp only [pZ, d1, h9, Bool.and_self, cond_true, bA d2, d3, d4, MR, Option.bind_some]
    cases tQ a <;> simp
  · show pZ r _ = _
    have : ((decide ((((r.take 9).length : Nat) : Int) < ((r.length : Nat) : Int))) && (decide ((((r.take 9).length : Nat) : Int) < 9))) = false := by
      rw [Bool.and_eq_false_iff]
      by_cases h : r.length ≤ 8
      · left; simp; omega
      · right; simp; omega
    simp only [pZ, this, cond_false]

theorem KH {α : Type} [DecidableEq α] {f g : List α} {body : Int → Option (Int ⊕ (Unit ⊕ Bool))} (he : f.length = g.length)
    (hb : ∀ (i : Nat) a b, f[i]? = some a → g[i]? = some b → body i = some (if a = b then .inl ((i + 1 : Nat) : Int) else .inr (.inr false)))
    (hend : body (f.length : Nat) = some (.inr (.inl ()))) : ∀ (m k : Nat), f.length - k = m → k ≤ f.length → lp body (k : Int) = some (if f.drop k = g.drop k then .inl () else .inr false)
  | 0, k, hm, hk => by
    have : k = f.length := by omega
    subst this
    rw [List.drop_length, he, List.drop_length, if_pos rfl]
    rw [← he]
    exact cM hend
  | m + 1, k, hm, hk => by
    have h1 : k < f.length := by omega
    have h2 : k < g.length := by omega
    have hbk := hb k _ _ (List.getElem?_eq_getElem h1) (List.getElem?_eq_getElem h2)
    have e1 : f.drop k = f[k] :: f.drop (k + 1) := List.drop_eq_getElem_cons h1
    have e2 : g.drop k = g[k] :: g.drop (k + 1) := List.drop_eq_getElem_cons h2
    have hiff : (f.drop k = g.drop k) ↔ (f[k] = g[k] ∧ f.drop (k + 1) = g.drop (k + 1)) := by rw [e1, e2, List.cons.injEq]
    by_cases h : f[k] = g[k]
    · rw [if_pos h] at hbk
      rw [dL hbk, KH he hb hend m (k + 1) (by omega) (by omega)]
      simp only [hiff, h, true_and]
    · rw [if_neg h] at hbk
      rw [cM hbk]
      simp only [hiff, h, false_and, if_false]

theorem IK {α : Type} {f g : List α} (h : f.length ≠ g.length) : (!decide (((f.length : Nat) : Int) = ((g.length : Nat) : Int))) = true := by simp; omega

theorem KC {α : Type} {f g : List α} (h : f.length = g.length) : (!decide (((f.length : Nat) : Int) = ((g.length : Nat) : Int))) = false := by simp [h]

theorem NZ (a b : List aF) (hl : a.length ≤ 17592186044416) : xF a b = some (decide (a = b)) := by
  unfold xF iT
  by_cases he : a.length = b.length
  · rw [KC he, cond_false]
    unfold iB
    have := KH (f := a) (g := b) (body := fun s => dQ a b (a.length : Nat) s) he ?_ ?_ a.length 0 rfl (Nat.zero_le _)
    · simp only [Int.natCast_zero, List.drop_zero] at this
      rw [this]
      by_cases h : a = b <;> simp [h, eN]
    · intro i x y hx hy
      obtain ⟨d1, d2, d3, d4⟩ := idx hx (by omega)
      obtain ⟨_, e2, e3, _⟩ := idx hy (by omega)
      simp only [dQ, d1, cond_true, bA d2, bA e2, d3, e3, d4, veq]
      by_cases h : x = y <;> simp [h]
    · simp only [dQ, dR, cond_false]
  · rw [IK he, cond_true]
    have : a ≠ b := fun h => he (by rw [h])
    simp [this]

theorem yN (a b : List aF) (hl : a.length ≤ 17592186044416) : oN a b = some (decide (a = b)) := by
  unfold oN
  by_cases he : a.length = b.length
  · rw [KC he, cond_false]
    unfold zC
    have := KH (f := a) (g := b) (body := fun s => qT a b s) he ?_ ?_ a.length 0 rfl (Nat.zero_le _)
    · simp only [Int.natCast_zero, List.drop_zero] at this
      rw [this]
      by_cases h : a = b <;> simp [h, uC]
    · intro i x y hx hy
      obtain ⟨d1, d2, d3, d4⟩ := idx hx (by omega)
      obtain ⟨_, e2, e3, _⟩ := idx hy (by omega)
      simp only [qT, d1, cond_true, bA d2, bA e2, d3, e3, d4, veq]
      by_cases h : x = y <;> simp [h]
    · simp only [qT, dR, cond_false]
  · rw [IK he, cond_true]
    have : a ≠ b := fun h => he (by rw [h])
    simp [this]

structure IM {α : Type} (c : α → α → Int) : Prop where
  eq : ∀ a b, c a b = 0 ↔ a = b
  anti : ∀ a b, c a b < 0 ↔ 0 < c b a
  trans : ∀ a b d, c a b < 0 → c b d < 0 → c a d < 0

def nM (x y : Int) : Int := if x < y then -1 else if y < x then 1 else 0

theorem DU : IM nM where
  eq a b := by unfold nM; (repeat' split) <;> omega
  anti a b := by unfold nM; (repeat' split) <;> omega
  trans a b d := by unfold nM; (repeat' split) <;> omega

def fR {α : Type} [DecidableEq α] (c : α → α → Int) : List α → List α → Int
  | [], [] => 0
  | [], _ :: _ => -1
  | _ :: _, [] => 1
  | a :: r, b :: s => if a = b then fR c r s else c a b

theorem IM.list {α : Type} [DecidableEq α] {c : α → α → Int} (h : IM c) : IM (fR c) where
  eq := by
    intro a
    induction a with
    | nil => intro b; cases b <;> simp [fR]
    | cons x r ih =>
      intro b
      cases b with
      | nil => simp [fR]
      | cons y s =>
        unfold fR
        split
        · rename_i e; subst e; rw [ih]; simp
        · rename_i e
          have := h.eq x y
          constructor
          · intro h0; exact absurd (this.1 h0) e
          · intro h0; cases h0; exact absurd rfl e
  anti := by
    intro a
    induction a with
    | nil => intro b; cases b <;> simp [fR]
    | cons x r ih =>
      intro b
      cases b with
      | nil => simp [fR]
      | cons y s =>
        unfold fR
        by_cases e : x = y
        · subst e; simp only [if_true]; exact ih s
        · rw [if_neg e, if_neg (fun e' => e e'.symm)]; exact h.anti x y
  trans := by
    intro a
    induction a with
    | nil =>
      intro b d
      cases b <;> cases d <;> simp [fR]
    | cons x r ih =>
      intro b d
      cases b with
      | nil => simp [fR]
      | cons y s =>
        cases d with
        | nil => simp [fR]
        | cons z t =>
          unfold fR
          by_cases e1 : x = y
          · subst e1
            rw [if_pos rfl]
            by_cases e2 : x = z
            · subst e2; rw [if_pos rfl, if_pos rfl]; exact ih s t
            · rw [if_neg e2, if_neg e2]; exact fun _ h => h
          · rw [if_neg e1]
            by_cases e2 : y = z
            · have hz : ¬ x = z := fun e => e1 (e.trans e2.symm)
              intro h _
              rw [if_neg hz, ← e2]; exact h
            · rw [if_neg e2]
              intro h1 h2
              by_cases e3 : x = z
              · subst e3
                have h3 := (h.anti x y).1 h1
                omega
              · rw [if_neg e3]; exact h.trans x y z h1 h2

def CT (a b : UInt8) : Int := if a < b then -1 else if b < a then 1 else 0

theorem LV : IM CT where
  eq a b := by
    unfold CT
    constructor
    · intro h
      split at h
      · cases h
      · split at h
        · cases h
        · rename_i h1 h2
          rw [UInt8.lt_iff_toNat_lt] at h1 h2
          exact UInt8.toNat_inj.1 (by omega)
    · rintro rfl
      have : ¬ a < a := by rw [UInt8.lt_iff_toNat_lt]; omega
      simp [this]
  anti a b := by
    unfold CT
    simp only [UInt8.lt_iff_toNat_lt]
    (repeat' split) <;> omega
  trans a b d := by
    unfold CT
    simp only [UInt8.lt_iff_toNat_lt]
    (repeat' split) <;> omega

theorem FC : ∀ (a b : List UInt8), Go.Lib.compareBytes a b = fR CT a b
  | [], [] => rfl
  | [], _ :: _ => rfl
  | _ :: _, [] => rfl
  | a :: r, b :: s => by
    unfold Go.Lib.compareBytes fR
    rw [FC r s]
    by_cases e : a = b
    · subst e
      have : ¬ a < a := by rw [UInt8.lt_iff_toNat_lt]; omega
      simp [this]
    · rw [if_neg e]
      unfold CT
      have : ¬ (¬ a < b ∧ ¬ b < a) := by
        rintro ⟨h1, h2⟩
        rw [UInt8.lt_iff_toNat_lt] at h1 h2
        exact e (UInt8.toNat_inj.1 (by omega))
      by_cases h1 : a < b
      · simp [h1]
      · have h2 : b < a := Classical.byContradiction fun h2 => this ⟨h1, h2⟩
        simp [h1, h2]

def PA (a b : ByteArray) : Int := fR CT a.data.toList b.data.toList

theorem aCd (a b : ByteArray) : PD a b = PA a b := FC _ _

theorem data_inj {x y : ByteArray} (h : x.data.toList = y.data.toList) : x = y := by
  cases x; cases y
  congr 1
  exact Array.toList_inj.1 h

theorem HA : IM PA where
  eq a b := by unfold PA; rw [(LV.list).eq]; exact ⟨data_inj, fun h => by rw [h]⟩
  anti a b := (LV.list).anti _ _
  trans a b d := (LV.list).trans _ _ _

def zR (a b : aF) : Int := if a.Kind = b.Kind then (if a.Num = b.Num then PA a.Text b.Text else nM a.Num b.Num) else nM a.Kind b.Kind

theorem HD : IM zR where
  eq a b := by
    obtain ⟨a1, a2, a3⟩ := a
    obtain ⟨b1, b2, b3⟩ := b
    unfold zR
    simp only [aF.mk.injEq]
    by_cases h1 : a1 = b1
    · by_cases h2 : a2 = b2
      · simp [h1, h2, HA.eq]
      · simp [h1, h2, DU.eq]
    · simp [h1, DU.eq]
  anti a b := by
    unfold zR
    by_cases h1 : a.Kind = b.Kind
    · rw [if_pos h1, if_pos h1.symm]
      by_cases h2 : a.Num = b.Num
      · rw [if_pos h2, if_pos h2.symm]; exact HA.anti _ _
      · rw [if_neg h2, if_neg (fun h => h2 h.symm)]; exact DU.anti _ _
    · rw [if_neg h1, if_neg (fun h => h1 h.symm)]; exact DU.anti _ _
  trans a b d := by
    unfold zR
    intro h1 h2
    have lt : ∀ {x y : Int}, nM x y < 0 → x < y := fun {x y} h => by unfold nM at h; split at h <;> (try split at h) <;> omega
    have mk : ∀ {x y : Int}, x < y → nM x y < 0 := fun {x y} h => by unfold nM; rw [if_pos h]; omega
    by_cases e1 : a.Kind = b.Kind
    · rw [if_pos e1] at h1
      by_cases e2 : b.Kind = d.Kind
      · rw [if_pos e2] at h2
        rw [if_pos (e1.trans e2)]
        by_cases f1 : a.Num = b.Num
        · rw [if_pos f1] at h1
          by_cases f2 : b.Num = d.Num
          · rw [if_pos f2] at h2
            rw [if_pos (f1.trans f2)]
            exact HA.trans _ _ _ h1 h2
          · rw [if_neg f2] at h2
            rw [f1, if_neg f2]; exact h2
        · rw [if_neg f1] at h1
          have g1 := lt h1
          by_cases f2 : b.Num = d.Num
          · rw [← f2, if_neg f1]; exact h1
          · rw [if_neg f2] at h2
            have g2 := lt h2
            rw [if_neg (by omega)]
            exact mk (by omega)
      · rw [if_neg e2] at h2
        rw [e1, if_neg e2]; exact h2
    · rw [if_neg e1] at h1
      have g1 := lt h1
      by_cases e2 : b.Kind = d.Kind
      · rw [← e2, if_neg e1]; exact h1
      · rw [if_neg e2] at h2
        have g2 := lt h2
        rw [if_neg (by omega)]
        exact mk (by omega)

def dW (a b : List aF) : Int := fR zR a b

theorem iA : IM dW := HD.list

end Go.Abs
namespace Go.Abs
open Go
theorem RB (x y : Int) : jL x y = some (nM x y) := by
  unfold jL oQ nM
  by_cases h1 : x < y
  · simp [h1]
  · by_cases h2 : y < x <;> simp [h1, h2]

theorem aAS (x y : Int) : eH x y = some (nM x y) := by
  unfold eH jS nM
  by_cases h1 : x < y
  · simp [h1]
  · by_cases h2 : y < x <;> simp [h1, h2]

theorem DS {v : aF} (h : FI v = true) : v.Kind = 1 ∧ v.Text = (⟨#[]⟩ : ByteArray) := by
  simp only [FI, QW, Bool.and_eq_true, decide_eq_true_eq] at h; exact h

theorem BM {v : aF} (h : EY v = true) : v.Kind = 2 ∧ v.Num = 0 ∧ v.Text.size ≤ 64 := by
  simp only [EY, Bool.and_eq_true, decide_eq_true_eq] at h; exact ⟨h.1.1, h.1.2, by omega⟩

theorem KM {v : aF} (h : tQ v = true) : FI v = true ∨ (FI v = false ∧ EY v = true) := by
  unfold tQ at h
  cases hn : FI v
  · rw [hn] at h; exact .inr ⟨rfl, by simpa using h⟩
  · exact .inl rfl

theorem aAG (a : ByteArray) : PA a a = 0 := (HA.eq a a).2 rfl

theorem EX (a : Int) : nM a a = 0 := (DU.eq a a).2 rfl

theorem aAN {a b : aF} (ha : tQ a = true) (hb : tQ b = true) : rN a b = some (zR a b) := by
  unfold rN
  simp only [of_eq, Option.bind_some]
  rcases KM ha with h1 | ⟨h1, h1'⟩ <;> rcases KM hb with h2 | ⟨h2, h2'⟩
  · obtain ⟨k1, t1⟩ := DS h1
    obtain ⟨k2, t2⟩ := DS h2
    simp only [h1, h2, if_true, Bool.not_true, Bool.or_self, cond_false, aAS, Option.bind_some]
    unfold zR
    rw [k1, k2, t1, t2, if_pos rfl, aAG]
    by_cases hn : a.Num = b.Num
    · rw [if_pos hn, hn, EX]
    · rw [if_neg hn]
  · obtain ⟨k1, t1⟩ := DS h1
    obtain ⟨k2, n2, _⟩ := BM h2'
    simp only [h1, h2, h2', if_true, Bool.false_eq_true, if_false, Bool.not_true, Bool.or_self, cond_false]
    unfold zR
    rw [k1, k2]; rfl
  · obtain ⟨k1, n1, _⟩ := BM h1'
    obtain ⟨k2, t2⟩ := DS h2
    simp only [h1, h1', h2, if_true, Bool.false_eq_true, if_false, Bool.not_true, Bool.or_self, cond_false]
    unfold zR
    rw [k1, k2]; rfl
  · obtain ⟨k1, n1, _⟩ := BM h1'
    obtain ⟨k2, n2, _⟩ := BM h2'
    simp only [h1, h1', h2, h2', if_true, Bool.false_eq_true, if_false, Bool.not_true, Bool.or_self, cond_false]
    unfold zR mZ iO
    rw [k1, k2, n1, n2, if_pos rfl, if_pos rfl]
    simp [aCd]

theorem xB {r : List aF} (h : fX r = true) : r.length ≤ 8 ∧ ∀ v ∈ r, tQ v = true := by
  simp only [fX, Bool.and_eq_true, decide_eq_true_eq, List.all_eq_true] at h; exact h

theorem US {a b : List aF} {k : Nat} (hk : k = a.length ∨ k = b.length) (h1 : k ≤ a.length) (h2 : k ≤ b.length) : dW (a.drop k) (b.drop k) = nM a.length b.length := by
  rcases hk with rfl | rfl
  · rw [List.drop_length]
    by_cases h : a.length = b.length
    · rw [h, List.drop_length, EX]; rfl
    · rw [List.drop_eq_getElem_cons (by omega)]
      show (-1 : Int) = _
      unfold nM; rw [if_pos (by omega)]
  · rw [List.drop_length]
    by_cases h : a.length = b.length
    · rw [← h, List.drop_length, EX]; rfl
    · rw [List.drop_eq_getElem_cons (by omega)]
      show (1 : Int) = _
      unfold nM; rw [if_neg (by omega), if_pos (by omega)]

theorem XP {a b : List aF} (hl : a.length ≤ 8) (hlb : b.length ≤ 8) (n : Nat) (hn : n = min a.length b.length) : ∀ (m k : Nat), n - k = m → k ≤ n →
    ∃ x, lp (fun s : Int × Int => cB (fun st y0 => (jK y0 st b).bind fun o => some (o.2, o.1)) (a.take n) (n : Nat) s.1 s.2) ((k : Int) - 1, (k : Int)) = some x ∧
      ((∃ sg, x = .inl sg ∧ dW (a.drop k) (b.drop k) = nM a.length b.length) ∨
        (∃ i : Nat, x = .inr ((i : Int), (i : Int)) ∧ i < a.length ∧ i < b.length ∧ dW (a.drop k) (b.drop k) = zR (a.getD i default) (b.getD i default)))
  | 0, k, hm, hk => by
    have : k = n := by omega
    subst this
    refine ⟨.inl ((k : Int) - 1), cM ?_, .inl ⟨_, rfl, US (by omega) (by omega) (by omega)⟩⟩
    show cB _ _ _ _ _ = _
    simp only [cB, dR, cond_false]
  | m + 1, k, hm, hk => by
    have h1 : k < a.length := by omega
    have h2 : k < b.length := by omega
    have ht : (a.take n)[k]? = some a[k] := by
      rw [List.getElem?_take_of_lt (by omega)]; exact List.getElem?_eq_getElem h1
    obtain ⟨d1, d2, d3, d4⟩ := idx ht (by simp; omega)
    have hlt : (a.take n).length = n := by simp; omega
    rw [hlt] at d1 d2
    obtain ⟨_, e2, e3, _⟩ := idx (List.getElem?_eq_getElem h2) (by omega)
    have hw : IntKind.i64.wrap ((k : Int) - 1 + 1) = (k : Int) := by rw [dV (by omega) (by omega)]; omega
    have hb : (fun s : Int × Int => cB (fun st y0 => (jK y0 st b).bind fun o => some (o.2, o.1)) (a.take n) (n : Nat) s.1 s.2) ((k : Int) - 1, (k : Int)) =
        some (if a[k] = b[k] then .inl ((k : Int), ((k + 1 : Nat) : Int)) else .inr (.inr ((k : Int), (k : Int)))) := by
      show cB _ _ _ _ _ = _
      simp only [cB, d1, cond_true, hlt, bA d2, d3, d4, jK, hw, bA e2, e3, veq, Option.bind_some]
      by_cases h : a[k] = b[k] <;> simp [h]
    have ea : a.drop k = a[k] :: a.drop (k + 1) := List.drop_eq_getElem_cons h1
    have eb : b.drop k = b[k] :: b.drop (k + 1) := List.drop_eq_getElem_cons h2
    by_cases h : a[k] = b[k]
    · rw [if_pos h] at hb
      obtain ⟨x, e, hx⟩ := XP hl hlb n hn m (k + 1) (by omega) (by omega)
      have hc : dW (a.drop k) (b.drop k) = dW (a.drop (k + 1)) (b.drop (k + 1)) := by
        rw [ea, eb]; unfold dW; rw [fR, if_pos h]
      refine ⟨x, ?_, by rw [hc]; exact hx⟩
      rw [dL hb]
      rw [show ((k + 1 : Nat) : Int) - 1 = (k : Int) by omega] at e
      exact e
    · rw [if_neg h] at hb
      refine ⟨_, cM hb, .inr ⟨k, rfl, h1, h2, ?_⟩⟩
      rw [ea, eb]; unfold dW; rw [fR, if_neg h]
      simp [List.getD_eq_getElem?_getD, h1, h2]

theorem QC (a b : List aF) : qU a b = some (if fX a && fX b then dW a b else 0) := by
  unfold qU
  rw [GJ]
  simp only [Option.bind_some]
  cases ha : fX a
  · simp [cO]
  · simp only [Bool.not_true, Bool.not_false, cO, cond_true, GJ, Option.bind_some, Bool.false_or]
    cases hb : fX b
    · simp
    · obtain ⟨la, ma⟩ := xB ha
      obtain ⟨lb, mb⟩ := xB hb
      have hif : (if ((List.length b : Nat) : Int) < ((List.length a : Nat) : Int) then ((List.length b : Nat) : Int) else ((List.length a : Nat) : Int)) = ((min a.length b.length : Nat) : Int) := by split <;> omega
      have hlt : (a.take (min a.length b.length)).length = min a.length b.length := by rw [List.length_take]; omega
      simp only [Bool.not_true, cond_false, hif, Int.toNat_natCast, vE, Option.bind_some, fE, eX, hlt, Bool.and_self, if_true]
      rw [bA ⟨by omega, by omega⟩]
      obtain ⟨x, e, hx⟩ := XP (a := a) (b := b) la lb _ rfl _ 0 rfl (Nat.zero_le _)
      have e' : lp (fun s : Int × Int => cB (fun st y0 => (jK y0 st b).bind fun o => some (o.2, o.1)) (a.take (min a.length b.length)) (min a.length b.length : Nat) s.1 s.2) ((-1 : Int), (0 : Int)) = some x := e
      rw [e']
      simp only [List.drop_zero] at hx
      rcases hx with ⟨sg, rfl, h⟩ | ⟨i, rfl, h1, h2, h⟩
      · simp [dP, RB, h]
      · have hi : decide ((i : Int) < 0) = false := by simp
        simp only [Option.bind_some, Sum.elim_inr, hi, cond_false, Int.toNat_natCast]
        rw [bA ⟨by omega, by omega⟩, bA ⟨by omega, by omega⟩]
        have g1 : a.getD i default ∈ a := by simp [List.getD_eq_getElem?_getD, h1]
        have g2 : b.getD i default ∈ b := by simp [List.getD_eq_getElem?_getD, h2]
        rw [aAN (ma _ g1) (mb _ g2), h]
        simp only [Option.bind_some]

theorem aBS {s : ByteArray} {i : Nat} (h : i < s.data.toList.length) : bt s (i : Int) = ((s.data.toList[i]).toNat : Int) := by
  have h' : i < s.data.size := by simpa using h
  unfold bt
  simp only [Int.toNat_natCast, Array.getElem_toList]
  rw [Array.getD_eq_getD_getElem?, Array.getElem?_eq_getElem h']
  rfl

theorem SY {a b : aF} (ha : a.Text.size ≤ 64) (hb : b.Text.size ≤ 64) : ∀ (m k : Nat), min a.Text.size b.Text.size - k = m → k ≤ min a.Text.size b.Text.size →
    ∃ x, lp (fun s => gC a b s) (k : Int) = some x ∧
      ((x = .inl () ∧ fR CT (a.Text.data.toList.drop k) (b.Text.data.toList.drop k) = nM a.Text.size b.Text.size) ∨ (∃ v, x = .inr v ∧ fR CT (a.Text.data.toList.drop k) (b.Text.data.toList.drop k) = v))
  | 0, k, hm, hk => by
    have hsa : a.Text.data.toList.length = a.Text.size := by rw [Array.length_toList]; rfl
    have hsb : b.Text.data.toList.length = b.Text.size := by rw [Array.length_toList]; rfl
    refine ⟨.inl (), cM ?_, .inl ⟨rfl, ?_⟩⟩
    · show gC a b _ = _
      have : ((decide ((k : Int) < ((ByteArray.size a.Text : Nat) : Int))) && (decide ((k : Int) < ((ByteArray.size b.Text : Nat) : Int)))) = false := by
        rw [Bool.and_eq_false_iff]
        simp only [decide_eq_false_iff_not]
        omega
      simp only [gC, this, cond_false]
    · by_cases h1 : a.Text.size ≤ k
      · rw [List.drop_eq_nil_of_le (by omega)]
        by_cases h2 : b.Text.size ≤ k
        · rw [List.drop_eq_nil_of_le (by omega)]
          have : a.Text.size = b.Text.size := by omega
          rw [this, EX]; rfl
        · rw [List.drop_eq_getElem_cons (by omega)]
          show (-1 : Int) = _
          unfold nM; rw [if_pos (by omega)]
      · have h2 : b.Text.size ≤ k := by omega
        rw [@List.drop_eq_nil_of_le _ b.Text.data.toList k (by omega), List.drop_eq_getElem_cons (by omega)]
        show (1 : Int) = _
        unfold nM; rw [if_neg (by omega), if_pos (by omega)]
  | m + 1, k, hm, hk => by
    have hsa : a.Text.data.toList.length = a.Text.size := by rw [Array.length_toList]; rfl
    have hsb : b.Text.data.toList.length = b.Text.size := by rw [Array.length_toList]; rfl
    have h1 : k < a.Text.data.toList.length := by omega
    have h2 : k < b.Text.data.toList.length := by omega
    have c1 : decide ((k : Int) < ((ByteArray.size a.Text : Nat) : Int)) = true := by simp; omega
    have c2 : decide ((k : Int) < ((ByteArray.size b.Text : Nat) : Int)) = true := by simp; omega
    have p1 : 0 ≤ (k : Int) ∧ (k : Int) < ((ByteArray.size a.Text : Nat) : Int) := ⟨by omega, by omega⟩
    have p2 : 0 ≤ (k : Int) ∧ (k : Int) < ((ByteArray.size b.Text : Nat) : Int) := ⟨by omega, by omega⟩
    have hw : IntKind.i64.wrap ((k : Int) + 1) = ((k + 1 : Nat) : Int) := by rw [dV (by omega) (by omega)]; omega
    have ea := List.drop_eq_getElem_cons h1
    have eb := List.drop_eq_getElem_cons h2
    have hb' : gC a b (k : Int) = some (if a.Text.data.toList[k] = b.Text.data.toList[k] then .inl ((k + 1 : Nat) : Int) else .inr (.inr (CT a.Text.data.toList[k] b.Text.data.toList[k]))) := by
      simp only [gC, c1, c2, Bool.and_self, cond_true, bA p1, bA p2, aBS h1, aBS h2, hw]
      generalize a.Text.data.toList[k] = x
      generalize b.Text.data.toList[k] = y
      by_cases e : x = y
      · subst e; simp
      · have e' : ¬ ((x.toNat : Int) = (y.toNat : Int)) := fun h => e (UInt8.toNat_inj.1 (by omega))
        simp only [e', decide_false, Bool.not_false, cond_true, if_neg e]
        unfold CT
        simp only [UInt8.lt_iff_toNat_lt]
        by_cases l : x.toNat < y.toNat
        · have : ((x.toNat : Int) < (y.toNat : Int)) := by omega
          simp [l]
        · have l2 : y.toNat < x.toNat := by
            rcases Nat.lt_or_ge y.toNat x.toNat with h | h
            · exact h
            · exact absurd (UInt8.toNat_inj.1 (by omega)) e
          simp [l, l2]
    by_cases e : a.Text.data.toList[k] = b.Text.data.toList[k]
    · rw [if_pos e] at hb'
      obtain ⟨x, hx1, hx2⟩ := SY ha hb m (k + 1) (by omega) (by omega)
      refine ⟨x, by rw [dL (show (fun s => gC a b s) (k : Int) = _ from hb')]; exact hx1, ?_⟩
      rw [ea, eb, fR, if_pos e]; exact hx2
    · rw [if_neg e] at hb'
      refine ⟨_, cM (show (fun s => gC a b s) (k : Int) = _ from hb'), .inr ⟨_, rfl, ?_⟩⟩
      rw [ea, eb, fR, if_neg e]

theorem QH {v : aF} (h : tQ v = true) : v.Text.size ≤ 64 := by
  rcases KM h with h | ⟨_, h⟩
  · rw [(DS h).2]; decide
  · exact (BM h).2.2

theorem QF {v : aF} (h : tQ v = true) : v.Kind = 1 ∨ v.Kind = 2 := by
  rcases KM h with h | ⟨_, h⟩
  · exact .inl (DS h).1
  · exact .inr (BM h).1

theorem UH {a b : aF} (ha : tQ a = true) (hb : tQ b = true) : rL a b = some (zR a b) := by
  unfold rL
  simp only [MR, ha, hb, Option.bind_some, Bool.not_true, Bool.not_false, cO, cond_true, Bool.or_self, cond_false]
  unfold zR
  by_cases hk : a.Kind = b.Kind
  · rw [if_pos hk]
    by_cases hn : a.Num = b.Num
    · rw [if_pos hn]
      simp only [hk, hn, decide_true, Bool.not_true, cond_false, tP]
      obtain ⟨x, e, hx⟩ := SY (QH ha) (QH hb) _ 0 rfl (Nat.zero_le _)
      simp only [Int.natCast_zero, List.drop_zero] at e hx
      rw [e]
      have ht : PA a.Text b.Text = fR CT a.Text.data.toList b.Text.data.toList := rfl
      rcases hx with ⟨rfl, h⟩ | ⟨v, rfl, h⟩
      · rw [ht, h]
        simp only [Option.bind_some, Sum.elim_inl, qD]
        unfold nM
        by_cases h1 : a.Text.size = b.Text.size
        · have h1' : ((a.Text.size : Nat) : Int) = ((b.Text.size : Nat) : Int) := by omega
          simp [h1']
        · have h1' : ¬ ((a.Text.size : Nat) : Int) = ((b.Text.size : Nat) : Int) := by omega
          by_cases h2 : ((a.Text.size : Nat) : Int) < ((b.Text.size : Nat) : Int)
          · simp only [h1', h2, decide_false, decide_true, Bool.not_false, cond_true, if_true]
          · have h3 : ((b.Text.size : Nat) : Int) < ((a.Text.size : Nat) : Int) := by omega
            simp only [h1', h2, h3, decide_false, Bool.not_false, cond_true, cond_false, if_true, if_false]
      · rw [ht, h]; rfl
    · rw [if_neg hn]
      simp only [hk, hn, decide_true, decide_false, Bool.not_true, Bool.not_false, cond_false, cond_true]
      unfold nM
      by_cases h1 : a.Num < b.Num
      · simp [h1]
      · have h2 : b.Num < a.Num := by omega
        simp [h1, h2]
  · rw [if_neg hk]
    simp only [hk, decide_false, Bool.not_false, cond_true]
    rcases QF ha with h1 | h1 <;> rcases QF hb with h2 | h2
    · exact absurd (h1.trans h2.symm) hk
    · rw [h1, h2]; rfl
    · rw [h1, h2]; rfl
    · exact absurd (h1.trans h2.symm) hk

theorem QG {a b : List aF} (ha : fX a = true) (hb : fX b = true) : ∀ (m k : Nat), min a.length b.length - k = m → k ≤ min a.length b.length →
    ∃ x, lp (fun s => gE a b s) (k : Int) = some x ∧ ((x = .inl () ∧ dW (a.drop k) (b.drop k) = nM a.length b.length) ∨ (∃ v, x = .inr v ∧ dW (a.drop k) (b.drop k) = v))
  | 0, k, hm, hk => by
    refine ⟨.inl (), cM ?_, .inl ⟨rfl, US (by omega) (by omega) (by omega)⟩⟩
    show gE a b _ = _
    have : ((decide ((k : Int) < ((a.length : Nat) : Int))) && (decide ((k : Int) < ((b.length : Nat) : Int)))) = false := by
      rw [Bool.and_eq_false_iff]
      simp only [decide_eq_false_iff_not]
      omega
    simp only [gE, this, cond_false]
  | m + 1, k, hm, hk => by
    obtain ⟨la, ma⟩ := xB ha
    obtain ⟨lb, mb⟩ := xB hb
    have h1 : k < a.length := by omega
    have h2 : k < b.length := by omega
    obtain ⟨d1, d2, d3, d4⟩ := idx (List.getElem?_eq_getElem h1) (by omega)
    obtain ⟨e1, e2, e3, _⟩ := idx (List.getElem?_eq_getElem h2) (by omega)
    have ea := List.drop_eq_getElem_cons h1
    have eb := List.drop_eq_getElem_cons h2
    have hb' : gE a b (k : Int) = some (if a[k] = b[k] then .inl ((k + 1 : Nat) : Int) else .inr (.inr (zR a[k] b[k]))) := by
      simp only [gE, d1, e1, Bool.and_self, cond_true, bA d2, bA e2, d3, e3, d4, UH (ma _ (List.getElem_mem h1)) (mb _ (List.getElem_mem h2)), Option.bind_some]
      by_cases h : a[k] = b[k]
      · have := (HD.eq a[k] b[k]).2 h
        simp [h, (HD.eq b[k] b[k]).2 rfl]
      · have : ¬ zR a[k] b[k] = 0 := fun h' => h ((HD.eq _ _).1 h')
        simp [h, this]
    by_cases h : a[k] = b[k]
    · rw [if_pos h] at hb'
      obtain ⟨x, hx1, hx2⟩ := QG ha hb m (k + 1) (by omega) (by omega)
      refine ⟨x, by rw [dL (show (fun s => gE a b s) (k : Int) = _ from hb')]; exact hx1, ?_⟩
      have hc : dW (a.drop k) (b.drop k) = dW (a.drop (k + 1)) (b.drop (k + 1)) := by
        rw [ea, eb]; unfold dW; rw [fR, if_pos h]
      rw [hc]; exact hx2
    · rw [if_neg h] at hb'
      refine ⟨_, cM (show (fun s => gE a b s) (k : Int) = _ from hb'), .inr ⟨_, rfl, ?_⟩⟩
      rw [ea, eb]; unfold dW; rw [fR, if_neg h]

theorem KF (a b : List aF) (hla : a.length ≤ 17592186044416) (hlb : b.length ≤ 17592186044416) : oR a b = some (if fX a && fX b then dW a b else 0) := by
  unfold oR
  rw [HS a (by omega)]
  simp only [Option.bind_some]
  cases ha : fX a
  · simp [cO]
  · simp only [Bool.not_true, Bool.not_false, cO, cond_true, HS b (by omega), Option.bind_some, Bool.false_or]
    cases hb : fX b
    · simp
    · simp only [Bool.not_true, cond_false, tE, Bool.and_self, if_true]
      obtain ⟨x, e, hx⟩ := QG ha hb _ 0 rfl (Nat.zero_le _)
      simp only [Int.natCast_zero, List.drop_zero] at e hx
      rw [e]
      rcases hx with ⟨rfl, h⟩ | ⟨v, rfl, h⟩
      · rw [h]
        simp only [Option.bind_some, Sum.elim_inl, qB]
        unfold nM
        by_cases h1 : a.length < b.length
        · simp [h1]
        · by_cases h2 : b.length < a.length <;> simp [h1, h2]
      · rw [h]; rfl

end Go.Abs
namespace Go.Abs
open Go
def jE (e : aC) : aB := ⟨e.At, e.Net⟩

def gA (r : List aF) (f : List aB) : List aC → List (List aF × List aB)
  | [] => [(r, f)]
  | e :: l => if e.Row = r then gA r (f ++ [jE e]) l else (r, f) :: gA e.Row [jE e] l

def groups : List aC → List (List aF × List aB)
  | [] => []
  | e :: l => gA e.Row [jE e] l

def itG {σ : Type} (y : σ → List aF → List aB → Option (σ × Bool)) : List (List aF × List aB) → σ → Option σ
  | [], s => some s
  | g :: gs, s => (y s g.1 g.2).bind fun x => if x.2 then itG y gs x.1 else some x.1

def okL (l : List aC) : Prop := l.length ≤ 3518437208783 ∧ ∀ e ∈ l, e.Row.length ≤ 4398046510976

theorem GS {r : List aF} (h : r.length ≤ 4398046510976) : tN r = some r := by
  unfold tN
  rw [bA ⟨by omega, by omega, by omega⟩, bA (by simp only [List.length_nil, Nat.zero_add]; omega)]
  rfl

theorem OK {σ : Type} {y : σ → List aF → List aB → Option (σ × Bool)} {l : List aC} (hl : okL l) (row : List aF) (sg : σ) : ∀ (r : List aC) (k : Nat) (f : List aB), l.drop k = r → k ≤ l.length → f.length ≤ k →
    ∃ k' f', k ≤ k' ∧ k' ≤ l.length ∧ f'.length ≤ k' ∧ lp (fun s : σ × Int × List aB => iU y l row s.1 s.2.1 s.2.2) (sg, (k : Int), f) = some (sg, ((k' : Nat) : Int), f') ∧
      gA row f r = (row, f') :: groups (l.drop k') ∧ (∀ e r', r = e :: r' → e.Row = row → k < k')
  | [], k, f, hd, hk, hf => by
    have : k = l.length := by
      have := congrArg List.length hd
      simp only [List.length_drop, List.length_nil] at this; omega
    subst this
    refine ⟨l.length, f, Nat.le_refl _, Nat.le_refl _, hf, cM ?_, by simp [gA, groups], fun e r' h => by cases h⟩
    show iU _ _ _ _ _ _ = _
    simp only [iU, dR, cO, cond_false, Option.bind_some, Bool.false_and]
    exact bA (fun h => by cases h)
  | a :: r, k, f, hd, hk, hf => by
    obtain ⟨h1, h2⟩ := drop_cons hd
    have hlt : k < l.length := (List.getElem?_eq_some_iff.1 h1).1
    obtain ⟨hll, hlr⟩ := hl
    obtain ⟨d1, d2, d3, d4⟩ := idx h1 (by omega)
    have har := hlr a (List.mem_of_getElem? h1)
    have hb : (fun s : σ × Int × List aB => iU y l row s.1 s.2.1 s.2.2) (sg, (k : Int), f) = some (if a.Row = row then .inl (sg, ((k + 1 : Nat) : Int), f ++ [jE a]) else .inr (sg, (k : Int), f)) := by
      show iU _ _ _ _ _ _ = _
      simp only [iU, d1, d3, d4, cO, cond_true, NZ a.Row row (by omega), Option.bind_some, Bool.true_and]
      rw [bA (fun _ => d2)]
      by_cases e : a.Row = row
      · simp only [e, decide_true, cond_true, if_true]
        rw [bA d2, bA d2, bA (by simp only [List.length_cons, List.length_nil]; omega)]
        rfl
      · simp [e]
    by_cases e : a.Row = row
    · rw [if_pos e] at hb
      obtain ⟨k', f', g1, g2, g3, g4, g5, _⟩ := OK ⟨hll, hlr⟩ row sg r (k + 1) (f ++ [jE a]) h2 (by omega) (by simp; omega) (y := y)
      refine ⟨k', f', by omega, g2, g3, by rw [dL hb]; exact g4, by simp [gA, e, g5], fun _ _ _ _ => by omega⟩
    · rw [if_neg e] at hb
      refine ⟨k, f, Nat.le_refl _, hk, hf, cM hb, ?_, fun b r' h hr => by cases h; exact absurd hr e⟩
      rw [hd]; simp [gA, e, groups]

theorem YS {σ : Type} {y : σ → List aF → List aB → Option (σ × Bool)} {l : List aC} (hl : okL l) : ∀ (m k : Nat) (sg s' : σ), l.length - k ≤ m → k ≤ l.length → itG y (groups (l.drop k)) sg = some s' →
    ∃ x, lp (fun s : σ × Int => fY y l s.1 s.2) (sg, (k : Int)) = some x ∧ Sum.elim id id x = s' := by
  have stop : ∀ (sg s' : σ), itG y (groups (l.drop l.length)) sg = some s' → ∃ x, lp (fun s : σ × Int => fY y l s.1 s.2) (sg, ((l.length : Nat) : Int)) = some x ∧ Sum.elim id id x = s' := by
    intro sg s' h
    rw [List.drop_length] at h
    simp only [groups, itG, Option.some.injEq] at h
    refine ⟨.inl sg, cM ?_, h⟩
    show fY _ _ _ _ = _
    simp only [fY, dR, cond_false]
  intro m
  induction m with
  | zero =>
    intro k sg s' hm hk h
    have : k = l.length := by omega
    subst this; exact stop sg s' h
  | succ m ih =>
    intro k sg s' hm hk h
    by_cases he : k = l.length
    · subst he; exact stop sg s' h
    · have hlt : k < l.length := by omega
      have hd : l.drop k = l[k] :: l.drop (k + 1) := List.drop_eq_getElem_cons hlt
      obtain ⟨d1, d2, d3, d4⟩ := idx (List.getElem?_eq_getElem hlt) (by have := hl.1; omega)
      obtain ⟨k', f', g1, g2, g3, g4, g5, g6⟩ := OK hl l[k].Row sg (l.drop k) k [] rfl hk (by simp) (y := y)
      have hk' := g6 _ _ hd rfl
      have hg : groups (l.drop k) = (l[k].Row, f') :: groups (l.drop k') := by
        rw [← g5, hd]; simp [groups, gA]
      rw [hg] at h
      simp only [itG] at h
      obtain ⟨x, hx, h⟩ := aX h
      have hrow := hl.2 _ (List.getElem_mem hlt)
      have hb : (fun s : σ × Int => fY y l s.1 s.2) (sg, (k : Int)) = some (if x.2 then .inl (x.1, ((k' : Nat) : Int)) else .inr (.inr x.1)) := by
        show fY _ _ _ _ = _
        simp only [fY, d1, cond_true, bA d2, d3, tF, g4, Option.bind_some, qF, GS hrow, hx]
        cases x.2 <;> simp
      cases hx2 : x.2
      · rw [hx2] at hb h
        simp only [Bool.false_eq_true, if_false, Option.some.injEq] at hb h
        exact ⟨_, cM hb, h⟩
      · rw [hx2] at hb h
        simp only [if_true] at hb h
        obtain ⟨z, hz1, hz2⟩ := ih k' x.1 s' (by omega) g2 h
        exact ⟨z, by rw [dL hb]; exact hz1, hz2⟩

theorem PN {σ : Type} {y : σ → List aF → List aB → Option (σ × Bool)} {l : List aC} (hl : okL l) {s s' : σ} (h : itG y (groups l) s = some s') : mW y l s = some s' := by
  unfold mW tI
  obtain ⟨x, h1, h2⟩ := YS hl l.length 0 s s' (by omega) (Nat.zero_le _) (by simpa using h)
  simp only [Int.natCast_zero] at h1
  rw [h1]
  cases x <;> simpa using h2

def ahd (last : Option (List aF)) (r : List aF) : Bool := match last with
  | none => true
  | some q => decide (dW q r < 0)

def yY (p : List aB → Bool) : Option (List aF) → List (List aF × List aB) → Bool
  | _, [] => true
  | last, g :: gs => (fX g.1 && ahd last g.1 && p g.2) && yY p (some g.1) gs

theorem XB {holds : List aB → Option Bool} {p : List aB → Bool} (hp : ∀ f, holds f = some (p f)) (c : List aC) (t : Bool) : ∀ (gs : List (List aF × List aB)) (last : List aF) (b : Bool), (b = true → fX last = true) →
    ∃ x, itG (fun st r f => rnd (fun (s : Bool × (List aF) × Bool) => qL holds c s.1 s.2.1 s.2.2 r f) st) gs (.inl (t, last, b)) = some x ∧
      (if yY p (if b then some last else none) gs then ∃ u, x = .inl (t, u) else ∃ u, x = .inr (false, u))
  | [], last, b, _ => ⟨_, rfl, by simp [yY]⟩
  | g :: gs, last, b, hb => by
    have hy : qL holds c t last b g.1 g.2 = some (if fX g.1 && ahd (if b then some last else none) g.1 && p g.2 then .inl (t, g.1, true) else .inr (false, last, b)) := by
      unfold qL
      simp only [GJ, Option.bind_some, QC, hp]
      cases hm : fX g.1
      · simp [cO]
      · cases b
        · cases h2 : p g.2 <;> simp [cO, ahd, h2]
        · have hl := hb rfl
          by_cases h1 : dW last g.1 < 0
          · have h1' : ¬ (0 ≤ dW last g.1) := by omega
            cases h2 : p g.2 <;> simp [cO, ahd, h2, hl, h1, h1']
          · have h1' : 0 ≤ dW last g.1 := by omega
            simp [cO, ahd, hl, h1, h1']
    cases hc : (fX g.1 && ahd (if b then some last else none) g.1 && p g.2)
    · rw [hc] at hy
      simp only [itG, rnd, hy, Option.bind_some, yY, hc]
      exact ⟨.inr (false, last, b), by simp, by simp⟩
    · rw [hc] at hy
      simp only [itG, rnd, hy, Option.bind_some, yY, hc]
      have hm : fX g.1 = true := by simp only [Bool.and_eq_true] at hc; exact hc.1.1
      obtain ⟨x, h1, h2⟩ := XB hp c t gs g.1 true (fun _ => hm)
      refine ⟨x, ?_, ?_⟩
      · simpa [rnd] using h1
      · simpa using h2

theorem XC {l : List aC} (hl : okL l) {holds : List aB → Option Bool} {p : List aB → Bool} (hp : ∀ f, holds f = some (p f)) : uV l holds = some (decide (l.length ≤ 4096) && yY p none (groups l)) := by
  unfold uV
  by_cases h : l.length ≤ 4096
  · have h1 : decide ((4096 : Int) < ((l.length : Nat) : Int)) = false := by simp; omega
    rw [h1, cond_false]
    simp only [pM, Option.bind_some, AZ]
    obtain ⟨x, e1, e2⟩ := XB hp l false (groups l) [] false (fun h => by cases h)
    rw [PN hl e1]
    simp only [Bool.false_eq_true, if_false] at e2
    simp only [h, decide_true, Bool.true_and]
    cases hc : yY p none (groups l)
    · rw [hc] at e2
      simp only [Bool.false_eq_true, if_false] at e2
      obtain ⟨u, rfl⟩ := e2
      rfl
    · rw [hc] at e2
      simp only [if_true] at e2
      obtain ⟨u, rfl⟩ := e2
      rfl
  · have h1 : decide ((4096 : Int) < ((l.length : Nat) : Int)) = true := by simp; omega
    rw [h1, cond_true]
    simp [h]

def oW (l : List aC) : Bool := decide (l.length ≤ 4096) && yY fZ none (groups l)

theorem XH {l : List aC} (hl : okL l) : xK l = some (oW l) := by
  unfold xK
  rw [XC hl (p := fZ) (fun f => NG f)]; rfl

def PU (f : List aB) : Bool := fZ f && decide (0 ≤ rD f)

def pF (l : List aC) : Bool := decide (l.length ≤ 4096) && yY PU none (groups l)

theorem aAo {l : List aC} (hl : okL l) : wJ l = some (pF l) := by
  unfold wJ
  rw [XC hl (p := PU) (fun f => by
    unfold sR PU
    rw [NG]
    cases h : fZ f <;> simp [cO, aA7, h])]
  rfl

def lO (r : List aF) (f : List aB) : List aC := f.map fun j => ⟨r, j.At, j.Net⟩

theorem put_eq {out : List aC} {r : List aF} {f : List aB} (hr : r.length ≤ 4398046510976) (hl : out.length + f.length ≤ 1099511627776) : AM out r f = some (out ++ lO r f) := by
  unfold AM BZ
  rw [nX (l := f) (body := fun s : List aC × Int => pK r f (f.length : Nat) s.1 s.2) (fun o i => (o, i)) (fun o t => o ++ lO r t) (fun o t => o.length + t.length ≤ 1099511627776) out ?_ ?_ hl]
  · rfl
  · intro i a t o ha hi
    left
    obtain ⟨d1, d2, d3, d4⟩ := idx ha (by have := (List.getElem?_eq_some_iff.1 ha).1; omega)
    simp only [List.length_cons] at hi
    refine ⟨o ++ [⟨r, a.At, a.Net⟩], ?_, by simp; omega, by simp [lO]⟩
    show pK _ _ _ _ _ = _
    simp only [pK, d1, cond_true, bA d2, d3, d4, GS hr, Option.bind_some]
    exact bA (by simp only [List.length_cons, List.length_nil]; omega)
  · intro o _
    show pK _ _ _ _ _ = _
    simp only [pK, dR, cond_false]
    simp [lO]

def sO (by1 : List aB → List aB × Int) : List (List aF × List aB) → List aC → List aC × Int
  | [], out => (out, 0)
  | g :: gs, out => if (by1 g.2).2 ≠ 0 then ([], (by1 g.2).2) else if 4096 < (out ++ lO g.1 (by1 g.2).1).length then ([], 7) else sO by1 gs (out ++ lO g.1 (by1 g.2).1)

theorem QB {by0 : List aB → Option (List aB × Int)} {by1 : List aB → List aB × Int} (c : List aC) : ∀ (gs : List (List aF × List aB)) (out : List aC), out.length ≤ 4096 → (∀ g ∈ gs, by0 g.2 = some (by1 g.2) ∧ (by1 g.2).1.length ≤ 1024 ∧ g.1.length ≤ 4398046510976) →
    ∃ x, itG (fun st r f => rnd (fun (s : (List aC) × Int × List aC) => nY by0 c s.1 s.2.1 s.2.2 r f) st) gs (.inl ([], 0, out)) = some x ∧ Sum.elim (fun s : (List aC) × Int × List aC => (s.2.2, (0 : Int))) (fun s => (s.1, s.2.1)) x = sO by1 gs out
  | [], out, _, _ => ⟨_, rfl, rfl⟩
  | g :: gs, out, ho, hg => by
    obtain ⟨h1, h2, h3⟩ := hg g (by simp)
    have hy : nY by0 c [] 0 out g.1 g.2 = some (if (by1 g.2).2 ≠ 0 then .inr ([], (by1 g.2).2, out) else if 4096 < (out ++ lO g.1 (by1 g.2).1).length then .inr ([], 7, out ++ lO g.1 (by1 g.2).1) else .inl ([], 0, out ++ lO g.1 (by1 g.2).1)) := by
      unfold nY
      simp only [h1, Option.bind_some, put_eq h3 (show out.length + (by1 g.2).1.length ≤ 1099511627776 by omega)]
      by_cases e1 : (by1 g.2).2 = 0
      · by_cases e2 : 4096 < (out ++ lO g.1 (by1 g.2).1).length
        · have e2' : (4096 : Int) < (((out ++ lO g.1 (by1 g.2).1).length : Nat) : Int) := by omega
          simp only [e1, e2, e2', decide_true, Bool.not_true, cond_false, cond_true, ne_eq, not_true_eq_false, if_false, if_true]
        · have e2' : ¬ (4096 : Int) < (((out ++ lO g.1 (by1 g.2).1).length : Nat) : Int) := by omega
          simp only [e1, e2, e2', decide_true, decide_false, Bool.not_true, cond_false, ne_eq, not_true_eq_false, if_false]
      · simp only [e1, decide_false, Bool.not_false, cond_true, ne_eq, not_false_eq_true, if_true]
    simp only [itG, rnd, hy, Option.bind_some, sO]
    by_cases e1 : (by1 g.2).2 ≠ 0
    · rw [if_pos e1, if_pos e1]; exact ⟨_, rfl, rfl⟩
    · rw [if_neg e1, if_neg e1]
      by_cases e2 : 4096 < (out ++ lO g.1 (by1 g.2).1).length
      · rw [if_pos e2, if_pos e2]; exact ⟨_, rfl, rfl⟩
      · rw [if_neg e2, if_neg e2]
        exact QB c gs _ (by omega) (fun q hq => hg q (by simp [hq]))

theorem aAw {l : List aC} (hl : okL l) {by0 : List aB → Option (List aB × Int)} {by1 : List aB → List aB × Int} (hb : ∀ g ∈ groups l, by0 g.2 = some (by1 g.2) ∧ (by1 g.2).1.length ≤ 1024 ∧ g.1.length ≤ 4398046510976) : tV l by0 = some (sO by1 (groups l) []) := by
  unfold tV
  simp only [pM, Option.bind_some, wZ]
  obtain ⟨x, e1, e2⟩ := QB (by0 := by0) (by1 := by1) l (groups l) [] (by simp) hb
  rw [PN hl e1]
  cases x <;> simpa using e2

def flat (gs : List (List aF × List aB)) : List aC := gs.flatMap fun g => lO g.1 g.2

theorem OY : ∀ (l : List aC) (r : List aF) (f : List aB), flat (gA r f l) = lO r f ++ l
  | [], r, f => by simp [gA, flat]
  | e :: l, r, f => by
    unfold gA
    split
    · rename_i h
      rw [OY l r]
      simp [lO, jE, ← h]
    · have := OY l e.Row [jE e]
      simp only [flat, List.flatMap_cons] at this ⊢
      rw [this]
      simp [lO, jE]

theorem yJ (l : List aC) : flat (groups l) = l := by
  cases l with
  | nil => rfl
  | cons e l => unfold groups; rw [OY]; simp [lO, jE]

theorem TS {r : List aF} : ∀ {l : List aC} {f : List aB} {g : List aF × List aB}, g ∈ gA r f l → f ≠ [] → g.2 ≠ [] ∧ (g.1 = r ∨ ∃ e ∈ l, g.1 = e.Row)
  | [], f, g, h, hf => by simp only [gA, List.mem_singleton] at h; subst h; exact ⟨hf, .inl rfl⟩
  | e :: l, f, g, h, hf => by
    unfold gA at h
    split at h
    · obtain ⟨h1, h2⟩ := TS h (by simp)
      exact ⟨h1, h2.imp id fun ⟨x, hx, hx'⟩ => ⟨x, by simp [hx], hx'⟩⟩
    · rcases List.mem_cons.1 h with rfl | h
      · exact ⟨hf, .inl rfl⟩
      · obtain ⟨h1, h2⟩ := TS (r := e.Row) h (by simp)
        refine ⟨h1, .inr ?_⟩
        rcases h2 with h2 | ⟨x, hx, hx'⟩
        · exact ⟨e, by simp, h2⟩
        · exact ⟨x, by simp [hx], hx'⟩

theorem DN {l : List aC} {g : List aF × List aB} (h : g ∈ groups l) : g.2 ≠ [] ∧ ∃ e ∈ l, g.1 = e.Row := by
  cases l with
  | nil => simp [groups] at h
  | cons e l =>
    obtain ⟨h1, h2⟩ := TS h (by simp)
    refine ⟨h1, ?_⟩
    rcases h2 with h2 | ⟨x, hx, hx'⟩
    · exact ⟨e, by simp, h2⟩
    · exact ⟨x, by simp [hx], hx'⟩

end Go.Abs
namespace Go.Abs
open Go
def bX (l : List aC) (r : List aF) : List aB := (l.filter fun e => decide (e.Row = r)).map jE

theorem xE (a b : List aC) (r : List aF) : bX (a ++ b) r = bX a r ++ bX b r := by simp [bX]

theorem RZ (q : List aF) (f : List aB) (r : List aF) : bX (lO q f) r = if q = r then f else [] := by
  induction f with
  | nil => simp [bX, lO]
  | cons j f ih =>
    have h1 : lO q (j :: f) = [⟨q, j.At, j.Net⟩] ++ lO q f := rfl
    rw [h1, xE, ih]
    by_cases h : q = r <;> simp [bX, jE, h]

def look : List (List aF × List aB) → List aF → List aB
  | [], _ => []
  | g :: gs, r => if g.1 = r then g.2 else look gs r

theorem rP (g : List aF × List aB) (gs : List (List aF × List aB)) (r : List aF) : look (g :: gs) r = if g.1 = r then g.2 else look gs r := rfl

abbrev ltG (a b : List aF × List aB) : Prop := dW a.1 b.1 < 0

abbrev zQ (gs : List (List aF × List aB)) : Prop := gs.Pairwise ltG

abbrev Full (gs : List (List aF × List aB)) : Prop := ∀ g ∈ gs, g.2 ≠ []

theorem oY {a : List aF} : ¬ dW a a < 0 := by rw [(iA.eq a a).2 rfl]; omega

theorem wB : ∀ {gs : List (List aF × List aB)} {r : List aF}, (∀ g ∈ gs, g.1 ≠ r) → look gs r = []
  | [], _, _ => rfl
  | g :: gs, r, h => by
    rw [rP]
    rw [if_neg (h g (by simp))]
    exact wB fun q hq => h q (by simp [hq])

theorem HE (gs : List (List aF × List aB)) (r : List aF) : (look gs r = [] ∧ ∀ g ∈ gs, g.1 ≠ r) ∨ ∃ g ∈ gs, g.1 = r ∧ look gs r = g.2 := by
  induction gs with
  | nil => exact .inl ⟨rfl, by simp⟩
  | cons g gs ih =>
    rw [rP]
    by_cases h : g.1 = r
    · rw [if_pos h]; exact .inr ⟨g, by simp, h, rfl⟩
    · rw [if_neg h]
      rcases ih with ⟨h1, h2⟩ | ⟨q, hq, h1, h2⟩
      · refine .inl ⟨h1, fun q hq => ?_⟩
        rcases List.mem_cons.1 hq with rfl | hq
        · exact h
        · exact h2 q hq
      · exact .inr ⟨q, by simp [hq], h1, h2⟩

theorem vY {gs : List (List aF × List aB)} (hs : zQ gs) {g : List aF × List aB} (hg : g ∈ gs) : look gs g.1 = g.2 := by
  induction gs with
  | nil => simp at hg
  | cons q gs ih =>
    have hs' := List.pairwise_cons.1 hs
    rw [rP]
    rcases List.mem_cons.1 hg with rfl | hg
    · rw [if_pos rfl]
    · rw [if_neg (fun e => by have := hs'.1 g hg; simp only [ltG, e] at this; exact oY this)]
      exact ih hs'.2 hg

theorem CL (g : List aF × List aB) (gs : List (List aF × List aB)) : flat (g :: gs) = lO g.1 g.2 ++ flat gs := rfl

theorem AP : ∀ {gs : List (List aF × List aB)}, zQ gs → ∀ r, bX (flat gs) r = look gs r
  | [], _, r => rfl
  | g :: gs, hs, r => by
    have hs' := List.pairwise_cons.1 hs
    rw [CL, xE, RZ, AP hs'.2, rP]
    by_cases h : g.1 = r
    · rw [if_pos h, if_pos h, wB, List.append_nil]
      intro q hq e
      have := hs'.1 q hq
      simp only [ltG, h, e] at this; exact oY this
    · rw [if_neg h, if_neg h]; rfl

theorem XE : ∀ {gs hs : List (List aF × List aB)}, zQ gs → zQ hs → Full gs → Full hs → (∀ r, look gs r = look hs r) → gs = hs
  | [], [], _, _, _, _, _ => rfl
  | [], h :: hs, _, _, _, fh, he => by
    have := he h.1
    simp only [rP, look, if_true] at this
    exact absurd this.symm (fh h (by simp))
  | g :: gs, [], _, _, fg, _, he => by
    have := he g.1
    simp only [rP, look, if_true] at this
    exact absurd this (fg g (by simp))
  | g :: gs, h :: hs, sg, sh, fg, fh, he => by
    have sg' := List.pairwise_cons.1 sg
    have sh' := List.pairwise_cons.1 sh
    by_cases e : g.1 = h.1
    · have h2 := he g.1
      simp only [look, if_true, if_pos e.symm] at h2
      have ht : gs = hs := XE sg'.2 sh'.2 (fun q hq => fg q (by simp [hq])) (fun q hq => fh q (by simp [hq])) fun r => by
        by_cases hr : g.1 = r
        · subst hr
          rw [wB (gs := gs), wB (gs := hs)]
          · intro q hq e'; have := sh'.1 q hq; simp only [ltG, ← e, e'] at this; exact oY this
          · intro q hq e'; have := sg'.1 q hq; simp only [ltG, e'] at this; exact oY this
        · have := he r
          simp only [look, if_neg hr, if_neg (fun x => hr (e.trans x))] at this
          exact this
      rw [ht]
      obtain ⟨g1, g2⟩ := g
      obtain ⟨h1, h3⟩ := h
      simp only at e h2
      rw [e, h2]
    · exfalso
      have hne : dW g.1 h.1 ≠ 0 := fun x => e ((iA.eq _ _).1 x)
      by_cases hlt : dW g.1 h.1 < 0
      · have h2 := he g.1
        rw [vY sg (by simp), wB] at h2
        · exact fg g (by simp) h2
        · intro q hq e'
          rcases List.mem_cons.1 hq with rfl | hq
          · exact e e'.symm
          · have := iA.trans _ _ _ hlt (sh'.1 q hq)
            rw [e'] at this; exact oY this
      · have hlt' : dW h.1 g.1 < 0 := (iA.anti _ _).2 (by omega)
        have h2 := he h.1
        rw [vY sh (by simp), wB] at h2
        · exact fh h (by simp) h2.symm
        · intro q hq e'
          rcases List.mem_cons.1 hq with rfl | hq
          · exact e e'
          · have := iA.trans _ _ _ hlt' (sg'.1 q hq)
            rw [e'] at this; exact oY this

theorem zS {p : List aB → Bool} : ∀ {gs : List (List aF × List aB)} {last : Option (List aF)}, yY p last gs = true ↔ (∀ g ∈ gs, fX g.1 = true ∧ p g.2 = true) ∧ zQ gs ∧ (∀ q, last = some q → ∀ g ∈ gs, dW q g.1 < 0)
  | [], last => by simp [yY]
  | g :: gs, last => by
    unfold yY
    simp only [Bool.and_eq_true, zS (gs := gs), List.mem_cons, List.pairwise_cons]
    constructor
    · rintro ⟨⟨⟨h1, h2⟩, h3⟩, h4, h5, h6⟩
      refine ⟨?_, ⟨fun q hq => h6 _ rfl q hq, h5⟩, ?_⟩
      · rintro q (rfl | hq)
        · exact ⟨h1, h3⟩
        · exact h4 q hq
      · rintro q rfl x (rfl | hx)
        · simpa [ahd] using h2
        · simp only [ahd, decide_eq_true_eq] at h2
          exact iA.trans _ _ _ h2 (h6 _ rfl x hx)
    · rintro ⟨h1, ⟨h2, h3⟩, h4⟩
      refine ⟨⟨⟨(h1 g (.inl rfl)).1, ?_⟩, (h1 g (.inl rfl)).2⟩, fun q hq => h1 q (.inr hq), h3, ?_⟩
      · unfold ahd
        split
        · rfl
        · exact decide_eq_true (h4 _ rfl g (.inl rfl))
      · rintro q hq x hx
        cases hq
        exact h2 x hx

theorem WX (l : List aC) : Full (groups l) := fun _ hg => (DN hg).1

theorem qX {l : List aC} (h : oW l = true) : l.length ≤ 4096 ∧ (∀ g ∈ groups l, fX g.1 = true ∧ fZ g.2 = true) ∧ zQ (groups l) := by
  simp only [oW, Bool.and_eq_true, decide_eq_true_eq] at h
  obtain ⟨h1, h2, _⟩ := zS.1 h.2
  exact ⟨h.1, h1, h2⟩

theorem aAL {l : List aC} (h : oW l = true) (r : List aF) : fZ (look (groups l) r) = true := by
  rcases HE (groups l) r with ⟨h1, _⟩ | ⟨g, hg, _, h1⟩
  · rw [h1]; exact aCx
  · rw [h1]; exact ((qX h).2.1 g hg).2

theorem oF {l : List aC} (h : zQ (groups l)) (r : List aF) : look (groups l) r = bX l r := by
  rw [← AP h, yJ]

theorem XQ (r : List aF) (f : List aB) (e : aC) (l : List aC) : gA r f (e :: l) = if e.Row = r then gA r (f ++ [jE e]) l else (r, f) :: gA e.Row [jE e] l := rfl

def JH (gs : List (List aF × List aB)) : List (List aF × List aB) := gs.filter fun g => !g.2.isEmpty

theorem ER : ∀ (gs : List (List aF × List aB)), flat (JH gs) = flat gs
  | [] => rfl
  | (r, []) :: gs => by
    have : JH ((r, []) :: gs) = JH gs := rfl
    rw [this, ER gs, CL]; rfl
  | (r, j :: f) :: gs => by
    have : JH ((r, j :: f) :: gs) = (r, j :: f) :: JH gs := rfl
    rw [this, CL, CL, ER gs]

theorem aAZ (gs : List (List aF × List aB)) : Full (JH gs) := by
  intro g hg
  have := (List.mem_filter.1 hg).2
  intro h; rw [h] at this; simp at this

def xT (by1 : List aB → List aB × Int) (gs : List (List aF × List aB)) : List (List aF × List aB) := gs.map fun g => (g.1, (by1 g.2).1)

theorem aBw {by1 : List aB → List aB × Int} {gs : List (List aF × List aB)} (hs : zQ gs) : zQ (xT by1 gs) := by
  rw [zQ, xT, List.pairwise_map]; exact hs

theorem QN {by1 : List aB → List aB × Int} (h0 : (by1 []).1 = []) : ∀ (gs : List (List aF × List aB)) (r : List aF), look (xT by1 gs) r = (by1 (look gs r)).1
  | [], r => h0.symm
  | g :: gs, r => by
    show look ((g.1, (by1 g.2).1) :: xT by1 gs) r = _
    rw [rP, rP]
    by_cases h : g.1 = r
    · rw [if_pos h, if_pos h]
    · rw [if_neg h, if_neg h]; exact QN h0 gs r

theorem YB {by1 : List aB → List aB × Int} : ∀ {gs : List (List aF × List aB)} {out : List aC}, out.length ≤ 4096 → (sO by1 gs out).2 = 0 → (∀ g ∈ gs, (by1 g.2).2 = 0) ∧ (sO by1 gs out).1 = out ++ flat (xT by1 gs) ∧ (sO by1 gs out).1.length ≤ 4096
  | [], out, ho, _ => by simp [sO, xT, flat, ho]
  | g :: gs, out, ho, h => by
    unfold sO at h ⊢
    by_cases e1 : (by1 g.2).2 = 0
    · rw [if_neg (by simp [e1])] at h ⊢
      by_cases e2 : 4096 < (out ++ lO g.1 (by1 g.2).1).length
      · rw [if_pos e2] at h; simp at h
      · rw [if_neg e2] at h ⊢
        obtain ⟨h1, h2, h3⟩ := YB (by omega) h
        refine ⟨?_, ?_, h3⟩
        · intro q hq
          rcases List.mem_cons.1 hq with rfl | hq
          · exact e1
          · exact h1 q hq
        · rw [h2]; simp [xT, CL]
    · rw [if_pos e1] at h; exact absurd h e1

theorem SX {by1 : List aB → List aB × Int} : ∀ {gs : List (List aF × List aB)} {out : List aC}, (∀ g ∈ gs, (by1 g.2).2 = 0) → (out ++ flat (xT by1 gs)).length ≤ 4096 → sO by1 gs out = (out ++ flat (xT by1 gs), 0)
  | [], out, _, _ => by simp [sO, xT, flat]
  | g :: gs, out, h, hl => by
    unfold sO
    have hf : flat (xT by1 (g :: gs)) = lO g.1 (by1 g.2).1 ++ flat (xT by1 gs) := rfl
    rw [hf] at hl ⊢
    rw [if_neg (by simp [h g (by simp)]), if_neg (by simp only [List.length_append] at hl ⊢; omega), SX (fun q hq => h q (by simp [hq])) (by simpa using hl)]
    simp

theorem TU {by1 : List aB → List aB × Int} : ∀ {gs : List (List aF × List aB)} {out : List aC}, (sO by1 gs out).2 ≠ 0 → (sO by1 gs out).1 = []
  | [], out, h => by simp [sO] at h
  | g :: gs, out, h => by
    unfold sO at h ⊢
    split
    · rfl
    · rename_i e1
      rw [if_neg e1] at h
      split
      · rfl
      · rename_i e2
        rw [if_neg e2] at h
        exact TU h

theorem QJ {l : List aC} (hl : okL l) {g : List aF × List aB} (hg : g ∈ groups l) : g.1.length ≤ 4398046510976 := by
  obtain ⟨_, e, he, h⟩ := DN hg
  rw [h]; exact hl.2 e he

theorem WM {f g : List aC} (hl : okL f) : wI f g = some (decide (f = g)) := by
  unfold wI
  by_cases he : f.length = g.length
  · rw [KC he, cond_false]
    unfold yX
    have := KH (f := f) (g := g) (body := fun s => rB f g s) he ?_ ?_ f.length 0 rfl (Nat.zero_le _)
    · simp only [Int.natCast_zero, List.drop_zero] at this
      rw [this]
      by_cases h : f = g <;> simp [h, uH]
    · intro i x y hx hy
      have hll := hl.1
      obtain ⟨d1, d2, d3, d4⟩ := idx hx (by omega)
      obtain ⟨_, e2, e3, _⟩ := idx hy (by omega)
      have hr := hl.2 x (List.mem_of_getElem? hx)
      simp only [rB, d1, cond_true, bA d2, bA e2, d3, e3, d4, cO]
      rw [bA (fun _ => d2), bA (fun _ => e2), bA (fun _ => d2), bA (fun _ => e2), yN x.Row y.Row (by omega)]
      obtain ⟨x1, x2, x3⟩ := x
      obtain ⟨y1, y2, y3⟩ := y
      by_cases h1 : x2 = y2 <;> by_cases h2 : x3 = y3 <;> by_cases h3 : x1 = y1 <;> simp [h1, h2, h3]
    · simp only [rB, dR, cond_false]
  · rw [IK he, cond_true]
    have : f ≠ g := fun h => he (by rw [h])
    simp [this]

end Go.Abs
namespace Go.Abs
theorem aA3 : @dS = @nZ aC _ := rfl

theorem ZA : @eB = @eE aC _ := rfl

theorem VD (cmp) : ∀ k, @hM cmp k = @eJ aC _ cmp k
  | 0 => rfl
  | k + 1 => by
    show eB cmp _ = eE cmp _
    rw [VD cmp k, ZA]

theorem aAf : @eO = @pO aC _ := by
  funext d a m b cmp
  unfold eO pO
  simp only [VD]

theorem TW : @fI = @zY aC _ := by
  funext d n cmp
  unfold fI zY iP BQ
  unfold iE mQ fC BU
  unfold iD BR iH jV
  unfold iC yE iL mS
  unfold fD yC
  rw [aAf, aA3]
  rfl

end Go.Abs
namespace Go.Abs
open Go
theorem KB {l : List aC} {f : aC → Option Bool} {g : aC → Bool} (hl : l.length ≤ 1099511627776) (hf : ∀ x ∈ l, f x = some (g x)) : dB l f = some (l.any g) := by
  unfold dB fV fO
  obtain ⟨x, e, hx⟩ := DZ hl hf l 0 rfl (Nat.zero_le _)
  have e' : lp (fun s => fM f l (l.length : Nat) s) 0 = some x := e
  rw [e']
  rcases hx with ⟨rfl, h⟩ | ⟨i, rfl, _, _, h, _⟩
  · simp [dX, h]
  · simp [h]

def unE (e : aC) : Bool := ((!fX e.Row) || (decide ((1048576 : Int) < e.Net))) || (decide (e.Net < (-1048576 : Int)))

def FO (e : aC) : Bool := (decide (e.At < (-1 : Int))) || (decide ((1125899906842624 : Int) < e.At))

def ZH (x y : aC) : Int := if dW x.Row y.Row ≠ 0 then dW x.Row y.Row else nM x.At y.At

abbrev okE (x : aC) : Prop := fX x.Row = true

abbrev leE (x y : aC) : Prop := dW x.Row y.Row < 0 ∨ (x.Row = y.Row ∧ x.At ≤ y.At)

theorem or_eq (a b : Int) : vQ [a, b] = some (if a ≠ 0 then a else b) := by
  unfold vQ zE
  have w1 : IntKind.i64.wrap (1 : Int) = 1 := by rw [dV] <;> omega
  have w2 : IntKind.i64.wrap (2 : Int) = 2 := by rw [dV] <;> omega
  have b0 : (fun s => hU 0 [a, b] (([a, b] : List Int).length : Nat) s) (0 : Int) = some (if a ≠ 0 then .inr (.inr a) else .inl 1) := by
    show hU _ _ _ _ = _
    unfold hU
    rw [bA ⟨by omega, by simp⟩]
    by_cases h : a = 0 <;> simp [h, w1]
  have b1 : (fun s => hU 0 [a, b] (([a, b] : List Int).length : Nat) s) (1 : Int) = some (if b ≠ 0 then .inr (.inr b) else .inl 2) := by
    show hU _ _ _ _ = _
    unfold hU
    rw [bA ⟨by omega, by simp⟩]
    by_cases h : b = 0 <;> simp [h, w2]
  have b2 : (fun s => hU 0 [a, b] (([a, b] : List Int).length : Nat) s) (2 : Int) = some (.inr (.inl ())) := by
    show hU _ _ _ _ = _
    unfold hU
    simp
  by_cases h : a = 0
  · rw [if_neg (by simp [h])] at b0
    rw [dL b0]
    by_cases h2 : b = 0
    · rw [if_neg (by simp [h2])] at b1
      rw [dL b1, cM b2]
      simp [uM, h, h2]
    · rw [if_pos h2] at b1
      rw [cM b1]
      simp [h]
  · rw [if_pos h] at b0
    rw [cM b0]
    simp [h]

theorem aB9 {x y : aC} (hx : okE x) (hy : okE y) : nE x y = some (ZH x y) := by
  unfold nE ZH
  rw [QC, hx, hy]
  simp only [Bool.and_self, if_true, Option.bind_some, RB, or_eq]

theorem aB7 (x y : aC) : ZH x y < 0 ↔ ¬ leE y x := by
  unfold ZH leE
  have ha := iA.anti x.Row y.Row
  have hb := iA.anti y.Row x.Row
  have he := iA.eq x.Row y.Row
  by_cases h : dW x.Row y.Row = 0
  · rw [if_neg (by simp [h])]
    have e := he.1 h
    have : ¬ dW y.Row x.Row < 0 := by rw [e]; exact oY
    unfold nM
    constructor
    · intro h1 h2
      rcases h2 with h2 | ⟨_, h2⟩
      · exact this h2
      · split at h1
        · omega
        · split at h1 <;> omega
    · intro h1
      have : ¬ y.At ≤ x.At := fun h2 => h1 (.inr ⟨e.symm, h2⟩)
      rw [if_pos (by omega)]; omega
  · rw [if_pos h]
    have hne : y.Row ≠ x.Row := fun e => h (he.2 e.symm)
    constructor
    · intro h1 h2
      rcases h2 with h2 | ⟨h2, _⟩
      · have := hb.1 h2; omega
      · exact hne h2
    · intro h1
      have : ¬ dW y.Row x.Row < 0 := fun h2 => h1 (.inl h2)
      rw [hb] at this
      omega

theorem aAy (x y : aC) : leE x y ∨ leE y x := by
  unfold leE
  by_cases h : dW x.Row y.Row = 0
  · have e := (iA.eq _ _).1 h
    rcases Int.le_total x.At y.At with h1 | h1
    · exact .inl (.inr ⟨e, h1⟩)
    · exact .inr (.inr ⟨e.symm, h1⟩)
  · by_cases h1 : dW x.Row y.Row < 0
    · exact .inl (.inl h1)
    · exact .inr (.inl ((iA.anti _ _).2 (by omega)))

theorem aAC {x y z : aC} (h1 : leE x y) (h2 : leE y z) : leE x z := by
  rcases h1 with h1 | ⟨e1, h1⟩ <;> rcases h2 with h2 | ⟨e2, h2⟩
  · exact .inl (iA.trans _ _ _ h1 h2)
  · exact .inl (e2 ▸ h1)
  · exact .inl (e1.symm ▸ h2)
  · exact .inr ⟨e1.trans e2, by omega⟩

theorem aDi : Cmp okE leE (fun y0 y1 => nE y0 y1) where
  ans x y hx hy := ⟨_, aB9 hx hy, aB7 x y⟩
  trans x y z _ _ _ h1 h2 := aAC h1 h2
  total x y _ _ := aAy x y

theorem aDl {l : List aC} (hl : l.length ≤ 1099511627776) (ho : ∀ e ∈ l, okE e) : ∃ r, r.Perm l ∧ Srt leE r ∧ dI l (fun y0 y1 => nE y0 y1) = some r := by
  obtain ⟨r, r1, r2, r3⟩ := RA aDi (d := l) ho hl
  refine ⟨r, r1, r2, ?_⟩
  unfold dI
  rw [TW, r3]; rfl

theorem UX : ∀ {l : List aC} {r : List aF} {f : List aB}, Srt leE l → (∀ e ∈ l, e.Row = r ∨ dW r e.Row < 0) → zQ (gA r f l) ∧ ∀ g ∈ gA r f l, g.1 = r ∨ dW r g.1 < 0
  | [], r, f, _, _ => by simp [gA]
  | e :: l, r, f, hs, hr => by
    have hs' := List.pairwise_cons.1 hs
    rw [XQ]
    by_cases h : e.Row = r
    · rw [if_pos h]
      exact UX hs'.2 (fun x hx => hr x (by simp [hx]))
    · rw [if_neg h]
      have hlt : dW r e.Row < 0 := (hr e (by simp)).resolve_left h
      obtain ⟨h1, h2⟩ := UX (r := e.Row) (f := [jE e]) hs'.2 (fun x hx => by
        rcases hs'.1 x hx with h | ⟨h, _⟩
        · exact .inr h
        · exact .inl h.symm)
      have key : ∀ g ∈ gA e.Row [jE e] l, dW r g.1 < 0 := fun g hg => by
        rcases h2 g hg with h | h
        · rw [h]; exact hlt
        · exact iA.trans _ _ _ hlt h
      refine ⟨List.pairwise_cons.2 ⟨key, h1⟩, ?_⟩
      intro g hg
      rcases List.mem_cons.1 hg with rfl | hg
      · exact .inl rfl
      · exact .inr (key g hg)

theorem tM {l : List aC} (hs : Srt leE l) : zQ (groups l) := by
  cases l with
  | nil => exact List.Pairwise.nil
  | cons e l =>
    have hs' := List.pairwise_cons.1 hs
    exact (UX hs'.2 (fun x hx => by
      rcases hs'.1 x hx with h | ⟨h, _⟩
      · exact .inr h
      · exact .inl h.symm)).1

abbrev JK (rs : List (List aF)) : Prop := rs.Pairwise fun a b => dW a b < 0

def rR (r : List aF) : List (List aF) → List (List aF)
  | [] => [r]
  | x :: xs => if dW x r < 0 then x :: rR r xs else if x = r then x :: xs else r :: x :: xs

def rowsOf (l : List aC) : List (List aF) := l.foldl (fun rs e => rR e.Row rs) []

theorem HJ {r x : List aF} : ∀ {rs : List (List aF)}, x ∈ rR r rs ↔ x = r ∨ x ∈ rs
  | [] => by simp [rR]
  | y :: ys => by
    unfold rR
    split
    · simp only [List.mem_cons, HJ (rs := ys)]
      constructor
      · rintro (h | h | h)
        · exact .inr (.inl h)
        · exact .inl h
        · exact .inr (.inr h)
      · rintro (h | h | h)
        · exact .inr (.inl h)
        · exact .inl h
        · exact .inr (.inr h)
    · split
      · rename_i h; subst h; simp
      · simp

theorem VE {r : List aF} : ∀ {rs : List (List aF)}, JK rs → JK (rR r rs)
  | [], _ => by simp [rR]
  | y :: ys, hs => by
    have hs' := List.pairwise_cons.1 hs
    unfold rR
    split
    · rename_i h
      refine List.pairwise_cons.2 ⟨fun z hz => ?_, VE hs'.2⟩
      rcases HJ.1 hz with rfl | hz
      · exact h
      · exact hs'.1 z hz
    · rename_i h
      split
      · exact hs
      · rename_i hne
        have hlt : dW r y < 0 := by
          have h0 : dW y r ≠ 0 := fun e => hne ((iA.eq _ _).1 e)
          exact (iA.anti _ _).2 (by omega)
        refine List.pairwise_cons.2 ⟨fun z hz => ?_, hs⟩
        rcases List.mem_cons.1 hz with rfl | hz
        · exact hlt
        · exact iA.trans _ _ _ hlt (hs'.1 z hz)

theorem JE : ∀ (l : List aC) (rs : List (List aF)), JK rs → JK (l.foldl (fun rs e => rR e.Row rs) rs) ∧ ∀ x, x ∈ l.foldl (fun rs e => rR e.Row rs) rs ↔ x ∈ rs ∨ ∃ e ∈ l, e.Row = x
  | [], rs, hs => ⟨hs, by simp⟩
  | e :: l, rs, hs => by
    obtain ⟨h1, h2⟩ := JE l (rR e.Row rs) (VE hs)
    refine ⟨h1, fun x => ?_⟩
    simp only [List.foldl_cons]
    rw [h2 x, HJ]
    simp only [List.mem_cons, exists_eq_or_imp]
    constructor
    · rintro ((h | h) | h)
      · exact .inr (.inl h.symm)
      · exact .inl h
      · exact .inr (.inr h)
    · rintro (h | h | h)
      · exact .inl (.inr h)
      · exact .inl (.inl h.symm)
      · exact .inr h

theorem NQ (l : List aC) : JK (rowsOf l) := (JE l [] List.Pairwise.nil).1

theorem wU {l : List aC} {x : List aF} : x ∈ rowsOf l ↔ ∃ e ∈ l, e.Row = x := by
  have := (JE l [] List.Pairwise.nil).2 x
  simpa [rowsOf] using this

theorem TN : ∀ {a b : List (List aF)}, JK a → JK b → (∀ x, x ∈ a ↔ x ∈ b) → a = b
  | [], [], _, _, _ => rfl
  | [], y :: ys, _, _, h => absurd ((h y).2 (by simp)) (by simp)
  | x :: xs, [], _, _, h => absurd ((h x).1 (by simp)) (by simp)
  | x :: xs, y :: ys, ha, hb, h => by
    have ha' := List.pairwise_cons.1 ha
    have hb' := List.pairwise_cons.1 hb
    have e : x = y := by
      rcases List.mem_cons.1 ((h x).1 (by simp)) with h1 | h1
      · exact h1
      · rcases List.mem_cons.1 ((h y).2 (by simp)) with h2 | h2
        · exact h2.symm
        · exact absurd (iA.trans _ _ _ (hb'.1 x h1) (ha'.1 y h2)) oY
    subst e
    rw [TN ha'.2 hb'.2 fun z => ?_]
    constructor
    · intro hz
      rcases List.mem_cons.1 ((h z).1 (by simp [hz])) with h1 | h1
      · subst h1; exact absurd (ha'.1 z hz) oY
      · exact h1
    · intro hz
      rcases List.mem_cons.1 ((h z).2 (by simp [hz])) with h1 | h1
      · subst h1; exact absurd (hb'.1 z hz) oY
      · exact h1

def vC (l : List aC) : List (List aF × List aB) := (rowsOf l).map fun r => (r, bX l r)

theorem aBl (l : List aC) : zQ (vC l) := by
  rw [zQ, vC, List.pairwise_map]; exact NQ l

theorem LB {l : List aC} {r : List aF} (h : ∀ e ∈ l, e.Row ≠ r) : bX l r = [] := by
  unfold bX
  rw [List.map_eq_nil_iff, List.filter_eq_nil_iff]
  intro e he
  simpa using h e he

theorem aAY (l : List aC) (r : List aF) : look (vC l) r = bX l r := by
  rcases HE (vC l) r with ⟨h1, h2⟩ | ⟨g, hg, h1, h2⟩
  · rw [h1, LB]
    intro e he hr
    have : (r, bX l r) ∈ vC l := List.mem_map.2 ⟨r, wU.2 ⟨e, he, hr⟩, rfl⟩
    exact h2 _ this rfl
  · rw [h2]
    obtain ⟨q, _, rfl⟩ := List.mem_map.1 hg
    simp only at h1
    rw [h1]

theorem TO {a b : List aC} (h : a.Perm b) (r : List aF) : (bX a r).Perm (bX b r) := (h.filter _).map _

theorem LD {l l' : List aC} (hp : l'.Perm l) (hs : Srt leE l') : (groups l').map (·.1) = rowsOf l := by
  refine TN ?_ (NQ l) fun x => ?_
  · rw [JK, List.pairwise_map]; exact tM hs
  · rw [wU]
    constructor
    · intro h
      obtain ⟨g, hg, rfl⟩ := List.mem_map.1 h
      obtain ⟨_, e, he, h1⟩ := DN hg
      exact ⟨e, hp.mem_iff.1 he, h1.symm⟩
    · rintro ⟨e, he, rfl⟩
      have he' : e ∈ flat (groups l') := by rw [yJ]; exact hp.mem_iff.2 he
      obtain ⟨g, hg, h1⟩ := List.mem_flatMap.1 he'
      obtain ⟨j, _, rfl⟩ := List.mem_map.1 h1
      exact List.mem_map.2 ⟨g, hg, rfl⟩

theorem aBr {l : List aB} (ht : ∀ j ∈ l, -2 < j.At) : Up (-2) (HR l) :=
  HN (by rw [List.map_map]; simpa [Function.comp_def] using JZ ht)

theorem aAc {l : List aB} (ht : ∀ j ∈ l, -2 < j.At) {t : Int} (h1 : -2 < t) (h2 : t < 1125899906842624) : val (HR l) t = val l t := by
  have h0 : val l (-2) = 0 := CN fun j hj => ht j hj
  have := JY (F := val l) (JZ ht) (fun s t' _ hst hlt hn => JW hst fun j hj hc => hn j.At (LY.2 (Or.inr ⟨j, List.mem_filter.2 ⟨hj, by simp; omega⟩, rfl⟩)) hc) t (by omega) h2
  rw [h0] at this
  unfold HR
  rw [this]; omega

theorem ZI {f g : List aB} (h : f.Perm g) (hf : f.any EM = false) : HR f = HR g := by
  have hg : ∀ j ∈ g, -2 < j.At := fun j hj => (EN hf j (h.mem_iff.2 hj)).1
  exact LX (fun j hj => (EN hf j hj).1) (aBr hg) fun t h1 h2 => by rw [aAc hg h1 h2, SS h]

theorem LW {f g : List aB} (h : f.Perm g) (p : aB → Bool) : f.any p = g.any p := by
  cases h1 : g.any p
  · rw [List.any_eq_false] at h1 ⊢
    exact fun x hx => h1 x (h.mem_iff.1 hx)
  · obtain ⟨x, hx, hp⟩ := List.any_eq_true.1 h1
    exact List.any_eq_true.2 ⟨x, h.mem_iff.2 hx, hp⟩

theorem YZ {f g : List aB} (h : f.Perm g) : mY f = mY g := by
  unfold mY
  rw [LW h xZ, LW h EM]
  split
  · rfl
  · split
    · rfl
    · rename_i h2
      rw [ZI h (by rw [LW h EM]; simpa using h2)]

theorem ZZ (l : List aB) : (mY l).1.length ≤ 1024 := by
  unfold mY
  split
  · simp
  · split
    · simp
    · exact aBD _

theorem NO {by1 : List aB → List aB × Int} : ∀ {gs hs : List (List aF × List aB)} {out : List aC}, gs.map (fun g => (g.1, by1 g.2)) = hs.map (fun g => (g.1, by1 g.2)) → sO by1 gs out = sO by1 hs out
  | [], [], _, _ => rfl
  | [], _ :: _, _, h => by simp at h
  | _ :: _, [], _, h => by simp at h
  | g :: gs, k :: hs, out, h => by
    simp only [List.map_cons, List.cons.injEq, Prod.mk.injEq] at h
    obtain ⟨⟨h1, h2⟩, h3⟩ := h
    unfold sO
    rw [h1, h2]
    split
    · rfl
    · split
      · rfl
      · exact NO h3

theorem WC {l l' : List aC} (hp : l'.Perm l) (hs : Srt leE l') : (groups l').map (fun g => (g.1, mY g.2)) = (vC l).map (fun g => (g.1, mY g.2)) := by
  have h1 : (groups l').map (fun g => (g.1, mY g.2)) = ((groups l').map (·.1)).map (fun r => (r, mY (bX l r))) := by
    rw [List.map_map]
    apply List.map_congr_left
    intro g hg
    have hj : g.2 = bX l' g.1 := by rw [← oF (tM hs), vY (tM hs) hg]
    simp only [Function.comp]
    rw [hj, YZ (TO hp g.1)]
  rw [h1, LD hp hs, vC, List.map_map]
  rfl

def tH (l : List aC) : List aC × Int := if l.any unE then ([], 2) else if l.any FO then ([], 13) else sO mY (vC l) []

theorem XN {l : List aC} (h : l.any unE = false) : ∀ e ∈ l, fX e.Row = true ∧ e.Net ≤ 1048576 ∧ -1048576 ≤ e.Net := by
  intro e he
  have := List.any_eq_false.1 h e he
  simp only [unE, Bool.or_eq_true, not_or, Bool.not_eq_true', decide_eq_true_eq, Bool.not_eq_false, Bool.not_eq_true] at this
  exact ⟨by simpa using this.1.1, by omega, by omega⟩

theorem aBz {l : List aC} (hl : okL l) (hn : l.length ≤ 1099511627776) : xW l = some (tH l) := by
  unfold xW tH
  rw [KB (g := unE) hn (fun x _ => by simp [uO, GJ, unE])]
  simp only [Option.bind_some]
  cases h1 : l.any unE
  · rw [KB (f := fun y0 => tW y0) (g := FO) hn (fun x _ => rfl)]
    simp only [cond_false, Option.bind_some, Bool.false_eq_true, if_false]
    cases h2 : l.any FO
    · simp only [cond_false, Bool.false_eq_true, if_false]
      have hc : fA l = some l := by unfold fA; exact bA ⟨by omega, by omega⟩
      obtain ⟨r, r1, r2, r3⟩ := aDl hn (fun e he => (XN h1 e he).1)
      rw [hc]
      simp only [Option.bind_some]
      rw [r3]
      simp only [Option.bind_some]
      have hr : okL r := ⟨by rw [r1.length_eq]; exact hl.1, fun e he => hl.2 e (r1.mem_iff.1 he)⟩
      rw [aAw hr (by1 := mY) (fun g hg => ⟨by
        unfold tZ
        have hgl : g.2.length ≤ 1099511627776 := by
          have h3 : g.2 = bX r g.1 := by rw [← oF (tM r2), vY (tM r2) hg]
          rw [h3, bX, List.length_map]
          exact Nat.le_trans (List.length_filter_le _ _) (by rw [r1.length_eq]; exact hn)
        rw [norm_eq hgl]; rfl, ZZ _, QJ hr hg⟩)]
      simp only [Option.bind_some]
      rw [NO (WC r1 r2)]
    · simp
  · simp

theorem aAn : mY [] = ([], 0) := rfl

theorem aBM {l : List aC} (h : (tH l).2 = 0) : l.any unE = false ∧ l.any FO = false ∧ (∀ g ∈ vC l, (mY g.2).2 = 0) ∧ (tH l).1 = flat (xT mY (vC l)) ∧ (tH l).1.length ≤ 4096 := by
  unfold tH at h ⊢
  cases h1 : l.any unE
  · rw [h1] at h
    simp only [Bool.false_eq_true, if_false] at h ⊢
    cases h2 : l.any FO
    · rw [h2] at h
      simp only [Bool.false_eq_true, if_false] at h ⊢
      obtain ⟨a, b, c⟩ := YB (by simp) h
      exact ⟨trivial, trivial, a, by simpa using b, c⟩
    · rw [h2] at h; simp at h
  · rw [h1] at h; simp at h

theorem YV {l : List aC} (h : (tH l).2 ≠ 0) : (tH l).1 = [] := by
  unfold tH at h ⊢
  split
  · rfl
  · rename_i h1
    rw [if_neg h1] at h
    split
    · rfl
    · rename_i h2
      rw [if_neg h2] at h
      exact TU h

end Go.Abs
namespace Go.Abs
open Go
def SI (s : aR) : Bool := (decide (0 ≤ s.From) && decide (s.From ≤ 1125899906842624)) && (decide (0 ≤ s.To) && decide (s.To ≤ 1125899906842624)) && decide (s.From < s.To)

theorem YR (s : aR) : BC s = some (SI s) := by
  unfold BC yL SI
  simp only [Option.bind_some]
  cases h : (decide (0 ≤ s.From) && decide (s.From ≤ 1125899906842624)) <;> simp [cO]

end Go.Abs
namespace Go.Abs
open Go
theorem PJ : okL [] := ⟨by simp, by simp⟩

theorem aBL {gs : List (List aF × List aB)} (h : ∀ g ∈ gs, g.1.length ≤ 4398046510976) (hl : (flat gs).length ≤ 4096) : okL (flat gs) := by
  refine ⟨by omega, fun e he => ?_⟩
  obtain ⟨g, hg, h1⟩ := List.mem_flatMap.1 he
  obtain ⟨j, _, rfl⟩ := List.mem_map.1 h1
  exact h g hg

theorem aAH {l : List aC} (hl : okL l) : okL (tH l).1 := by
  by_cases h : (tH l).2 = 0
  · obtain ⟨_, _, _, h4, h5⟩ := aBM h
    rw [h4] at h5 ⊢
    refine aBL (fun g hg => ?_) h5
    obtain ⟨q, hq, rfl⟩ := List.mem_map.1 hg
    obtain ⟨r, hr, rfl⟩ := List.mem_map.1 hq
    obtain ⟨e, he, rfl⟩ := wU.1 hr
    exact hl.2 e he
  · rw [YV h]; exact PJ

end Go.Abs
namespace Go.Abs
open Go
theorem KX {σ : Type} {y : σ → List aF → List aB → Option (σ × Bool)} (c : List aC) : ∀ (gs : List (List aF × List aB)) (s s' : σ), itG y gs s = some s' →
    ∃ x, itG (fun st t10 t11 => rnd (fun (s : σ) => jQ y c s t10 t11) st) gs (.inl s) = some x ∧ Sum.elim id id x = s'
  | [], s, s', h => by simp only [itG, Option.some.injEq] at h; exact ⟨_, rfl, h⟩
  | g :: gs, s, s', h => by
    simp only [itG] at h
    obtain ⟨z, hz, h⟩ := aX h
    have hl : jQ y c s g.1 g.2 = some (if z.2 then .inl z.1 else .inr z.1) := by
      unfold jQ
      rw [hz]
      obtain ⟨z1, z2⟩ := z
      cases z2 <;> rfl
    cases h2 : z.2
    · rw [h2] at h hl
      simp only [Bool.false_eq_true, if_false, Option.some.injEq] at h hl
      refine ⟨.inr z.1, ?_, h⟩
      simp [itG, rnd, hl]
    · rw [h2] at h hl
      simp only [if_true] at h hl
      obtain ⟨x, h3, h4⟩ := KX c gs z.1 s' h
      refine ⟨x, ?_, h4⟩
      simp only [itG, rnd, hl, Option.bind_some, Sum.isLeft_inl, if_true]
      exact h3

theorem ON {σ : Type} {y : σ → List aF → List aB → Option (σ × Bool)} {l : List aC} (hl : okL l) {s s' : σ} (h : itG y (if oW l then groups l else []) s = some s') : nA y l s = some s' := by
  unfold nA
  rw [XH hl]
  cases hm : oW l
  · rw [hm] at h
    simp only [Bool.false_eq_true, if_false, itG] at h
    simpa using h
  · rw [hm] at h
    simp only [if_true] at h
    simp only [Option.bind_some, Bool.not_true, cond_false, pM, rI]
    obtain ⟨x, h1, h2⟩ := KX l (groups l) s s' h
    rw [PN hl h1]
    cases x <;> simpa using h2

theorem aA8 {l a : List aC} (hu : l.any unE = false) (ho : l.any FO = false) (ma : oW a = true) (h : ∀ r, mY (bX l r) = (bX a r, 0)) : tH l = (a, 0) := by
  obtain ⟨h1, _, h3⟩ := qX ma
  have hs := aBw (by1 := mY) (aBl l)
  have hf : flat (xT mY (vC l)) = a := by
    rw [← ER]
    conv => rhs; rw [← yJ a]
    rw [XE (gs := JH (xT mY (vC l))) (hs := groups a) (hs.filter _) h3 (aAZ _) (WX a) fun r => ?_]
    have h4 := AP (gs := JH (xT mY (vC l))) (hs.filter _) r
    rw [← h4, ER, AP hs, QN (by rw [aAn]), aAY, h r, oF h3]
  unfold tH
  rw [if_neg (by simp [hu]), if_neg (by simp [ho]), SX (fun g hg => ?_) (by simpa [hf] using h1), hf]
  · rfl
  · obtain ⟨r, _, rfl⟩ := List.mem_map.1 hg
    simp only
    rw [h r]

theorem ZB {l : List aC} (hm : oW l = true) {e : aC} (he : e ∈ l) : fX e.Row = true ∧ -2 < e.At ∧ e.At < 1125899906842624 ∧ e.Net ≠ 0 ∧ e.Net ≤ 1048576 ∧ -1048576 ≤ e.Net := by
  obtain ⟨_, h2, _⟩ := qX hm
  have he' : e ∈ flat (groups l) := by rw [yJ]; exact he
  obtain ⟨g, hg, h1⟩ := List.mem_flatMap.1 he'
  obtain ⟨j, hj, rfl⟩ := List.mem_map.1 h1
  obtain ⟨a, b⟩ := h2 g hg
  exact ⟨a, (kT.1 b).2.above j hj⟩

theorem AY {l : List aC} (hm : oW l = true) (r : List aF) : fZ (bX l r) = true := by
  rw [← oF (qX hm).2.2]; exact aAL hm r

theorem aBd {f h : List aB} (h1 : f.any xZ = false) (h2 : f.any EM = false) (hh : fZ h = true) (hv : ∀ t, -2 < t → t < 1125899906842624 → val h t = val f t) : mY f = (h, 0) := by
  unfold mY
  rw [if_neg (by simp [h1]), if_neg (by simp [h2]), LX (fun j hj => (EN h2 j hj).1) (aCK hh) hv]
  unfold told
  rw [if_pos hh]

end Go.Abs
namespace Go.Abs
open Go
theorem FJ {l : List aC} (hl : okL l) (hn : l.length ≤ 1099511627776) {r : List aF} : oZ l r = some (bX l r) := by
  unfold oZ wO
  rw [nX (l := l) (body := fun s : List aB × Int => mE l r s.1 s.2) (fun o i => (o, i)) (fun o t => o ++ bX t r) (fun o t => o.length + t.length ≤ 1099511627776) [] ?_ ?_ (by simpa using hn)]
  · rfl
  · intro i a t o ha hi
    left
    obtain ⟨d1, d2, d3, d4⟩ := idx ha (by omega)
    simp only [List.length_cons] at hi
    have hr := hl.2 a (List.mem_of_getElem? ha)
    have hb : mE l r o (i : Int) = some (.inl (if a.Row = r then o ++ [jE a] else o, ((i + 1 : Nat) : Int))) := by
      simp only [mE, sS, d1, cond_true, bA d2, d3, d4, yN a.Row r (by omega), Option.bind_some]
      by_cases e : a.Row = r
      · simp only [e, decide_true, cond_true, if_true]
        rw [bA (by simp only [List.length_cons, List.length_nil]; omega)]; rfl
      · simp [e]
    refine ⟨_, hb, ?_, ?_⟩
    · split
      · simp; omega
      · omega
    · by_cases e : a.Row = r <;> simp [bX, e]
  · intro o _
    show mE _ _ _ _ = _
    simp only [mE, dR, cond_false]
    simp [bX]

theorem MA (r : List aF) : ∀ rs : List (List aF), (rR r rs).length ≤ rs.length + 1
  | [] => by simp [rR]
  | x :: xs => by
    unfold rR
    split
    · simp only [List.length_cons]; have := MA r xs; omega
    · split <;> simp

def xU (r : List aF) : List (List aF) → Nat
  | [] => 0
  | x :: xs => if dW x r < 0 then xU r xs + 1 else 0

theorem XU (r : List aF) : ∀ rs, xU r rs ≤ rs.length
  | [] => by simp [xU]
  | x :: xs => by unfold xU; split <;> simp [XU r xs]

theorem UE (r : List aF) : ∀ rs, rR r rs = if rs[xU r rs]? = some r then rs else rs.take (xU r rs) ++ [r] ++ rs.drop (xU r rs)
  | [] => by simp [rR]
  | x :: xs => by
    unfold rR xU
    by_cases h : dW x r < 0
    · rw [if_pos h, if_pos h, UE r xs]
      simp only [List.getElem?_cons_succ, List.take_succ_cons, List.drop_succ_cons]
      split <;> simp
    · rw [if_neg h, if_neg h]
      by_cases e : x = r <;> simp [e]

theorem NH {l : List aC} {rs : List (List aF)} {e : aC} {i : Nat} (hi : l[i]? = some e) (hl : okL l) (he : fX e.Row = true) (hr : ∀ x ∈ rs, fX x = true) (hn : rs.length ≤ 1099511627776) : ∀ (t : List (List aF)) (k : Nat), rs.drop k = t → k ≤ rs.length →
    lp (fun s : List (List aF) × Int => lY l (i : Int) s.1 s.2) (rs, (k : Int)) = some (rs, ((k + xU e.Row t : Nat) : Int))
  | [], k, hd, hk => by
    have : k = rs.length := by
      have := congrArg List.length hd
      simp only [List.length_drop, List.length_nil] at this; omega
    subst this
    refine cM ?_
    show lY _ _ _ _ = _
    simp only [lY, dR, cO, cond_false, Option.bind_some, Bool.false_and]
    rw [bA (fun h => by cases h), bA (fun h => by cases h)]
    simp [xU]
  | x :: t, k, hd, hk => by
    obtain ⟨h1, h2⟩ := drop_cons hd
    have hlt := (List.getElem?_eq_some_iff.1 h1).1
    obtain ⟨d1, d2, d3, d4⟩ := idx h1 (by omega)
    obtain ⟨_, c2, c3, _⟩ := idx hi (by have := hl.1; omega)
    have hx := hr x (List.mem_of_getElem? h1)
    have hb : (fun s : List (List aF) × Int => lY l (i : Int) s.1 s.2) (rs, (k : Int)) = some (if dW x e.Row < 0 then .inl (rs, ((k + 1 : Nat) : Int)) else .inr (rs, (k : Int))) := by
      show lY _ _ _ _ = _
      simp only [lY, d1, cO, cond_true, d3, c3, d4, Bool.true_and]
      rw [bA (fun _ => d2), bA (fun _ => c2), KF x e.Row (by have := (xB hx).1; omega) (by have := (xB he).1; omega), hx, he]
      simp only [Bool.and_self, if_true, Option.bind_some]
      by_cases h : dW x e.Row < 0 <;> simp [h]
    unfold xU
    by_cases h : dW x e.Row < 0
    · rw [if_pos h] at hb
      rw [dL hb, NH hi hl he hr hn t (k + 1) h2 (by omega), if_pos h]
      congr 3; omega
    · rw [if_neg h] at hb
      rw [cM hb, if_neg h]; rfl

theorem HU {l : List aC} (hl : okL l) (hm : ∀ e ∈ l, fX e.Row = true) (hn : l.length ≤ 1099511627776) : qC l = some (rowsOf l) := by
  unfold qC yR
  rw [nX (l := l) (body := fun s : List (List aF) × Int => nK l s.1 s.2) (fun o i => (o, i)) (fun o t => t.foldl (fun rs e => rR e.Row rs) o) (fun o t => o.length + t.length ≤ 1099511627776 ∧ ∀ x ∈ o, fX x = true) [] ?_ ?_ ⟨by simpa using hn, by simp⟩]
  · rfl
  · rintro i e t rs hi ⟨h1, h2⟩
    left
    obtain ⟨d1, d2, d3, d4⟩ := idx hi (by omega)
    have he := hm e (List.mem_of_getElem? hi)
    simp only [List.length_cons] at h1
    refine ⟨rR e.Row rs, ?_, ⟨by have := MA e.Row rs; omega, fun x hx => by
      rcases HJ.1 hx with rfl | h
      · exact he
      · exact h2 x h⟩, rfl⟩
    show nK _ _ _ = _
    have hin := NH hi hl he h2 (by omega) rs 0 rfl (Nat.zero_le _)
    simp only [Int.natCast_zero, Nat.zero_add] at hin
    have hple := XU e.Row rs
    simp only [nK, d1, cond_true, zF, hin, Option.bind_some, tY, tR, d3, d4]
    rw [UE]
    by_cases hp : xU e.Row rs < rs.length
    · have hx : rs[xU e.Row rs]? = some rs[xU e.Row rs] := List.getElem?_eq_getElem hp
      obtain ⟨f1, f2, f3, _⟩ := idx hx (by omega)
      have hrow := h2 _ (List.mem_of_getElem? hx)
      simp only [f1, f3, cO, cond_true, Bool.true_and]
      rw [bA (fun _ => f2), bA (fun _ => d2), yN _ _ (by have := (xB hrow).1; omega)]
      by_cases hq : rs[xU e.Row rs] = e.Row
      · simp [hq, hx]
      · simp only [hq, decide_false, cond_false, Option.bind_some, hx, Option.some.injEq, if_false, Int.toNat_natCast]
        rw [bA ⟨by omega, by omega⟩, bA ⟨by simp; omega, by simp; omega⟩, bA d2, bA ⟨by simp; omega, by simp; omega⟩, bA ⟨by omega, by omega⟩, bA ⟨by simp; omega, by simp; omega⟩]
    · have hpe : xU e.Row rs = rs.length := by omega
      rw [hpe]
      simp only [dR, cO, cond_false, Option.bind_some, Bool.false_and]
      rw [bA (fun h => by cases h), bA (fun h => by cases h)]
      have hnone : rs[rs.length]? = none := by simp
      simp only [hnone, reduceCtorEq, if_false, Int.toNat_natCast]
      rw [bA ⟨by omega, by omega⟩, bA ⟨by simp; omega, by simp; omega⟩, bA d2, bA ⟨by simp; omega, by simp; omega⟩, bA ⟨by omega, by omega⟩, bA ⟨by simp; omega, by simp; omega⟩]
  · rintro rs ⟨_, _⟩
    show nK _ _ _ = _
    simp only [nK, dR, cond_false]
    rfl

theorem II : ∀ (l : List aC) (rs : List (List aF)), (l.foldl (fun rs e => rR e.Row rs) rs).length ≤ rs.length + l.length
  | [], rs => by simp
  | e :: l, rs => by
    have := II l (rR e.Row rs)
    have := MA e.Row rs
    simp only [List.foldl_cons, List.length_cons]; omega

theorem HL (l : List aC) : (rowsOf l).length ≤ l.length := by
  have := II l []
  simpa [rowsOf] using this

end Go.Abs
namespace Go.Abs
open Go
theorem RJ {l : List aC} (h1 : l.any unE = false) (h2 : l.any FO = false) (r : List aF) : (bX l r).any xZ = false ∧ (bX l r).any EM = false := by
  constructor
  · refine List.any_eq_false.2 fun j hj => ?_
    obtain ⟨e, he, rfl⟩ := List.mem_map.1 hj
    have := XN h1 e (List.mem_filter.1 he).1
    have h3 : (jE e).Net = e.Net := rfl
    simp only [xZ, DE, h3, Bool.not_eq_true', Bool.and_eq_false_iff, decide_eq_false_iff_not, not_or, Decidable.not_not, Bool.not_eq_false, Bool.and_eq_true, decide_eq_true_eq]
    omega
  · refine List.any_eq_false.2 fun j hj => ?_
    obtain ⟨e, he, rfl⟩ := List.mem_map.1 hj
    have := List.any_eq_false.1 h2 e (List.mem_filter.1 he).1
    have h3 : (jE e).At = e.At := rfl
    simp only [FO, Bool.or_eq_true, decide_eq_true_eq, not_or] at this
    simp only [EM, h3, Bool.or_eq_true, decide_eq_true_eq]
    omega

end Go.Abs
namespace Go.Abs
open Go
abbrev ltE (x y : aC) : Prop := dW x.Row y.Row < 0 ∨ (x.Row = y.Row ∧ x.At < y.At)

theorem aAU {x y z : aC} (h1 : ltE x y) (h2 : ltE y z) : ltE x z := by
  rcases h1 with h1 | ⟨h1, h1'⟩ <;> rcases h2 with h2 | ⟨h2, h2'⟩
  · exact .inl (iA.trans _ _ _ h1 h2)
  · exact .inl (h2 ▸ h1)
  · exact .inl (h1 ▸ h2)
  · exact .inr ⟨h1.trans h2, by omega⟩

theorem FE : ∀ {f : List aB} {last : Int}, vA last f ↔ (∀ j ∈ f, qI last j = false) ∧ f.Pairwise fun a b => a.At < b.At
  | [], last => by simp [vA]
  | j :: f, last => by
    rw [List.pairwise_cons]
    unfold vA
    rw [← lV]
    constructor
    · rintro ⟨h1, h2⟩
      have h3 := FE.1 h2
      have h4 := lV.1 h1
      refine ⟨fun k hk => ?_, fun k hk => (lV.1 (h3.1 k hk)).1, h3.2⟩
      rcases List.mem_cons.1 hk with rfl | hk
      · exact h1
      · have := lV.1 (h3.1 k hk)
        exact lV.2 (by omega)
    · rintro ⟨h1, h2, h3⟩
      refine ⟨h1 j (by simp), FE.2 ⟨fun k hk => ?_, h3⟩⟩
      have := lV.1 (h1 k (by simp [hk]))
      have := h2 k hk
      exact lV.2 (by omega)

theorem BJ {l : List aC} : oW l = true ↔ l.length ≤ 4096 ∧ (∀ e ∈ l, fX e.Row = true ∧ qI (-2) (jE e) = false) ∧ l.Pairwise ltE ∧ ∀ r ∈ rowsOf l, (bX l r).length ≤ 1024 := by
  constructor
  · intro h
    obtain ⟨h1, h2, h3⟩ := qX h
    refine ⟨h1, fun e he => ?_, ?_, fun r _ => (kT.1 (AY h r)).1⟩
    · obtain ⟨a, b, c, d, e1, e2⟩ := ZB h he
      exact ⟨a, lV.2 ⟨b, c, d, e1, e2⟩⟩
    · rw [← yJ l]
      unfold flat
      rw [List.flatMap, List.pairwise_flatten, List.pairwise_map]
      constructor
      · intro x hx
        obtain ⟨g, hg, rfl⟩ := List.mem_map.1 hx
        have := (FE.1 (kT.1 (h2 g hg).2).2).2
        rw [lO, List.pairwise_map]
        exact this.imp fun h => .inr ⟨rfl, h⟩
      · refine h3.imp fun {a b} h x hx y hy => ?_
        obtain ⟨j, _, rfl⟩ := List.mem_map.1 hx
        obtain ⟨k, _, rfl⟩ := List.mem_map.1 hy
        exact .inl h
  · rintro ⟨h1, h2, h3, h4⟩
    have hs : Srt leE l := h3.imp fun h => by
      rcases h with h | ⟨h, h'⟩
      · exact .inl h
      · exact .inr ⟨h, by omega⟩
    have hg := tM hs
    unfold oW
    rw [Bool.and_eq_true]
    refine ⟨by simpa using h1, zS.2 ⟨fun g hg' => ?_, hg, fun q hq => by cases hq⟩⟩
    obtain ⟨_, e, he, h5⟩ := DN hg'
    have hj : g.2 = bX l g.1 := by rw [← oF hg, vY hg hg']
    refine ⟨by rw [h5]; exact (h2 e he).1, ?_⟩
    rw [hj]
    refine kT.2 ⟨h4 _ (wU.2 ⟨e, he, h5.symm⟩), FE.2 ⟨fun j hj => ?_, ?_⟩⟩
    · obtain ⟨e, he, rfl⟩ := List.mem_map.1 hj
      exact (h2 e (List.mem_filter.1 he).1).2
    · unfold bX
      rw [List.pairwise_map, List.pairwise_filter]
      refine h3.imp fun {a b} h ha hb => ?_
      rcases h with h | ⟨_, h⟩
      · simp only [decide_eq_true_eq] at ha hb
        rw [ha, hb] at h
        exact absurd h oY
      · exact h

theorem aBn {α : Type} {R : α → α → Prop} (ht : ∀ {x y z}, R x y → R y z → R x z) {l : List α} : l.Pairwise R ↔ ∀ (i : Nat) (a b : α), l[i]? = some a → l[i + 1]? = some b → R a b := by
  constructor
  · intro h i a b ha hb
    obtain ⟨h1, rfl⟩ := List.getElem?_eq_some_iff.1 ha
    obtain ⟨h2, rfl⟩ := List.getElem?_eq_some_iff.1 hb
    exact List.pairwise_iff_getElem.1 h i (i + 1) h1 h2 (by omega)
  · intro h
    refine List.pairwise_iff_getElem.2 fun i j hi hj hij => ?_
    obtain ⟨k, rfl⟩ : ∃ k, j = i + 1 + k := ⟨j - i - 1, by omega⟩
    clear hij
    induction k with
    | zero => exact h i _ _ (List.getElem?_eq_getElem hi) (List.getElem?_eq_getElem hj)
    | succ k ih => exact ht (ih (by omega)) (h (i + 1 + k) _ _ (List.getElem?_eq_getElem (by omega)) (List.getElem?_eq_getElem hj))

def OV (a b : List aF) : Int := if fX a && fX b then dW a b else 0

def EU (l : List aC) (i : Nat) : Bool := !(fX (l.getD i default).Row && !qI (-2) (jE (l.getD i default))) || (decide (i ≠ 0) && (decide (0 < OV (l.getD (i - 1) default).Row (l.getD i default).Row) || (decide (OV (l.getD (i - 1) default).Row (l.getD i default).Row = 0) && decide ((l.getD i default).At ≤ (l.getD (i - 1) default).At))))

theorem QZ {l : List aC} : (List.range l.length).any (EU l) = false ↔ (∀ e ∈ l, fX e.Row = true ∧ qI (-2) (jE e) = false) ∧ l.Pairwise ltE := by
  rw [List.any_eq_false, aBn (R := ltE) (fun h1 h2 => aAU h1 h2)]
  constructor
  · intro h
    have h' : ∀ i, i < l.length → EU l i = false := fun i hi => by simpa using h i (List.mem_range.2 hi)
    refine ⟨fun e he => ?_, fun i a b ha hb => ?_⟩
    · obtain ⟨i, hi, rfl⟩ := List.mem_iff_getElem.1 he
      have := h' i hi
      unfold EU at this
      rw [Bool.or_eq_false_iff] at this
      have h1 := this.1
      simp only [List.getD_eq_getElem?_getD, List.getElem?_eq_getElem hi, Option.getD_some, Bool.not_eq_false', Bool.and_eq_true, Bool.not_eq_true'] at h1
      exact h1
    · obtain ⟨hi, rfl⟩ := List.getElem?_eq_some_iff.1 ha
      obtain ⟨hj, rfl⟩ := List.getElem?_eq_some_iff.1 hb
      have := h' (i + 1) hj
      have r1 := h' i hi
      unfold EU at this r1
      rw [Bool.or_eq_false_iff] at this r1
      have h1 := this.2
      have r2 := this.1
      have r1 := r1.1
      simp only [List.getD_eq_getElem?_getD, List.getElem?_eq_getElem hi, List.getElem?_eq_getElem hj, Option.getD_some, Bool.not_eq_false', Bool.and_eq_true, Bool.not_eq_true'] at r1 r2
      simp only [List.getD_eq_getElem?_getD, Nat.add_sub_cancel, List.getElem?_eq_getElem hi, List.getElem?_eq_getElem hj, Option.getD_some, ne_eq, Nat.add_eq_zero_iff, Nat.one_ne_zero, and_false, not_false_eq_true, decide_true, Bool.true_and, Bool.or_eq_false_iff, decide_eq_false_iff_not, Bool.and_eq_false_iff, OV, r1.1, r2.1, Bool.and_self, if_true] at h1
      by_cases hc : dW l[i].Row l[i + 1].Row = 0
      · refine .inr ⟨(iA.eq _ _).1 hc, ?_⟩
        rcases h1.2 with h | h
        · exact absurd hc h
        · omega
      · exact .inl (by omega)
  · rintro ⟨h1, h2⟩ i hi
    have hi := List.mem_range.1 hi
    unfold EU
    have ge : l.getD i default = l[i] := by simp [List.getD_eq_getElem?_getD, hi]
    have := h1 l[i] (List.getElem_mem hi)
    rw [ge, this.1, this.2]
    by_cases h0 : i = 0
    · simp [h0]
    · have hi' : i - 1 < l.length := by omega
      have ge' : l.getD (i - 1) default = l[i - 1] := by simp [List.getD_eq_getElem?_getD, hi']
      have h3 := h2 (i - 1) l[i - 1] l[i] (List.getElem?_eq_getElem hi') (by rw [show i - 1 + 1 = i by omega]; exact List.getElem?_eq_getElem hi)
      rw [ge']
      have r1 := (h1 l[i - 1] (List.getElem_mem hi')).1
      unfold OV
      rw [r1, this.1]
      rcases h3 with h3 | ⟨h3, h4⟩
      · have a : ¬ 0 < dW l[i - 1].Row l[i].Row := by omega
        have b : ¬ dW l[i - 1].Row l[i].Row = 0 := by omega
        simp [a, b]
      · have a : dW l[i - 1].Row l[i].Row = 0 := (iA.eq _ _).2 h3
        have b : ¬ l[i].At ≤ l[i - 1].At := by omega
        simp [a, b]

theorem MP {l : List aC} (hl : okL l) : uW l = some (oW l) := by
  unfold uW
  by_cases hn : l.length ≤ 4096
  · have h1 : decide ((4096 : Int) < ((l.length : Nat) : Int)) = false := by simp; omega
    rw [h1, cond_false]
    unfold AV
    have hlp := OA (body := fun s => oK l s) (l := List.range l.length) (fun i => i) (EU l) (.inr false) (.inl ()) ?_ ?_
    · rw [hlp]
      cases hb : (List.range l.length).any (EU l)
      · obtain ⟨h2, h3⟩ := QZ.1 hb
        have hr := HU hl (fun e he => (h2 e he).1) (by omega)
        simp only [Bool.false_eq_true, if_false, Option.bind_some, Sum.elim_inl, vM, hr, AS]
        have hrl := HL l
        rw [OA (l := rowsOf l) (fun i => i) (fun r => decide (1024 < (bX l r).length)) (.inr false) (.inl ()) ?_ ?_]
        · cases hc : (rowsOf l).any fun r => decide (1024 < (bX l r).length)
          · have : oW l = true := BJ.2 ⟨hn, h2, h3, fun r hr => by
              have := List.any_eq_false.1 hc r hr
              simp only [decide_eq_true_eq] at this; omega⟩
            rw [this]; rfl
          · have : oW l = false := by
              rw [Bool.eq_false_iff]
              intro hm
              obtain ⟨r, hr, h4⟩ := List.any_eq_true.1 hc
              have := (BJ.1 hm).2.2.2 r hr
              simp only [decide_eq_true_eq] at h4; omega
            rw [this]; rfl
        · intro i r hi
          obtain ⟨d1, d2, d3, d4⟩ := idx hi (by omega)
          show qE _ _ _ = _
          simp only [qE, d1, cond_true, bA d2, d3, d4, FJ hl (show l.length ≤ 1099511627776 by omega), Option.bind_some]
          by_cases h : 1024 < (bX l r).length
          · have h' : (1024 : Int) < (((bX l r).length : Nat) : Int) := by omega
            simp [h, h']
          · have h' : ¬ (1024 : Int) < (((bX l r).length : Nat) : Int) := by omega
            simp [h, h']
        · show qE _ _ _ = _
          simp only [qE, dR, cond_false]
      · have : oW l = false := by
          rw [Bool.eq_false_iff]
          intro hm
          obtain ⟨_, h2, h3, _⟩ := BJ.1 hm
          have := QZ.2 ⟨h2, h3⟩
          rw [this] at hb; cases hb
        rw [this]; rfl
    · intro i k hi
      obtain ⟨hi0, hk⟩ := List.getElem?_eq_some_iff.1 hi
      rw [List.getElem_range] at hk
      subst hk
      have hi1 : i < l.length := by simpa using hi0
      have hx := List.getElem?_eq_getElem hi1
      obtain ⟨d1, d2, d3, d4⟩ := idx hx (by omega)
      have hr := hl.2 _ (List.getElem_mem hi1)
      have ge : l.getD i default = l[i] := by simp [List.getD_eq_getElem?_getD, hi1]
      show oK _ _ = _
      simp only [oK, d1, cond_true, bA d2, d3, HS l[i].Row (by omega), Option.bind_some]
      rw [bA (fun _ => d2), bA (fun _ => d2)]
      have hm : pQ [⟨l[i].At, l[i].Net⟩] = some (!qI (-2) (jE l[i])) := by
        rw [IS]
        simp only [fZ, chk, List.length_cons, List.length_nil, jE]
        cases qI (-2) ⟨l[i].At, l[i].Net⟩ <;> rfl
      rw [hm]
      unfold EU
      rw [ge]
      cases h2 : fX l[i].Row
      · simp [cO]
      · cases h3 : qI (-2) (jE l[i])
        · simp only [cO, Bool.not_true, Bool.not_false, cond_true, Option.bind_some, Bool.or_self, cond_false, Bool.and_self]
          by_cases h0 : i = 0
          · subst h0
            simp [sM, dV]
          · have hi' : i - 1 < l.length := by omega
            have hw : IntKind.i64.wrap ((i : Int) - 1) = ((i - 1 : Nat) : Int) := by rw [dV (by omega) (by omega)]; omega
            have hx' := List.getElem?_eq_getElem hi'
            obtain ⟨_, e2, e3, _⟩ := idx hx' (by omega)
            have ge' : l.getD (i - 1) default = l[i - 1] := by simp [List.getD_eq_getElem?_getD, hi']
            have hr' := hl.2 _ (List.getElem_mem hi')
            have hz : decide ((i : Int) = 0) = false := by simp; omega
            simp only [hz, cond_false, hw, bA e2, bA d2, e3, d3, ge']
            rw [KF _ _ (by omega) (by omega), show (if (fX l[i - 1].Row && fX l[i].Row) = true then dW l[i - 1].Row l[i].Row else 0) = OV l[i - 1].Row l[i].Row from rfl]
            simp only [Option.bind_some, sM, d4]
            rw [bA (fun _ => e2), bA (fun _ => d2)]
            generalize OV l[i - 1].Row l[i].Row = c
            cases hz2 : (decide (0 < c) || (decide (c = 0) && decide (l[i].At ≤ l[i - 1].At)))
            · simp
            · simp [h0]
        · simp [cO]
    · show oK _ _ = _
      simp only [oK, List.length_range, dR, cond_false]
  · have h1 : decide ((4096 : Int) < ((l.length : Nat) : Int)) = true := by simp; omega
    rw [h1, cond_true]
    simp [oW, hn]

end Go.Abs
namespace Go.Abs
open Go
theorem XO {c : Int} : ∀ {l : List Int} {m : Int}, c ≤ l.foldl mn m ↔ c ≤ m ∧ ∀ x ∈ l, c ≤ x
  | [], m => by simp
  | a :: l, m => by
    rw [List.foldl_cons, XO]
    unfold mn
    constructor
    · rintro ⟨h1, h2⟩
      have h3 : c ≤ m ∧ c ≤ a := by split at h1 <;> omega
      refine ⟨h3.1, fun x hx => ?_⟩
      rcases List.mem_cons.1 hx with rfl | hx
      · exact h3.2
      · exact h2 x hx
    · rintro ⟨h1, h2⟩
      have := h2 a (by simp)
      exact ⟨by split <;> omega, fun x hx => h2 x (by simp [hx])⟩

theorem QU {t : Int} : ∀ {f : List aB} {l v : Int}, vA l f → v + val f t = v ∨ v + val f t ∈ parts v f
  | [], l, v, _ => .inl (by simp [val])
  | j :: r, l, v, h => by
    unfold parts
    rw [dD]
    by_cases e : j.At ≤ t
    · rw [if_pos e]
      right
      rcases QU (t := t) (v := v + j.Net) h.2 with h1 | h1
      · rw [show v + (j.Net + val r t) = v + j.Net by omega]; simp
      · rw [show v + (j.Net + val r t) = v + j.Net + val r t by omega]; exact List.mem_cons_of_mem _ h1
    · left
      rw [if_neg e, h.2.CW (by omega)]; omega

theorem zZ {f : List aB} (hf : fZ f = true) : 0 ≤ rD f ↔ ∀ t, 0 ≤ val f t := by
  have hr := (kT.1 hf).2
  unfold rD
  rw [XO]
  constructor
  · rintro ⟨_, h2⟩ t
    rcases QU (t := t) (v := 0) hr with h | h
    · omega
    · rw [parts_eq hr] at h
      obtain ⟨j, hj, h⟩ := List.mem_map.1 h
      have := h2 _ (List.mem_map.2 ⟨j, hj, rfl⟩)
      omega
  · intro h
    refine ⟨h _, fun x hx => ?_⟩
    obtain ⟨j, _, rfl⟩ := List.mem_map.1 hx
    exact h _

theorem wS {l : List aC} : pF l = true ↔ oW l = true ∧ ∀ r t, 0 ≤ val (bX l r) t := by
  constructor
  · intro h
    unfold pF at h
    rw [Bool.and_eq_true, zS] at h
    obtain ⟨h1, h2, h3, _⟩ := h
    have hm : oW l = true := by
      unfold oW
      rw [Bool.and_eq_true]
      exact ⟨h1, zS.2 ⟨fun g hg => ⟨(h2 g hg).1, by have := (h2 g hg).2; unfold PU at this; rw [Bool.and_eq_true] at this; exact this.1⟩, h3, fun q hq => by cases hq⟩⟩
    refine ⟨hm, fun r => ?_⟩
    rw [← oF h3]
    rcases HE (groups l) r with ⟨e, _⟩ | ⟨g, hg, _, e⟩
    · rw [e]; intro t; simp [val]
    · rw [e]
      have := (h2 g hg).2
      unfold PU at this
      rw [Bool.and_eq_true, decide_eq_true_eq] at this
      exact (zZ this.1).1 this.2
  · rintro ⟨hm, h⟩
    obtain ⟨h1, h2, h3⟩ := qX hm
    unfold pF
    rw [Bool.and_eq_true]
    refine ⟨by simpa using h1, zS.2 ⟨fun g hg => ⟨(h2 g hg).1, ?_⟩, h3, fun q hq => by cases hq⟩⟩
    unfold PU
    rw [Bool.and_eq_true, decide_eq_true_eq]
    refine ⟨(h2 g hg).2, (zZ (h2 g hg).2).2 ?_⟩
    have : g.2 = bX l g.1 := by rw [← oF h3, vY h3 hg]
    rw [this]; exact h g.1

theorem UM {l : List aC} {r : List aF} (h : r ∉ rowsOf l) : bX l r = [] :=
  LB fun e he hr => h (wU.2 ⟨e, he, hr⟩)

theorem VM {l : List aC} (hl : okL l) : tU l = some (pF l) := by
  unfold tU
  rw [MP hl]
  cases hm : oW l
  · have : pF l = false := by
      rw [Bool.eq_false_iff]; intro h
      rw [(wS.1 h).1] at hm; cases hm
    rw [this]; rfl
  · obtain ⟨h1, h2, _⟩ := BJ.1 hm
    simp only [Option.bind_some, Bool.not_true, cond_false, HU hl (fun e he => (h2 e he).1) (show l.length ≤ 1099511627776 by omega), wM]
    have hrl := HL l
    rw [OA (l := rowsOf l) (fun i => i) (fun r => decide (rD (bX l r) < 0)) (.inr false) (.inl ()) ?_ ?_]
    · cases hc : (rowsOf l).any fun r => decide (rD (bX l r) < 0)
      · have : pF l = true := wS.2 ⟨hm, fun r => by
          by_cases hr : r ∈ rowsOf l
          · have := List.any_eq_false.1 hc r hr
            simp only [decide_eq_true_eq] at this
            exact (zZ (AY hm r)).1 (by omega)
          · rw [UM hr]; intro t; simp [val]⟩
        rw [this]; rfl
      · have : pF l = false := by
          rw [Bool.eq_false_iff]; intro h
          obtain ⟨r, _, hr⟩ := List.any_eq_true.1 hc
          simp only [decide_eq_true_eq] at hr
          have := (zZ (AY hm r)).2 ((wS.1 h).2 r)
          omega
        rw [this]; rfl
    · intro i r hi
      obtain ⟨d1, d2, d3, d4⟩ := idx hi (by omega)
      show nS _ _ _ = _
      simp only [nS, d1, cond_true, bA d2, d3, d4, FJ hl (show l.length ≤ 1099511627776 by omega), Option.bind_some, KY, AY hm r, if_true]
      by_cases h : rD (bX l r) < 0 <;> simp [h]
    · show nS _ _ _ = _
      simp only [nS, dR, cond_false]

end Go.Abs
namespace Go.Abs
open Go
theorem VO {l : List aC} (hm : oW l = true) : vC l = groups l := by
  obtain ⟨_, _, hp, _⟩ := BJ.1 hm
  have hs : Srt leE l := hp.imp fun h => by
    rcases h with h | ⟨h, h'⟩
    · exact .inl h
    · exact .inr ⟨h, by omega⟩
  have hg := tM hs
  unfold vC
  rw [← LD (List.Perm.refl l) hs, List.map_map]
  conv => rhs; rw [← List.map_id (groups l)]
  refine List.map_congr_left fun g hg' => ?_
  simp only [Function.comp, id]
  rw [← oF hg, vY hg hg']

end Go.Abs
namespace Go.Abs
open Go
def kW (f : List aB) : List Int := f.flatMap fun j => List.replicate j.Net.toNat j.At

def ends (f : List aB) : List Int := f.flatMap fun j => List.replicate (-j.Net).toNat j.At

def iK (f : List aB) : Int := (f.map fun j => if 0 < j.Net then j.Net else 0).sum

def pairs (d : Int) : List Int → List Int → List aR
  | [], _ => []
  | b :: bs, [] => ⟨b, d⟩ :: pairs d bs []
  | b :: bs, e :: es => ⟨b, e⟩ :: pairs d bs es

theorem lS (j : aB) (f : List aB) : kW (j :: f) = List.replicate j.Net.toNat j.At ++ kW f := rfl

theorem vN (j : aB) (f : List aB) : ends (j :: f) = List.replicate (-j.Net).toNat j.At ++ ends f := rfl

theorem xG (j : aB) (f : List aB) : iK (j :: f) = (if 0 < j.Net then j.Net else 0) + iK f := by simp [iK]

theorem vZ : ∀ f : List aB, 0 ≤ iK f
  | [] => by simp [iK]
  | j :: f => by rw [xG]; have := vZ f; split <;> omega

theorem BB : ∀ f : List aB, iK f = ((kW f).length : Nat)
  | [] => rfl
  | j :: f => by
    rw [xG, lS, List.length_append, List.length_replicate, BB f]
    split <;> omega

theorem wL (d : Int) : ∀ (B E : List Int), (pairs d B E).length = B.length
  | [], _ => rfl
  | _ :: bs, [] => by simp [pairs, wL d bs []]
  | _ :: bs, _ :: es => by simp [pairs, wL d bs es]

theorem GX (d t : Int) : ∀ (B E : List Int), E.length ≤ B.length → pairs d (B ++ [t]) E = pairs d B E ++ [⟨t, d⟩]
  | [], [], _ => rfl
  | [], _ :: _, h => by simp at h
  | b :: bs, [], _ => by simp only [List.cons_append, pairs, GX d t bs [] (by simp)]
  | b :: bs, e :: es, h => by simp only [List.cons_append, pairs, GX d t bs es (by simpa using h)]

theorem QY (d t : Int) : ∀ (B E : List Int), E.length < B.length → (pairs d B E).set E.length ⟨((pairs d B E).getD E.length default).From, t⟩ = pairs d B (E ++ [t])
  | [], _, h => by simp at h
  | b :: bs, [], _ => by simp [pairs]
  | b :: bs, e :: es, h => by
    have := QY d t bs es (by simpa using h)
    simp only [pairs, List.length_cons, List.set_cons_succ, List.cons_append, List.getD_cons_succ]
    rw [this]

theorem NA (d d' : Int) : ∀ (B E : List Int), B.length ≤ E.length → pairs d B E = pairs d' B E
  | [], _, _ => rfl
  | _ :: _, [], h => by simp at h
  | b :: bs, e :: es, h => by simp only [pairs, NA d d' bs es (by simpa using h)]

theorem DM (d d' : Int) : ∀ (B E : List Int), pairs d' B E = pairs d B (E ++ List.replicate (B.length - E.length) d')
  | [], E => by simp [pairs]
  | b :: bs, [] => by
    have := DM d d' bs []
    simp only [List.nil_append, List.length_nil, Nat.sub_zero, List.length_cons, List.replicate_succ, pairs] at this ⊢
    rw [this]
  | b :: bs, e :: es => by
    have := DM d d' bs es
    simp only [List.cons_append, List.length_cons, Nat.add_sub_add_right, pairs]
    rw [this]

def BX (v : Int) : List aB → Prop
  | [] => True
  | j :: r => 0 ≤ v + j.Net ∧ BX (v + j.Net) r

theorem LL : ∀ {f : List aB} {v : Int}, (∀ x ∈ parts v f, 0 ≤ x) → BX v f
  | [], _, _ => trivial
  | j :: r, v, h => ⟨h _ (by simp [parts]), LL fun x hx => h x (by simp [parts, hx])⟩

theorem EO {f : List aB} (hf : fZ f = true) (h : ∀ t, 0 ≤ val f t) : BX 0 f := by
  refine LL fun x hx => ?_
  rw [parts_eq (kT.1 hf).2] at hx
  obtain ⟨j, _, rfl⟩ := List.mem_map.1 hx
  have := h j.At
  omega

theorem aCh {f : List aB} (hf : ∀ j ∈ f, j.Net ≤ 1048576 ∧ -1048576 ≤ j.Net) (hl : f.length ≤ 1099511627776) : rV f = some (iK f) := by
  unfold rV AT
  rw [nX (l := f) (body := fun s : Int × Int => oO f (f.length : Nat) s.1 s.2) (fun v i => (v, i)) (fun v r => v + iK r)
    (fun v r => (∀ j ∈ r, j.Net ≤ 1048576 ∧ -1048576 ≤ j.Net) ∧ 0 ≤ v ∧ v ≤ 1048576 * (1099511627776 - r.length) ∧ r.length ≤ 1099511627776) 0 ?_ ?_ ⟨hf, by omega, by omega, hl⟩]
  · simp [wC]
  · rintro i a r v ha ⟨h1, h2, h3, h4⟩
    have hlt := (List.getElem?_eq_some_iff.1 ha).1
    obtain ⟨d1, d2, d3, d4⟩ := idx ha (by omega)
    have hj := h1 a (List.mem_cons_self ..)
    simp only [List.length_cons] at h3 h4
    have hif : (if (0 : Int) > a.Net then 0 else a.Net) = (if 0 < a.Net then a.Net else 0) := by split <;> split <;> omega
    have hb : 0 ≤ (if 0 < a.Net then a.Net else 0) ∧ (if 0 < a.Net then a.Net else 0) ≤ 1048576 := by split <;> omega
    have hw : IntKind.i64.wrap (v + (if 0 < a.Net then a.Net else 0)) = v + (if 0 < a.Net then a.Net else 0) := dV (by omega) (by omega)
    left
    refine ⟨v + (if 0 < a.Net then a.Net else 0), ?_, ⟨fun j hj => h1 j (List.mem_cons_of_mem _ hj), by omega, by omega, by omega⟩, by rw [xG]; omega⟩
    show oO _ _ _ _ = _
    simp only [oO, d1, cond_true, bA d2, d3, d4, hif, hw]
  · rintro v _
    show oO _ _ _ _ = _
    simp only [oO, dR, cond_false]
    simp [iK]

theorem XZ {f : List aB} (hf : fZ f = true) : rV f = some (iK f) := aCh (zO hf) (by have := (kT.1 hf).1; omega)

end Go.Abs
