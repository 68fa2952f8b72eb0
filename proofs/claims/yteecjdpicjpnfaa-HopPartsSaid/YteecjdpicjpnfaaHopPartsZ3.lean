/- What the law HopParts stands on: the framework, the given functions as plain functions, their walks, and the plain laws; part 3. -/
import Derived.Test.YteecjdpicjpnfaaHopPartsZ2
set_option linter.unusedSimpArgs false
set_option linter.unusedVariables false
namespace Go.Abs
open Go Go.RowKit
section bundles
variable {β : Type} (sh : Nat → Nat → β → OL)
variable {sh}
theorem aI.focus {H0 : aU} {E : List Nat} {G : Gs} {H : aU} {L : OL} {lm : Nat} {los : List (Nat × Nat)} {m : List (Int × β)} {k : Int} {x : β} (h : aI ⟨H0, E, pmG sh lm los m ++ G⟩ H L) (hl : los.length = m.length) (hg : fW m k = some x) :
    ∃ a b R, fW (pmM los m) k = some (some a) ∧ Put sh m k a (pmM los m) R ∧ aI ⟨H0, E, (lm, rE rO (pmM los m)) :: (up R ++ G)⟩ H (sh a b x ++ L) := by
  obtain ⟨a, b, R, h1, h2, h3⟩ := VH (sh := sh) hl hg
  refine ⟨a, b, R, h1, h3, ?_⟩
  have : (pmG sh lm los m ++ G).Perm (up (sh a b x) ++ ((lm, rE rO (pmM los m)) :: (up R ++ G))) := by
    unfold pmG
    refine List.Perm.trans ?_ List.perm_middle.symm
    refine List.Perm.cons _ ?_
    rw [← List.append_assoc, ← BD]
    exact List.Perm.append_right _ (h2.map _)
  exact (h.oY this).aCH

theorem aI.XS {H0 : aU} {E : List Nat} {G : Gs} {H : aU} {L R : OL} {lm a b : Nat} {MM : List (Int × Option Nat)} {m : List (Int × β)} {k : Int} {x : β} (h : aI ⟨H0, E, (lm, rE rO MM) :: (up R ++ G)⟩ H (sh a b x ++ L)) (hp : Put sh m k a MM R) :
    ∃ los', los'.length = (iC m k x).length ∧ aI ⟨H0, E, pmG sh lm los' (iC m k x) ++ G⟩ H L := by
  obtain ⟨los', e1, e2, e3⟩ := hp b x
  refine ⟨los', e1, ?_⟩
  have h1 := h.aCE
  refine h1.oY ?_
  unfold pmG
  refine List.perm_middle.trans ?_
  rw [e2]
  refine List.Perm.cons _ ?_
  rw [← List.append_assoc, ← BD]
  exact List.Perm.append_right _ (e3.map _)

theorem JW {P : Program} {ro : Option Nat} {N : Nat} {c : Code} {T : Env} {ds : List Nat} {Q : Exit → Env → aU → List Nat → Prop} {α : Type} [Inhabited α] {H0 : aU} {E : List Nat} (k k2 j : Nat) (cs : Nat → β → List V) (rows : β → List α) (e : α → V) (sf : β → V)
    (hsh : ∀ a b p, sh a b p = [(a, k, [.agg (cs b p)]), (b, k2, (rows p).map e)]) (hj : ∀ b p, (cs b p)[j]? = some (.msl k2 b 0 (rows p).length)) (hsf : ∀ b p, V.agg ((cs b p).set j (eL e (rows p))) = sf p) :
    ∀ (m : List (Int × β)) (los : List (Nat × Nat)) {G : Gs} {H : aU} {L : OL}, los.length = m.length → aI ⟨H0, E, up (pmL sh los m) ++ G⟩ H L →
      (∀ H', aI ⟨H0, E, up (pmL (fun a _ p => [(a, k, [sf p])]) los m) ++ G⟩ H' L → AWP P ro N c T H' ds Q) → AWP P ro N c T H ds Q
  | [], [], G, H, L, _, hO, h => h H hO
  | [], _ :: _, _, _, _, hl, _, _ => by simp at hl
  | _ :: _, [], _, _, _, hl, _, _ => by simp at hl
  | p :: m, q :: los, G, H, L, hl, hO, h => by
    rw [pmL, BD, List.append_assoc] at hO
    have h1 := hO.aCH
    rw [hsh] at h1
    refine KF (e := e) (rows p.2) 0 1 k k2 q.1 q.2 (rows p.2).length j (cs q.2 p.2) ((q.1, k, [sf p.2]) :: L) h1 rfl (hj _ _) rfl rfl rfl (by rw [← hsf q.2 p.2]; rfl) fun H' hO' => ?_
    have h2 := aI.aCE (R := [(q.1, k, [sf p.2])]) (L := L) hO'
    have h3 : aI ⟨H0, E, up (pmL sh los m) ++ (up [(q.1, k, [sf p.2])] ++ G)⟩ H' L := h2.oY (by
      rw [← List.append_assoc, ← List.append_assoc]; exact List.Perm.append_right _ List.perm_append_comm)
    refine JW k k2 j cs rows e sf hsh hj hsf m los (by simpa using hl) h3 fun H'' hO'' => h H'' ?_
    refine hO''.oY ?_
    rw [pmL, BD, ← List.append_assoc]
    exact List.Perm.append_right _ List.perm_append_comm

end bundles
def aBS : V → Option Bool
  | .lit (.pointer none) => some true
  | .lp _ _ _ => some false
  | _ => none

section nils
variable {P : Program} {tt : TT} {N : Nat} {T : Env} {H : aU} {ops : Array Oper} {K : Env → aU → Prop} {i n : Nat}
theorem VL {K : V → aU → Prop} {op : BinOp} {t e u : TypeId} {x y : Operand} {z : V} {b : Bool} (hop : op = .eql ∨ op = .neq) (hu : P.underlying t = some (.pointer e)) (hz : aBS z = some b) (h : K (.lit (.bool (if op = .eql then b else !b))) H) : AD P (.binOp op t x y u) [z, .lit (.pointer none)] H K := by
  intro ro o a g w next R ho hs hx hn
  have r1 := hx.2 0 z (a.eval x) rfl (by simp [Op.operands])
  have r2 := hx.2 1 (.lit (.pointer none)) (a.eval y) rfl (by simp [Op.operands])
  have e2 : a.eval y = .pointer none := r2.lT
  have e1 : ∃ ad, a.eval x = .pointer ad ∧ ad.isNone = b := by
    unfold aBS at hz
    split at hz
    · simp at hz; subst hz; exact ⟨none, r1.lT, rfl⟩
    · simp at hz; subst hz; obtain ⟨_, h2⟩ := r1.lpE; exact ⟨_, h2, rfl⟩
    · cases hz
  obtain ⟨ad, e1, e3⟩ := e1
  have hq : (Op.equal t (.pointer ad) (.pointer none)).run P w = .ok b w := by
    unfold Op.equal Op.maxDepth
    unfold Op.equalIn
    simp only [Sem.run_bind, run_underlying hu, Result.andThen]
    cases ad with
    | none => subst e3; rfl
    | some ad => subst e3; rfl
  have hr : (execOp a.eval o).run P w = .ok (.value (.bool (if op = .eql then b else !b))) w := by
    cases o
    simp only at ho
    subst ho
    rcases hop with rfl | rfl
    · have h1 : (eqGuard .eql t x y (.pointer ad) (.pointer none)).run P w = .ok () w := rfl
      have h2 : (binOp .eql t (.pointer ad) (.pointer none)).run P w = .ok (.bool b) w := by
        simp only [binOp, Sem.run_bind, hq, Result.andThen]; rfl
      simp [execOp, e1, e2, h1, h2, Result.andThen]
    · have h1 : (eqGuard .neq t x y (.pointer ad) (.pointer none)).run P w = .ok () w := rfl
      have h2 : (binOp .neq t (.pointer ad) (.pointer none)).run P w = .ok (.bool (!b)) w := by
        simp only [binOp, Sem.run_bind, hq, Result.andThen]; rfl
      simp [execOp, e1, e2, h1, h2, Result.andThen]
  exact eY (fun c e => by rw [e] at ho; cases ho) hr (hn _ _ _ _ _ h hs (.lit _ rfl) (Ext.refl g w))

def aCF (P : Program) (t : TypeId) : Bool := match P.underlying t with
  | some (.pointer _) => true
  | _ => false

def aAN (P : Program) (N : Nat) (ops : Array Oper) (T : Env) (i : Nat) : Option Bool := match gI N ops i with
  | some (.binOp op t x y _) => match aCF P t, cL T [] x, cL T [] y with
    | true, some z, some (.lit (.pointer none)) => match aBS z, op with
      | some b, .eql => some b
      | some b, .neq => some (!b)
      | _, _ => none
    | _, _, _ => none
  | _ => none

theorem VW (b : Bool) (h : RWs P tt N ops (aJ (i + 1) n) (T.cB (cV ops i) ([], .lit (.bool b))) H K)
    (hs : aJ i n = i :: aJ (i + 1) n := by kernel_rfl) (hd : aAN P N ops T i = some b := by kernel_rfl) : RWs P tt N ops (aJ i n) T H K := by
  unfold aAN at hd
  split at hd
  · rename_i op t x y u hp
    split at hd
    · rename_i z hi hx hy
      unfold aCF at hi
      split at hi
      · rename_i e hu
        split at hd
        · rename_i b' hz
          simp at hd; subst hd
          exact xQ hs hp (xs := [z, .lit (.pointer none)]) (by simp [Op.operands, iI, hx, hy]) (VL (.inl rfl) hu hz (by simpa using h))
        · rename_i b' hz
          simp at hd; subst hd
          exact xQ hs hp (xs := [z, .lit (.pointer none)]) (by simp [Op.operands, iI, hx, hy]) (VL (.inr rfl) hu hz (by simpa using h))
        · cases hd
      · cases hi
    · cases hd
  · cases hd

end nils
theorem SR.aDm {g : Gh} {w : World} {H : aU} (h : SR g w H) {l : Nat} {s s' : Sp} (hl : H[l]? = some (.raw s)) (hs : ∀ g w b o, s.p g w b o → s'.p g w b o) : SR g w (H.set l (.raw s')) := by
  have hlt : l < H.length := (List.getElem?_eq_some_iff.1 hl).1
  have hat : ∀ l' ob, (H.set l (.raw s'))[l']? = some ob → (l' = l ∧ ob = .raw s') ∨ (l' ≠ l ∧ H[l']? = some ob) := by
    intro l' ob hl'
    rw [List.getElem?_set] at hl'
    split at hl'
    · rename_i heq
      simp [heq ▸ hlt] at hl'
      exact .inl ⟨heq.symm, hl'.symm⟩
    · rename_i hne; exact .inr ⟨fun e => hne e.symm, hl'⟩
  refine { len := by simp [h.len], fxc := h.fxc, nt := ?_, kk := ?_, vec := ?_, raw := ?_, disj := ?_, rawd := ?_ }
  · intro l' k1 es1 hl1
    rcases hat _ _ hl1 with ⟨_, he⟩ | ⟨_, hl2⟩
    · cases he
    · exact h.nt l' k1 es1 hl2
  · intro l' k1 es1 hl1
    rcases hat _ _ hl1 with ⟨_, he⟩ | ⟨_, hl2⟩
    · cases he
    · exact h.kk l' k1 es1 hl2
  · intro l' k1 es1 hl1
    rcases hat _ _ hl1 with ⟨_, he⟩ | ⟨_, hl2⟩
    · cases he
    · exact h.vec l' k1 es1 hl2
  · intro l' s1 hl1
    rcases hat _ _ hl1 with ⟨rfl, he⟩ | ⟨_, hl2⟩
    · cases he
      obtain ⟨o, q1, q2, q3⟩ := h.raw l' _ hl
      exact ⟨o, q1, q2, hs _ _ _ _ q3⟩
    · exact h.raw l' s1 hl2
  · intro a b k1 k2 es1 es2 ha hb2 hne
    rcases hat _ _ ha with ⟨_, he⟩ | ⟨_, ha2⟩
    · cases he
    · rcases hat _ _ hb2 with ⟨_, he⟩ | ⟨_, hb3⟩
      · cases he
      · exact h.disj _ _ _ _ _ _ ha2 hb3 hne
  · intro a b s1 s2 ha hb2 hne
    rcases hat _ _ ha with ⟨rfl, _⟩ | ⟨_, ha2⟩ <;> rcases hat _ _ hb2 with ⟨rfl, _⟩ | ⟨_, hb3⟩
    · exact absurd rfl hne
    · exact h.rawd _ _ _ _ hl hb3 hne
    · exact h.rawd _ _ _ _ ha2 hl hne
    · exact h.rawd _ _ _ _ ha2 hb3 hne

theorem aAR {N : Nat} {Q : Exit → Env → aU → List Nat → Prop} {ds : List Nat} {e : Exit} {T : Env} {H H0 : aU} {E : List Nat} {G : Gs} {L : OL} {β : Type} {f : β → V} {m : List (Int × β)} {bs : List Nat} {l clock : Nat} (hO : aI ⟨H0, E, (l, HZ f m bs clock) :: G⟩ H L)
    (h : ∀ H', aI ⟨H0, E, (l, rE f m) :: G⟩ H' L → Cl N Q e T H' ds) : Cl N Q e T H ds :=
  EY (fun g w _ _ hg => ⟨g, ⟨hg.sr.aDm (hO.gm 0 _ rfl).2 (s' := CT dI (tB f m)) fun _ _ _ _ ⟨es, h1, _, h3, h4, h5⟩ => ⟨es, clock, h1, h3, h4, h5⟩, hg.tr, hg.df, hg.dl, hg.sz⟩, Ext.refl g w⟩) (h _ (hO.qA _))

theorem NX {S β : Type} (g : S → Int → Option S) : ∀ (q : List (Int × β)) (s : S), cS (fun s (x : Int × β) => g s x.1) s q = cS g s (q.map (·.1))
  | [], _ => rfl
  | x :: q, s => by
    simp only [cS, List.map_cons]
    cases g s x.1 with
    | none => rfl
    | some s' => exact NX g q s'

theorem UR {β : Type} : ∀ {los : List (Nat × Nat)} {m : List (Int × β)}, los.length = m.length → (pmM los m).map (·.1) = m.map (·.1)
  | [], [], _ => rfl
  | _ :: _, _ :: _, h => by simp only [pmM, List.map_cons]; rw [UR (by simpa using h)]
  | [], _ :: _, h => by simp at h
  | _ :: _, [], h => by simp at h

theorem aCI {S R β : Type} {g : S → Int → Option S} {after : S → Option R} {s : S} {r : R} {los : List (Nat × Nat)} {m : List (Int × β)} (hl : los.length = m.length) (h : vX (m.map (·.1)) (fun q => (cS g s q).bind after) = some r) :
    vX (pmM los m) (fun q => (cS (fun s (x : Int × Option Nat) => g s x.1) s q).bind after) = some r :=
  PV fun q hq => by
    rw [NX]
    exact PN h _ (by rw [← UR hl]; exact hq.map _)

theorem QK {β : Type} {k : Int} {x : β} : ∀ {m : List (Int × β)}, fW m k = some x → iC m k x = m
  | [], h => by cases h
  | p :: m, h => by
    rw [fW] at h
    by_cases hk : p.1 = k
    · rw [if_pos hk] at h; cases h
      rw [iC, if_pos hk, ← hk]
    · rw [if_neg hk] at h
      simp only [iC, if_neg hk, QK h]

end Go.Abs
namespace Go.Abs
open Go
structure aT where
  From : Int
  To : Int
  deriving Inhabited, DecidableEq

def OD (x : aT) : List V := [(dG .i64 x.From)] ++ [(dG .i64 x.To)]

def bB (x : aT) : V := .agg (OD x)

structure aC where
  Kind : Int
  Num : Int
  Text : ByteArray
  deriving Inhabited, DecidableEq

def KM (x : aC) : List V := [(dG .i64 x.Kind)] ++ [(dG .i64 x.Num)] ++ [(AG x.Text)]

def aB (x : aC) : V := .agg (KM x)

structure aR where
  Row : (List aC)
  At : Int
  Net : Int
  deriving Inhabited, DecidableEq

def NO (x : aR) : List V := [(eL aB x.Row)] ++ [(dG .i64 x.At)] ++ [(dG .i64 x.Net)]

def aQ (x : aR) : V := .agg (NO x)

structure cP where
  Row : (List aC)
  N : Int
  deriving Inhabited, DecidableEq

def YO (x : cP) : List V := [(eL aB x.Row)] ++ [(dG .i64 x.N)]

def cE (x : cP) : V := .agg (YO x)

structure aP where
  Span : aT
  Rows : (List cP)
  deriving Inhabited, DecidableEq

def aAa (x : aP) : List V := OD x.Span ++ [(eL cE x.Rows)]

def aS (x : aP) : V := .agg (aAa x)

structure aH where
  At : Int
  Net : Int
  deriving Inhabited, DecidableEq

def ZZ (x : aH) : List V := [(dG .i64 x.At)] ++ [(dG .i64 x.Net)]

def aK (x : aH) : V := .agg (ZZ x)

inductive bR where
  | none_
  | k_number (x : Int)
  | k_words (x : ByteArray)
  deriving DecidableEq

instance : Inhabited bR := ⟨.none_⟩

def bM : bR → V
  | .none_ => .lit .nilIface
  | .k_number x => .ifc 134 (dG .i64 x)
  | .k_words x => .ifc 138 (AG x)

noncomputable def sI (cH : Int) (hop1 : Int) : Option Bool :=
  some ((((decide ((1 : Int) ≤ cH)) && (decide (cH ≤ (1099511627776 : Int)))) && (decide ((1 : Int) ≤ hop1))) && (decide (hop1 ≤ (1099511627776 : Int))))

noncomputable def oC (t0 : Int) : Option Bool :=
  some ((decide ((0 : Int) ≤ t0)) && (decide (t0 ≤ (1125899906842624 : Int))))

noncomputable def vC (q7 : Int) (r8 : Int) : Option (Int × Int × Int) :=
  some (q7, r8, (0 : Int))

noncomputable def xH (a0 : Int) (b1 : Int) : Option (Int × Int × Int) :=
  cond (decide (b1 < (1 : Int)))
  (some ((0 : Int), (0 : Int), (2 : Int)))
  (bF (b1 ≠ 0) <|
  bF (b1 ≠ 0) <|
  cond (decide ((Int.tmod a0 b1) < (0 : Int)))
  (vC (IntKind.i64.wrap ((IntKind.i64.wrap (Int.tdiv a0 b1)) - (1 : Int))) (IntKind.i64.wrap ((Int.tmod a0 b1) + b1)))
  (vC (IntKind.i64.wrap (Int.tdiv a0 b1)) (Int.tmod a0 b1)))

noncomputable def pW (hop0 : Int) (n1 : Int) : Option Int :=
  cond (decide (n1 < (0 : Int)))
  (some (0 : Int))
  ((xH n1 hop0).bind fun x2 =>
  some (IntKind.i64.wrap ((IntKind.i64.wrap (x2.1 + (1 : Int))) * hop0)))

noncomputable def zL (cH : Int) (hop1 : Int) (t2 : Int) : Option (Int × Int) :=
  (sI cH hop1).bind fun x1 =>
  cond (!x1)
  (some ((0 : Int), (2 : Int)))
  ((oC t2).bind fun x5 =>
  cond (!x5)
  (some ((0 : Int), (13 : Int)))
  (cond (decide (t2 = (1125899906842624 : Int)))
  (some ((1125899906842624 : Int), (0 : Int)))
  ((pW hop1 (IntKind.i64.wrap (t2 - cH))).bind fun x10 =>
  some (if (1125899906842624 : Int) < x10 then (1125899906842624 : Int) else x10, (0 : Int)))))

noncomputable def uJ (cH : Int) (hop1 : Int) : Option Bool :=
  some ((((decide ((0 : Int) < cH)) && (decide (cH ≤ (1099511627776 : Int)))) && (decide ((0 : Int) < hop1))) && (decide (hop1 ≤ (1099511627776 : Int))))

noncomputable def mC (t0 : Int) : Option Bool :=
  some ((decide ((0 : Int) ≤ t0)) && (decide (t0 ≤ (1125899906842624 : Int))))

noncomputable def uE (cH : Int) (t1 : Int) : Option Int :=
  cond (decide ((1125899906842624 : Int) < (IntKind.i64.wrap (t1 + cH))))
  (some (1125899906842624 : Int))
  (some (IntKind.i64.wrap (t1 + cH)))

noncomputable def rL (cH : Int) (hop1 : Int) (s2 : aT) (bN : Int) (bI : Int) : Option ((Int × aT × Int × Int × Int)) :=
  some (hop1, s2, cH, bN, bI)

noncomputable def jN {σ : Type} (cW : σ → Int → Option (σ × Bool)) (t1 : Int) (t2 : aT) (t5 : Int) (sg : σ) (t8 : Int) : Option ((σ × Int) ⊕ (σ ⊕ σ)) :=
  cond (decide (t8 < (if (1125899906842624 : Int) < (if t5 < t2.To then t5 else t2.To) then (1125899906842624 : Int) else (if t5 < t2.To then t5 else t2.To))))
  ((cW sg t8).bind fun x8 =>
  cond (!x8.2)
  (some (.inr (.inr x8.1)))
  (some (.inl (x8.1, IntKind.i64.wrap (t8 + t1)))))
  (some (.inr (.inl sg)))

noncomputable def oV {σ : Type} (cW : σ → Int → Option (σ × Bool)) (sg : σ) (t1 : Int) (t2 : aT) (t5 : Int) (t8 : Int) : Option σ :=
  (lp (fun s => jN cW t1 t2 t5 s.1 s.2) (sg, t8)).bind (Sum.elim (fun rr => some rr) (fun rr => some rr))

noncomputable def nU {σ : Type} (cW : σ → Int → Option (σ × Bool)) (t1 : Int) (t2 : aT) (t3 : Int) (t4 : Int) (t5 : Int) (sg0 : σ) : Option σ :=
  (pW t1 (IntKind.i64.wrap (t2.From - t3))).bind fun x1 =>
  (pW t1 (IntKind.i64.wrap (t4 - (1 : Int)))).bind fun x4 =>
  oV cW sg0 t1 t2 t5 (if x4 > x1 then x4 else x1)

noncomputable def mE (wJ : Int) (wV : aT) (wF : Int) (vZ : Int) (xA : Int) (t10 : (List Int)) (t11 : Int) (iQ : List Int) (t51 : Int) : Option (((List Int) × Int × List Int) ⊕ ((List Int) × Int × List Int)) :=
  cond (decide (((List.length iQ : Nat) : Int) = (1024 : Int)))
  (some (.inr ([], (7 : Int), iQ)))
  (bF ((List.length iQ + List.length ([t51])) * 8 ≤ 140737488355328 ∧ List.length iQ + List.length ([t51]) ≤ 9223372036854775807) <|
  some (.inl (t10, t11, iQ ++ ([t51]))))

noncomputable def xT (t10 : (List Int)) (t11 : Int) (iQ : List Int) (wJ : Int) (wV : aT) (wF : Int) (vZ : Int) (xA : Int) : Option ((List Int) × Int) :=
  (nU (fun st t51 => rnd (fun (s : (List Int) × Int × List Int) => mE wJ wV wF vZ xA s.1 s.2.1 s.2.2 t51) st) wJ wV wF vZ xA (.inl (t10, t11, iQ))).bind (Sum.elim (fun (s : (List Int) × Int × List Int) =>
  (some (s.2.2, (0 : Int))))
  (fun (s : (List Int) × Int × List Int) =>
  (some (s.1, s.2.1))))

noncomputable def vG (cH : Int) (hop1 : Int) (s2 : aT) (bN : Int) (bI : Int) : Option ((List Int) × Int) :=
  (sI cH hop1).bind fun x3 =>
  cond (!x3)
  (some ([], (2 : Int)))
  ((oC bN).bind fun x7 =>
  (cT (!(!x7)) (oC bI)).bind fun x10 =>
  cond ((!x7) || (!x10))
  (some ([], (13 : Int)))
  (cond (((decide (s2.From < (-1 : Int))) || (decide (s2.To ≤ s2.From))) || (decide ((1125899906842624 : Int) < s2.To)))
  (some ([], (14 : Int)))
  ((rL cH hop1 s2 bN bI).bind fun x17 =>
  xT ([]) 0 ([] : List Int) x17.1 x17.2.1 x17.2.2.1 x17.2.2.2.1 x17.2.2.2.2)))

noncomputable def uF (l0 : (List aR)) : Option ((List aR)) :=
  some l0

noncomputable def iB  : Option Bool :=
  some true

noncomputable def fP (s10 : (List aC)) (s21 : (List aC)) (t12 : Int) (t13 : Int) : Option ((Int) ⊕ (Unit ⊕ Bool)) :=
  cond (decide (t13 < t12))
  (bF (0 ≤ t13 ∧ t13 < ((List.length s10 : Nat) : Int)) <|
  bF (0 ≤ t13 ∧ t13 < ((List.length s21 : Nat) : Int)) <|
  cond (!((decide (((List.getD s10 (Int.toNat t13) default).Kind) = ((List.getD s21 (Int.toNat t13) default).Kind))) && ((decide (((List.getD s10 (Int.toNat t13) default).Num) = ((List.getD s21 (Int.toNat t13) default).Num))) && ((oA ((List.getD s10 (Int.toNat t13) default).Text) ((List.getD s21 (Int.toNat t13) default).Text)) && true))))
  (some (.inr (.inr false)))
  (some (.inl (IntKind.i64.wrap (t13 + (1 : Int))))))
  (some (.inr (.inl ())))

noncomputable def jX (s10 : (List aC)) (s21 : (List aC)) (t12 : Int) (t13 : Int) : Option Bool :=
  (lp (fun s => fP s10 s21 t12 s) t13).bind (Sum.elim (fun rr => iB ) (fun rr => some rr))

noncomputable def kC (s10 : (List aC)) (s21 : (List aC)) : Option Bool :=
  cond (!decide (((List.length s10 : Nat) : Int) = ((List.length s21 : Nat) : Int)))
  (some false)
  (jX s10 s21 ((List.length s10 : Nat) : Int) (0 : Int))

noncomputable def sN (a0 : (List aC)) (b1 : (List aC)) : Option Bool :=
  (kC a0 b1).bind fun x1 =>
  some x1

noncomputable def wH (r0 : (List aC)) : Option (List aC) :=
  bF (0 ≤ ((List.length r0 : Nat) : Int) ∧ (32 : Int) * ((List.length r0 : Nat) : Int) ≤ 281474976710656 ∧ ((List.length r0 : Nat) : Int) ≤ 9223372036854775807) <|
  bF ((List.length ([] : List aC) + List.length r0) * 32 ≤ 140737488355328 ∧ List.length ([] : List aC) + List.length r0 ≤ 9223372036854775807) <|
  some (([] : List aC) ++ r0)

noncomputable def pO {σ : Type} (cW : σ → (List aC) → (List aH) → Option (σ × Bool)) (sg : σ) (t1 : (List aR)) (i3 : Int) (r4 : (List aC)) (f5 : List aH) : Option ((σ × Int) ⊕ (σ ⊕ σ)) :=
  (wH r4).bind fun x7 =>
  (cW sg x7 f5).bind fun x10 =>
  cond (!x10.2)
  (some (.inr (.inr x10.1)))
  (some (.inl (x10.1, i3)))

noncomputable def kD {σ : Type} (cW : σ → (List aC) → (List aH) → Option (σ × Bool)) (t1 : (List aR)) (r4 : (List aC)) (sg : σ) (i3 : Int) (f5 : List aH) : Option ((σ × Int × List aH) ⊕ ((σ × Int × List aH))) :=
  bF ((((decide (i3 < ((List.length t1 : Nat) : Int)))) = true → 0 ≤ i3 ∧ i3 < ((List.length t1 : Nat) : Int))) <|
  (cT (decide (i3 < ((List.length t1 : Nat) : Int))) (sN ((List.getD t1 (Int.toNat i3) default).Row) r4)).bind fun x16 =>
  cond ((decide (i3 < ((List.length t1 : Nat) : Int))) && x16)
  (bF (0 ≤ i3 ∧ i3 < ((List.length t1 : Nat) : Int)) <|
  bF (0 ≤ i3 ∧ i3 < ((List.length t1 : Nat) : Int)) <|
  bF ((List.length f5 + List.length ([aH.mk ((List.getD t1 (Int.toNat i3) default).At) ((List.getD t1 (Int.toNat i3) default).Net)])) * 16 ≤ 140737488355328 ∧ List.length f5 + List.length ([aH.mk ((List.getD t1 (Int.toNat i3) default).At) ((List.getD t1 (Int.toNat i3) default).Net)]) ≤ 9223372036854775807) <|
  some (.inl (sg, IntKind.i64.wrap (i3 + (1 : Int)), f5 ++ ([aH.mk ((List.getD t1 (Int.toNat i3) default).At) ((List.getD t1 (Int.toNat i3) default).Net)]))))
  (some (.inr (sg, i3, f5)))

noncomputable def sS {σ : Type} (cW : σ → (List aC) → (List aH) → Option (σ × Bool)) (sg : σ) (t1 : (List aR)) (i3 : Int) (r4 : (List aC)) (f5 : List aH) : Option ((σ × Int) ⊕ (σ ⊕ σ)) :=
  (lp (fun s => kD cW t1 r4 s.1 s.2.1 s.2.2) (sg, i3, f5)).bind (fun rr => pO cW rr.1 t1 rr.2.1 r4 rr.2.2)

noncomputable def jB {σ : Type} (cW : σ → (List aC) → (List aH) → Option (σ × Bool)) (t1 : (List aR)) (sg : σ) (i3 : Int) : Option ((σ × Int) ⊕ (σ ⊕ σ)) :=
  cond (decide (i3 < ((List.length t1 : Nat) : Int)))
  (bF (0 ≤ i3 ∧ i3 < ((List.length t1 : Nat) : Int)) <|
  sS cW sg t1 i3 ((List.getD t1 (Int.toNat i3) default).Row) ([] : List aH))
  (some (.inr (.inl sg)))

noncomputable def sL {σ : Type} (cW : σ → (List aC) → (List aH) → Option (σ × Bool)) (sg : σ) (t1 : (List aR)) (i3 : Int) : Option σ :=
  (lp (fun s => jB cW t1 s.1 s.2) (sg, i3)).bind (Sum.elim (fun rr => some rr) (fun rr => some rr))

noncomputable def oL {σ : Type} (cW : σ → (List aC) → (List aH) → Option (σ × Bool)) (t1 : (List aR)) (sg0 : σ) : Option σ :=
  sL cW sg0 t1 (0 : Int)

noncomputable def fV (f1 : aC → Option Bool)  : Option Int :=
  some (-1 : Int)

noncomputable def iP (f1 : aC → Option Bool) (s0 : (List aC)) (t7 : Int) (t8 : Int) : Option ((Int) ⊕ (Unit ⊕ Int)) :=
  cond (decide (t8 < t7))
  (bF (0 ≤ t8 ∧ t8 < ((List.length s0 : Nat) : Int)) <|
  (f1 (List.getD s0 (Int.toNat t8) default)).bind fun x3 =>
  cond x3
  (some (.inr (.inr t8)))
  (some (.inl (IntKind.i64.wrap (t8 + (1 : Int))))))
  (some (.inr (.inl ())))

noncomputable def iR (f1 : aC → Option Bool) (s0 : (List aC)) (t7 : Int) (t8 : Int) : Option Int :=
  (lp (fun s => iP f1 s0 t7 s) t8).bind (Sum.elim (fun rr => fV f1 ) (fun rr => some rr))

noncomputable def iZ (s0 : (List aC)) (f1 : aC → Option Bool) : Option Int :=
  iR f1 s0 ((List.length s0 : Nat) : Int) (0 : Int)

noncomputable def fN (s0 : (List aC)) (f1 : aC → Option Bool) : Option Bool :=
  (iZ s0 f1).bind fun x1 =>
  some (decide ((0 : Int) ≤ x1))

noncomputable def mG (v0 : aC) : Option (bR × Bool) :=
  cond ((decide (v0.Kind = (1 : Int))) && (oA v0.Text (⟨#[]⟩ : ByteArray)))
  (some (bR.k_number v0.Num, true))
  (cond (((decide (v0.Kind = (2 : Int))) && (decide (v0.Num = (0 : Int)))) && (decide (((ByteArray.size v0.Text : Nat) : Int) ≤ (64 : Int))))
  (some (bR.k_words v0.Text, true))
  (some (bR.none_, false)))

noncomputable def xI (v0 : aC) : Option Bool :=
  (mG v0).bind fun (x1_0, x1_1) =>
  match x1_0 with
  | .none_ => (some x1_1)
  | .k_number y4 => (some x1_1)
  | .k_words y5 => (some x1_1)

noncomputable def xF (v0 : aC) : Option Bool :=
  (xI v0).bind fun x1 =>
  some (!x1)

noncomputable def vB (r0 : (List aC)) : Option Bool :=
  cond (decide ((8 : Int) < ((List.length r0 : Nat) : Int)))
  (some false)
  ((fN r0 (fun y0 => xF y0)).bind fun x2 =>
  some (!x2))

noncomputable def uP (t0 : (List aC)) : Option ((Int × (List aC))) :=
  some ((-1 : Int), t0)

noncomputable def fM {σ : Type} (f1 : σ → aC → Option (σ × Bool)) (sg : σ) : Option (σ × Int) :=
  some (sg, (-1 : Int))

noncomputable def cM {σ : Type} (f1 : σ → aC → Option (σ × Bool)) (s0 : (List aC)) (t7 : Int) (sg : σ) (t8 : Int) : Option ((σ × Int) ⊕ (σ ⊕ (σ × Int))) :=
  cond (decide (t8 < t7))
  (bF (0 ≤ t8 ∧ t8 < ((List.length s0 : Nat) : Int)) <|
  (f1 sg (List.getD s0 (Int.toNat t8) default)).bind fun x3 =>
  cond x3.2
  (some (.inr (.inr (x3.1, t8))))
  (some (.inl (x3.1, IntKind.i64.wrap (t8 + (1 : Int))))))
  (some (.inr (.inl sg)))

noncomputable def iJ {σ : Type} (f1 : σ → aC → Option (σ × Bool)) (sg : σ) (s0 : (List aC)) (t7 : Int) (t8 : Int) : Option (σ × Int) :=
  (lp (fun s => cM f1 s0 t7 s.1 s.2) (sg, t8)).bind (Sum.elim (fun rr => fM f1 rr) (fun rr => some (rr.1, rr.2)))

noncomputable def iL {σ : Type} (s0 : (List aC)) (f1 : σ → aC → Option (σ × Bool)) (sg0 : σ) : Option (σ × Int) :=
  iJ f1 sg0 s0 ((List.length s0 : Nat) : Int) (0 : Int)

noncomputable def kN (v0 : aC) (t1 : Int) (t2 : (List aC)) : Option (Bool × Int) :=
  bF (0 ≤ (IntKind.i64.wrap (t1 + (1 : Int))) ∧ (IntKind.i64.wrap (t1 + (1 : Int))) < ((List.length t2 : Nat) : Int)) <|
  some ((!((decide (v0.Kind = ((List.getD t2 (Int.toNat (IntKind.i64.wrap (t1 + (1 : Int)))) default).Kind))) && ((decide (v0.Num = ((List.getD t2 (Int.toNat (IntKind.i64.wrap (t1 + (1 : Int)))) default).Num))) && ((oA v0.Text ((List.getD t2 (Int.toNat (IntKind.i64.wrap (t1 + (1 : Int)))) default).Text)) && true)))), (IntKind.i64.wrap (t1 + (1 : Int))))

noncomputable def lV (x0 : Int) : Option Bool :=
  some (!decide (x0 = x0))

noncomputable def oU (x0 : Int) (y1 : Int) : Option Int :=
  (lV x0).bind fun x1 =>
  (lV y1).bind fun x4 =>
  cond x1
  (cond x4
  (some (0 : Int))
  (some (-1 : Int)))
  (cond x4
  (some (1 : Int))
  (cond (decide (x0 < y1))
  (some (-1 : Int))
  (cond (decide (y1 < x0))
  (some (1 : Int))
  (some (0 : Int)))))

noncomputable def lC (x0 : Int) : Option Bool :=
  some (!decide (x0 = x0))

noncomputable def gM (x0 : Int) (y1 : Int) : Option Int :=
  (lC x0).bind fun x1 =>
  (lC y1).bind fun x4 =>
  cond x1
  (cond x4
  (some (0 : Int))
  (some (-1 : Int)))
  (cond x4
  (some (1 : Int))
  (cond (decide (x0 < y1))
  (some (-1 : Int))
  (cond (decide (y1 < x0))
  (some (1 : Int))
  (some (0 : Int)))))

noncomputable def kG (a0 : ByteArray) (b1 : ByteArray) : Option Int :=
  some (OS a0 b1)

noncomputable def nB (a0 : ByteArray) (b1 : ByteArray) : Option Int :=
  (kG a0 b1).bind fun x1 =>
  some x1

noncomputable def qQ (a0 : aC) (b1 : aC) : Option Int :=
  (mG a0).bind fun (x1_0, x1_1) =>
  match x1_0 with
  | .none_ => ((mG b1).bind fun (x6_0, x6_1) =>
  match x6_0 with
  | .none_ => (cond ((!x1_1) || (!x6_1))
  (some (0 : Int))
  (none))
  | .k_number y9 => (cond ((!x1_1) || (!x6_1))
  (some (0 : Int))
  (some (1 : Int)))
  | .k_words y10 => (cond ((!x1_1) || (!x6_1))
  (some (0 : Int))
  (none)))
  | .k_number y4 => ((mG b1).bind fun (x23_0, x23_1) =>
  match x23_0 with
  | .none_ => (cond ((!x1_1) || (!x23_1))
  (some (0 : Int))
  (some (-1 : Int)))
  | .k_number y26 => (cond ((!x1_1) || (!x23_1))
  (some (0 : Int))
  ((gM y4 y26).bind fun x33 =>
  some x33))
  | .k_words y27 => (cond ((!x1_1) || (!x23_1))
  (some (0 : Int))
  (some (-1 : Int))))
  | .k_words y5 => ((mG b1).bind fun (x39_0, x39_1) =>
  match x39_0 with
  | .none_ => (cond ((!x1_1) || (!x39_1))
  (some (0 : Int))
  (none))
  | .k_number y42 => (cond ((!x1_1) || (!x39_1))
  (some (0 : Int))
  (some (1 : Int)))
  | .k_words y43 => (cond ((!x1_1) || (!x39_1))
  (some (0 : Int))
  ((nB y5 y43).bind fun x56 =>
  some x56)))

noncomputable def tF (a0 : (List aC)) (b1 : (List aC)) : Option Int :=
  (vB a0).bind fun x1 =>
  (cT (!(!x1)) (vB b1)).bind fun x4 =>
  cond ((!x1) || (!x4))
  (some (0 : Int))
  (bF (0 ≤ (if ((List.length b1 : Nat) : Int) < ((List.length a0 : Nat) : Int) then ((List.length b1 : Nat) : Int) else ((List.length a0 : Nat) : Int)) ∧ (if ((List.length b1 : Nat) : Int) < ((List.length a0 : Nat) : Int) then ((List.length b1 : Nat) : Int) else ((List.length a0 : Nat) : Int)) ≤ ((List.length a0 : Nat) : Int)) <|
  (uP b1).bind fun x9 =>
  (iL (List.take (Int.toNat (if ((List.length b1 : Nat) : Int) < ((List.length a0 : Nat) : Int) then ((List.length b1 : Nat) : Int) else ((List.length a0 : Nat) : Int))) a0) (fun st y0 => (kN y0 st x9.2).bind fun o => some (o.2, o.1)) x9.1).bind fun x12 =>
  cond (decide (x12.2 < (0 : Int)))
  ((oU ((List.length a0 : Nat) : Int) ((List.length b1 : Nat) : Int)).bind fun x15 =>
  some x15)
  (bF (0 ≤ x12.2 ∧ x12.2 < ((List.length a0 : Nat) : Int)) <|
  bF (0 ≤ x12.2 ∧ x12.2 < ((List.length b1 : Nat) : Int)) <|
  (qQ (List.getD a0 (Int.toNat x12.2) default) (List.getD b1 (Int.toNat x12.2) default)).bind fun x20 =>
  some x20))

noncomputable def pQ (vK : (List aH) → Option Bool) (wM : (List aR)) (t4 : Bool) (pE : (List aC)) (kS : Bool) (t14 : (List aC)) (t15 : (List aH)) : Option ((Bool × (List aC) × Bool) ⊕ (Bool × (List aC) × Bool)) :=
  (vB t14).bind fun x7 =>
  (cT (kS && (!(!x7))) (tF pE t14)).bind fun x12 =>
  (cT (!((!x7) || (kS && (decide ((0 : Int) ≤ x12))))) (vK t15)).bind fun x15 =>
  cond (((!x7) || (kS && (decide ((0 : Int) ≤ x12)))) || (!x15))
  (some (.inr (false, pE, kS)))
  (some (.inl (t4, t14, true)))

noncomputable def zE (vK : (List aH) → Option Bool) (t4 : Bool) (pE : (List aC)) (kS : Bool) (wM : (List aR)) : Option Bool :=
  (oL (fun st t14 t15 => rnd (fun (s : Bool × (List aC) × Bool) => pQ vK wM s.1 s.2.1 s.2.2 t14 t15) st) wM (.inl (t4, pE, kS))).bind (Sum.elim (fun (s : Bool × (List aC) × Bool) =>
  (some true))
  (fun (s : Bool × (List aC) × Bool) =>
  (some s.1)))

noncomputable def uC (l0 : (List aR)) (vK : (List aH) → Option Bool) : Option Bool :=
  cond (decide ((4096 : Int) < ((List.length l0 : Nat) : Int)))
  (some false)
  ((uF l0).bind fun x5 =>
  zE vK false ([]) false x5)

noncomputable def AU (n0 : Int) : Option Bool :=
  some ((decide (n0 ≤ (1048576 : Int))) && (decide ((-1048576 : Int) ≤ n0)))

noncomputable def xJ  : Option Bool :=
  some true

noncomputable def mS (t9 : (List aH)) (t10 : Int) (rG : Int) (t11 : Int) : Option ((Int × Int) ⊕ (Unit ⊕ Bool)) :=
  cond (decide (t11 < t10))
  (bF (0 ≤ t11 ∧ t11 < ((List.length t9 : Nat) : Int)) <|
  (cT (!(((decide (((List.getD t9 (Int.toNat t11) default).At) ≤ rG)) || (decide ((1125899906842624 : Int) ≤ ((List.getD t9 (Int.toNat t11) default).At)))) || (decide (((List.getD t9 (Int.toNat t11) default).Net) = (0 : Int))))) (AU ((List.getD t9 (Int.toNat t11) default).Net))).bind fun x8 =>
  cond ((((decide (((List.getD t9 (Int.toNat t11) default).At) ≤ rG)) || (decide ((1125899906842624 : Int) ≤ ((List.getD t9 (Int.toNat t11) default).At)))) || (decide (((List.getD t9 (Int.toNat t11) default).Net) = (0 : Int)))) || (!x8))
  (some (.inr (.inr false)))
  (some (.inl ((List.getD t9 (Int.toNat t11) default).At, IntKind.i64.wrap (t11 + (1 : Int))))))
  (some (.inr (.inl ())))

noncomputable def AO (rG : Int) (t9 : (List aH)) (t10 : Int) (t11 : Int) : Option Bool :=
  (lp (fun s => mS t9 t10 s.1 s.2) (rG, t11)).bind (Sum.elim (fun rr => xJ ) (fun rr => some rr))

noncomputable def oZ (f0 : (List aH)) : Option Bool :=
  cond (decide ((1024 : Int) < ((List.length f0 : Nat) : Int)))
  (some false)
  (AO (-2 : Int) f0 ((List.length f0 : Nat) : Int) (0 : Int))

noncomputable def wU (l0 : (List aR)) : Option Bool :=
  (uC l0 (fun y0 => oZ y0)).bind fun x1 =>
  some x1

noncomputable def tP (iN : Int) : Option Int :=
  some iN

noncomputable def nD (t24 : (List aH)) (t25 : Int) (v3 : Int) (iN : Int) (t26 : Int) : Option ((Int × Int × Int) ⊕ (Int)) :=
  cond (decide (t26 < t25))
  (bF (0 ≤ t26 ∧ t26 < ((List.length t24 : Nat) : Int)) <|
  some (.inl (IntKind.i64.wrap (v3 + ((List.getD t24 (Int.toNat t26) default).Net)), if (IntKind.i64.wrap (v3 + ((List.getD t24 (Int.toNat t26) default).Net))) < iN then (IntKind.i64.wrap (v3 + ((List.getD t24 (Int.toNat t26) default).Net))) else iN, IntKind.i64.wrap (t26 + (1 : Int)))))
  (some (.inr iN))

noncomputable def tL (v3 : Int) (iN : Int) (t24 : (List aH)) (t25 : Int) (t26 : Int) : Option Int :=
  (lp (fun s => nD t24 t25 s.1 s.2.1 s.2.2) (v3, iN, t26)).bind (fun rr => tP rr)

noncomputable def qM (f0 : (List aH)) (v3 : Int) (iN : Int) : Option Int :=
  tL v3 iN f0 ((List.length f0 : Nat) : Int) (0 : Int)

noncomputable def vT (f0 : (List aH)) : Option Int :=
  (oZ f0).bind fun x1 =>
  cond ((!x1) || (decide (((List.length f0 : Nat) : Int) = (0 : Int))))
  (some (0 : Int))
  (bF (0 ≤ (0 : Int) ∧ (0 : Int) < ((List.length f0 : Nat) : Int)) <|
  cond (decide (((List.getD f0 (Int.toNat (0 : Int)) default).At) = (-1 : Int)))
  (bF (0 ≤ (0 : Int) ∧ (0 : Int) < ((List.length f0 : Nat) : Int)) <|
  qM f0 (0 : Int) ((List.getD f0 (Int.toNat (0 : Int)) default).Net))
  (qM f0 (0 : Int) (0 : Int)))

noncomputable def rP (f0 : (List aH)) : Option Bool :=
  (oZ f0).bind fun x1 =>
  (cT x1 (vT f0)).bind fun x4 =>
  some (x1 && (decide ((0 : Int) ≤ x4)))

noncomputable def vN (l0 : (List aR)) : Option Bool :=
  (uC l0 (fun y0 => rP y0)).bind fun x1 =>
  some x1

noncomputable def xX (l0 : (List aR)) : Option ((List aR)) :=
  some l0

noncomputable def lE {σ : Type} (cW : σ → (List aC) → (List aH) → Option (σ × Bool)) (t9c0 : (List aR)) (sg : σ) (t10 : (List aC)) (t11 : (List aH)) : Option ((σ) ⊕ (σ)) :=
  (cW sg t10 t11).bind fun x7 =>
  cond (!x7.2)
  (some (.inr x7.1))
  (some (.inl x7.1))

noncomputable def qU {σ : Type} (cW : σ → (List aC) → (List aH) → Option (σ × Bool)) (sg : σ) (t9c0 : (List aR)) : Option σ :=
  (oL (fun st t10 t11 => rnd (fun (s : σ) => lE cW t9c0 s t10 t11) st) t9c0 (.inl sg)).bind (Sum.elim (fun (s : σ) =>
  (some s))
  (fun (s : σ) =>
  (some s)))

noncomputable def oW {σ : Type} (cW : σ → (List aC) → (List aH) → Option (σ × Bool)) (t1 : (List aR)) (sg0 : σ) : Option σ :=
  (wU t1).bind fun x1 =>
  cond (!x1)
  (some sg0)
  ((uF t1).bind fun x5 =>
  qU cW sg0 x5)

noncomputable def mN (x0 : Int) (n2 : Int) : Option Int :=
  bF (0 ≤ (IntKind.u8.wrap x0) ∧ (IntKind.u8.wrap x0) < ((ByteArray.size (⟨#[0, 1, 2, 2, 3, 3, 3, 3, 4, 4, 4, 4, 4, 4, 4, 4, 5, 5, 5, 5, 5, 5, 5, 5, 5, 5, 5, 5, 5, 5, 5, 5, 6, 6, 6, 6, 6, 6, 6, 6, 6, 6, 6, 6, 6, 6, 6, 6, 6, 6, 6, 6, 6, 6, 6, 6, 6, 6, 6, 6, 6, 6, 6, 6, 7, 7, 7, 7, 7, 7, 7, 7, 7, 7, 7, 7, 7, 7, 7, 7, 7, 7, 7, 7, 7, 7, 7, 7, 7, 7, 7, 7, 7, 7, 7, 7, 7, 7, 7, 7, 7, 7, 7, 7, 7, 7, 7, 7, 7, 7, 7, 7, 7, 7, 7, 7, 7, 7, 7, 7, 7, 7, 7, 7, 7, 7, 7, 7, 8, 8, 8, 8, 8, 8, 8, 8, 8, 8, 8, 8, 8, 8, 8, 8, 8, 8, 8, 8, 8, 8, 8, 8, 8, 8, 8, 8, 8, 8, 8, 8, 8, 8, 8, 8, 8, 8, 8, 8, 8, 8, 8, 8, 8, 8, 8, 8, 8, 8, 8, 8, 8, 8, 8, 8, 8, 8, 8, 8, 8, 8, 8, 8, 8, 8, 8, 8, 8, 8, 8, 8, 8, 8, 8, 8, 8, 8, 8, 8, 8, 8, 8, 8, 8, 8, 8, 8, 8, 8, 8, 8, 8, 8, 8, 8, 8, 8, 8, 8, 8, 8, 8, 8, 8, 8, 8, 8, 8, 8, 8, 8, 8, 8, 8, 8, 8, 8, 8, 8, 8, 8, 8, 8, 8, 8, 8, 8]⟩ : ByteArray) : Nat) : Int)) <|
  some (IntKind.i64.wrap (n2 + (IntKind.i64.wrap (bt (⟨#[0, 1, 2, 2, 3, 3, 3, 3, 4, 4, 4, 4, 4, 4, 4, 4, 5, 5, 5, 5, 5, 5, 5, 5, 5, 5, 5, 5, 5, 5, 5, 5, 6, 6, 6, 6, 6, 6, 6, 6, 6, 6, 6, 6, 6, 6, 6, 6, 6, 6, 6, 6, 6, 6, 6, 6, 6, 6, 6, 6, 6, 6, 6, 6, 7, 7, 7, 7, 7, 7, 7, 7, 7, 7, 7, 7, 7, 7, 7, 7, 7, 7, 7, 7, 7, 7, 7, 7, 7, 7, 7, 7, 7, 7, 7, 7, 7, 7, 7, 7, 7, 7, 7, 7, 7, 7, 7, 7, 7, 7, 7, 7, 7, 7, 7, 7, 7, 7, 7, 7, 7, 7, 7, 7, 7, 7, 7, 7, 8, 8, 8, 8, 8, 8, 8, 8, 8, 8, 8, 8, 8, 8, 8, 8, 8, 8, 8, 8, 8, 8, 8, 8, 8, 8, 8, 8, 8, 8, 8, 8, 8, 8, 8, 8, 8, 8, 8, 8, 8, 8, 8, 8, 8, 8, 8, 8, 8, 8, 8, 8, 8, 8, 8, 8, 8, 8, 8, 8, 8, 8, 8, 8, 8, 8, 8, 8, 8, 8, 8, 8, 8, 8, 8, 8, 8, 8, 8, 8, 8, 8, 8, 8, 8, 8, 8, 8, 8, 8, 8, 8, 8, 8, 8, 8, 8, 8, 8, 8, 8, 8, 8, 8, 8, 8, 8, 8, 8, 8, 8, 8, 8, 8, 8, 8, 8, 8, 8, 8, 8, 8, 8, 8, 8, 8, 8, 8]⟩ : ByteArray) (IntKind.u8.wrap x0)))))

noncomputable def lA (x0 : Int) (n2 : Int) : Option Int :=
  cond (decide ((256 : Int) ≤ x0))
  (bF (0 ≤ (8 : Int)) <|
  mN (Int.fdiv x0 (2 ^ (min (Int.toNat (8 : Int)) 64))) (IntKind.i64.wrap (n2 + (8 : Int))))
  (mN x0 n2)

noncomputable def lI (x0 : Int) (n2 : Int) : Option Int :=
  cond (decide ((65536 : Int) ≤ x0))
  (bF (0 ≤ (16 : Int)) <|
  lA (Int.fdiv x0 (2 ^ (min (Int.toNat (16 : Int)) 64))) (IntKind.i64.wrap (n2 + (16 : Int))))
  (lA x0 n2)

noncomputable def oX (x0 : Int) : Option Int :=
  cond (decide ((4294967296 : Int) ≤ x0))
  (bF (0 ≤ (32 : Int)) <|
  lI (Int.fdiv x0 (2 ^ (min (Int.toNat (32 : Int)) 64))) (32 : Int))
  (lI x0 (0 : Int))

noncomputable def kU (x0 : Int) : Option Int :=
  (oX x0).bind fun x2 =>
  some x2

noncomputable def dU (x0 : Int) (y1 : Int) : Option Bool :=
  (lV x0).bind fun x1 =>
  (cT x1 (lV y1)).bind fun x4 =>
  some ((x1 && (!x4)) || (decide (x0 < y1)))

noncomputable def gT (aA : List Int) (a1 : Int) (b2 : Int) (i6 : Int) : Option ((List Int × Int) ⊕ ((List Int))) :=
  some (.inl (aA, IntKind.i64.wrap (i6 + (1 : Int))))

noncomputable def fL (a1 : Int) (b2 : Int) (i6 : Int) (aA : List Int) (j7 : Int) : Option ((List Int × Int) ⊕ ((List Int))) :=
  bF ((((decide (a1 < j7))) = true → 0 ≤ j7 ∧ j7 < ((List.length aA : Nat) : Int))) <|
  bF ((((decide (a1 < j7))) = true → 0 ≤ (IntKind.i64.wrap (j7 - (1 : Int))) ∧ (IntKind.i64.wrap (j7 - (1 : Int))) < ((List.length aA : Nat) : Int))) <|
  (cT (decide (a1 < j7)) (dU (List.getD aA (Int.toNat j7) default) (List.getD aA (Int.toNat (IntKind.i64.wrap (j7 - (1 : Int)))) default))).bind fun x4 =>
  cond ((decide (a1 < j7)) && x4)
  (bF (0 ≤ (IntKind.i64.wrap (j7 - (1 : Int))) ∧ (IntKind.i64.wrap (j7 - (1 : Int))) < ((List.length aA : Nat) : Int)) <|
  bF (0 ≤ j7 ∧ j7 < ((List.length aA : Nat) : Int)) <|
  bF (0 ≤ j7 ∧ j7 < ((List.length aA : Nat) : Int)) <|
  bF (0 ≤ (IntKind.i64.wrap (j7 - (1 : Int))) ∧ (IntKind.i64.wrap (j7 - (1 : Int))) < ((List.length aA : Nat) : Int)) <|
  some (.inl (List.set (List.set aA (Int.toNat j7) (List.getD aA (Int.toNat (IntKind.i64.wrap (j7 - (1 : Int)))) default)) (Int.toNat (IntKind.i64.wrap (j7 - (1 : Int)))) (List.getD aA (Int.toNat j7) default), IntKind.i64.wrap (j7 - (1 : Int)))))
  (some (.inr aA))

noncomputable def jO (aA : List Int) (a1 : Int) (b2 : Int) (i6 : Int) (j7 : Int) : Option ((List Int × Int) ⊕ ((List Int))) :=
  (lp (fun s => fL a1 b2 i6 s.1 s.2) (aA, j7)).bind (fun rr => gT rr a1 b2 i6)

noncomputable def dW (a1 : Int) (b2 : Int) (aA : List Int) (i6 : Int) : Option ((List Int × Int) ⊕ ((List Int))) :=
  cond (decide (i6 < b2))
  (jO aA a1 b2 i6 i6)
  (some (.inr aA))

noncomputable def jR (aA : List Int) (a1 : Int) (b2 : Int) (i6 : Int) : Option (List Int) :=
  (lp (fun s => dW a1 b2 s.1 s.2) (aA, i6)).bind (fun rr => some rr)

noncomputable def iA (aA : (List Int)) (a1 : Int) (b2 : Int) : Option (List Int) :=
  jR aA a1 b2 (IntKind.i64.wrap (a1 + (1 : Int)))

noncomputable def gW (aA : List Int) (hi2 : Int) (bQ : Int) (cK : Int) (eJ : Int) : Option ((List Int × Int) ⊕ ((List Int) ⊕ (List Int))) :=
  bF (0 ≤ (IntKind.i64.wrap (bQ + cK)) ∧ (IntKind.i64.wrap (bQ + cK)) < ((List.length aA : Nat) : Int)) <|
  bF (0 ≤ (IntKind.i64.wrap (bQ + eJ)) ∧ (IntKind.i64.wrap (bQ + eJ)) < ((List.length aA : Nat) : Int)) <|
  (dU (List.getD aA (Int.toNat (IntKind.i64.wrap (bQ + cK))) default) (List.getD aA (Int.toNat (IntKind.i64.wrap (bQ + eJ))) default)).bind fun x4 =>
  cond (!x4)
  (some (.inr (.inr aA)))
  (bF (0 ≤ (IntKind.i64.wrap (bQ + eJ)) ∧ (IntKind.i64.wrap (bQ + eJ)) < ((List.length aA : Nat) : Int)) <|
  bF (0 ≤ (IntKind.i64.wrap (bQ + cK)) ∧ (IntKind.i64.wrap (bQ + cK)) < ((List.length aA : Nat) : Int)) <|
  bF (0 ≤ (IntKind.i64.wrap (bQ + cK)) ∧ (IntKind.i64.wrap (bQ + cK)) < ((List.length aA : Nat) : Int)) <|
  bF (0 ≤ (IntKind.i64.wrap (bQ + eJ)) ∧ (IntKind.i64.wrap (bQ + eJ)) < ((List.length aA : Nat) : Int)) <|
  some (.inl (List.set (List.set aA (Int.toNat (IntKind.i64.wrap (bQ + cK))) (List.getD aA (Int.toNat (IntKind.i64.wrap (bQ + eJ))) default)) (Int.toNat (IntKind.i64.wrap (bQ + eJ))) (List.getD aA (Int.toNat (IntKind.i64.wrap (bQ + cK))) default), eJ)))

noncomputable def dR (hi2 : Int) (bQ : Int) (aA : List Int) (cK : Int) : Option ((List Int × Int) ⊕ ((List Int) ⊕ (List Int))) :=
  cond (decide (hi2 ≤ (IntKind.i64.wrap ((IntKind.i64.wrap ((2 : Int) * cK)) + (1 : Int)))))
  (some (.inr (.inl aA)))
  (bF ((((decide ((IntKind.i64.wrap ((IntKind.i64.wrap ((IntKind.i64.wrap ((2 : Int) * cK)) + (1 : Int))) + (1 : Int))) < hi2))) = true → 0 ≤ (IntKind.i64.wrap (bQ + (IntKind.i64.wrap ((IntKind.i64.wrap ((2 : Int) * cK)) + (1 : Int))))) ∧ (IntKind.i64.wrap (bQ + (IntKind.i64.wrap ((IntKind.i64.wrap ((2 : Int) * cK)) + (1 : Int))))) < ((List.length aA : Nat) : Int))) <|
  bF ((((decide ((IntKind.i64.wrap ((IntKind.i64.wrap ((IntKind.i64.wrap ((2 : Int) * cK)) + (1 : Int))) + (1 : Int))) < hi2))) = true → 0 ≤ (IntKind.i64.wrap ((IntKind.i64.wrap (bQ + (IntKind.i64.wrap ((IntKind.i64.wrap ((2 : Int) * cK)) + (1 : Int))))) + (1 : Int))) ∧ (IntKind.i64.wrap ((IntKind.i64.wrap (bQ + (IntKind.i64.wrap ((IntKind.i64.wrap ((2 : Int) * cK)) + (1 : Int))))) + (1 : Int))) < ((List.length aA : Nat) : Int))) <|
  (cT (decide ((IntKind.i64.wrap ((IntKind.i64.wrap ((IntKind.i64.wrap ((2 : Int) * cK)) + (1 : Int))) + (1 : Int))) < hi2)) (dU (List.getD aA (Int.toNat (IntKind.i64.wrap (bQ + (IntKind.i64.wrap ((IntKind.i64.wrap ((2 : Int) * cK)) + (1 : Int)))))) default) (List.getD aA (Int.toNat (IntKind.i64.wrap ((IntKind.i64.wrap (bQ + (IntKind.i64.wrap ((IntKind.i64.wrap ((2 : Int) * cK)) + (1 : Int))))) + (1 : Int)))) default))).bind fun x14 =>
  cond ((decide ((IntKind.i64.wrap ((IntKind.i64.wrap ((IntKind.i64.wrap ((2 : Int) * cK)) + (1 : Int))) + (1 : Int))) < hi2)) && x14)
  (gW aA hi2 bQ cK (IntKind.i64.wrap ((IntKind.i64.wrap ((IntKind.i64.wrap ((2 : Int) * cK)) + (1 : Int))) + (1 : Int))))
  (gW aA hi2 bQ cK (IntKind.i64.wrap ((IntKind.i64.wrap ((2 : Int) * cK)) + (1 : Int)))))

noncomputable def kX (aA : List Int) (hi2 : Int) (bQ : Int) (cK : Int) : Option (List Int) :=
  (lp (fun s => dR hi2 bQ s.1 s.2) (aA, cK)).bind (Sum.elim (fun rr => some rr) (fun rr => some rr))

noncomputable def fT (aA : (List Int)) (lo1 : Int) (hi2 : Int) (bQ : Int) : Option (List Int) :=
  kX aA hi2 bQ lo1

noncomputable def eO (bY : Int) (lo7 : Int) (aA : List Int) (i10 : Int) : Option ((List Int × Int) ⊕ ((List Int))) :=
  cond (decide ((0 : Int) ≤ i10))
  (bF (0 ≤ (IntKind.i64.wrap (bY + i10)) ∧ (IntKind.i64.wrap (bY + i10)) < ((List.length aA : Nat) : Int)) <|
  bF (0 ≤ bY ∧ bY < ((List.length aA : Nat) : Int)) <|
  bF (0 ≤ bY ∧ bY < ((List.length aA : Nat) : Int)) <|
  bF (0 ≤ (IntKind.i64.wrap (bY + i10)) ∧ (IntKind.i64.wrap (bY + i10)) < ((List.length aA : Nat) : Int)) <|
  (fT (List.set (List.set aA (Int.toNat bY) (List.getD aA (Int.toNat (IntKind.i64.wrap (bY + i10))) default)) (Int.toNat (IntKind.i64.wrap (bY + i10))) (List.getD aA (Int.toNat bY) default)) lo7 i10 bY).bind fun x6 =>
  some (.inl (x6, IntKind.i64.wrap (i10 - (1 : Int)))))
  (some (.inr aA))

noncomputable def kZ (aA : List Int) (bY : Int) (lo7 : Int) (i10 : Int) : Option (List Int) :=
  (lp (fun s => eO bY lo7 s.1 s.2) (aA, i10)).bind (fun rr => some rr)

noncomputable def jL (aA : List Int) (bY : Int) (lo7 : Int) (hi8 : Int) : Option (List Int) :=
  kZ aA bY lo7 (IntKind.i64.wrap (hi8 - (1 : Int)))

noncomputable def eN (bY : Int) (lo7 : Int) (hi8 : Int) (aA : List Int) (i9 : Int) : Option ((List Int × Int) ⊕ ((List Int))) :=
  cond (decide ((0 : Int) ≤ i9))
  ((fT aA i9 hi8 bY).bind fun x11 =>
  some (.inl (x11, IntKind.i64.wrap (i9 - (1 : Int)))))
  (some (.inr aA))

noncomputable def kY (aA : List Int) (bY : Int) (lo7 : Int) (hi8 : Int) (i9 : Int) : Option (List Int) :=
  (lp (fun s => eN bY lo7 hi8 s.1 s.2) (aA, i9)).bind (fun rr => jL rr bY lo7 hi8)

noncomputable def jV (aA : (List Int)) (a1 : Int) (b2 : Int) : Option (List Int) :=
  bF ((2 : Int) ≠ 0) <|
  kY aA a1 (0 : Int) (IntKind.i64.wrap (b2 - a1)) (IntKind.i64.wrap (Int.tdiv (IntKind.i64.wrap ((IntKind.i64.wrap (b2 - a1)) - (1 : Int))) (2 : Int)))

noncomputable def lQ (FF : Int) : Option Int :=
  (kU (IntKind.u64.wrap FF)).bind fun x1 =>
  bF (0 ≤ x1) <|
  some (IntKind.u64.wrap ((1 : Int) * 2 ^ (min (Int.toNat x1) 64)))

noncomputable def mD (r0 : Int) : Option (Int × Int) :=
  bF (0 ≤ (13 : Int)) <|
  bF (0 ≤ (7 : Int)) <|
  bF (0 ≤ (17 : Int)) <|
  some (bX .xor .u64 (bX .xor .u64 (bX .xor .u64 r0 (IntKind.u64.wrap (r0 * 2 ^ (min (Int.toNat (13 : Int)) 64)))) (Int.fdiv (bX .xor .u64 r0 (IntKind.u64.wrap (r0 * 2 ^ (min (Int.toNat (13 : Int)) 64)))) (2 ^ (min (Int.toNat (7 : Int)) 64)))) (IntKind.u64.wrap ((bX .xor .u64 (bX .xor .u64 r0 (IntKind.u64.wrap (r0 * 2 ^ (min (Int.toNat (13 : Int)) 64)))) (Int.fdiv (bX .xor .u64 r0 (IntKind.u64.wrap (r0 * 2 ^ (min (Int.toNat (13 : Int)) 64)))) (2 ^ (min (Int.toNat (7 : Int)) 64)))) * 2 ^ (min (Int.toNat (17 : Int)) 64))), bX .xor .u64 (bX .xor .u64 (bX .xor .u64 r0 (IntKind.u64.wrap (r0 * 2 ^ (min (Int.toNat (13 : Int)) 64)))) (Int.fdiv (bX .xor .u64 r0 (IntKind.u64.wrap (r0 * 2 ^ (min (Int.toNat (13 : Int)) 64)))) (2 ^ (min (Int.toNat (7 : Int)) 64)))) (IntKind.u64.wrap ((bX .xor .u64 (bX .xor .u64 r0 (IntKind.u64.wrap (r0 * 2 ^ (min (Int.toNat (13 : Int)) 64)))) (Int.fdiv (bX .xor .u64 r0 (IntKind.u64.wrap (r0 * 2 ^ (min (Int.toNat (13 : Int)) 64)))) (2 ^ (min (Int.toNat (7 : Int)) 64)))) * 2 ^ (min (Int.toNat (17 : Int)) 64))))

noncomputable def fJ (aA : List Int) (a1 : Int) (kK : Int) (lY : Int) (jC : Int) (idx9 : Int) (fY : Int) : Option ((List Int × Int × Int) ⊕ ((List Int))) :=
  bF (0 ≤ (IntKind.i64.wrap (a1 + fY)) ∧ (IntKind.i64.wrap (a1 + fY)) < ((List.length aA : Nat) : Int)) <|
  bF (0 ≤ idx9 ∧ idx9 < ((List.length aA : Nat) : Int)) <|
  bF (0 ≤ idx9 ∧ idx9 < ((List.length aA : Nat) : Int)) <|
  bF (0 ≤ (IntKind.i64.wrap (a1 + fY)) ∧ (IntKind.i64.wrap (a1 + fY)) < ((List.length aA : Nat) : Int)) <|
  some (.inl (List.set (List.set aA (Int.toNat idx9) (List.getD aA (Int.toNat (IntKind.i64.wrap (a1 + fY))) default)) (Int.toNat (IntKind.i64.wrap (a1 + fY))) (List.getD aA (Int.toNat idx9) default), lY, IntKind.i64.wrap (idx9 + (1 : Int))))

noncomputable def dK (a1 : Int) (kK : Int) (jC : Int) (aA : List Int) (lY : Int) (idx9 : Int) : Option ((List Int × Int × Int) ⊕ ((List Int))) :=
  bF ((4 : Int) ≠ 0) <|
  cond (decide (idx9 ≤ (IntKind.i64.wrap ((IntKind.i64.wrap (a1 + (IntKind.i64.wrap ((IntKind.i64.wrap (Int.tdiv kK (4 : Int))) * (2 : Int))))) + (1 : Int)))))
  ((mD lY).bind fun x9 =>
  cond (decide (kK ≤ (IntKind.i64.wrap (bX .and .u64 x9.1 (IntKind.u64.wrap (jC - (1 : Int)))))))
  (fJ aA a1 kK x9.2 jC idx9 (IntKind.i64.wrap ((IntKind.i64.wrap (bX .and .u64 x9.1 (IntKind.u64.wrap (jC - (1 : Int))))) - kK)))
  (fJ aA a1 kK x9.2 jC idx9 (IntKind.i64.wrap (bX .and .u64 x9.1 (IntKind.u64.wrap (jC - (1 : Int)))))))
  (some (.inr aA))

noncomputable def jQ (aA : List Int) (a1 : Int) (kK : Int) (lY : Int) (jC : Int) (idx9 : Int) : Option (List Int) :=
  (lp (fun s => dK a1 kK jC s.1 s.2.1 s.2.2) (aA, lY, idx9)).bind (fun rr => some rr)

noncomputable def hY (aA : (List Int)) (a1 : Int) (b2 : Int) : Option (List Int) :=
  cond (decide ((8 : Int) ≤ (IntKind.i64.wrap (b2 - a1))))
  ((lQ (IntKind.i64.wrap (b2 - a1))).bind fun x3 =>
  bF ((4 : Int) ≠ 0) <|
  jQ aA a1 (IntKind.i64.wrap (b2 - a1)) (IntKind.u64.wrap (IntKind.i64.wrap (b2 - a1))) x3 (IntKind.i64.wrap ((IntKind.i64.wrap (a1 + (IntKind.i64.wrap ((IntKind.i64.wrap (Int.tdiv (IntKind.i64.wrap (b2 - a1)) (4 : Int))) * (2 : Int))))) - (1 : Int))))
  (some aA)

noncomputable def gP (aA : (List Int)) (a1 : Int) (b2 : Int) (tU : Int) : Option ((Int × Int) × Int) :=
  bF (0 ≤ b2 ∧ b2 < ((List.length aA : Nat) : Int)) <|
  bF (0 ≤ a1 ∧ a1 < ((List.length aA : Nat) : Int)) <|
  (dU (List.getD aA (Int.toNat b2) default) (List.getD aA (Int.toNat a1) default)).bind fun x3 =>
  cond x3
  (some ((b2, a1), IntKind.i64.wrap (tU + (1 : Int))))
  (some ((a1, b2), tU))

noncomputable def iT (aA : (List Int)) (a1 : Int) (b2 : Int) (c3 : Int) (HR : Int) : Option (Int × Int) :=
  (gP aA a1 b2 HR).bind fun x1 =>
  (gP aA x1.1.2 c3 x1.2).bind fun x6 =>
  (gP aA x1.1.1 x6.1.1 x6.2).bind fun x11 =>
  some (x11.1.2, x11.2)

noncomputable def eF (aA : (List Int)) (a1 : Int) (HB : Int) : Option (Int × Int) :=
  (iT aA (IntKind.i64.wrap (a1 - (1 : Int))) a1 (IntKind.i64.wrap (a1 + (1 : Int))) HB).bind fun x1 =>
  some (x1.1, x1.2)

noncomputable def fS (aA : List Int) (mU : Int) (j11 : Int) : Option (Int × Int) :=
  cond (decide (mU = (0 : Int)))
  (some (j11, (1 : Int)))
  (cond (decide (mU = (12 : Int)))
  (some (j11, (2 : Int)))
  (some (j11, (0 : Int))))

noncomputable def fU (aA : List Int) (mU : Int) (i10 : Int) (j11 : Int) (k12 : Int) : Option (Int × Int) :=
  (iT aA i10 j11 k12 mU).bind fun x8 =>
  fS aA x8.2 x8.1

noncomputable def iM (aA : (List Int)) (a1 : Int) (b2 : Int) : Option (Int × Int) :=
  bF ((4 : Int) ≠ 0) <|
  bF ((4 : Int) ≠ 0) <|
  bF ((4 : Int) ≠ 0) <|
  cond (decide ((8 : Int) ≤ (IntKind.i64.wrap (b2 - a1))))
  (cond (decide ((50 : Int) ≤ (IntKind.i64.wrap (b2 - a1))))
  ((eF aA (IntKind.i64.wrap (a1 + (IntKind.i64.wrap ((IntKind.i64.wrap (Int.tdiv (IntKind.i64.wrap (b2 - a1)) (4 : Int))) * (1 : Int))))) 0).bind fun x14 =>
  (eF aA (IntKind.i64.wrap (a1 + (IntKind.i64.wrap ((IntKind.i64.wrap (Int.tdiv (IntKind.i64.wrap (b2 - a1)) (4 : Int))) * (2 : Int))))) x14.2).bind fun x19 =>
  (eF aA (IntKind.i64.wrap (a1 + (IntKind.i64.wrap ((IntKind.i64.wrap (Int.tdiv (IntKind.i64.wrap (b2 - a1)) (4 : Int))) * (3 : Int))))) x19.2).bind fun x24 =>
  fU aA x24.2 x14.1 x19.1 x24.1)
  (fU aA 0 (IntKind.i64.wrap (a1 + (IntKind.i64.wrap ((IntKind.i64.wrap (Int.tdiv (IntKind.i64.wrap (b2 - a1)) (4 : Int))) * (1 : Int))))) (IntKind.i64.wrap (a1 + (IntKind.i64.wrap ((IntKind.i64.wrap (Int.tdiv (IntKind.i64.wrap (b2 - a1)) (4 : Int))) * (2 : Int))))) (IntKind.i64.wrap (a1 + (IntKind.i64.wrap ((IntKind.i64.wrap (Int.tdiv (IntKind.i64.wrap (b2 - a1)) (4 : Int))) * (3 : Int)))))))
  (fS aA 0 (IntKind.i64.wrap (a1 + (IntKind.i64.wrap ((IntKind.i64.wrap (Int.tdiv (IntKind.i64.wrap (b2 - a1)) (4 : Int))) * (2 : Int))))))

noncomputable def dZ  (aA : List Int) (i6 : Int) (j7 : Int) : Option ((List Int × Int × Int) ⊕ ((List Int))) :=
  cond (decide (i6 < j7))
  (bF (0 ≤ j7 ∧ j7 < ((List.length aA : Nat) : Int)) <|
  bF (0 ≤ i6 ∧ i6 < ((List.length aA : Nat) : Int)) <|
  bF (0 ≤ i6 ∧ i6 < ((List.length aA : Nat) : Int)) <|
  bF (0 ≤ j7 ∧ j7 < ((List.length aA : Nat) : Int)) <|
  some (.inl (List.set (List.set aA (Int.toNat i6) (List.getD aA (Int.toNat j7) default)) (Int.toNat j7) (List.getD aA (Int.toNat i6) default), IntKind.i64.wrap (i6 + (1 : Int)), IntKind.i64.wrap (j7 - (1 : Int)))))
  (some (.inr aA))

noncomputable def jY (aA : List Int) (i6 : Int) (j7 : Int) : Option (List Int) :=
  (lp (fun s => dZ s.1 s.2.1 s.2.2) (aA, i6, j7)).bind (fun rr => some rr)

noncomputable def iK (aA : (List Int)) (a1 : Int) (b2 : Int) : Option (List Int) :=
  jY aA a1 (IntKind.i64.wrap (b2 - (1 : Int)))

noncomputable def fB (aA : List Int) : Option (Bool × List Int) :=
  some (false, aA)

noncomputable def eB (aA : List Int) (a1 : Int) (b2 : Int) (i7 : Int) (j8 : Int) : Option ((List Int × Int × Int) ⊕ ((List Int) ⊕ (Bool × (List Int)))) :=
  some (.inl (aA, i7, IntKind.i64.wrap (j8 + (1 : Int))))

noncomputable def dA (a1 : Int) (b2 : Int) (i7 : Int) (j8 : Int) (aA : List Int) (j10 : Int) : Option ((List Int × Int) ⊕ ((List Int))) :=
  cond (decide (j10 < b2))
  (bF (0 ≤ j10 ∧ j10 < ((List.length aA : Nat) : Int)) <|
  bF (0 ≤ (IntKind.i64.wrap (j10 - (1 : Int))) ∧ (IntKind.i64.wrap (j10 - (1 : Int))) < ((List.length aA : Nat) : Int)) <|
  (dU (List.getD aA (Int.toNat j10) default) (List.getD aA (Int.toNat (IntKind.i64.wrap (j10 - (1 : Int)))) default)).bind fun x12 =>
  cond (!x12)
  (some (.inr aA))
  (bF (0 ≤ (IntKind.i64.wrap (j10 - (1 : Int))) ∧ (IntKind.i64.wrap (j10 - (1 : Int))) < ((List.length aA : Nat) : Int)) <|
  bF (0 ≤ j10 ∧ j10 < ((List.length aA : Nat) : Int)) <|
  bF (0 ≤ j10 ∧ j10 < ((List.length aA : Nat) : Int)) <|
  bF (0 ≤ (IntKind.i64.wrap (j10 - (1 : Int))) ∧ (IntKind.i64.wrap (j10 - (1 : Int))) < ((List.length aA : Nat) : Int)) <|
  some (.inl (List.set (List.set aA (Int.toNat j10) (List.getD aA (Int.toNat (IntKind.i64.wrap (j10 - (1 : Int)))) default)) (Int.toNat (IntKind.i64.wrap (j10 - (1 : Int)))) (List.getD aA (Int.toNat j10) default), IntKind.i64.wrap (j10 + (1 : Int))))))
  (some (.inr aA))

noncomputable def gR (aA : List Int) (a1 : Int) (b2 : Int) (i7 : Int) (j8 : Int) (j10 : Int) : Option ((List Int × Int × Int) ⊕ ((List Int) ⊕ (Bool × (List Int)))) :=
  (lp (fun s => dA a1 b2 i7 j8 s.1 s.2) (aA, j10)).bind (fun rr => eB rr a1 b2 i7 j8)

noncomputable def cN (aA : List Int) (a1 : Int) (b2 : Int) (i7 : Int) (j8 : Int) : Option ((List Int × Int × Int) ⊕ ((List Int) ⊕ (Bool × (List Int)))) :=
  cond (decide ((2 : Int) ≤ (IntKind.i64.wrap (b2 - i7))))
  (gR aA a1 b2 i7 j8 (IntKind.i64.wrap (i7 + (1 : Int))))
  (eB aA a1 b2 i7 j8)

noncomputable def cO (a1 : Int) (b2 : Int) (i7 : Int) (j8 : Int) (aA : List Int) (j9 : Int) : Option ((List Int × Int) ⊕ ((List Int))) :=
  cond (decide ((1 : Int) ≤ j9))
  (bF (0 ≤ j9 ∧ j9 < ((List.length aA : Nat) : Int)) <|
  bF (0 ≤ (IntKind.i64.wrap (j9 - (1 : Int))) ∧ (IntKind.i64.wrap (j9 - (1 : Int))) < ((List.length aA : Nat) : Int)) <|
  (dU (List.getD aA (Int.toNat j9) default) (List.getD aA (Int.toNat (IntKind.i64.wrap (j9 - (1 : Int)))) default)).bind fun x24 =>
  cond (!x24)
  (some (.inr aA))
  (bF (0 ≤ (IntKind.i64.wrap (j9 - (1 : Int))) ∧ (IntKind.i64.wrap (j9 - (1 : Int))) < ((List.length aA : Nat) : Int)) <|
  bF (0 ≤ j9 ∧ j9 < ((List.length aA : Nat) : Int)) <|
  bF (0 ≤ j9 ∧ j9 < ((List.length aA : Nat) : Int)) <|
  bF (0 ≤ (IntKind.i64.wrap (j9 - (1 : Int))) ∧ (IntKind.i64.wrap (j9 - (1 : Int))) < ((List.length aA : Nat) : Int)) <|
  some (.inl (List.set (List.set aA (Int.toNat j9) (List.getD aA (Int.toNat (IntKind.i64.wrap (j9 - (1 : Int)))) default)) (Int.toNat (IntKind.i64.wrap (j9 - (1 : Int)))) (List.getD aA (Int.toNat j9) default), IntKind.i64.wrap (j9 - (1 : Int))))))
  (some (.inr aA))

noncomputable def gQ (aA : List Int) (a1 : Int) (b2 : Int) (i7 : Int) (j8 : Int) (j9 : Int) : Option ((List Int × Int × Int) ⊕ ((List Int) ⊕ (Bool × (List Int)))) :=
  (lp (fun s => cO a1 b2 i7 j8 s.1 s.2) (aA, j9)).bind (fun rr => cN rr a1 b2 i7 j8)

noncomputable def fA (aA : List Int) (a1 : Int) (b2 : Int) (i7 : Int) (j8 : Int) : Option ((List Int × Int × Int) ⊕ ((List Int) ⊕ (Bool × (List Int)))) :=
  cond (decide (i7 = b2))
  (some (.inr (.inr (true, aA))))
  (cond (decide ((IntKind.i64.wrap (b2 - a1)) < (50 : Int)))
  (some (.inr (.inr (false, aA))))
  (bF (0 ≤ (IntKind.i64.wrap (i7 - (1 : Int))) ∧ (IntKind.i64.wrap (i7 - (1 : Int))) < ((List.length aA : Nat) : Int)) <|
  bF (0 ≤ i7 ∧ i7 < ((List.length aA : Nat) : Int)) <|
  bF (0 ≤ i7 ∧ i7 < ((List.length aA : Nat) : Int)) <|
  bF (0 ≤ (IntKind.i64.wrap (i7 - (1 : Int))) ∧ (IntKind.i64.wrap (i7 - (1 : Int))) < ((List.length aA : Nat) : Int)) <|
  cond (decide ((2 : Int) ≤ (IntKind.i64.wrap (i7 - a1))))
  (gQ (List.set (List.set aA (Int.toNat i7) (List.getD aA (Int.toNat (IntKind.i64.wrap (i7 - (1 : Int)))) default)) (Int.toNat (IntKind.i64.wrap (i7 - (1 : Int)))) (List.getD aA (Int.toNat i7) default)) a1 b2 i7 j8 (IntKind.i64.wrap (i7 - (1 : Int))))
  (cN (List.set (List.set aA (Int.toNat i7) (List.getD aA (Int.toNat (IntKind.i64.wrap (i7 - (1 : Int)))) default)) (Int.toNat (IntKind.i64.wrap (i7 - (1 : Int)))) (List.getD aA (Int.toNat i7) default)) a1 b2 i7 j8)))

noncomputable def cZ (a1 : Int) (b2 : Int) (j8 : Int) (aA : List Int) (i7 : Int) : Option ((List Int × Int) ⊕ ((List Int × Int))) :=
  bF ((((decide (i7 < b2))) = true → 0 ≤ i7 ∧ i7 < ((List.length aA : Nat) : Int))) <|
  bF ((((decide (i7 < b2))) = true → 0 ≤ (IntKind.i64.wrap (i7 - (1 : Int))) ∧ (IntKind.i64.wrap (i7 - (1 : Int))) < ((List.length aA : Nat) : Int))) <|
  (cT (decide (i7 < b2)) (dU (List.getD aA (Int.toNat i7) default) (List.getD aA (Int.toNat (IntKind.i64.wrap (i7 - (1 : Int)))) default))).bind fun x34 =>
  cond ((decide (i7 < b2)) && (!x34))
  (some (.inl (aA, IntKind.i64.wrap (i7 + (1 : Int)))))
  (some (.inr (aA, i7)))

noncomputable def dN (aA : List Int) (a1 : Int) (b2 : Int) (i7 : Int) (j8 : Int) : Option ((List Int × Int × Int) ⊕ ((List Int) ⊕ (Bool × (List Int)))) :=
  (lp (fun s => cZ a1 b2 j8 s.1 s.2) (aA, i7)).bind (fun rr => fA rr.1 a1 b2 rr.2 j8)

noncomputable def cD (a1 : Int) (b2 : Int) (aA : List Int) (i7 : Int) (j8 : Int) : Option ((List Int × Int × Int) ⊕ ((List Int) ⊕ (Bool × (List Int)))) :=
  cond (decide (j8 < (5 : Int)))
  (dN aA a1 b2 i7 j8)
  (some (.inr (.inl aA)))

noncomputable def gS (aA : List Int) (a1 : Int) (b2 : Int) (i7 : Int) (j8 : Int) : Option (Bool × List Int) :=
  (lp (fun s => cD a1 b2 s.1 s.2.1 s.2.2) (aA, i7, j8)).bind (Sum.elim (fun rr => fB rr) (fun rr => some (rr.1, rr.2)))

noncomputable def fH (aA : (List Int)) (a1 : Int) (b2 : Int) : Option (Bool × List Int) :=
  gS aA a1 b2 (IntKind.i64.wrap (a1 + (1 : Int))) (0 : Int)

noncomputable def jF (aA : List Int) (i9 : Int) : Option (Int × List Int) :=
  some (i9, aA)

noncomputable def eD (aA : List Int) (a1 : Int) (i9 : Int) (j10 : Int) : Option ((List Int × Int × Int) ⊕ ((List Int × Int))) :=
  cond (decide (j10 < i9))
  (some (.inr (aA, i9)))
  (bF (0 ≤ j10 ∧ j10 < ((List.length aA : Nat) : Int)) <|
  bF (0 ≤ i9 ∧ i9 < ((List.length aA : Nat) : Int)) <|
  bF (0 ≤ i9 ∧ i9 < ((List.length aA : Nat) : Int)) <|
  bF (0 ≤ j10 ∧ j10 < ((List.length aA : Nat) : Int)) <|
  some (.inl (List.set (List.set aA (Int.toNat i9) (List.getD aA (Int.toNat j10) default)) (Int.toNat j10) (List.getD aA (Int.toNat i9) default), IntKind.i64.wrap (i9 + (1 : Int)), IntKind.i64.wrap (j10 - (1 : Int)))))

noncomputable def eC (a1 : Int) (i9 : Int) (aA : List Int) (j10 : Int) : Option ((List Int × Int) ⊕ ((List Int × Int))) :=
  bF ((((decide (i9 ≤ j10))) = true → 0 ≤ a1 ∧ a1 < ((List.length aA : Nat) : Int))) <|
  bF ((((decide (i9 ≤ j10))) = true → 0 ≤ j10 ∧ j10 < ((List.length aA : Nat) : Int))) <|
  (cT (decide (i9 ≤ j10)) (dU (List.getD aA (Int.toNat a1) default) (List.getD aA (Int.toNat j10) default))).bind fun x12 =>
  cond ((decide (i9 ≤ j10)) && x12)
  (some (.inl (aA, IntKind.i64.wrap (j10 - (1 : Int)))))
  (some (.inr (aA, j10)))

noncomputable def jI (aA : List Int) (a1 : Int) (i9 : Int) (j10 : Int) : Option ((List Int × Int × Int) ⊕ ((List Int × Int))) :=
  (lp (fun s => eC a1 i9 s.1 s.2) (aA, j10)).bind (fun rr => eD rr.1 a1 i9 rr.2)

noncomputable def gJ (aA : List Int) (a1 : Int) (i9 : Int) (j10 : Int) : Option ((List Int × Int × Int) ⊕ ((List Int × Int))) :=
  jI aA a1 i9 j10

noncomputable def eE (a1 : Int) (j10 : Int) (aA : List Int) (i9 : Int) : Option ((List Int × Int) ⊕ ((List Int × Int))) :=
  bF ((((decide (i9 ≤ j10))) = true → 0 ≤ a1 ∧ a1 < ((List.length aA : Nat) : Int))) <|
  bF ((((decide (i9 ≤ j10))) = true → 0 ≤ i9 ∧ i9 < ((List.length aA : Nat) : Int))) <|
  (cT (decide (i9 ≤ j10)) (dU (List.getD aA (Int.toNat a1) default) (List.getD aA (Int.toNat i9) default))).bind fun x18 =>
  cond ((decide (i9 ≤ j10)) && (!x18))
  (some (.inl (aA, IntKind.i64.wrap (i9 + (1 : Int)))))
  (some (.inr (aA, i9)))

noncomputable def jK (aA : List Int) (a1 : Int) (i9 : Int) (j10 : Int) : Option ((List Int × Int × Int) ⊕ ((List Int × Int))) :=
  (lp (fun s => eE a1 j10 s.1 s.2) (aA, i9)).bind (fun rr => gJ rr.1 a1 rr.2 j10)

noncomputable def dF (a1 : Int) (aA : List Int) (i9 : Int) (j10 : Int) : Option ((List Int × Int × Int) ⊕ ((List Int × Int))) :=
  jK aA a1 i9 j10

noncomputable def jJ (aA : List Int) (a1 : Int) (i9 : Int) (j10 : Int) : Option (Int × List Int) :=
  (lp (fun s => dF a1 s.1 s.2.1 s.2.2) (aA, i9, j10)).bind (fun rr => jF rr.1 rr.2)

noncomputable def fK (aA : (List Int)) (a1 : Int) (b2 : Int) (cQ : Int) : Option (Int × List Int) :=
  bF (0 ≤ cQ ∧ cQ < ((List.length aA : Nat) : Int)) <|
  bF (0 ≤ a1 ∧ a1 < ((List.length aA : Nat) : Int)) <|
  bF (0 ≤ a1 ∧ a1 < ((List.length aA : Nat) : Int)) <|
  bF (0 ≤ cQ ∧ cQ < ((List.length aA : Nat) : Int)) <|
  jJ (List.set (List.set aA (Int.toNat a1) (List.getD aA (Int.toNat cQ) default)) (Int.toNat cQ) (List.getD aA (Int.toNat a1) default)) a1 (IntKind.i64.wrap (a1 + (1 : Int))) (IntKind.i64.wrap (b2 - (1 : Int)))

noncomputable def iY (aA : List Int) (a1 : Int) (j11 : Int) : Option ((Int × Bool) × List Int) :=
  bF (0 ≤ a1 ∧ a1 < ((List.length aA : Nat) : Int)) <|
  bF (0 ≤ j11 ∧ j11 < ((List.length aA : Nat) : Int)) <|
  bF (0 ≤ j11 ∧ j11 < ((List.length aA : Nat) : Int)) <|
  bF (0 ≤ a1 ∧ a1 < ((List.length aA : Nat) : Int)) <|
  some ((j11, false), (List.set (List.set aA (Int.toNat j11) (List.getD aA (Int.toNat a1) default)) (Int.toNat a1) (List.getD aA (Int.toNat j11) default)))

noncomputable def fF (aA : List Int) (a1 : Int) (i10 : Int) (j11 : Int) : Option ((List Int × Int × Int) ⊕ ((List Int × Int))) :=
  cond (decide (j11 < i10))
  (some (.inr (aA, j11)))
  (bF (0 ≤ j11 ∧ j11 < ((List.length aA : Nat) : Int)) <|
  bF (0 ≤ i10 ∧ i10 < ((List.length aA : Nat) : Int)) <|
  bF (0 ≤ i10 ∧ i10 < ((List.length aA : Nat) : Int)) <|
  bF (0 ≤ j11 ∧ j11 < ((List.length aA : Nat) : Int)) <|
  some (.inl (List.set (List.set aA (Int.toNat i10) (List.getD aA (Int.toNat j11) default)) (Int.toNat j11) (List.getD aA (Int.toNat i10) default), IntKind.i64.wrap (i10 + (1 : Int)), IntKind.i64.wrap (j11 - (1 : Int)))))

noncomputable def fD (a1 : Int) (i10 : Int) (aA : List Int) (j11 : Int) : Option ((List Int × Int) ⊕ ((List Int × Int))) :=
  bF ((((decide (i10 ≤ j11))) = true → 0 ≤ j11 ∧ j11 < ((List.length aA : Nat) : Int))) <|
  bF ((((decide (i10 ≤ j11))) = true → 0 ≤ a1 ∧ a1 < ((List.length aA : Nat) : Int))) <|
  (cT (decide (i10 ≤ j11)) (dU (List.getD aA (Int.toNat j11) default) (List.getD aA (Int.toNat a1) default))).bind fun x25 =>
  cond ((decide (i10 ≤ j11)) && (!x25))
  (some (.inl (aA, IntKind.i64.wrap (j11 - (1 : Int)))))
  (some (.inr (aA, j11)))

noncomputable def kP (aA : List Int) (a1 : Int) (i10 : Int) (j11 : Int) : Option ((List Int × Int × Int) ⊕ ((List Int × Int))) :=
  (lp (fun s => fD a1 i10 s.1 s.2) (aA, j11)).bind (fun rr => fF rr.1 a1 i10 rr.2)

noncomputable def iX (aA : List Int) (a1 : Int) (i10 : Int) (j11 : Int) : Option ((List Int × Int × Int) ⊕ ((List Int × Int))) :=
  kP aA a1 i10 j11

noncomputable def fI (a1 : Int) (j11 : Int) (aA : List Int) (i10 : Int) : Option ((List Int × Int) ⊕ ((List Int × Int))) :=
  bF ((((decide (i10 ≤ j11))) = true → 0 ≤ i10 ∧ i10 < ((List.length aA : Nat) : Int))) <|
  bF ((((decide (i10 ≤ j11))) = true → 0 ≤ a1 ∧ a1 < ((List.length aA : Nat) : Int))) <|
  (cT (decide (i10 ≤ j11)) (dU (List.getD aA (Int.toNat i10) default) (List.getD aA (Int.toNat a1) default))).bind fun x31 =>
  cond ((decide (i10 ≤ j11)) && x31)
  (some (.inl (aA, IntKind.i64.wrap (i10 + (1 : Int)))))
  (some (.inr (aA, i10)))

noncomputable def kT (aA : List Int) (a1 : Int) (i10 : Int) (j11 : Int) : Option ((List Int × Int × Int) ⊕ ((List Int × Int))) :=
  (lp (fun s => fI a1 j11 s.1 s.2) (aA, i10)).bind (fun rr => iX rr.1 a1 rr.2 j11)

noncomputable def dX (a1 : Int) (aA : List Int) (i10 : Int) (j11 : Int) : Option ((List Int × Int × Int) ⊕ ((List Int × Int))) :=
  kT aA a1 i10 j11

noncomputable def kR (aA : List Int) (a1 : Int) (i10 : Int) (j11 : Int) : Option ((Int × Bool) × List Int) :=
  (lp (fun s => dX a1 s.1 s.2.1 s.2.2) (aA, i10, j11)).bind (fun rr => iY rr.1 a1 rr.2)

noncomputable def fE (aA : List Int) (a1 : Int) (i10 : Int) (j11 : Int) : Option ((Int × Bool) × List Int) :=
  cond (decide (j11 < i10))
  (bF (0 ≤ a1 ∧ a1 < ((List.length aA : Nat) : Int)) <|
  bF (0 ≤ j11 ∧ j11 < ((List.length aA : Nat) : Int)) <|
  bF (0 ≤ j11 ∧ j11 < ((List.length aA : Nat) : Int)) <|
  bF (0 ≤ a1 ∧ a1 < ((List.length aA : Nat) : Int)) <|
  some ((j11, true), (List.set (List.set aA (Int.toNat j11) (List.getD aA (Int.toNat a1) default)) (Int.toNat a1) (List.getD aA (Int.toNat j11) default))))
  (bF (0 ≤ j11 ∧ j11 < ((List.length aA : Nat) : Int)) <|
  bF (0 ≤ i10 ∧ i10 < ((List.length aA : Nat) : Int)) <|
  bF (0 ≤ i10 ∧ i10 < ((List.length aA : Nat) : Int)) <|
  bF (0 ≤ j11 ∧ j11 < ((List.length aA : Nat) : Int)) <|
  kR (List.set (List.set aA (Int.toNat i10) (List.getD aA (Int.toNat j11) default)) (Int.toNat j11) (List.getD aA (Int.toNat i10) default)) a1 (IntKind.i64.wrap (i10 + (1 : Int))) (IntKind.i64.wrap (j11 - (1 : Int))))

noncomputable def fG (a1 : Int) (i10 : Int) (aA : List Int) (j11 : Int) : Option ((List Int × Int) ⊕ ((List Int × Int))) :=
  bF ((((decide (i10 ≤ j11))) = true → 0 ≤ j11 ∧ j11 < ((List.length aA : Nat) : Int))) <|
  bF ((((decide (i10 ≤ j11))) = true → 0 ≤ a1 ∧ a1 < ((List.length aA : Nat) : Int))) <|
  (cT (decide (i10 ≤ j11)) (dU (List.getD aA (Int.toNat j11) default) (List.getD aA (Int.toNat a1) default))).bind fun x37 =>
  cond ((decide (i10 ≤ j11)) && (!x37))
  (some (.inl (aA, IntKind.i64.wrap (j11 - (1 : Int)))))
  (some (.inr (aA, j11)))

noncomputable def kQ (aA : List Int) (a1 : Int) (i10 : Int) (j11 : Int) : Option ((Int × Bool) × List Int) :=
  (lp (fun s => fG a1 i10 s.1 s.2) (aA, j11)).bind (fun rr => fE rr.1 a1 i10 rr.2)

noncomputable def iV (aA : List Int) (a1 : Int) (i10 : Int) (j11 : Int) : Option ((Int × Bool) × List Int) :=
  kQ aA a1 i10 j11

noncomputable def eZ (a1 : Int) (j11 : Int) (aA : List Int) (i10 : Int) : Option ((List Int × Int) ⊕ ((List Int × Int))) :=
  bF ((((decide (i10 ≤ j11))) = true → 0 ≤ i10 ∧ i10 < ((List.length aA : Nat) : Int))) <|
  bF ((((decide (i10 ≤ j11))) = true → 0 ≤ a1 ∧ a1 < ((List.length aA : Nat) : Int))) <|
  (cT (decide (i10 ≤ j11)) (dU (List.getD aA (Int.toNat i10) default) (List.getD aA (Int.toNat a1) default))).bind fun x43 =>
  cond ((decide (i10 ≤ j11)) && x43)
  (some (.inl (aA, IntKind.i64.wrap (i10 + (1 : Int)))))
  (some (.inr (aA, i10)))

noncomputable def fZ (aA : List Int) (a1 : Int) (i10 : Int) (j11 : Int) : Option ((Int × Bool) × List Int) :=
  (lp (fun s => eZ a1 j11 s.1 s.2) (aA, i10)).bind (fun rr => iV rr.1 a1 rr.2 j11)

noncomputable def gX (aA : (List Int)) (a1 : Int) (b2 : Int) (cQ : Int) : Option ((Int × Bool) × List Int) :=
  bF (0 ≤ cQ ∧ cQ < ((List.length aA : Nat) : Int)) <|
  bF (0 ≤ a1 ∧ a1 < ((List.length aA : Nat) : Int)) <|
  bF (0 ≤ a1 ∧ a1 < ((List.length aA : Nat) : Int)) <|
  bF (0 ≤ cQ ∧ cQ < ((List.length aA : Nat) : Int)) <|
  fZ (List.set (List.set aA (Int.toNat a1) (List.getD aA (Int.toNat cQ) default)) (Int.toNat cQ) (List.getD aA (Int.toNat a1) default)) a1 (IntKind.i64.wrap (a1 + (1 : Int))) (IntKind.i64.wrap (b2 - (1 : Int)))

noncomputable def iE (rec : (List Int) → Int → Int → Int → Option (List Int)) (aA : List Int) (a1 : Int) (b2 : Int) (cG : Int) (cC : Bool) (bW : Bool) (eH : Int) (gF : Int) : Option ((List Int × Int × Int × Int × Bool × Bool) ⊕ ((List Int))) :=
  bF ((((decide ((0 : Int) < a1))) = true → 0 ≤ (IntKind.i64.wrap (a1 - (1 : Int))) ∧ (IntKind.i64.wrap (a1 - (1 : Int))) < ((List.length aA : Nat) : Int))) <|
  bF ((((decide ((0 : Int) < a1))) = true → 0 ≤ gF ∧ gF < ((List.length aA : Nat) : Int))) <|
  (cT (decide ((0 : Int) < a1)) (dU (List.getD aA (Int.toNat (IntKind.i64.wrap (a1 - (1 : Int)))) default) (List.getD aA (Int.toNat gF) default))).bind fun x16 =>
  cond ((decide ((0 : Int) < a1)) && (!x16))
  ((fK aA a1 b2 gF).bind fun x20 =>
  some (.inl (x20.2, x20.1, b2, cG, cC, bW)))
  ((gX aA a1 b2 gF).bind fun x23 =>
  bF ((8 : Int) ≠ 0) <|
  cond (decide ((IntKind.i64.wrap (x23.1.1 - a1)) < (IntKind.i64.wrap (b2 - x23.1.1))))
  ((rec x23.2 a1 x23.1.1 cG).bind fun x28 =>
  some (.inl (x28, IntKind.i64.wrap (x23.1.1 + (1 : Int)), b2, cG, decide ((IntKind.i64.wrap (Int.tdiv eH (8 : Int))) ≤ (IntKind.i64.wrap (x23.1.1 - a1))), x23.1.2)))
  ((rec x23.2 (IntKind.i64.wrap (x23.1.1 + (1 : Int))) b2 cG).bind fun x31 =>
  some (.inl (x31, a1, x23.1.1, cG, decide ((IntKind.i64.wrap (Int.tdiv eH (8 : Int))) ≤ (IntKind.i64.wrap (b2 - x23.1.1))), x23.1.2))))

noncomputable def iG (rec : (List Int) → Int → Int → Int → Option (List Int)) (aA : List Int) (a1 : Int) (b2 : Int) (cG : Int) (cC : Bool) (bW : Bool) (eH : Int) (gF : Int) (EU : Int) : Option ((List Int × Int × Int × Int × Bool × Bool) ⊕ ((List Int))) :=
  cond ((cC && bW) && (decide (EU = (1 : Int))))
  ((fH aA a1 b2).bind fun x35 =>
  cond x35.1
  (some (.inr x35.2))
  (iE rec x35.2 a1 b2 cG cC bW eH gF))
  (iE rec aA a1 b2 cG cC bW eH gF)

noncomputable def iH (rec : (List Int) → Int → Int → Int → Option (List Int)) (aA : List Int) (a1 : Int) (b2 : Int) (cG : Int) (cC : Bool) (bW : Bool) (eH : Int) : Option ((List Int × Int × Int × Int × Bool × Bool) ⊕ ((List Int))) :=
  (iM aA a1 b2).bind fun x9 =>
  cond (decide (x9.2 = (2 : Int)))
  ((iK aA a1 b2).bind fun x40 =>
  iG rec x40 a1 b2 cG cC bW eH (IntKind.i64.wrap ((IntKind.i64.wrap (b2 - (1 : Int))) - (IntKind.i64.wrap (x9.1 - a1)))) (1 : Int))
  (iG rec aA a1 b2 cG cC bW eH x9.1 x9.2)

noncomputable def eW (rec : (List Int) → Int → Int → Int → Option (List Int))  (aA : List Int) (a1 : Int) (b2 : Int) (cG : Int) (cC : Bool) (bW : Bool) : Option ((List Int × Int × Int × Int × Bool × Bool) ⊕ ((List Int))) :=
  cond (decide ((IntKind.i64.wrap (b2 - a1)) ≤ (12 : Int)))
  ((iA aA a1 b2).bind fun x2 =>
  some (.inr x2))
  (cond (decide (cG = (0 : Int)))
  ((jV aA a1 b2).bind fun x6 =>
  some (.inr x6))
  (cond (!cC)
  ((hY aA a1 b2).bind fun x44 =>
  iH rec x44 a1 b2 (IntKind.i64.wrap (cG - (1 : Int))) cC bW (IntKind.i64.wrap (b2 - a1)))
  (iH rec aA a1 b2 cG cC bW (IntKind.i64.wrap (b2 - a1)))))

noncomputable def lO (rec : (List Int) → Int → Int → Int → Option (List Int)) (aA : List Int) (a1 : Int) (b2 : Int) (cG : Int) (cC : Bool) (bW : Bool) : Option (List Int) :=
  (lp (fun s => eW rec s.1 s.2.1 s.2.2.1 s.2.2.2.1 s.2.2.2.2.1 s.2.2.2.2.2) (aA, a1, b2, cG, cC, bW)).bind (fun rr => some rr)

noncomputable def gG (rec : (List Int) → Int → Int → Int → Option (List Int)) (aA : (List Int)) (a1 : Int) (b2 : Int) (cG : Int) : Option (List Int) :=
  lO rec aA a1 b2 cG true true

noncomputable def dV  : Nat → (List Int) → Int → Int → Int → Option (List Int)
  | 0 => fun _ _ _ _ => none
  | k + 1 => gG (dV k)

noncomputable def kA (aA : (List Int)) (a1 : Int) (b2 : Int) (cG : Int) : Option (List Int) := TG (fun k => dV k aA a1 b2 cG)

noncomputable def kW (x0 : (List Int)) : Option (List Int) :=
  (kU (IntKind.u64.wrap ((List.length x0 : Nat) : Int))).bind fun x1 =>
  (kA x0 (0 : Int) ((List.length x0 : Nat) : Int) x1).bind fun x4 =>
  some x4

noncomputable def AM (f0 : (List aH)) : Option ((List aH)) :=
  some f0

noncomputable def nN {σ : Type} (cW : σ → aT → Option (σ × Bool)) (sg : σ) (n3 : Int) (kI : Int) : Option σ :=
  cond (decide ((0 : Int) < n3))
  ((cW sg (aT.mk kI (1125899906842624 : Int))).bind fun x2 =>
  some x2.1)
  (some sg)

noncomputable def mL {σ : Type} (cW : σ → aT → Option (σ × Bool)) (sg : σ) (n3 : Int) (kI : Int) (j6 : aH) (t7 : (List aH)) (t8 : Int) (t9 : Int) : Option ((σ × Int × Int × Int) ⊕ ((σ × Int × Int) ⊕ σ)) :=
  (IJ (decide ((IntKind.i64.wrap (n3 + j6.Net)) = (0 : Int))) sg (cW sg (aT.mk kI j6.At))).bind fun (x10, x11) =>
  cond ((decide ((IntKind.i64.wrap (n3 + j6.Net)) = (0 : Int))) && (!x11))
  (some (.inr (.inr x10)))
  (some (.inl (x10, IntKind.i64.wrap (n3 + j6.Net), kI, IntKind.i64.wrap (t9 + (1 : Int)))))

noncomputable def gO {σ : Type} (cW : σ → aT → Option (σ × Bool)) (t7 : (List aH)) (t8 : Int) (sg : σ) (n3 : Int) (kI : Int) (t9 : Int) : Option ((σ × Int × Int × Int) ⊕ ((σ × Int × Int) ⊕ σ)) :=
  cond (decide (t9 < t8))
  (bF (0 ≤ t9 ∧ t9 < ((List.length t7 : Nat) : Int)) <|
  cond (decide (n3 = (0 : Int)))
  (mL cW sg n3 ((List.getD t7 (Int.toNat t9) default).At) (List.getD t7 (Int.toNat t9) default) t7 t8 t9)
  (mL cW sg n3 kI (List.getD t7 (Int.toNat t9) default) t7 t8 t9))
  (some (.inr (.inl (sg, n3, kI))))

noncomputable def sQ {σ : Type} (cW : σ → aT → Option (σ × Bool)) (sg : σ) (n3 : Int) (kI : Int) (t7 : (List aH)) (t8 : Int) (t9 : Int) : Option σ :=
  (lp (fun s => gO cW t7 t8 s.1 s.2.1 s.2.2.1 s.2.2.2) (sg, n3, kI, t9)).bind (Sum.elim (fun rr => nN cW rr.1 rr.2.1 rr.2.2) (fun rr => some rr))

noncomputable def qV {σ : Type} (cW : σ → aT → Option (σ × Bool)) (t1 : (List aH)) (sg0 : σ) : Option σ :=
  sQ cW sg0 (0 : Int) (0 : Int) t1 ((List.length t1 : Nat) : Int) (0 : Int)

noncomputable def wP (v5 : Int) : Option Int :=
  some v5

noncomputable def nW (t1 : Int) (t11 : (List aH)) (t12 : Int) (v5 : Int) (t13 : Int) : Option ((Int × Int) ⊕ (Int)) :=
  cond (decide (t13 < t12))
  (bF (0 ≤ t13 ∧ t13 < ((List.length t11 : Nat) : Int)) <|
  cond (decide (t1 < ((List.getD t11 (Int.toNat t13) default).At)))
  (some (.inr v5))
  (some (.inl (IntKind.i64.wrap (v5 + ((List.getD t11 (Int.toNat t13) default).Net)), IntKind.i64.wrap (t13 + (1 : Int))))))
  (some (.inr v5))

noncomputable def BN (t1 : Int) (v5 : Int) (t11 : (List aH)) (t12 : Int) (t13 : Int) : Option Int :=
  (lp (fun s => nW t1 t11 t12 s.1 s.2) (v5, t13)).bind (fun rr => wP rr)

noncomputable def BB (f0 : (List aH)) (t1 : Int) : Option Int :=
  (oZ f0).bind fun x1 =>
  cond (!x1)
  (some (0 : Int))
  (BN t1 (0 : Int) f0 ((List.length f0 : Nat) : Int) (0 : Int))

noncomputable def wS (n5 : Int) : Option Int :=
  some n5

noncomputable def pJ (w3 : aT) (n5 : Int) (t12 : (List aH)) (t13 : Int) (t14 : Int) : Option ((Int × Int) ⊕ (Int)) :=
  some (.inl (n5, IntKind.i64.wrap (t14 + (1 : Int))))

noncomputable def pH (w3 : aT) (t12 : (List aH)) (t13 : Int) (n5 : Int) (t14 : Int) : Option ((Int × Int) ⊕ (Int)) :=
  cond (decide (t14 < t13))
  (bF (0 ≤ t14 ∧ t14 < ((List.length t12 : Nat) : Int)) <|
  cond ((decide (w3.From < ((List.getD t12 (Int.toNat t14) default).At))) && (decide (((List.getD t12 (Int.toNat t14) default).At) < w3.To)))
  (pJ w3 (IntKind.i64.wrap (n5 + (if (0 : Int) > ((List.getD t12 (Int.toNat t14) default).Net) then (0 : Int) else ((List.getD t12 (Int.toNat t14) default).Net)))) t12 t13 t14)
  (pJ w3 n5 t12 t13 t14))
  (some (.inr n5))

noncomputable def wN (w3 : aT) (n5 : Int) (t12 : (List aH)) (t13 : Int) (t14 : Int) : Option Int :=
  (lp (fun s => pH w3 t12 t13 s.1 s.2) (n5, t14)).bind (fun rr => wS rr)

noncomputable def tN (f0 : (List aH)) (w1 : aT) : Option Int :=
  (BB f0 w1.From).bind fun x1 =>
  wN w1 x1 f0 ((List.length f0 : Nat) : Int) (0 : Int)

noncomputable def shP (a b : Nat) (p : aP) : List (Nat × Nat × List V) := [(a, 3, [(.agg [(eI p.Span.From), (eI p.Span.To), (.msl 2 b 0 (List.length p.Rows))])]), (b, 2, List.map cE p.Rows)]

noncomputable def shF (a _b : Nat) (p : aP) : List (Nat × Nat × List V) := [(a, 3, [(aS p)])]

noncomputable def oS (r : List aC) (f : List aH) (p : aP) : Option aP :=
  bF ((!(decide ((wR ((lN p.Rows) - (1 : Int))) < (0 : Int)))) = true → 0 ≤ (wR ((lN p.Rows) - (1 : Int))) ∧ (wR ((lN p.Rows) - (1 : Int))) < (lN p.Rows)) <|
  (cT (!(decide ((wR ((lN p.Rows) - (1 : Int))) < (0 : Int)))) (sN ((gD p.Rows (wR ((lN p.Rows) - (1 : Int)))).Row) r)).bind fun x1 =>
  cond ((decide ((wR ((lN p.Rows) - (1 : Int))) < (0 : Int))) || (!x1))
  ((wH r).bind fun x2 =>
  (tN f p.Span).bind fun x3 =>
  bF ((List.length p.Rows + List.length ([cP.mk x2 x3])) * 32 ≤ 140737488355328 ∧ List.length p.Rows + List.length ([cP.mk x2 x3]) ≤ 9223372036854775807) <|
  some (aP.mk p.Span (p.Rows ++ [cP.mk x2 x3])))
  (some p)

noncomputable def nG (r : List aC) (f : List aH) (size : Int) (b : Bool) (m : List (Int × aP)) (t : Int) : Option ((Bool × List (Int × aP)) ⊕ (Bool × List (Int × aP))) :=
  match fW m t with
  | none => cond (decide ((lN m) = (1024 : Int)))
    (some (.inr (false, m)))
    ((oS r f (aP.mk (aT.mk t (if (1125899906842624 : Int) < (wR (t + size)) then (1125899906842624 : Int) else (wR (t + size)))) [])).bind fun p => some (.inl (b, iC m t p)))
  | some p => (oS r f p).bind fun p => some (.inl (b, iC m t p))

noncomputable def oP (r : List aC) (f : List aH) (size hop frm front : Int) (b : Bool) (m : List (Int × aP)) (s : aT) : Option ((Bool × List (Int × aP)) ⊕ (Bool × List (Int × aP))) :=
  (rL size hop s frm front).bind fun x =>
  (nU (fun st t => rnd (fun (q : Bool × List (Int × aP)) => nG r f size q.1 q.2 t) st) x.1 x.2.1 x.2.2.1 x.2.2.2.1 x.2.2.2.2 (.inl (b, m))).bind (Sum.elim (fun q => some (.inl q)) (fun q => some (.inr q)))

noncomputable def vY (m : List (Int × aP)) (r : List aC) (f : List aH) (size hop frm front : Int) : Option (Bool × List (Int × aP)) :=
  (AM f).bind fun x =>
  (qV (fun st s => rnd (fun (q : Bool × List (Int × aP)) => oP r f size hop frm front q.1 q.2 s) st) x (.inl (false, m))).bind (Sum.elim (fun q => some (true, q.2)) (fun q => some (q.1, q.2)))

noncomputable def mY (size hop frm front : Int) (t10 : List aP) (t11 : Int) (m : List (Int × aP)) (r : List aC) (f : List aH) : Option ((List aP × Int × List (Int × aP)) ⊕ (List aP × Int × List (Int × aP))) :=
  (vY m r f size hop frm front).bind fun x =>
  cond (!x.1)
  (some (.inr ([], (7 : Int), x.2)))
  (some (.inl (t10, t11, x.2)))

noncomputable def rU (m : List (Int × aP)) (b : List Int) (n : Int) (out : List aP) (i : Int) : Option ((List aP × Int) ⊕ (List aP)) :=
  cond (decide (i < n))
  (bF (0 ≤ i ∧ i < (lN b)) <|
  match fW m (gD b i) with
  | none => none
  | some p =>
    bF ((List.length out + List.length ([p])) * 40 ≤ 140737488355328 ∧ List.length out + List.length ([p]) ≤ 9223372036854775807) <|
    some (.inl (out ++ [p], wR (i + (1 : Int)))))
  (some (.inr out))

noncomputable def CL (m : List (Int × aP)) (b : List Int) : Option (List aP × Int) :=
  (kW b).bind fun b =>
  bF (0 ≤ (lN b) ∧ (40 : Int) * (lN b) ≤ 281474976710656 ∧ (lN b) ≤ 9223372036854775807) <|
  (lp (fun s => rU m b (lN b) s.1 s.2) (([] : List aP), (0 : Int))).bind fun out => some (out, (0 : Int))

noncomputable def sE (s : List Int) (k : Int) : Option (List Int) :=
  bF ((List.length s + List.length ([k])) * 8 ≤ 140737488355328 ∧ List.length s + List.length ([k]) ≤ 9223372036854775807) <|
  some (s ++ [k])

noncomputable def vU (m : List (Int × aP)) : Option (List aP × Int) :=
  bF (0 ≤ (lN m) ∧ (8 : Int) * (lN m) ≤ 281474976710656 ∧ (lN m) ≤ 9223372036854775807) <|
  vX (m.map (·.1)) (fun q => (cS sE ([] : List Int) q).bind (CL m))

noncomputable def DC (l : List aR) (size hop frm front : Int) (t10 : List aP) (t11 : Int) : Option (List aP × Int) :=
  (xX l).bind fun x =>
  (oW (fun st r f => rnd (fun (q : List aP × Int × List (Int × aP)) => mY size hop frm front q.1 q.2.1 q.2.2 r f) st) x (.inl (t10, t11, []))).bind (Sum.elim (fun q => vU q.2.2) (fun q => some (q.1, q.2.1)))

noncomputable def uI (l0 : (List aR)) (bT : Int) (hop2 : Int) (bN : Int) (bI : Int) : Option ((List aP) × Int) :=
  (sI bT hop2).bind fun x3 =>
  (cT (!(!x3)) (wU l0)).bind fun x6 =>
  cond ((!x3) || (!x6))
  (some ([], (2 : Int)))
  ((vN l0).bind fun x10 =>
  cond (!x10)
  (some ([], (20 : Int)))
  ((oC bN).bind fun x14 =>
  (cT (!(!x14)) (oC bI)).bind fun x17 =>
  cond ((!x14) || (!x17))
  (some ([], (13 : Int)))
  (DC l0 bT hop2 bN bI ([]) 0)))

noncomputable def rW  : Option Bool :=
  (zL (10 : Int) (5 : Int) (12 : Int)).bind fun x1 =>
  (vG (10 : Int) (5 : Int) (aT.mk (3 : Int) (7 : Int)) (0 : Int) (100 : Int)).bind fun x4 =>
  (uI ([aR.mk ([aC.mk (1 : Int) (1 : Int) ByteArray.empty]) (3 : Int) (1 : Int), aR.mk ([aC.mk (1 : Int) (1 : Int) ByteArray.empty]) (7 : Int) (-1 : Int)]) (10 : Int) (5 : Int) (0 : Int) (100 : Int)).bind fun x7 =>
  bF (((((((decide (x1.1 = (5 : Int))) && (decide (x1.2 = (0 : Int)))) && (decide (x4.2 = (0 : Int)))) && (decide (((List.length x4.1 : Nat) : Int) = (2 : Int))))) = true → 0 ≤ (1 : Int) ∧ (1 : Int) < ((List.length x4.1 : Nat) : Int))) <|
  bF ((((((((((decide (x1.1 = (5 : Int))) && (decide (x1.2 = (0 : Int)))) && (decide (x4.2 = (0 : Int)))) && (decide (((List.length x4.1 : Nat) : Int) = (2 : Int)))) && (decide ((List.getD x4.1 (Int.toNat (1 : Int)) default) = (5 : Int)))) && (decide (x7.2 = (0 : Int)))) && (decide (((List.length x7.1 : Nat) : Int) = (2 : Int))))) = true → 0 ≤ (1 : Int) ∧ (1 : Int) < ((List.length x7.1 : Nat) : Int))) <|
  bF (((((((((((decide (x1.1 = (5 : Int))) && (decide (x1.2 = (0 : Int)))) && (decide (x4.2 = (0 : Int)))) && (decide (((List.length x4.1 : Nat) : Int) = (2 : Int)))) && (decide ((List.getD x4.1 (Int.toNat (1 : Int)) default) = (5 : Int)))) && (decide (x7.2 = (0 : Int)))) && (decide (((List.length x7.1 : Nat) : Int) = (2 : Int)))) && ((decide ((((List.getD x7.1 (Int.toNat (1 : Int)) default).Span).From) = ((aT.mk (5 : Int) (15 : Int)).From))) && ((decide ((((List.getD x7.1 (Int.toNat (1 : Int)) default).Span).To) = ((aT.mk (5 : Int) (15 : Int)).To))) && true)))) = true → 0 ≤ (1 : Int) ∧ (1 : Int) < ((List.length x7.1 : Nat) : Int))) <|
  some (((((((((decide (x1.1 = (5 : Int))) && (decide (x1.2 = (0 : Int)))) && (decide (x4.2 = (0 : Int)))) && (decide (((List.length x4.1 : Nat) : Int) = (2 : Int)))) && (decide ((List.getD x4.1 (Int.toNat (1 : Int)) default) = (5 : Int)))) && (decide (x7.2 = (0 : Int)))) && (decide (((List.length x7.1 : Nat) : Int) = (2 : Int)))) && ((decide ((((List.getD x7.1 (Int.toNat (1 : Int)) default).Span).From) = ((aT.mk (5 : Int) (15 : Int)).From))) && ((decide ((((List.getD x7.1 (Int.toNat (1 : Int)) default).Span).To) = ((aT.mk (5 : Int) (15 : Int)).To))) && true))) && (decide (((List.length ((List.getD x7.1 (Int.toNat (1 : Int)) default).Rows) : Nat) : Int) = (1 : Int))))

noncomputable def qR (fX : List Int) : Option ((List Int) × Int) :=
  some (fX, (0 : Int))

noncomputable def mV (cH : Int) (hop1 : Int) (bN : Int) (bI : Int) (s7 : aT) (fX : List Int) (t14 : Int) : Option ((List Int × Int) ⊕ ((List Int) ⊕ ((List Int) × Int))) :=
  cond (decide ((1024 : Int) < ((List.length fX : Nat) : Int)))
  (some (.inr (.inr ([], (7 : Int)))))
  (some (.inl (fX, IntKind.i64.wrap (t14 + hop1))))

noncomputable def eV (cH : Int) (hop1 : Int) (bN : Int) (bI : Int) (s7 : aT) (fX : List Int) (t14 : Int) : Option ((List Int × Int) ⊕ ((List Int) ⊕ ((List Int) × Int))) :=
  cond (((decide (t14 < bI)) && (decide (t14 < s7.To))) && (decide (t14 < (1125899906842624 : Int))))
  ((cT (decide (bN ≤ t14)) (uE cH t14)).bind fun x21 =>
  cond ((decide (bN ≤ t14)) && (decide (s7.From < x21)))
  (bF ((List.length fX + List.length ([t14])) * 8 ≤ 140737488355328 ∧ List.length fX + List.length ([t14]) ≤ 9223372036854775807) <|
  mV cH hop1 bN bI s7 (fX ++ ([t14])) t14)
  (mV cH hop1 bN bI s7 fX t14))
  (some (.inr (.inl fX)))

noncomputable def uM (cH : Int) (hop1 : Int) (bN : Int) (bI : Int) (s7 : aT) (fX : List Int) (t14 : Int) : Option ((List Int) × Int) :=
  (lp (fun s => eV cH hop1 bN bI s7 s.1 s.2) (fX, t14)).bind (Sum.elim (fun rr => qR rr) (fun rr => some (rr.1, rr.2)))

noncomputable def oO (cH : Int) (hop1 : Int) (bN : Int) (bI : Int) (s7 : aT) (EC : Int) : Option ((List Int) × Int) :=
  bF (hop1 ≠ 0) <|
  uM cH hop1 bN bI s7 ([] : List Int) (IntKind.i64.wrap ((IntKind.i64.wrap (Int.tdiv EC hop1)) * hop1))

noncomputable def pI (cH : Int) (hop1 : Int) (s2 : aT) (bN : Int) (bI : Int) : Option ((List Int) × Int) :=
  (uJ cH hop1).bind fun x1 =>
  cond (!x1)
  (some ([], (2 : Int)))
  ((mC bN).bind fun x5 =>
  (cT (!(!x5)) (mC bI)).bind fun x8 =>
  cond ((!x5) || (!x8))
  (some ([], (13 : Int)))
  (cond (((decide (s2.From < (-1 : Int))) || (decide (s2.To ≤ s2.From))) || (decide ((1125899906842624 : Int) < s2.To)))
  (some ([], (14 : Int)))
  (cond (decide ((IntKind.i64.wrap (s2.From - cH)) < bN))
  (oO cH hop1 bN bI s2 bN)
  (oO cH hop1 bN bI s2 (IntKind.i64.wrap (s2.From - cH))))))

noncomputable def yX (n3 : Int) : Option Bool :=
  some (decide (n3 ≤ (60 : Int)))

noncomputable def nA (l0 : (List aR)) (n3 : Int) (i4 : Int) : Option ((Int) ⊕ (Unit ⊕ Bool)) :=
  cond ((decide (i4 < ((List.length l0 : Nat) : Int))) && (decide (n3 ≤ (60 : Int))))
  (bF (0 ≤ i4 ∧ i4 < ((List.length l0 : Nat) : Int)) <|
  cond (decide ((10 : Int) < ((List.getD l0 (Int.toNat i4) default).Net)))
  (some (.inr (.inr false)))
  (some (.inl (IntKind.i64.wrap (i4 + (1 : Int))))))
  (some (.inr (.inl ())))

noncomputable def yS (l0 : (List aR)) (n3 : Int) (i4 : Int) : Option Bool :=
  (lp (fun s => nA l0 n3 s) i4).bind (Sum.elim (fun rr => yX n3) (fun rr => some rr))

noncomputable def xN (l0 : (List aR)) : Option Bool :=
  yS l0 ((List.length l0 : Nat) : Int) (0 : Int)

noncomputable def rA (v0 : aC) : Option Bool :=
  cond (decide (v0.Kind = (1 : Int)))
  (some (oA v0.Text (⟨#[]⟩ : ByteArray)))
  (some (((decide (v0.Kind = (2 : Int))) && (decide (v0.Num = (0 : Int)))) && (decide (((ByteArray.size v0.Text : Nat) : Int) ≤ (64 : Int)))))

noncomputable def rN (r0 : (List aC)) : Option Bool :=
  some (decide (((List.length r0 : Nat) : Int) ≤ (8 : Int)))

noncomputable def pP (r0 : (List aC)) (i3 : Int) : Option ((Int) ⊕ (Unit ⊕ Bool)) :=
  cond ((decide (i3 < ((List.length r0 : Nat) : Int))) && (decide (i3 < (9 : Int))))
  (bF (0 ≤ i3 ∧ i3 < ((List.length r0 : Nat) : Int)) <|
  (rA (List.getD r0 (Int.toNat i3) default)).bind fun x3 =>
  cond (!x3)
  (some (.inr (.inr false)))
  (some (.inl (IntKind.i64.wrap (i3 + (1 : Int))))))
  (some (.inr (.inl ())))

noncomputable def yV (r0 : (List aC)) (i3 : Int) : Option Bool :=
  (lp (fun s => pP r0 s) i3).bind (Sum.elim (fun rr => rN r0) (fun rr => some rr))

noncomputable def rF (r0 : (List aC)) : Option Bool :=
  yV r0 (0 : Int)

noncomputable def vP  : Option Bool :=
  some true

noncomputable def mA (f0 : (List aH)) (i3 : Int) : Option ((Int) ⊕ (Unit ⊕ Bool)) :=
  cond (decide (i3 < ((List.length f0 : Nat) : Int)))
  (bF (0 ≤ i3 ∧ i3 < ((List.length f0 : Nat) : Int)) <|
  bF ((((!(decide (((List.getD f0 (Int.toNat i3) default).At) < (-1 : Int))))) = true → 0 ≤ i3 ∧ i3 < ((List.length f0 : Nat) : Int))) <|
  bF ((((!((decide (((List.getD f0 (Int.toNat i3) default).At) < (-1 : Int))) || (decide ((1125899906842624 : Int) ≤ ((List.getD f0 (Int.toNat i3) default).At)))))) = true → 0 ≤ i3 ∧ i3 < ((List.length f0 : Nat) : Int))) <|
  bF ((((!(((decide (((List.getD f0 (Int.toNat i3) default).At) < (-1 : Int))) || (decide ((1125899906842624 : Int) ≤ ((List.getD f0 (Int.toNat i3) default).At)))) || (decide (((List.getD f0 (Int.toNat i3) default).Net) = (0 : Int)))))) = true → 0 ≤ i3 ∧ i3 < ((List.length f0 : Nat) : Int))) <|
  bF ((((!((((decide (((List.getD f0 (Int.toNat i3) default).At) < (-1 : Int))) || (decide ((1125899906842624 : Int) ≤ ((List.getD f0 (Int.toNat i3) default).At)))) || (decide (((List.getD f0 (Int.toNat i3) default).Net) = (0 : Int)))) || (decide ((1048576 : Int) < ((List.getD f0 (Int.toNat i3) default).Net)))))) = true → 0 ≤ i3 ∧ i3 < ((List.length f0 : Nat) : Int))) <|
  cond (((((decide (((List.getD f0 (Int.toNat i3) default).At) < (-1 : Int))) || (decide ((1125899906842624 : Int) ≤ ((List.getD f0 (Int.toNat i3) default).At)))) || (decide (((List.getD f0 (Int.toNat i3) default).Net) = (0 : Int)))) || (decide ((1048576 : Int) < ((List.getD f0 (Int.toNat i3) default).Net)))) || (decide (((List.getD f0 (Int.toNat i3) default).Net) < (-1048576 : Int))))
  (some (.inr (.inr false)))
  (bF ((((decide ((0 : Int) < i3))) = true → 0 ≤ i3 ∧ i3 < ((List.length f0 : Nat) : Int))) <|
  bF ((((decide ((0 : Int) < i3))) = true → 0 ≤ (IntKind.i64.wrap (i3 - (1 : Int))) ∧ (IntKind.i64.wrap (i3 - (1 : Int))) < ((List.length f0 : Nat) : Int))) <|
  cond ((decide ((0 : Int) < i3)) && (decide (((List.getD f0 (Int.toNat i3) default).At) ≤ ((List.getD f0 (Int.toNat (IntKind.i64.wrap (i3 - (1 : Int)))) default).At))))
  (some (.inr (.inr false)))
  (some (.inl (IntKind.i64.wrap (i3 + (1 : Int)))))))
  (some (.inr (.inl ())))

noncomputable def yW (f0 : (List aH)) (i3 : Int) : Option Bool :=
  (lp (fun s => mA f0 s) i3).bind (Sum.elim (fun rr => vP ) (fun rr => some rr))

noncomputable def qZ (f0 : (List aH)) : Option Bool :=
  cond (decide ((1024 : Int) < ((List.length f0 : Nat) : Int)))
  (some false)
  (yW f0 (0 : Int))

noncomputable def pT (a2 : aC) (b3 : aC) : Option Int :=
  cond (!decide (((ByteArray.size a2.Text : Nat) : Int) = ((ByteArray.size b3.Text : Nat) : Int)))
  (cond (decide (((ByteArray.size a2.Text : Nat) : Int) < ((ByteArray.size b3.Text : Nat) : Int)))
  (some (-1 : Int))
  (some (1 : Int)))
  (some (0 : Int))

noncomputable def jA (a2 : aC) (b3 : aC) (i5 : Int) : Option ((Int) ⊕ (Unit ⊕ Int)) :=
  cond ((decide (i5 < ((ByteArray.size a2.Text : Nat) : Int))) && (decide (i5 < ((ByteArray.size b3.Text : Nat) : Int))))
  (bF (0 ≤ i5 ∧ i5 < ((ByteArray.size a2.Text : Nat) : Int)) <|
  bF (0 ≤ i5 ∧ i5 < ((ByteArray.size b3.Text : Nat) : Int)) <|
  cond (!decide ((bt a2.Text i5) = (bt b3.Text i5)))
  (bF (0 ≤ i5 ∧ i5 < ((ByteArray.size a2.Text : Nat) : Int)) <|
  bF (0 ≤ i5 ∧ i5 < ((ByteArray.size b3.Text : Nat) : Int)) <|
  cond (decide ((bt a2.Text i5) < (bt b3.Text i5)))
  (some (.inr (.inr (-1 : Int))))
  (some (.inr (.inr (1 : Int)))))
  (some (.inl (IntKind.i64.wrap (i5 + (1 : Int))))))
  (some (.inr (.inl ())))

noncomputable def sW (a2 : aC) (b3 : aC) (i5 : Int) : Option Int :=
  (lp (fun s => jA a2 b3 s) i5).bind (Sum.elim (fun rr => pT a2 b3) (fun rr => some rr))

noncomputable def qW (a0 : aC) (b1 : aC) : Option Int :=
  (rA a0).bind fun x1 =>
  (cT (!(!x1)) (rA b1)).bind fun x4 =>
  cond ((!x1) || (!x4))
  (some (0 : Int))
  (cond (!decide (a0.Kind = b1.Kind))
  (cond (decide (a0.Kind = (1 : Int)))
  (some (-1 : Int))
  (some (1 : Int)))
  (cond (!decide (a0.Num = b1.Num))
  (cond (decide (a0.Num < b1.Num))
  (some (-1 : Int))
  (some (1 : Int)))
  (sW a0 b1 (0 : Int))))

noncomputable def pV (a0 : (List aC)) (b1 : (List aC)) : Option Int :=
  cond (decide (((List.length a0 : Nat) : Int) < ((List.length b1 : Nat) : Int)))
  (some (-1 : Int))
  (cond (decide (((List.length b1 : Nat) : Int) < ((List.length a0 : Nat) : Int)))
  (some (1 : Int))
  (some (0 : Int)))

noncomputable def jD (a0 : (List aC)) (b1 : (List aC)) (i5 : Int) : Option ((Int) ⊕ (Unit ⊕ Int)) :=
  cond ((decide (i5 < ((List.length a0 : Nat) : Int))) && (decide (i5 < ((List.length b1 : Nat) : Int))))
  (bF (0 ≤ i5 ∧ i5 < ((List.length a0 : Nat) : Int)) <|
  bF (0 ≤ i5 ∧ i5 < ((List.length b1 : Nat) : Int)) <|
  (qW (List.getD a0 (Int.toNat i5) default) (List.getD b1 (Int.toNat i5) default)).bind fun x13 =>
  cond (!decide (x13 = (0 : Int)))
  (some (.inr (.inr x13)))
  (some (.inl (IntKind.i64.wrap (i5 + (1 : Int))))))
  (some (.inr (.inl ())))

noncomputable def sM (a0 : (List aC)) (b1 : (List aC)) (i5 : Int) : Option Int :=
  (lp (fun s => jD a0 b1 s) i5).bind (Sum.elim (fun rr => pV a0 b1) (fun rr => some rr))

noncomputable def oK (a0 : (List aC)) (b1 : (List aC)) : Option Int :=
  (rF a0).bind fun x1 =>
  (cT (!(!x1)) (rF b1)).bind fun x4 =>
  cond ((!x1) || (!x4))
  (some (0 : Int))
  (sM a0 b1 (0 : Int))

noncomputable def tS  : Option Bool :=
  some true

noncomputable def qN (a0 : (List aC)) (b1 : (List aC)) (i5 : Int) : Option ((Int) ⊕ (Unit ⊕ Bool)) :=
  cond (decide (i5 < ((List.length a0 : Nat) : Int)))
  (bF (0 ≤ i5 ∧ i5 < ((List.length a0 : Nat) : Int)) <|
  bF (0 ≤ i5 ∧ i5 < ((List.length b1 : Nat) : Int)) <|
  cond (!((decide (((List.getD a0 (Int.toNat i5) default).Kind) = ((List.getD b1 (Int.toNat i5) default).Kind))) && ((decide (((List.getD a0 (Int.toNat i5) default).Num) = ((List.getD b1 (Int.toNat i5) default).Num))) && ((oA ((List.getD a0 (Int.toNat i5) default).Text) ((List.getD b1 (Int.toNat i5) default).Text)) && true))))
  (some (.inr (.inr false)))
  (some (.inl (IntKind.i64.wrap (i5 + (1 : Int))))))
  (some (.inr (.inl ())))

noncomputable def yE (a0 : (List aC)) (b1 : (List aC)) (i5 : Int) : Option Bool :=
  (lp (fun s => qN a0 b1 s) i5).bind (Sum.elim (fun rr => tS ) (fun rr => some rr))

noncomputable def pR (a0 : (List aC)) (b1 : (List aC)) : Option Bool :=
  cond (!decide (((List.length a0 : Nat) : Int) = ((List.length b1 : Nat) : Int)))
  (some false)
  (yE a0 b1 (0 : Int))

noncomputable def xU (bP : List (List aC)) : Option (List (List aC)) :=
  some bP

noncomputable def tM (l0 : (List aR)) (bP : List (List aC)) (i4 : Int) : Option ((List (List aC) × Int) ⊕ ((List (List aC)))) :=
  some (.inl (bP, IntKind.i64.wrap (i4 + (1 : Int))))

noncomputable def tR (l0 : (List aR)) (bP : List (List aC)) (i4 : Int) (at5 : Int) : Option ((List (List aC) × Int) ⊕ ((List (List aC)))) :=
  bF ((((decide (at5 < ((List.length bP : Nat) : Int)))) = true → 0 ≤ at5 ∧ at5 < ((List.length bP : Nat) : Int))) <|
  bF ((((decide (at5 < ((List.length bP : Nat) : Int)))) = true → 0 ≤ i4 ∧ i4 < ((List.length l0 : Nat) : Int))) <|
  (cT (decide (at5 < ((List.length bP : Nat) : Int))) (pR (List.getD bP (Int.toNat at5) default) ((List.getD l0 (Int.toNat i4) default).Row))).bind fun x10 =>
  cond ((decide (at5 < ((List.length bP : Nat) : Int))) && x10)
  (tM l0 bP i4)
  (bF (0 ≤ at5 ∧ at5 ≤ ((List.length bP : Nat) : Int)) <|
  bF (List.length (List.take (Int.toNat at5) bP) * 24 ≤ 140737488355328 ∧ List.length (List.take (Int.toNat at5) bP) ≤ 9223372036854775807) <|
  bF (0 ≤ i4 ∧ i4 < ((List.length l0 : Nat) : Int)) <|
  bF ((List.length (List.take (Int.toNat at5) bP) + List.length ([(List.getD l0 (Int.toNat i4) default).Row])) * 24 ≤ 140737488355328 ∧ List.length (List.take (Int.toNat at5) bP) + List.length ([(List.getD l0 (Int.toNat i4) default).Row]) ≤ 9223372036854775807) <|
  bF (0 ≤ at5 ∧ at5 ≤ ((List.length bP : Nat) : Int)) <|
  bF ((List.length ((List.take (Int.toNat at5) bP) ++ ([(List.getD l0 (Int.toNat i4) default).Row])) + List.length (List.drop (Int.toNat at5) bP)) * 24 ≤ 140737488355328 ∧ List.length ((List.take (Int.toNat at5) bP) ++ ([(List.getD l0 (Int.toNat i4) default).Row])) + List.length (List.drop (Int.toNat at5) bP) ≤ 9223372036854775807) <|
  tM l0 (((List.take (Int.toNat at5) bP) ++ ([(List.getD l0 (Int.toNat i4) default).Row])) ++ (List.drop (Int.toNat at5) bP)) i4)

noncomputable def mF (l0 : (List aR)) (i4 : Int) (bP : List (List aC)) (at5 : Int) : Option ((List (List aC) × Int) ⊕ ((List (List aC) × Int))) :=
  bF ((((decide (at5 < ((List.length bP : Nat) : Int)))) = true → 0 ≤ at5 ∧ at5 < ((List.length bP : Nat) : Int))) <|
  bF ((((decide (at5 < ((List.length bP : Nat) : Int)))) = true → 0 ≤ i4 ∧ i4 < ((List.length l0 : Nat) : Int))) <|
  (cT (decide (at5 < ((List.length bP : Nat) : Int))) (oK (List.getD bP (Int.toNat at5) default) ((List.getD l0 (Int.toNat i4) default).Row))).bind fun x27 =>
  cond ((decide (at5 < ((List.length bP : Nat) : Int))) && (decide (x27 < (0 : Int))))
  (some (.inl (bP, IntKind.i64.wrap (at5 + (1 : Int)))))
  (some (.inr (bP, at5)))

noncomputable def yB (l0 : (List aR)) (bP : List (List aC)) (i4 : Int) (at5 : Int) : Option ((List (List aC) × Int) ⊕ ((List (List aC)))) :=
  (lp (fun s => mF l0 i4 s.1 s.2) (bP, at5)).bind (fun rr => tR l0 rr.1 i4 rr.2)

noncomputable def nF (l0 : (List aR)) (bP : List (List aC)) (i4 : Int) : Option ((List (List aC) × Int) ⊕ ((List (List aC)))) :=
  cond (decide (i4 < ((List.length l0 : Nat) : Int)))
  (yB l0 bP i4 (0 : Int))
  (some (.inr bP))

noncomputable def yA (l0 : (List aR)) (bP : List (List aC)) (i4 : Int) : Option (List (List aC)) :=
  (lp (fun s => nF l0 s.1 s.2) (bP, i4)).bind (fun rr => xU rr)

noncomputable def pS (l0 : (List aR)) : Option (List (List aC)) :=
  yA l0 ([] : List (List aC)) (0 : Int)

noncomputable def wI (f5 : List aH) : Option (List aH) :=
  some f5

noncomputable def sA (l0 : (List aR)) (r1 : (List aC)) (f5 : List aH) (i6 : Int) : Option ((List aH × Int) ⊕ ((List aH))) :=
  some (.inl (f5, IntKind.i64.wrap (i6 + (1 : Int))))

noncomputable def mP (l0 : (List aR)) (r1 : (List aC)) (f5 : List aH) (i6 : Int) : Option ((List aH × Int) ⊕ ((List aH))) :=
  cond (decide (i6 < ((List.length l0 : Nat) : Int)))
  (bF (0 ≤ i6 ∧ i6 < ((List.length l0 : Nat) : Int)) <|
  (pR ((List.getD l0 (Int.toNat i6) default).Row) r1).bind fun x8 =>
  cond x8
  (bF (0 ≤ i6 ∧ i6 < ((List.length l0 : Nat) : Int)) <|
  bF (0 ≤ i6 ∧ i6 < ((List.length l0 : Nat) : Int)) <|
  bF ((List.length f5 + List.length ([aH.mk ((List.getD l0 (Int.toNat i6) default).At) ((List.getD l0 (Int.toNat i6) default).Net)])) * 16 ≤ 140737488355328 ∧ List.length f5 + List.length ([aH.mk ((List.getD l0 (Int.toNat i6) default).At) ((List.getD l0 (Int.toNat i6) default).Net)]) ≤ 9223372036854775807) <|
  sA l0 r1 (f5 ++ ([aH.mk ((List.getD l0 (Int.toNat i6) default).At) ((List.getD l0 (Int.toNat i6) default).Net)])) i6)
  (sA l0 r1 f5 i6))
  (some (.inr f5))

noncomputable def wD (l0 : (List aR)) (r1 : (List aC)) (f5 : List aH) (i6 : Int) : Option (List aH) :=
  (lp (fun s => mP l0 r1 s.1 s.2) (f5, i6)).bind (fun rr => wI rr)

noncomputable def nE (l0 : (List aR)) (r1 : (List aC)) : Option (List aH) :=
  wD l0 r1 ([] : List aH) (0 : Int)

noncomputable def zM  : Option Bool :=
  some true

noncomputable def pU (l0 : (List aR)) (rI : (List (List aC))) (i6 : Int) : Option ((Int) ⊕ (Unit ⊕ Bool)) :=
  cond (decide (i6 < ((List.length rI : Nat) : Int)))
  (bF (0 ≤ i6 ∧ i6 < ((List.length rI : Nat) : Int)) <|
  (nE l0 (List.getD rI (Int.toNat i6) default)).bind fun x7 =>
  cond (decide ((1024 : Int) < ((List.length x7 : Nat) : Int)))
  (some (.inr (.inr false)))
  (some (.inl (IntKind.i64.wrap (i6 + (1 : Int))))))
  (some (.inr (.inl ())))

noncomputable def zB (l0 : (List aR)) (rI : (List (List aC))) (i6 : Int) : Option Bool :=
  (lp (fun s => pU l0 rI s) i6).bind (Sum.elim (fun rr => zM ) (fun rr => some rr))

noncomputable def vO (l0 : (List aR)) : Option Bool :=
  (pS l0).bind fun x2 =>
  zB l0 x2 (0 : Int)

noncomputable def rV (l0 : (List aR)) (i3 : Int) : Option ((Int) ⊕ (Unit ⊕ Bool)) :=
  some (.inl (IntKind.i64.wrap (i3 + (1 : Int))))

noncomputable def oD (l0 : (List aR)) (i3 : Int) : Option ((Int) ⊕ (Unit ⊕ Bool)) :=
  cond (decide (i3 < ((List.length l0 : Nat) : Int)))
  (bF (0 ≤ i3 ∧ i3 < ((List.length l0 : Nat) : Int)) <|
  (rF ((List.getD l0 (Int.toNat i3) default).Row)).bind fun x13 =>
  bF ((((!(!x13))) = true → 0 ≤ i3 ∧ i3 < ((List.length l0 : Nat) : Int))) <|
  bF ((((!(!x13))) = true → 0 ≤ i3 ∧ i3 < ((List.length l0 : Nat) : Int))) <|
  (cT (!(!x13)) (qZ ([aH.mk ((List.getD l0 (Int.toNat i3) default).At) ((List.getD l0 (Int.toNat i3) default).Net)]))).bind fun x17 =>
  cond ((!x13) || (!x17))
  (some (.inr (.inr false)))
  (cond (decide (i3 = (0 : Int)))
  (rV l0 i3)
  (bF (0 ≤ (IntKind.i64.wrap (i3 - (1 : Int))) ∧ (IntKind.i64.wrap (i3 - (1 : Int))) < ((List.length l0 : Nat) : Int)) <|
  bF (0 ≤ i3 ∧ i3 < ((List.length l0 : Nat) : Int)) <|
  (oK ((List.getD l0 (Int.toNat (IntKind.i64.wrap (i3 - (1 : Int)))) default).Row) ((List.getD l0 (Int.toNat i3) default).Row)).bind fun x24 =>
  bF ((((decide (x24 = (0 : Int))) && (!(decide ((0 : Int) < x24)))) = true → 0 ≤ (IntKind.i64.wrap (i3 - (1 : Int))) ∧ (IntKind.i64.wrap (i3 - (1 : Int))) < ((List.length l0 : Nat) : Int))) <|
  bF ((((decide (x24 = (0 : Int))) && (!(decide ((0 : Int) < x24)))) = true → 0 ≤ i3 ∧ i3 < ((List.length l0 : Nat) : Int))) <|
  cond ((decide ((0 : Int) < x24)) || ((decide (x24 = (0 : Int))) && (decide (((List.getD l0 (Int.toNat i3) default).At) ≤ ((List.getD l0 (Int.toNat (IntKind.i64.wrap (i3 - (1 : Int)))) default).At)))))
  (some (.inr (.inr false)))
  (rV l0 i3))))
  (some (.inr (.inl ())))

noncomputable def zR (l0 : (List aR)) (i3 : Int) : Option Bool :=
  (lp (fun s => oD l0 s) i3).bind (Sum.elim (fun rr => vO l0) (fun rr => some rr))

noncomputable def tX (l0 : (List aR)) : Option Bool :=
  cond (decide ((4096 : Int) < ((List.length l0 : Nat) : Int)))
  (some false)
  (zR l0 (0 : Int))

noncomputable def sF (v5 : Int) : Option Int :=
  some v5

noncomputable def pG (f0 : (List aH)) (t1 : Int) (v5 : Int) (i6 : Int) : Option ((Int × Int) ⊕ (Int)) :=
  some (.inl (v5, IntKind.i64.wrap (i6 + (1 : Int))))

noncomputable def kJ (f0 : (List aH)) (t1 : Int) (v5 : Int) (i6 : Int) : Option ((Int × Int) ⊕ (Int)) :=
  cond (decide (i6 < ((List.length f0 : Nat) : Int)))
  (bF (0 ≤ i6 ∧ i6 < ((List.length f0 : Nat) : Int)) <|
  cond (decide (((List.getD f0 (Int.toNat i6) default).At) ≤ t1))
  (bF (0 ≤ i6 ∧ i6 < ((List.length f0 : Nat) : Int)) <|
  pG f0 t1 (IntKind.i64.wrap (v5 + ((List.getD f0 (Int.toNat i6) default).Net))) i6)
  (pG f0 t1 v5 i6))
  (some (.inr v5))

noncomputable def wA (f0 : (List aH)) (t1 : Int) (v5 : Int) (i6 : Int) : Option Int :=
  (lp (fun s => kJ f0 t1 s.1 s.2) (v5, i6)).bind (fun rr => sF rr)

noncomputable def mH (f0 : (List aH)) (t1 : Int) : Option Int :=
  wA f0 t1 (0 : Int) (0 : Int)

noncomputable def sD (m3 : Int) : Option Int :=
  some m3

noncomputable def sC (f0 : (List aH)) (m3 : Int) (i4 : Int) : Option ((Int × Int) ⊕ (Int)) :=
  some (.inl (m3, IntKind.i64.wrap (i4 + (1 : Int))))

noncomputable def mQ (f0 : (List aH)) (m3 : Int) (i4 : Int) : Option ((Int × Int) ⊕ (Int)) :=
  cond (decide (i4 < ((List.length f0 : Nat) : Int)))
  (bF (0 ≤ i4 ∧ i4 < ((List.length f0 : Nat) : Int)) <|
  (mH f0 ((List.getD f0 (Int.toNat i4) default).At)).bind fun x10 =>
  cond (decide (x10 < m3))
  (bF (0 ≤ i4 ∧ i4 < ((List.length f0 : Nat) : Int)) <|
  (mH f0 ((List.getD f0 (Int.toNat i4) default).At)).bind fun x15 =>
  sC f0 x15 i4)
  (sC f0 m3 i4))
  (some (.inr m3))

noncomputable def wZ (f0 : (List aH)) (m3 : Int) (i4 : Int) : Option Int :=
  (lp (fun s => mQ f0 s.1 s.2) (m3, i4)).bind (fun rr => sD rr)

noncomputable def tJ (f0 : (List aH)) : Option Int :=
  (qZ f0).bind fun x1 =>
  cond (!x1)
  (some (0 : Int))
  ((mH f0 (-1 : Int)).bind fun x5 =>
  wZ f0 x5 (0 : Int))

noncomputable def wE  : Option Bool :=
  some true

noncomputable def nV (l0 : (List aR)) (bP : (List (List aC))) (i4 : Int) : Option ((Int) ⊕ (Unit ⊕ Bool)) :=
  cond (decide (i4 < ((List.length bP : Nat) : Int)))
  (bF (0 ≤ i4 ∧ i4 < ((List.length bP : Nat) : Int)) <|
  (nE l0 (List.getD bP (Int.toNat i4) default)).bind fun x10 =>
  (tJ x10).bind fun x13 =>
  cond (decide (x13 < (0 : Int)))
  (some (.inr (.inr false)))
  (some (.inl (IntKind.i64.wrap (i4 + (1 : Int))))))
  (some (.inr (.inl ())))

noncomputable def wB (l0 : (List aR)) (bP : (List (List aC))) (i4 : Int) : Option Bool :=
  (lp (fun s => nV l0 bP s) i4).bind (Sum.elim (fun rr => wE ) (fun rr => some rr))

noncomputable def tI (l0 : (List aR)) : Option Bool :=
  (tX l0).bind fun x1 =>
  cond (!x1)
  (some false)
  ((pS l0).bind fun x5 =>
  wB l0 x5 (0 : Int))

noncomputable def rQ (out3 : List aT) : Option (List aT) :=
  some out3

noncomputable def pL (out3 : List aT) (n4 : Int) (fR : Int) : Option (List aT) :=
  cond (decide ((0 : Int) < n4))
  (bF ((List.length out3 + List.length ([aT.mk fR (1125899906842624 : Int)])) * 16 ≤ 140737488355328 ∧ List.length out3 + List.length ([aT.mk fR (1125899906842624 : Int)]) ≤ 9223372036854775807) <|
  rQ (out3 ++ ([aT.mk fR (1125899906842624 : Int)])))
  (rQ out3)

noncomputable def pF (f0 : (List aH)) (out3 : List aT) (n4 : Int) (fR : Int) (i6 : Int) : Option ((List aT × Int × Int × Int) ⊕ ((List aT × Int × Int))) :=
  some (.inl (out3, n4, fR, IntKind.i64.wrap (i6 + (1 : Int))))

noncomputable def nQ (f0 : (List aH)) (out3 : List aT) (n4 : Int) (fR : Int) (i6 : Int) : Option ((List aT × Int × Int × Int) ⊕ ((List aT × Int × Int))) :=
  bF (0 ≤ i6 ∧ i6 < ((List.length f0 : Nat) : Int)) <|
  cond (decide ((IntKind.i64.wrap (n4 + ((List.getD f0 (Int.toNat i6) default).Net))) = (0 : Int)))
  (bF (0 ≤ i6 ∧ i6 < ((List.length f0 : Nat) : Int)) <|
  bF ((List.length out3 + List.length ([aT.mk fR ((List.getD f0 (Int.toNat i6) default).At)])) * 16 ≤ 140737488355328 ∧ List.length out3 + List.length ([aT.mk fR ((List.getD f0 (Int.toNat i6) default).At)]) ≤ 9223372036854775807) <|
  pF f0 (out3 ++ ([aT.mk fR ((List.getD f0 (Int.toNat i6) default).At)])) (IntKind.i64.wrap (n4 + ((List.getD f0 (Int.toNat i6) default).Net))) fR i6)
  (pF f0 out3 (IntKind.i64.wrap (n4 + ((List.getD f0 (Int.toNat i6) default).Net))) fR i6)

noncomputable def iD (f0 : (List aH)) (out3 : List aT) (n4 : Int) (fR : Int) (i6 : Int) : Option ((List aT × Int × Int × Int) ⊕ ((List aT × Int × Int))) :=
  cond (decide (i6 < ((List.length f0 : Nat) : Int)))
  (cond (decide (n4 = (0 : Int)))
  (bF (0 ≤ i6 ∧ i6 < ((List.length f0 : Nat) : Int)) <|
  nQ f0 out3 n4 ((List.getD f0 (Int.toNat i6) default).At) i6)
  (nQ f0 out3 n4 fR i6))
  (some (.inr (out3, n4, fR)))

noncomputable def wK (f0 : (List aH)) (out3 : List aT) (n4 : Int) (fR : Int) (i6 : Int) : Option (List aT) :=
  (lp (fun s => iD f0 s.1 s.2.1 s.2.2.1 s.2.2.2) (out3, n4, fR, i6)).bind (fun rr => pL rr.1 rr.2.1 rr.2.2)

noncomputable def tG (f0 : (List aH)) : Option (List aT) :=
  wK f0 ([] : List aT) (0 : Int) (0 : Int) (0 : Int)

noncomputable def qL (out5 : List Int) : Option (List Int) :=
  some out5

noncomputable def qJ (t1 : Int) (out5 : List Int) (put6 : Bool) : Option (List Int) :=
  cond (!put6)
  (bF ((List.length out5 + List.length ([t1])) * 8 ≤ 140737488355328 ∧ List.length out5 + List.length ([t1]) ≤ 9223372036854775807) <|
  qL (out5 ++ ([t1])))
  (qL out5)

noncomputable def tE (l0 : (List Int)) (t1 : Int) (out5 : List Int) (put6 : Bool) (i7 : Int) : Option ((List Int × Bool × Int) ⊕ ((List Int × Bool) ⊕ (List Int))) :=
  bF (0 ≤ i7 ∧ i7 < ((List.length l0 : Nat) : Int)) <|
  bF ((List.length out5 + List.length ([List.getD l0 (Int.toNat i7) default])) * 8 ≤ 140737488355328 ∧ List.length out5 + List.length ([List.getD l0 (Int.toNat i7) default]) ≤ 9223372036854775807) <|
  some (.inl (out5 ++ ([List.getD l0 (Int.toNat i7) default]), put6, IntKind.i64.wrap (i7 + (1 : Int))))

noncomputable def jS (l0 : (List Int)) (t1 : Int) (out5 : List Int) (put6 : Bool) (i7 : Int) : Option ((List Int × Bool × Int) ⊕ ((List Int × Bool) ⊕ (List Int))) :=
  cond (decide (i7 < ((List.length l0 : Nat) : Int)))
  (bF (0 ≤ i7 ∧ i7 < ((List.length l0 : Nat) : Int)) <|
  cond (decide ((List.getD l0 (Int.toNat i7) default) = t1))
  (some (.inr (.inr l0)))
  (bF (0 ≤ i7 ∧ i7 < ((List.length l0 : Nat) : Int)) <|
  cond ((decide (t1 < (List.getD l0 (Int.toNat i7) default))) && (!put6))
  (bF ((List.length out5 + List.length ([t1])) * 8 ≤ 140737488355328 ∧ List.length out5 + List.length ([t1]) ≤ 9223372036854775807) <|
  tE l0 t1 (out5 ++ ([t1])) true i7)
  (tE l0 t1 out5 put6 i7)))
  (some (.inr (.inl (out5, put6))))

noncomputable def xV (l0 : (List Int)) (t1 : Int) (out5 : List Int) (put6 : Bool) (i7 : Int) : Option (List Int) :=
  (lp (fun s => jS l0 t1 s.1 s.2.1 s.2.2) (out5, put6, i7)).bind (Sum.elim (fun rr => qJ t1 rr.1 rr.2) (fun rr => some rr))

noncomputable def vE (l0 : (List Int)) (t1 : Int) : Option (List Int) :=
  xV l0 t1 ([] : List Int) false (0 : Int)

noncomputable def sP (n5 : Int) : Option Int :=
  some n5

noncomputable def pX (f0 : (List aH)) (w3 : aT) (n5 : Int) (i6 : Int) : Option ((Int × Int) ⊕ (Int)) :=
  some (.inl (n5, IntKind.i64.wrap (i6 + (1 : Int))))

noncomputable def nO (f0 : (List aH)) (w3 : aT) (n5 : Int) (i6 : Int) : Option ((Int × Int) ⊕ (Int)) :=
  cond (decide (i6 < ((List.length f0 : Nat) : Int)))
  (bF (0 ≤ i6 ∧ i6 < ((List.length f0 : Nat) : Int)) <|
  bF ((((decide (w3.From < ((List.getD f0 (Int.toNat i6) default).At)))) = true → 0 ≤ i6 ∧ i6 < ((List.length f0 : Nat) : Int))) <|
  bF (((((decide (w3.From < ((List.getD f0 (Int.toNat i6) default).At))) && (decide (((List.getD f0 (Int.toNat i6) default).At) < w3.To)))) = true → 0 ≤ i6 ∧ i6 < ((List.length f0 : Nat) : Int))) <|
  cond (((decide (w3.From < ((List.getD f0 (Int.toNat i6) default).At))) && (decide (((List.getD f0 (Int.toNat i6) default).At) < w3.To))) && (decide ((0 : Int) < ((List.getD f0 (Int.toNat i6) default).Net))))
  (bF (0 ≤ i6 ∧ i6 < ((List.length f0 : Nat) : Int)) <|
  pX f0 w3 (IntKind.i64.wrap (n5 + ((List.getD f0 (Int.toNat i6) default).Net))) i6)
  (pX f0 w3 n5 i6))
  (some (.inr n5))

noncomputable def sX (f0 : (List aH)) (w3 : aT) (n5 : Int) (i6 : Int) : Option Int :=
  (lp (fun s => nO f0 w3 s.1 s.2) (n5, i6)).bind (fun rr => sP rr)

noncomputable def qT (f0 : (List aH)) (w1 : aT) : Option Int :=
  (mH f0 w1.From).bind fun x1 =>
  sX f0 w1 x1 (0 : Int)

noncomputable def wT (cX : List aP) : Option ((List aP) × Int) :=
  some (cX, (0 : Int))

noncomputable def wY (l0 : (List aR)) (bT : Int) (bC : (List Int)) (bO : (List (List aC))) (cX : List aP) (k21 : Int) : Option ((List aP × Int) ⊕ ((List aP))) :=
  some (.inl (cX, IntKind.i64.wrap (k21 + (1 : Int))))

noncomputable def rT (l0 : (List aR)) (bT : Int) (bC : (List Int)) (bO : (List (List aC))) (cX : List aP) (k21 : Int) (p22 : aP) : Option ((List aP × Int) ⊕ ((List aP))) :=
  bF ((List.length cX + List.length ([p22])) * 40 ≤ 140737488355328 ∧ List.length cX + List.length ([p22]) ≤ 9223372036854775807) <|
  wY l0 bT bC bO (cX ++ ([p22])) k21

noncomputable def pN (l0 : (List aR)) (bT : Int) (bC : (List Int)) (bO : (List (List aC))) (cX : List aP) (k21 : Int) (p22 : aP) (i23 : Int) : Option ((List aP × aP × Int) ⊕ ((List aP × aP))) :=
  some (.inl (cX, p22, IntKind.i64.wrap (i23 + (1 : Int))))

noncomputable def mO (l0 : (List aR)) (bT : Int) (bC : (List Int)) (bO : (List (List aC))) (k21 : Int) (cX : List aP) (p22 : aP) (i23 : Int) : Option ((List aP × aP × Int) ⊕ ((List aP × aP))) :=
  cond (decide (i23 < ((List.length bO : Nat) : Int)))
  (bF (0 ≤ i23 ∧ i23 < ((List.length bO : Nat) : Int)) <|
  (nE l0 (List.getD bO (Int.toNat i23) default)).bind fun x47 =>
  (qT x47 p22.Span).bind fun x50 =>
  cond (decide ((0 : Int) < x50))
  (bF (0 ≤ i23 ∧ i23 < ((List.length bO : Nat) : Int)) <|
  bF ((List.length p22.Rows + List.length ([cP.mk (List.getD bO (Int.toNat i23) default) x50])) * 32 ≤ 140737488355328 ∧ List.length p22.Rows + List.length ([cP.mk (List.getD bO (Int.toNat i23) default) x50]) ≤ 9223372036854775807) <|
  pN l0 bT bC bO cX k21 (aP.mk p22.Span (p22.Rows ++ ([cP.mk (List.getD bO (Int.toNat i23) default) x50]))) i23)
  (pN l0 bT bC bO cX k21 p22 i23))
  (some (.inr (cX, p22)))

noncomputable def wW (l0 : (List aR)) (bT : Int) (bC : (List Int)) (bO : (List (List aC))) (cX : List aP) (k21 : Int) (p22 : aP) (i23 : Int) : Option ((List aP × Int) ⊕ ((List aP))) :=
  (lp (fun s => mO l0 bT bC bO k21 s.1 s.2.1 s.2.2) (cX, p22, i23)).bind (fun rr => rT l0 bT bC bO rr.1 k21 rr.2)

noncomputable def nP (l0 : (List aR)) (bT : Int) (bC : (List Int)) (bO : (List (List aC))) (cX : List aP) (k21 : Int) : Option ((List aP × Int) ⊕ ((List aP))) :=
  cond (decide (k21 < ((List.length bC : Nat) : Int)))
  (bF (0 ≤ k21 ∧ k21 < ((List.length bC : Nat) : Int)) <|
  bF (0 ≤ k21 ∧ k21 < ((List.length bC : Nat) : Int)) <|
  (uE bT (List.getD bC (Int.toNat k21) default)).bind fun x30 =>
  wW l0 bT bC bO cX k21 (aP.mk (aT.mk (List.getD bC (Int.toNat k21) default) x30) ([])) (0 : Int))
  (some (.inr cX))

noncomputable def wO (l0 : (List aR)) (bT : Int) (bC : (List Int)) (bO : (List (List aC))) (cX : List aP) (k21 : Int) : Option ((List aP) × Int) :=
  (lp (fun s => nP l0 bT bC bO s.1 s.2) (cX, k21)).bind (fun rr => wT rr)

noncomputable def rR (l0 : (List aR)) (bT : Int) (bC : (List Int)) (bO : (List (List aC))) : Option ((List aP) × Int) :=
  wO l0 bT bC bO ([] : List aP) (0 : Int)

noncomputable def rM (l0 : (List aR)) (bT : Int) (hop2 : Int) (bN : Int) (bI : Int) (bC : (List Int)) (bO : (List (List aC))) (i14 : Int) : Option (((List Int) × Int) ⊕ ((List Int) ⊕ ((List aP) × Int))) :=
  some (.inl (bC, IntKind.i64.wrap (i14 + (1 : Int))))

noncomputable def uS (l0 : (List aR)) (bT : Int) (hop2 : Int) (bN : Int) (bI : Int) (bC : (List Int)) (bO : (List (List aC))) (i14 : Int) (s15 : (List aT)) (k16 : Int) : Option (((List Int) × Int) ⊕ ((List Int) ⊕ ((List aP) × Int))) :=
  some (.inl (bC, IntKind.i64.wrap (k16 + (1 : Int))))

noncomputable def qP (l0 : (List aR)) (bT : Int) (hop2 : Int) (bN : Int) (bI : Int) (bC : (List Int)) (bO : (List (List aC))) (i14 : Int) (s15 : (List aT)) (k16 : Int) : Option (((List Int) × Int) ⊕ ((List Int) ⊕ ((List aP) × Int))) :=
  cond (decide ((1024 : Int) < ((List.length bC : Nat) : Int)))
  (some (.inr (.inr ([], (7 : Int)))))
  (uS l0 bT hop2 bN bI bC bO i14 s15 k16)

noncomputable def oN (l0 : (List aR)) (bT : Int) (hop2 : Int) (bN : Int) (bI : Int) (bO : (List (List aC))) (i14 : Int) (s15 : (List aT)) (k16 : Int) (t17 : (List Int)) (bC : (List Int)) (j19 : Int) : Option (((List Int) × Int) ⊕ ((List Int))) :=
  cond (decide (j19 < ((List.length t17 : Nat) : Int)))
  (bF (0 ≤ j19 ∧ j19 < ((List.length t17 : Nat) : Int)) <|
  (vE bC (List.getD t17 (Int.toNat j19) default)).bind fun x77 =>
  some (.inl (x77, IntKind.i64.wrap (j19 + (1 : Int)))))
  (some (.inr bC))

noncomputable def uR (l0 : (List aR)) (bT : Int) (hop2 : Int) (bN : Int) (bI : Int) (bC : (List Int)) (bO : (List (List aC))) (i14 : Int) (s15 : (List aT)) (k16 : Int) (t17 : (List Int)) (j19 : Int) : Option (((List Int) × Int) ⊕ ((List Int) ⊕ ((List aP) × Int))) :=
  (lp (fun s => oN l0 bT hop2 bN bI bO i14 s15 k16 t17 s.1 s.2) (bC, j19)).bind (fun rr => qP l0 bT hop2 bN bI rr bO i14 s15 k16)

noncomputable def mW (l0 : (List aR)) (bT : Int) (hop2 : Int) (bN : Int) (bI : Int) (bO : (List (List aC))) (i14 : Int) (s15 : (List aT)) (bC : (List Int)) (k16 : Int) : Option (((List Int) × Int) ⊕ ((List Int) ⊕ ((List aP) × Int))) :=
  cond (decide (k16 < ((List.length s15 : Nat) : Int)))
  (bF (0 ≤ k16 ∧ k16 < ((List.length s15 : Nat) : Int)) <|
  (pI bT hop2 (List.getD s15 (Int.toNat k16) default) bN bI).bind fun x70 =>
  cond (!decide (x70.2 = (0 : Int)))
  (some (.inr (.inr ([], x70.2))))
  (uR l0 bT hop2 bN bI bC bO i14 s15 k16 x70.1 (0 : Int)))
  (some (.inr (.inl bC)))

noncomputable def uO (l0 : (List aR)) (bT : Int) (hop2 : Int) (bN : Int) (bI : Int) (bC : (List Int)) (bO : (List (List aC))) (i14 : Int) (s15 : (List aT)) (k16 : Int) : Option (((List Int) × Int) ⊕ ((List Int) ⊕ ((List aP) × Int))) :=
  (lp (fun s => mW l0 bT hop2 bN bI bO i14 s15 s.1 s.2) (bC, k16)).bind (Sum.elim (fun rr => rM l0 bT hop2 bN bI rr bO i14) (fun rr => some (.inr (.inr (rr.1, rr.2)))))

noncomputable def nT (l0 : (List aR)) (bT : Int) (hop2 : Int) (bN : Int) (bI : Int) (bO : (List (List aC))) (bC : (List Int)) (i14 : Int) : Option (((List Int) × Int) ⊕ ((List Int) ⊕ ((List aP) × Int))) :=
  cond (decide (i14 < ((List.length bO : Nat) : Int)))
  (bF (0 ≤ i14 ∧ i14 < ((List.length bO : Nat) : Int)) <|
  (nE l0 (List.getD bO (Int.toNat i14) default)).bind fun x62 =>
  (tG x62).bind fun x65 =>
  uO l0 bT hop2 bN bI bC bO i14 x65 (0 : Int))
  (some (.inr (.inl bC)))

noncomputable def wQ (l0 : (List aR)) (bT : Int) (hop2 : Int) (bN : Int) (bI : Int) (bC : (List Int)) (bO : (List (List aC))) (i14 : Int) : Option ((List aP) × Int) :=
  (lp (fun s => nT l0 bT hop2 bN bI bO s.1 s.2) (bC, i14)).bind (Sum.elim (fun rr => rR l0 bT rr bO) (fun rr => some (rr.1, rr.2)))

noncomputable def tQ (l0 : (List aR)) (bT : Int) (hop2 : Int) (bN : Int) (bI : Int) : Option ((List aP) × Int) :=
  (uJ bT hop2).bind fun x1 =>
  (cT (!(!x1)) (tX l0)).bind fun x4 =>
  cond ((!x1) || (!x4))
  (some ([], (2 : Int)))
  ((tI l0).bind fun x8 =>
  cond (!x8)
  (some ([], (20 : Int)))
  ((mC bN).bind fun x12 =>
  (cT (!(!x12)) (mC bI)).bind fun x15 =>
  cond ((!x12) || (!x15))
  (some ([], (13 : Int)))
  ((pS l0).bind fun x19 =>
  wQ l0 bT hop2 bN bI ([]) x19 (0 : Int))))

noncomputable def nL  : Option Bool :=
  some true

noncomputable def lW (a0 : (List cP)) (b1 : (List cP)) (i5 : Int) : Option ((Int) ⊕ (Unit ⊕ Bool)) :=
  cond (decide (i5 < ((List.length a0 : Nat) : Int)))
  (bF (0 ≤ i5 ∧ i5 < ((List.length a0 : Nat) : Int)) <|
  bF (0 ≤ i5 ∧ i5 < ((List.length b1 : Nat) : Int)) <|
  bF ((((!(!decide (((List.getD a0 (Int.toNat i5) default).N) = ((List.getD b1 (Int.toNat i5) default).N))))) = true → 0 ≤ i5 ∧ i5 < ((List.length a0 : Nat) : Int))) <|
  bF ((((!(!decide (((List.getD a0 (Int.toNat i5) default).N) = ((List.getD b1 (Int.toNat i5) default).N))))) = true → 0 ≤ i5 ∧ i5 < ((List.length b1 : Nat) : Int))) <|
  (cT (!(!decide (((List.getD a0 (Int.toNat i5) default).N) = ((List.getD b1 (Int.toNat i5) default).N)))) (pR ((List.getD a0 (Int.toNat i5) default).Row) ((List.getD b1 (Int.toNat i5) default).Row))).bind fun x7 =>
  cond ((!decide (((List.getD a0 (Int.toNat i5) default).N) = ((List.getD b1 (Int.toNat i5) default).N))) || (!x7))
  (some (.inr (.inr false)))
  (some (.inl (IntKind.i64.wrap (i5 + (1 : Int))))))
  (some (.inr (.inl ())))

noncomputable def qE (a0 : (List cP)) (b1 : (List cP)) (i5 : Int) : Option Bool :=
  (lp (fun s => lW a0 b1 s) i5).bind (Sum.elim (fun rr => nL ) (fun rr => some rr))

noncomputable def oE (a0 : (List cP)) (b1 : (List cP)) : Option Bool :=
  cond (!decide (((List.length a0 : Nat) : Int) = ((List.length b1 : Nat) : Int)))
  (some false)
  (qE a0 b1 (0 : Int))

noncomputable def tH  : Option Bool :=
  some true

noncomputable def qK (a0 : (List aP)) (b1 : (List aP)) (i5 : Int) : Option ((Int) ⊕ (Unit ⊕ Bool)) :=
  cond (decide (i5 < ((List.length a0 : Nat) : Int)))
  (bF (0 ≤ i5 ∧ i5 < ((List.length a0 : Nat) : Int)) <|
  bF (0 ≤ i5 ∧ i5 < ((List.length b1 : Nat) : Int)) <|
  bF ((((!(!((decide ((((List.getD a0 (Int.toNat i5) default).Span).From) = (((List.getD b1 (Int.toNat i5) default).Span).From))) && ((decide ((((List.getD a0 (Int.toNat i5) default).Span).To) = (((List.getD b1 (Int.toNat i5) default).Span).To))) && true))))) = true → 0 ≤ i5 ∧ i5 < ((List.length a0 : Nat) : Int))) <|
  bF ((((!(!((decide ((((List.getD a0 (Int.toNat i5) default).Span).From) = (((List.getD b1 (Int.toNat i5) default).Span).From))) && ((decide ((((List.getD a0 (Int.toNat i5) default).Span).To) = (((List.getD b1 (Int.toNat i5) default).Span).To))) && true))))) = true → 0 ≤ i5 ∧ i5 < ((List.length b1 : Nat) : Int))) <|
  (cT (!(!((decide ((((List.getD a0 (Int.toNat i5) default).Span).From) = (((List.getD b1 (Int.toNat i5) default).Span).From))) && ((decide ((((List.getD a0 (Int.toNat i5) default).Span).To) = (((List.getD b1 (Int.toNat i5) default).Span).To))) && true)))) (oE ((List.getD a0 (Int.toNat i5) default).Rows) ((List.getD b1 (Int.toNat i5) default).Rows))).bind fun x7 =>
  cond ((!((decide ((((List.getD a0 (Int.toNat i5) default).Span).From) = (((List.getD b1 (Int.toNat i5) default).Span).From))) && ((decide ((((List.getD a0 (Int.toNat i5) default).Span).To) = (((List.getD b1 (Int.toNat i5) default).Span).To))) && true))) || (!x7))
  (some (.inr (.inr false)))
  (some (.inl (IntKind.i64.wrap (i5 + (1 : Int))))))
  (some (.inr (.inl ())))

noncomputable def yD (a0 : (List aP)) (b1 : (List aP)) (i5 : Int) : Option Bool :=
  (lp (fun s => qK a0 b1 s) i5).bind (Sum.elim (fun rr => tH ) (fun rr => some rr))

noncomputable def vW (a0 : (List aP)) (b1 : (List aP)) : Option Bool :=
  cond (!decide (((List.length a0 : Nat) : Int) = ((List.length b1 : Nat) : Int)))
  (some false)
  (yD a0 b1 (0 : Int))

noncomputable def sR (l0 : (List aR)) (bT : Int) (DR : Int) (bN : Int) (bI : Int) : Option Bool :=
  (xN l0).bind fun x1 =>
  cond (!x1)
  ((rW ).bind fun x5 =>
  some x5)
  ((uI l0 bT DR bN bI).bind fun x8 =>
  (tQ l0 bT DR bN bI).bind fun x11 =>
  (rW ).bind fun x14 =>
  (cT (x14 && (decide (x8.2 = x11.2))) (vW x8.1 x11.1)).bind fun x17 =>
  some ((x14 && (decide (x8.2 = x11.2))) && x17))

end Go.Abs
namespace Go.Abs
open Go Go.RowKit
def CP (x : aC) : Prop := yM x.Kind ∧ yM x.Num ∧ (fun s => s.size ≤ maxLen) x.Text ∧ True

def xR (x : aR) : Prop := (fun l => (∀ a ∈ l, CP a) ∧ l.length * 32 ≤ 140737488351232) x.Row ∧ yM x.At ∧ yM x.Net ∧ True

end Go.Abs
namespace Go.Abs
open Go Go.RowKit Go.Proofs
noncomputable def tt : TT := ⟨aAe Try.prog, VQ Try.prog⟩

theorem aD : gU Try.prog tt := gU.of Try.prog

theorem HH (cH : Int) (hop1 : Int) (r : Bool) (h0 : sI cH hop1 = some r) : dJ Try.prog 24 [(eI cH), (eI hop1)] (aE r) := by
  intro H0
  refine dH Try.func24 ?_
  have hO := aI.start H0
  unfold sI at h0
  refine aX aD 1 [] [] ?_
  refine bV aD 15 [(4, (aE ((((decide ((1 : Int) ≤ cH)) && (decide (cH ≤ (1099511627776 : Int)))) && (decide ((1 : Int) ≤ hop1))) && (decide (hop1 ≤ (1099511627776 : Int))))))] ?_
  refine bL ?_
  obtain rfl := oI h0
  exact aG (Q_r hO)

theorem zF (t0 : Int) (r : Bool) (h0 : oC t0 = some r) : dJ Try.prog 25 [(eI t0)] (aE r) := by
  intro H0
  refine dH Try.func25 ?_
  have hO := aI.start H0
  unfold oC at h0
  refine aX aD 1 [] [] ?_
  refine bV aD 7 [(2, (aE ((decide ((0 : Int) ≤ t0)) && (decide (t0 ≤ (1125899906842624 : Int))))))] ?_
  refine bL ?_
  obtain rfl := oI h0
  exact aG (Q_r hO)

theorem XE (a0 : Int) (b1 : Int) (r : (Int × Int × Int)) (h0 : xH a0 b1 = some r) : dJ Try.prog 53 [(eI a0), (eI b1)] (.tup [(eI r.1), (eI r.2.1), (eI r.2.2)]) := by
  intro H0
  refine dH Try.func53 ?_
  have hO := aI.start H0
  unfold xH at h0
  refine aX aD 3 [] [] ?_
  refine aL ?_
  refine aX aD 2 [] [(10, (aE (decide (b1 < (1 : Int)))))] ?_
  refine bJ h0 (fun h0 => ?_) (fun h0 => ?_)
  · refine bV aD 3 [(4, (eI (0 : Int))), (5, (eI (0 : Int))), (6, (eI (2 : Int)))] ?_
    refine bL ?_
    obtain rfl := oI h0
    exact aG (aO (Q_r hO))
  refine bK ?_
  refine bH [(0, (eI a0)), (1, (eI b1))] ?_
  refine aL ?_
  refine eS (eU []) aD 8 ?_
  obtain ⟨c2, h0⟩ := bA h0
  obtain ⟨c3, h0⟩ := bA h0
  refine AS (Ds := [b1 ≠ 0, b1 ≠ 0]) (by kernel_rfl) ⟨c2, c3, trivial⟩ ?_
  refine bZ [0] [(7, (eI (wR (Int.tdiv a0 b1)))), (8, (eI (Int.tmod a0 b1)))] ?_
  refine dP (fun T H => ∃ q7 : Int, ∃ r8 : Int, Has T [(7, (eI q7)), (8, (eI r8))] ∧ aI ⟨H0, [], []⟩ H [] ∧ vC q7 r8 = some r) ?_ ?_
  · clear hO h0
    rintro T H ⟨q7, r8, hT, hO, h0⟩
    refine bD hT ?_
    clear hT
    unfold vC at h0
    refine bV aD 5 [(4, (eI q7)), (5, (eI r8)), (6, (eI (0 : Int)))] ?_
    refine bL ?_
    obtain rfl := oI h0
    exact aG (Q_r hO)
  refine aX aD 2 [] [(18, (aE (decide ((Int.tmod a0 b1) < (0 : Int)))))] ?_
  refine bJ h0 (fun h0 => ?_) (fun h0 => ?_)
  · refine aW aD 7 ?_
    refine bG ?_
    exact aG (aF (⟨rfl, _, _, .eq (by kernel_rfl), hO, h0⟩))
  refine bK ?_
  exact aG (aF (⟨rfl, _, _, .eq (by kernel_rfl), hO, h0⟩))

theorem CF (hop0 : Int) (n1 : Int) (r : Int) (h0 : pW hop0 n1 = some r) : dJ Try.prog 26 [(eI hop0), (eI n1)] (eI r) := by
  intro H0
  refine dH Try.func26 ?_
  have hO := aI.start H0
  unfold pW at h0
  refine aX aD 1 [] [] ?_
  refine aL ?_
  refine aX aD 2 [] [(9, (aE (decide (n1 < (0 : Int)))))] ?_
  refine bJ h0 (fun h0 => ?_) (fun h0 => ?_)
  · refine bV aD 1 [(4, (eI (0 : Int)))] ?_
    refine bL ?_
    obtain rfl := oI h0
    exact aG (aO (Q_r hO))
  refine bK ?_
  refine bH [(0, (eI hop0)), (1, (eI n1))] ?_
  refine aL ?_
  refine aW aD 10 ?_
  refine bU 2 ?_
  obtain ⟨x2, hx3, h0⟩ := aZ h0
  refine dQ (XE n1 hop0 _ hx3) hO ?_
  intro H hO
  refine bG ?_
  refine bZ [1] [(5, (eI x2.1))] ?_
  refine bV aD 5 [(4, (eI (wR ((wR (x2.1 + (1 : Int))) * hop0))))] ?_
  refine bL ?_
  obtain rfl := oI h0
  exact aG (Q_r hO)

theorem YU (cH : Int) (hop1 : Int) (t2 : Int) (r : (Int × Int)) (h0 : zL cH hop1 t2 = some r) : dJ Try.prog 9 [(eI cH), (eI hop1), (eI t2)] (.tup [(eI r.1), (eI r.2)]) := by
  intro H0
  refine dH Try.func9 ?_
  have hO := aI.start H0
  unfold zL at h0
  refine aX aD 2 [] [] ?_
  refine aL ?_
  refine cA 0 ?_
  refine aL ?_
  refine aW aD 5 ?_
  refine bU 2 ?_
  obtain ⟨x1, hx2, h0⟩ := aZ h0
  refine dQ (HH cH hop1 _ hx2) hO ?_
  intro H hO
  refine bG ?_
  refine bZ [] [(8, (aE (!x1)))] ?_
  refine bJ h0 (fun h0 => ?_) (fun h0 => ?_)
  · refine bV aD 2 [(6, (eI (0 : Int))), (7, (eI (2 : Int)))] ?_
    refine bL ?_
    obtain rfl := oI h0
    exact aG (bE (aO (Q_r hO)))
  refine aL ?_
  refine aW aD 4 ?_
  refine bU 1 ?_
  obtain ⟨x5, hx6, h0⟩ := aZ h0
  refine dQ (zF t2 _ hx6) hO ?_
  intro H hO
  refine bG ?_
  refine bZ [8] [(13, (aE (!x5)))] ?_
  refine bJ h0 (fun h0 => ?_) (fun h0 => ?_)
  · refine bV aD 2 [(6, (eI (0 : Int))), (7, (eI (13 : Int)))] ?_
    refine bL ?_
    obtain rfl := oI h0
    exact aG (bE (aO (Q_r hO)))
  refine aX aD 3 [13] [(17, (aE (decide (t2 = (1125899906842624 : Int)))))] ?_
  refine bJ h0 (fun h0 => ?_) (fun h0 => ?_)
  · refine bV aD 2 [(6, (eI (1125899906842624 : Int))), (7, (eI (0 : Int)))] ?_
    refine bL ?_
    obtain rfl := oI h0
    exact aG (bE (aO (Q_r hO)))
  refine bK ?_
  refine eP [(0, (eI cH)), (1, (eI hop1)), (2, (eI t2))] ?_
  refine aG (aY (aF (?_)))
  refine aL ?_
  refine aW aD 8 ?_
  refine bU 4 ?_
  obtain ⟨x10, hx11, h0⟩ := aZ h0
  refine dQ (CF hop1 (wR (t2 - cH)) _ hx11) hO ?_
  intro H hO
  refine bG ?_
  refine bH [(6, (eI (if (1125899906842624 : Int) < x10 then (1125899906842624 : Int) else x10))), (7, (eI (0 : Int)))] ?_
  refine bL ?_
  obtain rfl := oI h0
  exact aG (Q_r hO)

theorem KC (cH : Int) (hop1 : Int) (r : Bool) (h0 : uJ cH hop1 = some r) : dJ Try.prog 27 [(eI cH), (eI hop1)] (aE r) := by
  intro H0
  refine dH Try.func27 ?_
  have hO := aI.start H0
  unfold uJ at h0
  refine aX aD 1 [] [] ?_
  refine bV aD 15 [(4, (aE ((((decide ((0 : Int) < cH)) && (decide (cH ≤ (1099511627776 : Int)))) && (decide ((0 : Int) < hop1))) && (decide (hop1 ≤ (1099511627776 : Int))))))] ?_
  refine bL ?_
  obtain rfl := oI h0
  exact aG (Q_r hO)

theorem zN (t0 : Int) (r : Bool) (h0 : mC t0 = some r) : dJ Try.prog 28 [(eI t0)] (aE r) := by
  intro H0
  refine dH Try.func28 ?_
  have hO := aI.start H0
  unfold mC at h0
  refine aX aD 1 [] [] ?_
  refine bV aD 7 [(2, (aE ((decide ((0 : Int) ≤ t0)) && (decide (t0 ≤ (1125899906842624 : Int))))))] ?_
  refine bL ?_
  obtain rfl := oI h0
  exact aG (Q_r hO)

theorem KK (cH : Int) (t1 : Int) (r : Int) (h0 : uE cH t1 = some r) : dJ Try.prog 29 [(eI cH), (eI t1)] (eI r) := by
  intro H0
  refine dH Try.func29 ?_
  have hO := aI.start H0
  unfold uE at h0
  refine aX aD 1 [] [] ?_
  refine aL ?_
  refine aX aD 4 [] [(8, (aE (decide ((1125899906842624 : Int) < (wR (t1 + cH))))))] ?_
  refine bJ h0 (fun h0 => ?_) (fun h0 => ?_)
  · refine bV aD 1 [(4, (eI (1125899906842624 : Int)))] ?_
    refine bL ?_
    obtain rfl := oI h0
    exact aG (aO (Q_r hO))
  refine bK ?_
  refine bH [(0, (eI cH)), (1, (eI t1))] ?_
  refine bV aD 4 [(4, (eI (wR (t1 + cH))))] ?_
  refine bL ?_
  obtain rfl := oI h0
  exact aG (Q_r hO)

theorem IM (cH : Int) (hop1 : Int) (s2 : aT) (bN : Int) (bI : Int) (r : (Int × aT × Int × Int × Int)) (h0 : rL cH hop1 s2 bN bI = some r) : dJ Try.prog 30 [(eI cH), (eI hop1), (bB s2), (eI bN), (eI bI)] (.fn (.func 54) [] [(.rp (eI r.1)), (.rp (bB r.2.1)), (.rp (eI r.2.2.1)), (.rp (eI r.2.2.2.1)), (.rp (eI r.2.2.2.2))]) := by
  intro H0
  refine dH Try.func30 ?_
  have hO := aI.start H0
  unfold rL at h0
  refine aL ?_
  refine aW aD 6 ?_
  refine gC 1 (eI cH) (by kernel_rfl) (by kernel_rfl) ?_
  refine gC 1 (eI hop1) (by kernel_rfl) (by kernel_rfl) ?_
  refine gC 2 (bB s2) (by kernel_rfl) (by kernel_rfl) ?_
  refine gC 1 (eI bN) (by kernel_rfl) (by kernel_rfl) ?_
  refine gC 1 (eI bI) (by kernel_rfl) (by kernel_rfl) ?_
  refine bG ?_
  refine bH [(5, (.rp (eI cH))), (6, (.rp (eI hop1))), (7, (.rp (bB s2))), (8, (.rp (eI bN))), (9, (.rp (eI bI)))] ?_
  refine bV aD 2 [(10, (.fn (.func 54) [] [(.rp (eI hop1)), (.rp (bB s2)), (.rp (eI cH)), (.rp (eI bN)), (.rp (eI bI))]))] ?_
  refine bL ?_
  obtain rfl := oI h0
  exact aG (mZ (x := (.fn (.func 54) [] [(.rp (eI hop1)), (.rp (bB s2)), (.rp (eI cH)), (.rp (eI bN)), (.rp (eI bI))])) (by kernel_rfl) (aN.refl _) ⟨rfl, hO.out⟩)

theorem CM {σ : Type} (I : σ → Gs → Prop) (yield0_b : Nat) (cW : σ → Int → Option (σ × Bool)) (yield0_h : ∀ st a0 st2 r, cW st a0 = some (st2, r) → BV Try.prog (yv yield0_b) I st [(eI a0)] st2 (aE r)) (t1 : Int) (t2 : aT) (t3 : Int) (t4 : Int) (t5 : Int) (sg0 : σ) (r : σ) (h0 : nU cW t1 t2 t3 t4 t5 sg0 = some r) : yF Try.prog 54 I sg0 [(yv yield0_b), (.rp (eI t1)), (.rp (bB t2)), (.rp (eI t3)), (.rp (eI t4)), (.rp (eI t5))] r (.tup []) := by
  intro H0 G0 hI hg
  refine dH Try.func54 ?_
  obtain ⟨G, hO, hI⟩ : ∃ G, aI ⟨H0, List.map (fun p : Nat × dO => p.1) G0, G⟩ H0 [] ∧ I sg0 G := ⟨G0, aI.FC hg, hI⟩
  clear hg
  unfold nU at h0
  refine aL ?_
  refine eS (eU [9, 11, 12, 14, 15, 16, 18]) aD 12 ?_
  refine jZ 5 ?_
  obtain ⟨x1, hx2, h0⟩ := aZ h0
  refine yL (CF t1 (wR (t2.From - t3)) _ hx2) hO ?_
  intro H hO
  refine jZ 9 ?_
  obtain ⟨x4, hx5, h0⟩ := aZ h0
  refine yL (CF t1 (wR (t4 - (1 : Int))) _ hx5) hO ?_
  intro H hO
  refine gK ?_
  refine bZ [3, 4] [(7, (eI (if x4 > x1 then x4 else x1)))] ?_
  refine aX aD 2 [7] [(8, (eI (if x4 > x1 then x4 else x1)))] ?_
  refine cA 0 ?_
  refine eG [(0, (yv yield0_b)), (1, (.rp (eI t1))), (2, (.rp (bB t2))), (5, (.rp (eI t5))), (8, (eI (if x4 > x1 then x4 else x1)))] ?_
  refine dY (fun T H => ∃ sg : σ, ∃ t8 : Int, ∃ G : Gs, Has T [(0, (yv yield0_b)), (1, (.rp (eI t1))), (2, (.rp (bB t2))), (5, (.rp (eI t5))), (8, (eI t8))] ∧ aI ⟨H0, List.map (fun p : Nat × dO => p.1) G0, G⟩ H [] ∧ I sg G ∧ oV cW sg t1 t2 t5 t8 = some r) ?_ ⟨sg0, if x4 > x1 then x4 else x1, G, .eq (by kernel_rfl), hO, hI, h0⟩
  clear hO hI h0
  rintro T H ⟨sg, t8, G, hT, hO, hI, h0⟩
  refine bD hT ?_
  clear hT
  unfold oV at h0
  obtain ⟨rr0, hl0, h0⟩ := aZ h0
  refine cR (by kernel_rfl) (fun (s : σ × Int) T H => ∃ G : Gs, Has T [(0, (yv yield0_b)), (1, (.rp (eI t1))), (2, (.rp (bB t2))), (5, (.rp (eI t5))), (8, (eI s.2))] ∧ aI ⟨H0, List.map (fun p : Nat × dO => p.1) G0, G⟩ H [] ∧ I s.1 G) hl0 ⟨G, .eq (by kernel_rfl), hO, hI⟩ ?_
  clear hO hI
  rintro k0 s out1 T H ⟨G, hT, hO, hI⟩ h1 ho0
  obtain ⟨sg, t8⟩ := s
  replace h1 : jN cW t1 t2 t5 sg t8 = some out1 := h1
  try dsimp only at hT
  refine bD hT ?_
  clear hT
  unfold jN at h1
  refine aL ?_
  refine aX aD 6 [] [(26, (aE (decide (t8 < (if (1125899906842624 : Int) < (if t5 < t2.To then t5 else t2.To) then (1125899906842624 : Int) else (if t5 < t2.To then t5 else t2.To))))))] ?_
  refine bJ h1 (fun h1 => ?_) (fun h1 => ?_)
  · refine bK ?_
    refine bH [(0, (yv yield0_b)), (1, (.rp (eI t1))), (2, (.rp (bB t2))), (5, (.rp (eI t5))), (8, (eI t8))] ?_
    refine aL ?_
    refine cA 1 ?_
    refine aL ?_
    refine aW aD 4 ?_
    refine bU 2 ?_
    obtain ⟨x8, hx9, h1⟩ := aZ h1
    refine JD (I := I) (yv yield0_b) [(eI t8)] (aE x8.2) (by kernel_rfl) (by kernel_rfl) (yield0_h _ t8 x8.1 x8.2 hx9) hO hI ?_
    intro G H hO hI
    refine bG ?_
    refine bZ [] [(33, (aE (!x8.2)))] ?_
    refine bJ h1 (fun h1 => ?_) (fun h1 => ?_)
    · refine bL ?_
      obtain rfl := oI h1
      obtain rfl : _ = rr0 := ho0
      replace h0 : some x8.1 = some r := h0
      obtain rfl := oI h0
      exact aG (bE (aO (aO (bE (mZ (x := (.tup [])) (by kernel_rfl) (aN.refl _) ⟨rfl, G, hI, hO.zW⟩)))))
    refine bK ?_
    refine eP [(0, (yv yield0_b)), (1, (.rp (eI t1))), (2, (.rp (bB t2))), (5, (.rp (eI t5))), (8, (eI t8))] ?_
    refine aG (aY (aF (?_)))
    refine aW aD 4 ?_
    refine bG ?_
    exact aG (aF (⟨rfl, _, (oI h1).symm, _, .eq (by kernel_rfl), hO, hI⟩))
  refine eR 0 ?_
  obtain rfl := oI h1
  obtain rfl : _ = rr0 := ho0
  replace h0 : some sg = some r := h0
  obtain rfl := oI h0
  exact aG (aV (aV (bS (zI (x := (.tup [])) (by kernel_rfl) (aN.refl _) ⟨rfl, G, hI, hO.zW⟩))))

theorem SJ (cH : Int) (hop1 : Int) (s2 : aT) (bN : Int) (bI : Int) (r : ((List Int) × Int)) (h0 : vG cH hop1 s2 bN bI = some r) : dJ Try.prog 12 [(eI cH), (eI hop1), (bB s2), (eI bN), (eI bI)] (.tup [(eL (eI) r.1), (eI r.2)]) := by
  intro H0
  refine ET aD Try.func12 (by kernel_rfl) (by kernel_rfl) (by kernel_rfl) ?_
  have hO := aI.start H0
  unfold vG at h0
  refine aL ?_
  refine aW aD 3 ?_
  refine gC 2 (bB s2) (by kernel_rfl) (by kernel_rfl) ?_
  refine FT 1 (.sl true 0 (fun _ => .bad)) (eL (eI) ([])) (by kernel_rfl) (by kernel_rfl) (by kernel_rfl) (jT) (by kernel_rfl) (by kernel_rfl) hO ?_
  intro lo1 H hO
  refine lR 1 (eI 0) (by kernel_rfl) (by kernel_rfl) hO ?_
  intro lo2 H hO
  refine eT ?_
  refine bZ [2] [(7, (.rp (bB s2))), (10, (.lp lo1 0 0)), (11, (.lp lo2 0 0))] ?_
  refine aL ?_
  refine cA 0 ?_
  refine aL ?_
  refine aW aD 5 ?_
  refine bU 2 ?_
  obtain ⟨x3, hx4, h0⟩ := aZ h0
  refine dQ (HH cH hop1 _ hx4) hO ?_
  intro H hO
  refine bG ?_
  refine bZ [] [(14, (aE (!x3)))] ?_
  refine bJ h0 (fun h0 => ?_) (fun h0 => ?_)
  · refine aL ?_
    refine aW aD 2 ?_
    refine jW 0 lo1 1 0 (eL (eI) ([])) (.sl true 0 (fun _ => .bad)) [(eL (eI) ([]))] [(lo1, 1, [(.sl true 0 (fun _ => .bad))]), (lo2, 1, [(eI 0)])] hO rfl (by kernel_rfl) ?_
    intro H hO
    refine jW 1 lo2 1 0 (eI 0) (eI (2 : Int)) [(eI 0)] [(lo1, 1, [(.sl true 0 (fun _ => .bad))]), (lo2, 1, [(eI (2 : Int))])] hO rfl (by kernel_rfl) ?_
    intro H hO
    refine eT ?_
    refine vI 0 lo1 1 (.sl true 0 (fun _ => .bad)) (eL (eI) ([])) [(lo1, 1, [(eL (eI) ([]))]), (lo2, 1, [(eI (2 : Int))])] hO (by kernel_rfl) (by kernel_rfl) jT (by kernel_rfl) ?_
    intro H hO
    refine bH [(10, (.lp lo1 0 0)), (11, (.lp lo2 0 0))] ?_
    refine bL ?_
    obtain rfl := oI h0
    exact aG (bE (aO (QM0 (.inr rfl) (rs := [.cell 10 30, .cell 11 22]) (xs := [(eL (eI) ([])), (eI (2 : Int))]) (x := (.tup [(eL (eI) ([])), (eI (2 : Int))])) (by kernel_rfl) (iS (lo := lo1) (k := 1) (y := (eL (eI) ([]))) (x := (eL (eI) ([]))) 0 hO (by kernel_rfl) (by kernel_rfl) (by kernel_rfl) (by kernel_rfl) (iS (lo := lo2) (k := 1) (y := (eI (2 : Int))) (x := (eI (2 : Int))) 1 hO (by kernel_rfl) (by kernel_rfl) (by kernel_rfl) (by kernel_rfl) nK)) (by kernel_rfl) ⟨rfl, hO.out⟩)))
  refine aL ?_
  refine aW aD 9 ?_
  refine bU 1 ?_
  obtain ⟨x7, hx8, h0⟩ := aZ h0
  refine dQ (zF bN _ hx8) hO ?_
  intro H hO
  refine bU 5 ?_
  obtain ⟨x10, hx11, h0⟩ := aZ h0
  refine lX [(23, false)] 25 [(eI bI)] (aE x10) (!(!x7)) (by kernel_rfl) (by kernel_rfl) (by kernel_rfl) (fun hb12 => (zF bI _ (gV hx11 hb12))) hO ?_
  intro H hO
  refine bG ?_
  refine bZ [14] [(19, (aE ((!x7) || (!x10))))] ?_
  refine bJ h0 (fun h0 => ?_) (fun h0 => ?_)
  · refine aL ?_
    refine aW aD 2 ?_
    refine jW 0 lo1 1 0 (eL (eI) ([])) (.sl true 0 (fun _ => .bad)) [(eL (eI) ([]))] [(lo1, 1, [(.sl true 0 (fun _ => .bad))]), (lo2, 1, [(eI 0)])] hO rfl (by kernel_rfl) ?_
    intro H hO
    refine jW 1 lo2 1 0 (eI 0) (eI (13 : Int)) [(eI 0)] [(lo1, 1, [(.sl true 0 (fun _ => .bad))]), (lo2, 1, [(eI (13 : Int))])] hO rfl (by kernel_rfl) ?_
    intro H hO
    refine eT ?_
    refine vI 0 lo1 1 (.sl true 0 (fun _ => .bad)) (eL (eI) ([])) [(lo1, 1, [(eL (eI) ([]))]), (lo2, 1, [(eI (13 : Int))])] hO (by kernel_rfl) (by kernel_rfl) jT (by kernel_rfl) ?_
    intro H hO
    refine bH [(10, (.lp lo1 0 0)), (11, (.lp lo2 0 0))] ?_
    refine bL ?_
    obtain rfl := oI h0
    exact aG (bE (aO (QM0 (.inr rfl) (rs := [.cell 10 30, .cell 11 22]) (xs := [(eL (eI) ([])), (eI (13 : Int))]) (x := (.tup [(eL (eI) ([])), (eI (13 : Int))])) (by kernel_rfl) (iS (lo := lo1) (k := 1) (y := (eL (eI) ([]))) (x := (eL (eI) ([]))) 0 hO (by kernel_rfl) (by kernel_rfl) (by kernel_rfl) (by kernel_rfl) (iS (lo := lo2) (k := 1) (y := (eI (13 : Int))) (x := (eI (13 : Int))) 1 hO (by kernel_rfl) (by kernel_rfl) (by kernel_rfl) (by kernel_rfl) nK)) (by kernel_rfl) ⟨rfl, hO.out⟩)))
  refine aX aD 16 [19] [(28, (aE (((decide (s2.From < (-1 : Int))) || (decide (s2.To ≤ s2.From))) || (decide ((1125899906842624 : Int) < s2.To)))))] ?_
  refine bJ h0 (fun h0 => ?_) (fun h0 => ?_)
  · refine aL ?_
    refine aW aD 2 ?_
    refine jW 0 lo1 1 0 (eL (eI) ([])) (.sl true 0 (fun _ => .bad)) [(eL (eI) ([]))] [(lo1, 1, [(.sl true 0 (fun _ => .bad))]), (lo2, 1, [(eI 0)])] hO rfl (by kernel_rfl) ?_
    intro H hO
    refine jW 1 lo2 1 0 (eI 0) (eI (14 : Int)) [(eI 0)] [(lo1, 1, [(.sl true 0 (fun _ => .bad))]), (lo2, 1, [(eI (14 : Int))])] hO rfl (by kernel_rfl) ?_
    intro H hO
    refine eT ?_
    refine vI 0 lo1 1 (.sl true 0 (fun _ => .bad)) (eL (eI) ([])) [(lo1, 1, [(eL (eI) ([]))]), (lo2, 1, [(eI (14 : Int))])] hO (by kernel_rfl) (by kernel_rfl) jT (by kernel_rfl) ?_
    intro H hO
    refine bH [(10, (.lp lo1 0 0)), (11, (.lp lo2 0 0))] ?_
    refine bL ?_
    obtain rfl := oI h0
    exact aG (bE (aO (QM0 (.inr rfl) (rs := [.cell 10 30, .cell 11 22]) (xs := [(eL (eI) ([])), (eI (14 : Int))]) (x := (.tup [(eL (eI) ([])), (eI (14 : Int))])) (by kernel_rfl) (iS (lo := lo1) (k := 1) (y := (eL (eI) ([]))) (x := (eL (eI) ([]))) 0 hO (by kernel_rfl) (by kernel_rfl) (by kernel_rfl) (by kernel_rfl) (iS (lo := lo2) (k := 1) (y := (eI (14 : Int))) (x := (eI (14 : Int))) 1 hO (by kernel_rfl) (by kernel_rfl) (by kernel_rfl) (by kernel_rfl) nK)) (by kernel_rfl) ⟨rfl, hO.out⟩)))
  refine bK ?_
  refine eP [(0, (eI cH)), (1, (eI hop1)), (3, (eI bN)), (4, (eI bI)), (7, (.rp (bB s2))), (10, (.lp lo1 0 0)), (11, (.lp lo2 0 0))] ?_
  refine aG (aY (aF (?_)))
  refine aL ?_
  refine aW aD 3 ?_
  refine mR (xs := []) (k := 1) (by kernel_rfl) (by kernel_rfl) ?_
  refine FT 1 (.sl true 0 (fun _ => .bad)) (eL (eI) ([])) (by kernel_rfl) (by kernel_rfl) (by kernel_rfl) (jT) (by kernel_rfl) (by kernel_rfl) hO ?_
  intro lo15 H hO
  refine aDR 44 1 (fun _ => .bad) (by kernel_rfl) hO (by kernel_rfl) ?_
  intro lo16 H hO
  refine jW 2 lo15 1 0 (eL (eI) ([])) (.msl 1 lo16 0 (List.length ([] : List Int))) [(eL (eI) ([]))] [(lo1, 1, [(eL (eI) ([]))]), (lo2, 1, [(eI 0)]), (lo15, 1, [(.msl 1 lo16 0 (List.length ([] : List Int)))]), (lo16, 1, List.map (eI) ([] : List Int))] hO rfl (by kernel_rfl) ?_
  intro H hO
  refine eT ?_
  refine bZ [] [(12, (.lp lo15 0 0))] ?_
  refine aL ?_
  refine aL ?_
  refine aW aD 6 ?_
  refine bU 5 ?_
  obtain ⟨x17, hx18, h0⟩ := aZ h0
  refine dQ (IM cH hop1 s2 bN bI _ hx18) hO ?_
  intro H hO
  refine eT ?_
  refine bZ [0, 1, 3, 4, 7] [(50, (.fn (.func 54) [] [(.rp (eI x17.1)), (.rp (bB x17.2.1)), (.rp (eI x17.2.2.1)), (.rp (eI x17.2.2.2.1)), (.rp (eI x17.2.2.2.2))]))] ?_
  refine cA 1 ?_
  refine eG [(10, (.lp lo1 0 0)), (11, (.lp lo2 0 0)), (12, (.lp lo15 0 0)), (50, (.fn (.func 54) [] [(.rp (eI x17.1)), (.rp (bB x17.2.1)), (.rp (eI x17.2.2.1)), (.rp (eI x17.2.2.2.1)), (.rp (eI x17.2.2.2.2))]))] ?_
  refine dY (fun T H => ∃ t10 : (List Int), ∃ t11 : Int, ∃ iQ : List Int, ∃ wJ : Int, ∃ wV : aT, ∃ wF : Int, ∃ vZ : Int, ∃ xA : Int, ∃ lo19 : Nat, Has T [(10, (.lp lo1 0 0)), (11, (.lp lo2 0 0)), (12, (.lp lo15 0 0)), (50, (.fn (.func 54) [] [(.rp (eI wJ)), (.rp (bB wV)), (.rp (eI wF)), (.rp (eI vZ)), (.rp (eI xA))]))] ∧ aI ⟨H0, [], []⟩ H [(lo1, 1, [(eL (eI) t10)]), (lo2, 1, [(eI t11)]), (lo15, 1, [(.msl 1 lo19 0 (List.length iQ))]), (lo19, 1, List.map (eI) iQ)] ∧ xT t10 t11 iQ wJ wV wF vZ xA = some r) ?_ ⟨[], 0, ([] : List Int), x17.1, x17.2.1, x17.2.2.1, x17.2.2.2.1, x17.2.2.2.2, lo16, .eq (by kernel_rfl), hO, h0⟩
  clear hO h0
  rintro T H ⟨t10, t11, iQ, wJ, wV, wF, vZ, xA, lo19, hT, hO, h0⟩
  refine bD (l := [(10, (.lp lo1 0 0)), (11, (.lp lo2 0 0)), (12, (.lp lo15 0 0)), (50, (.fn (.func 54) [] [(.rp (eI wJ)), (.rp (bB wV)), (.rp (eI wF)), (.rp (eI vZ)), (.rp (eI xA))]))]) hT ?_
  clear hT
  unfold xT at h0
  obtain ⟨o0, hl0, h0⟩ := aZ h0
  refine CD (fid := 54) (ys := []) (cs := [(.rp (eI wJ)), (.rp (bB wV)), (.rp (eI wF)), (.rp (eI vZ)), (.rp (eI xA))]) #[51] (fun (A : uV) (b lL : Nat) (st : ((List Int) × Int × List Int) ⊕ ((List Int) × Int × List Int)) (G' : Gs) => Sum.elim (fun (s : (List Int) × Int × List Int) => ∃ lo19 : Nat, G' = (lL, .raw (gZ b A .ready none)) :: (up [(lo1, 1, [(eL (eI) s.1)]), (lo2, 1, [(eI s.2.1)]), (lo15, 1, [(.msl 1 lo19 0 (List.length s.2.2))]), (lo19, 1, List.map (eI) s.2.2)] ++ [])) (fun (s : (List Int) × Int × List Int) => ∃ lo19 : Nat, G' = (lL, .raw (gZ b A .done (some .ret))) :: (up [(lo1, 1, [(eL (eI) s.1)]), (lo2, 1, [(eI s.2.1)]), (lo15, 1, [(.msl 1 lo19 0 (List.length s.2.2))]), (lo19, 1, List.map (eI) s.2.2)] ++ [])) st) (.inl (t10, t11, iQ)) o0 (.tup []) (by kernel_rfl) (by kernel_rfl) (by kernel_rfl) hO (fun _ _ => ⟨lo19, rfl⟩) ?_ ?_
  · intro b lL
    clear hO h0
    refine CM _ b (fun st t51 => rnd (fun (s : (List Int) × Int × List Int) => mE wJ wV wF vZ xA s.1 s.2.1 s.2.2 t51) st) ?_ wJ wV wF vZ xA _ _ hl0
    intro st t51 out1 rr hr
    obtain ⟨s, rfl, h1, rfl⟩ := PK hr
    clear hr
    intro Hr Gr hi hg
    obtain ⟨t10, t11, iQ⟩ := s
    dsimp only [Sum.elim_inl] at hi
    obtain ⟨lo19, rfl⟩ := hi
    replace h1 : mE wJ wV wF vZ xA t10 t11 iQ t51 = some out1 := h1
    unfold mE at h1
    obtain ⟨E1, hE, hO⟩ := tW hg
    refine tY (zZ (hO.gm 0 _ rfl).2 (by kernel_rfl) (by kernel_rfl) ?_)
    refine eG [(10, (.lp lo1 0 0)), (11, (.lp lo2 0 0)), (12, (.lp lo15 0 0)), (50, (.fn (.func 54) [] [(.rp (eI wJ)), (.rp (bB wV)), (.rp (eI wF)), (.rp (eI vZ)), (.rp (eI xA))])), (51, (eI t51))] ?_
    refine aW aD 1 ?_
    refine bG ?_
    refine eP [(10, (.lp lo1 0 0)), (11, (.lp lo2 0 0)), (12, (.lp lo15 0 0)), (13, (eI t51))] ?_
    refine aG (⟨rfl, rfl, (hO.gm 0 _ rfl).2, ?_⟩)
    intro o1 ho1
    replace hO := hO.qA o1
    refine cA 2 ?_
    refine aL ?_
    refine aL ?_
    refine aW aD 3 ?_
    refine oQ 2 lo15 1 0 (.msl 1 lo19 0 (List.length iQ)) (.msl 1 lo19 0 (List.length iQ)) [(.msl 1 lo19 0 (List.length iQ))] hO rfl ?_
    refine bG ?_
    refine bZ [] [(54, (aE (decide ((lN iQ) = (1024 : Int)))))] ?_
    refine bJ h1 (fun h1 => ?_) (fun h1 => ?_)
    · refine aL ?_
      refine aW aD 2 ?_
      refine jW 0 lo1 1 0 (eL (eI) t10) (.sl true 0 (fun _ => .bad)) [(eL (eI) t10)] [(lo1, 1, [(.sl true 0 (fun _ => .bad))]), (lo2, 1, [(eI t11)]), (lo15, 1, [(.msl 1 lo19 0 (List.length iQ))]), (lo19, 1, List.map (eI) iQ)] hO rfl (by kernel_rfl) ?_
      intro H hO
      refine jW 1 lo2 1 0 (eI t11) (eI (7 : Int)) [(eI t11)] [(lo1, 1, [(.sl true 0 (fun _ => .bad))]), (lo2, 1, [(eI (7 : Int))]), (lo15, 1, [(.msl 1 lo19 0 (List.length iQ))]), (lo19, 1, List.map (eI) iQ)] hO rfl (by kernel_rfl) ?_
      intro H hO
      refine eT ?_
      refine vI 0 lo1 1 (.sl true 0 (fun _ => .bad)) (eL (eI) ([])) [(lo1, 1, [(eL (eI) ([]))]), (lo2, 1, [(eI (7 : Int))]), (lo15, 1, [(.msl 1 lo19 0 (List.length iQ))]), (lo19, 1, List.map (eI) iQ)] hO (by kernel_rfl) (by kernel_rfl) jT (by kernel_rfl) ?_
      intro H hO
      refine bH [(10, (.lp lo1 0 0)), (11, (.lp lo2 0 0)), (12, (.lp lo15 0 0))] ?_
      refine bL ?_
      refine eP [(10, (.lp lo1 0 0)), (11, (.lp lo2 0 0)), (12, (.lp lo15 0 0))] ?_
      obtain rfl := oI h1
      exact aG (aO (bE (⟨(fC hO hE ho1 .dead).1, rfl, _, ⟨lo19, rfl⟩, (fC hO hE ho1 _).2⟩)))
    refine bK ?_
    refine bH [(10, (.lp lo1 0 0)), (11, (.lp lo2 0 0)), (12, (.lp lo15 0 0)), (13, (eI t51))] ?_
    refine aW aD 5 ?_
    refine oQ 2 lo15 1 0 (.msl 1 lo19 0 (List.length iQ)) (.msl 1 lo19 0 (List.length iQ)) [(.msl 1 lo19 0 (List.length iQ))] hO rfl ?_
    refine bU 2 ?_
    refine mR (xs := [(eI t51)]) (k := 1) (by kernel_rfl) (by kernel_rfl) ?_
    obtain ⟨c22, h1⟩ := bA h1
    refine pM (e := (eI)) iQ ([t51]) 3 lo19 1 8 (eK [(eI t51)]) (fun lo21 => [(lo1, 1, [(eL (eI) t10)]), (lo2, 1, [(eI t11)]), (lo15, 1, [(.msl 1 lo19 0 (List.length iQ))]), (lo21, 1, List.map (eI) (iQ ++ ([t51])))]) (by kernel_rfl) (by kernel_rfl) hO (by kernel_rfl) (by kernel_rfl) c22 (fun _ => by kernel_rfl) ?_
    intro lo21 H hO
    refine jW 2 lo15 1 0 (.msl 1 lo19 0 (List.length iQ)) (.msl 1 lo21 0 (List.length (iQ ++ ([t51])))) [(.msl 1 lo19 0 (List.length iQ))] [(lo1, 1, [(eL (eI) t10)]), (lo2, 1, [(eI t11)]), (lo15, 1, [(.msl 1 lo21 0 (List.length (iQ ++ ([t51]))))]), (lo21, 1, List.map (eI) (iQ ++ ([t51])))] hO rfl (by kernel_rfl) ?_
    intro H hO
    refine eT ?_
    refine eP [(10, (.lp lo1 0 0)), (11, (.lp lo2 0 0)), (12, (.lp lo15 0 0))] ?_
    obtain rfl := oI h1
    exact aG (aY (⟨(fC hO hE ho1 .dead).1, rfl, _, ⟨lo21, rfl⟩, (fC hO hE ho1 _).2⟩))
  · intro b lD23 lL H' G' hi hO
    rcases o0 with s | s
    · dsimp only [Sum.elim_inl] at hi
      obtain ⟨lo19, rfl⟩ := hi
      replace h0 : (some (s.2.2, (0 : Int))) = some r := h0
      obtain ⟨hlL, hO⟩ := oB hO
      refine ⟨_, _, hlL, (by intro e; cases e), ?_⟩
      refine eP [(10, (.lp lo1 0 0)), (11, (.lp lo2 0 0)), (12, (.lp lo15 0 0))] ?_
      refine aG (aY (aF (?_)))
      refine aL ?_
      refine ZM (e := (eI)) s.2.2 2 3 1 1 lo15 lo19 (List.length s.2.2) [(lo1, 1, [(eL (eI) s.1)]), (lo2, 1, [(eI s.2.1)]), (lo15, 1, [(eL (eI) s.2.2)])] hO (by kernel_rfl) (by kernel_rfl) (by kernel_rfl) (.inr (by decide)) (by kernel_rfl) ?_
      intro H hO
      refine aW aD 3 ?_
      refine oQ 2 lo15 1 0 (eL (eI) s.2.2) (eL (eI) s.2.2) [(eL (eI) s.2.2)] hO rfl ?_
      refine jW 0 lo1 1 0 (eL (eI) s.1) (eL (eI) s.2.2) [(eL (eI) s.1)] [(lo1, 1, [(eL (eI) s.2.2)]), (lo2, 1, [(eI s.2.1)]), (lo15, 1, [(eL (eI) s.2.2)])] hO rfl (by kernel_rfl) ?_
      intro H hO
      refine jW 1 lo2 1 0 (eI s.2.1) (eI (0 : Int)) [(eI s.2.1)] [(lo1, 1, [(eL (eI) s.2.2)]), (lo2, 1, [(eI (0 : Int))]), (lo15, 1, [(eL (eI) s.2.2)])] hO rfl (by kernel_rfl) ?_
      intro H hO
      refine eT ?_
      replace hO := hO.pick (L' := [(lo1, 1, [(eL (eI) s.2.2)]), (lo2, 1, [(eI (0 : Int))])]) [0, 1] (by decide) (by kernel_rfl)
      refine bZ [12] [] ?_
      refine bL ?_
      obtain rfl := oI h0
      have hD := (hO.gm 0 _ rfl).2
      replace hO := (hO.qA .dead).qY
      exact aG (QM1 (.inr rfl) hD (rs := [.cell 10 30, .cell 11 22]) (xs := [(eL (eI) s.2.2), (eI (0 : Int))]) (x := (.tup [(eL (eI) s.2.2), (eI (0 : Int))])) (by kernel_rfl) (iS (lo := lo1) (k := 1) (y := (eL (eI) s.2.2)) (x := (eL (eI) s.2.2)) 0 hO (by kernel_rfl) (by kernel_rfl) (by kernel_rfl) (by kernel_rfl) (iS (lo := lo2) (k := 1) (y := (eI (0 : Int))) (x := (eI (0 : Int))) 1 hO (by kernel_rfl) (by kernel_rfl) (by kernel_rfl) (by kernel_rfl) nK)) (by kernel_rfl) ⟨rfl, hO.out⟩)
    · dsimp only [Sum.elim_inr] at hi
      obtain ⟨lo19, rfl⟩ := hi
      replace h0 : (some (s.1, s.2.1)) = some r := h0
      obtain ⟨hlL, hO⟩ := oB hO
      refine ⟨_, _, hlL, (by intro e; cases e), ?_⟩
      refine bL ?_
      replace hO := hO.pick (L' := [(lo1, 1, [(eL (eI) s.1)]), (lo2, 1, [(eI s.2.1)])]) [0, 1] (by decide) (by kernel_rfl)
      obtain rfl := oI h0
      have hD := (hO.gm 0 _ rfl).2
      replace hO := (hO.qA .dead).qY
      exact aG (bE (aO (QM1 (.inr rfl) hD (rs := [.cell 10 30, .cell 11 22]) (xs := [(eL (eI) s.1), (eI s.2.1)]) (x := (.tup [(eL (eI) s.1), (eI s.2.1)])) (by kernel_rfl) (iS (lo := lo1) (k := 1) (y := (eL (eI) s.1)) (x := (eL (eI) s.1)) 0 hO (by kernel_rfl) (by kernel_rfl) (by kernel_rfl) (by kernel_rfl) (iS (lo := lo2) (k := 1) (y := (eI s.2.1)) (x := (eI s.2.1)) 1 hO (by kernel_rfl) (by kernel_rfl) (by kernel_rfl) (by kernel_rfl) nK)) (by kernel_rfl) ⟨rfl, hO.out⟩)))

theorem JX (l0 : (List aR)) (r : (List aR)) (h0 : uF l0 = some r) : dJ Try.prog 56 [(eL aQ l0)] (.fn (.func 74) [] [(.rp (eL aQ r))]) := by
  intro H0
  refine dH Try.func56 ?_
  have hO := aI.start H0
  unfold uF at h0
  refine aL ?_
  refine aW aD 2 ?_
  refine gC 1 (eL aQ l0) (by kernel_rfl) (by kernel_rfl) ?_
  refine bG ?_
  refine bH [(1, (.rp (eL aQ l0)))] ?_
  refine bV aD 2 [(2, (.fn (.func 74) [] [(.rp (eL aQ l0))]))] ?_
  refine bL ?_
  obtain rfl := oI h0
  exact aG (mZ (x := (.fn (.func 74) [] [(.rp (eL aQ l0))])) (by kernel_rfl) (aN.refl _) ⟨rfl, hO.out⟩)

theorem yG (s10 : (List aC)) (s21 : (List aC)) (r : Bool) (h0 : kC s10 s21 = some r) : dJ Try.prog 76 [(eL aB s10), (eL aB s21)] (aE r) := by
  intro H0
  refine dH Try.func76 ?_
  have hO := aI.start H0
  unfold kC at h0
  refine aX aD 1 [] [] ?_
  refine aL ?_
  refine aX aD 5 [] [(10, (aE (!decide ((lN s10) = (lN s21)))))] ?_
  refine bJ h0 (fun h0 => ?_) (fun h0 => ?_)
  · refine bV aD 1 [(4, (aE false))] ?_
    refine bL ?_
    obtain rfl := oI h0
    exact aG (aO (Q_r hO))
  refine bK ?_
  refine bH [(0, (eL aB s10)), (1, (eL aB s21))] ?_
  refine dP (fun T H => Has T [] ∧ aI ⟨H0, [], []⟩ H [] ∧ iB  = some r) ?_ ?_
  · clear hO h0
    rintro T H ⟨hT, hO, h0⟩
    refine bD hT ?_
    clear hT
    unfold iB at h0
    refine bV aD 1 [(4, (aE true))] ?_
    refine bL ?_
    obtain rfl := oI h0
    exact aG (Q_r hO)
  refine aX aD 3 [] [(12, (eI (lN s10))), (13, (eI (0 : Int)))] ?_
  refine cA 0 ?_
  refine eG [(0, (eL aB s10)), (1, (eL aB s21)), (12, (eI (lN s10))), (13, (eI (0 : Int)))] ?_
  refine dY (fun T H => ∃ t12 : Int, ∃ t13 : Int, Has T [(0, (eL aB s10)), (1, (eL aB s21)), (12, (eI t12)), (13, (eI t13))] ∧ aI ⟨H0, [], []⟩ H [] ∧ jX s10 s21 t12 t13 = some r) ?_ ⟨(lN s10), (0 : Int), .eq (by kernel_rfl), hO, h0⟩
  clear hO h0
  rintro T H ⟨t12, t13, hT, hO, h0⟩
  refine bD hT ?_
  clear hT
  unfold jX at h0
  obtain ⟨rr0, hl0, h0⟩ := aZ h0
  refine cR (by kernel_rfl) (fun (s : Int) T H => Has T [(0, (eL aB s10)), (1, (eL aB s21)), (12, (eI t12)), (13, (eI s))] ∧ aI ⟨H0, [], []⟩ H []) hl0 ⟨.eq (by kernel_rfl), hO⟩ ?_
  clear hO
  rintro k0 s out1 T H ⟨hT, hO⟩ h1 ho0
  obtain ⟨t13, rfl⟩ : ∃ x, x = s := ⟨_, rfl⟩
  replace h1 : fP s10 s21 t12 t13 = some out1 := h1
  refine bD hT ?_
  clear hT
  unfold fP at h1
  refine aX aD 1 [] [(14, (aE (decide (t13 < t12))))] ?_
  refine aL ?_
  refine bJ h1 (fun h1 => ?_) (fun h1 => ?_)
  · refine bK ?_
    refine bH [(0, (eL aB s10)), (1, (eL aB s21)), (12, (eI t12)), (13, (eI t13))] ?_
    refine aL ?_
    refine cA 1 ?_
    refine aX aD 2 [] [(5, (eI t13))] ?_
    refine aL ?_
    refine eS (eU [19, 23]) aD 9 ?_
    obtain ⟨c3, h1⟩ := bA h1
    obtain ⟨c4, h1⟩ := bA h1
    refine AS (Ds := [0 ≤ t13 ∧ t13 < (lN s10), 0 ≤ t13 ∧ t13 < (lN s21)]) (by kernel_rfl) ⟨c3, c4, trivial⟩ ?_
    refine bZ [5] [(24, (aE (!((decide (((gD s10 t13).Kind) = ((gD s21 t13).Kind))) && ((decide (((gD s10 t13).Num) = ((gD s21 t13).Num))) && ((oA ((gD s10 t13).Text) ((gD s21 t13).Text)) && true))))))] ?_
    refine bJ h1 (fun h1 => ?_) (fun h1 => ?_)
    · refine bV aD 1 [(4, (aE false))] ?_
      refine bL ?_
      obtain rfl := oI h1
      obtain rfl : _ = rr0 := ho0
      replace h0 : some false = some r := h0
      obtain rfl := oI h0
      exact aG (bE (aO (aO (bE (aO (Q_r hO))))))
    refine bK ?_
    refine eP [(0, (eL aB s10)), (1, (eL aB s21)), (12, (eI t12)), (13, (eI t13))] ?_
    refine aG (aY (aF (?_)))
    refine aW aD 2 ?_
    refine bG ?_
    exact aG (aF (⟨rfl, _, (oI h1).symm, .eq (by kernel_rfl), hO⟩))
  refine eR 0 ?_
  obtain rfl := oI h1
  obtain rfl : _ = rr0 := ho0
  replace h0 : iB  = some r := h0
  exact aG (aV (aV (bS (aF (⟨rfl, .eq (by kernel_rfl), hO, h0⟩)))))

theorem MU (a0 : (List aC)) (b1 : (List aC)) (r : Bool) (h0 : sN a0 b1 = some r) : dJ Try.prog 58 [(eL aB a0), (eL aB b1)] (aE r) := by
  intro H0
  refine dH Try.func58 ?_
  have hO := aI.start H0
  unfold sN at h0
  refine aX aD 1 [] [] ?_
  refine aL ?_
  refine aW aD 4 ?_
  refine bU 2 ?_
  obtain ⟨x1, hx2, h0⟩ := aZ h0
  refine dQ (yG a0 b1 _ hx2) hO ?_
  intro H hO
  refine bG ?_
  refine bH [(4, (aE x1))] ?_
  refine bL ?_
  obtain rfl := oI h0
  exact aG (Q_r hO)

theorem LP (r0 : (List aC)) (r : (List aC)) (h0 : wH r0 = some r) : dJ Try.prog 59 [(eL aB r0)] (eL aB r) := by
  intro H0
  refine dH Try.func59 ?_
  have hO := aI.start H0
  unfold wH at h0
  refine aX aD 1 [] [] ?_
  refine aL ?_
  refine aW aD 6 ?_
  refine bU 2 ?_
  obtain ⟨c1, h0⟩ := bA h0
  refine PC 3 32 (lN r0) (by kernel_rfl) (by kernel_rfl) c1 hO ?_
  intro lo2 H hO
  refine bU 4 ?_
  obtain ⟨c4, h0⟩ := bA h0
  refine pM (e := aB) ([] : List aC) r0 0 lo2 3 32 (eL aB r0) (fun lo3 => [(lo3, 3, List.map aB (([] : List aC) ++ r0))]) (by kernel_rfl) (by kernel_rfl) hO (by kernel_rfl) (aCJ (fun _ => by kernel_rfl)) c4 (fun _ => by kernel_rfl) ?_
  intro lo3 H hO
  refine bG ?_
  refine bH [(2, (.msl 3 lo3 0 (List.length (([] : List aC) ++ r0))))] ?_
  refine bL ?_
  refine eP [(2, (.msl 3 lo3 0 (List.length (([] : List aC) ++ r0))))] ?_
  refine sG (en := aB) (([] : List aC) ++ r0) 0 0 2 3 lo3 (List.length (([] : List aC) ++ r0)) hO (by kernel_rfl) (by kernel_rfl) (by kernel_rfl) (L' := []) (by kernel_rfl) ?_
  intro H5 hO
  obtain rfl := oI h0
  exact aG (Q_r hO)

theorem DZ {σ : Type} (I : σ → Gs → Prop) (yield0_b : Nat) (cW : σ → (List aC) → (List aH) → Option (σ × Bool)) (yield0_h : ∀ st a0 a1 st2 r, cW st a0 a1 = some (st2, r) → BV Try.prog (yv yield0_b) I st [(eL aB a0), (eL aK a1)] st2 (aE r)) (t1 : (List aR)) (sg0 : σ) (r : σ) (h0 : oL cW t1 sg0 = some r) : yF Try.prog 74 I sg0 [(yv yield0_b), (.rp (eL aQ t1))] r (.tup []) := by
  intro H0 G0 hI hg
  refine dH Try.func74 ?_
  obtain ⟨G, hO, hI⟩ : ∃ G, aI ⟨H0, List.map (fun p : Nat × dO => p.1) G0, G⟩ H0 [] ∧ I sg0 G := ⟨G0, aI.FC hg, hI⟩
  clear hg
  unfold oL at h0
  refine aX aD 1 [] [(3, (eI (0 : Int)))] ?_
  refine cA 0 ?_
  refine eG [(0, (yv yield0_b)), (1, (.rp (eL aQ t1))), (3, (eI (0 : Int)))] ?_
  refine dY (fun T H => ∃ sg : σ, ∃ i3 : Int, ∃ G : Gs, Has T [(0, (yv yield0_b)), (1, (.rp (eL aQ t1))), (3, (eI i3))] ∧ aI ⟨H0, List.map (fun p : Nat × dO => p.1) G0, G⟩ H [] ∧ I sg G ∧ sL cW sg t1 i3 = some r) ?_ ⟨sg0, (0 : Int), G, .eq (by kernel_rfl), hO, hI, h0⟩
  clear hO hI h0
  rintro T H ⟨sg, i3, G, hT, hO, hI, h0⟩
  refine bD hT ?_
  clear hT
  unfold sL at h0
  obtain ⟨rr0, hl0, h0⟩ := aZ h0
  refine cR (by kernel_rfl) (fun (s : σ × Int) T H => ∃ G : Gs, Has T [(0, (yv yield0_b)), (1, (.rp (eL aQ t1))), (3, (eI s.2))] ∧ aI ⟨H0, List.map (fun p : Nat × dO => p.1) G0, G⟩ H [] ∧ I s.1 G) hl0 ⟨G, .eq (by kernel_rfl), hO, hI⟩ ?_
  clear hO hI
  rintro k0 s out1 T H ⟨G, hT, hO, hI⟩ h1 ho0
  obtain ⟨sg, i3⟩ := s
  replace h1 : jB cW t1 sg i3 = some out1 := h1
  try dsimp only at hT
  refine bD hT ?_
  clear hT
  unfold jB at h1
  refine aL ?_
  refine aX aD 4 [] [(9, (aE (decide (i3 < (lN t1)))))] ?_
  refine bJ h1 (fun h1 => ?_) (fun h1 => ?_)
  · refine bK ?_
    refine bH [(0, (yv yield0_b)), (1, (.rp (eL aQ t1))), (3, (eI i3))] ?_
    refine cA 1 ?_
    refine aL ?_
    refine aW aD 6 ?_
    obtain ⟨c2, h1⟩ := bA h1
    refine oJ [0 ≤ i3 ∧ i3 < (lN t1)] ⟨c2, trivial⟩ ?_
    refine bZ [] [(4, (eL aB ((gD t1 i3).Row)))] ?_
    refine aL ?_
    refine aW aD 2 ?_
    refine mR (xs := []) (k := 2) (by kernel_rfl) (by kernel_rfl) ?_
    refine bG ?_
    refine bZ [] [(5, (.sl true 0 (fun _ => .bad)))] ?_
    refine dP (fun T H => ∃ sg : σ, ∃ i3 : Int, ∃ r4 : (List aC), ∃ f5 : List aH, ∃ lo3 : Nat, ∃ G : Gs, Has T [(0, (yv yield0_b)), (1, (.rp (eL aQ t1))), (3, (eI i3)), (4, (eL aB r4)), (5, (.msl 2 lo3 0 (List.length f5)))] ∧ aI ⟨H0, List.map (fun p : Nat × dO => p.1) G0, G⟩ H [(lo3, 2, List.map aK f5)] ∧ I sg G ∧ pO cW sg t1 i3 r4 f5 = some out1) ?_ ?_
    · clear hO hI h1
      rintro T H ⟨sg, i3, r4, f5, lo3, G, hT, hO, hI, h1⟩
      refine bD hT ?_
      clear hT
      unfold pO at h1
      refine aL ?_
      refine aW aD 6 ?_
      refine aAh (e := aK) f5 0 5 2 lo3 (List.length f5) [] (by kernel_rfl) hO (by kernel_rfl) (by kernel_rfl) (by kernel_rfl) (by kernel_rfl) ?_
      intro H hO
      refine bU 2 ?_
      obtain ⟨x7, hx8, h1⟩ := aZ h1
      refine dQ (LP r4 _ hx8) hO ?_
      intro H hO
      refine bU 4 ?_
      obtain ⟨x10, hx11, h1⟩ := aZ h1
      refine JD (I := I) (yv yield0_b) [(eL aB x7), (eL aK f5)] (aE x10.2) (by kernel_rfl) (by kernel_rfl) (yield0_h _ x7 f5 x10.1 x10.2 hx11) hO hI ?_
      intro G H hO hI
      refine bG ?_
      refine bZ [4, 5] [(50, (aE (!x10.2)))] ?_
      refine bJ h1 (fun h1 => ?_) (fun h1 => ?_)
      · refine bL ?_
        obtain rfl := oI h1
        obtain rfl : _ = rr0 := ho0
        replace h0 : some x10.1 = some r := h0
        obtain rfl := oI h0
        exact aG (bE (aO (bE (mZ (x := (.tup [])) (by kernel_rfl) (aN.refl _) ⟨rfl, G, hI, hO.zW⟩))))
      refine bK ?_
      exact aG (aY (aF (⟨rfl, _, (oI h1).symm, _, .eq (by kernel_rfl), hO, hI⟩)))
    refine cA 2 ?_
    refine eG [(0, (yv yield0_b)), (1, (.rp (eL aQ t1))), (3, (eI i3)), (4, (eL aB ((gD t1 i3).Row))), (5, (.sl true 0 (fun _ => .bad)))] ?_
    refine CU (el := (fun _ => .bad)) 4 5 2 hO (by kernel_rfl) ?_
    intro lo24 H25 hO
    refine dY (fun T H => ∃ sg : σ, ∃ i3 : Int, ∃ r4 : (List aC), ∃ f5 : List aH, ∃ lo14 : Nat, ∃ G : Gs, Has T [(0, (yv yield0_b)), (1, (.rp (eL aQ t1))), (3, (eI i3)), (4, (eL aB r4)), (5, (.msl 2 lo14 0 (List.length f5)))] ∧ aI ⟨H0, List.map (fun p : Nat × dO => p.1) G0, G⟩ H [(lo14, 2, List.map aK f5)] ∧ I sg G ∧ sS cW sg t1 i3 r4 f5 = some out1) ?_ ⟨sg, i3, (gD t1 i3).Row, ([] : List aH), lo24, G, .eq (by kernel_rfl), hO, hI, h1⟩
    clear hO hI h1
    rintro T H ⟨sg, i3, r4, f5, lo14, G, hT, hO, hI, h1⟩
    refine bD hT ?_
    clear hT
    unfold sS at h1
    obtain ⟨rr1, hl1, h1⟩ := aZ h1
    refine cR (by kernel_rfl) (fun (s : σ × Int × List aH) T H => ∃ lo14 : Nat, ∃ G : Gs, Has T [(0, (yv yield0_b)), (1, (.rp (eL aQ t1))), (3, (eI s.2.1)), (4, (eL aB r4)), (5, (.msl 2 lo14 0 (List.length s.2.2)))] ∧ aI ⟨H0, List.map (fun p : Nat × dO => p.1) G0, G⟩ H [(lo14, 2, List.map aK s.2.2)] ∧ I s.1 G) hl1 ⟨lo14, G, .eq (by kernel_rfl), hO, hI⟩ ?_
    clear hO hI
    rintro k1 s out2 T H ⟨lo14, G, hT, hO, hI⟩ h2 ho1
    obtain ⟨sg, i3, f5⟩ := s
    replace h2 : kD cW t1 r4 sg i3 f5 = some out2 := h2
    try dsimp only at hT
    refine bD hT ?_
    clear hT
    unfold kD at h2
    refine aL ?_
    refine aL ?_
    refine aW aD 13 ?_
    obtain ⟨c15, h2⟩ := bA h2
    refine pZ 11 [(((decide (i3 < (lN t1)))) = true → 0 ≤ i3 ∧ i3 < (lN t1))] ⟨c15, trivial⟩ ?_
    obtain ⟨x16, hx17, h2⟩ := aZ h2
    refine lX [(20, true)] 58 [(eL aB ((gD t1 i3).Row)), (eL aB r4)] (aE x16) (decide (i3 < (lN t1))) (by kernel_rfl) (by kernel_rfl) (by kernel_rfl) (fun hb18 => (MU ((gD t1 i3).Row) r4 _ (gV hx17 hb18))) hO ?_
    intro H hO
    refine bG ?_
    refine bZ [] [(28, (aE ((decide (i3 < (lN t1))) && x16)))] ?_
    refine bJ h2 (fun h2 => ?_) (fun h2 => ?_)
    · refine bK ?_
      refine bH [(0, (yv yield0_b)), (1, (.rp (eL aQ t1))), (3, (eI i3)), (4, (eL aB r4)), (5, (.msl 2 lo14 0 (List.length f5)))] ?_
      refine aL ?_
      refine cA 3 ?_
      refine eS (eU [32, 36, 37, 41, 43]) aD 15 ?_
      obtain ⟨c20, h2⟩ := bA h2
      obtain ⟨c21, h2⟩ := bA h2
      refine cI 12 [0 ≤ i3 ∧ i3 < (lN t1), 0 ≤ i3 ∧ i3 < (lN t1)] ⟨c20, c21, trivial⟩ ?_
      refine SH (xs := [(aK (aH.mk ((gD t1 i3).At) ((gD t1 i3).Net)))]) (k := 2) (by kernel_rfl) (by kernel_rfl) ?_
      obtain ⟨c23, h2⟩ := bA h2
      refine JB (e := aK) f5 ([aH.mk ((gD t1 i3).At) ((gD t1 i3).Net)]) 0 lo14 2 16 (eK [(aK (aH.mk ((gD t1 i3).At) ((gD t1 i3).Net)))]) (fun lo22 => [(lo22, 2, List.map aK (f5 ++ ([aH.mk ((gD t1 i3).At) ((gD t1 i3).Net)])))]) (by kernel_rfl) (by kernel_rfl) hO (by kernel_rfl) (by kernel_rfl) c23 (fun _ => by kernel_rfl) ?_
      intro lo22 H hO
      refine gK ?_
      refine eP [(0, (yv yield0_b)), (1, (.rp (eL aQ t1))), (3, (eI i3)), (4, (eL aB r4)), (5, (.msl 2 lo22 0 (List.length (f5 ++ ([aH.mk ((gD t1 i3).At) ((gD t1 i3).Net)])))))] ?_
      refine aG (aY (aF (?_)))
      refine aW aD 3 ?_
      refine bG ?_
      exact aG (aF (⟨rfl, _, (oI h2).symm, _, _, .eq (by kernel_rfl), hO, hI⟩))
    refine eR 2 ?_
    obtain rfl := oI h2
    obtain rfl : _ = rr1 := ho1
    replace h1 : pO cW sg t1 i3 r4 f5 = some out1 := h1
    exact aG (aV (aV (bS (aF (⟨rfl, _, _, _, _, _, _, .eq (by kernel_rfl), hO, hI, h1⟩)))))
  refine eR 0 ?_
  obtain rfl := oI h1
  obtain rfl : _ = rr0 := ho0
  replace h0 : some sg = some r := h0
  obtain rfl := oI h0
  exact aG (aV (aV (bS (zI (x := (.tup [])) (by kernel_rfl) (aN.refl _) ⟨rfl, G, hI, hO.zW⟩))))

theorem uZ (s0 : (List aC)) (f1_f : Nat) (f1_a f1_c : List V) (f1 : aC → Option Bool) (f1_h : ∀ a0 r, f1 a0 = some r → dJ Try.prog f1_f (f1_a ++ [(aB a0)] ++ f1_c) (aE r)) (r : Int) (h0 : iZ s0 f1 = some r) : dJ Try.prog 95 [(eL aB s0), (.fn (.func f1_f) f1_a f1_c)] (eI r) := by
  intro H0
  refine dH Try.func95 ?_
  have hO := aI.start H0
  unfold iZ at h0
  refine aX aD 1 [] [] ?_
  refine dP (fun T H => Has T [] ∧ aI ⟨H0, [], []⟩ H [] ∧ fV f1  = some r) ?_ ?_
  · clear hO h0
    rintro T H ⟨hT, hO, h0⟩
    refine bD hT ?_
    clear hT
    unfold fV at h0
    refine bV aD 1 [(4, (eI (-1 : Int)))] ?_
    refine bL ?_
    obtain rfl := oI h0
    exact aG (Q_r hO)
  refine aX aD 3 [] [(7, (eI (lN s0))), (8, (eI (0 : Int)))] ?_
  refine cA 0 ?_
  refine eG [(0, (eL aB s0)), (1, (.fn (.func f1_f) f1_a f1_c)), (7, (eI (lN s0))), (8, (eI (0 : Int)))] ?_
  refine dY (fun T H => ∃ t7 : Int, ∃ t8 : Int, Has T [(0, (eL aB s0)), (1, (.fn (.func f1_f) f1_a f1_c)), (7, (eI t7)), (8, (eI t8))] ∧ aI ⟨H0, [], []⟩ H [] ∧ iR f1 s0 t7 t8 = some r) ?_ ⟨(lN s0), (0 : Int), .eq (by kernel_rfl), hO, h0⟩
  clear hO h0
  rintro T H ⟨t7, t8, hT, hO, h0⟩
  refine bD hT ?_
  clear hT
  unfold iR at h0
  obtain ⟨rr0, hl0, h0⟩ := aZ h0
  refine cR (by kernel_rfl) (fun (s : Int) T H => Has T [(0, (eL aB s0)), (1, (.fn (.func f1_f) f1_a f1_c)), (7, (eI t7)), (8, (eI s))] ∧ aI ⟨H0, [], []⟩ H []) hl0 ⟨.eq (by kernel_rfl), hO⟩ ?_
  clear hO
  rintro k0 s out1 T H ⟨hT, hO⟩ h1 ho0
  obtain ⟨t8, rfl⟩ : ∃ x, x = s := ⟨_, rfl⟩
  replace h1 : iP f1 s0 t7 t8 = some out1 := h1
  refine bD hT ?_
  clear hT
  unfold iP at h1
  refine aX aD 1 [] [(9, (aE (decide (t8 < t7))))] ?_
  refine aL ?_
  refine bJ h1 (fun h1 => ?_) (fun h1 => ?_)
  · refine bK ?_
    refine bH [(0, (eL aB s0)), (1, (.fn (.func f1_f) f1_a f1_c)), (7, (eI t7)), (8, (eI t8))] ?_
    refine aL ?_
    refine cA 1 ?_
    refine aX aD 2 [] [(5, (eI t8))] ?_
    refine aL ?_
    refine aW aD 6 ?_
    obtain ⟨c2, h1⟩ := bA h1
    refine pZ 5 [0 ≤ t8 ∧ t8 < (lN s0)] ⟨c2, trivial⟩ ?_
    obtain ⟨x3, hx4, h1⟩ := aZ h1
    refine dQ (f1_h (gD s0 t8) _ hx4) hO ?_
    intro H hO
    refine eT ?_
    refine bZ [] [(16, (aE x3))] ?_
    refine bJ h1 (fun h1 => ?_) (fun h1 => ?_)
    · refine bV aD 2 [(4, (eI t8))] ?_
      refine bL ?_
      obtain rfl := oI h1
      obtain rfl : _ = rr0 := ho0
      replace h0 : some t8 = some r := h0
      obtain rfl := oI h0
      exact aG (bE (aO (aO (bE (aO (Q_r hO))))))
    refine bK ?_
    refine eP [(0, (eL aB s0)), (1, (.fn (.func f1_f) f1_a f1_c)), (7, (eI t7)), (8, (eI t8))] ?_
    refine aG (aY (aF (?_)))
    refine aW aD 2 ?_
    refine bG ?_
    exact aG (aF (⟨rfl, _, (oI h1).symm, .eq (by kernel_rfl), hO⟩))
  refine eR 0 ?_
  obtain rfl := oI h1
  obtain rfl : _ = rr0 := ho0
  replace h0 : fV f1  = some r := h0
  exact aG (aV (aV (bS (aF (⟨rfl, .eq (by kernel_rfl), hO, h0⟩)))))

theorem tV (s0 : (List aC)) (f1_f : Nat) (f1_a f1_c : List V) (f1 : aC → Option Bool) (f1_h : ∀ a0 r, f1 a0 = some r → dJ Try.prog f1_f (f1_a ++ [(aB a0)] ++ f1_c) (aE r)) (r : Bool) (h0 : fN s0 f1 = some r) : dJ Try.prog 92 [(eL aB s0), (.fn (.func f1_f) f1_a f1_c)] (aE r) := by
  intro H0
  refine dH Try.func92 ?_
  have hO := aI.start H0
  unfold fN at h0
  refine aX aD 1 [] [] ?_
  refine aL ?_
  refine aW aD 5 ?_
  refine bU 2 ?_
  obtain ⟨x1, hx2, h0⟩ := aZ h0
  refine dQ (uZ s0 f1_f f1_a f1_c f1 f1_h _ hx2) hO ?_
  intro H hO
  refine bG ?_
  refine bH [(4, (aE (decide ((0 : Int) ≤ x1))))] ?_
  refine bL ?_
  obtain rfl := oI h0
  exact aG (Q_r hO)

theorem zS (v0 : aC) (r : (bR × Bool)) (h0 : mG v0 = some r) : dJ Try.prog 106 [(aB v0)] (.tup [(bM r.1), (aE r.2)]) := by
  intro H0
  refine dH Try.func106 ?_
  have hO := aI.start H0
  unfold mG at h0
  refine aL ?_
  refine aW aD 3 ?_
  refine gC 3 (aB v0) (by kernel_rfl) (by kernel_rfl) ?_
  refine bG ?_
  refine bH [(1, (.rp (aB v0)))] ?_
  refine aL ?_
  refine cA 0 ?_
  refine aX aD 9 [] [(4, (aE ((decide (v0.Kind = (1 : Int))) && (oA v0.Text (⟨#[]⟩ : ByteArray)))))] ?_
  refine bJ h0 (fun h0 => ?_) (fun h0 => ?_)
  · refine bV aD 5 [(2, (bM (bR.k_number v0.Num))), (3, (aE true))] ?_
    refine bL ?_
    obtain rfl := oI h0
    exact aG (bE (aO (Q_r hO)))
  refine aX aD 15 [4] [(16, (aE (((decide (v0.Kind = (2 : Int))) && (decide (v0.Num = (0 : Int)))) && (decide (((ByteArray.size v0.Text : Nat) : Int) ≤ (64 : Int))))))] ?_
  refine bJ h0 (fun h0 => ?_) (fun h0 => ?_)
  · refine bV aD 5 [(2, (bM (bR.k_words v0.Text))), (3, (aE true))] ?_
    refine bL ?_
    obtain rfl := oI h0
    exact aG (bE (aO (Q_r hO)))
  refine bK ?_
  refine eP [] ?_
  refine aG (aY (aF (?_)))
  refine bV aD 2 [(2, (bM bR.none_)), (3, (aE false))] ?_
  refine bL ?_
  obtain rfl := oI h0
  exact aG (Q_r hO)

theorem XC (v0 : aC) (r : Bool) (h0 : xI v0 = some r) : dJ Try.prog 94 [(aB v0)] (aE r) := by
  intro H0
  refine dH Try.func94 ?_
  have hO := aI.start H0
  unfold xI at h0
  refine aL ?_
  refine aW aD 2 ?_
  refine gC 3 (aB v0) (by kernel_rfl) (by kernel_rfl) ?_
  refine bG ?_
  refine bH [(1, (.rp (aB v0)))] ?_
  refine aL ?_
  refine aW aD 7 ?_
  refine bU 1 ?_
  obtain ⟨⟨x1_0, x1_1⟩, hx2, h0⟩ := aZ h0
  refine dQ (zS v0 _ hx2) hO ?_
  intro H hO
  rcases x1_0 with _ | y4 | y5
  · replace h0 : (some x1_1) = some r := h0
    refine bG ?_
    refine bH [(4, (aE x1_1))] ?_
    refine bV aD 2 [(2, (aE x1_1))] ?_
    refine bL ?_
    obtain rfl := oI h0
    exact aG (Q_r hO)
  · replace h0 : (some x1_1) = some r := h0
    refine bG ?_
    refine bH [(4, (aE x1_1))] ?_
    refine bV aD 2 [(2, (aE x1_1))] ?_
    refine bL ?_
    obtain rfl := oI h0
    exact aG (Q_r hO)
  · replace h0 : (some x1_1) = some r := h0
    refine bG ?_
    refine bH [(4, (aE x1_1))] ?_
    refine bV aD 2 [(2, (aE x1_1))] ?_
    refine bL ?_
    obtain rfl := oI h0
    exact aG (Q_r hO)

theorem WQ (v0 : aC) (r : Bool) (h0 : xF v0 = some r) : dJ Try.prog 93 [(aB v0)] (aE r) := by
  intro H0
  refine dH Try.func93 ?_
  have hO := aI.start H0
  unfold xF at h0
  refine aL ?_
  refine aW aD 2 ?_
  refine gC 3 (aB v0) (by kernel_rfl) (by kernel_rfl) ?_
  refine bG ?_
  refine bH [(1, (.rp (aB v0)))] ?_
  refine aL ?_
  refine aW aD 4 ?_
  refine bU 1 ?_
  obtain ⟨x1, hx2, h0⟩ := aZ h0
  refine dQ (XC v0 _ hx2) hO ?_
  intro H hO
  refine bG ?_
  refine bH [(2, (aE (!x1)))] ?_
  refine bL ?_
  obtain rfl := oI h0
  exact aG (Q_r hO)

theorem IY (r0 : (List aC)) (r : Bool) (h0 : vB r0 = some r) : dJ Try.prog 71 [(eL aB r0)] (aE r) := by
  intro H0
  refine dH Try.func71 ?_
  have hO := aI.start H0
  unfold vB at h0
  refine aX aD 1 [] [] ?_
  refine aL ?_
  refine aX aD 3 [] [(5, (aE (decide ((8 : Int) < (lN r0)))))] ?_
  refine bJ h0 (fun h0 => ?_) (fun h0 => ?_)
  · refine bV aD 1 [(2, (aE false))] ?_
    refine bL ?_
    obtain rfl := oI h0
    exact aG (aO (Q_r hO))
  refine bK ?_
  refine bH [(0, (eL aB r0))] ?_
  refine aL ?_
  refine aW aD 4 ?_
  refine bU 1 ?_
  obtain ⟨x2, hx3, h0⟩ := aZ h0
  refine dQ (tV r0 93 [] [] (fun y0 => xF y0) (fun y0 r h => WQ y0 r h) _ hx3) hO ?_
  intro H hO
  refine bG ?_
  refine bH [(2, (aE (!x2)))] ?_
  refine bL ?_
  obtain rfl := oI h0
  exact aG (Q_r hO)

theorem NF (t0 : (List aC)) (r : (Int × (List aC))) (h0 : uP t0 = some r) : EB Try.prog 96 [(.rp (eL aB t0))] (fun lo => (.fn (.func 97) [] [(.lp lo 0 0), (.rp (eL aB r.2))])) 1 [(eI r.1)] := by
  intro H0
  refine dH Try.func96 ?_
  have hO := aI.start H0
  unfold uP at h0
  refine aX aD 1 [] [] ?_
  refine aL ?_
  refine aW aD 2 ?_
  refine lR 1 (eI 0) (by kernel_rfl) (by kernel_rfl) hO ?_
  intro lo1 H hO
  refine jW 0 lo1 1 0 (eI 0) (eI (-1 : Int)) [(eI 0)] [(lo1, 1, [(eI (-1 : Int))])] hO rfl (by kernel_rfl) ?_
  intro H hO
  refine eT ?_
  refine bZ [] [(2, (.lp lo1 0 0))] ?_
  refine aX aD 2 [0] [(1, (.fn (.func 97) [] [(.lp lo1 0 0), (.rp (eL aB t0))]))] ?_
  refine bL ?_
  obtain rfl := oI h0
  exact aG (mZ (x := (.fn (.func 97) [] [(.lp lo1 0 0), (.rp (eL aB t0))])) (by kernel_rfl) (aN.refl _) ⟨lo1, rfl, hO⟩)

theorem uK {σ : Type} (I : σ → Gs → Prop) (s0 : (List aC)) (f1_v : V) (f1 : σ → aC → Option (σ × Bool)) (f1_h : ∀ st a0 st2 r, f1 st a0 = some (st2, r) → BV Try.prog f1_v I st [(aB a0)] st2 (aE r)) (sg0 : σ) (r : (σ × Int)) (h0 : iL s0 f1 sg0 = some r) : yF Try.prog 95 I sg0 [(eL aB s0), f1_v] r.1 (eI r.2) := by
  intro H0 G0 hI hg
  refine dH Try.func95 ?_
  obtain ⟨G, hO, hI⟩ : ∃ G, aI ⟨H0, List.map (fun p : Nat × dO => p.1) G0, G⟩ H0 [] ∧ I sg0 G := ⟨G0, aI.FC hg, hI⟩
  clear hg
  unfold iL at h0
  refine aX aD 1 [] [] ?_
  refine dP (fun T H => ∃ sg : σ, ∃ G : Gs, Has T [] ∧ aI ⟨H0, List.map (fun p : Nat × dO => p.1) G0, G⟩ H [] ∧ I sg G ∧ fM f1 sg = some r) ?_ ?_
  · clear hO hI h0
    rintro T H ⟨sg, G, hT, hO, hI, h0⟩
    refine bD hT ?_
    clear hT
    unfold fM at h0
    refine bV aD 1 [(4, (eI (-1 : Int)))] ?_
    refine bL ?_
    obtain rfl := oI h0
    exact aG (mZ (x := (eI (-1 : Int))) (by kernel_rfl) (aN.refl _) ⟨rfl, G, hI, hO.zW⟩)
  refine aX aD 3 [] [(7, (eI (lN s0))), (8, (eI (0 : Int)))] ?_
  refine cA 0 ?_
  refine eG [(0, (eL aB s0)), (1, f1_v), (7, (eI (lN s0))), (8, (eI (0 : Int)))] ?_
  refine dY (fun T H => ∃ sg : σ, ∃ t7 : Int, ∃ t8 : Int, ∃ G : Gs, Has T [(0, (eL aB s0)), (1, f1_v), (7, (eI t7)), (8, (eI t8))] ∧ aI ⟨H0, List.map (fun p : Nat × dO => p.1) G0, G⟩ H [] ∧ I sg G ∧ iJ f1 sg s0 t7 t8 = some r) ?_ ⟨sg0, (lN s0), (0 : Int), G, .eq (by kernel_rfl), hO, hI, h0⟩
  clear hO hI h0
  rintro T H ⟨sg, t7, t8, G, hT, hO, hI, h0⟩
  refine bD hT ?_
  clear hT
  unfold iJ at h0
  obtain ⟨rr0, hl0, h0⟩ := aZ h0
  refine cR (by kernel_rfl) (fun (s : σ × Int) T H => ∃ G : Gs, Has T [(0, (eL aB s0)), (1, f1_v), (7, (eI t7)), (8, (eI s.2))] ∧ aI ⟨H0, List.map (fun p : Nat × dO => p.1) G0, G⟩ H [] ∧ I s.1 G) hl0 ⟨G, .eq (by kernel_rfl), hO, hI⟩ ?_
  clear hO hI
  rintro k0 s out1 T H ⟨G, hT, hO, hI⟩ h1 ho0
  obtain ⟨sg, t8⟩ := s
  replace h1 : cM f1 s0 t7 sg t8 = some out1 := h1
  try dsimp only at hT
  refine bD hT ?_
  clear hT
  unfold cM at h1
  refine aX aD 1 [] [(9, (aE (decide (t8 < t7))))] ?_
  refine aL ?_
  refine bJ h1 (fun h1 => ?_) (fun h1 => ?_)
  · refine bK ?_
    refine bH [(0, (eL aB s0)), (1, f1_v), (7, (eI t7)), (8, (eI t8))] ?_
    refine aL ?_
    refine cA 1 ?_
    refine aX aD 2 [] [(5, (eI t8))] ?_
    refine aL ?_
    refine aW aD 6 ?_
    obtain ⟨c2, h1⟩ := bA h1
    refine pZ 5 [0 ≤ t8 ∧ t8 < (lN s0)] ⟨c2, trivial⟩ ?_
    obtain ⟨x3, hx4, h1⟩ := aZ h1
    refine JD (I := I) f1_v [(aB (gD s0 t8))] (aE x3.2) (by kernel_rfl) (by kernel_rfl) (f1_h _ (gD s0 t8) x3.1 x3.2 hx4) hO hI ?_
    intro G H hO hI
    refine eT ?_
    refine bZ [] [(16, (aE x3.2))] ?_
    refine bJ h1 (fun h1 => ?_) (fun h1 => ?_)
    · refine bV aD 2 [(4, (eI t8))] ?_
      refine bL ?_
      obtain rfl := oI h1
      obtain rfl : _ = rr0 := ho0
      replace h0 : some (x3.1, t8) = some r := h0
      obtain rfl := oI h0
      exact aG (bE (aO (aO (bE (aO (mZ (x := (eI t8)) (by kernel_rfl) (aN.refl _) ⟨rfl, G, hI, hO.zW⟩))))))
    refine bK ?_
    refine eP [(0, (eL aB s0)), (1, f1_v), (7, (eI t7)), (8, (eI t8))] ?_
    refine aG (aY (aF (?_)))
    refine aW aD 2 ?_
    refine bG ?_
    exact aG (aF (⟨rfl, _, (oI h1).symm, _, .eq (by kernel_rfl), hO, hI⟩))
  refine eR 0 ?_
  obtain rfl := oI h1
  obtain rfl : _ = rr0 := ho0
  replace h0 : fM f1 sg = some r := h0
  exact aG (aV (aV (bS (aF (⟨rfl, _, _, .eq (by kernel_rfl), hO, hI, h0⟩)))))

theorem JL (v0 : aC) (lo1p : Nat) (t1 : Int) (t2 : (List aC)) (r : (Bool × Int)) (h0 : kN v0 t1 t2 = some r) : nX Try.prog 97 lo1p 1 [(eI t1)] [(eI r.2)] [(aB v0), (.lp lo1p 0 0), (.rp (eL aB t2))] (aE r.1) := by
  intro H0 hl0
  refine dH Try.func97 ?_
  have hO := aI.vH hl0
  clear hl0
  unfold kN at h0
  refine aL ?_
  refine aW aD 2 ?_
  refine gC 3 (aB v0) (by kernel_rfl) (by kernel_rfl) ?_
  refine bG ?_
  refine bZ [0] [(3, (.rp (aB v0)))] ?_
  refine aL ?_
  refine aW aD 3 ?_
  refine oQ 0 lo1p 1 0 (eI t1) (eI t1) [(eI t1)] hO rfl ?_
  refine bU 2 ?_
  refine jW 0 lo1p 1 0 (eI t1) (eI (wR (t1 + (1 : Int)))) [(eI t1)] [(lo1p, 1, [(eI (wR (t1 + (1 : Int))))])] hO rfl (by kernel_rfl) ?_
  intro H hO
  refine eT ?_
  refine bZ [] [] ?_
  refine aL ?_
  refine eS (eU [7, 8, 11]) aD 7 ?_
  refine jZ 2 ?_
  refine hU 0 lo1p 1 0 (eI (wR (t1 + (1 : Int)))) (eI (wR (t1 + (1 : Int)))) [(eI (wR (t1 + (1 : Int))))] hO rfl ?_
  obtain ⟨c1, h0⟩ := bA h0
  refine AS (Ds := [0 ≤ (wR (t1 + (1 : Int))) ∧ (wR (t1 + (1 : Int))) < (lN t2)]) (by kernel_rfl) ⟨c1, trivial⟩ ?_
  refine bH [(1, (.lp lo1p 0 0)), (4, (aE (!((decide (v0.Kind = ((gD t2 (wR (t1 + (1 : Int)))).Kind))) && ((decide (v0.Num = ((gD t2 (wR (t1 + (1 : Int)))).Num))) && ((oA v0.Text ((gD t2 (wR (t1 + (1 : Int)))).Text)) && true))))))] ?_
  refine bL ?_
  obtain rfl := oI h0
  exact aG (mZ (x := (aE (!((decide (v0.Kind = ((gD t2 (wR (t1 + (1 : Int)))).Kind))) && ((decide (v0.Num = ((gD t2 (wR (t1 + (1 : Int)))).Num))) && ((oA v0.Text ((gD t2 (wR (t1 + (1 : Int)))).Text)) && true)))))) (by kernel_rfl) (aN.refl _) ⟨rfl, hO.ext, hO.at 0 (by kernel_rfl), rfl⟩)

theorem uN (x0 : Int) (r : Bool) (h0 : lV x0 = some r) : dJ Try.prog 105 [(eI x0)] (aE r) := by
  intro H0
  refine dH Try.func105 ?_
  have hO := aI.start H0
  unfold lV at h0
  refine aX aD 1 [] [] ?_
  refine bV aD 4 [(2, (aE (!decide (x0 = x0))))] ?_
  refine bL ?_
  obtain rfl := oI h0
  exact aG (Q_r hO)

theorem JQ (x0 : Int) (y1 : Int) (r : Int) (h0 : oU x0 y1 = some r) : dJ Try.prog 98 [(eI x0), (eI y1)] (eI r) := by
  intro H0
  refine dH Try.func98 ?_
  have hO := aI.start H0
  unfold oU at h0
  refine aX aD 1 [] [] ?_
  refine aL ?_
  refine aW aD 3 ?_
  refine bU 1 ?_
  obtain ⟨x1, hx2, h0⟩ := aZ h0
  refine dQ (uN x0 _ hx2) hO ?_
  intro H hO
  refine bG ?_
  refine bZ [] [(5, (aE x1))] ?_
  refine aL ?_
  refine aW aD 3 ?_
  refine bU 1 ?_
  obtain ⟨x4, hx5, h0⟩ := aZ h0
  refine dQ (uN y1 _ hx5) hO ?_
  intro H hO
  refine bG ?_
  refine bZ [] [(6, (aE x4))] ?_
  refine aL ?_
  refine aX aD 1 [5] [(11, (aE x1))] ?_
  refine bJ h0 (fun h0 => ?_) (fun h0 => ?_)
  · refine aL ?_
    refine bV aD 1 [(12, (aE x4))] ?_
    refine bJ h0 (fun h0 => ?_) (fun h0 => ?_)
    · refine bV aD 1 [(4, (eI (0 : Int)))] ?_
      refine bL ?_
      obtain rfl := oI h0
      exact aG (aO (aO (Q_r hO)))
    refine bK ?_
    refine bH [] ?_
    refine bV aD 1 [(4, (eI (-1 : Int)))] ?_
    refine bL ?_
    obtain rfl := oI h0
    exact aG (aO (Q_r hO))
  refine bK ?_
  refine bH [(0, (eI x0)), (1, (eI y1)), (6, (aE x4))] ?_
  refine aL ?_
  refine aX aD 1 [6] [(13, (aE x4))] ?_
  refine bJ h0 (fun h0 => ?_) (fun h0 => ?_)
  · refine bV aD 1 [(4, (eI (1 : Int)))] ?_
    refine bL ?_
    obtain rfl := oI h0
    exact aG (aO (Q_r hO))
  refine bK ?_
  refine bH [(0, (eI x0)), (1, (eI y1))] ?_
  refine aL ?_
  refine aX aD 3 [] [(16, (aE (decide (x0 < y1))))] ?_
  refine bJ h0 (fun h0 => ?_) (fun h0 => ?_)
  · refine bV aD 1 [(4, (eI (-1 : Int)))] ?_
    refine bL ?_
    obtain rfl := oI h0
    exact aG (aO (Q_r hO))
  refine bK ?_
  refine bH [(0, (eI x0)), (1, (eI y1))] ?_
  refine aL ?_
  refine bV aD 3 [(19, (aE (decide (y1 < x0))))] ?_
  refine bJ h0 (fun h0 => ?_) (fun h0 => ?_)
  · refine bV aD 1 [(4, (eI (1 : Int)))] ?_
    refine bL ?_
    obtain rfl := oI h0
    exact aG (aO (Q_r hO))
  refine bK ?_
  refine bH [] ?_
  refine bV aD 1 [(4, (eI (0 : Int)))] ?_
  refine bL ?_
  obtain rfl := oI h0
  exact aG (Q_r hO)

theorem vM (x0 : Int) (r : Bool) (h0 : lC x0 = some r) : dJ Try.prog 110 [(eI x0)] (aE r) := by
  intro H0
  refine dH Try.func110 ?_
  have hO := aI.start H0
  unfold lC at h0
  refine aX aD 1 [] [] ?_
  refine bV aD 4 [(2, (aE (!decide (x0 = x0))))] ?_
  refine bL ?_
  obtain rfl := oI h0
  exact aG (Q_r hO)

theorem BH (x0 : Int) (y1 : Int) (r : Int) (h0 : gM x0 y1 = some r) : dJ Try.prog 107 [(eI x0), (eI y1)] (eI r) := by
  intro H0
  refine dH Try.func107 ?_
  have hO := aI.start H0
  unfold gM at h0
  refine aX aD 1 [] [] ?_
  refine aL ?_
  refine aW aD 3 ?_
  refine bU 1 ?_
  obtain ⟨x1, hx2, h0⟩ := aZ h0
  refine dQ (vM x0 _ hx2) hO ?_
  intro H hO
  refine bG ?_
  refine bZ [] [(5, (aE x1))] ?_
  refine aL ?_
  refine aW aD 3 ?_
  refine bU 1 ?_
  obtain ⟨x4, hx5, h0⟩ := aZ h0
  refine dQ (vM y1 _ hx5) hO ?_
  intro H hO
  refine bG ?_
  refine bZ [] [(6, (aE x4))] ?_
  refine aL ?_
  refine aX aD 1 [5] [(11, (aE x1))] ?_
  refine bJ h0 (fun h0 => ?_) (fun h0 => ?_)
  · refine aL ?_
    refine bV aD 1 [(12, (aE x4))] ?_
    refine bJ h0 (fun h0 => ?_) (fun h0 => ?_)
    · refine bV aD 1 [(4, (eI (0 : Int)))] ?_
      refine bL ?_
      obtain rfl := oI h0
      exact aG (aO (aO (Q_r hO)))
    refine bK ?_
    refine bH [] ?_
    refine bV aD 1 [(4, (eI (-1 : Int)))] ?_
    refine bL ?_
    obtain rfl := oI h0
    exact aG (aO (Q_r hO))
  refine bK ?_
  refine bH [(0, (eI x0)), (1, (eI y1)), (6, (aE x4))] ?_
  refine aL ?_
  refine aX aD 1 [6] [(13, (aE x4))] ?_
  refine bJ h0 (fun h0 => ?_) (fun h0 => ?_)
  · refine bV aD 1 [(4, (eI (1 : Int)))] ?_
    refine bL ?_
    obtain rfl := oI h0
    exact aG (aO (Q_r hO))
  refine bK ?_
  refine bH [(0, (eI x0)), (1, (eI y1))] ?_
  refine aL ?_
  refine aX aD 3 [] [(16, (aE (decide (x0 < y1))))] ?_
  refine bJ h0 (fun h0 => ?_) (fun h0 => ?_)
  · refine bV aD 1 [(4, (eI (-1 : Int)))] ?_
    refine bL ?_
    obtain rfl := oI h0
    exact aG (aO (Q_r hO))
  refine bK ?_
  refine bH [(0, (eI x0)), (1, (eI y1))] ?_
  refine aL ?_
  refine bV aD 3 [(19, (aE (decide (y1 < x0))))] ?_
  refine bJ h0 (fun h0 => ?_) (fun h0 => ?_)
  · refine bV aD 1 [(4, (eI (1 : Int)))] ?_
    refine bL ?_
    obtain rfl := oI h0
    exact aG (aO (Q_r hO))
  refine bK ?_
  refine bH [] ?_
  refine bV aD 1 [(4, (eI (0 : Int)))] ?_
  refine bL ?_
  obtain rfl := oI h0
  exact aG (Q_r hO)

theorem yJ (a0 : ByteArray) (b1 : ByteArray) (r : Int) (h0 : kG a0 b1 = some r) : dJ Try.prog 111 [(AG a0), (AG b1)] (eI r) := by
  intro H0
  refine dH Try.func111 ?_
  have hO := aI.start H0
  unfold kG at h0
  refine aX aD 1 [] [] ?_
  refine aL ?_
  refine aW aD 4 ?_
  refine bU 2 ?_
  refine aDo 112 [(AG a0), (AG b1)] (eI (OS a0 b1)) (by kernel_rfl) (by kernel_rfl) (aB9 Try.func112 (by kernel_rfl) (by kernel_rfl) (by kernel_rfl) (by kernel_rfl) a0 b1) hO ?_
  intro H hO
  refine bG ?_
  refine bH [(4, (eI (OS a0 b1)))] ?_
  refine bL ?_
  obtain rfl := oI h0
  exact aG (Q_r hO)

theorem JP (a0 : ByteArray) (b1 : ByteArray) (r : Int) (h0 : nB a0 b1 = some r) : dJ Try.prog 108 [(AG a0), (AG b1)] (eI r) := by
  intro H0
  refine dH Try.func108 ?_
  have hO := aI.start H0
  unfold nB at h0
  refine aX aD 1 [] [] ?_
  refine aL ?_
  refine aW aD 4 ?_
  refine bU 2 ?_
  obtain ⟨x1, hx2, h0⟩ := aZ h0
  refine dQ (yJ a0 b1 _ hx2) hO ?_
  intro H hO
  refine bG ?_
  refine bH [(4, (eI x1))] ?_
  refine bL ?_
  obtain rfl := oI h0
  exact aG (Q_r hO)

theorem NI (a0 : aC) (b1 : aC) (r : Int) (h0 : qQ a0 b1 = some r) : dJ Try.prog 99 [(aB a0), (aB b1)] (eI r) := by
  intro H0
  refine dH Try.func99 ?_
  have hO := aI.start H0
  unfold qQ at h0
  refine aL ?_
  refine aW aD 3 ?_
  refine gC 3 (aB a0) (by kernel_rfl) (by kernel_rfl) ?_
  refine gC 3 (aB b1) (by kernel_rfl) (by kernel_rfl) ?_
  refine bG ?_
  refine bH [(2, (.rp (aB a0))), (3, (.rp (aB b1)))] ?_
  refine aL ?_
  refine aW aD 7 ?_
  refine bU 1 ?_
  obtain ⟨⟨x1_0, x1_1⟩, hx2, h0⟩ := aZ h0
  refine dQ (zS a0 _ hx2) hO ?_
  intro H hO
  rcases x1_0 with _ | y4 | y5
  · replace h0 : ((mG b1).bind fun (x6_0, x6_1) => match x6_0 with | .none_ => (cond ((!x1_1) || (!x6_1)) (some (0 : Int)) (none)) | .k_number y9 => (cond ((!x1_1) || (!x6_1)) (some (0 : Int)) (some (1 : Int))) | .k_words y10 => (cond ((!x1_1) || (!x6_1)) (some (0 : Int)) (none))) = some r := h0
    refine bG ?_
    refine bZ [2] [(5, (bM bR.none_)), (6, (aE x1_1))] ?_
    refine aL ?_
    refine aW aD 7 ?_
    refine bU 1 ?_
    obtain ⟨⟨x6_0, x6_1⟩, hx7, h0⟩ := aZ h0
    refine dQ (zS b1 _ hx7) hO ?_
    intro H hO
    rcases x6_0 with _ | y9 | y10
    · replace h0 : (cond ((!x1_1) || (!x6_1)) (some (0 : Int)) (none)) = some r := h0
      refine bG ?_
      refine bZ [3] [(7, (bM bR.none_)), (8, (aE x6_1))] ?_
      refine aL ?_
      refine aX aD 6 [6, 8] [(28, (aE ((!x1_1) || (!x6_1))))] ?_
      refine bJ h0 (fun h0 => ?_) (fun h0 => ?_)
      · refine bV aD 1 [(4, (eI (0 : Int)))] ?_
        refine bL ?_
        obtain rfl := oI h0
        exact aG (aO (Q_r hO))
      refine bK ?_
      refine bH [(5, (bM bR.none_)), (7, (bM bR.none_))] ?_
      refine aX aD 7 [] [(9, (eI 0)), (10, (aE false))] ?_
      refine aX aD 7 [] [(11, (eI 0)), (12, (aE false))] ?_
      refine aL ?_
      refine cA 0 ?_
      refine aX aD 5 [] [(39, (aE false))] ?_
      refine nI (false) (fun hc12 => ?_) (fun hc12 => ?_)
      · cases hc12
      · refine aX aD 2 [9, 10, 11, 39] [(47, (aE false))] ?_
        refine nI (false) (fun hc13 => ?_) (fun hc13 => ?_)
        · cases hc13
        · refine bV aD 2 [(5, (bM bR.none_)), (7, (bM bR.none_)), (49, (aE false))] ?_
          refine nI (false) (fun hc14 => ?_) (fun hc14 => ?_)
          · cases hc14
          · refine bK ?_
            refine eP [(5, (bM bR.none_)), (7, (bM bR.none_))] ?_
            refine aG (aY (aF (?_)))
            refine aL ?_
            refine eS (eU []) aD 6 ?_
            cases h0
    · replace h0 : (cond ((!x1_1) || (!x6_1)) (some (0 : Int)) (some (1 : Int))) = some r := h0
      refine bG ?_
      refine bZ [3] [(7, (bM (bR.k_number y9))), (8, (aE x6_1))] ?_
      refine aL ?_
      refine aX aD 6 [6, 8] [(28, (aE ((!x1_1) || (!x6_1))))] ?_
      refine bJ h0 (fun h0 => ?_) (fun h0 => ?_)
      · refine bV aD 1 [(4, (eI (0 : Int)))] ?_
        refine bL ?_
        obtain rfl := oI h0
        exact aG (aO (Q_r hO))
      refine bK ?_
      refine bH [(5, (bM bR.none_)), (7, (bM (bR.k_number y9)))] ?_
      refine aX aD 7 [] [(9, (eI 0)), (10, (aE false))] ?_
      refine aX aD 7 [] [(11, (eI y9)), (12, (aE true))] ?_
      refine aL ?_
      refine cA 0 ?_
      refine aX aD 5 [] [(39, (aE false))] ?_
      refine nI (false) (fun hc16 => ?_) (fun hc16 => ?_)
      · cases hc16
      · refine aX aD 2 [9, 10, 11, 39] [(47, (aE false))] ?_
        refine nI (false) (fun hc17 => ?_) (fun hc17 => ?_)
        · cases hc17
        · refine bV aD 2 [(5, (bM bR.none_)), (7, (bM (bR.k_number y9))), (49, (aE true))] ?_
          refine nI (true) (fun hc18 => ?_) (fun hc18 => ?_)
          · refine bV aD 1 [(4, (eI (1 : Int)))] ?_
            refine bL ?_
            obtain rfl := oI h0
            exact aG (bE (aO (Q_r hO)))
          · cases hc18
    · replace h0 : (cond ((!x1_1) || (!x6_1)) (some (0 : Int)) (none)) = some r := h0
      refine bG ?_
      refine bZ [3] [(7, (bM (bR.k_words y10))), (8, (aE x6_1))] ?_
      refine aL ?_
      refine aX aD 6 [6, 8] [(28, (aE ((!x1_1) || (!x6_1))))] ?_
      refine bJ h0 (fun h0 => ?_) (fun h0 => ?_)
      · refine bV aD 1 [(4, (eI (0 : Int)))] ?_
        refine bL ?_
        obtain rfl := oI h0
        exact aG (aO (Q_r hO))
      refine bK ?_
      refine bH [(5, (bM bR.none_)), (7, (bM (bR.k_words y10)))] ?_
      refine aX aD 7 [] [(9, (eI 0)), (10, (aE false))] ?_
      refine aX aD 7 [] [(11, (eI 0)), (12, (aE false))] ?_
      refine aL ?_
      refine cA 0 ?_
      refine aX aD 5 [] [(39, (aE false))] ?_
      refine nI (false) (fun hc20 => ?_) (fun hc20 => ?_)
      · cases hc20
      · refine aX aD 2 [9, 10, 11, 39] [(47, (aE false))] ?_
        refine nI (false) (fun hc21 => ?_) (fun hc21 => ?_)
        · cases hc21
        · refine bV aD 2 [(5, (bM bR.none_)), (7, (bM (bR.k_words y10))), (49, (aE false))] ?_
          refine nI (false) (fun hc22 => ?_) (fun hc22 => ?_)
          · cases hc22
          · refine bK ?_
            refine eP [(5, (bM bR.none_)), (7, (bM (bR.k_words y10)))] ?_
            refine aG (aY (aF (?_)))
            refine aL ?_
            refine eS (eU []) aD 6 ?_
            cases h0
  · replace h0 : ((mG b1).bind fun (x23_0, x23_1) => match x23_0 with | .none_ => (cond ((!x1_1) || (!x23_1)) (some (0 : Int)) (some (-1 : Int))) | .k_number y26 => (cond ((!x1_1) || (!x23_1)) (some (0 : Int)) ((gM y4 y26).bind fun x33 => some x33)) | .k_words y27 => (cond ((!x1_1) || (!x23_1)) (some (0 : Int)) (some (-1 : Int)))) = some r := h0
    refine bG ?_
    refine bZ [2] [(5, (bM (bR.k_number y4))), (6, (aE x1_1))] ?_
    refine aL ?_
    refine aW aD 7 ?_
    refine bU 1 ?_
    obtain ⟨⟨x23_0, x23_1⟩, hx24, h0⟩ := aZ h0
    refine dQ (zS b1 _ hx24) hO ?_
    intro H hO
    rcases x23_0 with _ | y26 | y27
    · replace h0 : (cond ((!x1_1) || (!x23_1)) (some (0 : Int)) (some (-1 : Int))) = some r := h0
      refine bG ?_
      refine bZ [3] [(7, (bM bR.none_)), (8, (aE x23_1))] ?_
      refine aL ?_
      refine aX aD 6 [6, 8] [(28, (aE ((!x1_1) || (!x23_1))))] ?_
      refine bJ h0 (fun h0 => ?_) (fun h0 => ?_)
      · refine bV aD 1 [(4, (eI (0 : Int)))] ?_
        refine bL ?_
        obtain rfl := oI h0
        exact aG (aO (Q_r hO))
      refine bK ?_
      refine bH [(5, (bM (bR.k_number y4))), (7, (bM bR.none_))] ?_
      refine aX aD 7 [] [(9, (eI y4)), (10, (aE true))] ?_
      refine aX aD 7 [] [(11, (eI 0)), (12, (aE false))] ?_
      refine aL ?_
      refine cA 0 ?_
      refine aX aD 5 [] [(39, (aE false))] ?_
      refine nI (false) (fun hc29 => ?_) (fun hc29 => ?_)
      · cases hc29
      · refine aX aD 2 [9, 10, 11, 39] [(47, (aE true))] ?_
        refine nI (true) (fun hc30 => ?_) (fun hc30 => ?_)
        · refine bV aD 1 [(4, (eI (-1 : Int)))] ?_
          refine bL ?_
          obtain rfl := oI h0
          exact aG (bE (aO (Q_r hO)))
        · cases hc30
    · replace h0 : (cond ((!x1_1) || (!x23_1)) (some (0 : Int)) ((gM y4 y26).bind fun x33 => some x33)) = some r := h0
      refine bG ?_
      refine bZ [3] [(7, (bM (bR.k_number y26))), (8, (aE x23_1))] ?_
      refine aL ?_
      refine aX aD 6 [6, 8] [(28, (aE ((!x1_1) || (!x23_1))))] ?_
      refine bJ h0 (fun h0 => ?_) (fun h0 => ?_)
      · refine bV aD 1 [(4, (eI (0 : Int)))] ?_
        refine bL ?_
        obtain rfl := oI h0
        exact aG (aO (Q_r hO))
      refine bK ?_
      refine bH [(5, (bM (bR.k_number y4))), (7, (bM (bR.k_number y26)))] ?_
      refine aX aD 7 [] [(9, (eI y4)), (10, (aE true))] ?_
      refine aX aD 7 [] [(11, (eI y26)), (12, (aE true))] ?_
      refine aL ?_
      refine cA 0 ?_
      refine aX aD 5 [] [(39, (aE true))] ?_
      refine nI (true) (fun hc32 => ?_) (fun hc32 => ?_)
      · refine aL ?_
        refine aW aD 4 ?_
        refine bU 2 ?_
        obtain ⟨x33, hx34, h0⟩ := aZ h0
        refine dQ (BH y4 y26 _ hx34) hO ?_
        intro H hO
        refine bG ?_
        refine bH [(4, (eI x33))] ?_
        refine bL ?_
        obtain rfl := oI h0
        exact aG (bE (aO (Q_r hO)))
      · cases hc32
    · replace h0 : (cond ((!x1_1) || (!x23_1)) (some (0 : Int)) (some (-1 : Int))) = some r := h0
      refine bG ?_
      refine bZ [3] [(7, (bM (bR.k_words y27))), (8, (aE x23_1))] ?_
      refine aL ?_
      refine aX aD 6 [6, 8] [(28, (aE ((!x1_1) || (!x23_1))))] ?_
      refine bJ h0 (fun h0 => ?_) (fun h0 => ?_)
      · refine bV aD 1 [(4, (eI (0 : Int)))] ?_
        refine bL ?_
        obtain rfl := oI h0
        exact aG (aO (Q_r hO))
      refine bK ?_
      refine bH [(5, (bM (bR.k_number y4))), (7, (bM (bR.k_words y27)))] ?_
      refine aX aD 7 [] [(9, (eI y4)), (10, (aE true))] ?_
      refine aX aD 7 [] [(11, (eI 0)), (12, (aE false))] ?_
      refine aL ?_
      refine cA 0 ?_
      refine aX aD 5 [] [(39, (aE false))] ?_
      refine nI (false) (fun hc37 => ?_) (fun hc37 => ?_)
      · cases hc37
      · refine aX aD 2 [9, 10, 11, 39] [(47, (aE true))] ?_
        refine nI (true) (fun hc38 => ?_) (fun hc38 => ?_)
        · refine bV aD 1 [(4, (eI (-1 : Int)))] ?_
          refine bL ?_
          obtain rfl := oI h0
          exact aG (bE (aO (Q_r hO)))
        · cases hc38
  · replace h0 : ((mG b1).bind fun (x39_0, x39_1) => match x39_0 with | .none_ => (cond ((!x1_1) || (!x39_1)) (some (0 : Int)) (none)) | .k_number y42 => (cond ((!x1_1) || (!x39_1)) (some (0 : Int)) (some (1 : Int))) | .k_words y43 => (cond ((!x1_1) || (!x39_1)) (some (0 : Int)) ((nB y5 y43).bind fun x56 => some x56))) = some r := h0
    refine bG ?_
    refine bZ [2] [(5, (bM (bR.k_words y5))), (6, (aE x1_1))] ?_
    refine aL ?_
    refine aW aD 7 ?_
    refine bU 1 ?_
    obtain ⟨⟨x39_0, x39_1⟩, hx40, h0⟩ := aZ h0
    refine dQ (zS b1 _ hx40) hO ?_
    intro H hO
    rcases x39_0 with _ | y42 | y43
    · replace h0 : (cond ((!x1_1) || (!x39_1)) (some (0 : Int)) (none)) = some r := h0
      refine bG ?_
      refine bZ [3] [(7, (bM bR.none_)), (8, (aE x39_1))] ?_
      refine aL ?_
      refine aX aD 6 [6, 8] [(28, (aE ((!x1_1) || (!x39_1))))] ?_
      refine bJ h0 (fun h0 => ?_) (fun h0 => ?_)
      · refine bV aD 1 [(4, (eI (0 : Int)))] ?_
        refine bL ?_
        obtain rfl := oI h0
        exact aG (aO (Q_r hO))
      refine bK ?_
      refine bH [(5, (bM (bR.k_words y5))), (7, (bM bR.none_))] ?_
      refine aX aD 7 [] [(9, (eI 0)), (10, (aE false))] ?_
      refine aX aD 7 [] [(11, (eI 0)), (12, (aE false))] ?_
      refine aL ?_
      refine cA 0 ?_
      refine aX aD 5 [] [(39, (aE false))] ?_
      refine nI (false) (fun hc45 => ?_) (fun hc45 => ?_)
      · cases hc45
      · refine aX aD 2 [9, 10, 11, 39] [(47, (aE false))] ?_
        refine nI (false) (fun hc46 => ?_) (fun hc46 => ?_)
        · cases hc46
        · refine bV aD 2 [(5, (bM (bR.k_words y5))), (7, (bM bR.none_)), (49, (aE false))] ?_
          refine nI (false) (fun hc47 => ?_) (fun hc47 => ?_)
          · cases hc47
          · refine bK ?_
            refine eP [(5, (bM (bR.k_words y5))), (7, (bM bR.none_))] ?_
            refine aG (aY (aF (?_)))
            refine aL ?_
            refine eS (eU []) aD 6 ?_
            cases h0
    · replace h0 : (cond ((!x1_1) || (!x39_1)) (some (0 : Int)) (some (1 : Int))) = some r := h0
      refine bG ?_
      refine bZ [3] [(7, (bM (bR.k_number y42))), (8, (aE x39_1))] ?_
      refine aL ?_
      refine aX aD 6 [6, 8] [(28, (aE ((!x1_1) || (!x39_1))))] ?_
      refine bJ h0 (fun h0 => ?_) (fun h0 => ?_)
      · refine bV aD 1 [(4, (eI (0 : Int)))] ?_
        refine bL ?_
        obtain rfl := oI h0
        exact aG (aO (Q_r hO))
      refine bK ?_
      refine bH [(5, (bM (bR.k_words y5))), (7, (bM (bR.k_number y42)))] ?_
      refine aX aD 7 [] [(9, (eI 0)), (10, (aE false))] ?_
      refine aX aD 7 [] [(11, (eI y42)), (12, (aE true))] ?_
      refine aL ?_
      refine cA 0 ?_
      refine aX aD 5 [] [(39, (aE false))] ?_
      refine nI (false) (fun hc49 => ?_) (fun hc49 => ?_)
      · cases hc49
      · refine aX aD 2 [9, 10, 11, 39] [(47, (aE false))] ?_
        refine nI (false) (fun hc50 => ?_) (fun hc50 => ?_)
        · cases hc50
        · refine bV aD 2 [(5, (bM (bR.k_words y5))), (7, (bM (bR.k_number y42))), (49, (aE true))] ?_
          refine nI (true) (fun hc51 => ?_) (fun hc51 => ?_)
          · refine bV aD 1 [(4, (eI (1 : Int)))] ?_
            refine bL ?_
            obtain rfl := oI h0
            exact aG (bE (aO (Q_r hO)))
          · cases hc51
    · replace h0 : (cond ((!x1_1) || (!x39_1)) (some (0 : Int)) ((nB y5 y43).bind fun x56 => some x56)) = some r := h0
      refine bG ?_
      refine bZ [3] [(7, (bM (bR.k_words y43))), (8, (aE x39_1))] ?_
      refine aL ?_
      refine aX aD 6 [6, 8] [(28, (aE ((!x1_1) || (!x39_1))))] ?_
      refine bJ h0 (fun h0 => ?_) (fun h0 => ?_)
      · refine bV aD 1 [(4, (eI (0 : Int)))] ?_
        refine bL ?_
        obtain rfl := oI h0
        exact aG (aO (Q_r hO))
      refine bK ?_
      refine bH [(5, (bM (bR.k_words y5))), (7, (bM (bR.k_words y43)))] ?_
      refine aX aD 7 [] [(9, (eI 0)), (10, (aE false))] ?_
      refine aX aD 7 [] [(11, (eI 0)), (12, (aE false))] ?_
      refine aL ?_
      refine cA 0 ?_
      refine aX aD 5 [] [(39, (aE false))] ?_
      refine nI (false) (fun hc53 => ?_) (fun hc53 => ?_)
      · cases hc53
      · refine aX aD 2 [9, 10, 11, 39] [(47, (aE false))] ?_
        refine nI (false) (fun hc54 => ?_) (fun hc54 => ?_)
        · cases hc54
        · refine bV aD 2 [(5, (bM (bR.k_words y5))), (7, (bM (bR.k_words y43))), (49, (aE false))] ?_
          refine nI (false) (fun hc55 => ?_) (fun hc55 => ?_)
          · cases hc55
          · refine bK ?_
            refine eP [(5, (bM (bR.k_words y5))), (7, (bM (bR.k_words y43)))] ?_
            refine aG (aY (aF (?_)))
            refine aL ?_
            refine eS (eU []) aD 6 ?_
            refine jZ 4 ?_
            obtain ⟨x56, hx57, h0⟩ := aZ h0
            refine yL (JP y5 y43 _ hx57) hO ?_
            intro H hO
            refine gK ?_
            refine bH [(4, (eI x56))] ?_
            refine bL ?_
            obtain rfl := oI h0
            exact aG (Q_r hO)

theorem RY (a0 : (List aC)) (b1 : (List aC)) (r : Int) (h0 : tF a0 b1 = some r) : dJ Try.prog 72 [(eL aB a0), (eL aB b1)] (eI r) := by
  intro H0
  refine dH Try.func72 ?_
  have hO := aI.start H0
  unfold tF at h0
  refine aL ?_
  refine aW aD 2 ?_
  refine gC 1 (eL aB b1) (by kernel_rfl) (by kernel_rfl) ?_
  refine bG ?_
  refine bZ [1] [(3, (.rp (eL aB b1)))] ?_
  refine aL ?_
  refine aL ?_
  refine aW aD 8 ?_
  refine bU 1 ?_
  obtain ⟨x1, hx2, h0⟩ := aZ h0
  refine dQ (IY a0 _ hx2) hO ?_
  intro H hO
  refine bU 5 ?_
  obtain ⟨x4, hx5, h0⟩ := aZ h0
  refine lX [(10, false)] 71 [(eL aB b1)] (aE x4) (!(!x1)) (by kernel_rfl) (by kernel_rfl) (by kernel_rfl) (fun hb6 => (IY b1 _ (gV hx5 hb6))) hO ?_
  intro H hO
  refine bG ?_
  refine bZ [] [(14, (aE ((!x1) || (!x4))))] ?_
  refine bJ h0 (fun h0 => ?_) (fun h0 => ?_)
  · refine bV aD 1 [(4, (eI (0 : Int)))] ?_
    refine bL ?_
    obtain rfl := oI h0
    exact aG (aO (Q_r hO))
  refine bK ?_
  refine bH [(0, (eL aB a0)), (3, (.rp (eL aB b1)))] ?_
  refine aX aD 6 [] [(5, (eI (if (lN b1) < (lN a0) then (lN b1) else (lN a0))))] ?_
  refine aL ?_
  refine eS (eU []) aD 7 ?_
  obtain ⟨c8, h0⟩ := bA h0
  refine cI 4 [0 ≤ (if (lN b1) < (lN a0) then (lN b1) else (lN a0)) ∧ (if (lN b1) < (lN a0) then (lN b1) else (lN a0)) ≤ (lN a0)] ⟨c8, trivial⟩ ?_
  obtain ⟨x9, hx10, h0⟩ := aZ h0
  refine aDe (L' := fun lo11 => [(lo11, 1, [(eI x9.1)])]) 1 [(eI x9.1)] 96 [(.rp (eL aB b1))] (fun lo11 => (.fn (.func 97) [] [(.lp lo11 0 0), (.rp (eL aB x9.2))])) (by kernel_rfl) (by kernel_rfl) (NF b1 _ hx10) hO (fun _ => by kernel_rfl) ?_
  intro lo11 H hO
  obtain ⟨x12, hx13, h0⟩ := aZ h0
  refine aC8 (fun st G' => G' = up [(lo11, 1, [(eI st)])] ++ []) [(lo11, 1, [(eI x12.1)])] x9.1 x12.1 95 [(.sl false (Int.toNat (if (lN b1) < (lN a0) then (lN b1) else (lN a0))) (fun i => aB (List.getD a0 i default))), (.fn (.func 97) [] [(.lp lo11 0 0), (.rp (eL aB x9.2))])] (eI x12.2) (by kernel_rfl) (by kernel_rfl) (yF.sub (as0' := [(eL aB (List.take (Int.toNat (if (lN b1) < (lN a0) then (lN b1) else (lN a0))) a0)), (.fn (.func 97) [] [(.lp lo11 0 0), (.rp (eL aB x9.2))])]) (uK _ (List.take (Int.toNat (if (lN b1) < (lN a0) then (lN b1) else (lN a0))) a0) (.fn (.func 97) [] [(.lp lo11 0 0), (.rp (eL aB x9.2))]) (fun st y0 => (kN y0 st x9.2).bind fun o => some (o.2, o.1)) (fun st y0 st2 rr hr => (JL y0 lo11 st x9.2 _ (aEd hr)).toV (ys := []) (zs := [(aB y0)]) (cs := [(.lp lo11 0 0), (.rp (eL aB x9.2))]) (fun Gx hG => ⟨up [], up [] ++ [], hG, rfl⟩)) _ _ hx13) ⟨aCQ (Int.toNat_le.2 (And.right c8)), aN.refl _, trivial⟩) hO rfl (fun _ h => h) ?_
  intro H hO
  refine gK ?_
  replace hO := hO.pick (L' := []) [] (by decide) (by kernel_rfl)
  refine bZ [5] [(6, (eI x12.2))] ?_
  refine aL ?_
  refine aX aD 2 [] [(27, (aE (decide (x12.2 < (0 : Int)))))] ?_
  refine bJ h0 (fun h0 => ?_) (fun h0 => ?_)
  · refine aL ?_
    refine aW aD 6 ?_
    refine bU 4 ?_
    obtain ⟨x15, hx16, h0⟩ := aZ h0
    refine dQ (JQ (lN a0) (lN b1) _ hx16) hO ?_
    intro H hO
    refine bG ?_
    refine bH [(4, (eI x15))] ?_
    refine bL ?_
    obtain rfl := oI h0
    exact aG (aO (Q_r hO))
  refine bK ?_
  refine bH [(0, (eL aB a0)), (3, (.rp (eL aB b1))), (6, (eI x12.2))] ?_
  refine aL ?_
  refine eS (eU [36, 37, 40, 41]) aD 10 ?_
  obtain ⟨c18, h0⟩ := bA h0
  obtain ⟨c19, h0⟩ := bA h0
  refine cI 8 [0 ≤ x12.2 ∧ x12.2 < (lN a0), 0 ≤ x12.2 ∧ x12.2 < (lN b1)] ⟨c18, c19, trivial⟩ ?_
  obtain ⟨x20, hx21, h0⟩ := aZ h0
  refine yL (NI (gD a0 x12.2) (gD b1 x12.2) _ hx21) hO ?_
  intro H hO
  refine gK ?_
  refine bH [(4, (eI x20))] ?_
  refine bL ?_
  obtain rfl := oI h0
  exact aG (Q_r hO)

theorem JT (l0 : (List aR)) (holds1_f : Nat) (holds1_a holds1_c : List V) (vK : (List aH) → Option Bool) (holds1_h : ∀ a0 r, vK a0 = some r → dJ Try.prog holds1_f (holds1_a ++ [(eL aK a0)] ++ holds1_c) (aE r)) (r : Bool) (h0 : uC l0 vK = some r) : dJ Try.prog 49 [(eL aQ l0), (.fn (.func holds1_f) holds1_a holds1_c)] (aE r) := by
  intro H0
  refine ET aD Try.func49 (by kernel_rfl) (by kernel_rfl) (by kernel_rfl) ?_
  have hO := aI.start H0
  unfold uC at h0
  refine aL ?_
  refine aW aD 2 ?_
  refine gC 1 (.fn (.func holds1_f) holds1_a holds1_c) (by kernel_rfl) (by kernel_rfl) ?_
  refine lR 1 (aE false) (by kernel_rfl) (by kernel_rfl) hO ?_
  intro lo1 H hO
  refine eT ?_
  refine bZ [1] [(3, (.rp (.fn (.func holds1_f) holds1_a holds1_c))), (4, (.lp lo1 0 0))] ?_
  refine aL ?_
  refine aX aD 3 [] [(11, (aE (decide ((4096 : Int) < (lN l0)))))] ?_
  refine bJ h0 (fun h0 => ?_) (fun h0 => ?_)
  · refine aL ?_
    refine aW aD 1 ?_
    refine jW 0 lo1 1 0 (aE false) (aE false) [(aE false)] [(lo1, 1, [(aE false)])] hO rfl (by kernel_rfl) ?_
    intro H hO
    refine eT ?_
    refine bH [(4, (.lp lo1 0 0))] ?_
    refine bL ?_
    obtain rfl := oI h0
    exact aG (aO (QM0 (.inr rfl) (rs := [.cell 4 4]) (xs := [(aE false)]) (x := (aE false)) (by kernel_rfl) (iS (lo := lo1) (k := 1) (y := (aE false)) (x := (aE false)) 0 hO (by kernel_rfl) (by kernel_rfl) (by kernel_rfl) (by kernel_rfl) nK) (by kernel_rfl) ⟨rfl, hO.out⟩))
  refine bK ?_
  refine bH [(0, (eL aQ l0)), (3, (.rp (.fn (.func holds1_f) holds1_a holds1_c))), (4, (.lp lo1 0 0))] ?_
  refine aL ?_
  refine aW aD 1 ?_
  refine FT 1 (.sl true 0 (fun _ => .bad)) (eL aB ([])) (by kernel_rfl) (by kernel_rfl) (by kernel_rfl) (jT) (by kernel_rfl) (by kernel_rfl) hO ?_
  intro lo3 H hO
  refine eT ?_
  refine bZ [] [(5, (.lp lo3 0 0))] ?_
  refine aL ?_
  refine aW aD 2 ?_
  refine lR 1 (aE false) (by kernel_rfl) (by kernel_rfl) hO ?_
  intro lo4 H hO
  refine jW 2 lo4 1 0 (aE false) (aE false) [(aE false)] [(lo1, 1, [(aE false)]), (lo3, 1, [(eL aB ([]))]), (lo4, 1, [(aE false)])] hO rfl (by kernel_rfl) ?_
  intro H hO
  refine eT ?_
  refine bZ [] [(6, (.lp lo4 0 0))] ?_
  refine aL ?_
  refine aL ?_
  refine aW aD 2 ?_
  refine bU 1 ?_
  obtain ⟨x5, hx6, h0⟩ := aZ h0
  refine dQ (JX l0 _ hx6) hO ?_
  intro H hO
  refine eT ?_
  refine bZ [0] [(13, (.fn (.func 74) [] [(.rp (eL aQ x5))]))] ?_
  refine cA 0 ?_
  refine eG [(3, (.rp (.fn (.func holds1_f) holds1_a holds1_c))), (4, (.lp lo1 0 0)), (5, (.lp lo3 0 0)), (6, (.lp lo4 0 0)), (13, (.fn (.func 74) [] [(.rp (eL aQ x5))]))] ?_
  refine dY (fun T H => ∃ t4 : Bool, ∃ pE : (List aC), ∃ kS : Bool, ∃ wM : (List aR), Has T [(3, (.rp (.fn (.func holds1_f) holds1_a holds1_c))), (4, (.lp lo1 0 0)), (5, (.lp lo3 0 0)), (6, (.lp lo4 0 0)), (13, (.fn (.func 74) [] [(.rp (eL aQ wM))]))] ∧ aI ⟨H0, [], []⟩ H [(lo1, 1, [(aE t4)]), (lo3, 1, [(eL aB pE)]), (lo4, 1, [(aE kS)])] ∧ zE vK t4 pE kS wM = some r) ?_ ⟨false, [], false, x5, .eq (by kernel_rfl), hO, h0⟩
  clear hO h0
  rintro T H ⟨t4, pE, kS, wM, hT, hO, h0⟩
  refine bD (l := [(3, (.rp (.fn (.func holds1_f) holds1_a holds1_c))), (4, (.lp lo1 0 0)), (5, (.lp lo3 0 0)), (6, (.lp lo4 0 0)), (13, (.fn (.func 74) [] [(.rp (eL aQ wM))]))]) hT ?_
  clear hT
  unfold zE at h0
  obtain ⟨o0, hl0, h0⟩ := aZ h0
  refine CD (fid := 74) (ys := []) (cs := [(.rp (eL aQ wM))]) #[14, 15] (fun (A : uV) (b lL : Nat) (st : (Bool × (List aC) × Bool) ⊕ (Bool × (List aC) × Bool)) (G' : Gs) => Sum.elim (fun (s : Bool × (List aC) × Bool) => G' = (lL, .raw (gZ b A .ready none)) :: (up [(lo1, 1, [(aE s.1)]), (lo3, 1, [(eL aB s.2.1)]), (lo4, 1, [(aE s.2.2)])] ++ [])) (fun (s : Bool × (List aC) × Bool) => G' = (lL, .raw (gZ b A .done (some .ret))) :: (up [(lo1, 1, [(aE s.1)]), (lo3, 1, [(eL aB s.2.1)]), (lo4, 1, [(aE s.2.2)])] ++ [])) st) (.inl (t4, pE, kS)) o0 (.tup []) (by kernel_rfl) (by kernel_rfl) (by kernel_rfl) hO (fun _ _ => rfl) ?_ ?_
  · intro b lL
    clear hO h0
    refine DZ _ b (fun st t14 t15 => rnd (fun (s : Bool × (List aC) × Bool) => pQ vK wM s.1 s.2.1 s.2.2 t14 t15) st) ?_ wM _ _ hl0
    intro st t14 t15 out1 rr hr
    obtain ⟨s, rfl, h1, rfl⟩ := PK hr
    clear hr
    intro Hr Gr hi hg
    obtain ⟨t4, pE, kS⟩ := s
    dsimp only [Sum.elim_inl] at hi
    obtain rfl := hi
    replace h1 : pQ vK wM t4 pE kS t14 t15 = some out1 := h1
    unfold pQ at h1
    obtain ⟨E1, hE, hO⟩ := tW hg
    refine tY (zZ (hO.gm 0 _ rfl).2 (by kernel_rfl) (by kernel_rfl) ?_)
    refine eG [(3, (.rp (.fn (.func holds1_f) holds1_a holds1_c))), (4, (.lp lo1 0 0)), (5, (.lp lo3 0 0)), (6, (.lp lo4 0 0)), (13, (.fn (.func 74) [] [(.rp (eL aQ wM))])), (14, (eL aB t14)), (15, (eL aK t15))] ?_
    refine aX aD 1 [13, 14] [(7, (eL aB t14))] ?_
    refine aW aD 1 ?_
    refine bG ?_
    refine eP [(3, (.rp (.fn (.func holds1_f) holds1_a holds1_c))), (4, (.lp lo1 0 0)), (5, (.lp lo3 0 0)), (6, (.lp lo4 0 0)), (7, (eL aB t14)), (8, (eL aK t15))] ?_
    refine aG (⟨rfl, rfl, (hO.gm 0 _ rfl).2, ?_⟩)
    intro o1 ho1
    replace hO := hO.qA o1
    refine cA 1 ?_
    refine aL ?_
    refine aL ?_
    refine aW aD 18 ?_
    refine bU 1 ?_
    obtain ⟨x7, hx8, h1⟩ := aZ h1
    refine dQ (IY t14 _ hx8) hO ?_
    intro H hO
    refine bU 4 ?_
    refine yO [(19, false)] 2 lo4 1 0 (aE kS) (aE kS) [(aE kS)] (by kernel_rfl) (by kernel_rfl) hO (by kernel_rfl) (!(!x7)) (by kernel_rfl) (fun hb10 => rfl) ?_
    refine bU 6 ?_
    refine yO [(21, true), (19, false)] 1 lo3 1 0 (eL aB pE) (eL aB pE) [(eL aB pE)] (by kernel_rfl) (by kernel_rfl) hO (by kernel_rfl) (kS && (!(!x7))) (by kernel_rfl) (fun hb11 => rfl) ?_
    refine bU 8 ?_
    obtain ⟨x12, hx13, h1⟩ := aZ h1
    refine lX [(21, true), (19, false)] 72 [(eL aB pE), (eL aB t14)] (eI x12) (kS && (!(!x7))) (by kernel_rfl) (by kernel_rfl) (by kernel_rfl) (fun hb14 => (RY pE t14 _ (gV hx13 hb14))) hO ?_
    intro H hO
    refine bU 15 ?_
    obtain ⟨x15, hx16, h1⟩ := aZ h1
    refine lX [(28, false)] holds1_f (holds1_a ++ [(eL aK t15)] ++ holds1_c) (aE x15) (!((!x7) || (kS && (decide ((0 : Int) ≤ x12))))) (by kernel_rfl) (by kernel_rfl) (by kernel_rfl) (fun hb17 => (holds1_h t15 _ (gV hx16 hb17))) hO ?_
    intro H hO
    refine bG ?_
    refine bZ [3, 8] [(33, (aE (((!x7) || (kS && (decide ((0 : Int) ≤ x12)))) || (!x15))))] ?_
    refine bJ h1 (fun h1 => ?_) (fun h1 => ?_)
    · refine aL ?_
      refine aW aD 1 ?_
      refine jW 0 lo1 1 0 (aE t4) (aE false) [(aE t4)] [(lo1, 1, [(aE false)]), (lo3, 1, [(eL aB pE)]), (lo4, 1, [(aE kS)])] hO rfl (by kernel_rfl) ?_
      intro H hO
      refine eT ?_
      refine bZ [7, 33] [] ?_
      refine bL ?_
      refine eP [(4, (.lp lo1 0 0)), (5, (.lp lo3 0 0)), (6, (.lp lo4 0 0))] ?_
      obtain rfl := oI h1
      exact aG (aO (bE (⟨(fC hO hE ho1 .dead).1, rfl, _, rfl, (fC hO hE ho1 _).2⟩)))
    refine bK ?_
    refine bH [(4, (.lp lo1 0 0)), (5, (.lp lo3 0 0)), (6, (.lp lo4 0 0)), (7, (eL aB t14))] ?_
    refine aW aD 3 ?_
    refine bU 1 ?_
    refine jW 1 lo3 1 0 (eL aB pE) (eL aB t14) [(eL aB pE)] [(lo1, 1, [(aE t4)]), (lo3, 1, [(eL aB t14)]), (lo4, 1, [(aE kS)])] hO rfl (by kernel_rfl) ?_
    intro H hO
    refine jW 2 lo4 1 0 (aE kS) (aE true) [(aE kS)] [(lo1, 1, [(aE t4)]), (lo3, 1, [(eL aB t14)]), (lo4, 1, [(aE true)])] hO rfl (by kernel_rfl) ?_
    intro H hO
    refine eT ?_
    refine eP [(4, (.lp lo1 0 0)), (5, (.lp lo3 0 0)), (6, (.lp lo4 0 0))] ?_
    obtain rfl := oI h1
    exact aG (aY (⟨(fC hO hE ho1 .dead).1, rfl, _, rfl, (fC hO hE ho1 _).2⟩))
  · intro b lD19 lL H' G' hi hO
    rcases o0 with s | s
    · dsimp only [Sum.elim_inl] at hi
      obtain rfl := hi
      replace h0 : (some true) = some r := h0
      obtain ⟨hlL, hO⟩ := oB hO
      refine ⟨_, _, hlL, (by intro e; cases e), ?_⟩
      refine eP [(4, (.lp lo1 0 0))] ?_
      replace hO := hO.pick (L' := [(lo1, 1, [(aE s.1)])]) [0] (by decide) (by kernel_rfl)
      refine aG (aY (aF (?_)))
      refine aL ?_
      refine aW aD 1 ?_
      refine jW 0 lo1 1 0 (aE s.1) (aE true) [(aE s.1)] [(lo1, 1, [(aE true)])] hO rfl (by kernel_rfl) ?_
      intro H hO
      refine eT ?_
      refine bH [(4, (.lp lo1 0 0))] ?_
      refine bL ?_
      obtain rfl := oI h0
      have hD := (hO.gm 0 _ rfl).2
      replace hO := (hO.qA .dead).qY
      exact aG (QM1 (.inr rfl) hD (rs := [.cell 4 4]) (xs := [(aE true)]) (x := (aE true)) (by kernel_rfl) (iS (lo := lo1) (k := 1) (y := (aE true)) (x := (aE true)) 0 hO (by kernel_rfl) (by kernel_rfl) (by kernel_rfl) (by kernel_rfl) nK) (by kernel_rfl) ⟨rfl, hO.out⟩)
    · dsimp only [Sum.elim_inr] at hi
      obtain rfl := hi
      replace h0 : (some s.1) = some r := h0
      obtain ⟨hlL, hO⟩ := oB hO
      refine ⟨_, _, hlL, (by intro e; cases e), ?_⟩
      refine bL ?_
      replace hO := hO.pick (L' := [(lo1, 1, [(aE s.1)])]) [0] (by decide) (by kernel_rfl)
      obtain rfl := oI h0
      have hD := (hO.gm 0 _ rfl).2
      replace hO := (hO.qA .dead).qY
      exact aG (bE (aO (QM1 (.inr rfl) hD (rs := [.cell 4 4]) (xs := [(aE s.1)]) (x := (aE s.1)) (by kernel_rfl) (iS (lo := lo1) (k := 1) (y := (aE s.1)) (x := (aE s.1)) 0 hO (by kernel_rfl) (by kernel_rfl) (by kernel_rfl) (by kernel_rfl) nK) (by kernel_rfl) ⟨rfl, hO.out⟩)))

theorem WK (n0 : Int) (r : Bool) (h0 : AU n0 = some r) : dJ Try.prog 73 [(eI n0)] (aE r) := by
  intro H0
  refine dH Try.func73 ?_
  have hO := aI.start H0
  unfold AU at h0
  refine aX aD 1 [] [] ?_
  refine bV aD 7 [(2, (aE ((decide (n0 ≤ (1048576 : Int))) && (decide ((-1048576 : Int) ≤ n0)))))] ?_
  refine bL ?_
  obtain rfl := oI h0
  exact aG (Q_r hO)

theorem BU (f0 : (List aH)) (r : Bool) (h0 : oZ f0 = some r) : dJ Try.prog 51 [(eL aK f0)] (aE r) := by
  intro H0
  refine dH Try.func51 ?_
  have hO := aI.start H0
  unfold oZ at h0
  refine aX aD 1 [] [] ?_
  refine aL ?_
  refine aX aD 3 [] [(8, (aE (decide ((1024 : Int) < (lN f0)))))] ?_
  refine bJ h0 (fun h0 => ?_) (fun h0 => ?_)
  · refine bV aD 1 [(2, (aE false))] ?_
    refine bL ?_
    obtain rfl := oI h0
    exact aG (aO (Q_r hO))
  refine bK ?_
  refine bH [(0, (eL aK f0))] ?_
  refine aX aD 1 [] [(3, (eI (-2 : Int)))] ?_
  refine dP (fun T H => Has T [] ∧ aI ⟨H0, [], []⟩ H [] ∧ xJ  = some r) ?_ ?_
  · clear hO h0
    rintro T H ⟨hT, hO, h0⟩
    refine bD hT ?_
    clear hT
    unfold xJ at h0
    refine bV aD 1 [(2, (aE true))] ?_
    refine bL ?_
    obtain rfl := oI h0
    exact aG (Q_r hO)
  refine aX aD 3 [0] [(9, (eL aK f0)), (10, (eI (lN f0))), (11, (eI (0 : Int)))] ?_
  refine cA 0 ?_
  refine eG [(3, (eI (-2 : Int))), (9, (eL aK f0)), (10, (eI (lN f0))), (11, (eI (0 : Int)))] ?_
  refine dY (fun T H => ∃ rG : Int, ∃ t9 : (List aH), ∃ t10 : Int, ∃ t11 : Int, Has T [(3, (eI rG)), (9, (eL aK t9)), (10, (eI t10)), (11, (eI t11))] ∧ aI ⟨H0, [], []⟩ H [] ∧ AO rG t9 t10 t11 = some r) ?_ ⟨(-2 : Int), f0, (lN f0), (0 : Int), .eq (by kernel_rfl), hO, h0⟩
  clear hO h0
  rintro T H ⟨rG, t9, t10, t11, hT, hO, h0⟩
  refine bD hT ?_
  clear hT
  unfold AO at h0
  obtain ⟨rr0, hl0, h0⟩ := aZ h0
  refine cR (by kernel_rfl) (fun (s : Int × Int) T H => Has T [(3, (eI s.1)), (9, (eL aK t9)), (10, (eI t10)), (11, (eI s.2))] ∧ aI ⟨H0, [], []⟩ H []) hl0 ⟨.eq (by kernel_rfl), hO⟩ ?_
  clear hO
  rintro k0 s out1 T H ⟨hT, hO⟩ h1 ho0
  obtain ⟨rG, t11⟩ := s
  replace h1 : mS t9 t10 rG t11 = some out1 := h1
  try dsimp only at hT
  refine bD hT ?_
  clear hT
  unfold mS at h1
  refine aX aD 1 [] [(12, (aE (decide (t11 < t10))))] ?_
  refine aL ?_
  refine bJ h1 (fun h1 => ?_) (fun h1 => ?_)
  · refine bK ?_
    refine bH [(3, (eI rG)), (9, (eL aK t9)), (10, (eI t10)), (11, (eI t11))] ?_
    refine aL ?_
    refine cA 1 ?_
    refine aL ?_
    refine aW aD 4 ?_
    obtain ⟨c3, h1⟩ := bA h1
    refine pZ 2 [0 ≤ t11 ∧ t11 < (lN t9)] ⟨c3, trivial⟩ ?_
    refine lR 2 (aK (aH.mk 0 0)) (by kernel_rfl) (by kernel_rfl) hO ?_
    intro lo4 H hO
    refine jW 0 lo4 2 0 (aK (aH.mk 0 0)) (aK (gD t9 t11)) [(aK (aH.mk 0 0))] [(lo4, 2, [(aK (gD t9 t11))])] hO rfl (by kernel_rfl) ?_
    intro H hO
    refine eT ?_
    refine bZ [] [(5, (.lp lo4 0 0))] ?_
    refine aL ?_
    refine aL ?_
    refine aW aD 20 ?_
    refine bU 1 ?_
    refine oQ 0 lo4 2 0 (aK (gD t9 t11)) (eI ((gD t9 t11).At)) [(aK (gD t9 t11))] hO rfl ?_
    refine bU 6 ?_
    refine yO [(19, false)] 0 lo4 2 0 (aK (gD t9 t11)) (eI ((gD t9 t11).At)) [(aK (gD t9 t11))] (by kernel_rfl) (by kernel_rfl) hO (by kernel_rfl) (!(decide (((gD t9 t11).At) ≤ rG))) (by kernel_rfl) (fun hb5 => rfl) ?_
    refine bU 11 ?_
    refine yO [(24, false)] 0 lo4 2 0 (aK (gD t9 t11)) (eI ((gD t9 t11).Net)) [(aK (gD t9 t11))] (by kernel_rfl) (by kernel_rfl) hO (by kernel_rfl) (!((decide (((gD t9 t11).At) ≤ rG)) || (decide ((1125899906842624 : Int) ≤ ((gD t9 t11).At))))) (by kernel_rfl) (fun hb6 => rfl) ?_
    refine bU 16 ?_
    refine yO [(29, false)] 0 lo4 2 0 (aK (gD t9 t11)) (eI ((gD t9 t11).Net)) [(aK (gD t9 t11))] (by kernel_rfl) (by kernel_rfl) hO (by kernel_rfl) (!(((decide (((gD t9 t11).At) ≤ rG)) || (decide ((1125899906842624 : Int) ≤ ((gD t9 t11).At)))) || (decide (((gD t9 t11).Net) = (0 : Int))))) (by kernel_rfl) (fun hb7 => rfl) ?_
    obtain ⟨x8, hx9, h1⟩ := aZ h1
    refine lX [(29, false)] 73 [(eI ((gD t9 t11).Net))] (aE x8) (!(((decide (((gD t9 t11).At) ≤ rG)) || (decide ((1125899906842624 : Int) ≤ ((gD t9 t11).At)))) || (decide (((gD t9 t11).Net) = (0 : Int))))) (by kernel_rfl) (by kernel_rfl) (by kernel_rfl) (fun hb10 => (WK ((gD t9 t11).Net) _ (gV hx9 hb10))) hO ?_
    intro H hO
    refine bG ?_
    refine bZ [3] [(34, (aE ((((decide (((gD t9 t11).At) ≤ rG)) || (decide ((1125899906842624 : Int) ≤ ((gD t9 t11).At)))) || (decide (((gD t9 t11).Net) = (0 : Int)))) || (!x8))))] ?_
    refine bJ h1 (fun h1 => ?_) (fun h1 => ?_)
    · refine aL ?_
      refine aW aD 1 ?_
      refine bG ?_
      refine eP [(2, (aE false))] ?_
      replace hO := hO.pick (L' := []) [] (by decide) (by kernel_rfl)
      refine aG (aF (?_))
      refine bL ?_
      obtain rfl := oI h1
      obtain rfl : _ = rr0 := ho0
      replace h0 : some false = some r := h0
      obtain rfl := oI h0
      exact aG (aO (bE (aO (aO (bE (aO (Q_r hO)))))))
    refine bK ?_
    refine bH [(5, (.lp lo4 0 0)), (9, (eL aK t9)), (10, (eI t10)), (11, (eI t11))] ?_
    refine aW aD 3 ?_
    refine bU 1 ?_
    refine oQ 0 lo4 2 0 (aK (gD t9 t11)) (eI ((gD t9 t11).At)) [(aK (gD t9 t11))] hO rfl ?_
    refine bG ?_
    refine eP [(3, (eI ((gD t9 t11).At))), (9, (eL aK t9)), (10, (eI t10)), (11, (eI t11))] ?_
    replace hO := hO.pick (L' := []) [] (by decide) (by kernel_rfl)
    refine aG (aY (aF (?_)))
    refine aW aD 2 ?_
    refine bG ?_
    exact aG (aF (⟨rfl, _, (oI h1).symm, .eq (by kernel_rfl), hO⟩))
  refine eR 0 ?_
  obtain rfl := oI h1
  obtain rfl : _ = rr0 := ho0
  replace h0 : xJ  = some r := h0
  exact aG (aV (aV (bS (aF (⟨rfl, .eq (by kernel_rfl), hO, h0⟩)))))

theorem MP (l0 : (List aR)) (r : Bool) (h0 : wU l0 = some r) : dJ Try.prog 31 [(eL aQ l0)] (aE r) := by
  intro H0
  refine dH Try.func31 ?_
  have hO := aI.start H0
  unfold wU at h0
  refine aX aD 1 [] [] ?_
  refine aL ?_
  refine aW aD 3 ?_
  refine bU 1 ?_
  obtain ⟨x1, hx2, h0⟩ := aZ h0
  refine dQ (JT l0 51 [] [] (fun y0 => oZ y0) (fun y0 r h => BU y0 r h) _ hx2) hO ?_
  intro H hO
  refine bG ?_
  refine bH [(2, (aE x1))] ?_
  refine bL ?_
  obtain rfl := oI h0
  exact aG (Q_r hO)

theorem VU (f0 : (List aH)) (r : Int) (h0 : vT f0 = some r) : dJ Try.prog 52 [(eL aK f0)] (eI r) := by
  intro H0
  refine dH Try.func52 ?_
  have hO := aI.start H0
  unfold vT at h0
  refine aX aD 1 [] [] ?_
  refine aL ?_
  refine aL ?_
  refine aW aD 8 ?_
  refine bU 1 ?_
  obtain ⟨x1, hx2, h0⟩ := aZ h0
  refine dQ (BU f0 _ hx2) hO ?_
  intro H hO
  refine bG ?_
  refine bZ [] [(14, (aE ((!x1) || (decide ((lN f0) = (0 : Int))))))] ?_
  refine bJ h0 (fun h0 => ?_) (fun h0 => ?_)
  · refine bV aD 1 [(2, (eI (0 : Int)))] ?_
    refine bL ?_
    obtain rfl := oI h0
    exact aG (aO (Q_r hO))
  refine bK ?_
  refine bH [(0, (eL aK f0))] ?_
  refine aX aD 2 [] [(3, (eI (0 : Int))), (4, (eI (0 : Int)))] ?_
  refine dP (fun T H => ∃ v3 : Int, ∃ iN : Int, Has T [(0, (eL aK f0)), (3, (eI v3)), (4, (eI iN))] ∧ aI ⟨H0, [], []⟩ H [] ∧ qM f0 v3 iN = some r) ?_ ?_
  · clear hO h0
    rintro T H ⟨v3, iN, hT, hO, h0⟩
    refine bD hT ?_
    clear hT
    unfold qM at h0
    refine dP (fun T H => ∃ iN : Int, Has T [(4, (eI iN))] ∧ aI ⟨H0, [], []⟩ H [] ∧ tP iN = some r) ?_ ?_
    · clear hO h0
      rintro T H ⟨iN, hT, hO, h0⟩
      refine bD hT ?_
      clear hT
      unfold tP at h0
      refine bV aD 2 [(2, (eI iN))] ?_
      refine bL ?_
      obtain rfl := oI h0
      exact aG (Q_r hO)
    refine aX aD 3 [0] [(24, (eL aK f0)), (25, (eI (lN f0))), (26, (eI (0 : Int)))] ?_
    refine cA 0 ?_
    refine eG [(3, (eI v3)), (4, (eI iN)), (24, (eL aK f0)), (25, (eI (lN f0))), (26, (eI (0 : Int)))] ?_
    refine dY (fun T H => ∃ v3 : Int, ∃ iN : Int, ∃ t24 : (List aH), ∃ t25 : Int, ∃ t26 : Int, Has T [(3, (eI v3)), (4, (eI iN)), (24, (eL aK t24)), (25, (eI t25)), (26, (eI t26))] ∧ aI ⟨H0, [], []⟩ H [] ∧ tL v3 iN t24 t25 t26 = some r) ?_ ⟨v3, iN, f0, (lN f0), (0 : Int), .eq (by kernel_rfl), hO, h0⟩
    clear hO h0
    rintro T H ⟨v3, iN, t24, t25, t26, hT, hO, h0⟩
    refine bD hT ?_
    clear hT
    unfold tL at h0
    obtain ⟨rr0, hl0, h0⟩ := aZ h0
    refine cR (by kernel_rfl) (fun (s : Int × Int × Int) T H => Has T [(3, (eI s.1)), (4, (eI s.2.1)), (24, (eL aK t24)), (25, (eI t25)), (26, (eI s.2.2))] ∧ aI ⟨H0, [], []⟩ H []) hl0 ⟨.eq (by kernel_rfl), hO⟩ ?_
    clear hO
    rintro k0 s out1 T H ⟨hT, hO⟩ h1 ho0
    obtain ⟨v3, iN, t26⟩ := s
    replace h1 : nD t24 t25 v3 iN t26 = some out1 := h1
    try dsimp only at hT
    refine bD hT ?_
    clear hT
    unfold nD at h1
    refine aX aD 1 [] [(27, (aE (decide (t26 < t25))))] ?_
    refine aL ?_
    refine bJ h1 (fun h1 => ?_) (fun h1 => ?_)
    · refine bK ?_
      refine bH [(3, (eI v3)), (4, (eI iN)), (24, (eL aK t24)), (25, (eI t25)), (26, (eI t26))] ?_
      refine aL ?_
      refine cA 1 ?_
      refine aL ?_
      refine aW aD 4 ?_
      obtain ⟨c6, h1⟩ := bA h1
      refine pZ 2 [0 ≤ t26 ∧ t26 < (lN t24)] ⟨c6, trivial⟩ ?_
      refine lR 2 (aK (aH.mk 0 0)) (by kernel_rfl) (by kernel_rfl) hO ?_
      intro lo7 H hO
      refine jW 0 lo7 2 0 (aK (aH.mk 0 0)) (aK (gD t24 t26)) [(aK (aH.mk 0 0))] [(lo7, 2, [(aK (gD t24 t26))])] hO rfl (by kernel_rfl) ?_
      intro H hO
      refine eT ?_
      refine bZ [] [(6, (.lp lo7 0 0))] ?_
      refine aL ?_
      refine aW aD 5 ?_
      refine bU 2 ?_
      refine oQ 0 lo7 2 0 (aK (gD t24 t26)) (eI ((gD t24 t26).Net)) [(aK (gD t24 t26))] hO rfl ?_
      refine bG ?_
      replace hO := hO.pick (L' := []) [] (by decide) (by kernel_rfl)
      refine bZ [3, 6] [(3, (eI (wR (v3 + ((gD t24 t26).Net)))))] ?_
      refine aW aD 4 ?_
      refine bG ?_
      refine eP [(3, (eI (wR (v3 + ((gD t24 t26).Net))))), (4, (eI (if (wR (v3 + ((gD t24 t26).Net))) < iN then (wR (v3 + ((gD t24 t26).Net))) else iN))), (24, (eL aK t24)), (25, (eI t25)), (26, (eI t26))] ?_
      refine aG (aY (aF (?_)))
      refine aW aD 2 ?_
      refine bG ?_
      exact aG (aF (⟨rfl, _, (oI h1).symm, .eq (by kernel_rfl), hO⟩))
    refine eR 0 ?_
    obtain rfl := oI h1
    obtain rfl : _ = rr0 := ho0
    replace h0 : tP iN = some r := h0
    exact aG (aV (aV (bS (aF (⟨rfl, _, .eq (by kernel_rfl), hO, h0⟩)))))
  refine aL ?_
  refine aW aD 5 ?_
  obtain ⟨c8, h0⟩ := bA h0
  refine oJ [0 ≤ (0 : Int) ∧ (0 : Int) < (lN f0)] ⟨c8, trivial⟩ ?_
  refine bZ [] [(19, (aE (decide (((gD f0 (0 : Int)).At) = (-1 : Int)))))] ?_
  refine bJ h0 (fun h0 => ?_) (fun h0 => ?_)
  · refine aW aD 5 ?_
    obtain ⟨c10, h0⟩ := bA h0
    refine oJ [0 ≤ (0 : Int) ∧ (0 : Int) < (lN f0)] ⟨c10, trivial⟩ ?_
    exact aG (aF (⟨rfl, _, _, .eq (by kernel_rfl), hO, h0⟩))
  refine bK ?_
  exact aG (aF (⟨rfl, _, _, .eq (by kernel_rfl), hO, h0⟩))

theorem OY (f0 : (List aH)) (r : Bool) (h0 : rP f0 = some r) : dJ Try.prog 50 [(eL aK f0)] (aE r) := by
  intro H0
  refine dH Try.func50 ?_
  have hO := aI.start H0
  unfold rP at h0
  refine aX aD 1 [] [] ?_
  refine aL ?_
  refine aW aD 8 ?_
  refine bU 1 ?_
  obtain ⟨x1, hx2, h0⟩ := aZ h0
  refine dQ (BU f0 _ hx2) hO ?_
  intro H hO
  refine bU 4 ?_
  obtain ⟨x4, hx5, h0⟩ := aZ h0
  refine lX [(5, true)] 52 [(eL aK f0)] (eI x4) x1 (by kernel_rfl) (by kernel_rfl) (by kernel_rfl) (fun hb6 => (VU f0 _ (gV hx5 hb6))) hO ?_
  intro H hO
  refine bG ?_
  refine bH [(2, (aE (x1 && (decide ((0 : Int) ≤ x4)))))] ?_
  refine bL ?_
  obtain rfl := oI h0
  exact aG (Q_r hO)

theorem UU (l0 : (List aR)) (r : Bool) (h0 : vN l0 = some r) : dJ Try.prog 23 [(eL aQ l0)] (aE r) := by
  intro H0
  refine dH Try.func23 ?_
  have hO := aI.start H0
  unfold vN at h0
  refine aX aD 1 [] [] ?_
  refine aL ?_
  refine aW aD 3 ?_
  refine bU 1 ?_
  obtain ⟨x1, hx2, h0⟩ := aZ h0
  refine dQ (JT l0 50 [] [] (fun y0 => rP y0) (fun y0 r h => OY y0 r h) _ hx2) hO ?_
  intro H hO
  refine bG ?_
  refine bH [(2, (aE x1))] ?_
  refine bL ?_
  obtain rfl := oI h0
  exact aG (Q_r hO)

theorem RW (l0 : (List aR)) (r : (List aR)) (h0 : xX l0 = some r) : dJ Try.prog 32 [(eL aQ l0)] (.fn (.func 55) [] [(.rp (eL aQ r))]) := by
  intro H0
  refine dH Try.func32 ?_
  have hO := aI.start H0
  unfold xX at h0
  refine aL ?_
  refine aW aD 2 ?_
  refine gC 1 (eL aQ l0) (by kernel_rfl) (by kernel_rfl) ?_
  refine bG ?_
  refine bH [(1, (.rp (eL aQ l0)))] ?_
  refine bV aD 2 [(2, (.fn (.func 55) [] [(.rp (eL aQ l0))]))] ?_
  refine bL ?_
  obtain rfl := oI h0
  exact aG (mZ (x := (.fn (.func 55) [] [(.rp (eL aQ l0))])) (by kernel_rfl) (aN.refl _) ⟨rfl, hO.out⟩)

theorem JN {σ : Type} (I : σ → Gs → Prop) (yield0_b : Nat) (cW : σ → (List aC) → (List aH) → Option (σ × Bool)) (yield0_h : ∀ st a0 a1 st2 r, cW st a0 a1 = some (st2, r) → BV Try.prog (yv yield0_b) I st [(eL aB a0), (eL aK a1)] st2 (aE r)) (t1 : (List aR)) (sg0 : σ) (r : σ) (h0 : oW cW t1 sg0 = some r) : yF Try.prog 55 I sg0 [(yv yield0_b), (.rp (eL aQ t1))] r (.tup []) := by
  intro H0 G0 hI hg
  refine ET aD Try.func55 (by kernel_rfl) (by kernel_rfl) (by kernel_rfl) ?_
  obtain ⟨G, hO, hI⟩ : ∃ G, aI ⟨H0, List.map (fun p : Nat × dO => p.1) G0, G⟩ H0 [] ∧ I sg0 G := ⟨G0, aI.FC hg, hI⟩
  clear hg
  unfold oW at h0
  refine aL ?_
  refine aW aD 1 ?_
  refine gC 1 (yv yield0_b) (by kernel_rfl) (by kernel_rfl) ?_
  refine eT ?_
  refine bZ [0] [(2, (.rp (yv yield0_b)))] ?_
  refine aL ?_
  refine aL ?_
  refine aW aD 3 ?_
  refine bU 1 ?_
  obtain ⟨x1, hx2, h0⟩ := aZ h0
  refine dQ (MP t1 _ hx2) hO ?_
  intro H hO
  refine bG ?_
  refine bZ [] [(7, (aE (!x1)))] ?_
  refine bJ h0 (fun h0 => ?_) (fun h0 => ?_)
  · refine bL ?_
    obtain rfl := oI h0
    exact aG (aO (QM0 (.inr rfl) (rs := []) (xs := []) (x := (.tup [])) (by kernel_rfl) nK (by kernel_rfl) ⟨rfl, G, hI, hO.zW⟩))
  refine bK ?_
  refine bH [(1, (.rp (eL aQ t1))), (2, (.rp (yv yield0_b)))] ?_
  refine aL ?_
  refine aW aD 2 ?_
  refine bU 1 ?_
  obtain ⟨x5, hx6, h0⟩ := aZ h0
  refine dQ (JX t1 _ hx6) hO ?_
  intro H hO
  refine eT ?_
  refine bZ [1] [(9, (.fn (.func 74) [] [(.rp (eL aQ x5))]))] ?_
  refine cA 0 ?_
  refine eG [(2, (.rp (yv yield0_b))), (9, (.fn (.func 74) [] [(.rp (eL aQ x5))]))] ?_
  refine dY (fun T H => ∃ sg : σ, ∃ t9c0 : (List aR), ∃ G : Gs, Has T [(2, (.rp (yv yield0_b))), (9, (.fn (.func 74) [] [(.rp (eL aQ t9c0))]))] ∧ aI ⟨H0, List.map (fun p : Nat × dO => p.1) G0, G⟩ H [] ∧ I sg G ∧ qU cW sg t9c0 = some r) ?_ ⟨sg0, x5, G, .eq (by kernel_rfl), hO, hI, h0⟩
  clear hO hI h0
  rintro T H ⟨sg, t9c0, G, hT, hO, hI, h0⟩
  refine bD (l := [(2, (.rp (yv yield0_b))), (9, (.fn (.func 74) [] [(.rp (eL aQ t9c0))]))]) hT ?_
  clear hT
  unfold qU at h0
  obtain ⟨o0, hl0, h0⟩ := aZ h0
  refine CD (fid := 74) (ys := []) (cs := [(.rp (eL aQ t9c0))]) #[10, 11] (fun (A : uV) (b lL : Nat) (st : (σ) ⊕ (σ)) (G' : Gs) => Sum.elim (fun (s : σ) => ∃ G : Gs, I s G ∧ G' = (lL, .raw (gZ b A .ready none)) :: (up [] ++ G)) (fun (s : σ) => ∃ G : Gs, I s G ∧ G' = (lL, .raw (gZ b A .done (some .ret))) :: (up [] ++ G)) st) (.inl sg) o0 (.tup []) (by kernel_rfl) (by kernel_rfl) (by kernel_rfl) hO (fun _ _ => ⟨G, hI, rfl⟩) ?_ ?_
  · intro b lL
    clear hO hI h0
    refine DZ _ b (fun st t10 t11 => rnd (fun (s : σ) => lE cW t9c0 s t10 t11) st) ?_ t9c0 _ _ hl0
    intro st t10 t11 out1 rr hr
    obtain ⟨s, rfl, h1, rfl⟩ := PK hr
    clear hr
    intro Hr Gr hi hg
    obtain ⟨sg, rfl⟩ : ∃ x, x = s := ⟨_, rfl⟩
    dsimp only [Sum.elim_inl] at hi
    obtain ⟨G, hI, rfl⟩ := hi
    replace h1 : lE cW t9c0 sg t10 t11 = some out1 := h1
    unfold lE at h1
    obtain ⟨E1, hE, hO⟩ := tW hg
    refine tY (zZ (hO.gm 0 _ rfl).2 (by kernel_rfl) (by kernel_rfl) ?_)
    refine eG [(2, (.rp (yv yield0_b))), (9, (.fn (.func 74) [] [(.rp (eL aQ t9c0))])), (10, (eL aB t10)), (11, (eL aK t11))] ?_
    refine aX aD 1 [9, 10] [(3, (eL aB t10))] ?_
    refine aW aD 1 ?_
    refine bG ?_
    refine eP [(2, (.rp (yv yield0_b))), (3, (eL aB t10)), (4, (eL aK t11))] ?_
    refine aG (⟨rfl, rfl, (hO.gm 0 _ rfl).2, ?_⟩)
    intro o1 ho1
    replace hO := hO.qA o1
    refine cA 1 ?_
    refine aL ?_
    refine aW aD 5 ?_
    refine bU 3 ?_
    obtain ⟨x7, hx8, h1⟩ := aZ h1
    refine aBT (I := I) (yv yield0_b) [(eL aB t10), (eL aK t11)] (aE x7.2) (by kernel_rfl) (by kernel_rfl) (yield0_h _ t10 t11 x7.1 x7.2 hx8) hO hI ?_
    intro G H hO hI
    refine bG ?_
    refine bH [(16, (aE (!x7.2)))] ?_
    refine bJ h1 (fun h1 => ?_) (fun h1 => ?_)
    · refine bL ?_
      refine eP [] ?_
      obtain rfl := oI h1
      exact aG (bE (⟨(fC hO hE ho1 .dead).1, rfl, _, ⟨G, hI, rfl⟩, (fC hO hE ho1 _).2⟩))
    refine bK ?_
    refine eP [] ?_
    obtain rfl := oI h1
    exact aG (aY (⟨(fC hO hE ho1 .dead).1, rfl, _, ⟨G, hI, rfl⟩, (fC hO hE ho1 _).2⟩))
  · intro b lD10 lL H' G' hi hO
    rcases o0 with s | s
    · dsimp only [Sum.elim_inl] at hi
      obtain ⟨G, hI, rfl⟩ := hi
      replace h0 : (some s) = some r := h0
      obtain ⟨hlL, hO⟩ := oB hO
      refine ⟨_, _, hlL, (by intro e; cases e), ?_⟩
      obtain rfl := oI h0
      have hD := (hO.gm 0 _ rfl).2
      replace hO := (hO.qA .dead).qY
      exact aG (aY (QM1 (.inl rfl) hD (rs := []) (xs := []) (x := (.tup [])) (by kernel_rfl) nK (by kernel_rfl) ⟨rfl, G, hI, hO.zW⟩))
    · dsimp only [Sum.elim_inr] at hi
      obtain ⟨G, hI, rfl⟩ := hi
      replace h0 : (some s) = some r := h0
      obtain ⟨hlL, hO⟩ := oB hO
      refine ⟨_, _, hlL, (by intro e; cases e), ?_⟩
      refine bL ?_
      obtain rfl := oI h0
      have hD := (hO.gm 0 _ rfl).2
      replace hO := (hO.qA .dead).qY
      exact aG (bE (QM1 (.inr rfl) hD (rs := []) (xs := []) (x := (.tup [])) (by kernel_rfl) nK (by kernel_rfl) ⟨rfl, G, hI, hO.zW⟩))

theorem JO (x0 : Int) (r : Int) (h0 : oX x0 = some r) : dJ Try.prog 88 [(dG .u64 x0)] (eI r) := by
  intro H0
  refine dH Try.func88 ?_
  have hO := aI.start H0
  unfold oX at h0
  refine aX aD 1 [] [(2, (eI (0 : Int)))] ?_
  refine dP (fun T H => ∃ x0 : Int, ∃ n2 : Int, Has T [(0, (dG .u64 x0)), (2, (eI n2))] ∧ aI ⟨H0, [], []⟩ H [] ∧ lI x0 n2 = some r) ?_ ?_
  · clear hO h0
    rintro T H ⟨x0, n2, hT, hO, h0⟩
    refine bD hT ?_
    clear hT
    unfold lI at h0
    refine dP (fun T H => ∃ x0 : Int, ∃ n2 : Int, Has T [(0, (dG .u64 x0)), (2, (eI n2))] ∧ aI ⟨H0, [], []⟩ H [] ∧ lA x0 n2 = some r) ?_ ?_
    · clear hO h0
      rintro T H ⟨x0, n2, hT, hO, h0⟩
      refine bD hT ?_
      clear hT
      unfold lA at h0
      refine dP (fun T H => ∃ x0 : Int, ∃ n2 : Int, Has T [(0, (dG .u64 x0)), (2, (eI n2))] ∧ aI ⟨H0, [], []⟩ H [] ∧ mN x0 n2 = some r) ?_ ?_
      · clear hO h0
        rintro T H ⟨x0, n2, hT, hO, h0⟩
        refine bD hT ?_
        clear hT
        unfold mN at h0
        refine aL ?_
        refine aW aD 7 ?_
        obtain ⟨c1, h0⟩ := bA h0
        refine oJ [0 ≤ (IntKind.u8.wrap x0) ∧ (IntKind.u8.wrap x0) < ((ByteArray.size (⟨#[0, 1, 2, 2, 3, 3, 3, 3, 4, 4, 4, 4, 4, 4, 4, 4, 5, 5, 5, 5, 5, 5, 5, 5, 5, 5, 5, 5, 5, 5, 5, 5, 6, 6, 6, 6, 6, 6, 6, 6, 6, 6, 6, 6, 6, 6, 6, 6, 6, 6, 6, 6, 6, 6, 6, 6, 6, 6, 6, 6, 6, 6, 6, 6, 7, 7, 7, 7, 7, 7, 7, 7, 7, 7, 7, 7, 7, 7, 7, 7, 7, 7, 7, 7, 7, 7, 7, 7, 7, 7, 7, 7, 7, 7, 7, 7, 7, 7, 7, 7, 7, 7, 7, 7, 7, 7, 7, 7, 7, 7, 7, 7, 7, 7, 7, 7, 7, 7, 7, 7, 7, 7, 7, 7, 7, 7, 7, 7, 8, 8, 8, 8, 8, 8, 8, 8, 8, 8, 8, 8, 8, 8, 8, 8, 8, 8, 8, 8, 8, 8, 8, 8, 8, 8, 8, 8, 8, 8, 8, 8, 8, 8, 8, 8, 8, 8, 8, 8, 8, 8, 8, 8, 8, 8, 8, 8, 8, 8, 8, 8, 8, 8, 8, 8, 8, 8, 8, 8, 8, 8, 8, 8, 8, 8, 8, 8, 8, 8, 8, 8, 8, 8, 8, 8, 8, 8, 8, 8, 8, 8, 8, 8, 8, 8, 8, 8, 8, 8, 8, 8, 8, 8, 8, 8, 8, 8, 8, 8, 8, 8, 8, 8, 8, 8, 8, 8, 8, 8, 8, 8, 8, 8, 8, 8, 8, 8, 8, 8, 8, 8, 8, 8, 8, 8, 8, 8]⟩ : ByteArray) : Nat) : Int)] ⟨c1, trivial⟩ ?_
        refine bH [(2, (eI (wR (n2 + (wR (bt (⟨#[0, 1, 2, 2, 3, 3, 3, 3, 4, 4, 4, 4, 4, 4, 4, 4, 5, 5, 5, 5, 5, 5, 5, 5, 5, 5, 5, 5, 5, 5, 5, 5, 6, 6, 6, 6, 6, 6, 6, 6, 6, 6, 6, 6, 6, 6, 6, 6, 6, 6, 6, 6, 6, 6, 6, 6, 6, 6, 6, 6, 6, 6, 6, 6, 7, 7, 7, 7, 7, 7, 7, 7, 7, 7, 7, 7, 7, 7, 7, 7, 7, 7, 7, 7, 7, 7, 7, 7, 7, 7, 7, 7, 7, 7, 7, 7, 7, 7, 7, 7, 7, 7, 7, 7, 7, 7, 7, 7, 7, 7, 7, 7, 7, 7, 7, 7, 7, 7, 7, 7, 7, 7, 7, 7, 7, 7, 7, 7, 8, 8, 8, 8, 8, 8, 8, 8, 8, 8, 8, 8, 8, 8, 8, 8, 8, 8, 8, 8, 8, 8, 8, 8, 8, 8, 8, 8, 8, 8, 8, 8, 8, 8, 8, 8, 8, 8, 8, 8, 8, 8, 8, 8, 8, 8, 8, 8, 8, 8, 8, 8, 8, 8, 8, 8, 8, 8, 8, 8, 8, 8, 8, 8, 8, 8, 8, 8, 8, 8, 8, 8, 8, 8, 8, 8, 8, 8, 8, 8, 8, 8, 8, 8, 8, 8, 8, 8, 8, 8, 8, 8, 8, 8, 8, 8, 8, 8, 8, 8, 8, 8, 8, 8, 8, 8, 8, 8, 8, 8, 8, 8, 8, 8, 8, 8, 8, 8, 8, 8, 8, 8, 8, 8, 8, 8, 8, 8]⟩ : ByteArray) (IntKind.u8.wrap x0)))))))] ?_
        refine bL ?_
        obtain rfl := oI h0
        exact aG (Q_r hO)
      refine aX aD 2 [] [(14, (aE (decide ((256 : Int) ≤ x0))))] ?_
      refine bJ h0 (fun h0 => ?_) (fun h0 => ?_)
      · refine aL ?_
        refine aW aD 3 ?_
        obtain ⟨c3, h0⟩ := bA h0
        refine oJ [0 ≤ (8 : Int)] ⟨c3, trivial⟩ ?_
        refine bH [(0, (dG .u64 (Int.fdiv x0 (2 ^ (min (Int.toNat (8 : Int)) 64))))), (2, (eI n2))] ?_
        refine aW aD 3 ?_
        refine bG ?_
        exact aG (aF (⟨rfl, _, _, .eq (by kernel_rfl), hO, h0⟩))
      refine bK ?_
      exact aG (aF (⟨rfl, _, _, .eq (by kernel_rfl), hO, h0⟩))
    refine aX aD 2 [] [(8, (aE (decide ((65536 : Int) ≤ x0))))] ?_
    refine bJ h0 (fun h0 => ?_) (fun h0 => ?_)
    · refine aL ?_
      refine aW aD 3 ?_
      obtain ⟨c5, h0⟩ := bA h0
      refine oJ [0 ≤ (16 : Int)] ⟨c5, trivial⟩ ?_
      refine bH [(0, (dG .u64 (Int.fdiv x0 (2 ^ (min (Int.toNat (16 : Int)) 64))))), (2, (eI n2))] ?_
      refine aW aD 3 ?_
      refine bG ?_
      exact aG (aF (⟨rfl, _, _, .eq (by kernel_rfl), hO, h0⟩))
    refine bK ?_
    exact aG (aF (⟨rfl, _, _, .eq (by kernel_rfl), hO, h0⟩))
  refine aX aD 2 [] [(4, (aE (decide ((4294967296 : Int) ≤ x0))))] ?_
  refine bJ h0 (fun h0 => ?_) (fun h0 => ?_)
  · refine aL ?_
    refine aW aD 3 ?_
    obtain ⟨c7, h0⟩ := bA h0
    refine oJ [0 ≤ (32 : Int)] ⟨c7, trivial⟩ ?_
    refine bH [(0, (dG .u64 (Int.fdiv x0 (2 ^ (min (Int.toNat (32 : Int)) 64)))))] ?_
    refine aW aD 1 ?_
    refine bG ?_
    exact aG (aF (⟨rfl, _, _, .eq (by kernel_rfl), hO, h0⟩))
  refine bK ?_
  exact aG (aF (⟨rfl, _, _, .eq (by kernel_rfl), hO, h0⟩))

theorem DT (x0 : Int) (r : Int) (h0 : kU x0 = some r) : dJ Try.prog 62 [(dG .u64 x0)] (eI r) := by
  intro H0
  refine dH Try.func62 ?_
  have hO := aI.start H0
  unfold kU at h0
  refine aX aD 1 [] [] ?_
  refine aL ?_
  refine nI (false) (fun hc1 => ?_) (fun hc1 => ?_)
  · cases hc1
  · refine bK ?_
    refine aG (aF ?_)
    refine aL ?_
    refine aW aD 3 ?_
    refine bU 1 ?_
    obtain ⟨x2, hx3, h0⟩ := aZ h0
    refine dQ (JO x0 _ hx3) hO ?_
    intro H hO
    refine bG ?_
    refine bH [(2, (eI x2))] ?_
    refine bL ?_
    obtain rfl := oI h0
    exact aG (Q_r hO)

theorem gH (x0 : Int) (y1 : Int) (r : Bool) (h0 : dU x0 y1 = some r) : dJ Try.prog 84 [(eI x0), (eI y1)] (aE r) := by
  intro H0
  refine dH Try.func84 ?_
  have hO := aI.start H0
  unfold dU at h0
  refine aX aD 1 [] [] ?_
  refine aL ?_
  refine aW aD 13 ?_
  refine bU 1 ?_
  obtain ⟨x1, hx2, h0⟩ := aZ h0
  refine dQ (uN x0 _ hx2) hO ?_
  intro H hO
  refine bU 4 ?_
  obtain ⟨x4, hx5, h0⟩ := aZ h0
  refine lX [(7, true)] 105 [(eI y1)] (aE x4) x1 (by kernel_rfl) (by kernel_rfl) (by kernel_rfl) (fun hb6 => (uN y1 _ (gV hx5 hb6))) hO ?_
  intro H hO
  refine bG ?_
  refine bH [(4, (aE ((x1 && (!x4)) || (decide (x0 < y1)))))] ?_
  refine bL ?_
  obtain rfl := oI h0
  exact aG (Q_r hO)

theorem xL (lo0p : Nat) (aA : (List Int)) (a1 : Int) (b2 : Int) (r : List Int) (h0 : iA aA a1 b2 = some r) : nX Try.prog 78 lo0p 1 (List.map (eI) aA) (List.map (eI) r) [(.msl 1 lo0p 0 (List.length aA)), (eI a1), (eI b2)] (.tup []) := by
  intro H0 hl0
  refine dH Try.func78 ?_
  have hO := aI.vH hl0
  clear hl0
  obtain ⟨N0, hN0⟩ : ∃ n, n = List.length aA := ⟨_, rfl⟩
  have hN : List.length aA = N0 := hN0.symm
  unfold iA at h0
  refine aX aD 3 [] [(6, (eI (wR (a1 + (1 : Int)))))] ?_
  refine cA 0 ?_
  refine eG [(0, (.msl 1 lo0p 0 (List.length aA))), (1, (eI a1)), (2, (eI b2)), (6, (eI (wR (a1 + (1 : Int)))))] ?_
  refine dY (fun T H => ∃ aA : List Int, ∃ i6 : Int, Has T [(0, (.msl 1 lo0p 0 (List.length aA))), (1, (eI a1)), (2, (eI b2)), (6, (eI i6))] ∧ aI ⟨H0, [lo0p], []⟩ H [(lo0p, 1, List.map (eI) aA)] ∧ List.length aA = N0 ∧ jR aA a1 b2 i6 = some r) ?_ ⟨aA, wR (a1 + (1 : Int)), .eq (by kernel_rfl), hO, hN, h0⟩
  clear hO hN h0
  rintro T H ⟨aA, i6, hT, hO, hN, h0⟩
  refine bD hT ?_
  clear hT
  unfold jR at h0
  obtain ⟨rr0, hl0, h0⟩ := aZ h0
  refine cR (by kernel_rfl) (fun (s : List Int × Int) T H => Has T [(0, (.msl 1 lo0p 0 (List.length s.1))), (1, (eI a1)), (2, (eI b2)), (6, (eI s.2))] ∧ aI ⟨H0, [lo0p], []⟩ H [(lo0p, 1, List.map (eI) s.1)] ∧ List.length s.1 = N0) hl0 ⟨.eq (by kernel_rfl), hO, hN⟩ ?_
  clear hO hN
  rintro k0 s out1 T H ⟨hT, hO, hN⟩ h1 ho0
  obtain ⟨aA, i6⟩ := s
  replace h1 : dW a1 b2 aA i6 = some out1 := h1
  try dsimp only at hT
  refine bD hT ?_
  clear hT
  unfold dW at h1
  refine aL ?_
  refine aX aD 3 [] [(12, (aE (decide (i6 < b2))))] ?_
  refine bJ h1 (fun h1 => ?_) (fun h1 => ?_)
  · refine bK ?_
    refine bH [(0, (.msl 1 lo0p 0 (List.length aA))), (1, (eI a1)), (2, (eI b2)), (6, (eI i6))] ?_
    refine dP (fun T H => ∃ aA : List Int, Has T [(0, (.msl 1 lo0p 0 (List.length aA))), (1, (eI a1)), (2, (eI b2)), (6, (eI i6))] ∧ aI ⟨H0, [lo0p], []⟩ H [(lo0p, 1, List.map (eI) aA)] ∧ List.length aA = N0 ∧ gT aA a1 b2 i6 = some out1) ?_ ?_
    · clear hO hN h1
      rintro T H ⟨aA, hT, hO, hN, h1⟩
      refine bD hT ?_
      clear hT
      unfold gT at h1
      refine aW aD 3 ?_
      refine bG ?_
      exact aG (aF (⟨rfl, _, (oI h1).symm, .eq (by kernel_rfl), hO, hN⟩))
    refine cA 1 ?_
    refine aX aD 2 [] [(7, (eI i6))] ?_
    refine cA 2 ?_
    refine eG [(0, (.msl 1 lo0p 0 (List.length aA))), (1, (eI a1)), (2, (eI b2)), (6, (eI i6)), (7, (eI i6))] ?_
    refine dY (fun T H => ∃ aA : List Int, ∃ j7 : Int, Has T [(0, (.msl 1 lo0p 0 (List.length aA))), (1, (eI a1)), (2, (eI b2)), (6, (eI i6)), (7, (eI j7))] ∧ aI ⟨H0, [lo0p], []⟩ H [(lo0p, 1, List.map (eI) aA)] ∧ List.length aA = N0 ∧ jO aA a1 b2 i6 j7 = some out1) ?_ ⟨aA, i6, .eq (by kernel_rfl), hO, hN, h1⟩
    clear hO hN h1
    rintro T H ⟨aA, j7, hT, hO, hN, h1⟩
    refine bD hT ?_
    clear hT
    unfold jO at h1
    obtain ⟨rr1, hl1, h1⟩ := aZ h1
    refine cR (by kernel_rfl) (fun (s : List Int × Int) T H => Has T [(0, (.msl 1 lo0p 0 (List.length s.1))), (1, (eI a1)), (2, (eI b2)), (6, (eI i6)), (7, (eI s.2))] ∧ aI ⟨H0, [lo0p], []⟩ H [(lo0p, 1, List.map (eI) s.1)] ∧ List.length s.1 = N0) hl1 ⟨.eq (by kernel_rfl), hO, hN⟩ ?_
    clear hO hN
    rintro k1 s out2 T H ⟨hT, hO, hN⟩ h2 ho1
    obtain ⟨aA, j7⟩ := s
    replace h2 : fL a1 b2 i6 aA j7 = some out2 := h2
    try dsimp only at hT
    refine bD hT ?_
    clear hT
    unfold fL at h2
    refine aL ?_
    refine aL ?_
    obtain ⟨c2, h2⟩ := bA h2
    obtain ⟨c3, h2⟩ := bA h2
    obtain ⟨x4, hx5, h2⟩ := aZ h2
    refine eS (eU []) aD 15 ?_
    refine mB (K := fun T H => Has (lift T) [(0, (.msl 1 lo0p 0 (List.length aA))), (1, (eI a1)), (2, (eI b2)), (6, (eI i6)), (7, (eI j7)), (30, (aE ((decide (a1 < j7)) && x4)))] ∧ aI ⟨H0, [lo0p], []⟩ H [(lo0p, 1, List.map (eI) aA)]) ?_ ?_
    · refine jZ 4 ?_
      refine kB (t := 19) (e := decide (a1 < j7)) (by kernel_rfl) (fun hg6 => ?_) (fun hg6 => ?_)
      · refine cI 7 [0 ≤ j7 ∧ j7 < (lN aA)] ⟨(c2 hg6), trivial⟩ ?_
        refine jG 0 lo0p 1 (0 + Int.toNat j7) (eI (gD aA j7)) (eI (gD aA j7)) (List.map (eI) aA) (by kernel_rfl) (by kernel_rfl) (by kernel_rfl) hO (by kernel_rfl) (cF (c2 hg6)) ?_
        refine cI 12 [0 ≤ (wR (j7 - (1 : Int))) ∧ (wR (j7 - (1 : Int))) < (lN aA)] ⟨(c3 hg6), trivial⟩ ?_
        refine jG 0 lo0p 1 (0 + Int.toNat (wR (j7 - (1 : Int)))) (eI (gD aA (wR (j7 - (1 : Int))))) (eI (gD aA (wR (j7 - (1 : Int))))) (List.map (eI) aA) (by kernel_rfl) (by kernel_rfl) (by kernel_rfl) hO (by kernel_rfl) (cF (c3 hg6)) ?_
        refine lZ 84 [(eI (gD aA j7)), (eI (gD aA (wR (j7 - (1 : Int)))))] (aE x4) (by kernel_rfl) (by kernel_rfl) (gH (gD aA j7) (gD aA (wR (j7 - (1 : Int)))) _ (gV hx5 hg6)) hO ?_
        intro H hO
        refine gK ?_
        exact ⟨⟨[(0, (.msl 1 lo0p 0 (List.length aA))), (1, (eI a1)), (2, (eI b2)), (6, (eI i6)), (7, (eI j7)), (30, (aE x4))], by kernel_rfl, rfl, ⟨aN.refl _, aN.refl _, aN.refl _, aN.refl _, aN.refl _, aN.eq (congrArg aE (gY hg6 rfl).symm), trivial⟩⟩, hO⟩
      refine gK ?_
      exact ⟨⟨[(0, (.msl 1 lo0p 0 (List.length aA))), (1, (eI a1)), (2, (eI b2)), (6, (eI i6)), (7, (eI j7)), (30, (aE false))], by kernel_rfl, rfl, ⟨aN.refl _, aN.refl _, aN.refl _, aN.refl _, aN.refl _, aN.eq (congrArg aE (gY hg6 rfl).symm), trivial⟩⟩, hO⟩
    · rintro T H ⟨hT, hO⟩
      refine dS hT ?_
      clear hT
      refine aG (aF ?_)
      refine bJ h2 (fun h2 => ?_) (fun h2 => ?_)
      · refine bK ?_
        refine bH [(0, (.msl 1 lo0p 0 (List.length aA))), (1, (eI a1)), (2, (eI b2)), (6, (eI i6)), (7, (eI j7))] ?_
        refine aL ?_
        refine cA 3 ?_
        refine eS (eU []) aD 18 ?_
        obtain ⟨c8, h2⟩ := bA h2
        refine cI 9 [0 ≤ (wR (j7 - (1 : Int))) ∧ (wR (j7 - (1 : Int))) < (lN aA)] ⟨c8, trivial⟩ ?_
        refine hU 0 lo0p 1 (0 + Int.toNat (wR (j7 - (1 : Int)))) (eI (gD aA (wR (j7 - (1 : Int))))) (eI (gD aA (wR (j7 - (1 : Int))))) (List.map (eI) aA) hO (cF c8) ?_
        obtain ⟨c9, h2⟩ := bA h2
        refine cI 13 [0 ≤ j7 ∧ j7 < (lN aA)] ⟨c9, trivial⟩ ?_
        refine hU 0 lo0p 1 (0 + Int.toNat j7) (eI (gD aA j7)) (eI (gD aA j7)) (List.map (eI) aA) hO (cF c9) ?_
        obtain ⟨c10, h2⟩ := bA h2
        refine cI 15 [0 ≤ j7 ∧ j7 < (lN aA)] ⟨c10, trivial⟩ ?_
        refine kV 0 lo0p 1 (0 + Int.toNat j7) (eI (gD aA j7)) (eI (gD aA (wR (j7 - (1 : Int))))) (List.map (eI) aA) [(lo0p, 1, List.map (eI) (List.set aA (Int.toNat j7) (gD aA (wR (j7 - (1 : Int))))))] hO (cF c10) (by simp only [List.set, iO]) ?_
        intro H hO
        replace hN : List.length (List.set aA (Int.toNat j7) (gD aA (wR (j7 - (1 : Int))))) = N0 := by simpa using hN
        obtain ⟨c11, h2⟩ := bA h2
        refine cI 17 [0 ≤ (wR (j7 - (1 : Int))) ∧ (wR (j7 - (1 : Int))) < (lN aA)] ⟨c11, trivial⟩ ?_
        refine kV 0 lo0p 1 (0 + Int.toNat (wR (j7 - (1 : Int)))) (eI (gD (List.set aA (Int.toNat j7) (gD aA (wR (j7 - (1 : Int))))) (wR (j7 - (1 : Int))))) (eI (gD aA j7)) (List.map (eI) (List.set aA (Int.toNat j7) (gD aA (wR (j7 - (1 : Int)))))) [(lo0p, 1, List.map (eI) (List.set (List.set aA (Int.toNat j7) (gD aA (wR (j7 - (1 : Int))))) (Int.toNat (wR (j7 - (1 : Int)))) (gD aA j7)))] hO (nR c11 (by simp [])) (by simp only [List.set, iO]) ?_
        intro H hO
        replace hN : List.length (List.set (List.set aA (Int.toNat j7) (gD aA (wR (j7 - (1 : Int))))) (Int.toNat (wR (j7 - (1 : Int)))) (gD aA j7)) = N0 := by simpa using hN
        refine nJ (by kernel_rfl) ?_
        refine dS (l := [(0, (.msl 1 lo0p 0 (List.length (List.set (List.set aA (Int.toNat j7) (gD aA (wR (j7 - (1 : Int))))) (Int.toNat (wR (j7 - (1 : Int)))) (gD aA j7))))), (1, (eI a1)), (2, (eI b2)), (6, (eI i6)), (7, (eI j7))]) ⟨[(0, (.msl 1 lo0p 0 (List.length aA))), (1, (eI a1)), (2, (eI b2)), (6, (eI i6)), (7, (eI j7))], by kernel_rfl, rfl, ⟨aN.eq (by simp []), aN.refl _, aN.refl _, aN.refl _, aN.refl _, trivial⟩⟩ ?_
        refine aG (aY (aF (?_)))
        refine aW aD 3 ?_
        refine bG ?_
        exact aG (aF (⟨rfl, _, (oI h2).symm, .eq (by kernel_rfl), hO, hN⟩))
      refine eR 2 ?_
      obtain rfl := oI h2
      obtain rfl : _ = rr1 := ho1
      replace h1 : gT aA a1 b2 i6 = some out1 := h1
      exact aG (aV (aV (bS (aY (aF (⟨rfl, _, .eq (by kernel_rfl), hO, hN, h1⟩))))))
  refine eR 0 ?_
  obtain rfl := oI h1
  obtain rfl : _ = rr0 := ho0
  replace h0 : some aA = some r := h0
  obtain rfl := oI h0
  exact aG (aV (aV (bS (zI (x := (.tup [])) (by kernel_rfl) (aN.refl _) ⟨rfl, hO.ext, hO.at 0 (by kernel_rfl), by first | rfl | (simp only [List.length_map]; exact hN.trans hN0)⟩))))

end Go.Abs
